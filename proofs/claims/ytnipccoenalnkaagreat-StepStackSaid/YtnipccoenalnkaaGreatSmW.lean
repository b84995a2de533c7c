/- Layer 10: memory, of layer 9: stores come into memory. -/
import Derived.Test.YtnipccoenalnkaaGreatSmG
namespace Go.Proofs.YtnipccoenalnkaaGreat
open Go Go.Proofs.YtnipccoenalnkaaGreat.Ab
set_option linter.unusedVariables false
set_option linter.unusedSimpArgs false
set_option maxRecDepth 100000
noncomputable section
/-! ### areas but for their bytes -/
def Ar.shape (a : Ar) : Int × Option Sl × Bool × Bool × Int := (a.lo, a.sl, a.wr, a.pr, a.ow)
def shapes (ars : List Ar) : List (Int × Option Sl × Bool × Bool × Int) := ars.map Ar.shape
theorem shape_iff {a c : Ar} (h : a.shape = c.shape) : a.lo = c.lo ∧ a.sl = c.sl ∧ a.wr = c.wr ∧ a.pr = c.pr ∧ a.ow = c.ow := by
  simp only [Ar.shape, Prod.mk.injEq] at h; exact h
theorem has_shape {a c : Ar} (h : a.shape = c.shape) (x : Int) : a.has x = c.has x := by
  obtain ⟨h1, h2, _⟩ := shape_iff h
  unfold Ar.has; rw [h1, h2]
theorem find_shape (x : Int) : ∀ (l m : List Ar) (i : Nat), shapes l = shapes m → findFrom x l i = findFrom x m i
  | [], [], i, _ => rfl
  | [], _ :: _, i, h => by simp [shapes] at h
  | _ :: _, [], i, h => by simp [shapes] at h
  | a :: l, c :: m, i, h => by
    simp only [shapes, List.map_cons, List.cons.injEq] at h
    unfold findFrom
    rw [has_shape h.1 x, find_shape x l m (i + 1) h.2]
theorem findA_shape {l m : List Ar} (h : shapes l = shapes m) (x : Int) : findA l x = findA m x := find_shape x l m 0 h
theorem shape_at {l m : List Ar} (h : shapes l = shapes m) (k : Nat) : (l[k]?).map Ar.shape = (m[k]?).map Ar.shape := by
  rw [← List.getElem?_map, ← List.getElem?_map]
  exact congrArg (·[k]?) h
theorem there_shape {l m : List Ar} (h : shapes l = shapes m) (t x : Int) (w : Bool) : thereA l t x w = thereA m t x w := by
  unfold thereA
  rw [findA_shape h x]
  have := shape_at h (findA m x).toNat
  cases h1 : l[(findA m x).toNat]? with
  | none =>
    rw [h1] at this
    cases h2 : m[(findA m x).toNat]? with
    | none => rfl
    | some c => rw [h2] at this; simp at this
  | some a =>
    rw [h1] at this
    cases h2 : m[(findA m x).toNat]? with
    | none => rw [h2] at this; simp at this
    | some c =>
      rw [h2] at this
      obtain ⟨e1, e2, e3, e4, e5⟩ := shape_iff (Option.some.inj this)
      dsimp only
      rw [e3, e4, e5]
theorem all_shape {l m : List Ar} (h : shapes l = shapes m) (t x : Int) (w : Bool) : ∀ n i, allThere l t x w i n = allThere m t x w i n
  | 0, _ => rfl
  | n + 1, i => by unfold allThere; rw [there_shape h, all_shape h t x w n (i + 1)]
theorem may_shape {l m : List Ar} (h : shapes l = shapes m) (t x w : Int) (wr : Bool) : mayA l t x w wr = mayA m t x w wr := by
  unfold mayA; rw [all_shape h]
theorem shape_set {ars : List Ar} {k : Nat} {a c : Ar} (hk : ars[k]? = some a) (h : c.shape = a.shape) : shapes (ars.set k c) = shapes ars := by
  unfold shapes
  rw [List.map_set, h]
  refine List.ext_getElem? fun j => ?_
  by_cases e : k = j
  · subst e
    have hl := (List.getElem?_eq_some_iff.1 hk).1
    rw [List.getElem?_set_self (by simpa using hl), List.getElem?_map, hk]; rfl
  · rw [List.getElem?_set_ne e]
theorem OS.same {α : Type} {n : Nat} {E : α → List Cell} {H : Heap} {s : Option Sl} {l m : List α} (h : OS n E H s l) (hl : l.length = m.length) (he : l.flatMap E = m.flatMap E) : OS n E H s m := by
  cases s with
  | none =>
    have h : l = [] := h
    rw [h] at hl
    exact List.eq_nil_of_length_eq_zero hl.symm
  | some sl =>
    obtain ⟨h1, h2, h3, row, h4, h5, h6⟩ := h
    exact ⟨by rw [h1, hl], h2, h3, row, h4, h5, fun i c e => h6 i c (by rw [he]; exact e)⟩
theorem flat_shape {l m : List Ar} (h : shapes l = shapes m) : l.flatMap E5 = m.flatMap E5 := by
  have : ∀ l : List Ar, l.flatMap E5 = (shapes l).flatMap fun p => [.int .u64 p.1, .slice p.2.1, .bool p.2.2.1, .bool p.2.2.2.1, .int .i64 p.2.2.2.2] := fun l => by
    unfold shapes
    rw [List.flatMap_map]; rfl
  rw [this, this, h]
theorem len_shape {l m : List Ar} (h : shapes l = shapes m) : l.length = m.length := by
  have := congrArg List.length h
  simpa [shapes] using this
theorem id_shape {b : Nat} {s : Option Sl} {l m : List Ar} {rs : List (Option Sl)} (h : shapes l = shapes m) (x : Slot) : idAt b s l rs x = idAt b s m rs x := by
  cases x with
  | dt k =>
    simp only [idAt]
    have := shape_at h k
    cases h1 : l[k]? with
    | none =>
      rw [h1] at this
      cases h2 : m[k]? with
      | none => rfl
      | some c => rw [h2] at this; simp at this
    | some a =>
      rw [h1] at this
      cases h2 : m[k]? with
      | none => rw [h2] at this; simp at this
      | some c =>
        rw [h2] at this
        simp only [Option.bind_some]
        rw [(shape_iff (Option.some.inj this)).2.1]
  | _ => rfl
/-! ### what a step of memory moves: its own blocks alone -/
def InM (b : Nat) (s : Option Sl) (ars : List Ar) (rs : List (Option Sl)) (i : Nat) : Prop := ∃ x, idAt b s ars rs x = some i
structure Stp (b : Nat) (s : Option Sl) (ars : List Ar) (rs : List (Option Sl)) (ars' : List Ar) (rs' : List (Option Sl)) (H H' : Heap) : Prop where
  k : Kp (InM b s ars rs) H H'
  ids : ∀ i, InM b s ars' rs' i → InM b s ars rs i ∨ H.length ≤ i
theorem Stp.no {b : Nat} {s : Option Sl} {ars : List Ar} {rs : List (Option Sl)} {H H' : Heap} (k : Kp No H H') : Stp b s ars rs ars rs H H' := ⟨k.mono fun i _ hf => absurd hf (fun h => h), fun i h => .inl h⟩
theorem Stp.trans {b : Nat} {s : Option Sl} {a0 a1 a2 : List Ar} {r0 r1 r2 : List (Option Sl)} {H0 H1 H2 : Heap} (p : Stp b s a0 r0 a1 r1 H0 H1) (q : Stp b s a1 r1 a2 r2 H1 H2) : Stp b s a0 r0 a2 r2 H0 H2 := by
  refine ⟨p.k.trans q.k (fun _ h => h) fun i hi hf => ?_, fun i h => ?_⟩
  · rcases p.ids i hf with e | e
    · exact e
    · omega
  · rcases q.ids i h with e | e
    · exact p.ids i e
    · exact .inr (Nat.le_trans p.k.len e)
theorem MRg.other {H H' : Heap} {F : Nat → Prop} {b L : Nat} {s : Option Sl} {ars : List Ar} {rs : List (Option Sl)} {β : Type} {en : Nat} {eE : β → List Cell} {rows : List (List β)} (h : MRg en eE H b L s ars rs rows) (k : Kp F H H') (hd : ∀ i, InM b s ars rs i → ¬ F i) : MRg en eE H' b L s ars rs rows :=
  ⟨k.at h.hd (hd b ⟨.hd, rfl⟩), OS.other h.ar k fun i hi => hd i ⟨.ar, hi⟩, fun j a e => OS.other (h.dt j a e) k fun i hi => hd i ⟨.dt j, by simp only [idAt, e, Option.bind_some]; exact hi⟩,
    fun t r l e f => OS.other (h.ro t r l e f) k fun i hi => hd i ⟨.row t, by simp only [idAt, e, Option.bind_some]; exact hi⟩, h.rl, h.rw, h.inj, h.ge, fun x i e => Nat.lt_of_lt_of_le (h.lt x i e) k.len⟩
theorem Stp.le {H H' : Heap} {b L : Nat} {s : Option Sl} {ars ars' : List Ar} {rs rs' : List (Option Sl)} {β : Type} {en : Nat} {eE : β → List Cell} {rows : List (List β)} (p : Stp b s ars rs ars' rs' H H') (h : MRg en eE H b L s ars rs rows) : Kp (fun i => L ≤ i) H H' :=
  p.k.mono fun i _ ⟨x, e⟩ => h.ge x i e
/-! ### one byte -/
def u8v (z : Int) : UInt8 := UInt8.ofNat z.toNat
theorem u8v_eq {z : Int} (h0 : 0 ≤ z) (h1 : z < 256) : ((u8v z).toNat : Int) = z := by
  unfold u8v
  rw [UInt8.toNat_ofNat']
  omega
theorem MRg.byte {H : Heap} {b L : Nat} {s : Option Sl} {ars : List Ar} {rs : List (Option Sl)} {β : Type} {en : Nat} {eE : β → List Cell} {rows : List (List β)} (h : MRg en eE H b L s ars rs rows) {k : Nat} {a : Ar} (hk : ars[k]? = some a) {i : Nat} (hi : i < a.data.length) (c : UInt8) :
    ∃ sd H', a.sl = some sd ∧ H.put sd.id (sd.off + ((i : Nat) : Int).toNat * 1) [Cell.int .u8 (c.toNat : Int)] = some H' ∧ MRg en eE H' b L s (ars.set k { a with data := a.data.set i c }) rs rows ∧ Stp b s ars rs (ars.set k { a with data := a.data.set i c }) rs H H' := by
  have hd := h.dt k a hk
  obtain ⟨sd, hsl⟩ : ∃ sd, a.sl = some sd := by
    cases e : a.sl with
    | some sd => exact ⟨sd, rfl⟩
    | none =>
      rw [e] at hd
      have hd : a.data = [] := hd
      rw [hd] at hi; simp at hi
  · rw [hsl] at hd
    obtain ⟨H', e1, e2, e3, e4⟩ := OS.put E8_len hd (i := i) (j := 0) (x := a.data[i]) (y := c) (vs := [Cell.int .u8 (c.toNat : Int)]) (List.getElem?_eq_getElem hi) (by simp) rfl
    have hsh : shapes (ars.set k { a with data := a.data.set i c }) = shapes ars := shape_set hk rfl
    have hidk : idAt b s ars rs (.dt k) = some sd.id := by simp only [idAt, hk, Option.bind_some, hsl]; rfl
    have hid : ∀ x : Slot, x ≠ .dt k → ∀ i, idAt b s ars rs x = some i → i ≠ sd.id := by
      rintro x hx i hi rfl
      exact hx (h.inj x (.dt k) sd.id hi hidk)
    refine ⟨sd, H', hsl, e1, ⟨?_, ?_, ?_, ?_, h.rl, h.rw, ?_, ?_, ?_⟩, e3.mono fun i _ hf => ?_, fun i hi => ?_⟩
    · exact e3.at h.hd fun hf => hid .hd (by intro x; cases x) b rfl hf
    · exact OS.same (OS.other h.ar e3 fun i hi hf => hid .ar (by intro x; cases x) i hi hf) (len_shape hsh).symm (flat_shape hsh).symm
    · intro j d hj
      rcases set_at hj with ⟨rfl, rfl, _⟩ | ⟨hne, hj⟩
      · show OS 1 E8 H' a.sl (a.data.set i c)
        rw [hsl]; exact e2
      · exact OS.other (h.dt j d hj) e3 fun i hi hf => hid (.dt j) (by intro x; cases x; exact hne rfl) i (by simp only [idAt, hj, Option.bind_some]; exact hi) hf
    · intro t r l hr hl
      exact OS.other (h.ro t r l hr hl) e3 fun i hi hf => hid (.row t) (by intro x; cases x) i (by simp only [idAt, hr, Option.bind_some]; exact hi) hf
    · intro x y i hx hy
      rw [id_shape hsh] at hx hy
      exact h.inj x y i hx hy
    · intro x i hx; rw [id_shape hsh] at hx; exact h.ge x i hx
    · intro x i hx; rw [id_shape hsh] at hx; rw [e4]; exact h.lt x i hx
    · have : i = sd.id := hf
      rw [this]; exact ⟨_, hidk⟩
    · obtain ⟨x, hx⟩ := hi
      rw [id_shape hsh] at hx
      exact .inl ⟨x, hx⟩
/-! ### a store -/
def byteOf (v : Int) (i : Nat) : Int := IntKind.u8.wrap (ishr .u64 v (IntKind.u64.wrap (8 * (i : Int))))
def wr1 (ars : List Ar) (x : Int) (c : UInt8) : List Ar :=
  match ars[(findA ars x).toNat]? with
  | some a => ars.set (findA ars x).toNat { a with data := a.data.set (IntKind.u64.wrap (x - a.lo)).toNat c }
  | none => ars
theorem wr1_shape (ars : List Ar) (x : Int) (c : UInt8) : shapes (wr1 ars x c) = shapes ars := by
  unfold wr1
  cases h : ars[(findA ars x).toNat]? with
  | none => rfl
  | some a => exact shape_set h rfl
def writeN (ars : List Ar) (x v : Int) : Nat → Nat → List Ar
  | _, 0 => ars
  | i, n + 1 => writeN (wr1 ars (IntKind.u64.wrap (x + (i : Int))) (u8v (byteOf v i))) x v (i + 1) n
theorem writeN_shape (x v : Int) : ∀ (n i : Nat) (ars : List Ar), shapes (writeN ars x v i n) = shapes ars
  | 0, _, _ => rfl
  | n + 1, i, ars => by unfold writeN; rw [writeN_shape x v n (i + 1), wr1_shape]
/-- All bytes of a place are in areas. -/
def Found (ars : List Ar) (x : Int) (i n : Nat) : Prop := ∀ j, i ≤ j → j < i + n → ∃ (k : Nat) (a : Ar), ars[k]? = some a ∧ a.has (IntKind.u64.wrap (x + (j : Int))) = true ∧ findA ars (IntKind.u64.wrap (x + (j : Int))) = (k : Int)
theorem found_shape {l m : List Ar} (h : shapes l = shapes m) {x : Int} {i n : Nat} (hf : Found l x i n) : Found m x i n := fun j h1 h2 => by
  obtain ⟨k, a, e1, e2, e3⟩ := hf j h1 h2
  have := shape_at h k
  rw [e1] at this
  cases h3 : m[k]? with
  | none => rw [h3] at this; simp at this
  | some c =>
    rw [h3] at this
    exact ⟨k, c, h3, by rw [← has_shape (Option.some.inj this)]; exact e2, by rw [← findA_shape h]; exact e3⟩
theorem found_all {ars : List Ar} {t x : Int} {w : Bool} : ∀ {n i : Nat}, allThere ars t x w i n = true → Found ars x i n
  | 0, i, _ => fun j h1 h2 => by omega
  | n + 1, i, h => fun j h1 h2 => by
    unfold allThere at h
    simp only [Bool.and_eq_true] at h
    by_cases e : j = i
    · subst e; exact there_find h.1
    · exact found_all h.2 j (by omega) (by omega)
theorem u8_range (z : Int) : 0 ≤ IntKind.u8.wrap z ∧ IntKind.u8.wrap z < 256 := by
  simp [IntKind.wrap, IntKind.bits, IntKind.signed]
  omega
theorem loop83 {b L : Nat} {s : Option Sl} {rs : List (Option Sl)} {rows : List (List Sto)} (x w v : Int) (N : Nat) (hN : N ≤ 8) : ∀ (m n i : Nat) (ars : List Ar) (H : Heap), MR H b L s ars rs rows → ars.length ≤ 1000 → (∀ a, a ∈ ars → a.data.length ≤ 1048576) → i + m = N → Found ars x i m →
    ∃ H', (D83_2 (n + m + 1) (some (b, 0)) (N : Int) (i : Int) x w v H).bind J83_2 = some ((), H') ∧ MR H' b L s (writeN ars x v i m) rs rows ∧ Stp b s ars rs (writeN ars x v i m) rs H H'
  | 0, n, i, ars, H, h, hn, hd, hm, hf => by
    have g : decide ((i : Int) < (N : Int)) = false := by simp; omega
    refine ⟨H, by rw [D83_2_s, g, cf, Ab.bs, J83_2_0], h, Stp.no (Kp.refl _ _)⟩
  | m + 1, n, i, ars, H, h, hn, hd, hm, hf => by
    have g : decide ((i : Int) < (N : Int)) = true := by simp; omega
    obtain ⟨k, a, f1, f2, f3⟩ := hf i (Nat.le_refl _) (by omega)
    obtain ⟨H1, e1, e2⟩ := f138_x (b, 0) ars (IntKind.u64.wrap (x + (i : Int))) H (h.rd (by omega))
    have m1 := h.no e2
    have gs : H.get b (0 + 0) = some (.slice s) := by rw [get_of h.hd]; rfl
    have sm : same b H H1 = true := e2.same1 (lt_of h.hd)
    obtain ⟨sl, rfl, g1, c0, c1, c2, c3, c4⟩ := gets5 m1.ar.rs f1
    have hda := hd a (List.mem_of_getElem? f1)
    obtain ⟨sd, d1, d2, d3⟩ := data_get m1 f1 f2 (by omega) f3
    obtain ⟨j, hj⟩ : ∃ j : Nat, IntKind.u64.wrap (IntKind.u64.wrap (x + (i : Int)) - a.lo) = (j : Int) := Int.eq_ofNat_of_zero_le (by rw [wrap_u64]; exact Int.emod_nonneg _ (by decide))
    have hlt : j < a.data.length := by
      unfold Ar.has at f2
      rw [(m1.dt k a f1).rs.slenEq, hj] at f2
      have f2 := of_decide_eq_true f2
      rw [wrap_u64] at f2
      omega
    obtain ⟨sd', H2, p1, p2, p3, p4⟩ := m1.byte f1 hlt (u8v (byteOf v i))
    rw [d1] at p1; cases p1
    have hw1 : wr1 ars (IntKind.u64.wrap (x + (i : Int))) (u8v (byteOf v i)) = ars.set k { a with data := a.data.set j (u8v (byteOf v i)) } := by
      unfold wr1
      rw [f3]
      have e4 : ars[((k : Nat) : Int).toNat]? = some a := f1
      rw [e4]
      dsimp only
      rw [hj]; rfl
    have hsh := wr1_shape ars (IntKind.u64.wrap (x + (i : Int))) (u8v (byteOf v i))
    have hd2 : ∀ c, c ∈ wr1 ars (IntKind.u64.wrap (x + (i : Int))) (u8v (byteOf v i)) → c.data.length ≤ 1048576 := fun c hc => by
      rw [hw1] at hc
      obtain ⟨q, hq⟩ := List.mem_iff_getElem?.1 hc
      rcases set_at hq with ⟨_, rfl, _⟩ | ⟨_, hq⟩
      · simpa using hda
      · exact hd c (List.mem_of_getElem? hq)
    rw [← hw1] at p3 p4
    obtain ⟨H3, r1, r2, r3⟩ := loop83 x w v N hN m n (i + 1) _ H2 p3 (by rw [len_shape hsh]; exact hn) hd2 (by omega) (found_shape hsh.symm fun q h1 h2 => hf q (by omega) (by omega))
    refine ⟨H3, ?_, r2, ((Stp.no e2).trans p4).trans r3⟩
    rw [show n + (m + 1) + 1 = (n + m + 1) + 1 by omega, D83_2_s, g]
    have hb : IntKind.u8.wrap (ishr .u64 v (IntKind.u64.wrap (8 * (i : Int)))) = ((u8v (byteOf v i)).toNat : Int) := (u8v_eq (u8_range _).1 (u8_range _).2).symm
    simp only [ct, Ab.bs, gs, tSlice, e1, sm, f3, g1, c0, c1, c2, c3, c4, tInt, tBool, u64_nn, cf, d1, d2]
    rw [hb, hj, p2, Ab.bs, u64_succ i (by omega)]
    exact r1
/-- A store comes into memory. -/
theorem f83_x {H : Heap} {b L : Nat} {s : Option Sl} {ars : List Ar} {rs : List (Option Sl)} {rows : List (List Sto)} (h : MR H b L s ars rs rows) (hn : ars.length ≤ 1000) (hd : ∀ a, a ∈ ars → a.data.length ≤ 1048576) (x w v : Int) (hw : isW8 w = true) (hf : Found ars x 0 w.toNat) :
    ∃ H', f83 (some (b, 0)) x w v H = some ((), H') ∧ MR H' b L s (writeN ars x v 0 w.toNat) rs rows ∧ Stp b s ars rs (writeN ars x v 0 w.toNat) rs H H' := by
  rw [q83]
  have hw := isW8_w hw
  have e1 : IntKind.u64.wrap w = ((w.toNat : Nat) : Int) := by rw [wrap_u64]; omega
  obtain ⟨n, e⟩ := LL83_2_of w.toNat (by omega) (some (b, 0)) (IntKind.u64.wrap w) 0 x w v H
  obtain ⟨H', r⟩ := loop83 x w v w.toNat (by omega) w.toNat n 0 ars H h hn hd (by omega) hf
  refine ⟨H', ?_, r.2⟩
  rw [e, e1]
  exact r.1
end
end Go.Proofs.YtnipccoenalnkaaGreat
