/- Layer 10: memory, of layer 9: stores come into memory. -/
import Derived.Test.YtnipccoenalnkaaGreatSmG
namespace Go.Proofs.YtnipccoenalnkaaGreat
open Go Go.Proofs.YtnipccoenalnkaaGreat.Ab
set_option linter.unusedVariables false
set_option linter.unusedSimpArgs false
set_option maxRecDepth 100000
noncomputable section
/-! ### areas but for their bytes -/
def Ar.shape (a : Ar) : Int × Option Sl × Bool × Bool × Int := (a.lo, a.sl, a.wr, a.pr, a.ow)
def shapes (ars : List Ar) : List (Int × Option Sl × Bool × Bool × Int) := ars.map Ar.shape
theorem shape_iff {a c : Ar} (h : a.shape = c.shape) : a.lo = c.lo ∧ a.sl = c.sl ∧ a.wr = c.wr ∧ a.pr = c.pr ∧ a.ow = c.ow := by
  simp only [Ar.shape, Prod.mk.injEq] at h; exact h
theorem has_shape {a c : Ar} (h : a.shape = c.shape) (x : Int) : a.has x = c.has x := by
  obtain ⟨h1, h2, _⟩ := shape_iff h
  unfold Ar.has; rw [h1, h2]
theorem find_shape (x : Int) : ∀ (l m : List Ar) (i : Nat), shapes l = shapes m → findFrom x l i = findFrom x m i
  | [], [], i, _ => rfl
  | [], _ :: _, i, h => by simp [shapes] at h
  | _ :: _, [], i, h => by simp [shapes] at h
  | a :: l, c :: m, i, h => by
    simp only [shapes, List.map_cons, List.cons.injEq] at h
    unfold findFrom
    rw [has_shape h.1 x, find_shape x l m (i + 1) h.2]
theorem findA_shape {l m : List Ar} (h : shapes l = shapes m) (x : Int) : findA l x = findA m x := find_shape x l m 0 h
theorem shape_at {l m : List Ar} (h : shapes l = shapes m) (k : Nat) : (l[k]?).map Ar.shape = (m[k]?).map Ar.shape := by
  rw [← List.getElem?_map, ← List.getElem?_map]
  exact congrArg (·[k]?) h
theorem shape_set {ars : List Ar} {k : Nat} {a c : Ar} (hk : ars[k]? = some a) (h : c.shape = a.shape) : shapes (ars.set k c) = shapes ars := by
  unfold shapes
  rw [List.map_set, h]
  refine List.ext_getElem? fun j => ?_
  by_cases e : k = j
  · subst e
    have hl := (List.getElem?_eq_some_iff.1 hk).1
    rw [List.getElem?_set_self (by simpa using hl), List.getElem?_map, hk]; rfl
  · rw [List.getElem?_set_ne e]
theorem OS.same {α : Type} {n : Nat} {E : α → List Cell} {H : Heap} {s : Option Sl} {l m : List α} (h : OS n E H s l) (hl : l.length = m.length) (he : l.flatMap E = m.flatMap E) : OS n E H s m := by
  cases s with
  | none =>
    have h : l = [] := h
    rw [h] at hl
    exact List.eq_nil_of_length_eq_zero hl.symm
  | some sl =>
    obtain ⟨h1, h2, h3, row, h4, h5, h6⟩ := h
    exact ⟨by rw [h1, hl], h2, h3, row, h4, h5, fun i c e => h6 i c (by rw [he]; exact e)⟩
theorem flat_shape {l m : List Ar} (h : shapes l = shapes m) : l.flatMap E5 = m.flatMap E5 := by
  have : ∀ l : List Ar, l.flatMap E5 = (shapes l).flatMap fun p => [.int .u64 p.1, .slice p.2.1, .bool p.2.2.1, .bool p.2.2.2.1, .int .i64 p.2.2.2.2] := fun l => by
    unfold shapes
    rw [List.flatMap_map]; rfl
  rw [this, this, h]
theorem len_shape {l m : List Ar} (h : shapes l = shapes m) : l.length = m.length := by
  have := congrArg List.length h
  simpa [shapes] using this
theorem id_shape {b : Nat} {s : Option Sl} {l m : List Ar} {rs : List (Option Sl)} (h : shapes l = shapes m) (x : Slot) : idAt b s l rs x = idAt b s m rs x := by
  cases x with
  | dt k =>
    simp only [idAt]
    have := shape_at h k
    cases h1 : l[k]? with
    | none =>
      rw [h1] at this
      cases h2 : m[k]? with
      | none => rfl
      | some c => rw [h2] at this; simp at this
    | some a =>
      rw [h1] at this
      cases h2 : m[k]? with
      | none => rw [h2] at this; simp at this
      | some c =>
        rw [h2] at this
        simp only [Option.bind_some]
        rw [(shape_iff (Option.some.inj this)).2.1]
  | _ => rfl
/-! ### what a step of memory moves: its own blocks alone -/
def InM (b : Nat) (s : Option Sl) (ars : List Ar) (rs : List (Option Sl)) (i : Nat) : Prop := ∃ x, idAt b s ars rs x = some i
structure Stp (b : Nat) (s : Option Sl) (ars : List Ar) (rs : List (Option Sl)) (ars' : List Ar) (rs' : List (Option Sl)) (H H' : Heap) : Prop where
  k : Kp (InM b s ars rs) H H'
  ids : ∀ i, InM b s ars' rs' i → InM b s ars rs i ∨ H.length ≤ i
theorem Stp.no {b : Nat} {s : Option Sl} {ars : List Ar} {rs : List (Option Sl)} {H H' : Heap} (k : Kp No H H') : Stp b s ars rs ars rs H H' := ⟨k.mono fun i _ hf => absurd hf (fun h => h), fun i h => .inl h⟩
theorem Stp.trans {b : Nat} {s : Option Sl} {a0 a1 a2 : List Ar} {r0 r1 r2 : List (Option Sl)} {H0 H1 H2 : Heap} (p : Stp b s a0 r0 a1 r1 H0 H1) (q : Stp b s a1 r1 a2 r2 H1 H2) : Stp b s a0 r0 a2 r2 H0 H2 := by
  refine ⟨p.k.trans q.k (fun _ h => h) fun i hi hf => ?_, fun i h => ?_⟩
  · rcases p.ids i hf with e | e
    · exact e
    · omega
  · rcases q.ids i h with e | e
    · exact p.ids i e
    · exact .inr (Nat.le_trans p.k.len e)
theorem MRg.other {H H' : Heap} {F : Nat → Prop} {b L : Nat} {s : Option Sl} {ars : List Ar} {rs : List (Option Sl)} {β : Type} {en : Nat} {eE : β → List Cell} {rows : List (List β)} (h : MRg en eE H b L s ars rs rows) (k : Kp F H H') (hd : ∀ i, InM b s ars rs i → ¬ F i) : MRg en eE H' b L s ars rs rows :=
  ⟨k.at h.hd (hd b ⟨.hd, rfl⟩), OS.other h.ar k fun i hi => hd i ⟨.ar, hi⟩, fun j a e => OS.other (h.dt j a e) k fun i hi => hd i ⟨.dt j, by simp only [idAt, e, Option.bind_some]; exact hi⟩,
    fun t r l e f => OS.other (h.ro t r l e f) k fun i hi => hd i ⟨.row t, by simp only [idAt, e, Option.bind_some]; exact hi⟩, h.rl, h.rw, h.inj, h.ge, fun x i e => Nat.lt_of_lt_of_le (h.lt x i e) k.len⟩
theorem Stp.le {H H' : Heap} {b L : Nat} {s : Option Sl} {ars ars' : List Ar} {rs rs' : List (Option Sl)} {β : Type} {en : Nat} {eE : β → List Cell} {rows : List (List β)} (p : Stp b s ars rs ars' rs' H H') (h : MRg en eE H b L s ars rs rows) : Kp (fun i => L ≤ i) H H' :=
  p.k.mono fun i _ ⟨x, e⟩ => h.ge x i e
/-! ### one byte -/
def u8v (z : Int) : UInt8 := UInt8.ofNat z.toNat
theorem u8v_eq {z : Int} (h0 : 0 ≤ z) (h1 : z < 256) : ((u8v z).toNat : Int) = z := by
  unfold u8v
  rw [UInt8.toNat_ofNat']
  omega
theorem MRg.byte {H : Heap} {b L : Nat} {s : Option Sl} {ars : List Ar} {rs : List (Option Sl)} {β : Type} {en : Nat} {eE : β → List Cell} {rows : List (List β)} (h : MRg en eE H b L s ars rs rows) {k : Nat} {a : Ar} (hk : ars[k]? = some a) {i : Nat} (hi : i < a.data.length) (c : UInt8) :
    ∃ sd H', a.sl = some sd ∧ H.put sd.id (sd.off + ((i : Nat) : Int).toNat * 1) [Cell.int .u8 (c.toNat : Int)] = some H' ∧ MRg en eE H' b L s (ars.set k { a with data := a.data.set i c }) rs rows ∧ Stp b s ars rs (ars.set k { a with data := a.data.set i c }) rs H H' := by
  have hd := h.dt k a hk
  obtain ⟨sd, hsl⟩ : ∃ sd, a.sl = some sd := by
    cases e : a.sl with
    | some sd => exact ⟨sd, rfl⟩
    | none =>
      rw [e] at hd
      have hd : a.data = [] := hd
      rw [hd] at hi; simp at hi
  · rw [hsl] at hd
    obtain ⟨H', e1, e2, e3, e4⟩ := OS.put E8_len hd (i := i) (j := 0) (x := a.data[i]) (y := c) (vs := [Cell.int .u8 (c.toNat : Int)]) (List.getElem?_eq_getElem hi) (by simp) rfl
    have hsh : shapes (ars.set k { a with data := a.data.set i c }) = shapes ars := shape_set hk rfl
    have hidk : idAt b s ars rs (.dt k) = some sd.id := by simp only [idAt, hk, Option.bind_some, hsl]; rfl
    have hid : ∀ x : Slot, x ≠ .dt k → ∀ i, idAt b s ars rs x = some i → i ≠ sd.id := by
      rintro x hx i hi rfl
      exact hx (h.inj x (.dt k) sd.id hi hidk)
    refine ⟨sd, H', hsl, e1, ⟨?_, ?_, ?_, ?_, h.rl, h.rw, ?_, ?_, ?_⟩, e3.mono fun i _ hf => ?_, fun i hi => ?_⟩
    · exact e3.at h.hd fun hf => hid .hd (by intro x; cases x) b rfl hf
    · exact OS.same (OS.other h.ar e3 fun i hi hf => hid .ar (by intro x; cases x) i hi hf) (len_shape hsh).symm (flat_shape hsh).symm
    · intro j d hj
      rcases set_at hj with ⟨rfl, rfl, _⟩ | ⟨hne, hj⟩
      · show OS 1 E8 H' a.sl (a.data.set i c)
        rw [hsl]; exact e2
      · exact OS.other (h.dt j d hj) e3 fun i hi hf => hid (.dt j) (by intro x; cases x; exact hne rfl) i (by simp only [idAt, hj, Option.bind_some]; exact hi) hf
    · intro t r l hr hl
      exact OS.other (h.ro t r l hr hl) e3 fun i hi hf => hid (.row t) (by intro x; cases x) i (by simp only [idAt, hr, Option.bind_some]; exact hi) hf
    · intro x y i hx hy
      rw [id_shape hsh] at hx hy
      exact h.inj x y i hx hy
    · intro x i hx; rw [id_shape hsh] at hx; exact h.ge x i hx
    · intro x i hx; rw [id_shape hsh] at hx; rw [e4]; exact h.lt x i hx
    · have : i = sd.id := hf
      rw [this]; exact ⟨_, hidk⟩
    · obtain ⟨x, hx⟩ := hi
      rw [id_shape hsh] at hx
      exact .inl ⟨x, hx⟩
/-! ### a store -/
def byteOf (v : Int) (i : Nat) : Int := IntKind.u8.wrap (ishr .u64 v (IntKind.u64.wrap (8 * (i : Int))))
/-- All bytes of a place are in areas. -/
def Found (ars : List Ar) (x : Int) (i n : Nat) : Prop := ∀ j, i ≤ j → j < i + n → ∃ (k : Nat) (a : Ar), ars[k]? = some a ∧ a.has (IntKind.u64.wrap (x + (j : Int))) = true ∧ findA ars (IntKind.u64.wrap (x + (j : Int))) = (k : Int)
theorem found_shape {l m : List Ar} (h : shapes l = shapes m) {x : Int} {i n : Nat} (hf : Found l x i n) : Found m x i n := fun j h1 h2 => by
  obtain ⟨k, a, e1, e2, e3⟩ := hf j h1 h2
  have := shape_at h k
  rw [e1] at this
  cases h3 : m[k]? with
  | none => rw [h3] at this; simp at this
  | some c =>
    rw [h3] at this
    exact ⟨k, c, h3, by rw [← has_shape (Option.some.inj this)]; exact e2, by rw [← findA_shape h]; exact e3⟩
theorem found_all {ars : List Ar} {t x : Int} {w : Bool} : ∀ {n i : Nat}, allThere ars t x w i n = true → Found ars x i n
  | 0, i, _ => fun j h1 h2 => by omega
  | n + 1, i, h => fun j h1 h2 => by
    unfold allThere at h
    simp only [Bool.and_eq_true] at h
    by_cases e : j = i
    · subst e; exact there_find h.1
    · exact found_all h.2 j (by omega) (by omega)
theorem u8_range (z : Int) : 0 ≤ IntKind.u8.wrap z ∧ IntKind.u8.wrap z < 256 := by
  simp [IntKind.wrap, IntKind.bits, IntKind.signed]
  omega
end
end Go.Proofs.YtnipccoenalnkaaGreat
