/- Layer 10: memory, of layer 9: memory: what it is in the heap; how it is made. -/
import Derived.Test.YtnipccoenalnkaaGreatSmB
namespace Go.Proofs.YtnipccoenalnkaaGreat
open Go Go.Proofs.YtnipccoenalnkaaGreat.Ab
set_option linter.unusedVariables false
set_option linter.unusedSimpArgs false
set_option maxRecDepth 100000
noncomputable section
/-- A store: where, how wide, what. -/
structure Sto where
  at' : Int
  w : Int
  v : Int
def E3 (x : Sto) : List Cell := [.int .u64 x.at', .int .i64 x.w, .int .u64 x.v]
theorem E3_len (x : Sto) : (E3 x).length = 3 := rfl
def E4 (a : Ar) : List Cell := [.int .u64 a.lo, .slice a.sl, .bool a.wr, .bool a.pr]
theorem E4_len (a : Ar) : (E4 a).length = 4 := rfl
inductive Slot where
  | hd
  | ar
  | dt (k : Nat)
  | row (t : Nat)
def idO (s : Option Sl) : Option Nat := s.map (·.id)
def idAt (b : Nat) (s : Option Sl) (ars : List Ar) (rs : List (Option Sl)) : Slot → Option Nat
  | .hd => some b
  | .ar => idO s
  | .dt k => (ars[k]?).bind fun a => idO a.sl
  | .row t => (rs[t]?).bind idO
/-- Memory in the heap: its block, its areas, their bytes, the threads' rows. -/
structure MRg {β : Type} (en : Nat) (eE : β → List Cell) (H : Heap) (b L : Nat) (s : Option Sl) (ars : List Ar) (rs : List (Option Sl)) (rows : List (List β)) : Prop where
  hd : H[b]? = some (.row (Cell.slice s :: rs.map Cell.slice) false)
  ar : OS 5 E5 H s ars
  dt : ∀ (k : Nat) (a : Ar), ars[k]? = some a → OS 1 E8 H a.sl a.data
  ro : ∀ (t : Nat) (r : Option Sl) (l : List β), rs[t]? = some r → rows[t]? = some l → OS en eE H r l
  rl : rs.length = 8
  rw : rows.length = 8
  inj : ∀ (x y : Slot) (i : Nat), idAt b s ars rs x = some i → idAt b s ars rs y = some i → x = y
  ge : ∀ (x : Slot) (i : Nat), idAt b s ars rs x = some i → L ≤ i
  lt : ∀ (x : Slot) (i : Nat), idAt b s ars rs x = some i → i < H.length
abbrev MR := @MRg Sto 3 E3
theorem idO_of {s : Option Sl} {sl : Sl} (h : s = some sl) : idO s = some sl.id := by rw [h]; rfl
theorem MRg.no {H H' : Heap} {b L : Nat} {s : Option Sl} {ars : List Ar} {rs : List (Option Sl)} {β : Type} {en : Nat} {eE : β → List Cell} {rows : List (List β)} (h : MRg en eE H b L s ars rs rows) (k : Kp No H H') : MRg en eE H' b L s ars rs rows :=
  ⟨k.bk h.hd, h.ar.no k, fun i a e => (h.dt i a e).no k, fun t r l e f => (h.ro t r l e f).no k, h.rl, h.rw, h.inj, h.ge, fun x i e => Nat.lt_of_lt_of_le (h.lt x i e) k.len⟩
theorem MRg.rd {H : Heap} {b L : Nat} {s : Option Sl} {ars : List Ar} {rs : List (Option Sl)} {β : Type} {en : Nat} {eE : β → List Cell} {rows : List (List β)} (h : MRg en eE H b L s ars rs rows) (hn : ars.length < 9223372036854775807) : Rd H (b, 0) ars :=
  ⟨hn, s, by rw [get_of h.hd]; rfl, h.ar.rs⟩
/-- Below all of memory's blocks nothing moves. -/
theorem OS.other {α : Type} {n : Nat} {E : α → List Cell} {F : Nat → Prop} {H H' : Heap} {s : Option Sl} {l : List α} (h : OS n E H s l) (k : Kp F H H') (hn : ∀ i, idO s = some i → ¬ F i) : OS n E H' s l :=
  h.kp k fun sl e => hn _ (idO_of e)
theorem clone_x (H : Heap) (s : Option Sl) (l : List UInt8) (hs : RS 1 E8 H s l) (hl : l.length ≤ 1048576) : ∃ s' H', (H ++ [Blk.row [] false]).append 1 1 (some { id := List.length H, off := 0, len := 0, cap := 0, esz := 1 }) s = some (s', H') ∧ OS 1 E8 H' s' l ∧ Kp No H H' ∧ New H.length s' := by
  have kp : Kp No H (H ++ [.row [] false]) := Kp.push _ _ _
  obtain ⟨s', H', h2, h3, h4, h5⟩ := append_OS E8_len (by decide) (by' := 1) (OS_new (n := 1) (E := E8) H) (hs.new E8_len (by decide) kp fun _ _ h => h) (by simp [most]; omega)
  refine ⟨s', H', h2, by simpa using h3, kp.trans h4 (fun _ h => h) (fun i hi hf => ?_), fun sl' e => ?_⟩
  · obtain ⟨sl0, e0, e1⟩ := hf; cases e0; exact absurd e1 (by show ¬ i = H.length; omega)
  · rcases h5 sl' e with ⟨sl0, e0, e1⟩ | h
    · cases e0; rw [e1]; exact Nat.le_refl _
    · simp at h; omega
theorem f84_x (b : Option Sl) (d : List UInt8) (H : Heap) (h : RS 1 E8 H b d) (hl : d.length ≤ 1048576) : ∃ s' H', f84 b H = some (s', H') ∧ OS 1 E8 H' s' d ∧ Kp No H H' ∧ New H.length s' := by
  rw [q84]
  cases b with
  | none =>
    cases h
    exact ⟨none, H, rfl, rfl, Kp.refl _ _, fun _ e => nomatch e⟩
  | some sl =>
    obtain ⟨s', H', a1, a2, a3, a4⟩ := clone_x H (some sl) d h hl
    exact ⟨s', H', by rw [show (some sl).isNone = false from rfl, cf, a1, Ab.bs], a2, a3, a4⟩
theorem gets4 {H : Heap} {s : Option Sl} {l : List Ar} (h : RS 4 E4 H s l) {i : Nat} {a : Ar} (hi : l[i]? = some a) :
    ∃ sl, s = some sl ∧ (inb (i : Int) sl.len && sl.esz == 4) = true ∧ H.get sl.id (sl.off + ((i : Nat) : Int).toNat * 4) = some (.int .u64 a.lo) ∧ H.get sl.id (sl.off + ((i : Nat) : Int).toNat * 4 + 1) = some (.slice a.sl) ∧
      H.get sl.id (sl.off + ((i : Nat) : Int).toNat * 4 + 1 + 1) = some (.bool a.wr) ∧ H.get sl.id (sl.off + ((i : Nat) : Int).toNat * 4 + 1 + 1 + 1) = some (.bool a.pr) := by
  obtain ⟨sl, e, h1, h2⟩ := h.idx E4_len hi
  exact ⟨sl, e, h1, by simpa using h2 0 _ rfl, by simpa using h2 1 _ rfl, by simpa using h2 2 _ rfl, by simpa using h2 3 _ rfl⟩
theorem row5 (H : Heap) (a : Ar) : RS 5 E5 (H ++ [Blk.row (E5 a) false]) (some { id := H.length, off := 0, len := 1, cap := 1, esz := 5 }) [a] :=
  ⟨rfl, rfl, Nat.le_refl _, fun j c e => by rw [Nat.zero_add, get_of (push_get _ _)]; simpa using e⟩
theorem row4 (H : Heap) (a : Ar) : RS 4 E4 (H ++ [Blk.row (E4 a) false]) (some { id := H.length, off := 0, len := 1, cap := 1, esz := 4 }) [a] :=
  ⟨rfl, rfl, Nat.le_refl _, fun j c e => by rw [Nat.zero_add, get_of (push_get _ _)]; simpa using e⟩
/-- One area more. -/
theorem MRg.add {H : Heap} {b L : Nat} {s : Option Sl} {ars : List Ar} {rs : List (Option Sl)} {β : Type} {en : Nat} {eE : β → List Cell} {rows : List (List β)} (h : MRg en eE H b L s ars rs rows) (hn : ars.length ≤ 1000) (a : Ar) (N : Nat) (ha : OS 1 E8 H a.sl a.data) (hnew : New N a.sl) (hN : ∀ (x : Slot) (i : Nat), idAt b s ars rs x = some i → i < N) (hL : L ≤ N) :
    ∃ s' H1 H', (H ++ [Blk.row (E5 a) false]).append 5 48 s (some { id := H.length, off := 0, len := 1, cap := 1, esz := 5 }) = some (s', H1) ∧ H1.put b 0 [Cell.slice s'] = some H' ∧ MRg en eE H' b L s' (ars ++ [a]) rs rows ∧ Kp (fun i => L ≤ i) H H' := by
  have h0 := h.no (Kp.push1 H (Blk.row (E5 a) false))
  have ha0 := ha.no (Kp.push1 H (Blk.row (E5 a) false))
  obtain ⟨s', H1, a1, a2, a3, a4⟩ := append_OS E5_len (by decide) (by' := 48) h0.ar (row5 H a) (by simp [most]; omega)
  have hb1 : H1[b]? = some (.row (Cell.slice s :: rs.map Cell.slice) false) := a3.at h0.hd fun hf => by
    obtain ⟨sl, e, f⟩ := hf
    have := h0.inj .hd .ar b rfl (by rw [f]; exact idO_of e)
    cases this
  have hput : H1.put b 0 [Cell.slice s'] = some (H1.set b (.row (Cell.slice s' :: rs.map Cell.slice) false)) := by
    rw [put_of hb1 (by simp)]; rfl
  have kset : Kp (One b) H1 (H1.set b (.row (Cell.slice s' :: rs.map Cell.slice) false)) := Kp.set _ _ _
  have lenH : (H ++ [Blk.row (E5 a) false]).length = H.length + 1 := by simp
  -- the new slice's block
  have hs' : ∀ i, idO s' = some i → idO s = some i ∨ H.length + 1 ≤ i := by
    intro i hi
    cases s' with
    | none => cases hi
    | some sl' =>
      cases hi
      rcases a4 sl' rfl with ⟨sl, e, f⟩ | f
      · exact .inl (by rw [e]; show some sl.id = _; rw [← f])
      · exact .inr (by simpa using f)
  have ltH : ∀ (x : Slot) (i : Nat), idAt b s ars rs x = some i → i < H.length := h.lt
  have haL : ∀ i, idO a.sl = some i → N ≤ i ∧ i < H.length := by
    intro i hi
    cases hsl : a.sl with
    | none => rw [hsl] at hi; cases hi
    | some sl =>
      rw [hsl] at hi; cases hi
      rw [hsl] at ha
      exact ⟨hnew sl hsl, OS.lt ha⟩
  have nb : ∀ i, idO s' = some i → i ≠ b := by
    rintro i hi rfl
    rcases hs' i hi with e | e
    · have := h.inj .hd .ar i rfl e; cases this
    · have := ltH .hd i rfl; omega
  -- what another slot holds is kept
  have keep : ∀ {α : Type} {n : Nat} {E : α → List Cell} {r : Option Sl} {l : List α}, OS n E (H ++ [Blk.row (E5 a) false]) r l → (∀ i, idO r = some i → idO s ≠ some i ∧ i ≠ b) → OS n E (H1.set b (.row (Cell.slice s' :: rs.map Cell.slice) false)) r l := by
    intro α n E r l hr hd
    refine OS.other (OS.other hr a3 fun i hi hf => ?_) kset fun i hi hf => (hd i hi).2 hf
    obtain ⟨sl, e, f⟩ := hf
    exact (hd i hi).1 (by rw [f]; exact idO_of e)
  have hdt : ∀ (k : Nat) (c : Ar), (ars ++ [a])[k]? = some c → k < ars.length ∧ ars[k]? = some c ∨ k = ars.length ∧ c = a := by
    intro k c hk
    rcases Nat.lt_or_ge k ars.length with hlt | hge
    · rw [List.getElem?_append_left hlt] at hk; exact .inl ⟨hlt, hk⟩
    · rw [List.getElem?_append_right hge] at hk
      cases hm : k - ars.length with
      | zero => rw [hm] at hk; simp at hk; exact .inr ⟨by omega, hk.symm⟩
      | succ m => rw [hm] at hk; simp at hk
  have old : ∀ (x : Slot) (i : Nat), idAt b s' (ars ++ [a]) rs x = some i → (∃ y, y = x ∧ idAt b s ars rs y = some i ∧ (x = .ar → idO s = some i)) ∨ (x = .ar ∧ H.length + 1 ≤ i) ∨ (x = .dt ars.length ∧ idO a.sl = some i) := by
    intro x i hx
    cases x with
    | hd => exact .inl ⟨.hd, rfl, hx, fun h => by cases h⟩
    | ar =>
      rcases hs' i hx with e | e
      · exact .inl ⟨.ar, rfl, e, fun _ => e⟩
      · exact .inr (.inl ⟨rfl, e⟩)
    | dt k =>
      simp only [idAt, Option.bind_eq_some_iff] at hx
      obtain ⟨c, hc, hx⟩ := hx
      rcases hdt k c hc with ⟨_, hk⟩ | ⟨rfl, rfl⟩
      · exact .inl ⟨.dt k, rfl, by simp only [idAt, hk, Option.bind_some]; exact hx, fun h => by cases h⟩
      · exact .inr (.inr ⟨rfl, hx⟩)
    | row t => exact .inl ⟨.row t, rfl, hx, fun h => by cases h⟩
  refine ⟨s', H1, _, a1, hput, ?_, ?_⟩
  · refine ⟨set_get' (lt_of hb1), ?_, ?_, ?_, h.rl, h.rw, ?_, ?_, ?_⟩
    · exact OS.other a2 kset fun i hi hf => nb i hi hf
    · intro k c hk
      rcases hdt k c hk with ⟨_, hk⟩ | ⟨rfl, rfl⟩
      · refine keep (h0.dt k c hk) fun i hi => ⟨fun hf => ?_, fun hf => ?_⟩
        · have := h0.inj (.dt k) .ar i (by simp only [idAt, hk, Option.bind_some]; exact hi) hf; cases this
        · have := h0.inj (.dt k) .hd i (by simp only [idAt, hk, Option.bind_some]; exact hi) (by rw [hf]; rfl); cases this
      · refine keep ha0 fun i hi => ⟨fun hf => ?_, fun hf => ?_⟩
        · have := (haL i hi).1; have := hN .ar i hf; omega
        · have := (haL i hi).1; have := hN .hd i (by rw [hf]; rfl); omega
    · intro t r l hr hl
      refine keep (h0.ro t r l hr hl) fun i hi => ⟨fun hf => ?_, fun hf => ?_⟩
      · have := h0.inj (.row t) .ar i (by simp only [idAt, hr, Option.bind_some]; exact hi) hf; cases this
      · have := h0.inj (.row t) .hd i (by simp only [idAt, hr, Option.bind_some]; exact hi) (by rw [hf]; rfl); cases this
    · intro x y i hx hy
      rcases old x i hx with ⟨_, rfl, e, _⟩ | ⟨rfl, e⟩ | ⟨rfl, e⟩ <;> rcases old y i hy with ⟨_, rfl, f, _⟩ | ⟨rfl, f⟩ | ⟨rfl, f⟩
      · exact h.inj _ _ i e f
      · have := ltH _ i e; omega
      · have := hN _ i e; have := (haL i f).1; omega
      · have := ltH _ i f; omega
      · rfl
      · have := (haL i f).2; omega
      · have := hN _ i f; have := (haL i e).1; omega
      · have := (haL i e).2; omega
      · rfl
    · intro x i hx
      rcases old x i hx with ⟨_, rfl, e, _⟩ | ⟨rfl, e⟩ | ⟨rfl, e⟩
      · exact h.ge _ i e
      · have := h.ge .hd b rfl; have := ltH .hd b rfl; omega
      · have := (haL i e).1; omega
    · intro x i hx
      have hle : H.length + 1 ≤ H1.length := by have := a3.len; simpa using this
      simp only [List.length_set]
      rcases old x i hx with ⟨_, rfl, e, _⟩ | ⟨rfl, e⟩ | ⟨rfl, e⟩
      · have := ltH _ i e; omega
      · cases s' with
        | none => cases hx
        | some sl' => cases hx; exact OS.lt a2
      · have := (haL i e).2; omega
  · refine ((Kp.push _ H [Blk.row (E5 a) false]).trans (a3.mono (D := fun i => L ≤ i) fun i hi hf => ?_) (fun _ h => h) fun _ _ h => h).trans (kset.mono (D := fun i => L ≤ i) fun i hi hf => ?_) (fun _ h => h) fun _ _ h => h
    · obtain ⟨sl, e, f⟩ := hf
      exact h.ge .ar i (by rw [f]; exact idO_of e)
    · have : i = b := hf
      rw [this]; exact h.ge .hd b rfl
end
end Go.Proofs.YtnipccoenalnkaaGreat
