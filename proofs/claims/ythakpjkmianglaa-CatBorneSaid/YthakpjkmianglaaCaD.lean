/- Layer 28: what is kept while events are put in order. -/
import Derived.Test.YthakpjkmianglaaCaC
namespace Go.Proofs.Ythakpjkmianglaa
open Go Go.Proofs.Ythakpjkmianglaa.Ab
set_option linter.unusedVariables false
set_option linter.unusedSimpArgs false
set_option maxRecDepth 100000
noncomputable section
def ES (s : Option Sl) : List Cell := [.slice s]
theorem ES_len (s : Option Sl) : (ES s).length = 1 := rfl
def EB (b : Bool) : List Cell := [.bool b]
theorem EB_len (b : Bool) : (EB b).length = 1 := rfl
/-- A list told by its places. -/
def tab {α : Type} (n : Nat) (f : Nat → α) : List α := (List.range n).map f
theorem tab_length {α : Type} (n : Nat) (f : Nat → α) : (tab n f).length = n := by simp [tab]
theorem tab_get {α : Type} {n i : Nat} (f : Nat → α) (h : i < n) : (tab n f)[i]? = some (f i) := by simp [tab, h]
theorem tab_eq {α : Type} {n : Nat} {f g : Nat → α} (h : ∀ i, i < n → f i = g i) : tab n f = tab n g := by
  unfold tab
  exact List.map_congr_left fun i hi => h i (by simpa using hi)
theorem tab_set {α : Type} {n i : Nat} (f g : Nat → α) (v : α) (hi : i < n) (h : ∀ k, k < n → g k = if k = i then v else f k) : (tab n f).set i v = tab n g := by
  apply List.ext_getElem?
  intro k
  rw [List.getElem?_set]
  by_cases hk : k < n
  · rw [tab_get g hk, h k hk]
    by_cases e : i = k
    · subst e; simp [tab_length, hk]
    · rw [if_neg e, tab_get f hk, if_neg (fun x => e x.symm)]
  · rw [List.getElem?_eq_none (by rw [tab_length]; omega : (tab n g).length ≤ k)]
    by_cases e : i = k
    · omega
    · rw [if_neg e, List.getElem?_eq_none (by rw [tab_length]; omega)]
theorem tab_rep {α : Type} (n : Nat) (a : α) : tab n (fun _ => a) = List.replicate n a := by
  unfold tab; simp [List.map_const']
/-- While the table is made. -/
structure SI (H0 H : Heap) (n : Nat) (sb sn : Sl) (be : List Int) (nx : List (Option Sl)) (rows : List (List Int)) : Prop where
  b : OS 1 EI H (some sb) be
  nn : OS 1 ES H (some sn) nx
  bl : be.length = n
  nl : nx.length = n
  rl : rows.length = n
  r : ∀ (t : Nat) sl l, nx[t]? = some sl → rows[t]? = some l → OS 1 EI H sl l
  hb : H0.length ≤ sb.id
  hn : H0.length ≤ sn.id
  ne : sb.id ≠ sn.id
  hr : ∀ (t : Nat) sl, nx[t]? = some (some sl) → H0.length ≤ sl.id ∧ sl.id ≠ sb.id ∧ sl.id ≠ sn.id
  hd : ∀ (t u : Nat) sl sl', nx[t]? = some (some sl) → nx[u]? = some (some sl') → t ≠ u → sl.id ≠ sl'.id
  k : Kp No H0 H
theorem SI.row {H0 H : Heap} {n : Nat} {sb sn : Sl} {be : List Int} {nx : List (Option Sl)} {rows : List (List Int)} (h : SI H0 H n sb sn be nx rows) {t : Nat} (ht : t < n) : ∃ sl l, nx[t]? = some sl ∧ rows[t]? = some l ∧ OS 1 EI H sl l := by
  have h1 : t < nx.length := by rw [h.nl]; exact ht
  have h2 : t < rows.length := by rw [h.rl]; exact ht
  exact ⟨_, _, List.getElem?_eq_getElem h1, List.getElem?_eq_getElem h2, h.r t _ _ (List.getElem?_eq_getElem h1) (List.getElem?_eq_getElem h2)⟩
theorem SI.lt {H0 H : Heap} {n : Nat} {sb sn : Sl} {be : List Int} {nx : List (Option Sl)} {rows : List (List Int)} (h : SI H0 H n sb sn be nx rows) {t : Nat} {sl : Sl} (e : nx[t]? = some (some sl)) : sl.id < H.length := by
  have ht : t < n := by have := (List.getElem?_eq_some_iff.1 e).1; rw [h.nl] at this; exact this
  obtain ⟨sl', l, h1, h2, h3⟩ := h.row ht
  rw [e] at h1; cases h1
  exact h3.lt
/-- A count is set. -/
theorem SI.inc {H0 H : Heap} {n : Nat} {sb sn : Sl} {be : List Int} {nx : List (Option Sl)} {rows : List (List Int)} (h : SI H0 H n sb sn be nx rows) {j : Nat} (hj : j < n) (v : Int) :
    ∃ H', H.put sb.id (sb.off + ((j : Nat) : Int).toNat * 1) [.int .i64 v] = some H' ∧ SI H0 H' n sb sn (be.set j v) nx rows := by
  obtain ⟨H', e1, e2, e3, e4⟩ := OS.put EI_len (vs := [.int .i64 v]) (y := v) (j := 0) h.b (List.getElem?_eq_getElem (by rw [h.bl]; exact hj : j < be.length)) (by simp) rfl
  refine ⟨H', e1, e2, h.nn.kp e3 (fun sl e => by cases e; exact fun x => h.ne x.symm), by rw [List.length_set]; exact h.bl, h.nl, h.rl, fun t sl l h1 h2 => (h.r t sl l h1 h2).kp e3 (fun s e => by subst e; exact (h.hr t s h1).2.1), h.hb, h.hn, h.ne, h.hr, h.hd, h.k.trSet e3 h.hb⟩
/-- A number is added to a row. -/
theorem SI.app {H0 H : Heap} {n : Nat} {sb sn : Sl} {be : List Int} {nx : List (Option Sl)} {rows : List (List Int)} (h : SI H0 H n sb sn be nx rows) {i : Nat} {sl : Option Sl} {l : List Int} (h1 : nx[i]? = some sl) (h2 : rows[i]? = some l) (hl : l.length < 1000) (v : Int) :
    ∃ s' H1 H2, (H ++ [Blk.row [Cell.int IntKind.i64 v] false]).append 1 8 sl (some { id := List.length H, off := 0, len := 1, cap := 1, esz := 1 }) = some (s', H1) ∧
      H1.put sn.id (sn.off + ((i : Nat) : Int).toNat * 1) [Cell.slice s'] = some H2 ∧ SI H0 H2 n sb sn be (nx.set i s') (rows.set i (l ++ [v])) := by
  have hP : Kp No H (H ++ [Blk.row [Cell.int IntKind.i64 v] false]) := Kp.push1 _ _
  have o1 : OS 1 EI (H ++ [Blk.row [Cell.int IntKind.i64 v] false]) sl l := (h.r i sl l h1 h2).no hP
  have x1 : RS 1 EI (H ++ [Blk.row [Cell.int IntKind.i64 v] false]) (some ⟨H.length, 0, 1, 1, 1⟩) [v] := ⟨rfl, rfl, Nat.le_refl _, fun k c e => by
    cases k with
    | zero => rw [get_of (push_get _ _)]; simpa [EI] using e
    | succ k => simp [EI] at e⟩
  have hi : i < n := by have := (List.getElem?_eq_some_iff.1 h1).1; rw [h.nl] at this; exact this
  obtain ⟨s', H1, f1, f2, f3, f4⟩ := append_OS EI_len (by omega) (by' := 8) o1 x1 (by simp [most]; omega)
  have hofn : ∀ j, Of sl j → j ≠ sb.id ∧ j ≠ sn.id ∧ H0.length ≤ j := by
    rintro j ⟨q, rfl, rfl⟩
    obtain ⟨g1, g2, g3⟩ := h.hr i q h1
    exact ⟨g2, g3, g1⟩
  have n1 : OS 1 ES H1 (some sn) nx := (h.nn.no hP).kp f3 (fun q e => by cases e; exact fun x => (hofn _ x).2.1 rfl)
  obtain ⟨H2, p1, p2, p3, p4⟩ := OS.put ES_len (vs := [.slice s']) (y := s') (j := 0) n1 (List.getElem?_eq_getElem (by rw [h.nl]; exact hi : i < nx.length)) (by simp) rfl
  have hs' : ∀ q, s' = some q → H0.length ≤ q.id ∧ q.id ≠ sb.id ∧ q.id ≠ sn.id ∧ ((∃ q', sl = some q' ∧ q.id = q'.id) ∨ H.length ≤ q.id) := by
    intro q e
    rcases f4 q e with ⟨q', e1, e2⟩ | e1
    · obtain ⟨g1, g2, g3⟩ := h.hr i q' (by rw [h1, e1])
      exact ⟨by omega, by omega, by omega, .inl ⟨q', e1, e2⟩⟩
    · rw [List.length_append] at e1
      have := h.k.len; have := h.b.lt; have := h.nn.lt
      exact ⟨by omega, by omega, by omega, .inr (by omega)⟩
  refine ⟨s', H1, H2, f1, p1, ?_, p2, h.bl, by rw [List.length_set]; exact h.nl, by rw [List.length_set]; exact h.rl, ?_, h.hb, h.hn, h.ne, ?_, ?_, ?_⟩
  · exact ((h.b.no hP).kp f3 (fun q e => by cases e; exact fun x => (hofn _ x).1 rfl)).kp p3 (fun q e => by cases e; exact h.ne)
  · intro t q m e1 e2
    by_cases ht : t = i
    · subst ht
      rw [List.getElem?_set_self (by rw [h.nl]; exact hi)] at e1
      rw [List.getElem?_set_self (by rw [h.rl]; exact hi)] at e2
      cases e1; cases e2
      exact f2.kp p3 (fun q e => (hs' q e).2.2.1)
    · rw [List.getElem?_set_ne (fun x => ht x.symm)] at e1 e2
      refine (((h.r t q m e1 e2).no hP).kp f3 (fun z e => ?_)).kp p3 (fun z e => ?_)
      · subst e
        rintro ⟨q', e3, e4⟩
        exact h.hd t i z q' e1 (by rw [h1, e3]) ht e4
      · subst e; exact (h.hr t z e1).2.2
  · intro t q e1
    by_cases ht : t = i
    · subst ht
      rw [List.getElem?_set_self (by rw [h.nl]; exact hi)] at e1
      cases e1
      exact ⟨(hs' q rfl).1, (hs' q rfl).2.1, (hs' q rfl).2.2.1⟩
    · rw [List.getElem?_set_ne (fun x => ht x.symm)] at e1
      exact h.hr t q e1
  · intro t u q q' e1 e2 hne
    by_cases ht : t = i
    · subst ht
      rw [List.getElem?_set_self (by rw [h.nl]; exact hi)] at e1
      rw [List.getElem?_set_ne hne] at e2
      cases e1
      rcases (hs' q rfl).2.2.2 with ⟨z, g1, g2⟩ | g1
      · rw [g2]; exact h.hd t u z q' (by rw [h1, g1]) e2 hne
      · have := h.lt e2; omega
    · rw [List.getElem?_set_ne (fun x => ht x.symm)] at e1
      by_cases hu : u = i
      · subst hu
        rw [List.getElem?_set_self (by rw [h.nl]; exact hi)] at e2
        cases e2
        rcases (hs' q' rfl).2.2.2 with ⟨z, g1, g2⟩ | g1
        · rw [g2]; exact h.hd t u q z e1 (by rw [h1, g1]) hne
        · have := h.lt e1; omega
      · rw [List.getElem?_set_ne (fun x => hu x.symm)] at e2
        exact h.hd t u q q' e1 e2 hne
  · refine ((h.k.tr hP).trans f3 (D := No) (fun _ h => h) fun j hj hf => ?_).trSet p3 h.hn
    have := (hofn j hf).2.2; omega

/-! the order -/
/-- How many events that are not done are ahead of one? -/
def cnt (A : Nat → Nat → Bool) (n : Nat) (o : List Nat) (k : Nat) : Int := (((List.range n).filter fun a => A a k && !o.contains a).length : Int)
/-- The first number, from one on, of which something holds. -/
def srch (p : Nat → Bool) : Nat → Nat → Nat
  | 0, i => i
  | m + 1, i => bif p i then i else srch p m (i + 1)
def freeX (A : Nat → Nat → Bool) (n : Nat) (o : List Nat) (i : Nat) : Bool := !o.contains i && !decide (cnt A n o i > 0)
def sortX (A : Nat → Nat → Bool) (n : Nat) : Nat → List Nat → Option (List Nat)
  | 0, o => some o
  | m + 1, o => bif srch (freeX A n o) n 0 == n then none else sortX A n m (o ++ [srch (freeX A n o) n 0])
theorem srch_spec (p : Nat → Bool) : ∀ m i, (srch p m i = i + m ∧ ∀ j, i ≤ j → j < i + m → p j = false) ∨ (srch p m i < i + m ∧ i ≤ srch p m i ∧ p (srch p m i) = true)
  | 0, i => .inl ⟨rfl, fun j h1 h2 => by omega⟩
  | m + 1, i => by
    unfold srch
    cases h : p i with
    | true => exact .inr ⟨by rw [ct]; omega, by rw [ct]; omega, by rw [ct]; exact h⟩
    | false =>
      rw [cf]
      rcases srch_spec p m (i + 1) with ⟨h1, h2⟩ | ⟨h1, h2, h3⟩
      · refine .inl ⟨by omega, fun j g1 g2 => ?_⟩
        rcases Nat.lt_or_ge i j with h4 | h4
        · exact h2 j (by omega) (by omega)
        · rw [show j = i by omega]; exact h
      · exact .inr ⟨by omega, by omega, h3⟩
theorem filter_count {α : Type} (p q : α → Bool) (i : α) : ∀ (l : List α), l.Nodup → (∀ a ∈ l, a ≠ i → p a = q a) → p i = true → q i = false → i ∈ l → (l.filter p).length = (l.filter q).length + 1
  | [], _, _, _, _, h => by simp at h
  | a :: l, hn, hpq, hp, hq, hi => by
    rw [List.nodup_cons] at hn
    have ht : ∀ b ∈ l, b ≠ i → p b = q b := fun b hb => hpq b (by simp [hb])
    by_cases ha : a = i
    · subst ha
      have : l.filter p = l.filter q := List.filter_congr fun b hb => ht b hb fun e => hn.1 (e ▸ hb)
      simp [List.filter_cons, hp, hq, this]
    · have hi' : i ∈ l := by
        rcases List.mem_cons.1 hi with e | e
        · exact absurd e.symm ha
        · exact e
      have ih := filter_count p q i l hn.2 ht hp hq hi'
      rw [List.filter_cons, List.filter_cons, hpq a (by simp) ha]
      cases q a <;> simp [ih]
theorem cnt_done (A : Nat → Nat → Bool) (n : Nat) (o : List Nat) (i k : Nat) (hi : i < n) (ho : o.contains i = false) : cnt A n (o ++ [i]) k = cnt A n o k - (if A i k then 1 else 0) := by
  unfold cnt
  cases hA : A i k with
  | true =>
    rw [filter_count (fun a => A a k && !o.contains a) (fun a => A a k && !(o ++ [i]).contains a) i (List.range n) List.nodup_range (fun a _ ha => by simp [ha]) (by simp [hA, ho]; simpa using ho) (by simp) (by simpa using hi)]
    simp
  | false =>
    have : (List.range n).filter (fun a => A a k && !(o ++ [i]).contains a) = (List.range n).filter fun a => A a k && !o.contains a := by
      apply List.filter_congr
      intro a _
      by_cases e : a = i
      · subst e; simp [hA]
      · simp [e]
    rw [this]; simp
theorem cnt_le (A : Nat → Nat → Bool) (n : Nat) (o : List Nat) (k : Nat) : 0 ≤ cnt A n o k ∧ cnt A n o k ≤ n := by
  unfold cnt
  have := List.length_filter_le (fun a => A a k && !o.contains a) (List.range n)
  rw [List.length_range] at this
  omega
end
end Go.Proofs.Ythakpjkmianglaa
