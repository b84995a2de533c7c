/- Layer 2: bytes in a heap, owned. -/
import Derived.Test.YtebpmmffilakaaaRo1
namespace Go.Proofs.Ytebpmmffilakaaa
open Go Go.Proofs.Ytebpmmffilakaaa.Ab
set_option maxRecDepth 100000

/-- A slice of bytes that is a frame's own. -/
def OB (H : Heap) (s : Option Sl) (l : List Nat) : Prop :=
  match s with
  | none => l = []
  | some sl => sl.len = l.length ∧ sl.esz = 1 ∧ sl.len ≤ sl.cap ∧ ∃ row, H[sl.id]? = some (.row row false) ∧ sl.off + sl.cap ≤ row.length ∧ ∀ (i b : Nat), l[i]? = some b → row[sl.off + i]? = some (bcell b)
theorem OB.rb {H : Heap} {s : Option Sl} {l : List Nat} (h : OB H s l) : RB H s l := by
  cases s with
  | none => exact h
  | some sl =>
    obtain ⟨h1, h2, _, row, h3, _, h4⟩ := h
    exact ⟨h1, h2, fun i b hb => by rw [get_of h3]; exact h4 i b hb⟩
theorem OB.stays {H H' : Heap} {s : Option Sl} {l : List Nat} (h : OB H s l) (hs : ∀ sl, s = some sl → H'[sl.id]? = H[sl.id]?) : OB H' s l := by
  cases s with
  | none => exact h
  | some sl =>
    obtain ⟨h1, h2, h3, row, h4, h5⟩ := h
    exact ⟨h1, h2, h3, row, by rw [hs sl rfl]; exact h4, h5⟩
theorem RB.stays {H H' : Heap} {s : Option Sl} {l : List Nat} (h : RB H s l) (hs : ∀ sl, s = some sl → 0 < sl.len → H'[sl.id]? = H[sl.id]?) : RB H' s l := by
  cases s with
  | none => exact h
  | some sl =>
    obtain ⟨h1, h2, h3⟩ := h
    refine ⟨h1, h2, fun i b hb => ?_⟩
    have : i < l.length := (List.getElem?_eq_some_iff.1 hb).1
    rw [← h3 i b hb]
    unfold Heap.get
    rw [hs sl rfl (by omega)]
theorem OB.lt {H : Heap} {sl : Sl} {l : List Nat} (h : OB H (some sl) l) : sl.id < H.length := by
  obtain ⟨_, _, _, row, h4, _⟩ := h
  exact (List.getElem?_eq_some_iff.1 h4).1
/-- Readable bytes, as cells. -/
theorem RB.cells {H : Heap} {s : Option Sl} {l : List Nat} (h : RB H s l) : H.cellsOf 1 s = some (bytesL l) ∧ (slen s).toNat = l.length := by
  cases s with
  | none => cases h; exact ⟨rfl, rfl⟩
  | some sl =>
    obtain ⟨h1, h2, h3⟩ := h
    refine ⟨?_, by simp [slen, h1]⟩
    show (if sl.esz = 1 then (if sl.len = 0 then some [] else H.getN sl.id sl.off (sl.len * 1)) else none) = _
    rw [if_pos h2]
    by_cases h0 : sl.len = 0
    · rw [if_pos h0]
      have : l = [] := List.eq_nil_of_length_eq_zero (by omega)
      subst this; rfl
    · rw [if_neg h0]
      have hg : ∀ i (hi : i < l.length), H.get sl.id (sl.off + i) = some (bcell l[i]) := fun i hi => h3 i _ (List.getElem?_eq_getElem hi)
      have h00 := hg 0 (by omega)
      unfold Heap.get at h00
      split at h00
      · rename_i row ro hrow
        have hget : ∀ i (hi : i < l.length), row[sl.off + i]? = some (bcell l[i]) := fun i hi => by rw [← hg i hi, get_of hrow]
        have hlen : sl.off + l.length ≤ row.length := by
          have := (List.getElem?_eq_some_iff.1 (hget (l.length - 1) (by omega))).1
          omega
        unfold Heap.getN
        rw [hrow]
        simp only [h1, Nat.mul_one, hlen, if_true, Option.some.injEq]
        apply List.ext_getElem?
        intro i
        by_cases hi : i < l.length
        · rw [List.getElem?_take_of_lt hi, List.getElem?_drop, hget i hi]
          simp [bytesL, hi]
        · rw [List.getElem?_eq_none (by simp; omega), List.getElem?_eq_none (by simp [bytesL]; omega)]
      · cases h00
/-- What append leaves alone. -/
structure Kept (s : Option Sl) (H H' : Heap) : Prop where
  len : H.length ≤ H'.length
  same : ∀ i, i < H.length → (∀ sl, s = some sl → i ≠ sl.id) → H'[i]? = H[i]?
theorem app_OB {H : Heap} {s : Option Sl} {l m : List Nat} (h : OB H s l) (hb : l.length + m.length ≤ most) :
    ∃ s' H', H.app 1 1 s m.length (bytesL m) = some (s', H') ∧ OB H' s' (l ++ m) ∧ Kept s H H' ∧ (∀ sl', s' = some sl' → (∃ sl, s = some sl ∧ sl'.id = sl.id) ∨ H.length ≤ sl'.id) := by
  unfold Heap.app
  by_cases hm : m.length = 0
  · have : m = [] := List.eq_nil_of_length_eq_zero hm
    subst this
    rw [if_pos hm]
    exact ⟨s, H, rfl, by simpa using h, ⟨Nat.le_refl _, fun _ _ _ => rfl⟩, fun sl' e => .inl ⟨sl', e, rfl⟩⟩
  rw [if_neg hm]
  have hbl : (bytesL m).length = m.length := by simp [bytesL]
  have hbg : ∀ (i b : Nat), m[i]? = some b → (bytesL m)[i]? = some (bcell b) := fun i b e => by simp [bytesL, e]
  cases s with
  | none =>
    cases h
    simp only [List.length_nil, Nat.zero_add] at hb
    simp only [Nat.mul_one, hb, if_true]
    refine ⟨_, _, rfl, ⟨by simp, rfl, Nat.le_refl _, bytesL m, by simp, by simp [hbl], fun i b e => by simpa using hbg i b (by simpa using e)⟩, ⟨by simp, fun i hi _ => by rw [List.getElem?_append_left hi]⟩, fun sl' e => ?_⟩
    cases e
    exact .inr (Nat.le_refl _)
  | some sl =>
    have hlt := h.lt
    obtain ⟨h1, h2, h3, row, h4, h5, h6⟩ := h
    simp only [h2, ne_eq, not_true_eq_false, if_false, Nat.mul_one]
    by_cases hcap : sl.len + m.length ≤ sl.cap
    · rw [if_pos hcap, put_of h4 (by rw [hbl]; omega), Option.map_some]
      have hsl : (splice row (sl.off + sl.len) (bytesL m)).length = row.length := splice_length (by rw [hbl]; omega)
      refine ⟨_, _, rfl, ⟨by simp [h1], rfl, by show sl.len + m.length ≤ sl.cap; omega, _, set_get' hlt, by rw [hsl]; exact h5, fun i b e => ?_⟩, ⟨by simp, fun i hi hne => ?_⟩, fun sl' e => ?_⟩
      · show (splice row (sl.off + sl.len) (bytesL m))[sl.off + i]? = _
        rw [splice_get (by rw [hbl]; omega)]
        by_cases hi : i < l.length
        · rw [if_pos (by omega)]
          rw [List.getElem?_append_left hi] at e
          exact h6 i b e
        · rw [List.getElem?_append_right (by omega)] at e
          have := (List.getElem?_eq_some_iff.1 e).1
          rw [if_neg (by omega), if_pos (by rw [hbl]; omega), show sl.off + i - (sl.off + sl.len) = i - l.length by omega]
          exact hbg _ b e
      · have := hne sl rfl
        rw [List.getElem?_set_ne (by omega)]
      · cases e
        exact .inl ⟨sl, rfl, rfl⟩
    · rw [if_neg hcap, if_pos (by omega), h4]
      simp only
      rw [if_pos (by omega)]
      have htl : ((row.drop sl.off).take sl.len).length = sl.len := by simp; omega
      refine ⟨_, _, rfl, ⟨by simp [h1], rfl, Nat.le_refl _, (row.drop sl.off).take sl.len ++ bytesL m, by simp, by simp [hbl]; omega, fun i b e => ?_⟩, ⟨by simp, fun i hi hne => ?_⟩, fun sl' e => ?_⟩
      · simp only [Nat.zero_add]
        by_cases hi : i < l.length
        · rw [List.getElem?_append_left (by omega), List.getElem?_take_of_lt (by omega), List.getElem?_drop]
          rw [List.getElem?_append_left hi] at e
          exact h6 i b e
        · rw [List.getElem?_append_right (by omega)] at e
          rw [List.getElem?_append_right (by omega), htl, h1]
          exact hbg _ b e
      · have := hne sl rfl
        rw [List.getElem?_append_left (by simpa using hi), List.getElem?_set_ne (by omega)]
      · cases e
        exact .inr (by simp)
theorem append_OB {H : Heap} {s x : Option Sl} {l m : List Nat} (h : OB H s l) (hx : RB H x m) (hb : l.length + m.length ≤ most) :
    ∃ s' H', H.append 1 1 s x = some (s', H') ∧ OB H' s' (l ++ m) ∧ Kept s H H' ∧ (∀ sl', s' = some sl' → (∃ sl, s = some sl ∧ sl'.id = sl.id) ∨ H.length ≤ sl'.id) := by
  obtain ⟨h1, h2⟩ := hx.cells
  unfold Heap.append
  rw [h1, h2]
  exact app_OB h hb
/-- A slice of no bytes, just made. -/
theorem OB_new (H : Heap) : OB (H ++ [.row [] false]) (some ⟨H.length, 0, 0, 0, 1⟩) [] :=
  ⟨rfl, rfl, Nat.le_refl _, [], by simp, Nat.le_refl _, fun i b e => by simp at e⟩
end Go.Proofs.Ytebpmmffilakaaa
