/- Layer 28: an execution without one of its fences. -/
import Derived.Test.YthakpjkmianglaaCaH
namespace Go.Proofs.Ythakpjkmianglaa
open Go Go.Proofs.Ythakpjkmianglaa.Ab
set_option linter.unusedVariables false
set_option linter.unusedSimpArgs false
set_option maxRecDepth 100000
noncomputable section
theorem allFrom_iff {α : Type} (p : Nat → α → Bool) : ∀ (l : List α) (i : Nat), allFrom p l i = true ↔ ∀ (j : Nat) a, l[j]? = some a → p (i + j) a = true
  | [], i => by simp [allFrom]
  | a :: l, i => by
    unfold allFrom
    rw [Bool.and_eq_true, allFrom_iff p l]
    constructor
    · rintro ⟨h1, h2⟩ j b hj
      cases j with
      | zero => simp at hj; subst hj; exact h1
      | succ j => rw [show i + (j + 1) = i + 1 + j by omega]; exact h2 j b (by simpa using hj)
    · intro h
      exact ⟨h 0 a rfl, fun j b hj => by rw [show i + 1 + j = i + (j + 1) by omega]; exact h (j + 1) b (by simpa using hj)⟩
theorem seenOk_iff (L : List Ev) : ∀ l d, seenOk L l d = true ↔ (∀ i ∈ l, hasX L i = true ∧ (atE L i).K = 2 ∧ i ∉ d) ∧ l.Nodup ∧ nWrites L = d.length + l.length
  | [], d => by unfold seenOk; simp; omega
  | i :: l, d => by
    unfold seenOk
    rw [Bool.and_eq_true, Bool.and_eq_true, Bool.and_eq_true, seenOk_iff L l]
    simp only [beq_iff_eq, Bool.not_eq_true', List.contains_eq_mem, decide_eq_false_iff_not, List.mem_append, List.mem_singleton, List.length_append, List.length_cons, List.nodup_cons, List.mem_cons, List.length_nil, List.not_mem_nil, or_false]
    constructor
    · rintro ⟨h1, h2, h3, h4, h5, h6⟩
      refine ⟨fun j hj => ?_, ⟨fun hi => ?_, h5⟩, by omega⟩
      · rcases hj with rfl | hj
        · exact ⟨h1, h2, h3⟩
        · obtain ⟨a, b, c⟩ := h4 j hj
          exact ⟨a, b, fun h => c (.inl h)⟩
      · exact (h4 i hi).2.2 (.inr rfl)
    · rintro ⟨h1, ⟨h2, h3⟩, h4⟩
      obtain ⟨a, b, c⟩ := h1 i (.inl rfl)
      refine ⟨a, b, c, fun j hj => ?_, h3, by omega⟩
      obtain ⟨a, b, c⟩ := h1 j (.inr hj)
      refine ⟨a, b, fun h => ?_⟩
      rcases h with h | h
      · exact c h
      · subst h; exact h2 hj
structure MayI (x : Ex) : Prop where
  n : x.L.length ≤ 400
  e : ∀ e ∈ x.L, e.mayE = true
  ad : ∀ p ∈ x.Ad, hasX x.L p.1 = true ∧ hasX x.L p.2 = true
  co : ∀ i ∈ x.Co, hasX x.L i = true ∧ (atE x.L i).K = 2
  nd : x.Co.Nodup
  nw : nWrites x.L = x.Co.length
  rl : x.Rf.length = x.L.length
  rd : ∀ (i : Nat) w, x.Rf[i]? = some w → rdOk x.L i w = true
  al : ∀ (i j : Nat) e f, j < i → x.L[i]? = some e → x.L[j]? = some f → e.meets f = true → e.place f = true
theorem may_iff (x : Ex) : mayX x = true ↔ MayI x := by
  unfold mayX readsX alikeX
  simp only [Bool.and_eq_true, decide_eq_true_eq, List.all_eq_true, seenOk_iff, beq_iff_eq, allFrom_iff]
  constructor
  · rintro ⟨h1, h2, h3, ⟨h4, h5, h6⟩, ⟨h7, h8⟩, h9⟩
    refine ⟨h1, h2, h3, fun i hi => ⟨(h4 i hi).1, (h4 i hi).2.1⟩, h5, by simpa using h6, h7, fun i w hw => by simpa using h8 i w hw, fun i j e f hij he hf hm => ?_⟩
    have := h9 i e he j f (by rw [List.getElem?_take_of_lt (by omega)]; exact hf)
    rw [hm] at this
    simpa using this
  · rintro ⟨h1, h2, h3, h4, h5, h6, h7, h8, h9⟩
    refine ⟨h1, h2, h3, ⟨fun i hi => ⟨(h4 i hi).1, (h4 i hi).2, by simp⟩, h5, by simpa using h6⟩, ⟨h7, fun i w hw => by simpa using h8 i w hw⟩, fun i e he j f hf => ?_⟩
    rw [Nat.zero_add] at *
    rw [List.getElem?_take] at hf
    split at hf
    · rename_i hji
      cases hm : e.meets f with
      | false => rfl
      | true => rw [h9 i j e f hji he hf hm]; rfl
    · cases hf
theorem MayI.f {x : Ex} (h : MayI x) : MayF x := may_f ((may_iff x).2 h)

/-! the last exclusive access of a thread -/
def lastD (L : List Ev) (t : Int) : Nat → Int
  | 0 => -1
  | i + 1 => bif (atE L i).T == t && ((atE L i).ex && (atE L i).acc) then (i : Int) else lastD L t i
def pv (L : List Ev) (i : Nat) : Int :=
  bif (atE L i).ex && (atE L i).acc && ((atE L i).K == 2 && (decide (lastD L (atE L i).T i ≥ 0) && ((atE L (lastD L (atE L i).T i)).K == 1 && (atE L (lastD L (atE L i).T i)).place (atE L i)))) then lastD L (atE L i).T i else -1
def lasts (L : List Ev) (i : Nat) : List Int := (List.range 8).map fun (t : Nat) => lastD L (t : Int) i
theorem lasts_get (L : List Ev) (i : Nat) (t : Int) (h0 : 0 ≤ t) (h7 : t ≤ 7) : ((lasts L i)[t.toNat]?).getD 0 = lastD L t i := by
  unfold lasts
  rw [List.getElem?_map, List.getElem?_range (by omega)]
  simp only [Option.map_some, Option.getD_some]
  rw [Int.toNat_of_nonneg h0]
theorem stepP_pv (L : List Ev) (i : Nat) (hi : i < L.length) (hT : 0 ≤ (atE L i).T ∧ (atE L i).T ≤ 7) : stepP L i (atE L i) (lasts L i) = (pv L i, lasts L (i + 1)) := by
  unfold stepP pv
  rw [lasts_get L i _ hT.1 hT.2]
  cases hc : (atE L i).ex && (atE L i).acc with
  | false =>
    rw [cf, Bool.false_and, cf]
    congr 1
    unfold lasts
    apply List.map_congr_left
    intro t _
    show _ = bif _ then _ else _
    rw [hc, Bool.and_false, cf]
  | true =>
    rw [ct, Bool.true_and]
    congr 1
    apply List.ext_getElem?
    intro t
    unfold lasts
    rw [List.getElem?_set, List.getElem?_map, List.getElem?_map]
    simp only [List.length_map, List.length_range]
    by_cases ht : t < 8
    · rw [List.getElem?_range ht]
      simp only [Option.map_some]
      by_cases e : (atE L i).T.toNat = t
      · rw [if_pos e, if_pos (by omega)]
        have : (atE L i).T = (t : Int) := by omega
        show _ = some (bif (atE L i).T == (t : Int) && ((atE L i).ex && (atE L i).acc) then (i : Int) else lastD L t i)
        rw [hc, this]; simp
      · rw [if_neg e]
        have : ((atE L i).T == (t : Int)) = false := by simp; omega
        show _ = some (bif (atE L i).T == (t : Int) && ((atE L i).ex && (atE L i).acc) then (i : Int) else lastD L t i)
        rw [this]; rfl
    · rw [List.getElem?_eq_none (by simp; omega)]
      simp only [Option.map_none]
      split <;> first | rfl | (split <;> first | rfl | omega)
theorem pairsFrom_pv (L : List Ev) (hT : ∀ e ∈ L, 0 ≤ e.T ∧ e.T ≤ 7) : ∀ (l : List Ev) (i : Nat), L.drop i = l → ∀ j, j < l.length → (pairsFrom L l i (lasts L i))[j]? = some (pv L (i + j))
  | [], i, h, j, hj => by simp at hj
  | e :: l, i, h, j, hj => by
    have hi : i < L.length := by
      rcases Nat.lt_or_ge i L.length with h1 | h1
      · exact h1
      · rw [List.drop_eq_nil_of_le h1] at h; cases h
    rw [List.drop_eq_getElem_cons hi, List.cons.injEq] at h
    obtain ⟨h1, h2⟩ := h
    have he : atE L i = e := by rw [atE_nat hi]; exact h1
    have hs := stepP_pv L i hi (by rw [he, ← h1]; exact hT _ (List.getElem_mem hi))
    rw [he] at hs
    unfold pairsFrom
    rw [hs]
    cases j with
    | zero => rfl
    | succ j =>
      rw [List.getElem?_cons_succ, show i + (j + 1) = i + 1 + j by omega]
      exact pairsFrom_pv L hT l (i + 1) h2 j (by simpa using hj)
theorem pairsX_pv {x : Ex} (h : MayI x) {i : Nat} (hi : i < x.L.length) : (pairsX x)[i]? = some (pv x.L i) := by
  have := pairsFrom_pv x.L h.f.t x.L 0 rfl i hi
  rw [Nat.zero_add] at this
  exact this
theorem atI_pairs {x : Ex} (h : MayI x) {i : Nat} (hi : i < x.L.length) : atI (pairsX x) i = pv x.L i := by
  unfold atI
  rw [Int.toNat_natCast, pairsX_pv h hi]; rfl
theorem lastD_lt (L : List Ev) (t : Int) : ∀ i, lastD L t i = -1 ∨ ∃ r : Nat, lastD L t i = (r : Int) ∧ r < i ∧ (atE L r).acc = true ∧ (atE L r).ex = true ∧ (atE L r).T = t
  | 0 => .inl rfl
  | i + 1 => by
    unfold lastD
    cases hc : (atE L i).T == t && ((atE L i).ex && (atE L i).acc) with
    | false =>
      rw [cf]
      rcases lastD_lt L t i with h | ⟨r, h1, h2, h3⟩
      · exact .inl h
      · exact .inr ⟨r, h1, by omega, h3⟩
    | true =>
      rw [ct]
      simp only [Bool.and_eq_true, beq_iff_eq] at hc
      exact .inr ⟨i, rfl, by omega, hc.2.2, hc.2.1, hc.1⟩
theorem pv_cases (L : List Ev) (i : Nat) : pv L i = -1 ∨ ∃ r : Nat, pv L i = (r : Int) ∧ r < i ∧ (atE L r).K = 1 ∧ (atE L i).K = 2 := by
  unfold pv
  cases hc : (atE L i).ex && (atE L i).acc && ((atE L i).K == 2 && (decide (lastD L (atE L i).T i ≥ 0) && ((atE L (lastD L (atE L i).T i)).K == 1 && (atE L (lastD L (atE L i).T i)).place (atE L i)))) with
  | false => exact .inl rfl
  | true =>
    rw [ct]
    simp only [Bool.and_eq_true, beq_iff_eq, decide_eq_true_eq] at hc
    rcases lastD_lt L (atE L i).T i with h | ⟨r, h1, h2, h3⟩
    · exact .inl h
    · exact .inr ⟨r, h1, h2, by rw [← h1]; exact hc.2.2.2.1, hc.2.1⟩
theorem atomic_iff {x : Ex} (h : MayI x) : atomicX x = true ↔ ∀ i j r : Nat, i < x.L.length → j < x.L.length → pv x.L i = (r : Int) → (atE x.L j).T ≠ (atE x.L i).T → frX x r j = true → coX x j i = true → False := by
  unfold atomicX
  rw [(may_iff x).2 h, Bool.true_and, allFrom_iff]
  constructor
  · intro hh i j r hi hj hp hT hf hc
    have h1 := hh i _ (pairsX_pv h hi)
    rw [Nat.zero_add, hp, show decide ((r : Int) < 0) = false by simp, Bool.false_or, allFrom_iff] at h1
    have h2 := h1 j _ (List.getElem?_eq_getElem hj)
    unfold apart at h2
    rw [Nat.zero_add, hf, hc, ← atE_nat hj] at h2
    simp at h2
    exact hT h2
  · intro hh i r hr
    have hi : i < x.L.length := by
      have := (List.getElem?_eq_some_iff.1 hr).1
      unfold pairsX at this
      rw [pairsFrom_length] at this; exact this
    rw [pairsX_pv h hi] at hr
    cases hr
    rw [Nat.zero_add]
    rcases pv_cases x.L i with h0 | ⟨r, h1, _⟩
    · rw [h0]; rfl
    · rw [h1, show decide ((r : Int) < 0) = false by simp, Bool.false_or, allFrom_iff]
      intro j e he
      have hj := (List.getElem?_eq_some_iff.1 he).1
      have he2 : e = atE x.L j := by rw [atE_nat hj]; rw [List.getElem?_eq_getElem hj] at he; cases he; rfl
      unfold apart
      rw [Nat.zero_add]
      cases hT : e.T == (atE x.L i).T with
      | true => rfl
      | false =>
        cases hf : frX x r j with
        | false => rfl
        | true =>
          cases hc : coX x j i with
          | false => rfl
          | true =>
            refine absurd (hh i j r hi hj h1 ?_ hf hc) id
            rw [← he2]; simpa using hT

/-! without the fence -/
def lessI (k : Nat) (i : Int) : Int := if i > (k : Int) then i - 1 else i
def up (k i : Nat) : Nat := if i < k then i else i + 1
def delX (x : Ex) (k : Nat) : Ex := ⟨x.L.eraseIdx k, (x.Rf.eraseIdx k).map (lessI k), x.Co.map (lessI k), (x.Ad.filter fun p => p.1 != (k : Int) && p.2 != (k : Int)).map fun p => (lessI k p.1, lessI k p.2)⟩
theorem up_ne (k i : Nat) : up k i ≠ k := by unfold up; split <;> omega
theorem up_lt {k i n : Nat} (hk : k < n) (hi : i < n - 1) : up k i < n := by unfold up; split <;> omega
theorem up_lt_iff (k i j : Nat) : up k i < up k j ↔ i < j := by unfold up; split <;> split <;> omega
theorem less_up (k i : Nat) : lessI k (up k i : Int) = (i : Int) := by unfold lessI up; split <;> split <;> omega
theorem less_eq {k i : Nat} {w : Int} (hw : w ≠ (k : Int)) : lessI k w = (i : Int) ↔ w = (up k i : Int) := by unfold lessI up; split <;> split <;> omega
theorem less_nat {k : Nat} {w : Int} (hw : w ≠ (k : Int)) (h0 : 0 ≤ w) : ∃ i : Nat, w = (up k i : Int) := by
  rcases Int.lt_or_le w k with h | h
  · exact ⟨w.toNat, by unfold up; split <;> omega⟩
  · exact ⟨w.toNat - 1, by unfold up; split <;> omega⟩
theorem less_neg (k : Nat) (w : Int) : lessI k w < 0 ↔ w < 0 := by unfold lessI; split <;> omega
theorem less_m1 (k : Nat) : lessI k (-1) = -1 := by unfold lessI; split <;> omega
theorem get_del {α : Type} (l : List α) (k i : Nat) : (l.eraseIdx k)[i]? = l[up k i]? := by
  rw [List.getElem?_eraseIdx]; unfold up
  split <;> rfl
theorem atE_del (L : List Ev) (k i : Nat) : atE (L.eraseIdx k) i = atE L (up k i) := by
  unfold atE
  rw [Int.toNat_natCast, Int.toNat_natCast, get_del]
theorem hasX_less {L : List Ev} {k : Nat} (hk : k < L.length) {w : Int} (hw : w ≠ (k : Int)) : hasX (L.eraseIdx k) (lessI k w) = hasX L w := by
  unfold hasX
  rw [List.length_eraseIdx_of_lt hk, Bool.eq_iff_iff]
  simp only [Bool.and_eq_true, decide_eq_true_eq]
  unfold lessI
  split <;> omega
theorem atE_less (L : List Ev) {k : Nat} {w : Int} (hw : w ≠ (k : Int)) (h0 : 0 ≤ w) : atE (L.eraseIdx k) (lessI k w) = atE L w := by
  obtain ⟨i, rfl⟩ := less_nat hw h0
  rw [less_up, atE_del]
theorem hasX_nn {L : List Ev} {w : Int} (h : hasX L w = true) : 0 ≤ w := by
  unfold hasX at h
  simp only [Bool.and_eq_true, decide_eq_true_eq] at h
  omega
theorem nWrites_del : ∀ (L : List Ev) (k : Nat), (atE L k).K ≠ 2 → nWrites (L.eraseIdx k) = nWrites L
  | [], k, _ => by simp
  | e :: L, 0, h => by
    have : (e.K == 2) = false := by
      have h' : e.K ≠ 2 := h
      simpa using h'
    unfold nWrites
    rw [List.eraseIdx_zero, List.tail_cons, List.filter_cons, this]
    rfl
  | e :: L, k + 1, h => by
    have ih := nWrites_del L k (by
      have : atE (e :: L) ((k + 1 : Nat) : Int) = atE L k := by unfold atE; rw [Int.toNat_natCast, Int.toNat_natCast]; rfl
      rw [this] at h; exact h)
    unfold nWrites at ih ⊢
    rw [List.eraseIdx_cons_succ, List.filter_cons, List.filter_cons]
    split
    · rw [List.length_cons, List.length_cons, ih]
    · exact ih
structure Fen (x : Ex) (k : Nat) : Prop where
  m : MayI x
  lt : k < x.L.length
  K : (atE x.L k).K = 3
section
variable {x : Ex} {k : Nat}
theorem Fen.len (h : Fen x k) : (delX x k).L.length = x.L.length - 1 := List.length_eraseIdx_of_lt h.lt
theorem Fen.co (h : Fen x k) : ∀ c ∈ x.Co, c ≠ (k : Int) := fun c hc e => by
  have := (h.m.co c hc).2
  rw [e, h.K] at this; cases this
theorem Fen.at (h : Fen x k) (i : Nat) : atE (delX x k).L i = atE x.L (up k i) := atE_del ..
theorem Fen.rfI (h : Fen x k) {i : Nat} (hi : i < x.L.length - 1) : atI (delX x k).Rf i = lessI k (atI x.Rf (up k i)) := by
  unfold atI delX
  dsimp only
  rw [Int.toNat_natCast, Int.toNat_natCast, List.getElem?_map, get_del]
  have : up k i < x.Rf.length := by rw [h.m.rl]; exact up_lt h.lt hi
  rw [List.getElem?_eq_getElem this]; rfl
theorem Fen.rd (h : Fen x k) {i : Nat} (hi : i < x.L.length) : rdOk x.L i (atI x.Rf i) = true := by
  have hi' : i < x.Rf.length := by rw [h.m.rl]; exact hi
  have := h.m.rd i _ (List.getElem?_eq_getElem hi')
  unfold atI
  rw [Int.toNat_natCast, List.getElem?_eq_getElem hi']; exact this
theorem Fen.rk (h : Fen x k) {i : Nat} (hi : i < x.L.length) : atI x.Rf i ≠ (k : Int) := by
  have := h.rd hi
  unfold rdOk at this
  simp only [Bool.or_eq_true, beq_iff_eq, Bool.and_eq_true] at this
  rcases this with h1 | ⟨_, _, h2, _⟩
  · rw [h1]; omega
  · intro e; rw [e, h.K] at h2; cases h2
theorem Fen.may (h : Fen x k) : MayI (delX x k) := by
  have hL : (delX x k).L = x.L.eraseIdx k := rfl
  refine ⟨by rw [h.len]; have := h.m.n; omega, fun e he => h.m.e e (List.mem_of_mem_eraseIdx he), ?_, ?_, ?_, ?_, ?_, ?_, ?_⟩
  · intro p hp
    unfold delX at hp
    dsimp only at hp
    obtain ⟨q, hq, rfl⟩ := List.mem_map.1 hp
    rw [List.mem_filter] at hq
    simp only [Bool.and_eq_true, bne_iff_ne] at hq
    rw [hL, hasX_less h.lt hq.2.1, hasX_less h.lt hq.2.2]
    exact h.m.ad q hq.1
  · intro i hi
    obtain ⟨c, hc, rfl⟩ := List.mem_map.1 (show i ∈ x.Co.map (lessI k) from hi)
    obtain ⟨h1, h2⟩ := h.m.co c hc
    rw [hL, hasX_less h.lt (h.co c hc), atE_less x.L (h.co c hc) (hasX_nn h1)]
    exact ⟨h1, h2⟩
  · show (x.Co.map (lessI k)).Nodup
    rw [List.nodup_iff_pairwise_ne, List.pairwise_map]
    refine (List.nodup_iff_pairwise_ne.1 h.m.nd).imp_of_mem fun {a b} ha hb hab e => hab ?_
    obtain ⟨i, hi⟩ := less_nat (h.co a ha) (hasX_nn (h.m.co a ha).1)
    obtain ⟨j, hj⟩ := less_nat (h.co b hb) (hasX_nn (h.m.co b hb).1)
    rw [hi, hj, less_up, less_up] at e
    rw [hi, hj, show i = j by omega]
  · rw [hL, nWrites_del _ _ (by rw [h.K]; omega), h.m.nw]
    show x.Co.length = (x.Co.map (lessI k)).length
    rw [List.length_map]
  · rw [h.len]
    show ((x.Rf.eraseIdx k).map (lessI k)).length = _
    rw [List.length_map, List.length_eraseIdx_of_lt (by rw [h.m.rl]; exact h.lt), h.m.rl]
  · intro i w hw
    have hw' : ((x.Rf.eraseIdx k).map (lessI k))[i]? = some w := hw
    rw [List.getElem?_map, get_del] at hw'
    cases hr : x.Rf[up k i]? with
    | none => rw [hr] at hw'; cases hw'
    | some w0 =>
      rw [hr] at hw'
      simp only [Option.map_some, Option.some.injEq] at hw'
      subst hw'
      have hrd := h.m.rd _ _ hr
      have hi : up k i < x.L.length := by rw [← h.m.rl]; exact (List.getElem?_eq_some_iff.1 hr).1
      have hne : w0 ≠ (k : Int) := by
        have := h.rk hi
        unfold atI at this
        rw [Int.toNat_natCast, hr] at this; exact this
      unfold rdOk at hrd ⊢
      rw [Bool.or_eq_true] at hrd ⊢
      rcases hrd with h1 | h1
      · left
        rw [beq_iff_eq] at h1
        rw [h1, less_m1]; rfl
      · right
        have h0 := h1
        rw [Bool.and_eq_true] at h0
        rw [hL, hasX_less h.lt hne, atE_del, atE_less x.L hne (hasX_nn h0.1)]
        exact h1
  · intro i j e f hij he hf
    rw [hL, get_del] at he hf
    exact h.m.al _ _ e f ((up_lt_iff k j i).2 hij) he hf
theorem co_look (k i : Nat) : ∀ (l : List Int) (n : Nat), (∀ c ∈ l, c ≠ (k : Int)) → (coFrom (l.map (lessI k)) n).lookup (i : Int) = (coFrom l n).lookup (up k i : Int)
  | [], n, _ => rfl
  | c :: l, n, hc => by
    rw [List.map_cons]
    unfold coFrom
    rw [List.lookup_cons, List.lookup_cons, co_look k i l (n + 1) fun c h => hc c (by simp [h])]
    have : ((i : Int) == lessI k c) = ((up k i : Int) == c) := by
      rw [Bool.eq_iff_iff, beq_iff_eq, beq_iff_eq]
      have := less_eq (i := i) (hc c (by simp))
      constructor
      · intro e; exact (this.1 e.symm).symm
      · intro e; exact (this.2 e.symm).symm
    rw [this]
theorem Fen.atX (h : Fen x k) (i : Nat) : atX (delX x k) i = atX x (up k i) := by
  unfold Proofs.Ythakpjkmianglaa.atX delX
  dsimp only
  rw [co_look k i x.Co 0 h.co]
theorem Fen.rf (h : Fen x k) {i j : Nat} (hj : j < x.L.length - 1) : rfX (delX x k) i j = rfX x (up k i) (up k j) := by
  unfold rfX
  rw [h.at, h.rfI hj]
  congr 1
  rw [Bool.eq_iff_iff, beq_iff_eq, beq_iff_eq]
  exact less_eq (h.rk (up_lt h.lt hj))
theorem Fen.cox (h : Fen x k) (i j : Nat) : coX (delX x k) i j = coX x (up k i) (up k j) := by
  unfold coX
  rw [h.at, h.at, h.atX, h.atX]
theorem Fen.fr (h : Fen x k) {i j : Nat} (hi : i < x.L.length - 1) : frX (delX x k) i j = frX x (up k i) (up k j) := by
  unfold frX
  rw [h.at, h.at, h.rfI hi, h.atX]
  have hne := h.rk (up_lt h.lt hi)
  generalize atI x.Rf (up k i) = w at hne
  have e1 : decide (lessI k w < 0) = decide (w < 0) := by
    rw [Bool.eq_iff_iff, decide_eq_true_eq, decide_eq_true_eq]; exact less_neg k w
  rw [e1]
  cases hw : decide (w < 0) with
  | true => rfl
  | false =>
    obtain ⟨q, rfl⟩ := less_nat hne (by simpa using hw)
    rw [less_up, h.atX]
theorem Fen.inside (h : Fen x k) {i j : Nat} (hi : i < x.L.length - 1) (hj : j < x.L.length - 1) : insideX (delX x k) i j = insideX x (up k i) (up k j) := by
  unfold insideX
  rw [h.at, h.at, h.rf hj, h.cox, h.fr hi]
  congr 2
  rw [Bool.eq_iff_iff, decide_eq_true_eq, decide_eq_true_eq]
  have := up_lt_iff k i j
  omega
theorem Fen.last (h : Fen x k) (t : Int) : ∀ i, lastD (delX x k).L t i = lessI k (lastD x.L t (up k i))
  | 0 => by
    show (-1 : Int) = _
    unfold up
    split
    · exact (less_m1 k).symm
    · have : k = 0 := by omega
      subst this
      unfold lastD
      have hK := h.K
      have : (atE x.L ((0 : Nat) : Int)).acc = false := by unfold Ev.acc; rw [hK]; rfl
      rw [this, Bool.and_false, Bool.and_false, cf]
      exact (less_m1 0).symm
  | i + 1 => by
    have ih := Fen.last h t i
    have hacc : (atE x.L (k : Int)).acc = false := by unfold Ev.acc; rw [h.K]; rfl
    have hs : lastD x.L t (up k (i + 1)) = bif (atE x.L (up k i)).T == t && ((atE x.L (up k i)).ex && (atE x.L (up k i)).acc) then (up k i : Int) else lastD x.L t (up k i) := by
      rcases Nat.lt_trichotomy (i + 1) k with h1 | h1 | h1
      · rw [show up k (i + 1) = i + 1 by unfold up; rw [if_pos h1], show up k i = i by unfold up; rw [if_pos (by omega)]]
        rfl
      · rw [show up k (i + 1) = i + 1 + 1 by unfold up; rw [if_neg (by omega)], show up k i = i by unfold up; rw [if_pos (by omega)]]
        show (bif (atE x.L ((i + 1 : Nat) : Int)).T == t && ((atE x.L ((i + 1 : Nat) : Int)).ex && (atE x.L ((i + 1 : Nat) : Int)).acc) then ((i + 1 : Nat) : Int) else lastD x.L t (i + 1)) = _
        rw [h1, hacc, Bool.and_false, Bool.and_false, cf, ← h1]
        rfl
      · rw [show up k (i + 1) = i + 1 + 1 by unfold up; rw [if_neg (by omega)], show up k i = i + 1 by unfold up; rw [if_neg (by omega)]]
        rfl
    rw [hs]
    show (bif (atE (delX x k).L i).T == t && ((atE (delX x k).L i).ex && (atE (delX x k).L i).acc) then (i : Int) else lastD (delX x k).L t i) = _
    rw [h.at, ih]
    cases (atE x.L (up k i)).T == t && ((atE x.L (up k i)).ex && (atE x.L (up k i)).acc)
    · rfl
    · exact (less_up k i).symm
theorem Fen.pv (h : Fen x k) (i : Nat) : pv (delX x k).L i = lessI k (pv x.L (up k i)) := by
  unfold Proofs.Ythakpjkmianglaa.pv
  rw [h.at, h.last]
  have hne : lastD x.L (atE x.L (up k i)).T (up k i) ≠ (k : Int) := by
    rcases lastD_lt x.L (atE x.L (up k i)).T (up k i) with h1 | ⟨r, h1, _, h2, _⟩
    · rw [h1]; omega
    · rw [h1]
      intro e
      have : r = k := by omega
      subst this
      unfold Ev.acc at h2
      rw [h.K] at h2; cases h2
  generalize lastD x.L (atE x.L (up k i)).T (up k i) = w at hne
  have e1 : decide (lessI k w ≥ 0) = decide (w ≥ 0) := by
    rw [Bool.eq_iff_iff, decide_eq_true_eq, decide_eq_true_eq]; have := less_neg k w; omega
  rw [e1]
  cases hw : decide (w ≥ 0) with
  | false => simp only [Bool.false_and, Bool.and_false, cf]; exact (less_m1 k).symm
  | true =>
    rw [show (delX x k).L = x.L.eraseIdx k from rfl, atE_less x.L hne (by simpa using hw)]
    cases (atE x.L (up k i)).ex && (atE x.L (up k i)).acc && ((atE x.L (up k i)).K == 2 && (true && ((atE x.L w).K == 1 && (atE x.L w).place (atE x.L (up k i)))))
    · exact (less_m1 k).symm
    · rfl
theorem fenced_iff (L : List Ev) (i j : Nat) : fencedX L i j = true ↔ ∃ (m : Nat) (e : Ev), i < m ∧ m < j ∧ L[m]? = some e ∧ barE (atE L i) (atE L j) e = true := by
  unfold fencedX
  rw [List.any_eq_true]
  constructor
  · rintro ⟨e, he, hb⟩
    obtain ⟨q, hq⟩ := List.getElem?_of_mem he
    have hl := (List.getElem?_eq_some_iff.1 hq).1
    rw [List.length_take] at hl
    rw [List.getElem?_take_of_lt (by omega), List.getElem?_drop] at hq
    exact ⟨i + 1 + q, e, by omega, by omega, hq, hb⟩
  · rintro ⟨m, e, h1, h2, h3, h4⟩
    refine ⟨e, List.mem_of_getElem? (i := m - (i + 1)) ?_, h4⟩
    rw [List.getElem?_take_of_lt (by omega), List.getElem?_drop, show i + 1 + (m - (i + 1)) = m by omega]
    exact h3
theorem Fen.fenced (h : Fen x k) (i j : Nat) (hf : fencedX (delX x k).L i j = true) : fencedX x.L (up k i) (up k j) = true := by
  obtain ⟨m, e, h1, h2, h3, h4⟩ := (fenced_iff ..).1 hf
  rw [h.at, h.at] at h4
  exact (fenced_iff ..).2 ⟨up k m, e, (up_lt_iff k i m).2 h1, (up_lt_iff k m j).2 h2, by rw [← get_del]; exact h3, h4⟩
theorem Fen.ahead (h : Fen x k) {i j : Nat} (hi : i < x.L.length - 1) (hj : j < x.L.length - 1) (ha : aheadX (delX x k) i j = true) : aheadX x (up k i) (up k j) = true := by
  unfold aheadX at ha ⊢
  rw [Bool.or_eq_true] at ha ⊢
  rcases ha with ha | ha
  · left
    unfold adX at ha ⊢
    rw [List.any_eq_true] at ha ⊢
    obtain ⟨p, hp, he⟩ := ha
    obtain ⟨q, hq, rfl⟩ := List.mem_map.1 (show p ∈ (x.Ad.filter fun p => p.1 != (k : Int) && p.2 != (k : Int)).map fun p => (lessI k p.1, lessI k p.2) from hp)
    rw [List.mem_filter] at hq
    simp only [Bool.and_eq_true, bne_iff_ne, beq_iff_eq] at hq he
    refine ⟨q, hq.1, ?_⟩
    rw [Bool.and_eq_true, beq_iff_eq, beq_iff_eq]
    exact ⟨(less_eq hq.2.1).1 he.1, (less_eq hq.2.2).1 he.2⟩
  · right
    rw [h.at, h.at, h.rf hj, h.cox, h.fr hi] at ha
    cases hT : (atE x.L (up k i)).T == (atE x.L (up k j)).T with
    | false => rw [hT] at ha; exact ha
    | true =>
      rw [hT, ct, Bool.and_eq_true, decide_eq_true_eq] at ha
      rw [ct, Bool.and_eq_true, decide_eq_true_eq]
      refine ⟨by have := up_lt_iff k i j; omega, ?_⟩
      have ho := ha.2
      have hm := h.may
      have hi' : i < (delX x k).L.length := by rw [h.len]; exact hi
      have hj' : j < (delX x k).L.length := by rw [h.len]; exact hj
      unfold orderedX at ho ⊢
      rw [h.at, h.at, h.rf hj, atI_pairs hm hi', atI_pairs hm hj', h.pv, h.pv] at ho
      rw [atI_pairs h.m (up_lt h.lt hi), atI_pairs h.m (up_lt h.lt hj)]
      have hpk : ∀ i, Proofs.Ythakpjkmianglaa.pv x.L i ≠ (k : Int) := fun i => by
        rcases pv_cases x.L i with h1 | ⟨r, h1, _, h2, _⟩
        · rw [h1]; omega
        · rw [h1]
          intro e
          have : r = k := by omega
          subst this
          rw [h.K] at h2; cases h2
      have e1 : (lessI k (Proofs.Ythakpjkmianglaa.pv x.L (up k j)) == (i : Int)) = (Proofs.Ythakpjkmianglaa.pv x.L (up k j) == (up k i : Int)) := by
        rw [Bool.eq_iff_iff, beq_iff_eq, beq_iff_eq]; exact less_eq (hpk _)
      have e2 : decide (lessI k (Proofs.Ythakpjkmianglaa.pv x.L (up k i)) ≥ 0) = decide (Proofs.Ythakpjkmianglaa.pv x.L (up k i) ≥ 0) := by
        rw [Bool.eq_iff_iff, decide_eq_true_eq, decide_eq_true_eq]; have := less_neg k (Proofs.Ythakpjkmianglaa.pv x.L (up k i)); omega
      rw [e1, e2] at ho
      exact ordB_mono id id id id id id (h.fenced i j) ho
theorem fences_law (k : Nat) (hk : k < x.L.length) (hK : (atE x.L k).K = 3) (ho : (orderX x).isSome = true) : (orderX (delX x k)).isSome = true := by
  unfold orderX at ho ⊢
  cases hI : internalX x && atomicX x with
  | false => rw [hI] at ho; cases ho
  | true =>
    rw [hI, ct] at ho
    rw [Bool.and_eq_true] at hI
    have hI1 := hI.1
    unfold internalX at hI1
    rw [Bool.and_eq_true] at hI1
    have h : Fen x k := ⟨(may_iff x).1 hI1.1, hk, hK⟩
    have hm := h.may
    have e1 : internalX (delX x k) = true := by
      unfold internalX
      rw [(may_iff _).2 hm, Bool.true_and]
      refine sort_mono (up k) (fun i hi => up_lt h.lt (by rw [h.len] at hi; exact hi)) (fun i j hi hj hB => ?_) hI1.2
      rw [h.len] at hi hj
      rw [h.inside hi hj] at hB
      exact hB
    have e2 : atomicX (delX x k) = true := by
      rw [atomic_iff hm]
      intro i j r hi hj hp hT hf hc
      rw [h.len] at hi hj
      rw [h.pv] at hp
      rw [h.at, h.at] at hT
      have hpk : Proofs.Ythakpjkmianglaa.pv x.L (up k i) ≠ (k : Int) := by
        rcases pv_cases x.L (up k i) with h1 | ⟨r, h1, _, h2, _⟩
        · rw [h1]; omega
        · rw [h1]
          intro e
          have : r = k := by omega
          subst this
          rw [h.K] at h2; cases h2
      have hp' := (less_eq hpk).1 hp
      have hr : r < x.L.length - 1 := by
        rcases pv_cases x.L (up k i) with h1 | ⟨q, h1, h2, _⟩
        · rw [h1] at hp'; omega
        · have h3 : q = up k r := by omega
          subst h3
          have := (up_lt_iff k r i).1 h2
          omega
      rw [h.fr hr] at hf
      rw [h.cox] at hc
      exact (atomic_iff h.m).1 hI.2 (up k i) (up k j) (up k r) (up_lt h.lt hi) (up_lt h.lt hj) hp' hT hf hc
    rw [e1, e2, Bool.and_true, ct]
    refine sort_mono (up k) (fun i hi => up_lt h.lt (by rw [h.len] at hi; exact hi)) (fun i j hi hj hB => ?_) ho
    rw [h.len] at hi hj
    exact h.ahead hi hj hB
end
end
end Go.Proofs.Ythakpjkmianglaa
