/- Layer 11: both say alike which instructions may be. -/
import Derived.Test.YtlhcbcfphognlaaJuD
namespace Go.Proofs.Ytlhcbcfphognlaa
open Go Go.Proofs.Ytlhcbcfphognlaa.Ab
set_option linter.unusedVariables false
set_option linter.unusedSimpArgs false
set_option maxRecDepth 100000
noncomputable section
theorem odMay_nil (o : Od) (h : o.k = 0) : odMay o = (o.r == 0 && nilA o) := by
  unfold odMay
  rw [h]
  rfl
theorem odMay_k (o : Od) (h : odMay o = true) : o.k = 0 ∨ o.k = 1 ∨ o.k = 2 ∨ o.k = 3 := by
  unfold odMay at h
  by_cases h1 : o.k = 1
  · omega
  · by_cases h2 : o.k = 2
    · omega
    · by_cases h0 : o.k = 0
      · omega
      · by_cases h3 : o.k = 3
        · omega
        · simp [h0, h1, h2, h3] at h
theorem odMay_r1 (o : Od) (h : o.k = 1) (hr : o.r = 1) : odMay o = nilA o := by
  unfold odMay
  rw [h, hr]
  simp
/-- The fits of both. -/
def Ins.F (x : Ins) : Bool := fitsI x.imm (halfOf (8 * min x.w 4))
theorem half_pos (n : Int) : 0 < halfOf n := by
  unfold halfOf
  split
  · decide
  · split <;> decide
theorem F_zero (x : Ins) (h : x.imm = 0) : x.F = true := by
  unfold Ins.F fitsI
  rw [h]
  have := half_pos (8 * min x.w 4)
  simp; omega
theorem dT {h : Decidable True} : @decide True h = true := decide_eq_true trivial
theorem dF {h : Decidable False} : @decide False h = false := decide_eq_false id
theorem may_1 (x : Ins) (e : x.op = 1) (hw : x.w = 1 ∨ x.w = 2 ∨ x.w = 4 ∨ x.w = 8) (hF : x.immW = x.F) (hR : (bif decide (IntKind.i64.wrap (8 * x.w) > 32) then fitsR x.imm 32 else fitsR x.imm (IntKind.i64.wrap (8 * x.w))) = x.F) : x.may = x.rmay := by
  have h1 := odMay_k x.a
  have h2 := odMay_k x.b
  have h3 := odMay_nil x.b
  have h4 := odMay_r1 x.b
  have h5 := F_zero x
  unfold Ins.may Ins.rmay Ins.two Ins.one Ins.shape Ins.immR Ins.hasImm Ins.w2R Ins.locked Ins.plain Ins.immB Ins.nilB isK
  rw [hF, hR]
  simp only [Ins.inn, inL, e, wOk, w248]
  simp (decide := true) only [e, List.contains_cons, List.contains_nil, dT, dF, Int.reduceBEq, Nat.reduceBEq, Int.reduceToNat, Int.reduceLE, Int.reduceLT, Int.reduceGT, cond_true, cond_false, Bool.true_and, Bool.false_and, Bool.and_false, Bool.and_true, Bool.true_or, Bool.false_or, Bool.or_false, Bool.or_true, Bool.not_true, Bool.not_false]
  by_cases hA : odMay x.a = true
  · by_cases hB : odMay x.b = true
    · rw [hA, hB]
      rcases h1 hA with ea | ea | ea | ea <;> simp only [ea] <;> simp (decide := true) only [ea, List.contains_cons, List.contains_nil, dT, dF, Int.reduceBEq, Nat.reduceBEq, Int.reduceToNat, Int.reduceLE, Int.reduceLT, Int.reduceGT, cond_true, cond_false, Bool.true_and, Bool.false_and, Bool.and_false, Bool.and_true, Bool.true_or, Bool.false_or, Bool.or_false, Bool.or_true, Bool.not_true, Bool.not_false] <;> rcases h2 hB with eb | eb | eb | eb <;> (try simp only [eb]) <;> (try simp (decide := true) only [eb, List.contains_cons, List.contains_nil, dT, dF, Int.reduceBEq, Nat.reduceBEq, Int.reduceToNat, Int.reduceLE, Int.reduceLT, Int.reduceGT, cond_true, cond_false, Bool.true_and, Bool.false_and, Bool.and_false, Bool.and_true, Bool.true_or, Bool.false_or, Bool.or_false, Bool.or_true, Bool.not_true, Bool.not_false]) <;> (try rfl) <;> grind
    · grind
  · grind
theorem may_2 (x : Ins) (e : x.op = 2) (hw : x.w = 1 ∨ x.w = 2 ∨ x.w = 4 ∨ x.w = 8) (hF : x.immW = x.F) (hR : (bif decide (IntKind.i64.wrap (8 * x.w) > 32) then fitsR x.imm 32 else fitsR x.imm (IntKind.i64.wrap (8 * x.w))) = x.F) : x.may = x.rmay := by
  have h1 := odMay_k x.a
  have h2 := odMay_k x.b
  have h3 := odMay_nil x.b
  have h4 := odMay_r1 x.b
  have h5 := F_zero x
  unfold Ins.may Ins.rmay Ins.two Ins.one Ins.shape Ins.immR Ins.hasImm Ins.w2R Ins.locked Ins.plain Ins.immB Ins.nilB isK
  rw [hF, hR]
  simp only [Ins.inn, inL, e, wOk, w248]
  simp (decide := true) only [e, List.contains_cons, List.contains_nil, dT, dF, Int.reduceBEq, Nat.reduceBEq, Int.reduceToNat, Int.reduceLE, Int.reduceLT, Int.reduceGT, cond_true, cond_false, Bool.true_and, Bool.false_and, Bool.and_false, Bool.and_true, Bool.true_or, Bool.false_or, Bool.or_false, Bool.or_true, Bool.not_true, Bool.not_false]
  by_cases hA : odMay x.a = true
  · by_cases hB : odMay x.b = true
    · rw [hA, hB]
      rcases h1 hA with ea | ea | ea | ea <;> simp only [ea] <;> simp (decide := true) only [ea, List.contains_cons, List.contains_nil, dT, dF, Int.reduceBEq, Nat.reduceBEq, Int.reduceToNat, Int.reduceLE, Int.reduceLT, Int.reduceGT, cond_true, cond_false, Bool.true_and, Bool.false_and, Bool.and_false, Bool.and_true, Bool.true_or, Bool.false_or, Bool.or_false, Bool.or_true, Bool.not_true, Bool.not_false] <;> rcases h2 hB with eb | eb | eb | eb <;> (try simp only [eb]) <;> (try simp (decide := true) only [eb, List.contains_cons, List.contains_nil, dT, dF, Int.reduceBEq, Nat.reduceBEq, Int.reduceToNat, Int.reduceLE, Int.reduceLT, Int.reduceGT, cond_true, cond_false, Bool.true_and, Bool.false_and, Bool.and_false, Bool.and_true, Bool.true_or, Bool.false_or, Bool.or_false, Bool.or_true, Bool.not_true, Bool.not_false]) <;> (try rfl) <;> grind
    · grind
  · grind
theorem may_3 (x : Ins) (e : x.op = 3) (hw : x.w = 1 ∨ x.w = 2 ∨ x.w = 4 ∨ x.w = 8) (hF : x.immW = x.F) (hR : (bif decide (IntKind.i64.wrap (8 * x.w) > 32) then fitsR x.imm 32 else fitsR x.imm (IntKind.i64.wrap (8 * x.w))) = x.F) : x.may = x.rmay := by
  have h1 := odMay_k x.a
  have h2 := odMay_k x.b
  have h3 := odMay_nil x.b
  have h4 := odMay_r1 x.b
  have h5 := F_zero x
  unfold Ins.may Ins.rmay Ins.two Ins.one Ins.shape Ins.immR Ins.hasImm Ins.w2R Ins.locked Ins.plain Ins.immB Ins.nilB isK
  rw [hF, hR]
  simp only [Ins.inn, inL, e, wOk, w248]
  simp (decide := true) only [e, List.contains_cons, List.contains_nil, dT, dF, Int.reduceBEq, Nat.reduceBEq, Int.reduceToNat, Int.reduceLE, Int.reduceLT, Int.reduceGT, cond_true, cond_false, Bool.true_and, Bool.false_and, Bool.and_false, Bool.and_true, Bool.true_or, Bool.false_or, Bool.or_false, Bool.or_true, Bool.not_true, Bool.not_false]
  by_cases hA : odMay x.a = true
  · by_cases hB : odMay x.b = true
    · rw [hA, hB]
      rcases h1 hA with ea | ea | ea | ea <;> simp only [ea] <;> simp (decide := true) only [ea, List.contains_cons, List.contains_nil, dT, dF, Int.reduceBEq, Nat.reduceBEq, Int.reduceToNat, Int.reduceLE, Int.reduceLT, Int.reduceGT, cond_true, cond_false, Bool.true_and, Bool.false_and, Bool.and_false, Bool.and_true, Bool.true_or, Bool.false_or, Bool.or_false, Bool.or_true, Bool.not_true, Bool.not_false] <;> rcases h2 hB with eb | eb | eb | eb <;> (try simp only [eb]) <;> (try simp (decide := true) only [eb, List.contains_cons, List.contains_nil, dT, dF, Int.reduceBEq, Nat.reduceBEq, Int.reduceToNat, Int.reduceLE, Int.reduceLT, Int.reduceGT, cond_true, cond_false, Bool.true_and, Bool.false_and, Bool.and_false, Bool.and_true, Bool.true_or, Bool.false_or, Bool.or_false, Bool.or_true, Bool.not_true, Bool.not_false]) <;> (try rfl) <;> grind
    · grind
  · grind
theorem may_4 (x : Ins) (e : x.op = 4) (hw : x.w = 1 ∨ x.w = 2 ∨ x.w = 4 ∨ x.w = 8) (hF : x.immW = x.F) (hR : (bif decide (IntKind.i64.wrap (8 * x.w) > 32) then fitsR x.imm 32 else fitsR x.imm (IntKind.i64.wrap (8 * x.w))) = x.F) : x.may = x.rmay := by
  have h1 := odMay_k x.a
  have h2 := odMay_k x.b
  have h3 := odMay_nil x.b
  have h4 := odMay_r1 x.b
  have h5 := F_zero x
  unfold Ins.may Ins.rmay Ins.two Ins.one Ins.shape Ins.immR Ins.hasImm Ins.w2R Ins.locked Ins.plain Ins.immB Ins.nilB isK
  rw [hF, hR]
  simp only [Ins.inn, inL, e, wOk, w248]
  simp (decide := true) only [e, List.contains_cons, List.contains_nil, dT, dF, Int.reduceBEq, Nat.reduceBEq, Int.reduceToNat, Int.reduceLE, Int.reduceLT, Int.reduceGT, cond_true, cond_false, Bool.true_and, Bool.false_and, Bool.and_false, Bool.and_true, Bool.true_or, Bool.false_or, Bool.or_false, Bool.or_true, Bool.not_true, Bool.not_false]
  by_cases hA : odMay x.a = true
  · by_cases hB : odMay x.b = true
    · rw [hA, hB]
      rcases h1 hA with ea | ea | ea | ea <;> simp only [ea] <;> simp (decide := true) only [ea, List.contains_cons, List.contains_nil, dT, dF, Int.reduceBEq, Nat.reduceBEq, Int.reduceToNat, Int.reduceLE, Int.reduceLT, Int.reduceGT, cond_true, cond_false, Bool.true_and, Bool.false_and, Bool.and_false, Bool.and_true, Bool.true_or, Bool.false_or, Bool.or_false, Bool.or_true, Bool.not_true, Bool.not_false] <;> rcases h2 hB with eb | eb | eb | eb <;> (try simp only [eb]) <;> (try simp (decide := true) only [eb, List.contains_cons, List.contains_nil, dT, dF, Int.reduceBEq, Nat.reduceBEq, Int.reduceToNat, Int.reduceLE, Int.reduceLT, Int.reduceGT, cond_true, cond_false, Bool.true_and, Bool.false_and, Bool.and_false, Bool.and_true, Bool.true_or, Bool.false_or, Bool.or_false, Bool.or_true, Bool.not_true, Bool.not_false]) <;> (try rfl) <;> grind
    · grind
  · grind
theorem may_5 (x : Ins) (e : x.op = 5) (hw : x.w = 1 ∨ x.w = 2 ∨ x.w = 4 ∨ x.w = 8) (hF : x.immW = x.F) (hR : (bif decide (IntKind.i64.wrap (8 * x.w) > 32) then fitsR x.imm 32 else fitsR x.imm (IntKind.i64.wrap (8 * x.w))) = x.F) : x.may = x.rmay := by
  have h1 := odMay_k x.a
  have h2 := odMay_k x.b
  have h3 := odMay_nil x.b
  have h4 := odMay_r1 x.b
  have h5 := F_zero x
  unfold Ins.may Ins.rmay Ins.two Ins.one Ins.shape Ins.immR Ins.hasImm Ins.w2R Ins.locked Ins.plain Ins.immB Ins.nilB isK
  rw [hF, hR]
  simp only [Ins.inn, inL, e, wOk, w248]
  simp (decide := true) only [e, List.contains_cons, List.contains_nil, dT, dF, Int.reduceBEq, Nat.reduceBEq, Int.reduceToNat, Int.reduceLE, Int.reduceLT, Int.reduceGT, cond_true, cond_false, Bool.true_and, Bool.false_and, Bool.and_false, Bool.and_true, Bool.true_or, Bool.false_or, Bool.or_false, Bool.or_true, Bool.not_true, Bool.not_false]
  by_cases hA : odMay x.a = true
  · by_cases hB : odMay x.b = true
    · rw [hA, hB]
      rcases h1 hA with ea | ea | ea | ea <;> simp only [ea] <;> simp (decide := true) only [ea, List.contains_cons, List.contains_nil, dT, dF, Int.reduceBEq, Nat.reduceBEq, Int.reduceToNat, Int.reduceLE, Int.reduceLT, Int.reduceGT, cond_true, cond_false, Bool.true_and, Bool.false_and, Bool.and_false, Bool.and_true, Bool.true_or, Bool.false_or, Bool.or_false, Bool.or_true, Bool.not_true, Bool.not_false] <;> rcases h2 hB with eb | eb | eb | eb <;> (try simp only [eb]) <;> (try simp (decide := true) only [eb, List.contains_cons, List.contains_nil, dT, dF, Int.reduceBEq, Nat.reduceBEq, Int.reduceToNat, Int.reduceLE, Int.reduceLT, Int.reduceGT, cond_true, cond_false, Bool.true_and, Bool.false_and, Bool.and_false, Bool.and_true, Bool.true_or, Bool.false_or, Bool.or_false, Bool.or_true, Bool.not_true, Bool.not_false]) <;> (try rfl) <;> grind
    · grind
  · grind
theorem may_6 (x : Ins) (e : x.op = 6) (hw : x.w = 1 ∨ x.w = 2 ∨ x.w = 4 ∨ x.w = 8) (hF : x.immW = x.F) (hR : (bif decide (IntKind.i64.wrap (8 * x.w) > 32) then fitsR x.imm 32 else fitsR x.imm (IntKind.i64.wrap (8 * x.w))) = x.F) : x.may = x.rmay := by
  have h1 := odMay_k x.a
  have h2 := odMay_k x.b
  have h3 := odMay_nil x.b
  have h4 := odMay_r1 x.b
  have h5 := F_zero x
  unfold Ins.may Ins.rmay Ins.two Ins.one Ins.shape Ins.immR Ins.hasImm Ins.w2R Ins.locked Ins.plain Ins.immB Ins.nilB isK
  rw [hF, hR]
  simp only [Ins.inn, inL, e, wOk, w248]
  simp (decide := true) only [e, List.contains_cons, List.contains_nil, dT, dF, Int.reduceBEq, Nat.reduceBEq, Int.reduceToNat, Int.reduceLE, Int.reduceLT, Int.reduceGT, cond_true, cond_false, Bool.true_and, Bool.false_and, Bool.and_false, Bool.and_true, Bool.true_or, Bool.false_or, Bool.or_false, Bool.or_true, Bool.not_true, Bool.not_false]
  by_cases hA : odMay x.a = true
  · by_cases hB : odMay x.b = true
    · rw [hA, hB]
      rcases h1 hA with ea | ea | ea | ea <;> simp only [ea] <;> simp (decide := true) only [ea, List.contains_cons, List.contains_nil, dT, dF, Int.reduceBEq, Nat.reduceBEq, Int.reduceToNat, Int.reduceLE, Int.reduceLT, Int.reduceGT, cond_true, cond_false, Bool.true_and, Bool.false_and, Bool.and_false, Bool.and_true, Bool.true_or, Bool.false_or, Bool.or_false, Bool.or_true, Bool.not_true, Bool.not_false] <;> rcases h2 hB with eb | eb | eb | eb <;> (try simp only [eb]) <;> (try simp (decide := true) only [eb, List.contains_cons, List.contains_nil, dT, dF, Int.reduceBEq, Nat.reduceBEq, Int.reduceToNat, Int.reduceLE, Int.reduceLT, Int.reduceGT, cond_true, cond_false, Bool.true_and, Bool.false_and, Bool.and_false, Bool.and_true, Bool.true_or, Bool.false_or, Bool.or_false, Bool.or_true, Bool.not_true, Bool.not_false]) <;> (try rfl) <;> grind
    · grind
  · grind
theorem may_7 (x : Ins) (e : x.op = 7) (hw : x.w = 1 ∨ x.w = 2 ∨ x.w = 4 ∨ x.w = 8) (hF : x.immW = x.F) (hR : (bif decide (IntKind.i64.wrap (8 * x.w) > 32) then fitsR x.imm 32 else fitsR x.imm (IntKind.i64.wrap (8 * x.w))) = x.F) : x.may = x.rmay := by
  have h1 := odMay_k x.a
  have h2 := odMay_k x.b
  have h3 := odMay_nil x.b
  have h4 := odMay_r1 x.b
  have h5 := F_zero x
  unfold Ins.may Ins.rmay Ins.two Ins.one Ins.shape Ins.immR Ins.hasImm Ins.w2R Ins.locked Ins.plain Ins.immB Ins.nilB isK
  rw [hF, hR]
  simp only [Ins.inn, inL, e, wOk, w248]
  simp (decide := true) only [e, List.contains_cons, List.contains_nil, dT, dF, Int.reduceBEq, Nat.reduceBEq, Int.reduceToNat, Int.reduceLE, Int.reduceLT, Int.reduceGT, cond_true, cond_false, Bool.true_and, Bool.false_and, Bool.and_false, Bool.and_true, Bool.true_or, Bool.false_or, Bool.or_false, Bool.or_true, Bool.not_true, Bool.not_false]
  by_cases hA : odMay x.a = true
  · by_cases hB : odMay x.b = true
    · rw [hA, hB]
      rcases h1 hA with ea | ea | ea | ea <;> simp only [ea] <;> simp (decide := true) only [ea, List.contains_cons, List.contains_nil, dT, dF, Int.reduceBEq, Nat.reduceBEq, Int.reduceToNat, Int.reduceLE, Int.reduceLT, Int.reduceGT, cond_true, cond_false, Bool.true_and, Bool.false_and, Bool.and_false, Bool.and_true, Bool.true_or, Bool.false_or, Bool.or_false, Bool.or_true, Bool.not_true, Bool.not_false] <;> rcases h2 hB with eb | eb | eb | eb <;> (try simp only [eb]) <;> (try simp (decide := true) only [eb, List.contains_cons, List.contains_nil, dT, dF, Int.reduceBEq, Nat.reduceBEq, Int.reduceToNat, Int.reduceLE, Int.reduceLT, Int.reduceGT, cond_true, cond_false, Bool.true_and, Bool.false_and, Bool.and_false, Bool.and_true, Bool.true_or, Bool.false_or, Bool.or_false, Bool.or_true, Bool.not_true, Bool.not_false]) <;> (try rfl) <;> grind
    · grind
  · grind
theorem may_8 (x : Ins) (e : x.op = 8) (hw : x.w = 1 ∨ x.w = 2 ∨ x.w = 4 ∨ x.w = 8) (hF : x.immW = x.F) (hR : (bif decide (IntKind.i64.wrap (8 * x.w) > 32) then fitsR x.imm 32 else fitsR x.imm (IntKind.i64.wrap (8 * x.w))) = x.F) : x.may = x.rmay := by
  have h1 := odMay_k x.a
  have h2 := odMay_k x.b
  have h3 := odMay_nil x.b
  have h4 := odMay_r1 x.b
  have h5 := F_zero x
  unfold Ins.may Ins.rmay Ins.two Ins.one Ins.shape Ins.immR Ins.hasImm Ins.w2R Ins.locked Ins.plain Ins.immB Ins.nilB isK
  rw [hF, hR]
  simp only [Ins.inn, inL, e, wOk, w248]
  simp (decide := true) only [e, List.contains_cons, List.contains_nil, dT, dF, Int.reduceBEq, Nat.reduceBEq, Int.reduceToNat, Int.reduceLE, Int.reduceLT, Int.reduceGT, cond_true, cond_false, Bool.true_and, Bool.false_and, Bool.and_false, Bool.and_true, Bool.true_or, Bool.false_or, Bool.or_false, Bool.or_true, Bool.not_true, Bool.not_false]
  by_cases hA : odMay x.a = true
  · by_cases hB : odMay x.b = true
    · rw [hA, hB]
      rcases h1 hA with ea | ea | ea | ea <;> simp only [ea] <;> simp (decide := true) only [ea, List.contains_cons, List.contains_nil, dT, dF, Int.reduceBEq, Nat.reduceBEq, Int.reduceToNat, Int.reduceLE, Int.reduceLT, Int.reduceGT, cond_true, cond_false, Bool.true_and, Bool.false_and, Bool.and_false, Bool.and_true, Bool.true_or, Bool.false_or, Bool.or_false, Bool.or_true, Bool.not_true, Bool.not_false] <;> rcases h2 hB with eb | eb | eb | eb <;> (try simp only [eb]) <;> (try simp (decide := true) only [eb, List.contains_cons, List.contains_nil, dT, dF, Int.reduceBEq, Nat.reduceBEq, Int.reduceToNat, Int.reduceLE, Int.reduceLT, Int.reduceGT, cond_true, cond_false, Bool.true_and, Bool.false_and, Bool.and_false, Bool.and_true, Bool.true_or, Bool.false_or, Bool.or_false, Bool.or_true, Bool.not_true, Bool.not_false]) <;> (try rfl) <;> grind
    · grind
  · grind
theorem may_9 (x : Ins) (e : x.op = 9) (hw : x.w = 1 ∨ x.w = 2 ∨ x.w = 4 ∨ x.w = 8) (hF : x.immW = x.F) (hR : (bif decide (IntKind.i64.wrap (8 * x.w) > 32) then fitsR x.imm 32 else fitsR x.imm (IntKind.i64.wrap (8 * x.w))) = x.F) : x.may = x.rmay := by
  have h1 := odMay_k x.a
  have h2 := odMay_k x.b
  have h3 := odMay_nil x.b
  have h4 := odMay_r1 x.b
  have h5 := F_zero x
  unfold Ins.may Ins.rmay Ins.two Ins.one Ins.shape Ins.immR Ins.hasImm Ins.w2R Ins.locked Ins.plain Ins.immB Ins.nilB isK
  rw [hF, hR]
  simp only [Ins.inn, inL, e, wOk, w248]
  simp (decide := true) only [e, List.contains_cons, List.contains_nil, dT, dF, Int.reduceBEq, Nat.reduceBEq, Int.reduceToNat, Int.reduceLE, Int.reduceLT, Int.reduceGT, cond_true, cond_false, Bool.true_and, Bool.false_and, Bool.and_false, Bool.and_true, Bool.true_or, Bool.false_or, Bool.or_false, Bool.or_true, Bool.not_true, Bool.not_false]
  by_cases hA : odMay x.a = true
  · by_cases hB : odMay x.b = true
    · rw [hA, hB]
      rcases h1 hA with ea | ea | ea | ea <;> simp only [ea] <;> simp (decide := true) only [ea, List.contains_cons, List.contains_nil, dT, dF, Int.reduceBEq, Nat.reduceBEq, Int.reduceToNat, Int.reduceLE, Int.reduceLT, Int.reduceGT, cond_true, cond_false, Bool.true_and, Bool.false_and, Bool.and_false, Bool.and_true, Bool.true_or, Bool.false_or, Bool.or_false, Bool.or_true, Bool.not_true, Bool.not_false] <;> rcases h2 hB with eb | eb | eb | eb <;> (try simp only [eb]) <;> (try simp (decide := true) only [eb, List.contains_cons, List.contains_nil, dT, dF, Int.reduceBEq, Nat.reduceBEq, Int.reduceToNat, Int.reduceLE, Int.reduceLT, Int.reduceGT, cond_true, cond_false, Bool.true_and, Bool.false_and, Bool.and_false, Bool.and_true, Bool.true_or, Bool.false_or, Bool.or_false, Bool.or_true, Bool.not_true, Bool.not_false]) <;> (try rfl) <;> grind
    · grind
  · grind
theorem may_10 (x : Ins) (e : x.op = 10) (hw : x.w = 1 ∨ x.w = 2 ∨ x.w = 4 ∨ x.w = 8) (hF : x.immW = x.F) (hR : (bif decide (IntKind.i64.wrap (8 * x.w) > 32) then fitsR x.imm 32 else fitsR x.imm (IntKind.i64.wrap (8 * x.w))) = x.F) : x.may = x.rmay := by
  have h1 := odMay_k x.a
  have h2 := odMay_k x.b
  have h3 := odMay_nil x.b
  have h4 := odMay_r1 x.b
  have h5 := F_zero x
  unfold Ins.may Ins.rmay Ins.two Ins.one Ins.shape Ins.immR Ins.hasImm Ins.w2R Ins.locked Ins.plain Ins.immB Ins.nilB isK
  rw [hF, hR]
  simp only [Ins.inn, inL, e, wOk, w248]
  simp (decide := true) only [e, List.contains_cons, List.contains_nil, dT, dF, Int.reduceBEq, Nat.reduceBEq, Int.reduceToNat, Int.reduceLE, Int.reduceLT, Int.reduceGT, cond_true, cond_false, Bool.true_and, Bool.false_and, Bool.and_false, Bool.and_true, Bool.true_or, Bool.false_or, Bool.or_false, Bool.or_true, Bool.not_true, Bool.not_false]
  by_cases hA : odMay x.a = true
  · by_cases hB : odMay x.b = true
    · rw [hA, hB]
      rcases h1 hA with ea | ea | ea | ea <;> simp only [ea] <;> simp (decide := true) only [ea, List.contains_cons, List.contains_nil, dT, dF, Int.reduceBEq, Nat.reduceBEq, Int.reduceToNat, Int.reduceLE, Int.reduceLT, Int.reduceGT, cond_true, cond_false, Bool.true_and, Bool.false_and, Bool.and_false, Bool.and_true, Bool.true_or, Bool.false_or, Bool.or_false, Bool.or_true, Bool.not_true, Bool.not_false] <;> rcases h2 hB with eb | eb | eb | eb <;> (try simp only [eb]) <;> (try simp (decide := true) only [eb, List.contains_cons, List.contains_nil, dT, dF, Int.reduceBEq, Nat.reduceBEq, Int.reduceToNat, Int.reduceLE, Int.reduceLT, Int.reduceGT, cond_true, cond_false, Bool.true_and, Bool.false_and, Bool.and_false, Bool.and_true, Bool.true_or, Bool.false_or, Bool.or_false, Bool.or_true, Bool.not_true, Bool.not_false]) <;> (try rfl) <;> grind
    · grind
  · grind
theorem may_11 (x : Ins) (e : x.op = 11) (hw : x.w = 1 ∨ x.w = 2 ∨ x.w = 4 ∨ x.w = 8) (hF : x.immW = x.F) (hR : (bif decide (IntKind.i64.wrap (8 * x.w) > 32) then fitsR x.imm 32 else fitsR x.imm (IntKind.i64.wrap (8 * x.w))) = x.F) : x.may = x.rmay := by
  have h1 := odMay_k x.a
  have h2 := odMay_k x.b
  have h3 := odMay_nil x.b
  have h4 := odMay_r1 x.b
  have h5 := F_zero x
  unfold Ins.may Ins.rmay Ins.two Ins.one Ins.shape Ins.immR Ins.hasImm Ins.w2R Ins.locked Ins.plain Ins.immB Ins.nilB isK
  rw [hF, hR]
  simp only [Ins.inn, inL, e, wOk, w248]
  simp (decide := true) only [e, List.contains_cons, List.contains_nil, dT, dF, Int.reduceBEq, Nat.reduceBEq, Int.reduceToNat, Int.reduceLE, Int.reduceLT, Int.reduceGT, cond_true, cond_false, Bool.true_and, Bool.false_and, Bool.and_false, Bool.and_true, Bool.true_or, Bool.false_or, Bool.or_false, Bool.or_true, Bool.not_true, Bool.not_false]
  by_cases hA : odMay x.a = true
  · by_cases hB : odMay x.b = true
    · rw [hA, hB]
      rcases h1 hA with ea | ea | ea | ea <;> simp only [ea] <;> simp (decide := true) only [ea, List.contains_cons, List.contains_nil, dT, dF, Int.reduceBEq, Nat.reduceBEq, Int.reduceToNat, Int.reduceLE, Int.reduceLT, Int.reduceGT, cond_true, cond_false, Bool.true_and, Bool.false_and, Bool.and_false, Bool.and_true, Bool.true_or, Bool.false_or, Bool.or_false, Bool.or_true, Bool.not_true, Bool.not_false] <;> rcases h2 hB with eb | eb | eb | eb <;> (try simp only [eb]) <;> (try simp (decide := true) only [eb, List.contains_cons, List.contains_nil, dT, dF, Int.reduceBEq, Nat.reduceBEq, Int.reduceToNat, Int.reduceLE, Int.reduceLT, Int.reduceGT, cond_true, cond_false, Bool.true_and, Bool.false_and, Bool.and_false, Bool.and_true, Bool.true_or, Bool.false_or, Bool.or_false, Bool.or_true, Bool.not_true, Bool.not_false]) <;> (try rfl) <;> grind
    · grind
  · grind
theorem may_12 (x : Ins) (e : x.op = 12) (hw : x.w = 1 ∨ x.w = 2 ∨ x.w = 4 ∨ x.w = 8) (hF : x.immW = x.F) (hR : (bif decide (IntKind.i64.wrap (8 * x.w) > 32) then fitsR x.imm 32 else fitsR x.imm (IntKind.i64.wrap (8 * x.w))) = x.F) : x.may = x.rmay := by
  have h1 := odMay_k x.a
  have h2 := odMay_k x.b
  have h3 := odMay_nil x.b
  have h4 := odMay_r1 x.b
  have h5 := F_zero x
  unfold Ins.may Ins.rmay Ins.two Ins.one Ins.shape Ins.immR Ins.hasImm Ins.w2R Ins.locked Ins.plain Ins.immB Ins.nilB isK
  rw [hF, hR]
  simp only [Ins.inn, inL, e, wOk, w248]
  simp (decide := true) only [e, List.contains_cons, List.contains_nil, dT, dF, Int.reduceBEq, Nat.reduceBEq, Int.reduceToNat, Int.reduceLE, Int.reduceLT, Int.reduceGT, cond_true, cond_false, Bool.true_and, Bool.false_and, Bool.and_false, Bool.and_true, Bool.true_or, Bool.false_or, Bool.or_false, Bool.or_true, Bool.not_true, Bool.not_false]
  by_cases hA : odMay x.a = true
  · by_cases hB : odMay x.b = true
    · rw [hA, hB]
      rcases h1 hA with ea | ea | ea | ea <;> simp only [ea] <;> simp (decide := true) only [ea, List.contains_cons, List.contains_nil, dT, dF, Int.reduceBEq, Nat.reduceBEq, Int.reduceToNat, Int.reduceLE, Int.reduceLT, Int.reduceGT, cond_true, cond_false, Bool.true_and, Bool.false_and, Bool.and_false, Bool.and_true, Bool.true_or, Bool.false_or, Bool.or_false, Bool.or_true, Bool.not_true, Bool.not_false] <;> rcases h2 hB with eb | eb | eb | eb <;> (try simp only [eb]) <;> (try simp (decide := true) only [eb, List.contains_cons, List.contains_nil, dT, dF, Int.reduceBEq, Nat.reduceBEq, Int.reduceToNat, Int.reduceLE, Int.reduceLT, Int.reduceGT, cond_true, cond_false, Bool.true_and, Bool.false_and, Bool.and_false, Bool.and_true, Bool.true_or, Bool.false_or, Bool.or_false, Bool.or_true, Bool.not_true, Bool.not_false]) <;> (try rfl) <;> grind
    · grind
  · grind
theorem may_13 (x : Ins) (e : x.op = 13) (hw : x.w = 1 ∨ x.w = 2 ∨ x.w = 4 ∨ x.w = 8) (hF : x.immW = x.F) (hR : (bif decide (IntKind.i64.wrap (8 * x.w) > 32) then fitsR x.imm 32 else fitsR x.imm (IntKind.i64.wrap (8 * x.w))) = x.F) : x.may = x.rmay := by
  have h1 := odMay_k x.a
  have h2 := odMay_k x.b
  have h3 := odMay_nil x.b
  have h4 := odMay_r1 x.b
  have h5 := F_zero x
  unfold Ins.may Ins.rmay Ins.two Ins.one Ins.shape Ins.immR Ins.hasImm Ins.w2R Ins.locked Ins.plain Ins.immB Ins.nilB isK
  rw [hF, hR]
  simp only [Ins.inn, inL, e, wOk, w248]
  simp (decide := true) only [e, List.contains_cons, List.contains_nil, dT, dF, Int.reduceBEq, Nat.reduceBEq, Int.reduceToNat, Int.reduceLE, Int.reduceLT, Int.reduceGT, cond_true, cond_false, Bool.true_and, Bool.false_and, Bool.and_false, Bool.and_true, Bool.true_or, Bool.false_or, Bool.or_false, Bool.or_true, Bool.not_true, Bool.not_false]
  by_cases hA : odMay x.a = true
  · by_cases hB : odMay x.b = true
    · rw [hA, hB]
      rcases h1 hA with ea | ea | ea | ea <;> simp only [ea] <;> simp (decide := true) only [ea, List.contains_cons, List.contains_nil, dT, dF, Int.reduceBEq, Nat.reduceBEq, Int.reduceToNat, Int.reduceLE, Int.reduceLT, Int.reduceGT, cond_true, cond_false, Bool.true_and, Bool.false_and, Bool.and_false, Bool.and_true, Bool.true_or, Bool.false_or, Bool.or_false, Bool.or_true, Bool.not_true, Bool.not_false] <;> rcases h2 hB with eb | eb | eb | eb <;> (try simp only [eb]) <;> (try simp (decide := true) only [eb, List.contains_cons, List.contains_nil, dT, dF, Int.reduceBEq, Nat.reduceBEq, Int.reduceToNat, Int.reduceLE, Int.reduceLT, Int.reduceGT, cond_true, cond_false, Bool.true_and, Bool.false_and, Bool.and_false, Bool.and_true, Bool.true_or, Bool.false_or, Bool.or_false, Bool.or_true, Bool.not_true, Bool.not_false]) <;> (try rfl) <;> grind
    · grind
  · grind
theorem may_14 (x : Ins) (e : x.op = 14) (hw : x.w = 1 ∨ x.w = 2 ∨ x.w = 4 ∨ x.w = 8) (hF : x.immW = x.F) (hR : (bif decide (IntKind.i64.wrap (8 * x.w) > 32) then fitsR x.imm 32 else fitsR x.imm (IntKind.i64.wrap (8 * x.w))) = x.F) : x.may = x.rmay := by
  have h1 := odMay_k x.a
  have h2 := odMay_k x.b
  have h3 := odMay_nil x.b
  have h4 := odMay_r1 x.b
  have h5 := F_zero x
  unfold Ins.may Ins.rmay Ins.two Ins.one Ins.shape Ins.immR Ins.hasImm Ins.w2R Ins.locked Ins.plain Ins.immB Ins.nilB isK
  rw [hF, hR]
  simp only [Ins.inn, inL, e, wOk, w248]
  simp (decide := true) only [e, List.contains_cons, List.contains_nil, dT, dF, Int.reduceBEq, Nat.reduceBEq, Int.reduceToNat, Int.reduceLE, Int.reduceLT, Int.reduceGT, cond_true, cond_false, Bool.true_and, Bool.false_and, Bool.and_false, Bool.and_true, Bool.true_or, Bool.false_or, Bool.or_false, Bool.or_true, Bool.not_true, Bool.not_false]
  by_cases hA : odMay x.a = true
  · by_cases hB : odMay x.b = true
    · rw [hA, hB]
      rcases h1 hA with ea | ea | ea | ea <;> simp only [ea] <;> simp (decide := true) only [ea, List.contains_cons, List.contains_nil, dT, dF, Int.reduceBEq, Nat.reduceBEq, Int.reduceToNat, Int.reduceLE, Int.reduceLT, Int.reduceGT, cond_true, cond_false, Bool.true_and, Bool.false_and, Bool.and_false, Bool.and_true, Bool.true_or, Bool.false_or, Bool.or_false, Bool.or_true, Bool.not_true, Bool.not_false] <;> rcases h2 hB with eb | eb | eb | eb <;> (try simp only [eb]) <;> (try simp (decide := true) only [eb, List.contains_cons, List.contains_nil, dT, dF, Int.reduceBEq, Nat.reduceBEq, Int.reduceToNat, Int.reduceLE, Int.reduceLT, Int.reduceGT, cond_true, cond_false, Bool.true_and, Bool.false_and, Bool.and_false, Bool.and_true, Bool.true_or, Bool.false_or, Bool.or_false, Bool.or_true, Bool.not_true, Bool.not_false]) <;> (try rfl) <;> grind
    · grind
  · grind
theorem may_15 (x : Ins) (e : x.op = 15) (hw : x.w = 1 ∨ x.w = 2 ∨ x.w = 4 ∨ x.w = 8) (hF : x.immW = x.F) (hR : (bif decide (IntKind.i64.wrap (8 * x.w) > 32) then fitsR x.imm 32 else fitsR x.imm (IntKind.i64.wrap (8 * x.w))) = x.F) : x.may = x.rmay := by
  have h1 := odMay_k x.a
  have h2 := odMay_k x.b
  have h3 := odMay_nil x.b
  have h4 := odMay_r1 x.b
  have h5 := F_zero x
  unfold Ins.may Ins.rmay Ins.two Ins.one Ins.shape Ins.immR Ins.hasImm Ins.w2R Ins.locked Ins.plain Ins.immB Ins.nilB isK
  rw [hF, hR]
  simp only [Ins.inn, inL, e, wOk, w248]
  simp (decide := true) only [e, List.contains_cons, List.contains_nil, dT, dF, Int.reduceBEq, Nat.reduceBEq, Int.reduceToNat, Int.reduceLE, Int.reduceLT, Int.reduceGT, cond_true, cond_false, Bool.true_and, Bool.false_and, Bool.and_false, Bool.and_true, Bool.true_or, Bool.false_or, Bool.or_false, Bool.or_true, Bool.not_true, Bool.not_false]
  by_cases hA : odMay x.a = true
  · by_cases hB : odMay x.b = true
    · rw [hA, hB]
      rcases h1 hA with ea | ea | ea | ea <;> simp only [ea] <;> simp (decide := true) only [ea, List.contains_cons, List.contains_nil, dT, dF, Int.reduceBEq, Nat.reduceBEq, Int.reduceToNat, Int.reduceLE, Int.reduceLT, Int.reduceGT, cond_true, cond_false, Bool.true_and, Bool.false_and, Bool.and_false, Bool.and_true, Bool.true_or, Bool.false_or, Bool.or_false, Bool.or_true, Bool.not_true, Bool.not_false] <;> rcases h2 hB with eb | eb | eb | eb <;> (try simp only [eb]) <;> (try simp (decide := true) only [eb, List.contains_cons, List.contains_nil, dT, dF, Int.reduceBEq, Nat.reduceBEq, Int.reduceToNat, Int.reduceLE, Int.reduceLT, Int.reduceGT, cond_true, cond_false, Bool.true_and, Bool.false_and, Bool.and_false, Bool.and_true, Bool.true_or, Bool.false_or, Bool.or_false, Bool.or_true, Bool.not_true, Bool.not_false]) <;> (try rfl) <;> grind
    · grind
  · grind
theorem may_16 (x : Ins) (e : x.op = 16) (hw : x.w = 1 ∨ x.w = 2 ∨ x.w = 4 ∨ x.w = 8) (hF : x.immW = x.F) (hR : (bif decide (IntKind.i64.wrap (8 * x.w) > 32) then fitsR x.imm 32 else fitsR x.imm (IntKind.i64.wrap (8 * x.w))) = x.F) : x.may = x.rmay := by
  have h1 := odMay_k x.a
  have h2 := odMay_k x.b
  have h3 := odMay_nil x.b
  have h4 := odMay_r1 x.b
  have h5 := F_zero x
  unfold Ins.may Ins.rmay Ins.two Ins.one Ins.shape Ins.immR Ins.hasImm Ins.w2R Ins.locked Ins.plain Ins.immB Ins.nilB isK
  rw [hF, hR]
  simp only [Ins.inn, inL, e, wOk, w248]
  simp (decide := true) only [e, List.contains_cons, List.contains_nil, dT, dF, Int.reduceBEq, Nat.reduceBEq, Int.reduceToNat, Int.reduceLE, Int.reduceLT, Int.reduceGT, cond_true, cond_false, Bool.true_and, Bool.false_and, Bool.and_false, Bool.and_true, Bool.true_or, Bool.false_or, Bool.or_false, Bool.or_true, Bool.not_true, Bool.not_false]
  by_cases hA : odMay x.a = true
  · by_cases hB : odMay x.b = true
    · rw [hA, hB]
      rcases h1 hA with ea | ea | ea | ea <;> simp only [ea] <;> simp (decide := true) only [ea, List.contains_cons, List.contains_nil, dT, dF, Int.reduceBEq, Nat.reduceBEq, Int.reduceToNat, Int.reduceLE, Int.reduceLT, Int.reduceGT, cond_true, cond_false, Bool.true_and, Bool.false_and, Bool.and_false, Bool.and_true, Bool.true_or, Bool.false_or, Bool.or_false, Bool.or_true, Bool.not_true, Bool.not_false] <;> rcases h2 hB with eb | eb | eb | eb <;> (try simp only [eb]) <;> (try simp (decide := true) only [eb, List.contains_cons, List.contains_nil, dT, dF, Int.reduceBEq, Nat.reduceBEq, Int.reduceToNat, Int.reduceLE, Int.reduceLT, Int.reduceGT, cond_true, cond_false, Bool.true_and, Bool.false_and, Bool.and_false, Bool.and_true, Bool.true_or, Bool.false_or, Bool.or_false, Bool.or_true, Bool.not_true, Bool.not_false]) <;> (try rfl) <;> grind
    · grind
  · grind
theorem may_17 (x : Ins) (e : x.op = 17) (hw : x.w = 1 ∨ x.w = 2 ∨ x.w = 4 ∨ x.w = 8) (hF : x.immW = x.F) (hR : (bif decide (IntKind.i64.wrap (8 * x.w) > 32) then fitsR x.imm 32 else fitsR x.imm (IntKind.i64.wrap (8 * x.w))) = x.F) : x.may = x.rmay := by
  have h1 := odMay_k x.a
  have h2 := odMay_k x.b
  have h3 := odMay_nil x.b
  have h4 := odMay_r1 x.b
  have h5 := F_zero x
  unfold Ins.may Ins.rmay Ins.two Ins.one Ins.shape Ins.immR Ins.hasImm Ins.w2R Ins.locked Ins.plain Ins.immB Ins.nilB isK
  rw [hF, hR]
  simp only [Ins.inn, inL, e, wOk, w248]
  simp (decide := true) only [e, List.contains_cons, List.contains_nil, dT, dF, Int.reduceBEq, Nat.reduceBEq, Int.reduceToNat, Int.reduceLE, Int.reduceLT, Int.reduceGT, cond_true, cond_false, Bool.true_and, Bool.false_and, Bool.and_false, Bool.and_true, Bool.true_or, Bool.false_or, Bool.or_false, Bool.or_true, Bool.not_true, Bool.not_false]
  by_cases hA : odMay x.a = true
  · by_cases hB : odMay x.b = true
    · rw [hA, hB]
      rcases h1 hA with ea | ea | ea | ea <;> simp only [ea] <;> simp (decide := true) only [ea, List.contains_cons, List.contains_nil, dT, dF, Int.reduceBEq, Nat.reduceBEq, Int.reduceToNat, Int.reduceLE, Int.reduceLT, Int.reduceGT, cond_true, cond_false, Bool.true_and, Bool.false_and, Bool.and_false, Bool.and_true, Bool.true_or, Bool.false_or, Bool.or_false, Bool.or_true, Bool.not_true, Bool.not_false] <;> rcases h2 hB with eb | eb | eb | eb <;> (try simp only [eb]) <;> (try simp (decide := true) only [eb, List.contains_cons, List.contains_nil, dT, dF, Int.reduceBEq, Nat.reduceBEq, Int.reduceToNat, Int.reduceLE, Int.reduceLT, Int.reduceGT, cond_true, cond_false, Bool.true_and, Bool.false_and, Bool.and_false, Bool.and_true, Bool.true_or, Bool.false_or, Bool.or_false, Bool.or_true, Bool.not_true, Bool.not_false]) <;> (try rfl) <;> grind
    · grind
  · grind
theorem may_18 (x : Ins) (e : x.op = 18) (hw : x.w = 1 ∨ x.w = 2 ∨ x.w = 4 ∨ x.w = 8) (hF : x.immW = x.F) (hR : (bif decide (IntKind.i64.wrap (8 * x.w) > 32) then fitsR x.imm 32 else fitsR x.imm (IntKind.i64.wrap (8 * x.w))) = x.F) : x.may = x.rmay := by
  have h1 := odMay_k x.a
  have h2 := odMay_k x.b
  have h3 := odMay_nil x.b
  have h4 := odMay_r1 x.b
  have h5 := F_zero x
  unfold Ins.may Ins.rmay Ins.two Ins.one Ins.shape Ins.immR Ins.hasImm Ins.w2R Ins.locked Ins.plain Ins.immB Ins.nilB isK
  rw [hF, hR]
  simp only [Ins.inn, inL, e, wOk, w248]
  simp (decide := true) only [e, List.contains_cons, List.contains_nil, dT, dF, Int.reduceBEq, Nat.reduceBEq, Int.reduceToNat, Int.reduceLE, Int.reduceLT, Int.reduceGT, cond_true, cond_false, Bool.true_and, Bool.false_and, Bool.and_false, Bool.and_true, Bool.true_or, Bool.false_or, Bool.or_false, Bool.or_true, Bool.not_true, Bool.not_false]
  by_cases hA : odMay x.a = true
  · by_cases hB : odMay x.b = true
    · rw [hA, hB]
      rcases h1 hA with ea | ea | ea | ea <;> simp only [ea] <;> simp (decide := true) only [ea, List.contains_cons, List.contains_nil, dT, dF, Int.reduceBEq, Nat.reduceBEq, Int.reduceToNat, Int.reduceLE, Int.reduceLT, Int.reduceGT, cond_true, cond_false, Bool.true_and, Bool.false_and, Bool.and_false, Bool.and_true, Bool.true_or, Bool.false_or, Bool.or_false, Bool.or_true, Bool.not_true, Bool.not_false] <;> rcases h2 hB with eb | eb | eb | eb <;> (try simp only [eb]) <;> (try simp (decide := true) only [eb, List.contains_cons, List.contains_nil, dT, dF, Int.reduceBEq, Nat.reduceBEq, Int.reduceToNat, Int.reduceLE, Int.reduceLT, Int.reduceGT, cond_true, cond_false, Bool.true_and, Bool.false_and, Bool.and_false, Bool.and_true, Bool.true_or, Bool.false_or, Bool.or_false, Bool.or_true, Bool.not_true, Bool.not_false]) <;> (try rfl) <;> grind
    · grind
  · grind
theorem may_19 (x : Ins) (e : x.op = 19) (hw : x.w = 1 ∨ x.w = 2 ∨ x.w = 4 ∨ x.w = 8) (hF : x.immW = x.F) (hR : (bif decide (IntKind.i64.wrap (8 * x.w) > 32) then fitsR x.imm 32 else fitsR x.imm (IntKind.i64.wrap (8 * x.w))) = x.F) : x.may = x.rmay := by
  have h1 := odMay_k x.a
  have h2 := odMay_k x.b
  have h3 := odMay_nil x.b
  have h4 := odMay_r1 x.b
  have h5 := F_zero x
  unfold Ins.may Ins.rmay Ins.two Ins.one Ins.shape Ins.immR Ins.hasImm Ins.w2R Ins.locked Ins.plain Ins.immB Ins.nilB isK
  rw [hF, hR]
  simp only [Ins.inn, inL, e, wOk, w248]
  simp (decide := true) only [e, List.contains_cons, List.contains_nil, dT, dF, Int.reduceBEq, Nat.reduceBEq, Int.reduceToNat, Int.reduceLE, Int.reduceLT, Int.reduceGT, cond_true, cond_false, Bool.true_and, Bool.false_and, Bool.and_false, Bool.and_true, Bool.true_or, Bool.false_or, Bool.or_false, Bool.or_true, Bool.not_true, Bool.not_false]
  by_cases hA : odMay x.a = true
  · by_cases hB : odMay x.b = true
    · rw [hA, hB]
      rcases h1 hA with ea | ea | ea | ea <;> simp only [ea] <;> simp (decide := true) only [ea, List.contains_cons, List.contains_nil, dT, dF, Int.reduceBEq, Nat.reduceBEq, Int.reduceToNat, Int.reduceLE, Int.reduceLT, Int.reduceGT, cond_true, cond_false, Bool.true_and, Bool.false_and, Bool.and_false, Bool.and_true, Bool.true_or, Bool.false_or, Bool.or_false, Bool.or_true, Bool.not_true, Bool.not_false] <;> rcases h2 hB with eb | eb | eb | eb <;> (try simp only [eb]) <;> (try simp (decide := true) only [eb, List.contains_cons, List.contains_nil, dT, dF, Int.reduceBEq, Nat.reduceBEq, Int.reduceToNat, Int.reduceLE, Int.reduceLT, Int.reduceGT, cond_true, cond_false, Bool.true_and, Bool.false_and, Bool.and_false, Bool.and_true, Bool.true_or, Bool.false_or, Bool.or_false, Bool.or_true, Bool.not_true, Bool.not_false]) <;> (try rfl) <;> grind
    · grind
  · grind
theorem may_20 (x : Ins) (e : x.op = 20) (hw : x.w = 1 ∨ x.w = 2 ∨ x.w = 4 ∨ x.w = 8) (hF : x.immW = x.F) (hR : (bif decide (IntKind.i64.wrap (8 * x.w) > 32) then fitsR x.imm 32 else fitsR x.imm (IntKind.i64.wrap (8 * x.w))) = x.F) : x.may = x.rmay := by
  have h1 := odMay_k x.a
  have h2 := odMay_k x.b
  have h3 := odMay_nil x.b
  have h4 := odMay_r1 x.b
  have h5 := F_zero x
  unfold Ins.may Ins.rmay Ins.two Ins.one Ins.shape Ins.immR Ins.hasImm Ins.w2R Ins.locked Ins.plain Ins.immB Ins.nilB isK
  rw [hF, hR]
  simp only [Ins.inn, inL, e, wOk, w248]
  simp (decide := true) only [e, List.contains_cons, List.contains_nil, dT, dF, Int.reduceBEq, Nat.reduceBEq, Int.reduceToNat, Int.reduceLE, Int.reduceLT, Int.reduceGT, cond_true, cond_false, Bool.true_and, Bool.false_and, Bool.and_false, Bool.and_true, Bool.true_or, Bool.false_or, Bool.or_false, Bool.or_true, Bool.not_true, Bool.not_false]
  by_cases hA : odMay x.a = true
  · by_cases hB : odMay x.b = true
    · rw [hA, hB]
      rcases h1 hA with ea | ea | ea | ea <;> simp only [ea] <;> simp (decide := true) only [ea, List.contains_cons, List.contains_nil, dT, dF, Int.reduceBEq, Nat.reduceBEq, Int.reduceToNat, Int.reduceLE, Int.reduceLT, Int.reduceGT, cond_true, cond_false, Bool.true_and, Bool.false_and, Bool.and_false, Bool.and_true, Bool.true_or, Bool.false_or, Bool.or_false, Bool.or_true, Bool.not_true, Bool.not_false] <;> rcases h2 hB with eb | eb | eb | eb <;> (try simp only [eb]) <;> (try simp (decide := true) only [eb, List.contains_cons, List.contains_nil, dT, dF, Int.reduceBEq, Nat.reduceBEq, Int.reduceToNat, Int.reduceLE, Int.reduceLT, Int.reduceGT, cond_true, cond_false, Bool.true_and, Bool.false_and, Bool.and_false, Bool.and_true, Bool.true_or, Bool.false_or, Bool.or_false, Bool.or_true, Bool.not_true, Bool.not_false]) <;> (try rfl) <;> grind
    · grind
  · grind
theorem may_21 (x : Ins) (e : x.op = 21) (hw : x.w = 1 ∨ x.w = 2 ∨ x.w = 4 ∨ x.w = 8) (hF : x.immW = x.F) (hR : (bif decide (IntKind.i64.wrap (8 * x.w) > 32) then fitsR x.imm 32 else fitsR x.imm (IntKind.i64.wrap (8 * x.w))) = x.F) : x.may = x.rmay := by
  have h1 := odMay_k x.a
  have h2 := odMay_k x.b
  have h3 := odMay_nil x.b
  have h4 := odMay_r1 x.b
  have h5 := F_zero x
  unfold Ins.may Ins.rmay Ins.two Ins.one Ins.shape Ins.immR Ins.hasImm Ins.w2R Ins.locked Ins.plain Ins.immB Ins.nilB isK
  rw [hF, hR]
  simp only [Ins.inn, inL, e, wOk, w248]
  simp (decide := true) only [e, List.contains_cons, List.contains_nil, dT, dF, Int.reduceBEq, Nat.reduceBEq, Int.reduceToNat, Int.reduceLE, Int.reduceLT, Int.reduceGT, cond_true, cond_false, Bool.true_and, Bool.false_and, Bool.and_false, Bool.and_true, Bool.true_or, Bool.false_or, Bool.or_false, Bool.or_true, Bool.not_true, Bool.not_false]
  by_cases hA : odMay x.a = true
  · by_cases hB : odMay x.b = true
    · rw [hA, hB]
      rcases h1 hA with ea | ea | ea | ea <;> simp only [ea] <;> simp (decide := true) only [ea, List.contains_cons, List.contains_nil, dT, dF, Int.reduceBEq, Nat.reduceBEq, Int.reduceToNat, Int.reduceLE, Int.reduceLT, Int.reduceGT, cond_true, cond_false, Bool.true_and, Bool.false_and, Bool.and_false, Bool.and_true, Bool.true_or, Bool.false_or, Bool.or_false, Bool.or_true, Bool.not_true, Bool.not_false] <;> rcases h2 hB with eb | eb | eb | eb <;> (try simp only [eb]) <;> (try simp (decide := true) only [eb, List.contains_cons, List.contains_nil, dT, dF, Int.reduceBEq, Nat.reduceBEq, Int.reduceToNat, Int.reduceLE, Int.reduceLT, Int.reduceGT, cond_true, cond_false, Bool.true_and, Bool.false_and, Bool.and_false, Bool.and_true, Bool.true_or, Bool.false_or, Bool.or_false, Bool.or_true, Bool.not_true, Bool.not_false]) <;> (try rfl) <;> grind
    · grind
  · grind
theorem may_22 (x : Ins) (e : x.op = 22) (hw : x.w = 1 ∨ x.w = 2 ∨ x.w = 4 ∨ x.w = 8) (hF : x.immW = x.F) (hR : (bif decide (IntKind.i64.wrap (8 * x.w) > 32) then fitsR x.imm 32 else fitsR x.imm (IntKind.i64.wrap (8 * x.w))) = x.F) : x.may = x.rmay := by
  have h1 := odMay_k x.a
  have h2 := odMay_k x.b
  have h3 := odMay_nil x.b
  have h4 := odMay_r1 x.b
  have h5 := F_zero x
  unfold Ins.may Ins.rmay Ins.two Ins.one Ins.shape Ins.immR Ins.hasImm Ins.w2R Ins.locked Ins.plain Ins.immB Ins.nilB isK
  rw [hF, hR]
  simp only [Ins.inn, inL, e, wOk, w248]
  simp (decide := true) only [e, List.contains_cons, List.contains_nil, dT, dF, Int.reduceBEq, Nat.reduceBEq, Int.reduceToNat, Int.reduceLE, Int.reduceLT, Int.reduceGT, cond_true, cond_false, Bool.true_and, Bool.false_and, Bool.and_false, Bool.and_true, Bool.true_or, Bool.false_or, Bool.or_false, Bool.or_true, Bool.not_true, Bool.not_false]
  by_cases hA : odMay x.a = true
  · by_cases hB : odMay x.b = true
    · rw [hA, hB]
      rcases h1 hA with ea | ea | ea | ea <;> simp only [ea] <;> simp (decide := true) only [ea, List.contains_cons, List.contains_nil, dT, dF, Int.reduceBEq, Nat.reduceBEq, Int.reduceToNat, Int.reduceLE, Int.reduceLT, Int.reduceGT, cond_true, cond_false, Bool.true_and, Bool.false_and, Bool.and_false, Bool.and_true, Bool.true_or, Bool.false_or, Bool.or_false, Bool.or_true, Bool.not_true, Bool.not_false] <;> rcases h2 hB with eb | eb | eb | eb <;> (try simp only [eb]) <;> (try simp (decide := true) only [eb, List.contains_cons, List.contains_nil, dT, dF, Int.reduceBEq, Nat.reduceBEq, Int.reduceToNat, Int.reduceLE, Int.reduceLT, Int.reduceGT, cond_true, cond_false, Bool.true_and, Bool.false_and, Bool.and_false, Bool.and_true, Bool.true_or, Bool.false_or, Bool.or_false, Bool.or_true, Bool.not_true, Bool.not_false]) <;> (try rfl) <;> grind
    · grind
  · grind
theorem may_23 (x : Ins) (e : x.op = 23) (hw : x.w = 1 ∨ x.w = 2 ∨ x.w = 4 ∨ x.w = 8) (hF : x.immW = x.F) (hR : (bif decide (IntKind.i64.wrap (8 * x.w) > 32) then fitsR x.imm 32 else fitsR x.imm (IntKind.i64.wrap (8 * x.w))) = x.F) : x.may = x.rmay := by
  have h1 := odMay_k x.a
  have h2 := odMay_k x.b
  have h3 := odMay_nil x.b
  have h4 := odMay_r1 x.b
  have h5 := F_zero x
  unfold Ins.may Ins.rmay Ins.two Ins.one Ins.shape Ins.immR Ins.hasImm Ins.w2R Ins.locked Ins.plain Ins.immB Ins.nilB isK
  rw [hF, hR]
  simp only [Ins.inn, inL, e, wOk, w248]
  simp (decide := true) only [e, List.contains_cons, List.contains_nil, dT, dF, Int.reduceBEq, Nat.reduceBEq, Int.reduceToNat, Int.reduceLE, Int.reduceLT, Int.reduceGT, cond_true, cond_false, Bool.true_and, Bool.false_and, Bool.and_false, Bool.and_true, Bool.true_or, Bool.false_or, Bool.or_false, Bool.or_true, Bool.not_true, Bool.not_false]
  by_cases hA : odMay x.a = true
  · by_cases hB : odMay x.b = true
    · rw [hA, hB]
      rcases h1 hA with ea | ea | ea | ea <;> simp only [ea] <;> simp (decide := true) only [ea, List.contains_cons, List.contains_nil, dT, dF, Int.reduceBEq, Nat.reduceBEq, Int.reduceToNat, Int.reduceLE, Int.reduceLT, Int.reduceGT, cond_true, cond_false, Bool.true_and, Bool.false_and, Bool.and_false, Bool.and_true, Bool.true_or, Bool.false_or, Bool.or_false, Bool.or_true, Bool.not_true, Bool.not_false] <;> rcases h2 hB with eb | eb | eb | eb <;> (try simp only [eb]) <;> (try simp (decide := true) only [eb, List.contains_cons, List.contains_nil, dT, dF, Int.reduceBEq, Nat.reduceBEq, Int.reduceToNat, Int.reduceLE, Int.reduceLT, Int.reduceGT, cond_true, cond_false, Bool.true_and, Bool.false_and, Bool.and_false, Bool.and_true, Bool.true_or, Bool.false_or, Bool.or_false, Bool.or_true, Bool.not_true, Bool.not_false]) <;> (try rfl) <;> grind
    · grind
  · grind
theorem may_24 (x : Ins) (e : x.op = 24) (hw : x.w = 1 ∨ x.w = 2 ∨ x.w = 4 ∨ x.w = 8) (hF : x.immW = x.F) (hR : (bif decide (IntKind.i64.wrap (8 * x.w) > 32) then fitsR x.imm 32 else fitsR x.imm (IntKind.i64.wrap (8 * x.w))) = x.F) : x.may = x.rmay := by
  have h1 := odMay_k x.a
  have h2 := odMay_k x.b
  have h3 := odMay_nil x.b
  have h4 := odMay_r1 x.b
  have h5 := F_zero x
  unfold Ins.may Ins.rmay Ins.two Ins.one Ins.shape Ins.immR Ins.hasImm Ins.w2R Ins.locked Ins.plain Ins.immB Ins.nilB isK
  rw [hF, hR]
  simp only [Ins.inn, inL, e, wOk, w248]
  simp (decide := true) only [e, List.contains_cons, List.contains_nil, dT, dF, Int.reduceBEq, Nat.reduceBEq, Int.reduceToNat, Int.reduceLE, Int.reduceLT, Int.reduceGT, cond_true, cond_false, Bool.true_and, Bool.false_and, Bool.and_false, Bool.and_true, Bool.true_or, Bool.false_or, Bool.or_false, Bool.or_true, Bool.not_true, Bool.not_false]
  by_cases hA : odMay x.a = true
  · by_cases hB : odMay x.b = true
    · rw [hA, hB]
      rcases h1 hA with ea | ea | ea | ea <;> simp only [ea] <;> simp (decide := true) only [ea, List.contains_cons, List.contains_nil, dT, dF, Int.reduceBEq, Nat.reduceBEq, Int.reduceToNat, Int.reduceLE, Int.reduceLT, Int.reduceGT, cond_true, cond_false, Bool.true_and, Bool.false_and, Bool.and_false, Bool.and_true, Bool.true_or, Bool.false_or, Bool.or_false, Bool.or_true, Bool.not_true, Bool.not_false] <;> rcases h2 hB with eb | eb | eb | eb <;> (try simp only [eb]) <;> (try simp (decide := true) only [eb, List.contains_cons, List.contains_nil, dT, dF, Int.reduceBEq, Nat.reduceBEq, Int.reduceToNat, Int.reduceLE, Int.reduceLT, Int.reduceGT, cond_true, cond_false, Bool.true_and, Bool.false_and, Bool.and_false, Bool.and_true, Bool.true_or, Bool.false_or, Bool.or_false, Bool.or_true, Bool.not_true, Bool.not_false]) <;> (try rfl) <;> grind
    · grind
  · grind
theorem may_25 (x : Ins) (e : x.op = 25) (hw : x.w = 1 ∨ x.w = 2 ∨ x.w = 4 ∨ x.w = 8) (hF : x.immW = x.F) (hR : (bif decide (IntKind.i64.wrap (8 * x.w) > 32) then fitsR x.imm 32 else fitsR x.imm (IntKind.i64.wrap (8 * x.w))) = x.F) : x.may = x.rmay := by
  have h1 := odMay_k x.a
  have h2 := odMay_k x.b
  have h3 := odMay_nil x.b
  have h4 := odMay_r1 x.b
  have h5 := F_zero x
  unfold Ins.may Ins.rmay Ins.two Ins.one Ins.shape Ins.immR Ins.hasImm Ins.w2R Ins.locked Ins.plain Ins.immB Ins.nilB isK
  rw [hF, hR]
  simp only [Ins.inn, inL, e, wOk, w248]
  simp (decide := true) only [e, List.contains_cons, List.contains_nil, dT, dF, Int.reduceBEq, Nat.reduceBEq, Int.reduceToNat, Int.reduceLE, Int.reduceLT, Int.reduceGT, cond_true, cond_false, Bool.true_and, Bool.false_and, Bool.and_false, Bool.and_true, Bool.true_or, Bool.false_or, Bool.or_false, Bool.or_true, Bool.not_true, Bool.not_false]
  by_cases hA : odMay x.a = true
  · by_cases hB : odMay x.b = true
    · rw [hA, hB]
      rcases h1 hA with ea | ea | ea | ea <;> simp only [ea] <;> simp (decide := true) only [ea, List.contains_cons, List.contains_nil, dT, dF, Int.reduceBEq, Nat.reduceBEq, Int.reduceToNat, Int.reduceLE, Int.reduceLT, Int.reduceGT, cond_true, cond_false, Bool.true_and, Bool.false_and, Bool.and_false, Bool.and_true, Bool.true_or, Bool.false_or, Bool.or_false, Bool.or_true, Bool.not_true, Bool.not_false] <;> rcases h2 hB with eb | eb | eb | eb <;> (try simp only [eb]) <;> (try simp (decide := true) only [eb, List.contains_cons, List.contains_nil, dT, dF, Int.reduceBEq, Nat.reduceBEq, Int.reduceToNat, Int.reduceLE, Int.reduceLT, Int.reduceGT, cond_true, cond_false, Bool.true_and, Bool.false_and, Bool.and_false, Bool.and_true, Bool.true_or, Bool.false_or, Bool.or_false, Bool.or_true, Bool.not_true, Bool.not_false]) <;> (try rfl) <;> grind
    · grind
  · grind
theorem may_26 (x : Ins) (e : x.op = 26) (hw : x.w = 1 ∨ x.w = 2 ∨ x.w = 4 ∨ x.w = 8) (hF : x.immW = x.F) (hR : (bif decide (IntKind.i64.wrap (8 * x.w) > 32) then fitsR x.imm 32 else fitsR x.imm (IntKind.i64.wrap (8 * x.w))) = x.F) : x.may = x.rmay := by
  have h1 := odMay_k x.a
  have h2 := odMay_k x.b
  have h3 := odMay_nil x.b
  have h4 := odMay_r1 x.b
  have h5 := F_zero x
  unfold Ins.may Ins.rmay Ins.two Ins.one Ins.shape Ins.immR Ins.hasImm Ins.w2R Ins.locked Ins.plain Ins.immB Ins.nilB isK
  rw [hF, hR]
  simp only [Ins.inn, inL, e, wOk, w248]
  simp (decide := true) only [e, List.contains_cons, List.contains_nil, dT, dF, Int.reduceBEq, Nat.reduceBEq, Int.reduceToNat, Int.reduceLE, Int.reduceLT, Int.reduceGT, cond_true, cond_false, Bool.true_and, Bool.false_and, Bool.and_false, Bool.and_true, Bool.true_or, Bool.false_or, Bool.or_false, Bool.or_true, Bool.not_true, Bool.not_false]
  by_cases hA : odMay x.a = true
  · by_cases hB : odMay x.b = true
    · rw [hA, hB]
      rcases h1 hA with ea | ea | ea | ea <;> simp only [ea] <;> simp (decide := true) only [ea, List.contains_cons, List.contains_nil, dT, dF, Int.reduceBEq, Nat.reduceBEq, Int.reduceToNat, Int.reduceLE, Int.reduceLT, Int.reduceGT, cond_true, cond_false, Bool.true_and, Bool.false_and, Bool.and_false, Bool.and_true, Bool.true_or, Bool.false_or, Bool.or_false, Bool.or_true, Bool.not_true, Bool.not_false] <;> rcases h2 hB with eb | eb | eb | eb <;> (try simp only [eb]) <;> (try simp (decide := true) only [eb, List.contains_cons, List.contains_nil, dT, dF, Int.reduceBEq, Nat.reduceBEq, Int.reduceToNat, Int.reduceLE, Int.reduceLT, Int.reduceGT, cond_true, cond_false, Bool.true_and, Bool.false_and, Bool.and_false, Bool.and_true, Bool.true_or, Bool.false_or, Bool.or_false, Bool.or_true, Bool.not_true, Bool.not_false]) <;> (try rfl) <;> grind
    · grind
  · grind
theorem may_27 (x : Ins) (e : x.op = 27) (hw : x.w = 1 ∨ x.w = 2 ∨ x.w = 4 ∨ x.w = 8) (hF : x.immW = x.F) (hR : (bif decide (IntKind.i64.wrap (8 * x.w) > 32) then fitsR x.imm 32 else fitsR x.imm (IntKind.i64.wrap (8 * x.w))) = x.F) : x.may = x.rmay := by
  have h1 := odMay_k x.a
  have h2 := odMay_k x.b
  have h3 := odMay_nil x.b
  have h4 := odMay_r1 x.b
  have h5 := F_zero x
  unfold Ins.may Ins.rmay Ins.two Ins.one Ins.shape Ins.immR Ins.hasImm Ins.w2R Ins.locked Ins.plain Ins.immB Ins.nilB isK
  rw [hF, hR]
  simp only [Ins.inn, inL, e, wOk, w248]
  simp (decide := true) only [e, List.contains_cons, List.contains_nil, dT, dF, Int.reduceBEq, Nat.reduceBEq, Int.reduceToNat, Int.reduceLE, Int.reduceLT, Int.reduceGT, cond_true, cond_false, Bool.true_and, Bool.false_and, Bool.and_false, Bool.and_true, Bool.true_or, Bool.false_or, Bool.or_false, Bool.or_true, Bool.not_true, Bool.not_false]
  by_cases hA : odMay x.a = true
  · by_cases hB : odMay x.b = true
    · rw [hA, hB]
      rcases h1 hA with ea | ea | ea | ea <;> simp only [ea] <;> simp (decide := true) only [ea, List.contains_cons, List.contains_nil, dT, dF, Int.reduceBEq, Nat.reduceBEq, Int.reduceToNat, Int.reduceLE, Int.reduceLT, Int.reduceGT, cond_true, cond_false, Bool.true_and, Bool.false_and, Bool.and_false, Bool.and_true, Bool.true_or, Bool.false_or, Bool.or_false, Bool.or_true, Bool.not_true, Bool.not_false] <;> rcases h2 hB with eb | eb | eb | eb <;> (try simp only [eb]) <;> (try simp (decide := true) only [eb, List.contains_cons, List.contains_nil, dT, dF, Int.reduceBEq, Nat.reduceBEq, Int.reduceToNat, Int.reduceLE, Int.reduceLT, Int.reduceGT, cond_true, cond_false, Bool.true_and, Bool.false_and, Bool.and_false, Bool.and_true, Bool.true_or, Bool.false_or, Bool.or_false, Bool.or_true, Bool.not_true, Bool.not_false]) <;> (try rfl) <;> grind
    · grind
  · grind
theorem may_28 (x : Ins) (e : x.op = 28) (hw : x.w = 1 ∨ x.w = 2 ∨ x.w = 4 ∨ x.w = 8) (hF : x.immW = x.F) (hR : (bif decide (IntKind.i64.wrap (8 * x.w) > 32) then fitsR x.imm 32 else fitsR x.imm (IntKind.i64.wrap (8 * x.w))) = x.F) : x.may = x.rmay := by
  have h1 := odMay_k x.a
  have h2 := odMay_k x.b
  have h3 := odMay_nil x.b
  have h4 := odMay_r1 x.b
  have h5 := F_zero x
  unfold Ins.may Ins.rmay Ins.two Ins.one Ins.shape Ins.immR Ins.hasImm Ins.w2R Ins.locked Ins.plain Ins.immB Ins.nilB isK
  rw [hF, hR]
  simp only [Ins.inn, inL, e, wOk, w248]
  simp (decide := true) only [e, List.contains_cons, List.contains_nil, dT, dF, Int.reduceBEq, Nat.reduceBEq, Int.reduceToNat, Int.reduceLE, Int.reduceLT, Int.reduceGT, cond_true, cond_false, Bool.true_and, Bool.false_and, Bool.and_false, Bool.and_true, Bool.true_or, Bool.false_or, Bool.or_false, Bool.or_true, Bool.not_true, Bool.not_false]
  by_cases hA : odMay x.a = true
  · by_cases hB : odMay x.b = true
    · rw [hA, hB]
      rcases h1 hA with ea | ea | ea | ea <;> simp only [ea] <;> simp (decide := true) only [ea, List.contains_cons, List.contains_nil, dT, dF, Int.reduceBEq, Nat.reduceBEq, Int.reduceToNat, Int.reduceLE, Int.reduceLT, Int.reduceGT, cond_true, cond_false, Bool.true_and, Bool.false_and, Bool.and_false, Bool.and_true, Bool.true_or, Bool.false_or, Bool.or_false, Bool.or_true, Bool.not_true, Bool.not_false] <;> rcases h2 hB with eb | eb | eb | eb <;> (try simp only [eb]) <;> (try simp (decide := true) only [eb, List.contains_cons, List.contains_nil, dT, dF, Int.reduceBEq, Nat.reduceBEq, Int.reduceToNat, Int.reduceLE, Int.reduceLT, Int.reduceGT, cond_true, cond_false, Bool.true_and, Bool.false_and, Bool.and_false, Bool.and_true, Bool.true_or, Bool.false_or, Bool.or_false, Bool.or_true, Bool.not_true, Bool.not_false]) <;> (try rfl) <;> grind
    · grind
  · grind
theorem may_29 (x : Ins) (e : x.op = 29) (hw : x.w = 1 ∨ x.w = 2 ∨ x.w = 4 ∨ x.w = 8) (hF : x.immW = x.F) (hR : (bif decide (IntKind.i64.wrap (8 * x.w) > 32) then fitsR x.imm 32 else fitsR x.imm (IntKind.i64.wrap (8 * x.w))) = x.F) : x.may = x.rmay := by
  have h1 := odMay_k x.a
  have h2 := odMay_k x.b
  have h3 := odMay_nil x.b
  have h4 := odMay_r1 x.b
  have h5 := F_zero x
  unfold Ins.may Ins.rmay Ins.two Ins.one Ins.shape Ins.immR Ins.hasImm Ins.w2R Ins.locked Ins.plain Ins.immB Ins.nilB isK
  rw [hF, hR]
  simp only [Ins.inn, inL, e, wOk, w248]
  simp (decide := true) only [e, List.contains_cons, List.contains_nil, dT, dF, Int.reduceBEq, Nat.reduceBEq, Int.reduceToNat, Int.reduceLE, Int.reduceLT, Int.reduceGT, cond_true, cond_false, Bool.true_and, Bool.false_and, Bool.and_false, Bool.and_true, Bool.true_or, Bool.false_or, Bool.or_false, Bool.or_true, Bool.not_true, Bool.not_false]
  by_cases hA : odMay x.a = true
  · by_cases hB : odMay x.b = true
    · rw [hA, hB]
      rcases h1 hA with ea | ea | ea | ea <;> simp only [ea] <;> simp (decide := true) only [ea, List.contains_cons, List.contains_nil, dT, dF, Int.reduceBEq, Nat.reduceBEq, Int.reduceToNat, Int.reduceLE, Int.reduceLT, Int.reduceGT, cond_true, cond_false, Bool.true_and, Bool.false_and, Bool.and_false, Bool.and_true, Bool.true_or, Bool.false_or, Bool.or_false, Bool.or_true, Bool.not_true, Bool.not_false] <;> rcases h2 hB with eb | eb | eb | eb <;> (try simp only [eb]) <;> (try simp (decide := true) only [eb, List.contains_cons, List.contains_nil, dT, dF, Int.reduceBEq, Nat.reduceBEq, Int.reduceToNat, Int.reduceLE, Int.reduceLT, Int.reduceGT, cond_true, cond_false, Bool.true_and, Bool.false_and, Bool.and_false, Bool.and_true, Bool.true_or, Bool.false_or, Bool.or_false, Bool.or_true, Bool.not_true, Bool.not_false]) <;> (try rfl) <;> grind
    · grind
  · grind
theorem may_30 (x : Ins) (e : x.op = 30) (hw : x.w = 1 ∨ x.w = 2 ∨ x.w = 4 ∨ x.w = 8) (hF : x.immW = x.F) (hR : (bif decide (IntKind.i64.wrap (8 * x.w) > 32) then fitsR x.imm 32 else fitsR x.imm (IntKind.i64.wrap (8 * x.w))) = x.F) : x.may = x.rmay := by
  have h1 := odMay_k x.a
  have h2 := odMay_k x.b
  have h3 := odMay_nil x.b
  have h4 := odMay_r1 x.b
  have h5 := F_zero x
  unfold Ins.may Ins.rmay Ins.two Ins.one Ins.shape Ins.immR Ins.hasImm Ins.w2R Ins.locked Ins.plain Ins.immB Ins.nilB isK
  rw [hF, hR]
  simp only [Ins.inn, inL, e, wOk, w248]
  simp (decide := true) only [e, List.contains_cons, List.contains_nil, dT, dF, Int.reduceBEq, Nat.reduceBEq, Int.reduceToNat, Int.reduceLE, Int.reduceLT, Int.reduceGT, cond_true, cond_false, Bool.true_and, Bool.false_and, Bool.and_false, Bool.and_true, Bool.true_or, Bool.false_or, Bool.or_false, Bool.or_true, Bool.not_true, Bool.not_false]
  by_cases hA : odMay x.a = true
  · by_cases hB : odMay x.b = true
    · rw [hA, hB]
      rcases h1 hA with ea | ea | ea | ea <;> simp only [ea] <;> simp (decide := true) only [ea, List.contains_cons, List.contains_nil, dT, dF, Int.reduceBEq, Nat.reduceBEq, Int.reduceToNat, Int.reduceLE, Int.reduceLT, Int.reduceGT, cond_true, cond_false, Bool.true_and, Bool.false_and, Bool.and_false, Bool.and_true, Bool.true_or, Bool.false_or, Bool.or_false, Bool.or_true, Bool.not_true, Bool.not_false] <;> rcases h2 hB with eb | eb | eb | eb <;> (try simp only [eb]) <;> (try simp (decide := true) only [eb, List.contains_cons, List.contains_nil, dT, dF, Int.reduceBEq, Nat.reduceBEq, Int.reduceToNat, Int.reduceLE, Int.reduceLT, Int.reduceGT, cond_true, cond_false, Bool.true_and, Bool.false_and, Bool.and_false, Bool.and_true, Bool.true_or, Bool.false_or, Bool.or_false, Bool.or_true, Bool.not_true, Bool.not_false]) <;> (try rfl) <;> grind
    · grind
  · grind
theorem may_31 (x : Ins) (e : x.op = 31) (hw : x.w = 1 ∨ x.w = 2 ∨ x.w = 4 ∨ x.w = 8) (hF : x.immW = x.F) (hR : (bif decide (IntKind.i64.wrap (8 * x.w) > 32) then fitsR x.imm 32 else fitsR x.imm (IntKind.i64.wrap (8 * x.w))) = x.F) : x.may = x.rmay := by
  have h1 := odMay_k x.a
  have h2 := odMay_k x.b
  have h3 := odMay_nil x.b
  have h4 := odMay_r1 x.b
  have h5 := F_zero x
  unfold Ins.may Ins.rmay Ins.two Ins.one Ins.shape Ins.immR Ins.hasImm Ins.w2R Ins.locked Ins.plain Ins.immB Ins.nilB isK
  rw [hF, hR]
  simp only [Ins.inn, inL, e, wOk, w248]
  simp (decide := true) only [e, List.contains_cons, List.contains_nil, dT, dF, Int.reduceBEq, Nat.reduceBEq, Int.reduceToNat, Int.reduceLE, Int.reduceLT, Int.reduceGT, cond_true, cond_false, Bool.true_and, Bool.false_and, Bool.and_false, Bool.and_true, Bool.true_or, Bool.false_or, Bool.or_false, Bool.or_true, Bool.not_true, Bool.not_false]
  by_cases hA : odMay x.a = true
  · by_cases hB : odMay x.b = true
    · rw [hA, hB]
      rcases h1 hA with ea | ea | ea | ea <;> simp only [ea] <;> simp (decide := true) only [ea, List.contains_cons, List.contains_nil, dT, dF, Int.reduceBEq, Nat.reduceBEq, Int.reduceToNat, Int.reduceLE, Int.reduceLT, Int.reduceGT, cond_true, cond_false, Bool.true_and, Bool.false_and, Bool.and_false, Bool.and_true, Bool.true_or, Bool.false_or, Bool.or_false, Bool.or_true, Bool.not_true, Bool.not_false] <;> rcases h2 hB with eb | eb | eb | eb <;> (try simp only [eb]) <;> (try simp (decide := true) only [eb, List.contains_cons, List.contains_nil, dT, dF, Int.reduceBEq, Nat.reduceBEq, Int.reduceToNat, Int.reduceLE, Int.reduceLT, Int.reduceGT, cond_true, cond_false, Bool.true_and, Bool.false_and, Bool.and_false, Bool.and_true, Bool.true_or, Bool.false_or, Bool.or_false, Bool.or_true, Bool.not_true, Bool.not_false]) <;> (try rfl) <;> grind
    · grind
  · grind
theorem may_32 (x : Ins) (e : x.op = 32) (hw : x.w = 1 ∨ x.w = 2 ∨ x.w = 4 ∨ x.w = 8) (hF : x.immW = x.F) (hR : (bif decide (IntKind.i64.wrap (8 * x.w) > 32) then fitsR x.imm 32 else fitsR x.imm (IntKind.i64.wrap (8 * x.w))) = x.F) : x.may = x.rmay := by
  have h1 := odMay_k x.a
  have h2 := odMay_k x.b
  have h3 := odMay_nil x.b
  have h4 := odMay_r1 x.b
  have h5 := F_zero x
  unfold Ins.may Ins.rmay Ins.two Ins.one Ins.shape Ins.immR Ins.hasImm Ins.w2R Ins.locked Ins.plain Ins.immB Ins.nilB isK
  rw [hF, hR]
  simp only [Ins.inn, inL, e, wOk, w248]
  simp (decide := true) only [e, List.contains_cons, List.contains_nil, dT, dF, Int.reduceBEq, Nat.reduceBEq, Int.reduceToNat, Int.reduceLE, Int.reduceLT, Int.reduceGT, cond_true, cond_false, Bool.true_and, Bool.false_and, Bool.and_false, Bool.and_true, Bool.true_or, Bool.false_or, Bool.or_false, Bool.or_true, Bool.not_true, Bool.not_false]
  by_cases hA : odMay x.a = true
  · by_cases hB : odMay x.b = true
    · rw [hA, hB]
      rcases h1 hA with ea | ea | ea | ea <;> simp only [ea] <;> simp (decide := true) only [ea, List.contains_cons, List.contains_nil, dT, dF, Int.reduceBEq, Nat.reduceBEq, Int.reduceToNat, Int.reduceLE, Int.reduceLT, Int.reduceGT, cond_true, cond_false, Bool.true_and, Bool.false_and, Bool.and_false, Bool.and_true, Bool.true_or, Bool.false_or, Bool.or_false, Bool.or_true, Bool.not_true, Bool.not_false] <;> rcases h2 hB with eb | eb | eb | eb <;> (try simp only [eb]) <;> (try simp (decide := true) only [eb, List.contains_cons, List.contains_nil, dT, dF, Int.reduceBEq, Nat.reduceBEq, Int.reduceToNat, Int.reduceLE, Int.reduceLT, Int.reduceGT, cond_true, cond_false, Bool.true_and, Bool.false_and, Bool.and_false, Bool.and_true, Bool.true_or, Bool.false_or, Bool.or_false, Bool.or_true, Bool.not_true, Bool.not_false]) <;> (try rfl) <;> grind
    · grind
  · grind
theorem may_33 (x : Ins) (e : x.op = 33) (hw : x.w = 1 ∨ x.w = 2 ∨ x.w = 4 ∨ x.w = 8) (hF : x.immW = x.F) (hR : (bif decide (IntKind.i64.wrap (8 * x.w) > 32) then fitsR x.imm 32 else fitsR x.imm (IntKind.i64.wrap (8 * x.w))) = x.F) : x.may = x.rmay := by
  have h1 := odMay_k x.a
  have h2 := odMay_k x.b
  have h3 := odMay_nil x.b
  have h4 := odMay_r1 x.b
  have h5 := F_zero x
  unfold Ins.may Ins.rmay Ins.two Ins.one Ins.shape Ins.immR Ins.hasImm Ins.w2R Ins.locked Ins.plain Ins.immB Ins.nilB isK
  rw [hF, hR]
  simp only [Ins.inn, inL, e, wOk, w248]
  simp (decide := true) only [e, List.contains_cons, List.contains_nil, dT, dF, Int.reduceBEq, Nat.reduceBEq, Int.reduceToNat, Int.reduceLE, Int.reduceLT, Int.reduceGT, cond_true, cond_false, Bool.true_and, Bool.false_and, Bool.and_false, Bool.and_true, Bool.true_or, Bool.false_or, Bool.or_false, Bool.or_true, Bool.not_true, Bool.not_false]
  by_cases hA : odMay x.a = true
  · by_cases hB : odMay x.b = true
    · rw [hA, hB]
      rcases h1 hA with ea | ea | ea | ea <;> simp only [ea] <;> simp (decide := true) only [ea, List.contains_cons, List.contains_nil, dT, dF, Int.reduceBEq, Nat.reduceBEq, Int.reduceToNat, Int.reduceLE, Int.reduceLT, Int.reduceGT, cond_true, cond_false, Bool.true_and, Bool.false_and, Bool.and_false, Bool.and_true, Bool.true_or, Bool.false_or, Bool.or_false, Bool.or_true, Bool.not_true, Bool.not_false] <;> rcases h2 hB with eb | eb | eb | eb <;> (try simp only [eb]) <;> (try simp (decide := true) only [eb, List.contains_cons, List.contains_nil, dT, dF, Int.reduceBEq, Nat.reduceBEq, Int.reduceToNat, Int.reduceLE, Int.reduceLT, Int.reduceGT, cond_true, cond_false, Bool.true_and, Bool.false_and, Bool.and_false, Bool.and_true, Bool.true_or, Bool.false_or, Bool.or_false, Bool.or_true, Bool.not_true, Bool.not_false]) <;> (try rfl) <;> grind
    · grind
  · grind
theorem may_34 (x : Ins) (e : x.op = 34) (hw : x.w = 1 ∨ x.w = 2 ∨ x.w = 4 ∨ x.w = 8) (hF : x.immW = x.F) (hR : (bif decide (IntKind.i64.wrap (8 * x.w) > 32) then fitsR x.imm 32 else fitsR x.imm (IntKind.i64.wrap (8 * x.w))) = x.F) : x.may = x.rmay := by
  have h1 := odMay_k x.a
  have h2 := odMay_k x.b
  have h3 := odMay_nil x.b
  have h4 := odMay_r1 x.b
  have h5 := F_zero x
  unfold Ins.may Ins.rmay Ins.two Ins.one Ins.shape Ins.immR Ins.hasImm Ins.w2R Ins.locked Ins.plain Ins.immB Ins.nilB isK
  rw [hF, hR]
  simp only [Ins.inn, inL, e, wOk, w248]
  simp (decide := true) only [e, List.contains_cons, List.contains_nil, dT, dF, Int.reduceBEq, Nat.reduceBEq, Int.reduceToNat, Int.reduceLE, Int.reduceLT, Int.reduceGT, cond_true, cond_false, Bool.true_and, Bool.false_and, Bool.and_false, Bool.and_true, Bool.true_or, Bool.false_or, Bool.or_false, Bool.or_true, Bool.not_true, Bool.not_false]
  by_cases hA : odMay x.a = true
  · by_cases hB : odMay x.b = true
    · rw [hA, hB]
      rcases h1 hA with ea | ea | ea | ea <;> simp only [ea] <;> simp (decide := true) only [ea, List.contains_cons, List.contains_nil, dT, dF, Int.reduceBEq, Nat.reduceBEq, Int.reduceToNat, Int.reduceLE, Int.reduceLT, Int.reduceGT, cond_true, cond_false, Bool.true_and, Bool.false_and, Bool.and_false, Bool.and_true, Bool.true_or, Bool.false_or, Bool.or_false, Bool.or_true, Bool.not_true, Bool.not_false] <;> rcases h2 hB with eb | eb | eb | eb <;> (try simp only [eb]) <;> (try simp (decide := true) only [eb, List.contains_cons, List.contains_nil, dT, dF, Int.reduceBEq, Nat.reduceBEq, Int.reduceToNat, Int.reduceLE, Int.reduceLT, Int.reduceGT, cond_true, cond_false, Bool.true_and, Bool.false_and, Bool.and_false, Bool.and_true, Bool.true_or, Bool.false_or, Bool.or_false, Bool.or_true, Bool.not_true, Bool.not_false]) <;> (try rfl) <;> grind
    · grind
  · grind
theorem may_35 (x : Ins) (e : x.op = 35) (hw : x.w = 1 ∨ x.w = 2 ∨ x.w = 4 ∨ x.w = 8) (hF : x.immW = x.F) (hR : (bif decide (IntKind.i64.wrap (8 * x.w) > 32) then fitsR x.imm 32 else fitsR x.imm (IntKind.i64.wrap (8 * x.w))) = x.F) : x.may = x.rmay := by
  have h1 := odMay_k x.a
  have h2 := odMay_k x.b
  have h3 := odMay_nil x.b
  have h4 := odMay_r1 x.b
  have h5 := F_zero x
  unfold Ins.may Ins.rmay Ins.two Ins.one Ins.shape Ins.immR Ins.hasImm Ins.w2R Ins.locked Ins.plain Ins.immB Ins.nilB isK
  rw [hF, hR]
  simp only [Ins.inn, inL, e, wOk, w248]
  simp (decide := true) only [e, List.contains_cons, List.contains_nil, dT, dF, Int.reduceBEq, Nat.reduceBEq, Int.reduceToNat, Int.reduceLE, Int.reduceLT, Int.reduceGT, cond_true, cond_false, Bool.true_and, Bool.false_and, Bool.and_false, Bool.and_true, Bool.true_or, Bool.false_or, Bool.or_false, Bool.or_true, Bool.not_true, Bool.not_false]
  by_cases hA : odMay x.a = true
  · by_cases hB : odMay x.b = true
    · rw [hA, hB]
      rcases h1 hA with ea | ea | ea | ea <;> simp only [ea] <;> simp (decide := true) only [ea, List.contains_cons, List.contains_nil, dT, dF, Int.reduceBEq, Nat.reduceBEq, Int.reduceToNat, Int.reduceLE, Int.reduceLT, Int.reduceGT, cond_true, cond_false, Bool.true_and, Bool.false_and, Bool.and_false, Bool.and_true, Bool.true_or, Bool.false_or, Bool.or_false, Bool.or_true, Bool.not_true, Bool.not_false] <;> rcases h2 hB with eb | eb | eb | eb <;> (try simp only [eb]) <;> (try simp (decide := true) only [eb, List.contains_cons, List.contains_nil, dT, dF, Int.reduceBEq, Nat.reduceBEq, Int.reduceToNat, Int.reduceLE, Int.reduceLT, Int.reduceGT, cond_true, cond_false, Bool.true_and, Bool.false_and, Bool.and_false, Bool.and_true, Bool.true_or, Bool.false_or, Bool.or_false, Bool.or_true, Bool.not_true, Bool.not_false]) <;> (try rfl) <;> grind
    · grind
  · grind
theorem may_36 (x : Ins) (e : x.op = 36) (hw : x.w = 1 ∨ x.w = 2 ∨ x.w = 4 ∨ x.w = 8) (hF : x.immW = x.F) (hR : (bif decide (IntKind.i64.wrap (8 * x.w) > 32) then fitsR x.imm 32 else fitsR x.imm (IntKind.i64.wrap (8 * x.w))) = x.F) : x.may = x.rmay := by
  have h1 := odMay_k x.a
  have h2 := odMay_k x.b
  have h3 := odMay_nil x.b
  have h4 := odMay_r1 x.b
  have h5 := F_zero x
  unfold Ins.may Ins.rmay Ins.two Ins.one Ins.shape Ins.immR Ins.hasImm Ins.w2R Ins.locked Ins.plain Ins.immB Ins.nilB isK
  rw [hF, hR]
  simp only [Ins.inn, inL, e, wOk, w248]
  simp (decide := true) only [e, List.contains_cons, List.contains_nil, dT, dF, Int.reduceBEq, Nat.reduceBEq, Int.reduceToNat, Int.reduceLE, Int.reduceLT, Int.reduceGT, cond_true, cond_false, Bool.true_and, Bool.false_and, Bool.and_false, Bool.and_true, Bool.true_or, Bool.false_or, Bool.or_false, Bool.or_true, Bool.not_true, Bool.not_false]
  by_cases hA : odMay x.a = true
  · by_cases hB : odMay x.b = true
    · rw [hA, hB]
      rcases h1 hA with ea | ea | ea | ea <;> simp only [ea] <;> simp (decide := true) only [ea, List.contains_cons, List.contains_nil, dT, dF, Int.reduceBEq, Nat.reduceBEq, Int.reduceToNat, Int.reduceLE, Int.reduceLT, Int.reduceGT, cond_true, cond_false, Bool.true_and, Bool.false_and, Bool.and_false, Bool.and_true, Bool.true_or, Bool.false_or, Bool.or_false, Bool.or_true, Bool.not_true, Bool.not_false] <;> rcases h2 hB with eb | eb | eb | eb <;> (try simp only [eb]) <;> (try simp (decide := true) only [eb, List.contains_cons, List.contains_nil, dT, dF, Int.reduceBEq, Nat.reduceBEq, Int.reduceToNat, Int.reduceLE, Int.reduceLT, Int.reduceGT, cond_true, cond_false, Bool.true_and, Bool.false_and, Bool.and_false, Bool.and_true, Bool.true_or, Bool.false_or, Bool.or_false, Bool.or_true, Bool.not_true, Bool.not_false]) <;> (try rfl) <;> grind
    · grind
  · grind
theorem may_37 (x : Ins) (e : x.op = 37) (hw : x.w = 1 ∨ x.w = 2 ∨ x.w = 4 ∨ x.w = 8) (hF : x.immW = x.F) (hR : (bif decide (IntKind.i64.wrap (8 * x.w) > 32) then fitsR x.imm 32 else fitsR x.imm (IntKind.i64.wrap (8 * x.w))) = x.F) : x.may = x.rmay := by
  have h1 := odMay_k x.a
  have h2 := odMay_k x.b
  have h3 := odMay_nil x.b
  have h4 := odMay_r1 x.b
  have h5 := F_zero x
  unfold Ins.may Ins.rmay Ins.two Ins.one Ins.shape Ins.immR Ins.hasImm Ins.w2R Ins.locked Ins.plain Ins.immB Ins.nilB isK
  rw [hF, hR]
  simp only [Ins.inn, inL, e, wOk, w248]
  simp (decide := true) only [e, List.contains_cons, List.contains_nil, dT, dF, Int.reduceBEq, Nat.reduceBEq, Int.reduceToNat, Int.reduceLE, Int.reduceLT, Int.reduceGT, cond_true, cond_false, Bool.true_and, Bool.false_and, Bool.and_false, Bool.and_true, Bool.true_or, Bool.false_or, Bool.or_false, Bool.or_true, Bool.not_true, Bool.not_false]
  by_cases hA : odMay x.a = true
  · by_cases hB : odMay x.b = true
    · rw [hA, hB]
      rcases h1 hA with ea | ea | ea | ea <;> simp only [ea] <;> simp (decide := true) only [ea, List.contains_cons, List.contains_nil, dT, dF, Int.reduceBEq, Nat.reduceBEq, Int.reduceToNat, Int.reduceLE, Int.reduceLT, Int.reduceGT, cond_true, cond_false, Bool.true_and, Bool.false_and, Bool.and_false, Bool.and_true, Bool.true_or, Bool.false_or, Bool.or_false, Bool.or_true, Bool.not_true, Bool.not_false] <;> rcases h2 hB with eb | eb | eb | eb <;> (try simp only [eb]) <;> (try simp (decide := true) only [eb, List.contains_cons, List.contains_nil, dT, dF, Int.reduceBEq, Nat.reduceBEq, Int.reduceToNat, Int.reduceLE, Int.reduceLT, Int.reduceGT, cond_true, cond_false, Bool.true_and, Bool.false_and, Bool.and_false, Bool.and_true, Bool.true_or, Bool.false_or, Bool.or_false, Bool.or_true, Bool.not_true, Bool.not_false]) <;> (try rfl) <;> grind
    · grind
  · grind
theorem may_38 (x : Ins) (e : x.op = 38) (hw : x.w = 1 ∨ x.w = 2 ∨ x.w = 4 ∨ x.w = 8) (hF : x.immW = x.F) (hR : (bif decide (IntKind.i64.wrap (8 * x.w) > 32) then fitsR x.imm 32 else fitsR x.imm (IntKind.i64.wrap (8 * x.w))) = x.F) : x.may = x.rmay := by
  have h1 := odMay_k x.a
  have h2 := odMay_k x.b
  have h3 := odMay_nil x.b
  have h4 := odMay_r1 x.b
  have h5 := F_zero x
  unfold Ins.may Ins.rmay Ins.two Ins.one Ins.shape Ins.immR Ins.hasImm Ins.w2R Ins.locked Ins.plain Ins.immB Ins.nilB isK
  rw [hF, hR]
  simp only [Ins.inn, inL, e, wOk, w248]
  simp (decide := true) only [e, List.contains_cons, List.contains_nil, dT, dF, Int.reduceBEq, Nat.reduceBEq, Int.reduceToNat, Int.reduceLE, Int.reduceLT, Int.reduceGT, cond_true, cond_false, Bool.true_and, Bool.false_and, Bool.and_false, Bool.and_true, Bool.true_or, Bool.false_or, Bool.or_false, Bool.or_true, Bool.not_true, Bool.not_false]
  by_cases hA : odMay x.a = true
  · by_cases hB : odMay x.b = true
    · rw [hA, hB]
      rcases h1 hA with ea | ea | ea | ea <;> simp only [ea] <;> simp (decide := true) only [ea, List.contains_cons, List.contains_nil, dT, dF, Int.reduceBEq, Nat.reduceBEq, Int.reduceToNat, Int.reduceLE, Int.reduceLT, Int.reduceGT, cond_true, cond_false, Bool.true_and, Bool.false_and, Bool.and_false, Bool.and_true, Bool.true_or, Bool.false_or, Bool.or_false, Bool.or_true, Bool.not_true, Bool.not_false] <;> rcases h2 hB with eb | eb | eb | eb <;> (try simp only [eb]) <;> (try simp (decide := true) only [eb, List.contains_cons, List.contains_nil, dT, dF, Int.reduceBEq, Nat.reduceBEq, Int.reduceToNat, Int.reduceLE, Int.reduceLT, Int.reduceGT, cond_true, cond_false, Bool.true_and, Bool.false_and, Bool.and_false, Bool.and_true, Bool.true_or, Bool.false_or, Bool.or_false, Bool.or_true, Bool.not_true, Bool.not_false]) <;> (try rfl) <;> grind
    · grind
  · grind
theorem may_39 (x : Ins) (e : x.op = 39) (hw : x.w = 1 ∨ x.w = 2 ∨ x.w = 4 ∨ x.w = 8) (hF : x.immW = x.F) (hR : (bif decide (IntKind.i64.wrap (8 * x.w) > 32) then fitsR x.imm 32 else fitsR x.imm (IntKind.i64.wrap (8 * x.w))) = x.F) : x.may = x.rmay := by
  have h1 := odMay_k x.a
  have h2 := odMay_k x.b
  have h3 := odMay_nil x.b
  have h4 := odMay_r1 x.b
  have h5 := F_zero x
  unfold Ins.may Ins.rmay Ins.two Ins.one Ins.shape Ins.immR Ins.hasImm Ins.w2R Ins.locked Ins.plain Ins.immB Ins.nilB isK
  rw [hF, hR]
  simp only [Ins.inn, inL, e, wOk, w248]
  simp (decide := true) only [e, List.contains_cons, List.contains_nil, dT, dF, Int.reduceBEq, Nat.reduceBEq, Int.reduceToNat, Int.reduceLE, Int.reduceLT, Int.reduceGT, cond_true, cond_false, Bool.true_and, Bool.false_and, Bool.and_false, Bool.and_true, Bool.true_or, Bool.false_or, Bool.or_false, Bool.or_true, Bool.not_true, Bool.not_false]
  by_cases hA : odMay x.a = true
  · by_cases hB : odMay x.b = true
    · rw [hA, hB]
      rcases h1 hA with ea | ea | ea | ea <;> simp only [ea] <;> simp (decide := true) only [ea, List.contains_cons, List.contains_nil, dT, dF, Int.reduceBEq, Nat.reduceBEq, Int.reduceToNat, Int.reduceLE, Int.reduceLT, Int.reduceGT, cond_true, cond_false, Bool.true_and, Bool.false_and, Bool.and_false, Bool.and_true, Bool.true_or, Bool.false_or, Bool.or_false, Bool.or_true, Bool.not_true, Bool.not_false] <;> rcases h2 hB with eb | eb | eb | eb <;> (try simp only [eb]) <;> (try simp (decide := true) only [eb, List.contains_cons, List.contains_nil, dT, dF, Int.reduceBEq, Nat.reduceBEq, Int.reduceToNat, Int.reduceLE, Int.reduceLT, Int.reduceGT, cond_true, cond_false, Bool.true_and, Bool.false_and, Bool.and_false, Bool.and_true, Bool.true_or, Bool.false_or, Bool.or_false, Bool.or_true, Bool.not_true, Bool.not_false]) <;> (try rfl) <;> grind
    · grind
  · grind
theorem may_40 (x : Ins) (e : x.op = 40) (hw : x.w = 1 ∨ x.w = 2 ∨ x.w = 4 ∨ x.w = 8) (hF : x.immW = x.F) (hR : (bif decide (IntKind.i64.wrap (8 * x.w) > 32) then fitsR x.imm 32 else fitsR x.imm (IntKind.i64.wrap (8 * x.w))) = x.F) : x.may = x.rmay := by
  have h1 := odMay_k x.a
  have h2 := odMay_k x.b
  have h3 := odMay_nil x.b
  have h4 := odMay_r1 x.b
  have h5 := F_zero x
  unfold Ins.may Ins.rmay Ins.two Ins.one Ins.shape Ins.immR Ins.hasImm Ins.w2R Ins.locked Ins.plain Ins.immB Ins.nilB isK
  rw [hF, hR]
  simp only [Ins.inn, inL, e, wOk, w248]
  simp (decide := true) only [e, List.contains_cons, List.contains_nil, dT, dF, Int.reduceBEq, Nat.reduceBEq, Int.reduceToNat, Int.reduceLE, Int.reduceLT, Int.reduceGT, cond_true, cond_false, Bool.true_and, Bool.false_and, Bool.and_false, Bool.and_true, Bool.true_or, Bool.false_or, Bool.or_false, Bool.or_true, Bool.not_true, Bool.not_false]
  by_cases hA : odMay x.a = true
  · by_cases hB : odMay x.b = true
    · rw [hA, hB]
      rcases h1 hA with ea | ea | ea | ea <;> simp only [ea] <;> simp (decide := true) only [ea, List.contains_cons, List.contains_nil, dT, dF, Int.reduceBEq, Nat.reduceBEq, Int.reduceToNat, Int.reduceLE, Int.reduceLT, Int.reduceGT, cond_true, cond_false, Bool.true_and, Bool.false_and, Bool.and_false, Bool.and_true, Bool.true_or, Bool.false_or, Bool.or_false, Bool.or_true, Bool.not_true, Bool.not_false] <;> rcases h2 hB with eb | eb | eb | eb <;> (try simp only [eb]) <;> (try simp (decide := true) only [eb, List.contains_cons, List.contains_nil, dT, dF, Int.reduceBEq, Nat.reduceBEq, Int.reduceToNat, Int.reduceLE, Int.reduceLT, Int.reduceGT, cond_true, cond_false, Bool.true_and, Bool.false_and, Bool.and_false, Bool.and_true, Bool.true_or, Bool.false_or, Bool.or_false, Bool.or_true, Bool.not_true, Bool.not_false]) <;> (try rfl) <;> grind
    · grind
  · grind
theorem may_41 (x : Ins) (e : x.op = 41) (hw : x.w = 1 ∨ x.w = 2 ∨ x.w = 4 ∨ x.w = 8) (hF : x.immW = x.F) (hR : (bif decide (IntKind.i64.wrap (8 * x.w) > 32) then fitsR x.imm 32 else fitsR x.imm (IntKind.i64.wrap (8 * x.w))) = x.F) : x.may = x.rmay := by
  have h1 := odMay_k x.a
  have h2 := odMay_k x.b
  have h3 := odMay_nil x.b
  have h4 := odMay_r1 x.b
  have h5 := F_zero x
  unfold Ins.may Ins.rmay Ins.two Ins.one Ins.shape Ins.immR Ins.hasImm Ins.w2R Ins.locked Ins.plain Ins.immB Ins.nilB isK
  rw [hF, hR]
  simp only [Ins.inn, inL, e, wOk, w248]
  simp (decide := true) only [e, List.contains_cons, List.contains_nil, dT, dF, Int.reduceBEq, Nat.reduceBEq, Int.reduceToNat, Int.reduceLE, Int.reduceLT, Int.reduceGT, cond_true, cond_false, Bool.true_and, Bool.false_and, Bool.and_false, Bool.and_true, Bool.true_or, Bool.false_or, Bool.or_false, Bool.or_true, Bool.not_true, Bool.not_false]
  by_cases hA : odMay x.a = true
  · by_cases hB : odMay x.b = true
    · rw [hA, hB]
      rcases h1 hA with ea | ea | ea | ea <;> simp only [ea] <;> simp (decide := true) only [ea, List.contains_cons, List.contains_nil, dT, dF, Int.reduceBEq, Nat.reduceBEq, Int.reduceToNat, Int.reduceLE, Int.reduceLT, Int.reduceGT, cond_true, cond_false, Bool.true_and, Bool.false_and, Bool.and_false, Bool.and_true, Bool.true_or, Bool.false_or, Bool.or_false, Bool.or_true, Bool.not_true, Bool.not_false] <;> rcases h2 hB with eb | eb | eb | eb <;> (try simp only [eb]) <;> (try simp (decide := true) only [eb, List.contains_cons, List.contains_nil, dT, dF, Int.reduceBEq, Nat.reduceBEq, Int.reduceToNat, Int.reduceLE, Int.reduceLT, Int.reduceGT, cond_true, cond_false, Bool.true_and, Bool.false_and, Bool.and_false, Bool.and_true, Bool.true_or, Bool.false_or, Bool.or_false, Bool.or_true, Bool.not_true, Bool.not_false]) <;> (try rfl) <;> grind
    · grind
  · grind
theorem may_42 (x : Ins) (e : x.op = 42) (hw : x.w = 1 ∨ x.w = 2 ∨ x.w = 4 ∨ x.w = 8) (hF : x.immW = x.F) (hR : (bif decide (IntKind.i64.wrap (8 * x.w) > 32) then fitsR x.imm 32 else fitsR x.imm (IntKind.i64.wrap (8 * x.w))) = x.F) : x.may = x.rmay := by
  have h1 := odMay_k x.a
  have h2 := odMay_k x.b
  have h3 := odMay_nil x.b
  have h4 := odMay_r1 x.b
  have h5 := F_zero x
  unfold Ins.may Ins.rmay Ins.two Ins.one Ins.shape Ins.immR Ins.hasImm Ins.w2R Ins.locked Ins.plain Ins.immB Ins.nilB isK
  rw [hF, hR]
  simp only [Ins.inn, inL, e, wOk, w248]
  simp (decide := true) only [e, List.contains_cons, List.contains_nil, dT, dF, Int.reduceBEq, Nat.reduceBEq, Int.reduceToNat, Int.reduceLE, Int.reduceLT, Int.reduceGT, cond_true, cond_false, Bool.true_and, Bool.false_and, Bool.and_false, Bool.and_true, Bool.true_or, Bool.false_or, Bool.or_false, Bool.or_true, Bool.not_true, Bool.not_false]
  by_cases hA : odMay x.a = true
  · by_cases hB : odMay x.b = true
    · rw [hA, hB]
      rcases h1 hA with ea | ea | ea | ea <;> simp only [ea] <;> simp (decide := true) only [ea, List.contains_cons, List.contains_nil, dT, dF, Int.reduceBEq, Nat.reduceBEq, Int.reduceToNat, Int.reduceLE, Int.reduceLT, Int.reduceGT, cond_true, cond_false, Bool.true_and, Bool.false_and, Bool.and_false, Bool.and_true, Bool.true_or, Bool.false_or, Bool.or_false, Bool.or_true, Bool.not_true, Bool.not_false] <;> rcases h2 hB with eb | eb | eb | eb <;> (try simp only [eb]) <;> (try simp (decide := true) only [eb, List.contains_cons, List.contains_nil, dT, dF, Int.reduceBEq, Nat.reduceBEq, Int.reduceToNat, Int.reduceLE, Int.reduceLT, Int.reduceGT, cond_true, cond_false, Bool.true_and, Bool.false_and, Bool.and_false, Bool.and_true, Bool.true_or, Bool.false_or, Bool.or_false, Bool.or_true, Bool.not_true, Bool.not_false]) <;> (try rfl) <;> grind
    · grind
  · grind
theorem may_43 (x : Ins) (e : x.op = 43) (hw : x.w = 1 ∨ x.w = 2 ∨ x.w = 4 ∨ x.w = 8) (hF : x.immW = x.F) (hR : (bif decide (IntKind.i64.wrap (8 * x.w) > 32) then fitsR x.imm 32 else fitsR x.imm (IntKind.i64.wrap (8 * x.w))) = x.F) : x.may = x.rmay := by
  have h1 := odMay_k x.a
  have h2 := odMay_k x.b
  have h3 := odMay_nil x.b
  have h4 := odMay_r1 x.b
  have h5 := F_zero x
  unfold Ins.may Ins.rmay Ins.two Ins.one Ins.shape Ins.immR Ins.hasImm Ins.w2R Ins.locked Ins.plain Ins.immB Ins.nilB isK
  rw [hF, hR]
  simp only [Ins.inn, inL, e, wOk, w248]
  simp (decide := true) only [e, List.contains_cons, List.contains_nil, dT, dF, Int.reduceBEq, Nat.reduceBEq, Int.reduceToNat, Int.reduceLE, Int.reduceLT, Int.reduceGT, cond_true, cond_false, Bool.true_and, Bool.false_and, Bool.and_false, Bool.and_true, Bool.true_or, Bool.false_or, Bool.or_false, Bool.or_true, Bool.not_true, Bool.not_false]
  by_cases hA : odMay x.a = true
  · by_cases hB : odMay x.b = true
    · rw [hA, hB]
      rcases h1 hA with ea | ea | ea | ea <;> simp only [ea] <;> simp (decide := true) only [ea, List.contains_cons, List.contains_nil, dT, dF, Int.reduceBEq, Nat.reduceBEq, Int.reduceToNat, Int.reduceLE, Int.reduceLT, Int.reduceGT, cond_true, cond_false, Bool.true_and, Bool.false_and, Bool.and_false, Bool.and_true, Bool.true_or, Bool.false_or, Bool.or_false, Bool.or_true, Bool.not_true, Bool.not_false] <;> rcases h2 hB with eb | eb | eb | eb <;> (try simp only [eb]) <;> (try simp (decide := true) only [eb, List.contains_cons, List.contains_nil, dT, dF, Int.reduceBEq, Nat.reduceBEq, Int.reduceToNat, Int.reduceLE, Int.reduceLT, Int.reduceGT, cond_true, cond_false, Bool.true_and, Bool.false_and, Bool.and_false, Bool.and_true, Bool.true_or, Bool.false_or, Bool.or_false, Bool.or_true, Bool.not_true, Bool.not_false]) <;> (try rfl) <;> grind
    · grind
  · grind
theorem may_44 (x : Ins) (e : x.op = 44) (hw : x.w = 1 ∨ x.w = 2 ∨ x.w = 4 ∨ x.w = 8) (hF : x.immW = x.F) (hR : (bif decide (IntKind.i64.wrap (8 * x.w) > 32) then fitsR x.imm 32 else fitsR x.imm (IntKind.i64.wrap (8 * x.w))) = x.F) : x.may = x.rmay := by
  have h1 := odMay_k x.a
  have h2 := odMay_k x.b
  have h3 := odMay_nil x.b
  have h4 := odMay_r1 x.b
  have h5 := F_zero x
  unfold Ins.may Ins.rmay Ins.two Ins.one Ins.shape Ins.immR Ins.hasImm Ins.w2R Ins.locked Ins.plain Ins.immB Ins.nilB isK
  rw [hF, hR]
  simp only [Ins.inn, inL, e, wOk, w248]
  simp (decide := true) only [e, List.contains_cons, List.contains_nil, dT, dF, Int.reduceBEq, Nat.reduceBEq, Int.reduceToNat, Int.reduceLE, Int.reduceLT, Int.reduceGT, cond_true, cond_false, Bool.true_and, Bool.false_and, Bool.and_false, Bool.and_true, Bool.true_or, Bool.false_or, Bool.or_false, Bool.or_true, Bool.not_true, Bool.not_false]
  by_cases hA : odMay x.a = true
  · by_cases hB : odMay x.b = true
    · rw [hA, hB]
      rcases h1 hA with ea | ea | ea | ea <;> simp only [ea] <;> simp (decide := true) only [ea, List.contains_cons, List.contains_nil, dT, dF, Int.reduceBEq, Nat.reduceBEq, Int.reduceToNat, Int.reduceLE, Int.reduceLT, Int.reduceGT, cond_true, cond_false, Bool.true_and, Bool.false_and, Bool.and_false, Bool.and_true, Bool.true_or, Bool.false_or, Bool.or_false, Bool.or_true, Bool.not_true, Bool.not_false] <;> rcases h2 hB with eb | eb | eb | eb <;> (try simp only [eb]) <;> (try simp (decide := true) only [eb, List.contains_cons, List.contains_nil, dT, dF, Int.reduceBEq, Nat.reduceBEq, Int.reduceToNat, Int.reduceLE, Int.reduceLT, Int.reduceGT, cond_true, cond_false, Bool.true_and, Bool.false_and, Bool.and_false, Bool.and_true, Bool.true_or, Bool.false_or, Bool.or_false, Bool.or_true, Bool.not_true, Bool.not_false]) <;> (try rfl) <;> grind
    · grind
  · grind
theorem may_45 (x : Ins) (e : x.op = 45) (hw : x.w = 1 ∨ x.w = 2 ∨ x.w = 4 ∨ x.w = 8) (hF : x.immW = x.F) (hR : (bif decide (IntKind.i64.wrap (8 * x.w) > 32) then fitsR x.imm 32 else fitsR x.imm (IntKind.i64.wrap (8 * x.w))) = x.F) : x.may = x.rmay := by
  have h1 := odMay_k x.a
  have h2 := odMay_k x.b
  have h3 := odMay_nil x.b
  have h4 := odMay_r1 x.b
  have h5 := F_zero x
  unfold Ins.may Ins.rmay Ins.two Ins.one Ins.shape Ins.immR Ins.hasImm Ins.w2R Ins.locked Ins.plain Ins.immB Ins.nilB isK
  rw [hF, hR]
  simp only [Ins.inn, inL, e, wOk, w248]
  simp (decide := true) only [e, List.contains_cons, List.contains_nil, dT, dF, Int.reduceBEq, Nat.reduceBEq, Int.reduceToNat, Int.reduceLE, Int.reduceLT, Int.reduceGT, cond_true, cond_false, Bool.true_and, Bool.false_and, Bool.and_false, Bool.and_true, Bool.true_or, Bool.false_or, Bool.or_false, Bool.or_true, Bool.not_true, Bool.not_false]
  by_cases hA : odMay x.a = true
  · by_cases hB : odMay x.b = true
    · rw [hA, hB]
      rcases h1 hA with ea | ea | ea | ea <;> simp only [ea] <;> simp (decide := true) only [ea, List.contains_cons, List.contains_nil, dT, dF, Int.reduceBEq, Nat.reduceBEq, Int.reduceToNat, Int.reduceLE, Int.reduceLT, Int.reduceGT, cond_true, cond_false, Bool.true_and, Bool.false_and, Bool.and_false, Bool.and_true, Bool.true_or, Bool.false_or, Bool.or_false, Bool.or_true, Bool.not_true, Bool.not_false] <;> rcases h2 hB with eb | eb | eb | eb <;> (try simp only [eb]) <;> (try simp (decide := true) only [eb, List.contains_cons, List.contains_nil, dT, dF, Int.reduceBEq, Nat.reduceBEq, Int.reduceToNat, Int.reduceLE, Int.reduceLT, Int.reduceGT, cond_true, cond_false, Bool.true_and, Bool.false_and, Bool.and_false, Bool.and_true, Bool.true_or, Bool.false_or, Bool.or_false, Bool.or_true, Bool.not_true, Bool.not_false]) <;> (try rfl) <;> grind
    · grind
  · grind
theorem may_46 (x : Ins) (e : x.op = 46) (hw : x.w = 1 ∨ x.w = 2 ∨ x.w = 4 ∨ x.w = 8) (hF : x.immW = x.F) (hR : (bif decide (IntKind.i64.wrap (8 * x.w) > 32) then fitsR x.imm 32 else fitsR x.imm (IntKind.i64.wrap (8 * x.w))) = x.F) : x.may = x.rmay := by
  have h1 := odMay_k x.a
  have h2 := odMay_k x.b
  have h3 := odMay_nil x.b
  have h4 := odMay_r1 x.b
  have h5 := F_zero x
  unfold Ins.may Ins.rmay Ins.two Ins.one Ins.shape Ins.immR Ins.hasImm Ins.w2R Ins.locked Ins.plain Ins.immB Ins.nilB isK
  rw [hF, hR]
  simp only [Ins.inn, inL, e, wOk, w248]
  simp (decide := true) only [e, List.contains_cons, List.contains_nil, dT, dF, Int.reduceBEq, Nat.reduceBEq, Int.reduceToNat, Int.reduceLE, Int.reduceLT, Int.reduceGT, cond_true, cond_false, Bool.true_and, Bool.false_and, Bool.and_false, Bool.and_true, Bool.true_or, Bool.false_or, Bool.or_false, Bool.or_true, Bool.not_true, Bool.not_false]
  by_cases hA : odMay x.a = true
  · by_cases hB : odMay x.b = true
    · rw [hA, hB]
      rcases h1 hA with ea | ea | ea | ea <;> simp only [ea] <;> simp (decide := true) only [ea, List.contains_cons, List.contains_nil, dT, dF, Int.reduceBEq, Nat.reduceBEq, Int.reduceToNat, Int.reduceLE, Int.reduceLT, Int.reduceGT, cond_true, cond_false, Bool.true_and, Bool.false_and, Bool.and_false, Bool.and_true, Bool.true_or, Bool.false_or, Bool.or_false, Bool.or_true, Bool.not_true, Bool.not_false] <;> rcases h2 hB with eb | eb | eb | eb <;> (try simp only [eb]) <;> (try simp (decide := true) only [eb, List.contains_cons, List.contains_nil, dT, dF, Int.reduceBEq, Nat.reduceBEq, Int.reduceToNat, Int.reduceLE, Int.reduceLT, Int.reduceGT, cond_true, cond_false, Bool.true_and, Bool.false_and, Bool.and_false, Bool.and_true, Bool.true_or, Bool.false_or, Bool.or_false, Bool.or_true, Bool.not_true, Bool.not_false]) <;> (try rfl) <;> grind
    · grind
  · grind
theorem may_47 (x : Ins) (e : x.op = 47) (hw : x.w = 1 ∨ x.w = 2 ∨ x.w = 4 ∨ x.w = 8) (hF : x.immW = x.F) (hR : (bif decide (IntKind.i64.wrap (8 * x.w) > 32) then fitsR x.imm 32 else fitsR x.imm (IntKind.i64.wrap (8 * x.w))) = x.F) : x.may = x.rmay := by
  have h1 := odMay_k x.a
  have h2 := odMay_k x.b
  have h3 := odMay_nil x.b
  have h4 := odMay_r1 x.b
  have h5 := F_zero x
  unfold Ins.may Ins.rmay Ins.two Ins.one Ins.shape Ins.immR Ins.hasImm Ins.w2R Ins.locked Ins.plain Ins.immB Ins.nilB isK
  rw [hF, hR]
  simp only [Ins.inn, inL, e, wOk, w248]
  simp (decide := true) only [e, List.contains_cons, List.contains_nil, dT, dF, Int.reduceBEq, Nat.reduceBEq, Int.reduceToNat, Int.reduceLE, Int.reduceLT, Int.reduceGT, cond_true, cond_false, Bool.true_and, Bool.false_and, Bool.and_false, Bool.and_true, Bool.true_or, Bool.false_or, Bool.or_false, Bool.or_true, Bool.not_true, Bool.not_false]
  by_cases hA : odMay x.a = true
  · by_cases hB : odMay x.b = true
    · rw [hA, hB]
      rcases h1 hA with ea | ea | ea | ea <;> simp only [ea] <;> simp (decide := true) only [ea, List.contains_cons, List.contains_nil, dT, dF, Int.reduceBEq, Nat.reduceBEq, Int.reduceToNat, Int.reduceLE, Int.reduceLT, Int.reduceGT, cond_true, cond_false, Bool.true_and, Bool.false_and, Bool.and_false, Bool.and_true, Bool.true_or, Bool.false_or, Bool.or_false, Bool.or_true, Bool.not_true, Bool.not_false] <;> rcases h2 hB with eb | eb | eb | eb <;> (try simp only [eb]) <;> (try simp (decide := true) only [eb, List.contains_cons, List.contains_nil, dT, dF, Int.reduceBEq, Nat.reduceBEq, Int.reduceToNat, Int.reduceLE, Int.reduceLT, Int.reduceGT, cond_true, cond_false, Bool.true_and, Bool.false_and, Bool.and_false, Bool.and_true, Bool.true_or, Bool.false_or, Bool.or_false, Bool.or_true, Bool.not_true, Bool.not_false]) <;> (try rfl) <;> grind
    · grind
  · grind
theorem may_out (x : Ins) (e : x.op < 1 ∨ x.op > 47) : x.may = x.rmay := by
  have o : ∀ lo hi : Int, 1 ≤ lo → hi ≤ 47 → x.inn lo hi = false := fun lo hi a b => by unfold Ins.inn; rcases e with e | e <;> simp <;> omega
  have c : ∀ k : Int, 1 ≤ k → k ≤ 47 → (x.op == k) = false := fun k a b => by simp; omega
  have l : ∀ L, inL x.op L = false := fun L => by unfold inL; rcases e with e | e <;> simp [e]
  have h1 : x.two = false := by
    unfold Ins.two
    simp (disch := decide) only [o, c, cond_false, Bool.false_and]
  have h2 : x.one = false := by
    unfold Ins.one
    simp (disch := decide) only [o, c, cond_false, Bool.false_and, Bool.or_self]
    cases x.nilB <;> rfl
  have h3 : x.shape = false := by
    unfold Ins.shape
    simp only [l, cond_false, Bool.false_and]
  unfold Ins.may Ins.rmay
  rw [h1, h2, h3]
  simp
theorem may_w (x : Ins) (hw : wOk x.w = false) : x.may = x.rmay := by
  unfold wOk at hw
  simp only [Bool.or_eq_false_iff] at hw
  obtain ⟨w1, w2, w4, w8⟩ := hw
  have h1 : x.two = false := by
    unfold Ins.two wOk w248
    simp only [w1, w2, w4, w8, Bool.or_self, Bool.false_and, Bool.and_false]
    simp
  have h2 : x.one = false := by
    unfold Ins.one wOk w248
    simp only [w1, w2, w4, w8, Bool.or_self, Bool.false_and, Bool.and_false]
    simp
  have h3 : x.shape = false := by
    unfold Ins.shape wOk w248
    simp only [w1, w2, w4, w8, Bool.or_self, Bool.false_and, Bool.and_false]
    simp
  unfold Ins.may Ins.rmay
  rw [h1, h2, h3]
  simp
theorem may_eq (x : Ins) (h : x.Wf) : x.may = x.rmay := by
  cases hw : wOk x.w with
  | false => exact may_w x hw
  | true =>
    have w : x.w = 1 ∨ x.w = 2 ∨ x.w = 4 ∨ x.w = 8 := by simpa [wOk] using hw
    have hF : x.immW = x.F := x.immW_eq h hw
    have hR : (bif decide (IntKind.i64.wrap (8 * x.w) > 32) then fitsR x.imm 32 else fitsR x.imm (IntKind.i64.wrap (8 * x.w))) = x.F := by
      unfold Ins.F
      rw [wrap_i64 (by omega) (by omega)]
      rcases w with w | w | w | w <;> rw [w]
      · exact fitsR_eq _ _ (by omega) h.i1 h.i2
      · exact fitsR_eq _ _ (by omega) h.i1 h.i2
      · exact fitsR_eq _ _ (by omega) h.i1 h.i2
      · exact fitsR_eq _ _ (by omega) h.i1 h.i2
    by_cases o : x.op < 1 ∨ x.op > 47
    · exact may_out x o
    · have : x.op = 1 ∨ x.op = 2 ∨ x.op = 3 ∨ x.op = 4 ∨ x.op = 5 ∨ x.op = 6 ∨ x.op = 7 ∨ x.op = 8 ∨ x.op = 9 ∨ x.op = 10 ∨ x.op = 11 ∨ x.op = 12 ∨ x.op = 13 ∨ x.op = 14 ∨ x.op = 15 ∨ x.op = 16 ∨ x.op = 17 ∨ x.op = 18 ∨ x.op = 19 ∨ x.op = 20 ∨ x.op = 21 ∨ x.op = 22 ∨ x.op = 23 ∨ x.op = 24 ∨ x.op = 25 ∨ x.op = 26 ∨ x.op = 27 ∨ x.op = 28 ∨ x.op = 29 ∨ x.op = 30 ∨ x.op = 31 ∨ x.op = 32 ∨ x.op = 33 ∨ x.op = 34 ∨ x.op = 35 ∨ x.op = 36 ∨ x.op = 37 ∨ x.op = 38 ∨ x.op = 39 ∨ x.op = 40 ∨ x.op = 41 ∨ x.op = 42 ∨ x.op = 43 ∨ x.op = 44 ∨ x.op = 45 ∨ x.op = 46 ∨ x.op = 47 := by omega
      rcases this with e | e | e | e | e | e | e | e | e | e | e | e | e | e | e | e | e | e | e | e | e | e | e | e | e | e | e | e | e | e | e | e | e | e | e | e | e | e | e | e | e | e | e | e | e | e | e
      · exact may_1 x e w hF hR
      · exact may_2 x e w hF hR
      · exact may_3 x e w hF hR
      · exact may_4 x e w hF hR
      · exact may_5 x e w hF hR
      · exact may_6 x e w hF hR
      · exact may_7 x e w hF hR
      · exact may_8 x e w hF hR
      · exact may_9 x e w hF hR
      · exact may_10 x e w hF hR
      · exact may_11 x e w hF hR
      · exact may_12 x e w hF hR
      · exact may_13 x e w hF hR
      · exact may_14 x e w hF hR
      · exact may_15 x e w hF hR
      · exact may_16 x e w hF hR
      · exact may_17 x e w hF hR
      · exact may_18 x e w hF hR
      · exact may_19 x e w hF hR
      · exact may_20 x e w hF hR
      · exact may_21 x e w hF hR
      · exact may_22 x e w hF hR
      · exact may_23 x e w hF hR
      · exact may_24 x e w hF hR
      · exact may_25 x e w hF hR
      · exact may_26 x e w hF hR
      · exact may_27 x e w hF hR
      · exact may_28 x e w hF hR
      · exact may_29 x e w hF hR
      · exact may_30 x e w hF hR
      · exact may_31 x e w hF hR
      · exact may_32 x e w hF hR
      · exact may_33 x e w hF hR
      · exact may_34 x e w hF hR
      · exact may_35 x e w hF hR
      · exact may_36 x e w hF hR
      · exact may_37 x e w hF hR
      · exact may_38 x e w hF hR
      · exact may_39 x e w hF hR
      · exact may_40 x e w hF hR
      · exact may_41 x e w hF hR
      · exact may_42 x e w hF hR
      · exact may_43 x e w hF hR
      · exact may_44 x e w hF hR
      · exact may_45 x e w hF hR
      · exact may_46 x e w hF hR
      · exact may_47 x e w hF hR
end
end Go.Proofs.Ytlhcbcfphognlaa
