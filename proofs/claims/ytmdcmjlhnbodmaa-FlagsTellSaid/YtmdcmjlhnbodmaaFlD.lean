/- Plain arithmetic: products with signs; Product. -/
import Derived.Test.YtmdcmjlhnbodmaaFlC
namespace Go.Proofs.Ytmdcmjlhnbodmaa
open Go Go.Proofs.Ytmdcmjlhnbodmaa.Ab
set_option maxRecDepth 100000

theorem mulU_pair (a b : Nat) (ha : a < 18446744073709551616) (hb : b < 18446744073709551616) : ∃ hi lo : Nat, R1_MulU a b = ((hi : Int), (lo : Int)) ∧ 18446744073709551616 * hi + lo = a * b ∧ lo < 18446744073709551616 ∧ hi < 18446744073709551616 := by
  refine ⟨_, _, mulU_nat a b ha hb, Nat.div_add_mod _ _, Nat.mod_lt _ (by decide), ?_⟩
  rw [Nat.div_lt_iff_lt_mul (by decide)]
  exact Nat.mul_lt_mul_of_lt_of_lt ha hb
theorem neg8 (a : Nat) (ha : a < 18446744073709551616) : R1_Neg (a : Int) 8 = decide (9223372036854775808 ≤ a) := by
  have h : bits_Is 8 = true := rfl
  rw [neg_ref _ _ (by omega), neg_nat h, show (8 * (8 : Int).toNat - 1) = 63 from rfl, testBit_top (by simpa using ha)]
theorem absU_nat (a : Nat) (ha : a < 18446744073709551616) : absU (a : Int) = (((if 9223372036854775808 ≤ a then 18446744073709551616 - a else a) : Nat) : Int) := by
  unfold absU
  rw [neg8 a ha]
  by_cases h : 9223372036854775808 ≤ a
  · simp only [h, decide_true, cond_true, if_true]
    rw [wrap_u64]; omega
  · simp only [h, decide_false, cond_false, if_false]
theorem negPair_nat (hi lo : Nat) (h1 : hi < 18446744073709551616) (h2 : lo < 18446744073709551616) :
    negPair ((hi : Int), (lo : Int)) = (((if lo = 0 then (18446744073709551616 - hi) % 18446744073709551616 else 18446744073709551615 - hi : Nat) : Int), ((if lo = 0 then 0 else 18446744073709551616 - lo : Nat) : Int)) := by
  unfold negPair
  have e1 : IntKind.u64.wrap (0 - (lo : Int)) = ((if lo = 0 then 0 else 18446744073709551616 - lo : Nat) : Int) := by rw [wrap_u64]; split <;> omega
  have e2 : IntKind.u64.wrap (18446744073709551615 - (hi : Int)) = ((18446744073709551615 - hi : Nat) : Int) := by rw [wrap_u64]; omega
  have e3 : IntKind.u64.wrap (((18446744073709551615 - hi : Nat) : Int) + 1) = (((18446744073709551616 - hi) % 18446744073709551616 : Nat) : Int) := by rw [wrap_u64]; omega
  simp only [e1, e2, e3]
  by_cases h : lo = 0
  · subst h
    simp only [if_true]; rfl
  · simp only [h, if_false]
    have : ((((18446744073709551616 - lo : Nat) : Int)) == 0) = false := by simp; omega
    rw [this, cond_false]
theorem i64neg (a : Nat) (ha : a < 18446744073709551616) : decide (IntKind.i64.wrap (a : Int) < 0) = decide (9223372036854775808 ≤ a) := by
  rw [Bool.eq_iff_iff]
  simp [IntKind.wrap, IntKind.bits, IntKind.signed]
  omega
/-- A pair of halves is told by its number. -/
theorem pair_of {hi lo hi' lo' : Nat} (h2 : lo < 18446744073709551616) (h2' : lo' < 18446744073709551616) (h : 18446744073709551616 * hi + lo = 18446744073709551616 * hi' + lo') : ((hi : Int), (lo : Int)) = ((hi' : Int), (lo' : Int)) := by
  rw [Prod.mk.injEq]; omega
theorem mulS_ref {a b : Int} (ha : 0 ≤ a ∧ a < 18446744073709551616) (hb : 0 ≤ b ∧ b < 18446744073709551616) : R1_MulS a b = bits_MulS a b := by
  obtain ⟨a, rfl⟩ := Int.eq_ofNat_of_zero_le ha.1
  obtain ⟨b, rfl⟩ := Int.eq_ofNat_of_zero_le hb.1
  have ha' : a < 18446744073709551616 := by omega
  have hb' : b < 18446744073709551616 := by omega
  unfold R1_MulS bits_MulS
  rw [absU_nat a ha', absU_nat b hb', neg8 a ha', neg8 b hb', i64neg a ha', i64neg b hb', mul64_nat a b ha' hb']
  have ht := Nat.div_add_mod (a * b) 18446744073709551616
  have hl := Nat.mod_lt (a * b) (show 0 < 18446744073709551616 by decide)
  generalize a * b / 18446744073709551616 = p at *
  generalize a * b % 18446744073709551616 = q at *
  by_cases h1 : 9223372036854775808 ≤ a <;> by_cases h2 : 9223372036854775808 ≤ b <;> simp only [h1, h2, decide_true, decide_false, if_true, if_false, cond_true, cond_false, beq_self_eq_true]
  · obtain ⟨hi, lo, e, e2, e3, e4⟩ := mulU_pair (18446744073709551616 - a) (18446744073709551616 - b) (by omega) (by omega)
    rw [e]
    obtain ⟨x, hx⟩ : ∃ x, a = 18446744073709551616 - x ∧ x ≤ 9223372036854775808 := ⟨18446744073709551616 - a, by omega, by omega⟩
    have e5 : (18446744073709551616 - a) * (18446744073709551616 - b) + 18446744073709551616 * a + 18446744073709551616 * b = a * b + 18446744073709551616 * 18446744073709551616 := by
      obtain ⟨c, hc⟩ : ∃ c, c + a = 18446744073709551616 := ⟨18446744073709551616 - a, by omega⟩
      obtain ⟨d, hd⟩ : ∃ d, d + b = 18446744073709551616 := ⟨18446744073709551616 - b, by omega⟩
      rw [show 18446744073709551616 - a = c by omega, show 18446744073709551616 - b = d by omega]
      rw [show 18446744073709551616 * a = (d + b) * a by rw [hd], show 18446744073709551616 * b = (c + a) * b by rw [hc], show 18446744073709551616 * 18446744073709551616 = (c + a) * (d + b) by rw [hc, hd]]
      simp only [Nat.add_mul, Nat.mul_add, Nat.mul_comm d a, Nat.mul_comm b a]
      omega
    rw [← e2] at e5
    rw [wrap_u64, wrap_u64, Prod.mk.injEq]
    clear e e2 hx
    generalize a * b = T at *
    constructor <;> omega
  · obtain ⟨hi, lo, e, e2, e3, e4⟩ := mulU_pair (18446744073709551616 - a) b (by omega) (by omega)
    rw [e, show (true == false) = false from rfl, cond_false, negPair_nat hi lo e4 e3]
    have e5 : (18446744073709551616 - a) * b + a * b = 18446744073709551616 * b := by
      rw [← Nat.add_mul, show 18446744073709551616 - a + a = 18446744073709551616 by omega]
    rw [← e2] at e5
    rw [wrap_u64, Prod.mk.injEq]
    clear e e2
    generalize a * b = T at *
    split <;> constructor <;> omega
  · obtain ⟨hi, lo, e, e2, e3, e4⟩ := mulU_pair a (18446744073709551616 - b) (by omega) (by omega)
    rw [e, show (false == true) = false from rfl, cond_false, negPair_nat hi lo e4 e3]
    have e5 : a * (18446744073709551616 - b) + a * b = 18446744073709551616 * a := by
      rw [← Nat.mul_add, show 18446744073709551616 - b + b = 18446744073709551616 by omega, Nat.mul_comm]
    rw [← e2] at e5
    rw [wrap_u64, Prod.mk.injEq]
    clear e e2
    generalize a * b = T at *
    split <;> constructor <;> omega
  · obtain ⟨hi, lo, e, e2, e3, e4⟩ := mulU_pair a b (by omega) (by omega)
    rw [e, Prod.mk.injEq]
    clear e
    generalize a * b = T at *
    constructor <;> omega
theorem sx_range (v w : Int) : 0 ≤ bits_Sx v w ∧ bits_Sx v w < 18446744073709551616 := by
  unfold bits_Sx
  cases bits_Is w
  · simp
  · simp only [cond_true]; rw [wrap_u64]; omega
theorem zx_range (v w : Int) : 0 ≤ bits_Zx v w ∧ bits_Zx v w < 18446744073709551616 := ⟨zx_nonneg v w, zx_lt v w⟩
theorem mulS_range {a b : Int} (ha : 0 ≤ a ∧ a < 18446744073709551616) (hb : 0 ≤ b ∧ b < 18446744073709551616) : (0 ≤ (bits_MulS a b).1 ∧ (bits_MulS a b).1 < 18446744073709551616) ∧ (0 ≤ (bits_MulS a b).2 ∧ (bits_MulS a b).2 < 18446744073709551616) := by
  obtain ⟨a, rfl⟩ := Int.eq_ofNat_of_zero_le ha.1
  obtain ⟨b, rfl⟩ := Int.eq_ofNat_of_zero_le hb.1
  have h := mul64_nat a b (by omega) (by omega)
  have hT : a * b / 18446744073709551616 < 18446744073709551616 := by
    rw [Nat.div_lt_iff_lt_mul (by decide)]
    exact Nat.mul_lt_mul_of_lt_of_lt (by omega) (by omega)
  unfold bits_MulS
  rw [h]
  generalize a * b / 18446744073709551616 = p at *
  have hl := Nat.mod_lt (a * b) (show 0 < 18446744073709551616 by decide)
  generalize a * b % 18446744073709551616 = q at *
  refine ⟨?_, by simp; omega⟩
  simp only [wrap_u64]
  cases decide (IntKind.i64.wrap (a : Int) < 0) <;> cases decide (IntKind.i64.wrap (b : Int) < 0) <;> simp only [cond_true, cond_false] <;> omega
theorem mulU_range {a b : Int} (ha : 0 ≤ a ∧ a < 18446744073709551616) (hb : 0 ≤ b ∧ b < 18446744073709551616) : (0 ≤ (bits_MulU a b).1 ∧ (bits_MulU a b).1 < 18446744073709551616) ∧ (0 ≤ (bits_MulU a b).2 ∧ (bits_MulU a b).2 < 18446744073709551616) := by
  obtain ⟨a, rfl⟩ := Int.eq_ofNat_of_zero_le ha.1
  obtain ⟨b, rfl⟩ := Int.eq_ofNat_of_zero_le hb.1
  have h := mul64_nat a b (by omega) (by omega)
  have hT : a * b / 18446744073709551616 < 18446744073709551616 := by
    rw [Nat.div_lt_iff_lt_mul (by decide)]
    exact Nat.mul_lt_mul_of_lt_of_lt (by omega) (by omega)
  unfold bits_MulU
  rw [h]
  have hl := Nat.mod_lt (a * b) (show 0 < 18446744073709551616 by decide)
  simp only
  omega
theorem zx_zx (v w : Int) : bits_Zx (bits_Zx v w) w = bits_Zx v w := by
  unfold bits_Zx
  cases bits_Is w
  · rfl
  · simp
theorem zx_8 {v : Int} (h : 0 ≤ v ∧ v < 18446744073709551616) : bits_Zx v 8 = v := by
  rw [zx_is rfl]; simp; omega
theorem shr_nonneg {v : Int} (h : 0 ≤ v) (k : Int) : 0 ≤ ishr .u64 v k := by
  unfold ishr
  rw [Int.fdiv_eq_ediv_of_nonneg _ (Int.le_of_lt (Int.pow_pos (by decide)))]
  exact Int.ediv_nonneg h (Int.le_of_lt (Int.pow_pos (by decide)))
theorem mask_zx {w : Int} (h : bits_Is w = true) : bits_Mask w = bits_Zx 18446744073709551615 w := by
  unfold bits_Mask bits_Zx
  rw [h]
  rcases is_w h with rfl | rfl | rfl | rfl <;> decide
theorem prod_ref {a b : Int} (ha : 0 ≤ a ∧ a < 18446744073709551616) (hb : 0 ≤ b ∧ b < 18446744073709551616) (signed : Bool) (w : Int) : R8_Product a b signed w = xflag_Product a b signed w := by
  unfold R8_Product xflag_Product
  cases h : bits_Is w
  · rw [show R1_Is w = false from h]; rfl
  · rw [show R1_Is w = true from h]
    simp only [cond_true]
    have hp : (bif signed then R1_MulS (R1_Sx a w) (R1_Sx b w) else R1_MulU (R1_Zx a w) (R1_Zx b w)) = (bif signed then bits_MulS (bits_Sx a w) (bits_Sx b w) else bits_MulU (bits_Zx a w) (bits_Zx b w)) := by
      rw [sx_ref a w ha.1, sx_ref b w hb.1, zx_ref a w ha.1, zx_ref b w hb.1, mulS_ref (sx_range a w) (sx_range b w), mulU_ref (zx_range a w) (zx_range b w)]
    rw [hp]
    have hr : (0 ≤ (bif signed then bits_MulS (bits_Sx a w) (bits_Sx b w) else bits_MulU (bits_Zx a w) (bits_Zx b w)).1 ∧ (bif signed then bits_MulS (bits_Sx a w) (bits_Sx b w) else bits_MulU (bits_Zx a w) (bits_Zx b w)).1 < 18446744073709551616) ∧
        (0 ≤ (bif signed then bits_MulS (bits_Sx a w) (bits_Sx b w) else bits_MulU (bits_Zx a w) (bits_Zx b w)).2 ∧ (bif signed then bits_MulS (bits_Sx a w) (bits_Sx b w) else bits_MulU (bits_Zx a w) (bits_Zx b w)).2 < 18446744073709551616) := by
      cases signed
      · exact mulU_range (zx_range a w) (zx_range b w)
      · exact mulS_range (sx_range a w) (sx_range b w)
    generalize (bif signed then bits_MulS (bits_Sx a w) (bits_Sx b w) else bits_MulU (bits_Zx a w) (bits_Zx b w)) = p at *
    have hw : IntKind.i64.wrap (8 * w) = 8 * w := (is_8w h).1
    have hnn : 0 ≤ (bif decide (w < 8) then ishr .u64 p.2 (8 * w) else p.1) := by
      cases decide (w < 8)
      · exact hr.1.1
      · exact shr_nonneg hr.2.1 _
    have h1 : R1_Zx (bif decide (w < 8) then ishr .u64 p.2 (8 * w) else p.1) w = (bif decide (w < 8) then bits_Zx (ishr .u64 p.2 (8 * w)) w else p.1) := by
      rw [zx_ref _ w hnn]
      cases hd : decide (w < 8)
      · have : w = 8 := by
          have hd' : ¬ w < 8 := by simpa using hd
          rcases is_w h with rfl | rfl | rfl | rfl <;> first | rfl | omega
        subst this
        exact zx_8 hr.1
      · rfl
    have h2 : R1_Zx p.2 w = (bif decide (w < 8) then bits_Zx p.2 w else p.2) := by
      rw [zx_ref _ w hr.2.1]
      cases hd : decide (w < 8)
      · have : w = 8 := by
          have hd' : ¬ w < 8 := by simpa using hd
          rcases is_w h with rfl | rfl | rfl | rfl <;> first | rfl | omega
        subst this
        exact zx_8 hr.2
      · rfl
    have h3 : bits_Zx (bif decide (w < 8) then bits_Zx p.2 w else p.2) w = (bif decide (w < 8) then bits_Zx p.2 w else p.2) := by
      rw [← h2, zx_ref _ w hr.2.1, zx_zx]
    have h4 : 0 ≤ (bif decide (w < 8) then bits_Zx p.2 w else p.2) := by rw [← h3]; exact zx_nonneg _ _
    rw [hw, h1, h2]
    unfold xflag_of prodOver
    rw [h3, neg_ref _ w h4, sx_ref _ w h4, zx_ref _ w (show (0 : Int) ≤ 18446744073709551615 by decide), mask_zx h]
    cases signed
    · rfl
    · simp only [cond_true]
      cases bits_Neg (bif decide (w < 8) then bits_Zx p.2 w else p.2) w <;> rfl
end Go.Proofs.Ytmdcmjlhnbodmaa
