/- Plain arithmetic: sums, differences, products of the reference are the program's. -/
import Derived.Test.YtmdcmjlhnbodmaaFlA
namespace Go.Proofs.Ytmdcmjlhnbodmaa
open Go Go.Proofs.Ytmdcmjlhnbodmaa.Ab
set_option maxRecDepth 100000

theorem colSum_nat (a b c i : Nat) (hc : c < 2) (hi : i < 64) : colSum a b c i = ((a / 2 ^ i % 2 + b / 2 ^ i % 2 + c : Nat) : Int) := by
  have h1 := Nat.mod_lt (a / 2 ^ i) (show 0 < 2 by decide)
  have h2 := Nat.mod_lt (b / 2 ^ i) (show 0 < 2 by decide)
  unfold colSum
  rw [bit_nat a i hi, bit_nat b i hi, ← Int.natCast_add, wrapU_nat _ (by omega), ← Int.natCast_add, wrapU_nat _ (by omega)]
theorem half_mod (s X m : Nat) : (s + 2 * X) % 2 ^ (m + 1) = s % 2 + 2 * ((s / 2 + X) % 2 ^ m) ∧ (s + 2 * X) / 2 ^ (m + 1) = (s / 2 + X) / 2 ^ m := by
  have e : 2 ^ (m + 1) = 2 * 2 ^ m := by rw [Nat.pow_succ]; omega
  have h1 : (s + 2 * X) / 2 = s / 2 + X := by omega
  have h2 : (s + 2 * X) % 2 = s % 2 := by omega
  rw [e, Nat.mod_mul, ← Nat.div_div_eq_div_mul, h1, h2]
  exact ⟨rfl, rfl⟩
theorem sumGo_nat (a b : Nat) : ∀ (k i r c : Nat) (l : Int), i + k < 64 → r < 2 ^ i → c < 2 →
    sumGo a b (k + 1) i r c l = (((r + 2 ^ i * ((a / 2 ^ i % 2 ^ (k + 1) + b / 2 ^ i % 2 ^ (k + 1) + c) % 2 ^ (k + 1)) : Nat) : Int), (((a / 2 ^ i % 2 ^ (k + 1) + b / 2 ^ i % 2 ^ (k + 1) + c) / 2 ^ (k + 1) : Nat) : Int), (((a / 2 ^ i % 2 ^ k + b / 2 ^ i % 2 ^ k + c) / 2 ^ k : Nat) : Int))
  | 0, i, r, c, l, hi, hr, hc => by
    have h1 := Nat.mod_lt (a / 2 ^ i) (show 0 < 2 by decide)
    have h2 := Nat.mod_lt (b / 2 ^ i) (show 0 < 2 by decide)
    obtain ⟨h3, h4⟩ := place ((a / 2 ^ i % 2 + b / 2 ^ i % 2 + c) % 2) r i (Nat.mod_lt _ (by omega)) hr (by omega)
    rw [sumGo, colSum_nat a b c i hc (by omega)]
    rw [Int.tmod_eq_emod_of_nonneg (Int.natCast_nonneg _), Int.tdiv_eq_ediv_of_nonneg (Int.natCast_nonneg _)]
    have e1 : (((a / 2 ^ i % 2 + b / 2 ^ i % 2 + c : Nat) : Int) % 2) = (((a / 2 ^ i % 2 + b / 2 ^ i % 2 + c) % 2 : Nat) : Int) := by omega
    have e2 : (((a / 2 ^ i % 2 + b / 2 ^ i % 2 + c : Nat) : Int) / 2) = (((a / 2 ^ i % 2 + b / 2 ^ i % 2 + c) / 2 : Nat) : Int) := by omega
    rw [e1, e2, h3, wrapU_nat _ (by omega)]
    simp [sumGo, Nat.mod_one, Nat.mul_comm]
  | k + 1, i, r, c, l, hi, hr, hc => by
    have h1 := Nat.mod_lt (a / 2 ^ i) (show 0 < 2 by decide)
    have h2 := Nat.mod_lt (b / 2 ^ i) (show 0 < 2 by decide)
    obtain ⟨h3, h4⟩ := place ((a / 2 ^ i % 2 + b / 2 ^ i % 2 + c) % 2) r i (Nat.mod_lt _ (by omega)) hr (by omega)
    rw [sumGo, colSum_nat a b c i hc (by omega)]
    rw [Int.tmod_eq_emod_of_nonneg (Int.natCast_nonneg _), Int.tdiv_eq_ediv_of_nonneg (Int.natCast_nonneg _)]
    have e1 : (((a / 2 ^ i % 2 + b / 2 ^ i % 2 + c : Nat) : Int) % 2) = (((a / 2 ^ i % 2 + b / 2 ^ i % 2 + c) % 2 : Nat) : Int) := by omega
    have e2 : (((a / 2 ^ i % 2 + b / 2 ^ i % 2 + c : Nat) : Int) / 2) = (((a / 2 ^ i % 2 + b / 2 ^ i % 2 + c) / 2 : Nat) : Int) := by omega
    rw [e1, e2, h3, wrapU_nat _ (by omega), show ((i : Int) + 1) = ((i + 1 : Nat) : Int) by omega, sumGo_nat a b k (i + 1) _ _ _ (by omega) h4 (by omega)]
    have g1 := pow_split a i (k + 1)
    have g2 := pow_split b i (k + 1)
    have g3 := pow_split a i k
    have g4 := pow_split b i k
    have q1 := half_mod (a / 2 ^ i % 2 + b / 2 ^ i % 2 + c) (a / 2 ^ (i + 1) % 2 ^ (k + 1) + b / 2 ^ (i + 1) % 2 ^ (k + 1)) (k + 1)
    have q2 := half_mod (a / 2 ^ i % 2 + b / 2 ^ i % 2 + c) (a / 2 ^ (i + 1) % 2 ^ k + b / 2 ^ (i + 1) % 2 ^ k) k
    rw [g1, g2, g3, g4]
    rw [show a / 2 ^ i % 2 + 2 * (a / 2 ^ (i + 1) % 2 ^ (k + 1)) + (b / 2 ^ i % 2 + 2 * (b / 2 ^ (i + 1) % 2 ^ (k + 1))) + c = a / 2 ^ i % 2 + b / 2 ^ i % 2 + c + 2 * (a / 2 ^ (i + 1) % 2 ^ (k + 1) + b / 2 ^ (i + 1) % 2 ^ (k + 1)) by omega,
      show a / 2 ^ i % 2 + 2 * (a / 2 ^ (i + 1) % 2 ^ k) + (b / 2 ^ i % 2 + 2 * (b / 2 ^ (i + 1) % 2 ^ k)) + c = a / 2 ^ i % 2 + b / 2 ^ i % 2 + c + 2 * (a / 2 ^ (i + 1) % 2 ^ k + b / 2 ^ (i + 1) % 2 ^ k) by omega,
      q1.1, q1.2, q2.2]
    rw [show a / 2 ^ (i + 1) % 2 ^ (k + 1) + b / 2 ^ (i + 1) % 2 ^ (k + 1) + (a / 2 ^ i % 2 + b / 2 ^ i % 2 + c) / 2 = (a / 2 ^ i % 2 + b / 2 ^ i % 2 + c) / 2 + (a / 2 ^ (i + 1) % 2 ^ (k + 1) + b / 2 ^ (i + 1) % 2 ^ (k + 1)) by omega,
      show a / 2 ^ (i + 1) % 2 ^ k + b / 2 ^ (i + 1) % 2 ^ k + (a / 2 ^ i % 2 + b / 2 ^ i % 2 + c) / 2 = (a / 2 ^ i % 2 + b / 2 ^ i % 2 + c) / 2 + (a / 2 ^ (i + 1) % 2 ^ k + b / 2 ^ (i + 1) % 2 ^ k) by omega]
    rw [Nat.pow_succ 2 i, Nat.mul_add, Nat.mul_comm (2 ^ i) ((a / 2 ^ i % 2 + b / 2 ^ i % 2 + c) % 2), Nat.add_assoc, Nat.mul_assoc]
theorem natEq (x y : Nat) : ((x : Int) == (y : Int)) = decide (x = y) := by rw [Bool.eq_iff_iff]; simp; omega
theorem one_nat (i : Bool) : R1_one i = ((i.toNat : Nat) : Int) := by cases i <;> rfl
/-- The reference's sum by numbers. -/
theorem sum_nat {w : Int} (h : bits_Is w = true) (a b : Nat) (i : Bool) (n : Nat) (hn : n + 1 = 8 * w.toNat) :
    R1_Sum a b i w = ((((a % 2 ^ (n + 1) + b % 2 ^ (n + 1) + i.toNat) % 2 ^ (n + 1) : Nat) : Int), decide ((a % 2 ^ (n + 1) + b % 2 ^ (n + 1) + i.toNat) / 2 ^ (n + 1) = 1), decide ((a % 2 ^ (n + 1) + b % 2 ^ (n + 1) + i.toNat) / 2 ^ (n + 1) ≠ (a % 2 ^ n + b % 2 ^ n + i.toNat) / 2 ^ n)) := by
  have h8 := is_8w (is_nat h)
  have hi : i.toNat < 2 := by cases i <;> decide
  have := sumGo_nat a b n 0 0 i.toNat (R1_one i) (by omega) (by decide) hi
  simp only [Nat.pow_zero, Nat.div_one, Nat.zero_add, Nat.one_mul] at this
  unfold R1_Sum
  rw [is_nat h, ← hn, one_nat]
  rw [one_nat] at this
  simp only [cond_true]
  rw [show sumGo a b (n + 1) 0 0 (i.toNat : Int) (i.toNat : Int) = _ from this]
  simp only [Prod.mk.injEq, true_and]
  constructor
  · exact natEq _ 1
  · rw [natEq]; simp
theorem sum_ref {a b : Int} (ha : 0 ≤ a) (hb : 0 ≤ b) (i : Bool) (w : Int) : R1_Sum a b i w = bits_Sum a b i w := by
  cases h : bits_Is w
  · unfold R1_Sum bits_Sum
    rw [show R1_Is w = false from h, h]; rfl
  · obtain ⟨a, rfl⟩ := Int.eq_ofNat_of_zero_le ha
    obtain ⟨b, rfl⟩ := Int.eq_ofNat_of_zero_le hb
    have hi : bits_one i = ((i.toNat : Nat) : Int) := by cases i <;> rfl
    have hi2 : i.toNat < 2 := by cases i <;> decide
    have hw := is_w h
    obtain ⟨n, hn⟩ : ∃ n, n + 1 = 8 * w.toNat := ⟨8 * w.toNat - 1, by rcases hw with rfl | rfl | rfl | rfl <;> decide⟩
    have hn64 : n < 64 := by rcases hw with rfl | rfl | rfl | rfl <;> simp at hn <;> omega
    have hp0 : 0 < 2 ^ n := Nat.two_pow_pos n
    have hps : 2 ^ (n + 1) = 2 * 2 ^ n := by rw [Nat.pow_succ]; omega
    have hA : a % 2 ^ (n + 1) < 2 ^ (n + 1) := Nat.mod_lt _ (by omega)
    have hB : b % 2 ^ (n + 1) < 2 ^ (n + 1) := Nat.mod_lt _ (by omega)
    have hS : (a % 2 ^ (n + 1) + b % 2 ^ (n + 1) + i.toNat) % 2 ^ (n + 1) < 2 ^ (n + 1) := Nat.mod_lt _ (by omega)
    have ea : a % 2 ^ n = a % 2 ^ (n + 1) % 2 ^ n := by rw [Nat.mod_mod_of_dvd _ ⟨2, by omega⟩]
    have eb : b % 2 ^ n = b % 2 ^ (n + 1) % 2 ^ n := by rw [Nat.mod_mod_of_dvd _ ⟨2, by omega⟩]
    have zc : ∀ v : Nat, ((v : Int) % 2 ^ (8 * w.toNat)) = ((v % 2 ^ (n + 1) : Nat) : Int) := by intro v; rw [← hn]; simp
    rw [sum_nat h a b i n hn]
    unfold bits_Sum
    rw [h, hi]
    simp only [cond_true, zx_is h]
    rw [zc a, zc b, ← Int.natCast_add, ← Int.natCast_add]
    generalize hx : a % 2 ^ (n + 1) = x at *
    generalize hy : b % 2 ^ (n + 1) = y at *
    have hp64 : 2 ^ (n + 1) ≤ 18446744073709551616 := pow_lt64 (by omega)
    have hr : (((x + y + i.toNat : Nat) : Int) % 18446744073709551616 % 2 ^ (8 * w.toNat)) = (((x + y + i.toNat) % 2 ^ (n + 1) : Nat) : Int) := by
      rw [show (((x + y + i.toNat : Nat) : Int) % 18446744073709551616) = (((x + y + i.toNat) % 18446744073709551616 : Nat) : Int) by omega, zc,
        Nat.mod_mod_of_dvd _ (show 2 ^ (n + 1) ∣ 18446744073709551616 from Nat.pow_dvd_pow 2 (show n + 1 ≤ 64 by omega))]
    rw [hr, over_nat h (by rw [← hn]; exact hA) (by rw [← hn]; exact hS) (by rw [← hn]; exact hB) (by rw [← hn]; exact hS)]
    rw [ea, eb]
    have hq : ∀ s : Nat, s < 2 * 2 ^ (n + 1) → s / 2 ^ (n + 1) = (if 2 ^ (n + 1) ≤ s then 1 else 0) ∧ s % 2 ^ (n + 1) = (if 2 ^ (n + 1) ≤ s then s - 2 ^ (n + 1) else s) := by
      intro s hs
      split
      · rw [Nat.div_eq_sub_div (by omega) (by assumption), Nat.mod_eq_sub_mod (by assumption), Nat.div_eq_of_lt (by omega), Nat.mod_eq_of_lt (by omega)]; exact ⟨rfl, rfl⟩
      · rw [Nat.div_eq_of_lt (by omega), Nat.mod_eq_of_lt (by omega)]; exact ⟨rfl, rfl⟩
    have hq' : ∀ s : Nat, s < 2 * 2 ^ n → s / 2 ^ n = (if 2 ^ n ≤ s then 1 else 0) ∧ s % 2 ^ n = (if 2 ^ n ≤ s then s - 2 ^ n else s) := by
      intro s hs
      split
      · rw [Nat.div_eq_sub_div (by omega) (by assumption), Nat.mod_eq_sub_mod (by assumption), Nat.div_eq_of_lt (by omega), Nat.mod_eq_of_lt (by omega)]; exact ⟨rfl, rfl⟩
      · rw [Nat.div_eq_of_lt (by omega), Nat.mod_eq_of_lt (by omega)]; exact ⟨rfl, rfl⟩
    obtain ⟨d1, d2⟩ := hq (x + y + i.toNat) (by omega)
    have d3 := (hq' x (by omega)).2
    have d4 := (hq' y (by omega)).2
    have d5 := (hq' (x % 2 ^ n + y % 2 ^ n + i.toNat) (by rw [d3, d4]; split <;> split <;> omega)).1
    rw [d1, d2, d5, d3, d4]
    rw [show 8 * w.toNat - 1 = n by omega]
    generalize 2 ^ (n + 1) = P at *
    generalize 2 ^ n = Q at *
    subst hps
    clear hq hq' zc ea eb hr d1 d2 d3 d4 d5 hn hi
    simp only [Prod.mk.injEq, true_and]
    constructor
    · rw [Bool.eq_iff_iff]; simp; split <;> omega
    · generalize i.toNat = c at *
      by_cases h1 : Q ≤ x <;> by_cases h2 : Q ≤ y <;> by_cases h3 : 2 * Q ≤ x + y + c <;> simp only [h1, h2, h3, if_true, if_false, decide_true, decide_false, Bool.true_xor, Bool.false_xor] <;> rw [Bool.eq_iff_iff] <;> simp <;> (try split) <;> omega
end Go.Proofs.Ytmdcmjlhnbodmaa
