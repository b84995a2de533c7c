/- Plain arithmetic: differences and products of the reference are the program's. -/
import Derived.Test.YtmdcmjlhnbodmaaFlB
namespace Go.Proofs.Ytmdcmjlhnbodmaa
open Go Go.Proofs.Ytmdcmjlhnbodmaa.Ab
set_option maxRecDepth 100000

theorem less_ref {a b : Int} (ha : 0 ≤ a) (hb : 0 ≤ b) (hb2 : b < 18446744073709551616) (i : Bool) (w : Int) : R1_Less a b i w = bits_Less a b i w := by
  cases h : bits_Is w
  · unfold R1_Less R1_Sum bits_Less
    rw [show R1_Is w = false from h, h]; rfl
  · obtain ⟨a, rfl⟩ := Int.eq_ofNat_of_zero_le ha
    obtain ⟨b, rfl⟩ := Int.eq_ofNat_of_zero_le hb
    have hi : bits_one i = ((i.toNat : Nat) : Int) := by cases i <;> rfl
    have hi2 : i.toNat < 2 := by cases i <;> decide
    have hi3 : (!i).toNat = 1 - i.toNat := by cases i <;> rfl
    have hw := is_w h
    obtain ⟨n, hn⟩ : ∃ n, n + 1 = 8 * w.toNat := ⟨8 * w.toNat - 1, by rcases hw with rfl | rfl | rfl | rfl <;> decide⟩
    have hn64 : n < 64 := by rcases hw with rfl | rfl | rfl | rfl <;> simp at hn <;> omega
    have hp0 : 0 < 2 ^ n := Nat.two_pow_pos n
    have hps : 2 ^ (n + 1) = 2 * 2 ^ n := by rw [Nat.pow_succ]; omega
    have hA : a % 2 ^ (n + 1) < 2 ^ (n + 1) := Nat.mod_lt _ (by omega)
    have hB : b % 2 ^ (n + 1) < 2 ^ (n + 1) := Nat.mod_lt _ (by omega)
    have ea : a % 2 ^ n = a % 2 ^ (n + 1) % 2 ^ n := by rw [Nat.mod_mod_of_dvd _ ⟨2, by omega⟩]
    have eb : b % 2 ^ n = b % 2 ^ (n + 1) % 2 ^ n := by rw [Nat.mod_mod_of_dvd _ ⟨2, by omega⟩]
    have zc : ∀ v : Nat, ((v : Int) % 2 ^ (8 * w.toNat)) = ((v % 2 ^ (n + 1) : Nat) : Int) := by intro v; rw [← hn]; simp
    have hp64 : 2 ^ (n + 1) ≤ 18446744073709551616 := pow_lt64 (by omega)
    have hcomp : ∀ k : Nat, k ≤ 64 → (18446744073709551615 - b) % 2 ^ k = 2 ^ k - 1 - b % 2 ^ k := by
      intro k hk
      obtain ⟨q, hq⟩ : 2 ^ k ∣ 18446744073709551616 := Nat.pow_dvd_pow 2 (show k ≤ 64 by omega)
      have h0 : 0 < 2 ^ k := Nat.two_pow_pos k
      have h1 := Nat.div_add_mod b (2 ^ k)
      have h2 := Nat.mod_lt b h0
      have h4 : b / 2 ^ k < q := by rw [Nat.div_lt_iff_lt_mul h0, Nat.mul_comm, ← hq]; omega
      obtain ⟨d, hd⟩ : ∃ d, q = b / 2 ^ k + 1 + d := ⟨q - (b / 2 ^ k + 1), by omega⟩
      have h3 : 18446744073709551615 - b = 2 ^ k * d + (2 ^ k - 1 - b % 2 ^ k) := by
        rw [hd, Nat.mul_add, Nat.mul_add, Nat.mul_one] at hq
        omega
      rw [h3, Nat.mul_add_mod, Nat.mod_eq_of_lt (by omega)]
    have hwb : IntKind.u64.wrap (18446744073709551615 - (b : Int)) = ((18446744073709551615 - b : Nat) : Int) := by rw [wrap_u64]; omega
    unfold R1_Less
    rw [hwb, sum_nat h a _ (!i) n hn, is_nat h, hcomp (n + 1) (by omega), hcomp n (by omega), hi3]
    unfold bits_Less
    rw [h, hi]
    simp only [cond_true, zx_is h]
    rw [zc a, zc b]
    rw [ea, eb]
    generalize hx : a % 2 ^ (n + 1) = x at *
    generalize hy : b % 2 ^ (n + 1) = y at *
    generalize i.toNat = c at *
    have hS : (x + (2 ^ (n + 1) - 1 - y) + (1 - c)) % 2 ^ (n + 1) < 2 ^ (n + 1) := Nat.mod_lt _ (by omega)
    have hr : (((x : Int) + 18446744073709551616 - (y : Int) - (c : Int)) % 18446744073709551616 % 2 ^ (8 * w.toNat)) = (((x + (2 ^ (n + 1) - 1 - y) + (1 - c)) % 2 ^ (n + 1) : Nat) : Int) := by
      rw [show ((x : Int) + 18446744073709551616 - (y : Int) - (c : Int)) % 18446744073709551616 = (((x + 18446744073709551616 - y - c) % 18446744073709551616 : Nat) : Int) by omega, zc,
        Nat.mod_mod_of_dvd _ (show 2 ^ (n + 1) ∣ 18446744073709551616 from Nat.pow_dvd_pow 2 (show n + 1 ≤ 64 by omega))]
      obtain ⟨q, hq⟩ : 2 ^ (n + 1) ∣ 18446744073709551616 := Nat.pow_dvd_pow 2 (show n + 1 ≤ 64 by omega)
      have hq0 : 0 < q := by rcases Nat.eq_zero_or_pos q with rfl | h; · simp at hq
                             · exact h
      obtain ⟨d, rfl⟩ : ∃ d, q = d + 1 := ⟨q - 1, by omega⟩
      rw [Nat.mul_add, Nat.mul_one] at hq
      rw [show x + 18446744073709551616 - y - c = 2 ^ (n + 1) * d + (x + (2 ^ (n + 1) - 1 - y) + (1 - c)) by omega, Nat.mul_add_mod]
    rw [hr, over_nat h (by rw [← hn]; exact hA) (by rw [← hn]; exact hB) (by rw [← hn]; exact hA) (by rw [← hn]; exact hS)]
    have hq : ∀ s : Nat, s < 2 * 2 ^ (n + 1) → s / 2 ^ (n + 1) = (if 2 ^ (n + 1) ≤ s then 1 else 0) ∧ s % 2 ^ (n + 1) = (if 2 ^ (n + 1) ≤ s then s - 2 ^ (n + 1) else s) := by
      intro s hs
      split
      · rw [Nat.div_eq_sub_div (by omega) (by assumption), Nat.mod_eq_sub_mod (by assumption), Nat.div_eq_of_lt (by omega), Nat.mod_eq_of_lt (by omega)]; exact ⟨rfl, rfl⟩
      · rw [Nat.div_eq_of_lt (by omega), Nat.mod_eq_of_lt (by omega)]; exact ⟨rfl, rfl⟩
    have hq' : ∀ s : Nat, s < 2 * 2 ^ n → s / 2 ^ n = (if 2 ^ n ≤ s then 1 else 0) ∧ s % 2 ^ n = (if 2 ^ n ≤ s then s - 2 ^ n else s) := by
      intro s hs
      split
      · rw [Nat.div_eq_sub_div (by omega) (by assumption), Nat.mod_eq_sub_mod (by assumption), Nat.div_eq_of_lt (by omega), Nat.mod_eq_of_lt (by omega)]; exact ⟨rfl, rfl⟩
      · rw [Nat.div_eq_of_lt (by omega), Nat.mod_eq_of_lt (by omega)]; exact ⟨rfl, rfl⟩
    obtain ⟨d1, d2⟩ := hq (x + (2 ^ (n + 1) - 1 - y) + (1 - c)) (by omega)
    have d3 := (hq' x (by omega)).2
    have d4 := (hq' y (by omega)).2
    have d5 := (hq' (x % 2 ^ n + (2 ^ n - 1 - y % 2 ^ n) + (1 - c)) (by rw [d3, d4]; split <;> split <;> omega)).1
    rw [d1, d2, d5, d3, d4]
    rw [show 8 * w.toNat - 1 = n by omega]
    generalize 2 ^ (n + 1) = P at *
    generalize 2 ^ n = Q at *
    subst hps
    clear hq hq' zc ea eb hr d1 d2 d3 d4 d5 hn hi hcomp hwb hi3
    simp only [Prod.mk.injEq, true_and]
    constructor
    · rw [Bool.eq_iff_iff]; simp; omega
    · by_cases h1 : Q ≤ x <;> by_cases h2 : Q ≤ y <;> by_cases h3 : 2 * Q ≤ x + (2 * Q - 1 - y) + (1 - c) <;> simp only [h1, h2, h3, if_true, if_false, decide_true, decide_false, Bool.true_xor, Bool.false_xor] <;> rw [Bool.eq_iff_iff] <;> simp <;> (try split) <;> omega
/-! products -/
theorem mulGo_nat (a b : Nat) (ha : a < 18446744073709551616) (hb : b < 18446744073709551616) : ∀ (m hi lo : Nat), m ≤ 64 → lo < 18446744073709551616 → 18446744073709551616 * hi + lo = a * (b / 2 ^ m) →
    mulGo a b m hi lo = (((a * b / 18446744073709551616 : Nat) : Int), ((a * b % 18446744073709551616 : Nat) : Int)) := by
  intro m
  induction m with
  | zero =>
    intro hi lo hm hl h
    simp only [Nat.pow_zero, Nat.div_one] at h
    rw [mulGo, ← h]
    rw [Prod.mk.injEq]
    constructor <;> omega
  | succ m ih =>
    intro hi lo hm hl h
    have hT : a * b < 18446744073709551616 * 18446744073709551616 := Nat.mul_lt_mul_of_lt_of_lt ha hb
    have hle : a * (b / 2 ^ m) ≤ a * b := Nat.mul_le_mul_left a (Nat.div_le_self b _)
    have hsplit : a * (b / 2 ^ m) = 2 * (a * (b / 2 ^ (m + 1))) + a * (b / 2 ^ m % 2) := by
      have := Nat.div_add_mod (b / 2 ^ m) 2
      have e : b / 2 ^ m / 2 = b / 2 ^ (m + 1) := by rw [Nat.div_div_eq_div_mul, ← Nat.pow_succ]
      rw [e] at this
      calc a * (b / 2 ^ m) = a * (2 * (b / 2 ^ (m + 1)) + b / 2 ^ m % 2) := by rw [this]
        _ = _ := by rw [Nat.mul_add, ← Nat.mul_assoc, Nat.mul_comm a 2, Nat.mul_assoc]
    have hbit := Nat.mod_lt (b / 2 ^ m) (show 0 < 2 by decide)
    rw [mulGo, bit_nat b m (by omega)]
    have hlo2 : IntKind.u64.wrap ((lo : Int) * 2) = ((lo * 2 % 18446744073709551616 : Nat) : Int) := by rw [wrap_u64]; omega
    have hmh : mulHi hi lo = ((hi * 2 + lo / 9223372036854775808 : Nat) : Int) := by
      unfold mulHi
      rw [show (63 : Int) = ((63 : Nat) : Int) from rfl, bit_nat lo 63 (by decide), wrap_u64, wrap_u64]
      omega
    rw [hlo2, hmh]
    generalize hb1 : b / 2 ^ m % 2 = d at *
    generalize hT1 : a * (b / 2 ^ (m + 1)) = T1 at *
    generalize hT2 : a * (b / 2 ^ m) = T2 at *
    generalize a * b = T at *
    clear hT1 hT2 hb1
    have : d = 0 ∨ d = 1 := by omega
    have hT' : T < 340282366920938463463374607431768211456 := hT
    clear hT
    rcases this with rfl | rfl
    · rw [show (((0 : Nat) : Int) == 1) = false from rfl, cond_false]
      exact ih (hi * 2 + lo / 9223372036854775808) (lo * 2 % 18446744073709551616) (by omega) (by omega) (by omega)
    · rw [show (((1 : Nat) : Int) == 1) = true from rfl]
      have hl3 : IntKind.u64.wrap (((lo * 2 % 18446744073709551616 : Nat) : Int) + (a : Int)) = (((lo * 2 % 18446744073709551616 + a) % 18446744073709551616 : Nat) : Int) := by rw [wrap_u64]; omega
      rw [hl3]
      simp only [cond_true]
      by_cases hc : (lo * 2 % 18446744073709551616 + a) % 18446744073709551616 < a
      · have e1 : decide ((((lo * 2 % 18446744073709551616 + a) % 18446744073709551616 : Nat) : Int) < (a : Int)) = true := by simp; omega
        have e2 : IntKind.u64.wrap (((hi * 2 + lo / 9223372036854775808 : Nat) : Int) + 1) = ((hi * 2 + lo / 9223372036854775808 + 1 : Nat) : Int) := by rw [wrap_u64]; omega
        rw [e1, e2, cond_true]
        exact ih (hi * 2 + lo / 9223372036854775808 + 1) ((lo * 2 % 18446744073709551616 + a) % 18446744073709551616) (by omega) (by omega) (by omega)
      · have e1 : decide ((((lo * 2 % 18446744073709551616 + a) % 18446744073709551616 : Nat) : Int) < (a : Int)) = false := by simp; omega
        rw [e1, cond_false]
        exact ih (hi * 2 + lo / 9223372036854775808) ((lo * 2 % 18446744073709551616 + a) % 18446744073709551616) (by omega) (by omega) (by omega)
theorem mulU_nat (a b : Nat) (ha : a < 18446744073709551616) (hb : b < 18446744073709551616) : R1_MulU a b = (((a * b / 18446744073709551616 : Nat) : Int), ((a * b % 18446744073709551616 : Nat) : Int)) := by
  unfold R1_MulU
  refine mulGo_nat a b ha hb 64 0 0 (by decide) (by decide) ?_
  rw [Nat.div_eq_of_lt (by simpa using hb)]; omega
theorem mul64_nat (a b : Nat) (ha : a < 18446744073709551616) (hb : b < 18446744073709551616) : mbits_Mul64 a b = (((a * b / 18446744073709551616 : Nat) : Int), ((a * b % 18446744073709551616 : Nat) : Int)) := by
  have s1 : ∀ v : Nat, ishr .u64 (v : Int) 32 = ((v / 4294967296 : Nat) : Int) := fun v => ishr_nat v 32 (by decide)
  have m1 : ∀ v : Nat, band .u64 (v : Int) 4294967295 = ((v % 4294967296 : Nat) : Int) := by
    intro v
    have := band_mask (v : Int) (n := 32) (by decide)
    rw [show ((2 : Int) ^ 32 - 1) = 4294967295 from rfl] at this
    rw [this]; simp
  have ha0 : a % 4294967296 < 4294967296 := Nat.mod_lt _ (by decide)
  have hb0 : b % 4294967296 < 4294967296 := Nat.mod_lt _ (by decide)
  have ha1 : a / 4294967296 < 4294967296 := by omega
  have hb1 : b / 4294967296 < 4294967296 := by omega
  have pA : a % 4294967296 * (b % 4294967296) ≤ 4294967295 * 4294967295 := Nat.mul_le_mul (by omega) (by omega)
  have pB : a / 4294967296 * (b % 4294967296) ≤ 4294967295 * 4294967295 := Nat.mul_le_mul (by omega) (by omega)
  have pC : a % 4294967296 * (b / 4294967296) ≤ 4294967295 * 4294967295 := Nat.mul_le_mul (by omega) (by omega)
  have pD : a / 4294967296 * (b / 4294967296) ≤ 4294967295 * 4294967295 := Nat.mul_le_mul (by omega) (by omega)
  have hab : a * b = a / 4294967296 * (b / 4294967296) * 18446744073709551616 + (a / 4294967296 * (b % 4294967296) + a % 4294967296 * (b / 4294967296)) * 4294967296 + a % 4294967296 * (b % 4294967296) := by
    have e1 := Nat.div_add_mod a 4294967296
    have e2 := Nat.div_add_mod b 4294967296
    generalize a / 4294967296 = a1 at *
    generalize a % 4294967296 = a0 at *
    generalize b / 4294967296 = b1 at *
    generalize b % 4294967296 = b0 at *
    subst e1 e2
    simp only [Nat.mul_add, Nat.add_mul]
    have t1 : 4294967296 * a1 * (4294967296 * b1) = a1 * b1 * 18446744073709551616 := by
      rw [Nat.mul_mul_mul_comm, Nat.mul_comm]
    have t2 : 4294967296 * a1 * b0 = a1 * b0 * 4294967296 := by rw [Nat.mul_assoc, Nat.mul_comm]
    have t3 : a0 * (4294967296 * b1) = a0 * b1 * 4294967296 := by rw [Nat.mul_left_comm, Nat.mul_comm]
    rw [t1, t2, t3]
    omega
  unfold mbits_Mul64
  rw [s1 a, s1 b, m1 a, m1 b]
  simp only [← Int.natCast_mul]
  rw [hab]
  generalize a % 4294967296 * (b % 4294967296) = A at *
  generalize a / 4294967296 * (b % 4294967296) = B at *
  generalize a % 4294967296 * (b / 4294967296) = C at *
  generalize a / 4294967296 * (b / 4294967296) = D at *
  simp only [wrapU_nat A (by omega), wrapU_nat B (by omega), wrapU_nat C (by omega), wrapU_nat D (by omega), s1, ← Int.natCast_add]
  rw [wrapU_nat (B + A / 4294967296) (by omega)]
  rw [m1, s1, ← Int.natCast_add, ← Int.natCast_add, wrapU_nat ((B + A / 4294967296) % 4294967296 + C) (by omega), s1, wrapU_nat (D + (B + A / 4294967296) / 4294967296) (by omega), ← Int.natCast_add]
  rw [wrap_u64, wrap_u64, Prod.mk.injEq]
  constructor <;> omega
theorem mulU_ref {a b : Int} (ha : 0 ≤ a ∧ a < 18446744073709551616) (hb : 0 ≤ b ∧ b < 18446744073709551616) : R1_MulU a b = bits_MulU a b := by
  obtain ⟨a, rfl⟩ := Int.eq_ofNat_of_zero_le ha.1
  obtain ⟨b, rfl⟩ := Int.eq_ofNat_of_zero_le hb.1
  unfold bits_MulU
  rw [mulU_nat a b (by omega) (by omega), mul64_nat a b (by omega) (by omega)]
end Go.Proofs.Ytmdcmjlhnbodmaa
