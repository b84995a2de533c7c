/- Plain arithmetic: the reference's loops in closed form. -/
import Derived.Test.YtmdcmjlhnbodmaaFlR3
namespace Go.Proofs.Ytmdcmjlhnbodmaa
open Go Go.Proofs.Ytmdcmjlhnbodmaa.Ab
set_option maxRecDepth 100000

theorem wrapU_nat (n : Nat) (h : n < 18446744073709551616) : IntKind.u64.wrap (n : Int) = n := by rw [wrap_u64]; omega
theorem ishr_nat (v i : Nat) (h : i ≤ 64) : ishr .u64 v i = ((v / 2 ^ i : Nat) : Int) := by
  unfold ishr
  have : min ((i : Int).toNat) IntKind.u64.bits = i := by simp [IntKind.bits]; omega
  rw [this, Int.fdiv_eq_ediv_of_nonneg _ (by have := Int.pow_pos (n := 2) (m := i) (by decide); omega)]
  simp
theorem bit_nat (v i : Nat) (h : i < 64) : R1_Bit v i = ((v / 2 ^ i % 2 : Nat) : Int) := by
  unfold R1_Bit
  rw [wrapU_nat i (by omega), ishr_nat v i (by omega), Int.tmod_eq_emod_of_nonneg (Int.natCast_nonneg _)]
  simp
theorem ishl_nat (v i : Nat) (h : i ≤ 64) : ishl .u64 v i = ((v * 2 ^ i % 18446744073709551616 : Nat) : Int) := by
  unfold ishl
  have : min ((i : Int).toNat) IntKind.u64.bits = i := by simp [IntKind.bits]; omega
  rw [this, wrap_u64]
  simp
theorem pow_split (v i m : Nat) : v / 2 ^ i % 2 ^ (m + 1) = v / 2 ^ i % 2 + 2 * (v / 2 ^ (i + 1) % 2 ^ m) := by
  rw [show 2 ^ (m + 1) = 2 * 2 ^ m by rw [Nat.pow_succ]; omega, Nat.mod_mul, Nat.div_div_eq_div_mul, ← Nat.pow_succ]
theorem pow_lt64 {i : Nat} (h : i ≤ 64) : 2 ^ i ≤ 18446744073709551616 := Nat.pow_le_pow_right (n := 2) (by omega) h
/-- A bit put in its place. -/
theorem place (b r i : Nat) (hb : b < 2) (hr : r < 2 ^ i) (hi : i < 64) : IntKind.u64.wrap ((r : Int) + ishl .u64 (b : Int) (IntKind.u64.wrap (i : Int))) = ((r + b * 2 ^ i : Nat) : Int) ∧ r + b * 2 ^ i < 2 ^ (i + 1) := by
  have h1 : 2 ^ (i + 1) ≤ 18446744073709551616 := pow_lt64 (by omega)
  have h2 : 2 ^ (i + 1) = 2 * 2 ^ i := by rw [Nat.pow_succ]; omega
  have h3 : b * 2 ^ i ≤ 2 ^ i := by
    have : b = 0 ∨ b = 1 := by omega
    rcases this with rfl | rfl <;> omega
  have h4 : r + b * 2 ^ i < 2 ^ (i + 1) := by omega
  refine ⟨?_, h4⟩
  rw [wrapU_nat i (by omega), ishl_nat b i (by omega), Nat.mod_eq_of_lt (by omega), ← Int.natCast_add, wrapU_nat _ (by omega)]
theorem zxGo_nat (v : Nat) : ∀ (m i r : Nat), i + m ≤ 64 → r < 2 ^ i → zxGo v m i r = ((r + 2 ^ i * (v / 2 ^ i % 2 ^ m) : Nat) : Int)
  | 0, i, r, hi, hr => by simp [zxGo, Nat.mod_one]
  | m + 1, i, r, hi, hr => by
    obtain ⟨h1, h2⟩ := place (v / 2 ^ i % 2) r i (Nat.mod_lt _ (by omega)) hr (by omega)
    rw [zxGo, bit_nat v i (by omega), h1, show ((i : Int) + 1) = ((i + 1 : Nat) : Int) by omega, zxGo_nat v m (i + 1) _ (by omega) h2, pow_split v i m, Nat.pow_succ, Nat.mul_add,
      Nat.mul_comm (2 ^ i) (v / 2 ^ i % 2), Nat.add_assoc, ← Nat.mul_assoc]
theorem zx_ref (v w : Int) (hv : 0 ≤ v) : R1_Zx v w = bits_Zx v w := by
  unfold R1_Zx bits_Zx
  cases h : R1_Is w
  · rw [show bits_Is w = false from h]; rfl
  · rw [show bits_Is w = true from h]
    obtain ⟨n, rfl⟩ := Int.eq_ofNat_of_zero_le hv
    have h8 := is_8w h
    have := zxGo_nat n (8 * w.toNat) 0 0 (by omega) (by decide)
    simp only [cond_true]
    rw [show zxGo n (8 * w.toNat) 0 0 = _ from this]
    simp
theorem band_one (v : Nat) : band .u64 (v : Int) 1 = ((v % 2 : Nat) : Int) := by
  have := band_mask (v : Int) (n := 1) (by decide)
  simpa using this
theorem bandBit_nat (v s : Nat) (hs : s ≤ 64) : (band .u64 (ishr .u64 (v : Int) (s : Int)) 1 == 1) = v.testBit s := by
  rw [ishr_nat v s hs, band_one, Nat.testBit_eq_decide_div_mod_eq]
  rcases Nat.mod_two_eq_zero_or_one (v / 2 ^ s) with h | h <;> simp [h]
theorem neg_nat {w : Int} (h : bits_Is w = true) (v : Nat) : bits_Neg (v : Int) w = v.testBit (8 * w.toNat - 1) := by
  unfold bits_Neg
  rw [h]
  rcases is_w h with rfl | rfl | rfl | rfl
  · exact bandBit_nat v 7 (by decide)
  · exact bandBit_nat v 15 (by decide)
  · exact bandBit_nat v 31 (by decide)
  · exact bandBit_nat v 63 (by decide)
theorem testBit_top {x s : Nat} (h : x < 2 ^ (s + 1)) : x.testBit s = decide (2 ^ s ≤ x) := by
  rw [Nat.testBit_eq_decide_div_mod_eq]
  have h0 : 0 < 2 ^ s := Nat.two_pow_pos s
  have h2 : x / 2 ^ s < 2 := by rw [Nat.div_lt_iff_lt_mul h0]; rw [Nat.pow_succ] at h; omega
  by_cases hx : 2 ^ s ≤ x
  · have : 1 ≤ x / 2 ^ s := (Nat.le_div_iff_mul_le h0).2 (by omega)
    have e : x / 2 ^ s = 1 := by omega
    simp [e, hx]
  · have e : x / 2 ^ s = 0 := Nat.div_eq_of_lt (by omega)
    simp [e, hx]
theorem bxor_nat {x y : Nat} (hx : x < 2 ^ 64) (hy : y < 2 ^ 64) : bxor .u64 (x : Int) (y : Int) = ((x ^^^ y : Nat) : Int) := by
  rw [bxor_u64]
  have h1 : ((x : Int) % 18446744073709551616).toNat = x := by omega
  have h2 : ((y : Int) % 18446744073709551616).toNat = y := by omega
  rw [h1, h2]
theorem band_nat {x y : Nat} (hx : x < 2 ^ 64) (hy : y < 2 ^ 64) : band .u64 (x : Int) (y : Int) = ((x &&& y : Nat) : Int) := by
  rw [band_u64]
  have h1 : ((x : Int) % 18446744073709551616).toNat = x := by omega
  have h2 : ((y : Int) % 18446744073709551616).toNat = y := by omega
  rw [h1, h2]
/-- The overflow of a difference, or of a sum, by signs. -/
theorem over_nat {w : Int} (h : bits_Is w = true) {x y z u : Nat} (hx : x < 2 ^ (8 * w.toNat)) (hy : y < 2 ^ (8 * w.toNat)) (hz : z < 2 ^ (8 * w.toNat)) (hu : u < 2 ^ (8 * w.toNat)) :
    bits_Neg (band .u64 (bxor .u64 (x : Int) (y : Int)) (bxor .u64 (z : Int) (u : Int))) w =
      (xor (decide (2 ^ (8 * w.toNat - 1) ≤ x)) (decide (2 ^ (8 * w.toNat - 1) ≤ y)) && xor (decide (2 ^ (8 * w.toNat - 1) ≤ z)) (decide (2 ^ (8 * w.toNat - 1) ≤ u))) := by
  have hn : 8 * w.toNat ≤ 64 ∧ 8 * w.toNat - 1 + 1 = 8 * w.toNat := by rcases is_w h with rfl | rfl | rfl | rfl <;> decide
  have hp : (2 : Nat) ^ (8 * w.toNat) ≤ 2 ^ 64 := Nat.pow_le_pow_right (by decide) hn.1
  rw [bxor_nat (by omega) (by omega), bxor_nat (by omega) (by omega), band_nat (Nat.xor_lt_two_pow (by omega) (by omega)) (Nat.xor_lt_two_pow (by omega) (by omega)), neg_nat h]
  rw [Nat.testBit_and, Nat.testBit_xor, Nat.testBit_xor, testBit_top (by rw [hn.2]; exact hx), testBit_top (by rw [hn.2]; exact hy), testBit_top (by rw [hn.2]; exact hz), testBit_top (by rw [hn.2]; exact hu)]

theorem zx_is {w : Int} (h : bits_Is w = true) (v : Int) : bits_Zx v w = v % 2 ^ (8 * w.toNat) := by unfold bits_Zx; rw [h]; rfl

theorem is_nat {w : Int} (h : bits_Is w = true) : R1_Is w = true := h
/-! the sign -/
theorem neg_ref (v w : Int) (hv : 0 ≤ v) : R1_Neg v w = bits_Neg v w := by
  unfold R1_Neg
  cases h : R1_Is w
  · unfold bits_Neg
    rw [show bits_Is w = false from h]; rfl
  · obtain ⟨n, rfl⟩ := Int.eq_ofNat_of_zero_le hv
    show _ = bits_Neg (n : Int) w
    rw [neg_nat h, Nat.testBit_eq_decide_div_mod_eq]
    rcases is_w h with rfl | rfl | rfl | rfl
    · rw [show IntKind.i64.wrap (IntKind.i64.wrap (8 * 1) - 1) = ((7 : Nat) : Int) by decide, bit_nat n 7 (by decide)]
      rcases Nat.mod_two_eq_zero_or_one (n / 2 ^ 7) with h | h <;> simp [h]
    · rw [show IntKind.i64.wrap (IntKind.i64.wrap (8 * 2) - 1) = ((15 : Nat) : Int) by decide, bit_nat n 15 (by decide)]
      rcases Nat.mod_two_eq_zero_or_one (n / 2 ^ 15) with h | h <;> simp [h]
    · rw [show IntKind.i64.wrap (IntKind.i64.wrap (8 * 4) - 1) = ((31 : Nat) : Int) by decide, bit_nat n 31 (by decide)]
      rcases Nat.mod_two_eq_zero_or_one (n / 2 ^ 31) with h | h <;> simp [h]
    · rw [show IntKind.i64.wrap (IntKind.i64.wrap (8 * 8) - 1) = ((63 : Nat) : Int) by decide, bit_nat n 63 (by decide)]
      rcases Nat.mod_two_eq_zero_or_one (n / 2 ^ 63) with h | h <;> simp [h]
/-! with a sign -/
theorem sxGo_nat (b : Nat) (hb : b < 2) : ∀ (m i r : Nat), i + m = 64 → r < 2 ^ i → sxGo b m i r = ((r + b * (18446744073709551616 - 2 ^ i) : Nat) : Int)
  | 0, i, r, hi, hr => by
    obtain rfl : i = 64 := by omega
    simp [sxGo]
  | m + 1, i, r, hi, hr => by
    obtain ⟨h1, h2⟩ := place b r i hb hr (by omega)
    have h3 : 2 ^ (i + 1) ≤ 18446744073709551616 := pow_lt64 (by omega)
    have h4 : 2 ^ (i + 1) = 2 * 2 ^ i := by rw [Nat.pow_succ]; omega
    rw [sxGo, h1, show ((i : Int) + 1) = ((i + 1 : Nat) : Int) by omega, sxGo_nat b hb m (i + 1) _ (by omega) h2]
    congr 1
    clear h1
    have : b = 0 ∨ b = 1 := by omega
    rcases this with rfl | rfl
    · omega
    · omega
theorem sx_ref (v w : Int) (hv : 0 ≤ v) : R1_Sx v w = bits_Sx v w := by
  unfold R1_Sx
  rw [zx_ref v w hv]
  cases h : R1_Is w
  · unfold bits_Sx bits_Zx
    rw [show bits_Is w = false from h]; rfl
  · rw [sx_eq h, zx_is h]
    obtain ⟨n, rfl⟩ := Int.eq_ofNat_of_zero_le hv
    simp only [cond_true]
    have key : ∀ (j k : Nat) (_ : k + j = 64) (_ : 0 < k), sxGo (R1_Bit n ((k - 1 : Nat) : Int)) j (k : Int) (((n % 2 ^ k : Nat)) : Int) = ((n % 2 ^ k + n / 2 ^ (k - 1) % 2 * (18446744073709551616 - 2 ^ k) : Nat) : Int) := by
      intro j k hk h0
      rw [bit_nat n (k - 1) (by omega), sxGo_nat _ (Nat.mod_lt _ (by decide)) j k _ hk (Nat.mod_lt _ (Nat.two_pow_pos k))]
    rcases is_w h with rfl | rfl | rfl | rfl
    · have := key 56 8 rfl (by decide)
      have e : ((n : Int) % 2 ^ (8 * (1 : Int).toNat)) = ((n % 2 ^ 8 : Nat) : Int) := by simp
      rw [e]
      refine (show _ = _ from this).trans ?_
      simp [cond_eq_ite]; split <;> omega
    · have := key 48 16 rfl (by decide)
      have e : ((n : Int) % 2 ^ (8 * (2 : Int).toNat)) = ((n % 2 ^ 16 : Nat) : Int) := by simp
      rw [e]
      refine (show _ = _ from this).trans ?_
      simp [cond_eq_ite]; split <;> omega
    · have := key 32 32 rfl (by decide)
      have e : ((n : Int) % 2 ^ (8 * (4 : Int).toNat)) = ((n % 2 ^ 32 : Nat) : Int) := by simp
      rw [e]
      refine (show _ = _ from this).trans ?_
      simp [cond_eq_ite]; split <;> omega
    · have := key 0 64 rfl (by decide)
      have e : ((n : Int) % 2 ^ (8 * (8 : Int).toNat)) = ((n % 2 ^ 64 : Nat) : Int) := by simp
      rw [e]
      refine (show _ = _ from this).trans ?_
      simp
end Go.Proofs.Ytmdcmjlhnbodmaa
