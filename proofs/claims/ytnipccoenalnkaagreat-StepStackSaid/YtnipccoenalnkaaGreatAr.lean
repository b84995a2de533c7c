/- Plain arithmetic of the model's numbers. -/
import Derived.Test.YtnipccoenalnkaaGreatAb20
namespace Go.Proofs.YtnipccoenalnkaaGreat.Ab
open Go

theorem wrap_u64 (n : Int) : IntKind.u64.wrap n = n % 18446744073709551616 := by simp [IntKind.wrap, IntKind.bits, IntKind.signed]
theorem wrap_u8 (n : Int) : IntKind.u8.wrap n = n % 256 := by simp [IntKind.wrap, IntKind.bits, IntKind.signed]
theorem wrap_i64 {n : Int} (h1 : -9223372036854775808 ≤ n) (h2 : n < 9223372036854775808) : IntKind.i64.wrap n = n := by
  simp [IntKind.wrap, IntKind.bits, IntKind.signed]
  omega
theorem band_u64 (a b : Int) : band .u64 a b = (((a % 18446744073709551616).toNat &&& (b % 18446744073709551616).toNat : Nat) : Int) := by
  unfold band
  rw [wrap_u64, BitVec.toNat_and]
  simp only [BitVec.toNat_ofInt, IntKind.bits]
  have e64 : ((2 ^ 64 : Nat) : Int) = 18446744073709551616 := rfl
  rw [e64]
  have h1 : (a % 18446744073709551616).toNat &&& (b % 18446744073709551616).toNat < 2 ^ 64 := Nat.and_lt_two_pow _ (by omega)
  omega
theorem bor_u64 (a b : Int) : bor .u64 a b = (((a % 18446744073709551616).toNat ||| (b % 18446744073709551616).toNat : Nat) : Int) := by
  unfold bor
  rw [wrap_u64, BitVec.toNat_or]
  simp only [BitVec.toNat_ofInt, IntKind.bits]
  have e64 : ((2 ^ 64 : Nat) : Int) = 18446744073709551616 := rfl
  rw [e64]
  have h1 : (a % 18446744073709551616).toNat ||| (b % 18446744073709551616).toNat < 2 ^ 64 := Nat.or_lt_two_pow (by omega) (by omega)
  omega
theorem band_mask (v : Int) {n : Nat} (hn : n ≤ 64) : band .u64 v (2 ^ n - 1) = v % 2 ^ n := by
  rw [band_u64]
  have hp : (2 : Nat) ^ n ≤ 2 ^ 64 := Nat.pow_le_pow_right (by omega) hn
  have h0 : (0 : Nat) < 2 ^ n := Nat.two_pow_pos n
  have hc : ((2 : Int) ^ n) = ((2 ^ n : Nat) : Int) := by simp
  have h1 : (((2 : Int) ^ n - 1) % 18446744073709551616).toNat = 2 ^ n - 1 := by rw [hc]; omega
  rw [h1, Nat.and_two_pow_sub_one_eq_mod, hc]
  have hd : (2 ^ n : Nat) ∣ 2 ^ 64 := Nat.pow_dvd_pow 2 hn
  have h2 : ((v % 18446744073709551616).toNat % 2 ^ n : Nat) = v % ((2 ^ n : Nat) : Int) := by
    rw [Int.natCast_emod, Int.toNat_of_nonneg (by omega)]
    have : ((2 ^ n : Nat) : Int) ∣ (18446744073709551616 : Int) := by
      have := Int.natCast_dvd_natCast.2 hd
      simpa using this
    exact Int.emod_emod_of_dvd v this
  exact h2
end Go.Proofs.YtnipccoenalnkaaGreat.Ab
