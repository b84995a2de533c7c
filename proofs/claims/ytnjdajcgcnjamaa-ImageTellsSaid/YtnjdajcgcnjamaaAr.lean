/- Plain arithmetic of the model's numbers. -/
import Derived.Test.YtnjdajcgcnjamaaAb20
namespace Go.Proofs.Ytnjdajcgcnjamaa.Ab
open Go

theorem wrap_u64 (n : Int) : IntKind.u64.wrap n = n % 18446744073709551616 := by simp [IntKind.wrap, IntKind.bits, IntKind.signed]
theorem wrap_u8 (n : Int) : IntKind.u8.wrap n = n % 256 := by simp [IntKind.wrap, IntKind.bits, IntKind.signed]
theorem wrap_i64 {n : Int} (h1 : -9223372036854775808 ≤ n) (h2 : n < 9223372036854775808) : IntKind.i64.wrap n = n := by
  simp [IntKind.wrap, IntKind.bits, IntKind.signed]
  omega
theorem band_u64 (a b : Int) : band .u64 a b = (((a % 18446744073709551616).toNat &&& (b % 18446744073709551616).toNat : Nat) : Int) := by
  unfold band
  rw [wrap_u64, BitVec.toNat_and]
  simp only [BitVec.toNat_ofInt, IntKind.bits]
  have e64 : ((2 ^ 64 : Nat) : Int) = 18446744073709551616 := rfl
  rw [e64]
  have h1 : (a % 18446744073709551616).toNat &&& (b % 18446744073709551616).toNat < 2 ^ 64 := Nat.and_lt_two_pow _ (by omega)
  omega
theorem bor_u64 (a b : Int) : bor .u64 a b = (((a % 18446744073709551616).toNat ||| (b % 18446744073709551616).toNat : Nat) : Int) := by
  unfold bor
  rw [wrap_u64, BitVec.toNat_or]
  simp only [BitVec.toNat_ofInt, IntKind.bits]
  have e64 : ((2 ^ 64 : Nat) : Int) = 18446744073709551616 := rfl
  rw [e64]
  have h1 : (a % 18446744073709551616).toNat ||| (b % 18446744073709551616).toNat < 2 ^ 64 := Nat.or_lt_two_pow (by omega) (by omega)
  omega
theorem bxor_u64 (a b : Int) : bxor .u64 a b = (((a % 18446744073709551616).toNat ^^^ (b % 18446744073709551616).toNat : Nat) : Int) := by
  unfold bxor
  rw [wrap_u64, BitVec.toNat_xor]
  simp only [BitVec.toNat_ofInt, IntKind.bits]
  have e64 : ((2 ^ 64 : Nat) : Int) = 18446744073709551616 := rfl
  rw [e64]
  have h1 : (a % 18446744073709551616).toNat ^^^ (b % 18446744073709551616).toNat < 2 ^ 64 := Nat.xor_lt_two_pow (by omega) (by omega)
  omega
end Go.Proofs.Ytnjdajcgcnjamaa.Ab
