/- Plain: the reference's Turn is the program's, 2. -/
import Derived.Test.YtmdcmjlhnbodmaaFlT
namespace Go.Proofs.Ytmdcmjlhnbodmaa
open Go Go.Proofs.Ytmdcmjlhnbodmaa.Ab
set_option maxRecDepth 100000

theorem band_i64_mask (n : Int) {k : Nat} (hk : k < 63) : band .i64 n (2 ^ k - 1) = (n % 18446744073709551616) % 2 ^ k := by
  unfold band
  rw [BitVec.toNat_and]
  simp only [BitVec.toNat_ofInt, IntKind.bits]
  have e64 : ((2 ^ 64 : Nat) : Int) = 18446744073709551616 := rfl
  rw [e64]
  have hp : (2 : Nat) ^ k ≤ 2 ^ 62 := Nat.pow_le_pow_right (by omega) (by omega)
  have h0 : (0 : Nat) < 2 ^ k := Nat.two_pow_pos k
  have hc : ((2 : Int) ^ k) = ((2 ^ k : Nat) : Int) := by simp
  have h1 : (((2 : Int) ^ k - 1) % 18446744073709551616).toNat = 2 ^ k - 1 := by rw [hc]; omega
  rw [h1, Nat.and_two_pow_sub_one_eq_mod, hc]
  have h2 : (n % 18446744073709551616).toNat % 2 ^ k < 2 ^ k := Nat.mod_lt _ h0
  rw [wrap_i64 (by omega) (by omega), Int.natCast_emod, Int.toNat_of_nonneg (by omega)]
theorem kprog (n w : Int) : (bif w == 8 then band .i64 n 63 else band .i64 n 31) = turnK n w := by
  have h1 := band_i64_mask n (k := 6) (by decide)
  have h2 := band_i64_mask n (k := 5) (by decide)
  rw [show ((2 : Int) ^ 6 - 1) = 63 from rfl] at h1
  rw [show ((2 : Int) ^ 5 - 1) = 31 from rfl] at h2
  unfold turnK
  rw [h1, h2, wrap_u64]
  have h : 0 ≤ n % 18446744073709551616 := by omega
  cases (w == 8)
  · simp only [cf]
    rw [Int.tmod_eq_emod_of_nonneg h, wrap_i64 (by omega) (by omega)]; rfl
  · simp only [ct]
    rw [Int.tmod_eq_emod_of_nonneg h, wrap_i64 (by omega) (by omega)]; rfl
theorem sx_congr {w : Int} (h : bits_Is w = true) {u v : Int} (huv : u % 2 ^ (8 * w.toNat) = v % 2 ^ (8 * w.toNat)) : bits_Sx u w = bits_Sx v w := by rw [sx_eq h, sx_eq h, huv]
theorem zx_congr {w : Int} (h : bits_Is w = true) {u v : Int} (huv : u % 2 ^ (8 * w.toNat) = v % 2 ^ (8 * w.toNat)) : bits_Zx u w = bits_Zx v w := by rw [zx_is h, zx_is h, huv]
theorem of_congr {w : Int} (h : bits_Is w = true) {u v : Int} (huv : u % 2 ^ (8 * w.toNat) = v % 2 ^ (8 * w.toNat)) (c o : Bool) : xflag_of u c o w = xflag_of v c o w := by
  unfold xflag_of; rw [sx_congr h huv, zx_congr h huv]
theorem sx_sgn {w : Int} {N : Nat} (B : Bits w N) (x : Nat) (hx : x < 2 ^ N) : bits_Sx (x : Int) w = sgn N x % 18446744073709551616 := by
  have hz : ((2 : Int) ^ N) = ((2 ^ N : Nat) : Int) := by simp
  have hz1 : ((2 : Int) ^ (N - 1)) = ((2 ^ (N - 1) : Nat) : Int) := by simp
  have hp := B.pow
  rw [sx_eq B.is, B.n8, hz, hz1]
  have hm : (x : Int) % ((2 ^ N : Nat) : Int) = x := Int.emod_eq_of_lt (Int.natCast_nonneg x) (Int.ofNat_lt.2 hx)
  rw [hm]
  unfold sgn
  rw [hz]
  by_cases h : 2 ^ (N - 1) ≤ x
  · have : decide ((x : Int) < ((2 ^ (N - 1) : Nat) : Int)) = false := by simp only [decide_eq_false_iff_not]; omega
    rw [this, cf, if_pos h]; omega
  · have : decide ((x : Int) < ((2 ^ (N - 1) : Nat) : Int)) = true := by simp only [decide_eq_true_eq]; omega
    rw [this, ct, if_neg h]; omega
theorem bit_mod (s : Int) (m : Nat) (hm : m < 64) : (s % 18446744073709551616) / 2 ^ m % 2 = s / 2 ^ m % 2 := by
  have h1 := Int.mul_ediv_add_emod s 18446744073709551616
  have h2 : (18446744073709551616 : Int) = 2 ^ m * (2 * 2 ^ (63 - m)) := by
    rw [← Int.pow_succ', ← Int.pow_add, show m + (63 - m + 1) = 64 by omega]; rfl
  have hp : (2 : Int) ^ m ≠ 0 := Int.ne_of_gt (two_pos m)
  generalize s % 18446744073709551616 = r at *
  generalize s / 18446744073709551616 = q at *
  have h3 : s / 2 ^ m = r / 2 ^ m + 2 * 2 ^ (63 - m) * q := by
    rw [← h1, h2, Int.mul_assoc, Int.add_comm, Int.add_mul_ediv_left _ _ hp]
  rw [h3, Int.mul_assoc, Int.add_mul_emod_self_left]
theorem mod64_bit (v i : Nat) : (v % 18446744073709551616).testBit i = (decide (i < 64) && v.testBit i) := Nat.testBit_mod_two_pow v 64 i
theorem turn_ref (op : Int) {a : Int} (ha : 0 ≤ a) (n : Int) (t0 t1 : Bool) (t2 w : Int) (H : Heap) : (R8_Turn op a n t0 t1 t2 w H).1 = xflag_Turn op a n t0 t1 t2 w := by
  unfold R8_Turn xflag_Turn
  rw [show R1_Is w = bits_Is w from rfl, kprog, zx_ref a w ha]
  cases h : bits_Is w
  · rfl
  · simp only [ct]
    obtain ⟨N, B⟩ := bits_of h
    have hl := B.le
    have hp := B.pow
    obtain ⟨k0, k1⟩ := turnK_range n w
    obtain ⟨a, rfl⟩ := Int.eq_ofNat_of_zero_le ha
    rw [B.zx, B.top, B.rneg]
    have hx : a % 2 ^ N < 2 ^ N := Nat.mod_lt _ (Nat.two_pow_pos N)
    generalize a % 2 ^ N = x at *
    generalize turnK n w = k at *
    cases hop : isTurn op
    · simp only [cf]
      have hno : op < 26 ∨ 30 < op := by
        simp [isTurn] at hop; omega
      rcases hno with h1 | h1
      · rw [show decide (op < 26) = true by simpa using h1]; rfl
      · rw [show decide (op < 26) = false by simp; omega, show decide (op > 30) = true by simpa using h1]; rfl
    · have hyes : op = 26 ∨ op = 27 ∨ op = 28 ∨ op = 29 ∨ op = 30 := by simpa [isTurn] using hop
      have g1 : decide (op < 26) = false := by simp; omega
      have g2 : decide (op > 30) = false := by simp; omega
      rw [g1, g2]
      simp only [ct, cf]
      unfold xturnK
      cases hk : (k == 0)
      · simp only [cf]
        have hk' : k ≠ 0 := by simpa using hk
        obtain ⟨m, rfl⟩ : ∃ m : Nat, k = ((m + 1 : Nat) : Int) := ⟨k.toNat - 1, by omega⟩
        have hkn : (((m + 1 : Nat) : Int)).toNat = m + 1 := rfl
        rw [hkn]
        rcases hyes with rfl | rfl | rfl | rfl | rfl
        · obtain ⟨y, e1, e2, e3⟩ := rol_go B m x false hx
          obtain ⟨T, f1, f2, f3⟩ := turn_nat B x hx ((m + 1 : Nat) : Int) ((m + 1) % N) (Nat.mod_lt _ (by omega)) (by
            rw [B.w8, Int.tmod_eq_emod_of_nonneg (Int.natCast_nonneg _), Int.tmod_eq_emod_of_nonneg (by omega)]
            rcases B.cases' with rfl | rfl | rfl | rfl <;> omega)
          have : T = y := same_bits f2 e2 fun i hi => by
            rw [f3 i hi, e3 i hi]; refine congrArg x.testBit ?_; unfold fromL; rw [Nat.mod_mod]
          subst this
          have hb := xbit T 0 (by decide)
          rw [e1]
          show (((T : Nat) : Int), T.testBit 0, !(R1_Neg (T : Int) w == T.testBit 0), t2) = (bits_Turn (x : Int) ((m + 1 : Nat) : Int) w, xflag_bit (bits_Turn (x : Int) ((m + 1 : Nat) : Int) w) 0, !(bits_Neg (bits_Turn (x : Int) ((m + 1 : Nat) : Int) w) w == xflag_bit (bits_Turn (x : Int) ((m + 1 : Nat) : Int) w) 0), t2)
          rw [f1, show xflag_bit (T : Int) 0 = T.testBit 0 from hb, B.rneg, B.neg]
        · obtain ⟨y, e1, e2, e3⟩ := ror_go B m x false hx
          have hneg : IntKind.i64.wrap (0 - ((m + 1 : Nat) : Int)) = -((m + 1 : Nat) : Int) := by rw [wrap_i64 (by omega) (by omega)]; omega
          obtain ⟨T, f1, f2, f3⟩ := turn_nat B x hx (-((m + 1 : Nat) : Int)) ((N - (m + 1) % N) % N) (Nat.mod_lt _ (by omega)) (by
            have hlt := Nat.mod_lt (m + 1) (show 0 < N by omega)
            rw [B.w8, Int.neg_tmod, Int.tmod_eq_emod_of_nonneg (Int.natCast_nonneg _), Int.tmod_eq_emod_of_nonneg (by rw [← Int.natCast_emod]; omega)]
            rcases B.cases' with rfl | rfl | rfl | rfl <;> omega)
          have : T = y := same_bits f2 e2 fun i hi => by
            rw [f3 i hi, e3 i hi]; refine congrArg x.testBit ?_; unfold fromL fromR
            rcases B.cases' with rfl | rfl | rfl | rfl <;> omega
          subst this
          have hb := xbit T (N - 2) (by omega)
          have hi : IntKind.i64.wrap (IntKind.i64.wrap (8 * w) - 2) = ((N - 2 : Nat) : Int) := by
            rw [B.w8, wrap_i64 (n := (N : Int)) (by omega) (by omega), wrap_i64 (by omega) (by omega)]; omega
          have hi2 : IntKind.i64.wrap (((N - 1 : Nat) : Int) - 1) = ((N - 2 : Nat) : Int) := by
            rw [wrap_i64 (by omega) (by omega)]; omega
          rw [e1]
          show (((T : Nat) : Int), T.testBit (N - 1), !(R1_Neg (T : Int) w == (R1_Bit (T : Int) (IntKind.i64.wrap (((N - 1 : Nat) : Int) - 1)) == 1)), t2) =
            (bits_Turn (x : Int) (IntKind.i64.wrap (0 - ((m + 1 : Nat) : Int))) w, bits_Neg (bits_Turn (x : Int) (IntKind.i64.wrap (0 - ((m + 1 : Nat) : Int))) w) w, !(bits_Neg (bits_Turn (x : Int) (IntKind.i64.wrap (0 - ((m + 1 : Nat) : Int))) w) w == xflag_bit (bits_Turn (x : Int) (IntKind.i64.wrap (0 - ((m + 1 : Nat) : Int))) w) (IntKind.i64.wrap (IntKind.i64.wrap (8 * w) - 2))), t2)
          rw [hneg, f1, hi, hi2, hb, rbit1 T (N - 2) (by omega), B.rneg, B.neg]
        · rw [shl_go B m x false hx]
          show R8_of ((x * 2 ^ (m + 1) % 2 ^ N : Nat) : Int) ((x * 2 ^ m).testBit (N - 1)) (!(R1_Neg ((x * 2 ^ (m + 1) % 2 ^ N : Nat) : Int) w == (x * 2 ^ m).testBit (N - 1))) w =
            xflag_of (ishl .u64 (x : Int) ((m + 1 : Nat) : Int)) (xflag_bit (x : Int) (IntKind.i64.wrap (IntKind.i64.wrap (8 * w) - ((m + 1 : Nat) : Int)))) (!(bits_Neg (ishl .u64 (x : Int) ((m + 1 : Nat) : Int)) w == xflag_bit (x : Int) (IntKind.i64.wrap (IntKind.i64.wrap (8 * w) - ((m + 1 : Nat) : Int))))) w
          have hc : xflag_bit (x : Int) (IntKind.i64.wrap (IntKind.i64.wrap (8 * w) - ((m + 1 : Nat) : Int))) = (x * 2 ^ m).testBit (N - 1) := by
            rw [B.w8, wrap_i64 (n := (N : Int)) (by omega) (by omega), wrap_i64 (by omega) (by omega), Nat.mul_comm, Nat.testBit_two_pow_mul]
            by_cases hm : m + 1 ≤ N
            · rw [show (N : Int) - ((m + 1 : Nat) : Int) = ((N - 1 - m : Nat) : Int) by omega, xbit x _ (by omega), show decide (N - 1 ≥ m) = true by simp; omega, Bool.true_and]
            · rw [show decide (N - 1 ≥ m) = false by simp; omega, Bool.false_and]
              unfold xflag_bit
              rw [show decide ((N : Int) - ((m + 1 : Nat) : Int) ≥ 0) = false by simp; omega, Bool.false_and]
          have hv : ((x * 2 ^ (m + 1) % 18446744073709551616 : Nat) : Int) % 2 ^ (8 * w.toNat) = ((x * 2 ^ (m + 1) % 2 ^ N : Nat) : Int) % 2 ^ (8 * w.toNat) := by
            rw [B.n8, show ((2 : Int) ^ N) = ((2 ^ N : Nat) : Int) by simp, ← Int.natCast_emod, ← Int.natCast_emod, Nat.mod_mod_of_dvd _ (show 2 ^ N ∣ 18446744073709551616 from Nat.pow_dvd_pow 2 hl.2), Nat.mod_mod]
          have hng : bits_Neg ((x * 2 ^ (m + 1) % 18446744073709551616 : Nat) : Int) w = R1_Neg ((x * 2 ^ (m + 1) % 2 ^ N : Nat) : Int) w := by
            rw [B.neg, B.rneg, mod64_bit, Nat.testBit_mod_two_pow, show decide (N - 1 < 64) = true by simp; omega, show decide (N - 1 < N) = true by simp; omega]
          rw [ishl_nat x (m + 1) (by omega), hc, hng, of_congr h hv, of_ref (Int.natCast_nonneg _)]
        · rw [shr_go _ w m x false (by omega)]
          show R8_of ((x / 2 ^ (m + 1) : Nat) : Int) (x.testBit m) (x.testBit (N - 1)) w = xflag_of (ishr .u64 (x : Int) ((m + 1 : Nat) : Int)) (xflag_bit (x : Int) (IntKind.i64.wrap (((m + 1 : Nat) : Int) - 1))) (bits_Neg (x : Int) w) w
          rw [ishr_nat x (m + 1) (by omega), wrap_i64 (by omega) (by omega), show ((m + 1 : Nat) : Int) - 1 = (m : Int) by omega, xbit x m (by omega), B.neg, of_ref (Int.natCast_nonneg _)]
        · obtain ⟨y, e1, e2, e3⟩ := sar_go B m x false hx
          rw [e1]
          show R8_of (y : Int) (decide (sgn N x / 2 ^ m % 2 = 1)) false w = xflag_of (IntKind.u64.wrap (ishr .i64 (IntKind.i64.wrap (bits_Sx (x : Int) w)) ((m + 1 : Nat) : Int))) (xflag_bit (bits_Sx (x : Int) w) (IntKind.i64.wrap (((m + 1 : Nat) : Int) - 1))) false w
          have hz : ((2 : Int) ^ N) = ((2 ^ N : Nat) : Int) := by simp
          have hs : IntKind.i64.wrap (bits_Sx (x : Int) w) = sgn N x := by
            have hN : 2 ^ N = 2 * 2 ^ (N - 1) := by rw [← Nat.pow_succ']; congr 1; omega
            have hrng : -9223372036854775808 ≤ sgn N x ∧ sgn N x < 9223372036854775808 := by
              unfold sgn; rw [hz]; split <;> omega
            rw [sx_sgn B x hx]
            simp only [IntKind.wrap, IntKind.bits, IntKind.signed]
            simp
            split <;> omega
          have hsh : ishr .i64 (sgn N x) ((m + 1 : Nat) : Int) = sgn N x / 2 ^ (m + 1) := by
            unfold ishr
            have : min (((m + 1 : Nat) : Int).toNat) IntKind.i64.bits = m + 1 := by simp [IntKind.bits]; omega
            rw [this, Int.fdiv_eq_ediv_of_nonneg _ (Int.le_of_lt (two_pos _))]
          have hbit : xflag_bit (bits_Sx (x : Int) w) (IntKind.i64.wrap (((m + 1 : Nat) : Int) - 1)) = decide (sgn N x / 2 ^ m % 2 = 1) := by
            rw [wrap_i64 (by omega) (by omega), show ((m + 1 : Nat) : Int) - 1 = (m : Int) by omega, sx_sgn B x hx]
            obtain ⟨u, hu⟩ := Int.eq_ofNat_of_zero_le (show 0 ≤ sgn N x % 18446744073709551616 by omega)
            have hbm := bit_mod (sgn N x) m (by omega)
            rw [hu] at hbm ⊢
            rw [xbit u m (by omega), Nat.testBit_eq_decide_div_mod_eq, decide_eq_decide, ← hbm]
            rw [show ((2 : Int) ^ m) = ((2 ^ m : Nat) : Int) by simp, ← Int.natCast_ediv]
            omega
          rw [hs, hsh, hbit, ← e3, of_ref (Int.natCast_nonneg _)]
          refine of_congr h ?_ _ _
          rw [B.n8, wrap_u64, Int.emod_emod_of_dvd _ (show (2 : Int) ^ N ∣ 18446744073709551616 by
            rw [hz]; exact Int.natCast_dvd_natCast.2 (show 2 ^ N ∣ 18446744073709551616 from Nat.pow_dvd_pow 2 hl.2)), sgn_mod y e2, hz]
          exact Int.emod_eq_of_lt (Int.natCast_nonneg y) (Int.ofNat_lt.2 e2)
      · simp only [ct]
end Go.Proofs.Ytmdcmjlhnbodmaa
