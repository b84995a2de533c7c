/- Plain: the reference's Turn is the program's. -/
import Derived.Test.YtmdcmjlhnbodmaaFlTurn
namespace Go.Proofs.Ytmdcmjlhnbodmaa
open Go Go.Proofs.Ytmdcmjlhnbodmaa.Ab
set_option maxRecDepth 100000

/-- A width: its bits. -/
structure Bits (w : Int) (N : Nat) : Prop where
  is : bits_Is w = true
  n8 : 8 * w.toNat = N
  w8 : 8 * w = (N : Int)
  cases' : N = 8 ∨ N = 16 ∨ N = 32 ∨ N = 64
theorem bits_of {w : Int} (h : bits_Is w = true) : ∃ N, Bits w N := by
  rcases is_w h with rfl | rfl | rfl | rfl
  · exact ⟨8, rfl, rfl, rfl, .inl rfl⟩
  · exact ⟨16, rfl, rfl, rfl, .inr (.inl rfl)⟩
  · exact ⟨32, rfl, rfl, rfl, .inr (.inr (.inl rfl))⟩
  · exact ⟨64, rfl, rfl, rfl, .inr (.inr (.inr rfl))⟩
theorem Bits.le {w : Int} {N : Nat} (B : Bits w N) : 8 ≤ N ∧ N ≤ 64 := by rcases B.cases' with rfl | rfl | rfl | rfl <;> decide
theorem Bits.pow {w : Int} {N : Nat} (B : Bits w N) : 2 ^ N ≤ 18446744073709551616 := pow_lt64 B.le.2
theorem Bits.zx {w : Int} {N : Nat} (B : Bits w N) (v : Nat) : bits_Zx (v : Int) w = ((v % 2 ^ N : Nat) : Int) := by
  rw [zx_is B.is, B.n8]; simp
theorem Bits.rzx {w : Int} {N : Nat} (B : Bits w N) (v : Nat) : R1_Zx (v : Int) w = ((v % 2 ^ N : Nat) : Int) := by
  rw [zx_ref _ _ (Int.natCast_nonneg v), B.zx]
theorem Bits.top {w : Int} {N : Nat} (B : Bits w N) : turnTop w = ((N - 1 : Nat) : Int) := by
  have := B.le
  unfold turnTop
  rw [B.w8, wrap_i64 (n := (N : Int)) (by omega) (by omega), wrap_i64 (by omega) (by omega)]; omega
theorem Bits.neg {w : Int} {N : Nat} (B : Bits w N) (v : Nat) : bits_Neg (v : Int) w = v.testBit (N - 1) := by rw [neg_nat B.is, B.n8]
theorem Bits.rneg {w : Int} {N : Nat} (B : Bits w N) (v : Nat) : R1_Neg (v : Int) w = v.testBit (N - 1) := by rw [neg_ref _ _ (Int.natCast_nonneg v), B.neg]
theorem rbit (v i : Nat) (hi : i < 64) : R1_Bit (v : Int) (i : Int) = (((v.testBit i).toNat : Nat) : Int) := by rw [bit_nat v i hi, bit_of]
theorem rbit1 (v i : Nat) (hi : i < 64) : (R1_Bit (v : Int) (i : Int) == 1) = v.testBit i := by rw [rbit v i hi]; cases v.testBit i <;> rfl
theorem xbit (v i : Nat) (hi : i < 64) : xflag_bit (v : Int) (i : Int) = v.testBit i := by
  unfold xflag_bit
  rw [bandBit_nat v i (by omega)]
  have h1 : decide ((i : Int) ≥ 0) = true := by simp
  have h2 : decide ((i : Int) < 64) = true := by simp; omega
  rw [h1, h2]; rfl

/-! to the left -/
theorem shl_step {w : Int} {N : Nat} (B : Bits w N) (x : Nat) (c : Bool) : turnStep 28 (x : Int) ((N - 1 : Nat) : Int) w c = (((x * 2 % 2 ^ N : Nat) : Int), x.testBit (N - 1)) := by
  have hl := B.le
  have hp := B.pow
  unfold turnStep
  simp only [show ((28 : Int) == 26) = false from rfl, show ((28 : Int) == 28) = true from rfl, cf, ct]
  have e : IntKind.u64.wrap ((x : Int) * 2) = ((x * 2 % 18446744073709551616 : Nat) : Int) := by rw [wrap_u64]; omega
  rw [e, B.rzx, rbit1 x _ (by omega)]
  have hd : 2 ^ N ∣ 18446744073709551616 := Nat.pow_dvd_pow 2 hl.2
  rw [Nat.mod_mod_of_dvd _ hd]
theorem shl_go {w : Int} {N : Nat} (B : Bits w N) : ∀ (m x : Nat) (c : Bool), x < 2 ^ N → turnGo 28 ((N - 1 : Nat) : Int) w (m + 1) (x : Int) c = (((x * 2 ^ (m + 1) % 2 ^ N : Nat) : Int), (x * 2 ^ m).testBit (N - 1))
  | 0, x, c, hx => by
    rw [turnGo, shl_step B x]
    simp [turnGo]
  | m + 1, x, c, hx => by
    rw [turnGo, shl_step B x, shl_go B m _ _ (Nat.mod_lt _ (Nat.two_pow_pos N))]
    have h0 : 0 < N := by have := B.le; omega
    simp only [Prod.mk.injEq]
    constructor
    · rw [Nat.mod_mul_mod, Nat.mul_assoc, ← Nat.pow_succ']
    · have e : ∀ y : Nat, y.testBit (N - 1) = (y % 2 ^ N).testBit (N - 1) := by intro y; rw [Nat.testBit_mod_two_pow]; simp; omega
      rw [e, Nat.mod_mul_mod, ← e, Nat.mul_assoc, ← Nat.pow_succ']
theorem shr_step (x : Nat) (hx : x < 18446744073709551616) (top w : Int) (c : Bool) : turnStep 29 (x : Int) top w c = (((x / 2 : Nat) : Int), x.testBit 0) := by
  unfold turnStep
  simp only [show ((29 : Int) == 26) = false from rfl, show ((29 : Int) == 28) = false from rfl, show ((29 : Int) == 27) = false from rfl, show ((29 : Int) == 29) = true from rfl, cf, ct]
  have e : (x : Int).tdiv 2 = ((x / 2 : Nat) : Int) := rfl
  rw [e, wrapU_nat _ (by omega), show (0 : Int) = ((0 : Nat) : Int) from rfl, rbit1 x 0 (by decide)]
theorem shr_go (top w : Int) : ∀ (m x : Nat) (c : Bool), x < 18446744073709551616 → turnGo 29 top w (m + 1) (x : Int) c = (((x / 2 ^ (m + 1) : Nat) : Int), x.testBit m)
  | 0, x, c, hx => by
    rw [turnGo, shr_step x hx]
    simp [turnGo]
  | m + 1, x, c, hx => by
    rw [turnGo, shr_step x hx, shr_go top w m _ _ (by omega)]
    simp only [Prod.mk.injEq]
    constructor
    · rw [Nat.div_div_eq_div_mul, ← Nat.pow_succ']
    · rw [Nat.testBit_succ]
/-! with a sign -/
/-- A number with a sign. -/
def sgn (N : Nat) (x : Nat) : Int := if 2 ^ (N - 1) ≤ x then (x : Int) - 2 ^ N else x
theorem sgn_mod {N : Nat} (x : Nat) (hx : x < 2 ^ N) : sgn N x % 2 ^ N = x := by
  have e : ((2 : Int) ^ N) = ((2 ^ N : Nat) : Int) := by simp
  unfold sgn
  rw [e]
  have hm : (x : Int) % ((2 ^ N : Nat) : Int) = x := Int.emod_eq_of_lt (Int.natCast_nonneg x) (Int.ofNat_lt.2 hx)
  split
  · rw [Int.sub_emod_right, hm]
  · exact hm
theorem sar_step {w : Int} {N : Nat} (B : Bits w N) (x : Nat) (hx : x < 2 ^ N) (c : Bool) :
    ∃ y : Nat, turnStep 30 (x : Int) ((N - 1 : Nat) : Int) w c = ((y : Int), x.testBit 0) ∧ y < 2 ^ N ∧ sgn N y = sgn N x / 2 := by
  have hl := B.le
  have hp := B.pow
  have hN : 2 ^ N = 2 * 2 ^ (N - 1) := by rw [← Nat.pow_succ']; congr 1; omega
  have hz : ((2 : Int) ^ N) = ((2 ^ N : Nat) : Int) := by simp
  have htb : x.testBit (N - 1) = decide (2 ^ (N - 1) ≤ x) := testBit_top (by rw [show N - 1 + 1 = N by omega]; exact hx)
  refine ⟨x / 2 + (x.testBit (N - 1)).toNat * 2 ^ (N - 1), ?_, ?_, ?_⟩
  · unfold turnStep
    simp only [show ((30 : Int) == 26) = false from rfl, show ((30 : Int) == 28) = false from rfl, show ((30 : Int) == 27) = false from rfl, show ((30 : Int) == 29) = false from rfl, show ((30 : Int) == 30) = true from rfl, cf, ct]
    have e : (x : Int).tdiv 2 = ((x / 2 : Nat) : Int) := rfl
    have hb : (x.testBit (N - 1)).toNat < 2 := by cases x.testBit (N - 1) <;> decide
    have hp := place (x.testBit (N - 1)).toNat (x / 2) (N - 1) hb (by omega) (by omega)
    rw [e, wrapU_nat _ (by omega), rbit x _ (by omega), hp.1, show (0 : Int) = ((0 : Nat) : Int) from rfl, rbit1 x 0 (by decide)]
  · rw [htb]
    by_cases h : 2 ^ (N - 1) ≤ x <;> simp [h] <;> omega
  · rw [htb]
    unfold sgn
    rw [hz]
    by_cases h : 2 ^ (N - 1) ≤ x
    · have h2 : 2 ^ (N - 1) ≤ x / 2 + 2 ^ (N - 1) := by omega
      simp only [h, decide_true, Bool.toNat_true, Nat.one_mul, h2, if_true]
      omega
    · have h2 : ¬ 2 ^ (N - 1) ≤ x / 2 := by omega
      simp only [h, decide_false, Bool.toNat_false, Nat.zero_mul, Nat.add_zero, h2, if_false]
      omega
theorem two_pos (j : Nat) : (0 : Int) < 2 ^ j := Int.pow_pos (by decide)
theorem sar_go {w : Int} {N : Nat} (B : Bits w N) : ∀ (m x : Nat) (c : Bool), x < 2 ^ N →
    ∃ y : Nat, turnGo 30 ((N - 1 : Nat) : Int) w (m + 1) (x : Int) c = ((y : Int), decide (sgn N x / 2 ^ m % 2 = 1)) ∧ y < 2 ^ N ∧ sgn N y = sgn N x / 2 ^ (m + 1)
  | 0, x, c, hx => by
    obtain ⟨y, h1, h2, h3⟩ := sar_step B x hx c
    refine ⟨y, ?_, h2, by simpa using h3⟩
    rw [turnGo, h1, turnGo]
    have hN : 2 ^ N = 2 * 2 ^ (N - 1) := by have := B.le; rw [← Nat.pow_succ']; congr 1; omega
    have hz : ((2 : Int) ^ N) = ((2 ^ N : Nat) : Int) := by simp
    simp only [Prod.mk.injEq, true_and]
    rw [Nat.testBit_zero]
    unfold sgn
    rw [hz, decide_eq_decide]
    simp only [Int.pow_zero, Int.ediv_one]
    split <;> omega
  | m + 1, x, c, hx => by
    obtain ⟨y, h1, h2, h3⟩ := sar_step B x hx c
    obtain ⟨z, g1, g2, g3⟩ := sar_go B m y (x.testBit 0) h2
    refine ⟨z, ?_, g2, ?_⟩
    · rw [turnGo, h1, g1, h3, Int.ediv_ediv_of_nonneg (by decide), ← Int.pow_succ']
    · rw [g3, h3, Int.ediv_ediv_of_nonneg (by decide), ← Int.pow_succ']
/-! turned -/
/-- Where a bit comes from, turned m places to the left. -/
def fromL (N m i : Nat) : Nat := (i + N - m % N) % N
theorem rol_step {w : Int} {N : Nat} (B : Bits w N) (x : Nat) (hx : x < 2 ^ N) (c : Bool) :
    ∃ y : Nat, turnStep 26 (x : Int) ((N - 1 : Nat) : Int) w c = ((y : Int), y.testBit 0) ∧ y < 2 ^ N ∧ ∀ i, i < N → y.testBit i = x.testBit (fromL N 1 i) := by
  have hl := B.le
  have hp := B.pow
  have hN : 2 ^ N = 2 * 2 ^ (N - 1) := by rw [← Nat.pow_succ']; congr 1; omega
  have hb : (x.testBit (N - 1)).toNat < 2 := by cases x.testBit (N - 1) <;> decide
  have hmod : x * 2 % 2 ^ N = 2 * (x % 2 ^ (N - 1)) := by rw [hN, Nat.mul_comm x 2, Nat.mul_mod_mul_left]
  have hlt : x % 2 ^ (N - 1) < 2 ^ (N - 1) := Nat.mod_lt _ (Nat.two_pow_pos _)
  have h0 : (2 * (x % 2 ^ (N - 1)) + (x.testBit (N - 1)).toNat).testBit 0 = x.testBit (N - 1) := by
    rw [Nat.testBit_zero]
    cases x.testBit (N - 1) <;> simp <;> omega
  refine ⟨2 * (x % 2 ^ (N - 1)) + (x.testBit (N - 1)).toNat, ?_, by omega, ?_⟩
  · unfold turnStep
    simp only [show ((26 : Int) == 26) = true from rfl, ct]
    have e : IntKind.u64.wrap ((x : Int) * 2) = ((x * 2 % 18446744073709551616 : Nat) : Int) := by rw [wrap_u64]; omega
    have hd : 2 ^ N ∣ 18446744073709551616 := Nat.pow_dvd_pow 2 hl.2
    rw [e, B.rzx, rbit1 x _ (by omega), rbit x _ (by omega), Nat.mod_mod_of_dvd _ hd, ← Int.natCast_add, wrapU_nat _ (by omega), hmod, h0]
  · intro i hi
    cases i with
    | zero =>
      rw [h0]
      congr 1
      unfold fromL
      rcases B.cases' with rfl | rfl | rfl | rfl <;> rfl
    | succ i =>
      rw [Nat.testBit_succ, show (2 * (x % 2 ^ (N - 1)) + (x.testBit (N - 1)).toNat) / 2 = x % 2 ^ (N - 1) by omega, Nat.testBit_mod_two_pow, show decide (i < N - 1) = true by simp; omega, Bool.true_and]
      congr 1
      unfold fromL
      rcases B.cases' with rfl | rfl | rfl | rfl <;> omega
theorem rol_go {w : Int} {N : Nat} (B : Bits w N) : ∀ (m x : Nat) (c : Bool), x < 2 ^ N →
    ∃ y : Nat, turnGo 26 ((N - 1 : Nat) : Int) w (m + 1) (x : Int) c = ((y : Int), y.testBit 0) ∧ y < 2 ^ N ∧ ∀ i, i < N → y.testBit i = x.testBit (fromL N (m + 1) i)
  | 0, x, c, hx => by
    obtain ⟨y, h1, h2, h3⟩ := rol_step B x hx c
    exact ⟨y, by rw [turnGo, h1, turnGo], h2, h3⟩
  | m + 1, x, c, hx => by
    obtain ⟨y, h1, h2, h3⟩ := rol_step B x hx c
    obtain ⟨z, g1, g2, g3⟩ := rol_go B m y (y.testBit 0) h2
    refine ⟨z, by rw [turnGo, h1, g1], g2, fun i hi => ?_⟩
    have hf : fromL N (m + 1) i < N := Nat.mod_lt _ (by omega)
    rw [g3 i hi, h3 _ hf]
    congr 1
    unfold fromL
    rcases B.cases' with rfl | rfl | rfl | rfl <;> omega
/-- Where a bit comes from, turned m places to the right. -/
def fromR (N m i : Nat) : Nat := (i + m) % N
theorem ror_step {w : Int} {N : Nat} (B : Bits w N) (x : Nat) (hx : x < 2 ^ N) (c : Bool) :
    ∃ y : Nat, turnStep 27 (x : Int) ((N - 1 : Nat) : Int) w c = ((y : Int), y.testBit (N - 1)) ∧ y < 2 ^ N ∧ ∀ i, i < N → y.testBit i = x.testBit (fromR N 1 i) := by
  have hl := B.le
  have hp := B.pow
  have hN : 2 ^ N = 2 * 2 ^ (N - 1) := by rw [← Nat.pow_succ']; congr 1; omega
  have hb : (x.testBit 0).toNat < 2 := by cases x.testBit 0 <;> decide
  have hlt : x / 2 < 2 ^ (N - 1) := by omega
  have hy : ∀ i, (x / 2 + (x.testBit 0).toNat * 2 ^ (N - 1)).testBit i = (decide (i ≥ N - 1) && (x.testBit 0).toNat.testBit (i - (N - 1)) || (x / 2).testBit i) := by
    intro i
    rw [Nat.add_comm, Nat.mul_comm, Nat.two_pow_add_eq_or_of_lt hlt, Nat.testBit_or, Nat.testBit_two_pow_mul]
  have htop : (x / 2 + (x.testBit 0).toNat * 2 ^ (N - 1)).testBit (N - 1) = x.testBit 0 := by
    have hc : ∀ b : Bool, (decide (N - 1 ≥ N - 1) && b.toNat.testBit (N - 1 - (N - 1)) || false) = b := by
      intro b
      rw [Nat.sub_self]
      cases b <;> simp
    rw [hy, Nat.testBit_lt_two_pow hlt]
    exact hc _
  refine ⟨x / 2 + (x.testBit 0).toNat * 2 ^ (N - 1), ?_, ?_, ?_⟩
  · unfold turnStep
    simp only [show ((27 : Int) == 26) = false from rfl, show ((27 : Int) == 28) = false from rfl, show ((27 : Int) == 27) = true from rfl, cf, ct]
    have e : (x : Int).tdiv 2 = ((x / 2 : Nat) : Int) := rfl
    have hp := place (x.testBit 0).toNat (x / 2) (N - 1) hb hlt (by omega)
    rw [e, wrapU_nat _ (by omega), show (0 : Int) = ((0 : Nat) : Int) from rfl, rbit1 x 0 (by decide), rbit x 0 (by decide), hp.1, htop]
  · have : x.testBit 0 = true ∨ x.testBit 0 = false := by cases x.testBit 0 <;> simp
    rcases this with h | h <;> rw [h] <;> simp <;> omega
  · intro i hi
    by_cases ht : i = N - 1
    · subst ht
      rw [htop]
      congr 1
      unfold fromR
      rcases B.cases' with rfl | rfl | rfl | rfl <;> rfl
    · rw [hy, show decide (i ≥ N - 1) = false by simp; omega, Bool.false_and, Bool.false_or, ← Nat.testBit_succ]
      congr 1
      unfold fromR
      rcases B.cases' with rfl | rfl | rfl | rfl <;> omega
theorem ror_go {w : Int} {N : Nat} (B : Bits w N) : ∀ (m x : Nat) (c : Bool), x < 2 ^ N →
    ∃ y : Nat, turnGo 27 ((N - 1 : Nat) : Int) w (m + 1) (x : Int) c = ((y : Int), y.testBit (N - 1)) ∧ y < 2 ^ N ∧ ∀ i, i < N → y.testBit i = x.testBit (fromR N (m + 1) i)
  | 0, x, c, hx => by
    obtain ⟨y, h1, h2, h3⟩ := ror_step B x hx c
    exact ⟨y, by rw [turnGo, h1, turnGo], h2, h3⟩
  | m + 1, x, c, hx => by
    obtain ⟨y, h1, h2, h3⟩ := ror_step B x hx c
    obtain ⟨z, g1, g2, g3⟩ := ror_go B m y (y.testBit (N - 1)) h2
    refine ⟨z, by rw [turnGo, h1, g1], g2, fun i hi => ?_⟩
    have hf : fromR N (m + 1) i < N := Nat.mod_lt _ (by omega)
    rw [g3 i hi, h3 _ hf]
    congr 1
    unfold fromR
    rcases B.cases' with rfl | rfl | rfl | rfl <;> omega
/-- The program's turn. -/
theorem turn_nat {w : Int} {N : Nat} (B : Bits w N) (x : Nat) (hx : x < 2 ^ N) (k : Int) (j : Nat) (hj : j < N) (hk : (k.tmod (8 * w) + 8 * w).tmod (8 * w) = (j : Int)) :
    ∃ y : Nat, bits_Turn (x : Int) k w = (y : Int) ∧ y < 2 ^ N ∧ ∀ i, i < N → y.testBit i = x.testBit (fromL N j i) := by
  have hl := B.le
  have hp := B.pow
  unfold bits_Turn
  rw [B.is, ct, hk, B.zx, Nat.mod_eq_of_lt hx, ishl_nat x j (by omega), B.w8, show (N : Int) - (j : Int) = ((N - j : Nat) : Int) by omega, ishr_nat x (N - j) (by omega)]
  have h1 : x / 2 ^ (N - j) < 2 ^ 64 := by
    have := Nat.div_le_self x (2 ^ (N - j))
    show _ < 18446744073709551616
    omega
  rw [bor_nat (Nat.mod_lt _ (by decide)) h1, B.zx]
  refine ⟨_, rfl, Nat.mod_lt _ (Nat.two_pow_pos N), fun i hi => ?_⟩
  rw [Nat.testBit_mod_two_pow, Nat.testBit_or, Nat.testBit_mod_two_pow, Nat.testBit_div_two_pow, Nat.mul_comm x (2 ^ j), Nat.testBit_two_pow_mul, show decide (i < N) = true by simpa using hi, show decide (i < 64) = true by simp; omega]
  simp only [Bool.true_and]
  by_cases hij : j ≤ i
  · have h2 : x.testBit (N - j + i) = false := Nat.testBit_lt_two_pow (Nat.lt_of_lt_of_le hx (Nat.pow_le_pow_right (by decide) (by omega)))
    have h3 : fromL N j i = i - j := by
      unfold fromL
      rcases B.cases' with rfl | rfl | rfl | rfl <;> omega
    rw [show i + (N - j) = N - j + i by omega] at *
    simp only [h2, h3, hij, decide_true, Bool.true_and, Bool.or_false]
  · have h3 : fromL N j i = N - j + i := by
      unfold fromL
      rcases B.cases' with rfl | rfl | rfl | rfl <;> omega
    simp only [h3, hij, decide_false, Bool.false_and, Bool.false_or]
    congr 1; omega
theorem same_bits {N x y : Nat} (hx : x < 2 ^ N) (hy : y < 2 ^ N) (h : ∀ i, i < N → x.testBit i = y.testBit i) : x = y := by
  apply Nat.eq_of_testBit_eq
  intro i
  by_cases hi : i < N
  · exact h i hi
  · rw [Nat.testBit_lt_two_pow (Nat.lt_of_lt_of_le hx (Nat.pow_le_pow_right (by decide) (by omega))), Nat.testBit_lt_two_pow (Nat.lt_of_lt_of_le hy (Nat.pow_le_pow_right (by decide) (by omega)))]
end Go.Proofs.Ytmdcmjlhnbodmaa
