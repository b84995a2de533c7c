/- Plain: the reference's Two is the program's. -/
import Derived.Test.YtmdcmjlhnbodmaaFlW
namespace Go.Proofs.Ytmdcmjlhnbodmaa
open Go Go.Proofs.Ytmdcmjlhnbodmaa.Ab
set_option maxRecDepth 100000

theorem place1 (r i : Nat) (hr : r < 2 ^ i) (hi : i < 64) : IntKind.u64.wrap ((r : Int) + ishl .u64 1 (IntKind.u64.wrap (i : Int))) = ((r + 1 * 2 ^ i : Nat) : Int) := (place 1 r i (by decide) hr hi).1
theorem twoGo_nat (op : Int) (a b v : Nat) (hv : ∀ i, i < 64 → twoBit op (((a / 2 ^ i % 2 + b / 2 ^ i % 2 : Nat) : Int)) = decide (v / 2 ^ i % 2 = 1)) : ∀ (m i r : Nat) (H : Heap), i + m ≤ 64 → r < 2 ^ i →
    (twoGo op a b m i r H).1 = ((r + 2 ^ i * (v / 2 ^ i % 2 ^ m) : Nat) : Int)
  | 0, i, r, H, hi, hr => by simp [twoGo, Nat.mod_one]
  | m + 1, i, r, H, hi, hr => by
    have h1 := Nat.mod_lt (a / 2 ^ i) (show 0 < 2 by decide)
    have h2 := Nat.mod_lt (b / 2 ^ i) (show 0 < 2 by decide)
    have hx : IntKind.u64.wrap (R1_Bit a i + R1_Bit b i) = ((a / 2 ^ i % 2 + b / 2 ^ i % 2 : Nat) : Int) := by
      rw [bit_nat a i (by omega), bit_nat b i (by omega), ← Int.natCast_add, wrapU_nat _ (by omega)]
    have h3 : 2 ^ (i + 1) = 2 * 2 ^ i := by rw [Nat.pow_succ]; omega
    have hs : (bif twoBit op (((a / 2 ^ i % 2 + b / 2 ^ i % 2 : Nat) : Int)) then IntKind.u64.wrap ((r : Int) + ishl .u64 1 (IntKind.u64.wrap (i : Int))) else (r : Int)) = ((r + v / 2 ^ i % 2 * 2 ^ i : Nat) : Int) := by
      rw [hv i (by omega)]
      rcases Nat.mod_two_eq_zero_or_one (v / 2 ^ i) with h | h
      · rw [h]; simp
      · rw [h, place1 r i hr (by omega)]; simp
    have hlt : r + v / 2 ^ i % 2 * 2 ^ i < 2 ^ (i + 1) := by
      rcases Nat.mod_two_eq_zero_or_one (v / 2 ^ i) with h | h <;> rw [h] <;> omega
    rw [twoGo, hx, hs, show ((i : Int) + 1) = ((i + 1 : Nat) : Int) by omega, twoGo_nat op a b v hv m (i + 1) _ _ (by omega) hlt, pow_split v i m, Nat.pow_succ, Nat.mul_add,
      Nat.mul_comm (2 ^ i) (v / 2 ^ i % 2), Nat.add_assoc, ← Nat.mul_assoc]
theorem bit_of (v i : Nat) : v / 2 ^ i % 2 = (v.testBit i).toNat := by
  rw [Nat.testBit_eq_decide_div_mod_eq]
  rcases Nat.mod_two_eq_zero_or_one (v / 2 ^ i) with h | h <;> simp [h]
theorem logic_nat (op : Int) (a b v : Nat) (hv : v < 2 ^ 64) (H : Heap) (h : ∀ i, twoBit op ((((a.testBit i).toNat + (b.testBit i).toNat : Nat) : Int)) = v.testBit i) : (twoGo op a b 64 0 0 H).1 = (v : Int) := by
  have := twoGo_nat op a b v (fun i _ => by
    rw [bit_of, bit_of, bit_of, h]
    cases v.testBit i <;> rfl) 64 0 0 H (by decide) (by decide)
  refine (show _ = _ from this).trans ?_
  simp
  omega
theorem logic_and {op : Int} (hop : op = 5 ∨ op = 9) (a b : Nat) (ha : a < 2 ^ 64) (H : Heap) : (twoGo op a b 64 0 0 H).1 = ((a &&& b : Nat) : Int) :=
  logic_nat op a b _ (Nat.lt_of_le_of_lt Nat.and_le_left ha) H fun i => by
    rw [Nat.testBit_and]
    rcases hop with rfl | rfl <;> cases a.testBit i <;> cases b.testBit i <;> rfl
theorem logic_or (a b : Nat) (ha : a < 2 ^ 64) (hb : b < 2 ^ 64) (H : Heap) : (twoGo 2 a b 64 0 0 H).1 = ((a ||| b : Nat) : Int) :=
  logic_nat 2 a b _ (Nat.or_lt_two_pow ha hb) H fun i => by
    rw [Nat.testBit_or]
    cases a.testBit i <;> cases b.testBit i <;> rfl
theorem logic_xor (a b : Nat) (ha : a < 2 ^ 64) (hb : b < 2 ^ 64) (H : Heap) : (twoGo 7 a b 64 0 0 H).1 = ((a ^^^ b : Nat) : Int) :=
  logic_nat 7 a b _ (Nat.xor_lt_two_pow ha hb) H fun i => by
    rw [Nat.testBit_xor]
    cases a.testBit i <;> cases b.testBit i <;> rfl
theorem bor_nat {x y : Nat} (hx : x < 2 ^ 64) (hy : y < 2 ^ 64) : bor .u64 (x : Int) (y : Int) = ((x ||| y : Nat) : Int) := by
  rw [bor_u64]
  have h1 : ((x : Int) % 18446744073709551616).toNat = x := by omega
  have h2 : ((y : Int) % 18446744073709551616).toNat = y := by omega
  rw [h1, h2]
theorem of_ref {r : Int} (hr : 0 ≤ r) (c o : Bool) (w : Int) : R8_of r c o w = xflag_of r c o w := by
  unfold R8_of xflag_of
  rw [zx_ref r w hr, sx_ref r w hr]
theorem sum_pos (a b : Int) (i : Bool) (w : Int) : 0 ≤ (bits_Sum a b i w).1 := by
  unfold bits_Sum
  cases bits_Is w
  · exact Int.le_refl _
  · exact zx_nonneg _ _
theorem less_pos (a b : Int) (i : Bool) (w : Int) : 0 ≤ (bits_Less a b i w).1 := by
  unfold bits_Less
  cases bits_Is w
  · exact Int.le_refl _
  · exact zx_nonneg _ _
theorem two_ref (op : Int) {a b : Int} (ha : 0 ≤ a ∧ a < 18446744073709551616) (hb : 0 ≤ b ∧ b < 18446744073709551616) (t0 t1 : Bool) (t2 w : Int) (H : Heap) :
    (R8_Two op a b t0 t1 t2 w H).1 = xflag_Two op a b t0 t1 t2 w := by
  unfold R8_Two xflag_Two isLogic ofS
  rw [show R1_Is w = bits_Is w from rfl]
  cases bits_Is w
  · rfl
  · simp only [ct, sum_ref ha.1 hb.1, less_ref ha.1 hb.1 hb.2, of_ref (sum_pos _ _ _ _), of_ref (less_pos _ _ _ _)]
    obtain ⟨x, rfl⟩ := Int.eq_ofNat_of_zero_le ha.1
    obtain ⟨y, rfl⟩ := Int.eq_ofNat_of_zero_le hb.1
    have hx : x < 2 ^ 64 := by simp; omega
    have hy : y < 2 ^ 64 := by simp; omega
    by_cases h1 : op = 1
    · subst h1; rfl
    by_cases h3 : op = 3
    · subst h3; rfl
    by_cases h6 : op = 6
    · subst h6; rfl
    by_cases h8 : op = 8
    · subst h8; rfl
    by_cases h4 : op = 4
    · subst h4; rfl
    have e1 : (op == 1) = false := by simpa using h1
    have e3 : (op == 3) = false := by simpa using h3
    have e4 : (op == 4) = false := by simpa using h4
    have e6 : (op == 6) = false := by simpa using h6
    have e8 : (op == 8) = false := by simpa using h8
    by_cases h5 : op = 5 ∨ op = 9
    · have e5 : (op == 5 || op == 9) = true := by simpa using h5
      have e5' : (op == 5 || (op == 9 || (op == 2 || op == 7))) = true := by rw [← Bool.or_assoc, e5]; rfl
      simp only [e1, e3, e4, e6, e8, e5, e5', ct, cf, Bool.or_false]
      rw [logic_and h5 x y hx, of_ref (by omega), band_nat hx hy]
    have e5 : (op == 5) = false := by simp; exact fun h => h5 (.inl h)
    have e9 : (op == 9) = false := by simp; exact fun h => h5 (.inr h)
    by_cases h2 : op = 2
    · subst h2
      simp only [e5, e9, e1, e3, e4, e6, e8, cf, ct, Bool.or_false, Bool.false_or, beq_self_eq_true, Bool.true_or]
      rw [logic_or x y hx hy, of_ref (by omega), bor_nat hx hy]
    have e2 : (op == 2) = false := by simpa using h2
    by_cases h7 : op = 7
    · subst h7
      simp only [e5, e9, e1, e2, e3, e4, e6, e8, cf, ct, Bool.or_false, Bool.false_or, beq_self_eq_true]
      rw [logic_xor x y hx hy, of_ref (by omega), bxor_nat hx hy]
    have e7 : (op == 7) = false := by simpa using h7
    simp only [e5, e9, e1, e2, e3, e4, e6, e7, e8, cf, Bool.or_false]
end Go.Proofs.Ytmdcmjlhnbodmaa
