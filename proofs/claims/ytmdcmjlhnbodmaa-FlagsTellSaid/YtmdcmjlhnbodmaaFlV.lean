/- Plain: what a thunk tells, of both. -/
import Derived.Test.YtmdcmjlhnbodmaaFlTell
namespace Go.Proofs.Ytmdcmjlhnbodmaa
open Go Go.Proofs.Ytmdcmjlhnbodmaa.Ab
set_option maxRecDepth 100000

def ones : Nat → Nat → Nat → Nat
  | 0, _, _ => 0
  | m + 1, x, i => (x.testBit i).toNat + ones m x (i + 1)
theorem ones_le : ∀ m x i, ones m x i ≤ m
  | 0, x, i => Nat.le_refl 0
  | m + 1, x, i => by
    have := ones_le m x (i + 1)
    have hb : (x.testBit i).toNat ≤ 1 := by cases x.testBit i <;> decide
    simp only [ones]; omega
theorem onesGo_nat (x : Nat) : ∀ (m i r : Nat), i + m ≤ 64 → r ≤ i → onesGo (x : Int) m i r = ((r + ones m x i : Nat) : Int)
  | 0, i, r, hi, hr => by simp [onesGo, ones]
  | m + 1, i, r, hi, hr => by
    have hb : (x.testBit i).toNat ≤ 1 := by cases x.testBit i <;> decide
    rw [onesGo, bit_nat x i (by omega), bit_of, wrap_i64 (n := (((x.testBit i).toNat : Nat) : Int)) (by omega) (by omega), ← Int.natCast_add, wrap_i64 (by omega) (by omega),
      show ((i : Int) + 1) = ((i + 1 : Nat) : Int) by omega, onesGo_nat x m (i + 1) _ (by omega) (by omega), ones, Nat.add_assoc]
theorem even_tab : ((List.range 256).all fun x => ((pop8[x]?).elim 0 (fun v => v.toNat) % 2 == ones 64 x 0 % 2) && decide ((pop8[x]?).elim 0 (fun v => v.toNat) < 256)) = true := by decide +kernel
theorem even_ref {v : Int} (hv : 0 ≤ v) : R1_Even v = bits_Even v := by
  unfold R1_Even bits_Even mbits_OnesCount8 R1_Ones
  rw [wrap_u8, Int.tmod_eq_emod_of_nonneg hv]
  obtain ⟨x, hx⟩ := Int.eq_ofNat_of_zero_le (show 0 ≤ v % 256 by omega)
  have hx2 : x < 256 := by omega
  rw [hx]
  have h1 := onesGo_nat x 64 0 0 (by decide) (by decide)
  have h2 := ones_le 64 x 0
  have h := even_tab
  rw [List.all_eq_true] at h
  have h3 := h x (by simpa using hx2)
  simp only [Bool.and_eq_true, beq_iff_eq, decide_eq_true_eq] at h3
  have h4 : (x : Int).toNat = x := rfl
  rw [show onesGo (x : Int) 64 0 0 = _ from h1, h4, Int.tmod_eq_emod_of_nonneg (Int.natCast_nonneg _)]
  obtain ⟨h3, h5⟩ := h3
  cases hp : pop8[x]? with
  | none =>
    rw [hp] at h3
    simp only [Option.elim] at h3 ⊢
    rw [Bool.eq_iff_iff]; simp; omega
  | some u =>
    rw [hp] at h3 h5
    simp only [Option.elim] at h3 h5 ⊢
    rw [wrap_i64 (by omega) (by omega), Int.tmod_eq_emod_of_nonneg (Int.natCast_nonneg _), Bool.eq_iff_iff]
    simp; omega
theorem sign_ref (t0 t1 : Bool) {v : Int} (hv : 0 ≤ v ∧ v < 18446744073709551616) : xflag_Thunk_Sign t0 t1 v = R8_Thunk_Sign t0 t1 v := by
  unfold xflag_Thunk_Sign R8_Thunk_Sign
  rw [Bool.eq_iff_iff]
  simp [IntKind.wrap, IntKind.bits, IntKind.signed]
  omega
theorem and_even (x : Nat) (hx : x < 18446744073709551616) : x &&& 18446744073709551614 = 2 * (x / 2) := by
  apply Nat.eq_of_testBit_eq
  intro i
  rw [Nat.testBit_and]
  cases i with
  | zero => rw [show (18446744073709551614 : Nat).testBit 0 = false from rfl, Bool.and_false, Nat.testBit_zero]; simp
  | succ i =>
    rw [Nat.testBit_succ, Nat.testBit_succ, Nat.testBit_succ, show 2 * (x / 2) / 2 = x / 2 by omega, show 18446744073709551614 / 2 = 2 ^ 63 - 1 from rfl, Nat.testBit_two_pow_sub_one]
    by_cases hi : i < 63
    · simp [hi]
    · have : (x / 2).testBit i = false := Nat.testBit_lt_two_pow (Nat.lt_of_lt_of_le (show x / 2 < 2 ^ 63 by show _ < 9223372036854775808; omega) (Nat.pow_le_pow_right (by decide) (by omega)))
      rw [this]; rfl
theorem bandn_one {c : Int} (h1 : -9223372036854775808 ≤ c) (h2 : c < 9223372036854775808) : bandn .i64 c 1 = c - c % 2 := by
  unfold bandn
  rw [BitVec.toNat_and, BitVec.toNat_not]
  simp only [BitVec.toNat_ofInt, IntKind.bits]
  have e64 : ((2 ^ 64 : Nat) : Int) = 18446744073709551616 := rfl
  rw [e64]
  have e1 : 2 ^ 64 - 1 - ((1 : Int) % 18446744073709551616).toNat = 18446744073709551614 := rfl
  rw [e1, and_even _ (by omega)]
  simp only [IntKind.wrap, IntKind.bits, IntKind.signed]
  simp
  split <;> omega
theorem band_one_i64 (c : Int) : band .i64 c 1 = c % 2 := by
  unfold band
  rw [BitVec.toNat_and]
  simp only [BitVec.toNat_ofInt, IntKind.bits]
  have e64 : ((2 ^ 64 : Nat) : Int) = 18446744073709551616 := rfl
  rw [e64]
  have e1 : ((1 : Int) % 18446744073709551616).toNat = 2 ^ 1 - 1 := rfl
  rw [e1, Nat.and_two_pow_sub_one_eq_mod, wrap_i64 (by omega) (by omega)]
  omega
theorem cond_ref (t0 t1 : Bool) {v : Int} (hv : 0 ≤ v ∧ v < 18446744073709551616) {cc : Int} (h1 : -9223372036854775808 ≤ cc) (h2 : cc < 9223372036854775808) (H : Heap) :
    (R8_Thunk_Cond t0 t1 v cc H).1 = xflag_Thunk_Cond t0 t1 v cc := by
  unfold R8_Thunk_Cond xflag_Thunk_Cond condK xflag_Thunk_less xflag_Thunk_Even
  rw [bandn_one h1 h2, band_one_i64 cc, ← sign_ref t0 t1 hv, show R8_Thunk_Even t0 t1 v = bits_Even v from even_ref hv.1, show R8_Thunk_Zero t0 t1 v = xflag_Thunk_Zero t0 t1 v from rfl]
  generalize xflag_Thunk_Zero t0 t1 v = z
  generalize xflag_Thunk_Sign t0 t1 v = s
  generalize bits_Even v = e
  cases g1 : decide (cc < 0)
  · cases g2 : decide (cc > 15)
    · have hb : 0 ≤ cc ∧ cc ≤ 15 := by simp at g1 g2; omega
      have hc : cc = 0 ∨ cc = 1 ∨ cc = 2 ∨ cc = 3 ∨ cc = 4 ∨ cc = 5 ∨ cc = 6 ∨ cc = 7 ∨ cc = 8 ∨ cc = 9 ∨ cc = 10 ∨ cc = 11 ∨ cc = 12 ∨ cc = 13 ∨ cc = 14 ∨ cc = 15 := by omega
      clear h1 h2 g1 g2 hb hv
      have hbb : ∀ b : Bool, (b == true) = !(b == false) ∧ (b == false) = !(b == true) := by intro b; cases b <;> exact ⟨rfl, rfl⟩
      rcases hc with rfl | rfl | rfl | rfl | rfl | rfl | rfl | rfl | rfl | rfl | rfl | rfl | rfl | rfl | rfl | rfl <;> first | exact (hbb _).1 | exact (hbb _).2
    · have hb : 15 < cc := by simpa using g2
      have f : ∀ k : Int, k < 16 → (cc - cc % 2 == k) = false := by intro k hk; simp; omega
      simp only [f 0 (by decide), f 2 (by decide), f 4 (by decide), f 6 (by decide), f 8 (by decide), f 10 (by decide), f 12 (by decide), f 14 (by decide), ct, cf]
  · have hb : cc < 0 := by simpa using g1
    have f : ∀ k : Int, 0 ≤ k → (cc - cc % 2 == k) = false := by intro k hk; simp; omega
    simp only [f 0 (by decide), f 2 (by decide), f 4 (by decide), f 6 (by decide), f 8 (by decide), f 10 (by decide), f 12 (by decide), f 14 (by decide), ct, cf]
theorem pack_tab : ∀ z s e t0 t1 : Bool, packOr t1 2048 (packOr s 128 (packOr z 64 (packOr e 4 (packOr t0 1 514)))) = packSum z s e t0 t1 := by decide +kernel
theorem pack_ref (t0 t1 : Bool) {v : Int} (hv : 0 ≤ v ∧ v < 18446744073709551616) (H : Heap) : (xflag_Thunk_Pack t0 t1 v H).1 = R8_Thunk_Pack t0 t1 v := by
  unfold xflag_Thunk_Pack R8_Thunk_Pack xflag_Thunk_Even
  rw [← sign_ref t0 t1 hv, show R8_Thunk_Even t0 t1 v = bits_Even v from even_ref hv.1, show R8_Thunk_Zero t0 t1 v = xflag_Thunk_Zero t0 t1 v from rfl]
  generalize xflag_Thunk_Zero t0 t1 v = z
  generalize xflag_Thunk_Sign t0 t1 v = s
  generalize bits_Even v = e
  exact pack_tab z s e t0 t1
end Go.Proofs.Ytmdcmjlhnbodmaa
