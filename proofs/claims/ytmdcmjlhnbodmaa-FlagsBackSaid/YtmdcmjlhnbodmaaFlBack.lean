/- FlagsBack: the law. -/
import Derived.Test.YtmdcmjlhnbodmaaFl3
namespace Go.Proofs.Ytmdcmjlhnbodmaa
open Go Go.Proofs.Ytmdcmjlhnbodmaa.Ab
set_option linter.unusedVariables false
set_option maxRecDepth 100000
noncomputable section
theorem zx8 (v : Int) : bits_Zx v 8 = v % 18446744073709551616 := rfl
theorem sum8_1 (a b : Int) (i : Bool) : (bits_Sum a b i 8).1 = (a + b + bits_one i) % 18446744073709551616 := by
  show bits_Zx ((bits_Zx a 8 + bits_Zx b 8 + bits_one i) % 18446744073709551616) 8 = _
  simp only [zx8]; omega
theorem sum8_c (a b : Int) : (bits_Sum a b false 8).2.1 = decide (a % 18446744073709551616 + b % 18446744073709551616 ≥ 18446744073709551616) := by
  show ((bits_Zx a 8 + bits_Zx b 8 + 0) / 18446744073709551616 == 1 || !((bits_Zx a 8 + bits_Zx b 8 + 0) % 18446744073709551616 == bits_Zx ((bits_Zx a 8 + bits_Zx b 8 + 0) % 18446744073709551616) 8)) = _
  simp only [zx8]
  rw [Bool.eq_iff_iff]
  simp
  omega
theorem less8_1 (a b : Int) (i : Bool) : (bits_Less a b i 8).1 = (a - b - bits_one i) % 18446744073709551616 := by
  show bits_Zx ((bits_Zx a 8 + 18446744073709551616 - bits_Zx b 8 - bits_one i) % 18446744073709551616) 8 = _
  simp only [zx8]; omega
theorem less8_c (a b : Int) : (bits_Less a b false 8).2.1 = decide (a % 18446744073709551616 < b % 18446744073709551616) := by
  show decide (bits_Zx a 8 < bits_Zx b 8 + 0) = _
  simp only [zx8, Int.add_zero]
theorem two1 (a b : Int) (t0 t1 : Bool) (t2 : Int) : (xflag_Two 1 a b t0 t1 t2 8).1 = (a + b) % 18446744073709551616 ∧ (xflag_Two 1 a b t0 t1 t2 8).2.1 = decide (a % 18446744073709551616 + b % 18446744073709551616 ≥ 18446744073709551616) := by
  refine ⟨?_, sum8_c a b⟩
  show bits_Zx (bits_Sum a b false 8).1 8 = _
  rw [sum8_1, zx8]
  show (a + b + 0) % _ % _ = _
  omega
theorem two3 (a b : Int) (t0 t1 : Bool) (t2 : Int) : (xflag_Two 3 a b t0 t1 t2 8).1 = (a + b + bits_one t0) % 18446744073709551616 := by
  show bits_Zx (bits_Sum a b t0 8).1 8 = _
  rw [sum8_1, zx8]; omega
theorem two6 (a b : Int) (t0 t1 : Bool) (t2 : Int) : (xflag_Two 6 a b t0 t1 t2 8).1 = (a - b) % 18446744073709551616 ∧ (xflag_Two 6 a b t0 t1 t2 8).2.1 = decide (a % 18446744073709551616 < b % 18446744073709551616) := by
  refine ⟨?_, less8_c a b⟩
  show bits_Zx (bits_Less a b false 8).1 8 = _
  rw [less8_1, zx8]
  show (a - b - 0) % _ % _ = _
  omega
theorem two4 (a b : Int) (t0 t1 : Bool) (t2 : Int) : (xflag_Two 4 a b t0 t1 t2 8).1 = (a - b - bits_one t0) % 18446744073709551616 := by
  show bits_Zx (bits_Less a b t0 8).1 8 = _
  rw [less8_1, zx8]; omega
theorem one19 (a : Int) (t0 t1 : Bool) (t2 : Int) : xflag_One 19 a t0 t1 t2 8 = xflag_Two 6 0 a t0 t1 t2 8 := rfl
/-! L08_FlagsBack -/
def L08_FlagsBack (a0 a1 b0 b1 : Int) : Bool := true
noncomputable def G8 : List TV → Option (List TV) | [.agg [Cell.int .u64 a0, Cell.int .u64 a1], .agg [Cell.int .u64 b0, Cell.int .u64 b1]] => some [.c (Cell.bool (L08_FlagsBack a0 a1 b0 b1))] | _ => none
noncomputable def F8 : FnSem := numF G8
noncomputable def C8 : Ctx := { P := Try.prog, own := [2, 3, 6, 8, 10, 12, 14, 16], fns := L27, nt := 91, nums := N27, live := [] }
theorem e8 : ∀ (R : Type) (a0 a1 b0 b1 : Int) (H : Heap) (K : AV → Heap → Option R) (lp : Code → St → (AExit → St → Option R) → Option R), fnL C8 lp Try.f8.results.toList (bodyOf Try.f8) [TV.agg [Cell.int IntKind.u64 a0, Cell.int IntKind.u64 a1], TV.agg [Cell.int IntKind.u64 b0, Cell.int IntKind.u64 b1]] H K = bif (xflag_Two 6 (xflag_Two 1 a0 b0 false false 0 8).fst b0 false false 0 8).fst == a0 then bif (xflag_Two 4 (xflag_Two 3 a1 b1 (xflag_Two 1 a0 b0 false false 0 8).snd.fst (xflag_Two 1 a0 b0 false false 0 8).snd.snd.fst (xflag_Two 1 a0 b0 false false 0 8).snd.snd.snd 8).fst b1 (xflag_Two 6 (xflag_Two 1 a0 b0 false false 0 8).fst b0 false false 0 8).snd.fst (xflag_Two 6 (xflag_Two 1 a0 b0 false false 0 8).fst b0 false false 0 8).snd.snd.fst (xflag_Two 6 (xflag_Two 1 a0 b0 false false 0 8).fst b0 false false 0 8).snd.snd.snd 8).fst == a1 then bif (xflag_Two 1 (xflag_One 19 a0 false false 0 8).fst a0 (xflag_One 19 a0 false false 0 8).snd.fst (xflag_One 19 a0 false false 0 8).snd.snd.fst (xflag_One 19 a0 false false 0 8).snd.snd.snd 8).fst == 0 then bif bif true then (xflag_One 19 a0 false false 0 8).snd.fst == (a0 != 0) else !(xflag_One 19 a0 false false 0 8).snd.fst == (a0 != 0) then K (AV.c (Cell.bool true)) H else K (AV.c (Cell.bool false)) H else K (AV.c (Cell.bool false)) H else K (AV.c (Cell.bool false)) H else K (AV.c (Cell.bool false)) H := by intros; kernel_rfl
theorem s8 (R : Type) (a0 : Int) (a1 : Int) (b0 : Int) (b1 : Int) (H : Heap) (K : AV → Heap → Option R) (lp : Code → St → (AExit → St → Option R) → Option R) (h0 : 0 ≤ a0 ∧ a0 < 18446744073709551616) (h1 : 0 ≤ a1 ∧ a1 < 18446744073709551616) (h2 : 0 ≤ b0 ∧ b0 < 18446744073709551616) (h3 : 0 ≤ b1 ∧ b1 < 18446744073709551616) : fnL C8 lp Try.f8.results.toList (bodyOf Try.f8) [.agg [Cell.int .u64 a0, Cell.int .u64 a1], .agg [Cell.int .u64 b0, Cell.int .u64 b1]] H K = K (oneOf [.c (Cell.bool (L08_FlagsBack a0 a1 b0 b1))]) H := by
  rw [e8]
  have t1 := fun a b t0 t1 t2 => (two1 a b t0 t1 t2).1
  have t2 := fun a b t0 t1 t2 => (two1 a b t0 t1 t2).2
  have t3 := fun a b t0 t1 t2 => (two6 a b t0 t1 t2).1
  have t4 := fun a b t0 t1 t2 => (two6 a b t0 t1 t2).2
  simp only [one19, t1, t2, two3, t3, t4, two4]
  clear t1 t2 t3 t4
  have m0 : a0 % 18446744073709551616 = a0 := Int.emod_eq_of_lt h0.1 h0.2
  have m2 : b0 % 18446744073709551616 = b0 := Int.emod_eq_of_lt h2.1 h2.2
  have e1 : (((a0 + b0) % 18446744073709551616 - b0) % 18446744073709551616 == a0) = true := by simp; omega
  have hc : decide ((a0 + b0) % 18446744073709551616 % 18446744073709551616 < b0 % 18446744073709551616) = decide (a0 % 18446744073709551616 + b0 % 18446744073709551616 ≥ 18446744073709551616) := by rw [Bool.eq_iff_iff]; simp; omega
  have e2 : (((a1 + b1 + bits_one (decide (a0 % 18446744073709551616 + b0 % 18446744073709551616 ≥ 18446744073709551616))) % 18446744073709551616 - b1 - bits_one (decide (a0 % 18446744073709551616 + b0 % 18446744073709551616 ≥ 18446744073709551616))) % 18446744073709551616 == a1) = true := by
    have := one_range (decide (a0 % 18446744073709551616 + b0 % 18446744073709551616 ≥ 18446744073709551616))
    simp only [beq_iff_eq]; omega
  have e3 : (((0 - a0) % 18446744073709551616 + a0) % 18446744073709551616 == 0) = true := by simp only [beq_iff_eq]; omega
  have e4 : decide (0 % 18446744073709551616 < a0 % 18446744073709551616) = (a0 != 0) := by rw [Bool.eq_iff_iff]; simp; omega
  rw [e1, hc, e2, e3, e4]
  cases (a0 != 0) <;> rfl
