/- FlagsQuotient: the law. -/
import Derived.Test.YtmdcmjlhnbodmaaFlQ
namespace Go.Proofs.Ytmdcmjlhnbodmaa
open Go Go.Proofs.Ytmdcmjlhnbodmaa.Ab
set_option linter.unusedVariables false
set_option maxRecDepth 100000
noncomputable section
/-! L08_FlagsQuotient -/
def L08_FlagsQuotient (hi lo d : Int) (signed : Bool) (w : Int) : Bool := true
noncomputable def G6 : List TV → Option (List TV) | [.c (Cell.int .u64 hi), .c (Cell.int .u64 lo), .c (Cell.int .u64 d), .c (Cell.bool signed), .c (Cell.int .i64 w)] => some [.c (Cell.bool (L08_FlagsQuotient hi lo d signed w))] | _ => none
noncomputable def F6 : FnSem := numF G6
noncomputable def C6 : Ctx := { P := Try.prog, own := [], fns := L21, nt := 104, nums := N21, live := [] }
theorem e6 : ∀ (R : Type) (hi lo d : Int) (signed : Bool) (w : Int) (H : Heap) (K : AV → Heap → Option R) (lp : Code → St → (AExit → St → Option R) → Option R), fnL C6 lp Try.f6.results.toList (bodyOf Try.f6) [TV.c (Cell.int IntKind.u64 hi), TV.c (Cell.int IntKind.u64 lo), TV.c (Cell.int IntKind.u64 d), TV.c (Cell.bool signed), TV.c (Cell.int IntKind.i64 w)] H K = bif decide (0 ≤ d) then bif (xflag_Quotient hi lo d signed w).fst != (R8_Quotient hi lo d signed w).fst then K (AV.c (Cell.bool false)) H else bif (xflag_Quotient hi lo d signed w).snd.fst != (R8_Quotient hi lo d signed w).snd.fst then K (AV.c (Cell.bool false)) H else bif bif false then (xflag_Quotient hi lo d signed w).snd.snd == (R8_Quotient hi lo d signed w).snd.snd else !(xflag_Quotient hi lo d signed w).snd.snd == (R8_Quotient hi lo d signed w).snd.snd then K (AV.c (Cell.bool false)) H else bif !(xflag_Quotient hi lo d signed w).snd.snd then K (AV.c (Cell.bool true)) H else bif decide (IntKind.u64.wrap (IntKind.i64.wrap (8 * w)) < 0) then none else bif signed then bif bits_Zx (IntKind.u64.wrap (IntKind.u64.wrap (bits_Sx (xflag_Quotient hi lo d signed w).fst w * bits_Sx d w) + bits_Sx (xflag_Quotient hi lo d signed w).snd.fst w)) (IntKind.i64.wrap (2 * w)) == bor IntKind.u64 (ishl IntKind.u64 (bits_Zx hi w) (IntKind.u64.wrap (IntKind.i64.wrap (8 * w)))) (bits_Zx lo w) then K (AV.c (Cell.bool true)) H else K (AV.c (Cell.bool false)) H else bif IntKind.u64.wrap (IntKind.u64.wrap ((xflag_Quotient hi lo d signed w).fst * bits_Zx d w) + (xflag_Quotient hi lo d signed w).snd.fst) == bor IntKind.u64 (ishl IntKind.u64 (bits_Zx hi w) (IntKind.u64.wrap (IntKind.i64.wrap (8 * w)))) (bits_Zx lo w) then bif decide ((xflag_Quotient hi lo d signed w).snd.fst < bits_Zx d w) then K (AV.c (Cell.bool true)) H else K (AV.c (Cell.bool false)) H else K (AV.c (Cell.bool false)) H else none := by intros; kernel_rfl
theorem s6 (R : Type) (hi : Int) (lo : Int) (d : Int) (signed : Bool) (w : Int) (H : Heap) (K : AV → Heap → Option R) (lp : Code → St → (AExit → St → Option R) → Option R) (hh : 0 ≤ hi ∧ hi < 18446744073709551616) (hl : 0 ≤ lo ∧ lo < 18446744073709551616) (hd : 0 ≤ d ∧ d < 18446744073709551616) : fnL C6 lp Try.f6.results.toList (bodyOf Try.f6) [.c (Cell.int .u64 hi), .c (Cell.int .u64 lo), .c (Cell.int .u64 d), .c (Cell.bool signed), .c (Cell.int .i64 w)] H K = K (oneOf [.c (Cell.bool (L08_FlagsQuotient hi lo d signed w))]) H := by
  rw [e6]
  have g0 : decide (0 ≤ d) = true := by simpa using hd.1
  have hb : ∀ b : Bool, (bif false then b == b else !b == b) = false := by intro b; cases b <;> rfl
  have hne : ∀ x : Int, (x != x) = false := by intro x; simp
  simp only [quot_ref hh hl hd, g0, ct, hne, cf, hb]
  cases hok : (xflag_Quotient hi lo d signed w).2.2
  · simp only [Bool.not_false, ct]; rfl
  · obtain ⟨hw, hs, hu⟩ := quot_back hh hl hd signed w hok
    have h8 := is_8w (is_nat hw)
    have g1 : IntKind.u64.wrap (IntKind.i64.wrap (8 * w)) = 8 * w := by rw [h8.1, wrap_u64]; omega
    have g2 : decide (8 * w < 0) = false := by simp; omega
    rw [g1, g2]
    simp only [Bool.not_true, cf]
    cases signed
    · simp only [(hu rfl).1, (hu rfl).2, cf, ct]; rfl
    · simp only [hs rfl, ct]; rfl
