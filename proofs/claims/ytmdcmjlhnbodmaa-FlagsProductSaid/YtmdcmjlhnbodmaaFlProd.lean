/- FlagsProduct: the law. -/
import Derived.Test.YtmdcmjlhnbodmaaFlD
namespace Go.Proofs.Ytmdcmjlhnbodmaa
open Go Go.Proofs.Ytmdcmjlhnbodmaa.Ab
set_option linter.unusedVariables false
set_option maxRecDepth 100000
noncomputable section
theorem same_refl (a b : Bool) (c : Int) : L08_same a b c a b c = true := by unfold L08_same; simp
/-! L08_FlagsProduct -/
def L08_FlagsProduct (a b : Int) (signed : Bool) (w : Int) : Bool := true
noncomputable def G5 : List TV → Option (List TV) | [.c (Cell.int .u64 a), .c (Cell.int .u64 b), .c (Cell.bool signed), .c (Cell.int .i64 w)] => some [.c (Cell.bool (L08_FlagsProduct a b signed w))] | _ => none
noncomputable def F5 : FnSem := numF G5
noncomputable def C5 : Ctx := { P := Try.prog, own := [11, 14], fns := L19, nt := 49, nums := N19, live := [] }
theorem e5 : ∀ (R : Type) (a b : Int) (signed : Bool) (w : Int) (H : Heap) (K : AV → Heap → Option R) (lp : Code → St → (AExit → St → Option R) → Option R), fnL C5 lp Try.f5.results.toList (bodyOf Try.f5) [TV.c (Cell.int IntKind.u64 a), TV.c (Cell.int IntKind.u64 b), TV.c (Cell.bool signed), TV.c (Cell.int IntKind.i64 w)] H K = bif (xflag_Product a b signed w).fst == (R8_Product a b signed w).fst then bif (xflag_Product a b signed w).snd.fst == (R8_Product a b signed w).snd.fst then bif L08_same (xflag_Product a b signed w).snd.snd.fst (xflag_Product a b signed w).snd.snd.snd.fst (xflag_Product a b signed w).snd.snd.snd.snd (R8_Product a b signed w).snd.snd.fst (R8_Product a b signed w).snd.snd.snd.fst (R8_Product a b signed w).snd.snd.snd.snd then K (AV.c (Cell.bool true)) H else K (AV.c (Cell.bool false)) H else K (AV.c (Cell.bool false)) H else K (AV.c (Cell.bool false)) H := by intros; kernel_rfl
theorem s5 (R : Type) (a : Int) (b : Int) (signed : Bool) (w : Int) (H : Heap) (K : AV → Heap → Option R) (lp : Code → St → (AExit → St → Option R) → Option R) (ha : 0 ≤ a ∧ a < 18446744073709551616) (hb : 0 ≤ b ∧ b < 18446744073709551616) : fnL C5 lp Try.f5.results.toList (bodyOf Try.f5) [.c (Cell.int .u64 a), .c (Cell.int .u64 b), .c (Cell.bool signed), .c (Cell.int .i64 w)] H K = K (oneOf [.c (Cell.bool (L08_FlagsProduct a b signed w))]) H := by
  rw [e5]
  simp only [prod_ref ha hb]
  generalize xflag_Product a b signed w = p
  obtain ⟨p0, p1, p2, p3, p4⟩ := p
  simp only [beq_self_eq_true, same_refl, cond_true]
  rfl
