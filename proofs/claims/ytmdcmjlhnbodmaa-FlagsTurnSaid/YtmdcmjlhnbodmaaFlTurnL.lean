/- FlagsTurn: the law. -/
import Derived.Test.YtmdcmjlhnbodmaaFlU
namespace Go.Proofs.Ytmdcmjlhnbodmaa
open Go Go.Proofs.Ytmdcmjlhnbodmaa.Ab
set_option linter.unusedVariables false
set_option maxRecDepth 100000
noncomputable section
theorem same_refl (a b : Bool) (c : Int) : L08_same a b c a b c = true := by unfold L08_same; simp
/-! L08_FlagsTurn -/
def L08_FlagsTurn (op a n : Int) (t0 t1 : Bool) (t2 w : Int) (H : Heap) : Bool × Heap := (true, (R8_Turn op a n t0 t1 t2 w H).2)
noncomputable def G4 : ASem | [.c (Cell.int .i64 op), .c (Cell.int .u64 a), .c (Cell.int .i64 n), .agg [Cell.bool t0, Cell.bool t1, Cell.int .u64 t2], .c (Cell.int .i64 w)], H => some ([.c (Cell.bool (L08_FlagsTurn op a n t0 t1 t2 w H).1)], (L08_FlagsTurn op a n t0 t1 t2 w H).2) | _, _ => none
noncomputable def F4 : FnSem := natF G4
noncomputable def C4 : Ctx := { P := Try.prog, own := [8, 12, 14], fns := L17, nt := 45, nums := N17, live := [] }
theorem e4 : ∀ (R : Type) (op a n : Int) (t0 t1 : Bool) (t2 w : Int) (H : Heap) (K : AV → Heap → Option R) (lp : Code → St → (AExit → St → Option R) → Option R), fnL C4 lp Try.f4.results.toList (bodyOf Try.f4) [TV.c (Cell.int IntKind.i64 op), TV.c (Cell.int IntKind.u64 a), TV.c (Cell.int IntKind.i64 n), TV.agg [Cell.bool t0, Cell.bool t1, Cell.int IntKind.u64 t2], TV.c (Cell.int IntKind.i64 w)] H K = bif (xflag_Turn op a n (L08_ours t0 t1 t2).fst (L08_ours t0 t1 t2).snd.fst (L08_ours t0 t1 t2).snd.snd w).fst == (R8_Turn op a n t0 t1 t2 w H).fst.fst then bif L08_same (xflag_Turn op a n (L08_ours t0 t1 t2).fst (L08_ours t0 t1 t2).snd.fst (L08_ours t0 t1 t2).snd.snd w).snd.fst (xflag_Turn op a n (L08_ours t0 t1 t2).fst (L08_ours t0 t1 t2).snd.fst (L08_ours t0 t1 t2).snd.snd w).snd.snd.fst (xflag_Turn op a n (L08_ours t0 t1 t2).fst (L08_ours t0 t1 t2).snd.fst (L08_ours t0 t1 t2).snd.snd w).snd.snd.snd (R8_Turn op a n t0 t1 t2 w H).fst.snd.fst (R8_Turn op a n t0 t1 t2 w H).fst.snd.snd.fst (R8_Turn op a n t0 t1 t2 w H).fst.snd.snd.snd then K (AV.c (Cell.bool true)) (R8_Turn op a n t0 t1 t2 w H).snd else K (AV.c (Cell.bool false)) (R8_Turn op a n t0 t1 t2 w H).snd else K (AV.c (Cell.bool false)) (R8_Turn op a n t0 t1 t2 w H).snd := by intros; kernel_rfl
theorem s4 (R : Type) (op : Int) (a : Int) (n : Int) (t0 : Bool) (t1 : Bool) (t2 : Int) (w : Int) (H : Heap) (K : AV → Heap → Option R) (lp : Code → St → (AExit → St → Option R) → Option R) (ha : 0 ≤ a) : fnL C4 lp Try.f4.results.toList (bodyOf Try.f4) [.c (Cell.int .i64 op), .c (Cell.int .u64 a), .c (Cell.int .i64 n), .agg [Cell.bool t0, Cell.bool t1, Cell.int .u64 t2], .c (Cell.int .i64 w)] H K = K (oneOf [.c (Cell.bool (L08_FlagsTurn op a n t0 t1 t2 w H).1)]) (L08_FlagsTurn op a n t0 t1 t2 w H).2 := by
  rw [e4]
  simp only [turn_ref op ha]
  have e : (xflag_Turn op a n (L08_ours t0 t1 t2).1 (L08_ours t0 t1 t2).2.1 (L08_ours t0 t1 t2).2.2 w) = xflag_Turn op a n t0 t1 t2 w := rfl
  simp only [e, beq_self_eq_true, same_refl, ct]
  rfl
