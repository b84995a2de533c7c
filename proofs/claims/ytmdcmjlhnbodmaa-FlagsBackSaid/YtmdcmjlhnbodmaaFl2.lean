/- Layer 8's own functions, 2. -/
import Derived.Test.YtmdcmjlhnbodmaaFl1
namespace Go.Proofs.Ytmdcmjlhnbodmaa
open Go Go.Proofs.Ytmdcmjlhnbodmaa.Ab
set_option linter.unusedVariables false
set_option maxRecDepth 100000
noncomputable section
/-! xflag_Two -/
def xflag_Two (op a b : Int) (t0 t1 : Bool) (t2 w : Int) : Int × Bool × Bool × Int :=
  bif bits_Is w then
    bif op == 1 || op == 3 then xflag_of (bits_Sum a b (op == 3 && t0) w).1 (bits_Sum a b (op == 3 && t0) w).2.1 (bits_Sum a b (op == 3 && t0) w).2.2 w
    else bif op == 6 || (op == 4 || op == 8) then xflag_of (bits_Less a b (op == 4 && t0) w).1 (bits_Less a b (op == 4 && t0) w).2.1 (bits_Less a b (op == 4 && t0) w).2.2 w
    else bif op == 5 || op == 9 then xflag_of (band .u64 a b) false false w
    else bif op == 2 then xflag_of (bor .u64 a b) false false w
    else bif op == 7 then xflag_of (bxor .u64 a b) false false w
    else (0, t0, t1, t2)
  else (0, t0, t1, t2)
noncomputable def G11 : List TV → Option (List TV) | [.c (Cell.int .i64 op), .c (Cell.int .u64 a), .c (Cell.int .u64 b), .agg [Cell.bool t0, Cell.bool t1, Cell.int .u64 t2], .c (Cell.int .i64 w)] => let r := xflag_Two op a b t0 t1 t2 w; some [.c (Cell.int .u64 r.1), .agg [Cell.bool r.2.1, Cell.bool r.2.2.1, Cell.int .u64 r.2.2.2]] | _ => none
noncomputable def F11 : FnSem := numF G11
noncomputable def C11 : Ctx := { P := Try.prog, own := [8, 11], fns := L39, nt := 101, nums := N39, live := [] }
theorem e11 : ∀ (R : Type) (op a b : Int) (t0 t1 : Bool) (t2 w : Int) (H : Heap) (K : AV → Heap → Option R) (lp : Code → St → (AExit → St → Option R) → Option R), fnL C11 lp Try.f11.results.toList (bodyOf Try.f11) [TV.c (Cell.int IntKind.i64 op), TV.c (Cell.int IntKind.u64 a), TV.c (Cell.int IntKind.u64 b), TV.agg [Cell.bool t0, Cell.bool t1, Cell.int IntKind.u64 t2], TV.c (Cell.int IntKind.i64 w)] H K = bif !bits_Is w then K (AV.tup [TV.c (Cell.int IntKind.u64 0), TV.agg [Cell.bool t0, Cell.bool t1, Cell.int IntKind.u64 t2]]) H else bif op == 1 then bif op == 1 then bif op == 3 then K (AV.tup [TV.c (Cell.int IntKind.u64 (xflag_of (bits_Sum a b t0 w).fst (bits_Sum a b t0 w).snd.fst (bits_Sum a b t0 w).snd.snd w).fst), TV.agg [Cell.bool (bits_Sum a b t0 w).snd.fst, Cell.bool (bits_Sum a b t0 w).snd.snd, Cell.int IntKind.u64 (bits_Sx (bits_Sum a b t0 w).fst w)]]) H else K (AV.tup [TV.c (Cell.int IntKind.u64 (xflag_of (bits_Sum a b false w).fst (bits_Sum a b false w).snd.fst (bits_Sum a b false w).snd.snd w).fst), TV.agg [Cell.bool (bits_Sum a b false w).snd.fst, Cell.bool (bits_Sum a b false w).snd.snd, Cell.int IntKind.u64 (bits_Sx (bits_Sum a b false w).fst w)]]) H else bif op == 6 then bif op == 6 then bif op == 4 then K (AV.tup [TV.c (Cell.int IntKind.u64 (xflag_of (bits_Less a b t0 w).fst (bits_Less a b t0 w).snd.fst (bits_Less a b t0 w).snd.snd w).fst), TV.agg [Cell.bool (bits_Less a b t0 w).snd.fst, Cell.bool (bits_Less a b t0 w).snd.snd, Cell.int IntKind.u64 (bits_Sx (bits_Less a b t0 w).fst w)]]) H else K (AV.tup [TV.c (Cell.int IntKind.u64 (xflag_of (bits_Less a b false w).fst (bits_Less a b false w).snd.fst (bits_Less a b false w).snd.snd w).fst), TV.agg [Cell.bool (bits_Less a b false w).snd.fst, Cell.bool (bits_Less a b false w).snd.snd, Cell.int IntKind.u64 (bits_Sx (bits_Less a b false w).fst w)]]) H else bif op == 5 then bif op == 5 then K (AV.tup [TV.c (Cell.int IntKind.u64 (xflag_of (band IntKind.u64 a b) false false w).fst), TV.agg [Cell.bool false, Cell.bool false, Cell.int IntKind.u64 (bits_Sx (band IntKind.u64 a b) w)]]) H else bif op == 2 then K (AV.tup [TV.c (Cell.int IntKind.u64 (xflag_of (bor IntKind.u64 a b) false false w).fst), TV.agg [Cell.bool false, Cell.bool false, Cell.int IntKind.u64 (bits_Sx (bor IntKind.u64 a b) w)]]) H else bif op == 7 then K (AV.tup [TV.c (Cell.int IntKind.u64 (xflag_of (bxor IntKind.u64 a b) false false w).fst), TV.agg [Cell.bool false, Cell.bool false, Cell.int IntKind.u64 (bits_Sx (bxor IntKind.u64 a b) w)]]) H else K (AV.tup [TV.c (Cell.int IntKind.u64 0), TV.agg [Cell.bool t0, Cell.bool t1, Cell.int IntKind.u64 t2]]) H else bif op == 9 then K (AV.tup [TV.c (Cell.int IntKind.u64 (xflag_of (band IntKind.u64 a b) false false w).fst), TV.agg [Cell.bool false, Cell.bool false, Cell.int IntKind.u64 (bits_Sx (band IntKind.u64 a b) w)]]) H else bif op == 2 then K (AV.tup [TV.c (Cell.int IntKind.u64 (xflag_of (bor IntKind.u64 a b) false false w).fst), TV.agg [Cell.bool false, Cell.bool false, Cell.int IntKind.u64 (bits_Sx (bor IntKind.u64 a b) w)]]) H else bif op == 7 then K (AV.tup [TV.c (Cell.int IntKind.u64 (xflag_of (bxor IntKind.u64 a b) false false w).fst), TV.agg [Cell.bool false, Cell.bool false, Cell.int IntKind.u64 (bits_Sx (bxor IntKind.u64 a b) w)]]) H else K (AV.tup [TV.c (Cell.int IntKind.u64 0), TV.agg [Cell.bool t0, Cell.bool t1, Cell.int IntKind.u64 t2]]) H else bif op == 4 then bif op == 4 then bif op == 4 then K (AV.tup [TV.c (Cell.int IntKind.u64 (xflag_of (bits_Less a b t0 w).fst (bits_Less a b t0 w).snd.fst (bits_Less a b t0 w).snd.snd w).fst), TV.agg [Cell.bool (bits_Less a b t0 w).snd.fst, Cell.bool (bits_Less a b t0 w).snd.snd, Cell.int IntKind.u64 (bits_Sx (bits_Less a b t0 w).fst w)]]) H else K (AV.tup [TV.c (Cell.int IntKind.u64 (xflag_of (bits_Less a b false w).fst (bits_Less a b false w).snd.fst (bits_Less a b false w).snd.snd w).fst), TV.agg [Cell.bool (bits_Less a b false w).snd.fst, Cell.bool (bits_Less a b false w).snd.snd, Cell.int IntKind.u64 (bits_Sx (bits_Less a b false w).fst w)]]) H else bif op == 5 then bif op == 5 then K (AV.tup [TV.c (Cell.int IntKind.u64 (xflag_of (band IntKind.u64 a b) false false w).fst), TV.agg [Cell.bool false, Cell.bool false, Cell.int IntKind.u64 (bits_Sx (band IntKind.u64 a b) w)]]) H else bif op == 2 then K (AV.tup [TV.c (Cell.int IntKind.u64 (xflag_of (bor IntKind.u64 a b) false false w).fst), TV.agg [Cell.bool false, Cell.bool false, Cell.int IntKind.u64 (bits_Sx (bor IntKind.u64 a b) w)]]) H else bif op == 7 then K (AV.tup [TV.c (Cell.int IntKind.u64 (xflag_of (bxor IntKind.u64 a b) false false w).fst), TV.agg [Cell.bool false, Cell.bool false, Cell.int IntKind.u64 (bits_Sx (bxor IntKind.u64 a b) w)]]) H else K (AV.tup [TV.c (Cell.int IntKind.u64 0), TV.agg [Cell.bool t0, Cell.bool t1, Cell.int IntKind.u64 t2]]) H else bif op == 9 then K (AV.tup [TV.c (Cell.int IntKind.u64 (xflag_of (band IntKind.u64 a b) false false w).fst), TV.agg [Cell.bool false, Cell.bool false, Cell.int IntKind.u64 (bits_Sx (band IntKind.u64 a b) w)]]) H else bif op == 2 then K (AV.tup [TV.c (Cell.int IntKind.u64 (xflag_of (bor IntKind.u64 a b) false false w).fst), TV.agg [Cell.bool false, Cell.bool false, Cell.int IntKind.u64 (bits_Sx (bor IntKind.u64 a b) w)]]) H else bif op == 7 then K (AV.tup [TV.c (Cell.int IntKind.u64 (xflag_of (bxor IntKind.u64 a b) false false w).fst), TV.agg [Cell.bool false, Cell.bool false, Cell.int IntKind.u64 (bits_Sx (bxor IntKind.u64 a b) w)]]) H else K (AV.tup [TV.c (Cell.int IntKind.u64 0), TV.agg [Cell.bool t0, Cell.bool t1, Cell.int IntKind.u64 t2]]) H else bif op == 8 then bif op == 4 then K (AV.tup [TV.c (Cell.int IntKind.u64 (xflag_of (bits_Less a b t0 w).fst (bits_Less a b t0 w).snd.fst (bits_Less a b t0 w).snd.snd w).fst), TV.agg [Cell.bool (bits_Less a b t0 w).snd.fst, Cell.bool (bits_Less a b t0 w).snd.snd, Cell.int IntKind.u64 (bits_Sx (bits_Less a b t0 w).fst w)]]) H else K (AV.tup [TV.c (Cell.int IntKind.u64 (xflag_of (bits_Less a b false w).fst (bits_Less a b false w).snd.fst (bits_Less a b false w).snd.snd w).fst), TV.agg [Cell.bool (bits_Less a b false w).snd.fst, Cell.bool (bits_Less a b false w).snd.snd, Cell.int IntKind.u64 (bits_Sx (bits_Less a b false w).fst w)]]) H else bif op == 5 then bif op == 5 then K (AV.tup [TV.c (Cell.int IntKind.u64 (xflag_of (band IntKind.u64 a b) false false w).fst), TV.agg [Cell.bool false, Cell.bool false, Cell.int IntKind.u64 (bits_Sx (band IntKind.u64 a b) w)]]) H else bif op == 2 then K (AV.tup [TV.c (Cell.int IntKind.u64 (xflag_of (bor IntKind.u64 a b) false false w).fst), TV.agg [Cell.bool false, Cell.bool false, Cell.int IntKind.u64 (bits_Sx (bor IntKind.u64 a b) w)]]) H else bif op == 7 then K (AV.tup [TV.c (Cell.int IntKind.u64 (xflag_of (bxor IntKind.u64 a b) false false w).fst), TV.agg [Cell.bool false, Cell.bool false, Cell.int IntKind.u64 (bits_Sx (bxor IntKind.u64 a b) w)]]) H else K (AV.tup [TV.c (Cell.int IntKind.u64 0), TV.agg [Cell.bool t0, Cell.bool t1, Cell.int IntKind.u64 t2]]) H else bif op == 9 then K (AV.tup [TV.c (Cell.int IntKind.u64 (xflag_of (band IntKind.u64 a b) false false w).fst), TV.agg [Cell.bool false, Cell.bool false, Cell.int IntKind.u64 (bits_Sx (band IntKind.u64 a b) w)]]) H else bif op == 2 then K (AV.tup [TV.c (Cell.int IntKind.u64 (xflag_of (bor IntKind.u64 a b) false false w).fst), TV.agg [Cell.bool false, Cell.bool false, Cell.int IntKind.u64 (bits_Sx (bor IntKind.u64 a b) w)]]) H else bif op == 7 then K (AV.tup [TV.c (Cell.int IntKind.u64 (xflag_of (bxor IntKind.u64 a b) false false w).fst), TV.agg [Cell.bool false, Cell.bool false, Cell.int IntKind.u64 (bits_Sx (bxor IntKind.u64 a b) w)]]) H else K (AV.tup [TV.c (Cell.int IntKind.u64 0), TV.agg [Cell.bool t0, Cell.bool t1, Cell.int IntKind.u64 t2]]) H else bif op == 3 then bif op == 3 then K (AV.tup [TV.c (Cell.int IntKind.u64 (xflag_of (bits_Sum a b t0 w).fst (bits_Sum a b t0 w).snd.fst (bits_Sum a b t0 w).snd.snd w).fst), TV.agg [Cell.bool (bits_Sum a b t0 w).snd.fst, Cell.bool (bits_Sum a b t0 w).snd.snd, Cell.int IntKind.u64 (bits_Sx (bits_Sum a b t0 w).fst w)]]) H else K (AV.tup [TV.c (Cell.int IntKind.u64 (xflag_of (bits_Sum a b false w).fst (bits_Sum a b false w).snd.fst (bits_Sum a b false w).snd.snd w).fst), TV.agg [Cell.bool (bits_Sum a b false w).snd.fst, Cell.bool (bits_Sum a b false w).snd.snd, Cell.int IntKind.u64 (bits_Sx (bits_Sum a b false w).fst w)]]) H else bif op == 6 then bif op == 6 then bif op == 4 then K (AV.tup [TV.c (Cell.int IntKind.u64 (xflag_of (bits_Less a b t0 w).fst (bits_Less a b t0 w).snd.fst (bits_Less a b t0 w).snd.snd w).fst), TV.agg [Cell.bool (bits_Less a b t0 w).snd.fst, Cell.bool (bits_Less a b t0 w).snd.snd, Cell.int IntKind.u64 (bits_Sx (bits_Less a b t0 w).fst w)]]) H else K (AV.tup [TV.c (Cell.int IntKind.u64 (xflag_of (bits_Less a b false w).fst (bits_Less a b false w).snd.fst (bits_Less a b false w).snd.snd w).fst), TV.agg [Cell.bool (bits_Less a b false w).snd.fst, Cell.bool (bits_Less a b false w).snd.snd, Cell.int IntKind.u64 (bits_Sx (bits_Less a b false w).fst w)]]) H else bif op == 5 then bif op == 5 then K (AV.tup [TV.c (Cell.int IntKind.u64 (xflag_of (band IntKind.u64 a b) false false w).fst), TV.agg [Cell.bool false, Cell.bool false, Cell.int IntKind.u64 (bits_Sx (band IntKind.u64 a b) w)]]) H else bif op == 2 then K (AV.tup [TV.c (Cell.int IntKind.u64 (xflag_of (bor IntKind.u64 a b) false false w).fst), TV.agg [Cell.bool false, Cell.bool false, Cell.int IntKind.u64 (bits_Sx (bor IntKind.u64 a b) w)]]) H else bif op == 7 then K (AV.tup [TV.c (Cell.int IntKind.u64 (xflag_of (bxor IntKind.u64 a b) false false w).fst), TV.agg [Cell.bool false, Cell.bool false, Cell.int IntKind.u64 (bits_Sx (bxor IntKind.u64 a b) w)]]) H else K (AV.tup [TV.c (Cell.int IntKind.u64 0), TV.agg [Cell.bool t0, Cell.bool t1, Cell.int IntKind.u64 t2]]) H else bif op == 9 then K (AV.tup [TV.c (Cell.int IntKind.u64 (xflag_of (band IntKind.u64 a b) false false w).fst), TV.agg [Cell.bool false, Cell.bool false, Cell.int IntKind.u64 (bits_Sx (band IntKind.u64 a b) w)]]) H else bif op == 2 then K (AV.tup [TV.c (Cell.int IntKind.u64 (xflag_of (bor IntKind.u64 a b) false false w).fst), TV.agg [Cell.bool false, Cell.bool false, Cell.int IntKind.u64 (bits_Sx (bor IntKind.u64 a b) w)]]) H else bif op == 7 then K (AV.tup [TV.c (Cell.int IntKind.u64 (xflag_of (bxor IntKind.u64 a b) false false w).fst), TV.agg [Cell.bool false, Cell.bool false, Cell.int IntKind.u64 (bits_Sx (bxor IntKind.u64 a b) w)]]) H else K (AV.tup [TV.c (Cell.int IntKind.u64 0), TV.agg [Cell.bool t0, Cell.bool t1, Cell.int IntKind.u64 t2]]) H else bif op == 4 then bif op == 4 then bif op == 4 then K (AV.tup [TV.c (Cell.int IntKind.u64 (xflag_of (bits_Less a b t0 w).fst (bits_Less a b t0 w).snd.fst (bits_Less a b t0 w).snd.snd w).fst), TV.agg [Cell.bool (bits_Less a b t0 w).snd.fst, Cell.bool (bits_Less a b t0 w).snd.snd, Cell.int IntKind.u64 (bits_Sx (bits_Less a b t0 w).fst w)]]) H else K (AV.tup [TV.c (Cell.int IntKind.u64 (xflag_of (bits_Less a b false w).fst (bits_Less a b false w).snd.fst (bits_Less a b false w).snd.snd w).fst), TV.agg [Cell.bool (bits_Less a b false w).snd.fst, Cell.bool (bits_Less a b false w).snd.snd, Cell.int IntKind.u64 (bits_Sx (bits_Less a b false w).fst w)]]) H else bif op == 5 then bif op == 5 then K (AV.tup [TV.c (Cell.int IntKind.u64 (xflag_of (band IntKind.u64 a b) false false w).fst), TV.agg [Cell.bool false, Cell.bool false, Cell.int IntKind.u64 (bits_Sx (band IntKind.u64 a b) w)]]) H else bif op == 2 then K (AV.tup [TV.c (Cell.int IntKind.u64 (xflag_of (bor IntKind.u64 a b) false false w).fst), TV.agg [Cell.bool false, Cell.bool false, Cell.int IntKind.u64 (bits_Sx (bor IntKind.u64 a b) w)]]) H else bif op == 7 then K (AV.tup [TV.c (Cell.int IntKind.u64 (xflag_of (bxor IntKind.u64 a b) false false w).fst), TV.agg [Cell.bool false, Cell.bool false, Cell.int IntKind.u64 (bits_Sx (bxor IntKind.u64 a b) w)]]) H else K (AV.tup [TV.c (Cell.int IntKind.u64 0), TV.agg [Cell.bool t0, Cell.bool t1, Cell.int IntKind.u64 t2]]) H else bif op == 9 then K (AV.tup [TV.c (Cell.int IntKind.u64 (xflag_of (band IntKind.u64 a b) false false w).fst), TV.agg [Cell.bool false, Cell.bool false, Cell.int IntKind.u64 (bits_Sx (band IntKind.u64 a b) w)]]) H else bif op == 2 then K (AV.tup [TV.c (Cell.int IntKind.u64 (xflag_of (bor IntKind.u64 a b) false false w).fst), TV.agg [Cell.bool false, Cell.bool false, Cell.int IntKind.u64 (bits_Sx (bor IntKind.u64 a b) w)]]) H else bif op == 7 then K (AV.tup [TV.c (Cell.int IntKind.u64 (xflag_of (bxor IntKind.u64 a b) false false w).fst), TV.agg [Cell.bool false, Cell.bool false, Cell.int IntKind.u64 (bits_Sx (bxor IntKind.u64 a b) w)]]) H else K (AV.tup [TV.c (Cell.int IntKind.u64 0), TV.agg [Cell.bool t0, Cell.bool t1, Cell.int IntKind.u64 t2]]) H else bif op == 8 then bif op == 4 then K (AV.tup [TV.c (Cell.int IntKind.u64 (xflag_of (bits_Less a b t0 w).fst (bits_Less a b t0 w).snd.fst (bits_Less a b t0 w).snd.snd w).fst), TV.agg [Cell.bool (bits_Less a b t0 w).snd.fst, Cell.bool (bits_Less a b t0 w).snd.snd, Cell.int IntKind.u64 (bits_Sx (bits_Less a b t0 w).fst w)]]) H else K (AV.tup [TV.c (Cell.int IntKind.u64 (xflag_of (bits_Less a b false w).fst (bits_Less a b false w).snd.fst (bits_Less a b false w).snd.snd w).fst), TV.agg [Cell.bool (bits_Less a b false w).snd.fst, Cell.bool (bits_Less a b false w).snd.snd, Cell.int IntKind.u64 (bits_Sx (bits_Less a b false w).fst w)]]) H else bif op == 5 then bif op == 5 then K (AV.tup [TV.c (Cell.int IntKind.u64 (xflag_of (band IntKind.u64 a b) false false w).fst), TV.agg [Cell.bool false, Cell.bool false, Cell.int IntKind.u64 (bits_Sx (band IntKind.u64 a b) w)]]) H else bif op == 2 then K (AV.tup [TV.c (Cell.int IntKind.u64 (xflag_of (bor IntKind.u64 a b) false false w).fst), TV.agg [Cell.bool false, Cell.bool false, Cell.int IntKind.u64 (bits_Sx (bor IntKind.u64 a b) w)]]) H else bif op == 7 then K (AV.tup [TV.c (Cell.int IntKind.u64 (xflag_of (bxor IntKind.u64 a b) false false w).fst), TV.agg [Cell.bool false, Cell.bool false, Cell.int IntKind.u64 (bits_Sx (bxor IntKind.u64 a b) w)]]) H else K (AV.tup [TV.c (Cell.int IntKind.u64 0), TV.agg [Cell.bool t0, Cell.bool t1, Cell.int IntKind.u64 t2]]) H else bif op == 9 then K (AV.tup [TV.c (Cell.int IntKind.u64 (xflag_of (band IntKind.u64 a b) false false w).fst), TV.agg [Cell.bool false, Cell.bool false, Cell.int IntKind.u64 (bits_Sx (band IntKind.u64 a b) w)]]) H else bif op == 2 then K (AV.tup [TV.c (Cell.int IntKind.u64 (xflag_of (bor IntKind.u64 a b) false false w).fst), TV.agg [Cell.bool false, Cell.bool false, Cell.int IntKind.u64 (bits_Sx (bor IntKind.u64 a b) w)]]) H else bif op == 7 then K (AV.tup [TV.c (Cell.int IntKind.u64 (xflag_of (bxor IntKind.u64 a b) false false w).fst), TV.agg [Cell.bool false, Cell.bool false, Cell.int IntKind.u64 (bits_Sx (bxor IntKind.u64 a b) w)]]) H else K (AV.tup [TV.c (Cell.int IntKind.u64 0), TV.agg [Cell.bool t0, Cell.bool t1, Cell.int IntKind.u64 t2]]) H := by intros; kernel_rfl
theorem s11 (R : Type) (op : Int) (a : Int) (b : Int) (t0 : Bool) (t1 : Bool) (t2 : Int) (w : Int) (H : Heap) (K : AV → Heap → Option R) (lp : Code → St → (AExit → St → Option R) → Option R) : fnL C11 lp Try.f11.results.toList (bodyOf Try.f11) [.c (Cell.int .i64 op), .c (Cell.int .u64 a), .c (Cell.int .u64 b), .agg [Cell.bool t0, Cell.bool t1, Cell.int .u64 t2], .c (Cell.int .i64 w)] H K = K (oneOf [.c (Cell.int .u64 (xflag_Two op a b t0 t1 t2 w).1), .agg [Cell.bool (xflag_Two op a b t0 t1 t2 w).2.1, Cell.bool (xflag_Two op a b t0 t1 t2 w).2.2.1, Cell.int .u64 (xflag_Two op a b t0 t1 t2 w).2.2.2]]) H := by
  rw [e11]
  unfold xflag_Two
  cases bits_Is w
  · rfl
  · cases h1 : (op == 1) <;> cases h3 : (op == 3) <;> simp only [Bool.not_true, cond_true, cond_false, Bool.or_true, Bool.or_false, Bool.true_and, Bool.false_and]
    case false.false =>
      cases h6 : (op == 6) <;> cases h4 : (op == 4) <;> simp only [cond_true, cond_false, Bool.or_true, Bool.true_or, Bool.false_or, Bool.true_and, Bool.false_and]
      case false.false =>
        cases (op == 8) <;> cases (op == 5) <;> cases (op == 9) <;> cases (op == 2) <;> cases (op == 7) <;> rfl
      all_goals first | rfl | (cases t0 <;> rfl)
    all_goals first | rfl | (cases t0 <;> rfl)
theorem ok11 : FnOk Try.prog 11 F11 := by
  refine fn_ok (C := C11) (good39.env rfl) (good39.ctx rfl rfl rfl) (by kernel_rfl) Try.func11 (c := bodyOf Try.f11) (by kernel_rfl) (by kernel_rfl) (Nat.le_of_eq Try.ntmps11.symm) ?_
  intro R args H K r h
  unfold F11 numF G11 at h
  split at h
  · rw [fnA_eq, s11]; exact h
  · cases h
noncomputable def L11 := ((11, F11) : Nat × FnSem) :: L39
noncomputable def N11 : List Nat := 11 :: N39
theorem good11 : Callees Try.prog L11 [] N11 := good39.cons_num ok11 (numF_num _)
/-! bits_Turn -/
def bits_Turn (v k w : Int) : Int :=
  bif bits_Is w then bits_Zx (bor .u64 (ishl .u64 (bits_Zx v w) ((k.tmod (8 * w) + 8 * w).tmod (8 * w))) (ishr .u64 (bits_Zx v w) (8 * w - (k.tmod (8 * w) + 8 * w).tmod (8 * w)))) w else 0
theorem turn_k (k n : Int) (hn : 0 < n) (hn2 : n ≤ 64) : IntKind.i64.wrap (k.tmod n + n) = k.tmod n + n ∧ 0 ≤ (k.tmod n + n).tmod n ∧ (k.tmod n + n).tmod n < n := by
  have h1 : -n < k.tmod n := by
    have e1 := Int.emod_nonneg k (show n ≠ 0 by omega)
    rw [Int.tmod_eq_emod]
    split
    · omega
    · rename_i hh
      have : k % n ≠ 0 := fun he => hh (.inr (Int.dvd_of_emod_eq_zero he))
      omega
  have h2 : k.tmod n < n := Int.tmod_lt_of_pos k hn
  refine ⟨wrap_i64 (by omega) (by omega), ?_, Int.tmod_lt_of_pos _ hn⟩
  exact Int.tmod_nonneg _ (by omega)
noncomputable def G66 : List TV → Option (List TV) | [.c (Cell.int .u64 v), .c (Cell.int .i64 k), .c (Cell.int .i64 w)] => some [.c (Cell.int .u64 (bits_Turn v k w))] | _ => none
noncomputable def F66 : FnSem := numF G66
noncomputable def C66 : Ctx := { P := Try.prog, own := [], fns := L11, nt := 34, nums := N11, live := [] }
theorem e66 : ∀ (R : Type) (v k w : Int) (H : Heap) (K : AV → Heap → Option R) (lp : Code → St → (AExit → St → Option R) → Option R), fnL C66 lp Try.f66.results.toList (bodyOf Try.f66) [TV.c (Cell.int IntKind.u64 v), TV.c (Cell.int IntKind.i64 k), TV.c (Cell.int IntKind.i64 w)] H K = bif !bits_Is w then K (AV.c (Cell.int IntKind.u64 0)) H else bif IntKind.i64.wrap (8 * w) == 0 then none else bif IntKind.i64.wrap (8 * w) == 0 then none else bif decide ((IntKind.i64.wrap (k.tmod (IntKind.i64.wrap (8 * w)) + IntKind.i64.wrap (8 * w))).tmod (IntKind.i64.wrap (8 * w)) < 0) then none else bif decide (IntKind.i64.wrap (IntKind.i64.wrap (8 * w) - (IntKind.i64.wrap (k.tmod (IntKind.i64.wrap (8 * w)) + IntKind.i64.wrap (8 * w))).tmod (IntKind.i64.wrap (8 * w))) < 0) then none else K (AV.c (Cell.int IntKind.u64 (bits_Zx (bor IntKind.u64 (ishl IntKind.u64 (bits_Zx v w) ((IntKind.i64.wrap (k.tmod (IntKind.i64.wrap (8 * w)) + IntKind.i64.wrap (8 * w))).tmod (IntKind.i64.wrap (8 * w)))) (ishr IntKind.u64 (bits_Zx v w) (IntKind.i64.wrap (IntKind.i64.wrap (8 * w) - (IntKind.i64.wrap (k.tmod (IntKind.i64.wrap (8 * w)) + IntKind.i64.wrap (8 * w))).tmod (IntKind.i64.wrap (8 * w)))))) w))) H := by intros; kernel_rfl
theorem s66 (R : Type) (v : Int) (k : Int) (w : Int) (H : Heap) (K : AV → Heap → Option R) (lp : Code → St → (AExit → St → Option R) → Option R) : fnL C66 lp Try.f66.results.toList (bodyOf Try.f66) [.c (Cell.int .u64 v), .c (Cell.int .i64 k), .c (Cell.int .i64 w)] H K = K (oneOf [.c (Cell.int .u64 (bits_Turn v k w))]) H := by
  rw [e66]
  unfold bits_Turn
  cases h : bits_Is w
  · rfl
  · have hw : IntKind.i64.wrap (8 * w) = 8 * w ∧ 0 < 8 * w ∧ 8 * w ≤ 64 := by rcases is_w h with rfl | rfl | rfl | rfl <;> decide
    obtain ⟨h1, h2, h3⟩ := turn_k k (8 * w) hw.2.1 hw.2.2
    have g1 : (8 * w == 0) = false := by simp; omega
    have g2 : decide ((k.tmod (8 * w) + 8 * w).tmod (8 * w) < 0) = false := by simp; omega
    have g3 : IntKind.i64.wrap (8 * w - (k.tmod (8 * w) + 8 * w).tmod (8 * w)) = 8 * w - (k.tmod (8 * w) + 8 * w).tmod (8 * w) := wrap_i64 (by omega) (by omega)
    have g4 : decide (8 * w - (k.tmod (8 * w) + 8 * w).tmod (8 * w) < 0) = false := by simp; omega
    simp only [hw.1, h1, g1, g2, g3, g4, Bool.not_true, cond_true, cond_false]
    rfl
theorem ok66 : FnOk Try.prog 66 F66 := by
  refine fn_ok (C := C66) (good11.env rfl) (good11.ctx rfl rfl rfl) (by kernel_rfl) Try.func66 (c := bodyOf Try.f66) (by kernel_rfl) (by kernel_rfl) (Nat.le_of_eq Try.ntmps66.symm) ?_
  intro R args H K r h
  unfold F66 numF G66 at h
  split at h
  · rw [fnA_eq, s66]; exact h
  · cases h
noncomputable def L66 := ((66, F66) : Nat × FnSem) :: L11
noncomputable def N66 : List Nat := 66 :: N11
theorem good66 : Callees Try.prog L66 [] N66 := good11.cons_num ok66 (numF_num _)
/-! xflag_bit -/
def xflag_bit (v i : Int) : Bool := decide (i ≥ 0) && (decide (i < 64) && (band .u64 (ishr .u64 v i) 1 == 1))
noncomputable def G47 : List TV → Option (List TV) | [.c (Cell.int .u64 v), .c (Cell.int .i64 i)] => some [.c (Cell.bool (xflag_bit v i))] | _ => none
noncomputable def F47 : FnSem := numF G47
noncomputable def C47 : Ctx := { P := Try.prog, own := [], fns := L66, nt := 18, nums := N66, live := [] }
theorem e47 : ∀ (R : Type) (v i : Int) (H : Heap) (K : AV → Heap → Option R) (lp : Code → St → (AExit → St → Option R) → Option R), fnL C47 lp Try.f47.results.toList (bodyOf Try.f47) [TV.c (Cell.int IntKind.u64 v), TV.c (Cell.int IntKind.i64 i)] H K = bif decide (i ≥ 0) then bif decide (i < 64) then bif decide (i < 0) then none else K (AV.c (Cell.bool (band IntKind.u64 (ishr IntKind.u64 v i) 1 == 1))) H else K (AV.c (Cell.bool false)) H else K (AV.c (Cell.bool false)) H := by intros; kernel_rfl
theorem s47 (R : Type) (v : Int) (i : Int) (H : Heap) (K : AV → Heap → Option R) (lp : Code → St → (AExit → St → Option R) → Option R) : fnL C47 lp Try.f47.results.toList (bodyOf Try.f47) [.c (Cell.int .u64 v), .c (Cell.int .i64 i)] H K = K (oneOf [.c (Cell.bool (xflag_bit v i))]) H := by
  rw [e47]
  unfold xflag_bit
  cases h : decide (i ≥ 0)
  · rfl
  · have : decide (i < 0) = false := by simp at h ⊢; omega
    rw [this]
    cases decide (i < 64) <;> rfl
theorem ok47 : FnOk Try.prog 47 F47 := by
  refine fn_ok (C := C47) (good66.env rfl) (good66.ctx rfl rfl rfl) (by kernel_rfl) Try.func47 (c := bodyOf Try.f47) (by kernel_rfl) (by kernel_rfl) (Nat.le_of_eq Try.ntmps47.symm) ?_
  intro R args H K r h
  unfold F47 numF G47 at h
  split at h
  · rw [fnA_eq, s47]; exact h
  · cases h
noncomputable def L47 := ((47, F47) : Nat × FnSem) :: L66
noncomputable def N47 : List Nat := 47 :: N66
theorem good47 : Callees Try.prog L47 [] N47 := good66.cons_num ok47 (numF_num _)
/-! xflag_turn -/
def xflag_turn (op a k : Int) (t0 t1 : Bool) (t2 w : Int) : Int × Bool × Bool × Int :=
  bif op == 26 then (bits_Turn a k w, xflag_bit (bits_Turn a k w) 0, !(bits_Neg (bits_Turn a k w) w == xflag_bit (bits_Turn a k w) 0), t2)
  else (bits_Turn a (IntKind.i64.wrap (0 - k)) w, bits_Neg (bits_Turn a (IntKind.i64.wrap (0 - k)) w) w, !(bits_Neg (bits_Turn a (IntKind.i64.wrap (0 - k)) w) w == xflag_bit (bits_Turn a (IntKind.i64.wrap (0 - k)) w) (IntKind.i64.wrap (IntKind.i64.wrap (8 * w) - 2))), t2)
noncomputable def G46 : List TV → Option (List TV) | [.c (Cell.int .i64 op), .c (Cell.int .u64 a), .c (Cell.int .i64 k), .agg [Cell.bool t0, Cell.bool t1, Cell.int .u64 t2], .c (Cell.int .i64 w)] => let r := xflag_turn op a k t0 t1 t2 w; some [.c (Cell.int .u64 r.1), .agg [Cell.bool r.2.1, Cell.bool r.2.2.1, Cell.int .u64 r.2.2.2]] | _ => none
noncomputable def F46 : FnSem := numF G46
noncomputable def C46 : Ctx := { P := Try.prog, own := [8, 11], fns := L47, nt := 54, nums := N47, live := [] }
theorem e46 : ∀ (R : Type) (op a k : Int) (t0 t1 : Bool) (t2 w : Int) (H : Heap) (K : AV → Heap → Option R) (lp : Code → St → (AExit → St → Option R) → Option R), fnL C46 lp Try.f46.results.toList (bodyOf Try.f46) [TV.c (Cell.int IntKind.i64 op), TV.c (Cell.int IntKind.u64 a), TV.c (Cell.int IntKind.i64 k), TV.agg [Cell.bool t0, Cell.bool t1, Cell.int IntKind.u64 t2], TV.c (Cell.int IntKind.i64 w)] H K = bif op == 26 then K (AV.tup [TV.c (Cell.int IntKind.u64 (bits_Turn a k w)), TV.agg [Cell.bool (xflag_bit (bits_Turn a k w) 0), Cell.bool (bif false then bits_Neg (bits_Turn a k w) w == xflag_bit (bits_Turn a k w) 0 else !bits_Neg (bits_Turn a k w) w == xflag_bit (bits_Turn a k w) 0), Cell.int IntKind.u64 t2]]) H else K (AV.tup [TV.c (Cell.int IntKind.u64 (bits_Turn a (IntKind.i64.wrap (0 - k)) w)), TV.agg [Cell.bool (bits_Neg (bits_Turn a (IntKind.i64.wrap (0 - k)) w) w), Cell.bool (bif false then bits_Neg (bits_Turn a (IntKind.i64.wrap (0 - k)) w) w == xflag_bit (bits_Turn a (IntKind.i64.wrap (0 - k)) w) (IntKind.i64.wrap (IntKind.i64.wrap (8 * w) - 2)) else !bits_Neg (bits_Turn a (IntKind.i64.wrap (0 - k)) w) w == xflag_bit (bits_Turn a (IntKind.i64.wrap (0 - k)) w) (IntKind.i64.wrap (IntKind.i64.wrap (8 * w) - 2))), Cell.int IntKind.u64 t2]]) H := by intros; kernel_rfl
theorem s46 (R : Type) (op : Int) (a : Int) (k : Int) (t0 : Bool) (t1 : Bool) (t2 : Int) (w : Int) (H : Heap) (K : AV → Heap → Option R) (lp : Code → St → (AExit → St → Option R) → Option R) : fnL C46 lp Try.f46.results.toList (bodyOf Try.f46) [.c (Cell.int .i64 op), .c (Cell.int .u64 a), .c (Cell.int .i64 k), .agg [Cell.bool t0, Cell.bool t1, Cell.int .u64 t2], .c (Cell.int .i64 w)] H K = K (oneOf [.c (Cell.int .u64 (xflag_turn op a k t0 t1 t2 w).1), .agg [Cell.bool (xflag_turn op a k t0 t1 t2 w).2.1, Cell.bool (xflag_turn op a k t0 t1 t2 w).2.2.1, Cell.int .u64 (xflag_turn op a k t0 t1 t2 w).2.2.2]]) H := by
  rw [e46]
  unfold xflag_turn
  cases op == 26 <;> rfl
theorem ok46 : FnOk Try.prog 46 F46 := by
  refine fn_ok (C := C46) (good47.env rfl) (good47.ctx rfl rfl rfl) (by kernel_rfl) Try.func46 (c := bodyOf Try.f46) (by kernel_rfl) (by kernel_rfl) (Nat.le_of_eq Try.ntmps46.symm) ?_
  intro R args H K r h
  unfold F46 numF G46 at h
  split at h
  · rw [fnA_eq, s46]; exact h
  · cases h
noncomputable def L46 := ((46, F46) : Nat × FnSem) :: L47
noncomputable def N46 : List Nat := 46 :: N47
theorem good46 : Callees Try.prog L46 [] N46 := good47.cons_num ok46 (numF_num _)
/-! mbits_Mul64 -/
def mbits_Mul64 (x y : Int) : Int × Int :=
  (IntKind.u64.wrap (IntKind.u64.wrap (IntKind.u64.wrap (ishr IntKind.u64 x 32 * ishr IntKind.u64 y 32) + ishr IntKind.u64 (IntKind.u64.wrap (IntKind.u64.wrap (ishr IntKind.u64 x 32 * band IntKind.u64 y 4294967295) + ishr IntKind.u64 (IntKind.u64.wrap (band IntKind.u64 x 4294967295 * band IntKind.u64 y 4294967295)) 32)) 32) + ishr IntKind.u64 (IntKind.u64.wrap (band IntKind.u64 (IntKind.u64.wrap (IntKind.u64.wrap (ishr IntKind.u64 x 32 * band IntKind.u64 y 4294967295) + ishr IntKind.u64 (IntKind.u64.wrap (band IntKind.u64 x 4294967295 * band IntKind.u64 y 4294967295)) 32)) 4294967295 + IntKind.u64.wrap (band IntKind.u64 x 4294967295 * ishr IntKind.u64 y 32))) 32), IntKind.u64.wrap (x * y))
noncomputable def G67 : List TV → Option (List TV) | [.c (Cell.int .u64 x), .c (Cell.int .u64 y)] => let r := mbits_Mul64 x y; some [.c (Cell.int .u64 r.1), .c (Cell.int .u64 r.2)] | _ => none
noncomputable def F67 : FnSem := numF G67
noncomputable def C67 : Ctx := { P := Try.prog, own := [], fns := L46, nt := 51, nums := N46, live := [] }
theorem e67 : ∀ (R : Type) (x y : Int) (H : Heap) (K : AV → Heap → Option R) (lp : Code → St → (AExit → St → Option R) → Option R), fnL C67 lp Try.f67.results.toList (bodyOf Try.f67) [TV.c (Cell.int IntKind.u64 x), TV.c (Cell.int IntKind.u64 y)] H K = K (AV.tup [TV.c (Cell.int IntKind.u64 (IntKind.u64.wrap (IntKind.u64.wrap (IntKind.u64.wrap (ishr IntKind.u64 x 32 * ishr IntKind.u64 y 32) + ishr IntKind.u64 (IntKind.u64.wrap (IntKind.u64.wrap (ishr IntKind.u64 x 32 * band IntKind.u64 y 4294967295) + ishr IntKind.u64 (IntKind.u64.wrap (band IntKind.u64 x 4294967295 * band IntKind.u64 y 4294967295)) 32)) 32) + ishr IntKind.u64 (IntKind.u64.wrap (band IntKind.u64 (IntKind.u64.wrap (IntKind.u64.wrap (ishr IntKind.u64 x 32 * band IntKind.u64 y 4294967295) + ishr IntKind.u64 (IntKind.u64.wrap (band IntKind.u64 x 4294967295 * band IntKind.u64 y 4294967295)) 32)) 4294967295 + IntKind.u64.wrap (band IntKind.u64 x 4294967295 * ishr IntKind.u64 y 32))) 32))), TV.c (Cell.int IntKind.u64 (IntKind.u64.wrap (x * y)))]) H := by intros; kernel_rfl
theorem s67 (R : Type) (x : Int) (y : Int) (H : Heap) (K : AV → Heap → Option R) (lp : Code → St → (AExit → St → Option R) → Option R) : fnL C67 lp Try.f67.results.toList (bodyOf Try.f67) [.c (Cell.int .u64 x), .c (Cell.int .u64 y)] H K = K (oneOf [.c (Cell.int .u64 (mbits_Mul64 x y).1), .c (Cell.int .u64 (mbits_Mul64 x y).2)]) H := by
  rw [e67]
  rfl
theorem ok67 : FnOk Try.prog 67 F67 := by
  refine fn_ok (C := C67) (good46.env rfl) (good46.ctx rfl rfl rfl) (by kernel_rfl) Try.func67 (c := bodyOf Try.f67) (by kernel_rfl) (by kernel_rfl) (Nat.le_of_eq Try.ntmps67.symm) ?_
  intro R args H K r h
  unfold F67 numF G67 at h
  split at h
  · rw [fnA_eq, s67]; exact h
  · cases h
noncomputable def L67 := ((67, F67) : Nat × FnSem) :: L46
noncomputable def N67 : List Nat := 67 :: N46
theorem good67 : Callees Try.prog L67 [] N67 := good46.cons_num ok67 (numF_num _)
/-! bits_MulU -/
def bits_MulU (a b : Int) : Int × Int := mbits_Mul64 a b
noncomputable def G51 : List TV → Option (List TV) | [.c (Cell.int .u64 a), .c (Cell.int .u64 b)] => let r := bits_MulU a b; some [.c (Cell.int .u64 r.1), .c (Cell.int .u64 r.2)] | _ => none
noncomputable def F51 : FnSem := numF G51
noncomputable def C51 : Ctx := { P := Try.prog, own := [], fns := L67, nt := 11, nums := N67, live := [] }
theorem e51 : ∀ (R : Type) (a b : Int) (H : Heap) (K : AV → Heap → Option R) (lp : Code → St → (AExit → St → Option R) → Option R), fnL C51 lp Try.f51.results.toList (bodyOf Try.f51) [TV.c (Cell.int IntKind.u64 a), TV.c (Cell.int IntKind.u64 b)] H K = K (AV.tup [TV.c (Cell.int IntKind.u64 (mbits_Mul64 a b).fst), TV.c (Cell.int IntKind.u64 (mbits_Mul64 a b).snd)]) H := by intros; kernel_rfl
theorem s51 (R : Type) (a : Int) (b : Int) (H : Heap) (K : AV → Heap → Option R) (lp : Code → St → (AExit → St → Option R) → Option R) : fnL C51 lp Try.f51.results.toList (bodyOf Try.f51) [.c (Cell.int .u64 a), .c (Cell.int .u64 b)] H K = K (oneOf [.c (Cell.int .u64 (bits_MulU a b).1), .c (Cell.int .u64 (bits_MulU a b).2)]) H := by
  rw [e51]
  rfl
theorem ok51 : FnOk Try.prog 51 F51 := by
  refine fn_ok (C := C51) (good67.env rfl) (good67.ctx rfl rfl rfl) (by kernel_rfl) Try.func51 (c := bodyOf Try.f51) (by kernel_rfl) (by kernel_rfl) (Nat.le_of_eq Try.ntmps51.symm) ?_
  intro R args H K r h
  unfold F51 numF G51 at h
  split at h
  · rw [fnA_eq, s51]; exact h
  · cases h
noncomputable def L51 := ((51, F51) : Nat × FnSem) :: L67
noncomputable def N51 : List Nat := 51 :: N67
theorem good51 : Callees Try.prog L51 [] N51 := good67.cons_num ok51 (numF_num _)
/-! bits_MulS -/
def bits_MulS (a b : Int) : Int × Int :=
  (bif decide (IntKind.i64.wrap b < 0) then IntKind.u64.wrap ((bif decide (IntKind.i64.wrap a < 0) then IntKind.u64.wrap ((mbits_Mul64 a b).1 - b) else (mbits_Mul64 a b).1) - a) else (bif decide (IntKind.i64.wrap a < 0) then IntKind.u64.wrap ((mbits_Mul64 a b).1 - b) else (mbits_Mul64 a b).1), (mbits_Mul64 a b).2)
noncomputable def G52 : List TV → Option (List TV) | [.c (Cell.int .u64 a), .c (Cell.int .u64 b)] => let r := bits_MulS a b; some [.c (Cell.int .u64 r.1), .c (Cell.int .u64 r.2)] | _ => none
noncomputable def F52 : FnSem := numF G52
noncomputable def C52 : Ctx := { P := Try.prog, own := [], fns := L51, nt := 28, nums := N51, live := [] }
theorem e52 : ∀ (R : Type) (a b : Int) (H : Heap) (K : AV → Heap → Option R) (lp : Code → St → (AExit → St → Option R) → Option R), fnL C52 lp Try.f52.results.toList (bodyOf Try.f52) [TV.c (Cell.int IntKind.u64 a), TV.c (Cell.int IntKind.u64 b)] H K = bif decide (IntKind.i64.wrap a < 0) then bif decide (IntKind.i64.wrap b < 0) then K (AV.tup [TV.c (Cell.int IntKind.u64 (IntKind.u64.wrap (IntKind.u64.wrap ((mbits_Mul64 a b).fst - b) - a))), TV.c (Cell.int IntKind.u64 (mbits_Mul64 a b).snd)]) H else K (AV.tup [TV.c (Cell.int IntKind.u64 (IntKind.u64.wrap ((mbits_Mul64 a b).fst - b))), TV.c (Cell.int IntKind.u64 (mbits_Mul64 a b).snd)]) H else bif decide (IntKind.i64.wrap b < 0) then K (AV.tup [TV.c (Cell.int IntKind.u64 (IntKind.u64.wrap ((mbits_Mul64 a b).fst - a))), TV.c (Cell.int IntKind.u64 (mbits_Mul64 a b).snd)]) H else K (AV.tup [TV.c (Cell.int IntKind.u64 (mbits_Mul64 a b).fst), TV.c (Cell.int IntKind.u64 (mbits_Mul64 a b).snd)]) H := by intros; kernel_rfl
theorem s52 (R : Type) (a : Int) (b : Int) (H : Heap) (K : AV → Heap → Option R) (lp : Code → St → (AExit → St → Option R) → Option R) : fnL C52 lp Try.f52.results.toList (bodyOf Try.f52) [.c (Cell.int .u64 a), .c (Cell.int .u64 b)] H K = K (oneOf [.c (Cell.int .u64 (bits_MulS a b).1), .c (Cell.int .u64 (bits_MulS a b).2)]) H := by
  rw [e52]
  unfold bits_MulS
  cases decide (IntKind.i64.wrap a < 0) <;> cases decide (IntKind.i64.wrap b < 0) <;> rfl
theorem ok52 : FnOk Try.prog 52 F52 := by
  refine fn_ok (C := C52) (good51.env rfl) (good51.ctx rfl rfl rfl) (by kernel_rfl) Try.func52 (c := bodyOf Try.f52) (by kernel_rfl) (by kernel_rfl) (Nat.le_of_eq Try.ntmps52.symm) ?_
  intro R args H K r h
  unfold F52 numF G52 at h
  split at h
  · rw [fnA_eq, s52]; exact h
  · cases h
noncomputable def L52 := ((52, F52) : Nat × FnSem) :: L51
noncomputable def N52 : List Nat := 52 :: N51
theorem good52 : Callees Try.prog L52 [] N52 := good51.cons_num ok52 (numF_num _)
/-! bits_Fits -/
def bits_Fits (v n : Int) : Bool := bif decide (n < 1) then false else bif decide (n > 64) then false else ishr .i64 (ishl .i64 v (64 - n)) (64 - n) == v
noncomputable def G68 : List TV → Option (List TV) | [.c (Cell.int .i64 v), .c (Cell.int .i64 n)] => some [.c (Cell.bool (bits_Fits v n))] | _ => none
noncomputable def F68 : FnSem := numF G68
noncomputable def C68 : Ctx := { P := Try.prog, own := [], fns := L52, nt := 21, nums := N52, live := [] }
theorem e68 : ∀ (R : Type) (v n : Int) (H : Heap) (K : AV → Heap → Option R) (lp : Code → St → (AExit → St → Option R) → Option R), fnL C68 lp Try.f68.results.toList (bodyOf Try.f68) [TV.c (Cell.int IntKind.i64 v), TV.c (Cell.int IntKind.i64 n)] H K = bif decide (n < 1) then K (AV.c (Cell.bool false)) H else bif decide (n > 64) then K (AV.c (Cell.bool false)) H else bif decide (IntKind.i64.wrap (64 - n) < 0) then none else bif decide (IntKind.i64.wrap (64 - n) < 0) then none else K (AV.c (Cell.bool (ishr IntKind.i64 (ishl IntKind.i64 v (IntKind.i64.wrap (64 - n))) (IntKind.i64.wrap (64 - n)) == v))) H := by intros; kernel_rfl
theorem s68 (R : Type) (v : Int) (n : Int) (H : Heap) (K : AV → Heap → Option R) (lp : Code → St → (AExit → St → Option R) → Option R) : fnL C68 lp Try.f68.results.toList (bodyOf Try.f68) [.c (Cell.int .i64 v), .c (Cell.int .i64 n)] H K = K (oneOf [.c (Cell.bool (bits_Fits v n))]) H := by
  rw [e68]
  unfold bits_Fits
  cases h1 : decide (n < 1)
  · cases h2 : decide (n > 64)
    · simp at h1 h2
      have h3 : IntKind.i64.wrap (64 - n) = 64 - n := wrap_i64 (by omega) (by omega)
      have h4 : decide (64 - n < 0) = false := by simp; omega
      simp only [h3, h4, cond_false]; rfl
    · rfl
  · rfl
theorem ok68 : FnOk Try.prog 68 F68 := by
  refine fn_ok (C := C68) (good52.env rfl) (good52.ctx rfl rfl rfl) (by kernel_rfl) Try.func68 (c := bodyOf Try.f68) (by kernel_rfl) (by kernel_rfl) (Nat.le_of_eq Try.ntmps68.symm) ?_
  intro R args H K r h
  unfold F68 numF G68 at h
  split at h
  · rw [fnA_eq, s68]; exact h
  · cases h
noncomputable def L68 := ((68, F68) : Nat × FnSem) :: L52
noncomputable def N68 : List Nat := 68 :: N52
theorem good68 : Callees Try.prog L68 [] N68 := good52.cons_num ok68 (numF_num _)
