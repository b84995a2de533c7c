/- The reference's products. -/
import Derived.Test.YtmdcmjlhnbodmaaFlR2
namespace Go.Proofs.Ytmdcmjlhnbodmaa
open Go Go.Proofs.Ytmdcmjlhnbodmaa.Ab
set_option linter.unusedVariables false
set_option maxRecDepth 100000
noncomputable section
/-! R1_MulU -/
def mulHi (hi lo : Int) : Int := IntKind.u64.wrap (IntKind.u64.wrap (hi * 2) + R1_Bit lo 63)
/-- The product by halves: for the bits below m. -/
def mulGo (a b : Int) : Nat → Int → Int → Int × Int
  | 0, hi, lo => (hi, lo)
  | m + 1, hi, lo =>
    bif R1_Bit b m == 1 then
      bif decide (IntKind.u64.wrap (IntKind.u64.wrap (lo * 2) + a) < a) then mulGo a b m (IntKind.u64.wrap (mulHi hi lo + 1)) (IntKind.u64.wrap (IntKind.u64.wrap (lo * 2) + a))
      else mulGo a b m (mulHi hi lo) (IntKind.u64.wrap (IntKind.u64.wrap (lo * 2) + a))
    else mulGo a b m (mulHi hi lo) (IntKind.u64.wrap (lo * 2))
def R1_MulU (a b : Int) : Int × Int := mulGo a b 64 0 0
noncomputable def G54 : List TV → Option (List TV) | [.c (Cell.int .u64 a), .c (Cell.int .u64 b)] => let r := R1_MulU a b; some [.c (Cell.int .u64 r.1), .c (Cell.int .u64 r.2)] | _ => none
noncomputable def F54 : FnSem := numF G54
noncomputable def C54 : Ctx := { P := Try.prog, own := [], fns := L60, nt := 34, nums := N60, live := [(4, ⟨[0, 1, 6, 7, 8], [], [6, 7], []⟩)] }
theorem e54 : ∀ (R : Type) (a b : Int) (H : Heap) (K : AV → Heap → Option R) (lp : Code → St → (AExit → St → Option R) → Option R), fnL C54 lp Try.f54.results.toList (bodyOf Try.f54) [TV.c (Cell.int IntKind.u64 a), TV.c (Cell.int IntKind.u64 b)] H K = lp (Code.l (Code.l (Code.r (Code.l (Code.r (Code.r (Code.r (bodyOf Try.f54)))))))) { env := [(0, AV.c (Cell.int IntKind.u64 a)), (1, AV.c (Cell.int IntKind.u64 b)), (6, AV.c (Cell.int IntKind.u64 0)), (7, AV.c (Cell.int IntKind.u64 0)), (8, AV.c (Cell.int IntKind.i64 63))], loc := [], heap := H } (blockK 0 (seqK (execL C54 lp (Code.r (Code.r (Code.r (Code.r (bodyOf Try.f54)))))) (retA C54 [ResultVar.tmp 4, ResultVar.tmp 5] K))) := by intros; kernel_rfl
theorem b54_4 : ∀ (R : Type) (t0 t1 t6 t7 t8 : Int) (H : Heap) (K : AExit → St → Option R) (f : St → (AExit → St → Option R) → Option R) (lp : Code → St → (AExit → St → Option R) → Option R), execL C54 lp (Code.l (Code.l (Code.r (Code.l (Code.r (Code.r (Code.r (bodyOf Try.f54)))))))) { env := [(0, AV.c (Cell.int IntKind.u64 t0)), (1, AV.c (Cell.int IntKind.u64 t1)), (6, AV.c (Cell.int IntKind.u64 t6)), (7, AV.c (Cell.int IntKind.u64 t7)), (8, AV.c (Cell.int IntKind.i64 t8))], loc := [], heap := H } (loopK (keepOf C54.live (Code.l (Code.l (Code.r (Code.l (Code.r (Code.r (Code.r (bodyOf Try.f54))))))))) f K) = bif decide (t8 ≥ 0) then bif R1_Bit t1 t8 == 1 then bif decide (IntKind.u64.wrap (IntKind.u64.wrap (t7 * 2) + t0) < t0) then f { env := [(0, AV.c (Cell.int IntKind.u64 t0)), (1, AV.c (Cell.int IntKind.u64 t1)), (6, AV.c (Cell.int IntKind.u64 (IntKind.u64.wrap (IntKind.u64.wrap (IntKind.u64.wrap (t6 * 2) + R1_Bit t7 63) + 1)))), (7, AV.c (Cell.int IntKind.u64 (IntKind.u64.wrap (IntKind.u64.wrap (t7 * 2) + t0)))), (8, AV.c (Cell.int IntKind.i64 (IntKind.i64.wrap (t8 - 1))))], loc := [], heap := H } K else f { env := [(0, AV.c (Cell.int IntKind.u64 t0)), (1, AV.c (Cell.int IntKind.u64 t1)), (6, AV.c (Cell.int IntKind.u64 (IntKind.u64.wrap (IntKind.u64.wrap (t6 * 2) + R1_Bit t7 63)))), (7, AV.c (Cell.int IntKind.u64 (IntKind.u64.wrap (IntKind.u64.wrap (t7 * 2) + t0)))), (8, AV.c (Cell.int IntKind.i64 (IntKind.i64.wrap (t8 - 1))))], loc := [], heap := H } K else f { env := [(0, AV.c (Cell.int IntKind.u64 t0)), (1, AV.c (Cell.int IntKind.u64 t1)), (6, AV.c (Cell.int IntKind.u64 (IntKind.u64.wrap (IntKind.u64.wrap (t6 * 2) + R1_Bit t7 63)))), (7, AV.c (Cell.int IntKind.u64 (IntKind.u64.wrap (t7 * 2)))), (8, AV.c (Cell.int IntKind.i64 (IntKind.i64.wrap (t8 - 1))))], loc := [], heap := H } K else K (AExit.exit 0) { env := [(6, AV.c (Cell.int IntKind.u64 t6)), (7, AV.c (Cell.int IntKind.u64 t7))], loc := [], heap := H } := by intros; kernel_rfl
theorem loop54 (R : Type) (a b : Int) (H : Heap) (K : AExit → St → Option R) : ∀ (m n : Nat) (hi lo : Int), m ≤ 64 →
    loopN (exec C54 (Code.l (Code.l (Code.r (Code.l (Code.r (Code.r (Code.r (bodyOf Try.f54))))))))) (keepOf C54.live (Code.l (Code.l (Code.r (Code.l (Code.r (Code.r (Code.r (bodyOf Try.f54))))))))) (n + m + 1) { env := [(0, AV.c (Cell.int IntKind.u64 a)), (1, AV.c (Cell.int IntKind.u64 b)), (6, AV.c (Cell.int IntKind.u64 hi)), (7, AV.c (Cell.int IntKind.u64 lo)), (8, AV.c (Cell.int IntKind.i64 ((m : Int) - 1)))], loc := [], heap := H } K
      = K (AExit.exit 0) { env := [(6, AV.c (Cell.int IntKind.u64 (mulGo a b m hi lo).1)), (7, AV.c (Cell.int IntKind.u64 (mulGo a b m hi lo).2))], loc := [], heap := H }
  | 0, n, hi, lo, hm => by
    have g : decide (((0 : Nat) : Int) - 1 ≥ 0) = false := by decide
    rw [loopN_step, b54_4, g]; rfl
  | m + 1, n, hi, lo, hm => by
    have e : (((m + 1 : Nat) : Int) - 1) = m := by omega
    have g : decide ((m : Int) ≥ 0) = true := by simp
    have g2 : IntKind.i64.wrap ((m : Int) - 1) = (m : Int) - 1 := wrap_i64 (by omega) (by omega)
    rw [show n + (m + 1) + 1 = (n + m + 1) + 1 by omega, e, loopN_step, b54_4, g, g2]
    unfold mulGo
    cases (R1_Bit b m == 1)
    · exact loop54 R a b H K m n _ _ (by omega)
    · cases decide (IntKind.u64.wrap (IntKind.u64.wrap (lo * 2) + a) < a)
      · exact loop54 R a b H K m n _ _ (by omega)
      · exact loop54 R a b H K m n _ _ (by omega)
theorem s54 (R : Type) (a : Int) (b : Int) (H : Heap) (K : AV → Heap → Option R) : fnL C54 (loops C54) Try.f54.results.toList (bodyOf Try.f54) [.c (Cell.int .u64 a), .c (Cell.int .u64 b)] H K = K (oneOf [.c (Cell.int .u64 (R1_MulU a b).1), .c (Cell.int .u64 (R1_MulU a b).2)]) H := by
  rw [e54]
  obtain ⟨n, hn⟩ := loops_of C54 (Code.l (Code.l (Code.r (Code.l (Code.r (Code.r (Code.r (bodyOf Try.f54)))))))) { env := [(0, AV.c (Cell.int IntKind.u64 a)), (1, AV.c (Cell.int IntKind.u64 b)), (6, AV.c (Cell.int IntKind.u64 0)), (7, AV.c (Cell.int IntKind.u64 0)), (8, AV.c (Cell.int IntKind.i64 63))], loc := [], heap := H } (blockK 0 (seqK (execL C54 (loops C54) (Code.r (Code.r (Code.r (Code.r (bodyOf Try.f54)))))) (retA C54 [ResultVar.tmp 4, ResultVar.tmp 5] K))) 64 (by decide)
  have := loop54 R a b H (blockK 0 (seqK (execL C54 (loops C54) (Code.r (Code.r (Code.r (Code.r (bodyOf Try.f54)))))) (retA C54 [ResultVar.tmp 4, ResultVar.tmp 5] K))) 64 n 0 0 (by decide)
  rw [hn]
  refine this.trans ?_
  show _ = _
  kernel_rfl
theorem ok54 : FnOk Try.prog 54 F54 := by
  refine fn_ok (C := C54) (good60.env rfl) (good60.ctx rfl rfl rfl) (by kernel_rfl) Try.func54 (c := bodyOf Try.f54) (by kernel_rfl) (by kernel_rfl) (Nat.le_of_eq Try.ntmps54.symm) ?_
  intro R args H K r h
  unfold F54 numF G54 at h
  split at h
  · rw [fnA_eq, s54]; exact h
  · cases h
noncomputable def L54 := ((54, F54) : Nat × FnSem) :: L60
noncomputable def N54 : List Nat := 54 :: N60
theorem good54 : Callees Try.prog L54 [] N54 := good60.cons_num ok54 (numF_num _)
/-! R1_MulS -/
def absU (a : Int) : Int := bif R1_Neg a 8 then IntKind.u64.wrap (0 - a) else a
def negPair (p : Int × Int) : Int × Int :=
  (bif IntKind.u64.wrap (0 - p.2) == 0 then IntKind.u64.wrap (IntKind.u64.wrap (18446744073709551615 - p.1) + 1) else IntKind.u64.wrap (18446744073709551615 - p.1), IntKind.u64.wrap (0 - p.2))
def R1_MulS (a b : Int) : Int × Int := bif R1_Neg a 8 == R1_Neg b 8 then R1_MulU (absU a) (absU b) else negPair (R1_MulU (absU a) (absU b))
noncomputable def G55 : List TV → Option (List TV) | [.c (Cell.int .u64 a), .c (Cell.int .u64 b)] => let r := R1_MulS a b; some [.c (Cell.int .u64 r.1), .c (Cell.int .u64 r.2)] | _ => none
noncomputable def F55 : FnSem := numF G55
noncomputable def C55 : Ctx := { P := Try.prog, own := [], fns := L54, nt := 39, nums := N54, live := [] }
theorem e55 : ∀ (R : Type) (a b : Int) (H : Heap) (K : AV → Heap → Option R) (lp : Code → St → (AExit → St → Option R) → Option R), fnL C55 lp Try.f55.results.toList (bodyOf Try.f55) [TV.c (Cell.int IntKind.u64 a), TV.c (Cell.int IntKind.u64 b)] H K = bif R1_Neg a 8 then bif R1_Neg b 8 then bif bif false then R1_Neg a 8 == R1_Neg b 8 else !R1_Neg a 8 == R1_Neg b 8 then bif IntKind.u64.wrap (0 - (R1_MulU (IntKind.u64.wrap (0 - a)) (IntKind.u64.wrap (0 - b))).snd) == 0 then K (AV.tup [TV.c (Cell.int IntKind.u64 (IntKind.u64.wrap (IntKind.u64.wrap (18446744073709551615 - (R1_MulU (IntKind.u64.wrap (0 - a)) (IntKind.u64.wrap (0 - b))).fst) + 1))), TV.c (Cell.int IntKind.u64 (IntKind.u64.wrap (0 - (R1_MulU (IntKind.u64.wrap (0 - a)) (IntKind.u64.wrap (0 - b))).snd)))]) H else K (AV.tup [TV.c (Cell.int IntKind.u64 (IntKind.u64.wrap (18446744073709551615 - (R1_MulU (IntKind.u64.wrap (0 - a)) (IntKind.u64.wrap (0 - b))).fst))), TV.c (Cell.int IntKind.u64 (IntKind.u64.wrap (0 - (R1_MulU (IntKind.u64.wrap (0 - a)) (IntKind.u64.wrap (0 - b))).snd)))]) H else K (AV.tup [TV.c (Cell.int IntKind.u64 (R1_MulU (IntKind.u64.wrap (0 - a)) (IntKind.u64.wrap (0 - b))).fst), TV.c (Cell.int IntKind.u64 (R1_MulU (IntKind.u64.wrap (0 - a)) (IntKind.u64.wrap (0 - b))).snd)]) H else bif bif false then R1_Neg a 8 == R1_Neg b 8 else !R1_Neg a 8 == R1_Neg b 8 then bif IntKind.u64.wrap (0 - (R1_MulU (IntKind.u64.wrap (0 - a)) b).snd) == 0 then K (AV.tup [TV.c (Cell.int IntKind.u64 (IntKind.u64.wrap (IntKind.u64.wrap (18446744073709551615 - (R1_MulU (IntKind.u64.wrap (0 - a)) b).fst) + 1))), TV.c (Cell.int IntKind.u64 (IntKind.u64.wrap (0 - (R1_MulU (IntKind.u64.wrap (0 - a)) b).snd)))]) H else K (AV.tup [TV.c (Cell.int IntKind.u64 (IntKind.u64.wrap (18446744073709551615 - (R1_MulU (IntKind.u64.wrap (0 - a)) b).fst))), TV.c (Cell.int IntKind.u64 (IntKind.u64.wrap (0 - (R1_MulU (IntKind.u64.wrap (0 - a)) b).snd)))]) H else K (AV.tup [TV.c (Cell.int IntKind.u64 (R1_MulU (IntKind.u64.wrap (0 - a)) b).fst), TV.c (Cell.int IntKind.u64 (R1_MulU (IntKind.u64.wrap (0 - a)) b).snd)]) H else bif R1_Neg b 8 then bif bif false then R1_Neg a 8 == R1_Neg b 8 else !R1_Neg a 8 == R1_Neg b 8 then bif IntKind.u64.wrap (0 - (R1_MulU a (IntKind.u64.wrap (0 - b))).snd) == 0 then K (AV.tup [TV.c (Cell.int IntKind.u64 (IntKind.u64.wrap (IntKind.u64.wrap (18446744073709551615 - (R1_MulU a (IntKind.u64.wrap (0 - b))).fst) + 1))), TV.c (Cell.int IntKind.u64 (IntKind.u64.wrap (0 - (R1_MulU a (IntKind.u64.wrap (0 - b))).snd)))]) H else K (AV.tup [TV.c (Cell.int IntKind.u64 (IntKind.u64.wrap (18446744073709551615 - (R1_MulU a (IntKind.u64.wrap (0 - b))).fst))), TV.c (Cell.int IntKind.u64 (IntKind.u64.wrap (0 - (R1_MulU a (IntKind.u64.wrap (0 - b))).snd)))]) H else K (AV.tup [TV.c (Cell.int IntKind.u64 (R1_MulU a (IntKind.u64.wrap (0 - b))).fst), TV.c (Cell.int IntKind.u64 (R1_MulU a (IntKind.u64.wrap (0 - b))).snd)]) H else bif bif false then R1_Neg a 8 == R1_Neg b 8 else !R1_Neg a 8 == R1_Neg b 8 then bif IntKind.u64.wrap (0 - (R1_MulU a b).snd) == 0 then K (AV.tup [TV.c (Cell.int IntKind.u64 (IntKind.u64.wrap (IntKind.u64.wrap (18446744073709551615 - (R1_MulU a b).fst) + 1))), TV.c (Cell.int IntKind.u64 (IntKind.u64.wrap (0 - (R1_MulU a b).snd)))]) H else K (AV.tup [TV.c (Cell.int IntKind.u64 (IntKind.u64.wrap (18446744073709551615 - (R1_MulU a b).fst))), TV.c (Cell.int IntKind.u64 (IntKind.u64.wrap (0 - (R1_MulU a b).snd)))]) H else K (AV.tup [TV.c (Cell.int IntKind.u64 (R1_MulU a b).fst), TV.c (Cell.int IntKind.u64 (R1_MulU a b).snd)]) H := by intros; kernel_rfl
theorem s55 (R : Type) (a : Int) (b : Int) (H : Heap) (K : AV → Heap → Option R) (lp : Code → St → (AExit → St → Option R) → Option R) : fnL C55 lp Try.f55.results.toList (bodyOf Try.f55) [.c (Cell.int .u64 a), .c (Cell.int .u64 b)] H K = K (oneOf [.c (Cell.int .u64 (R1_MulS a b).1), .c (Cell.int .u64 (R1_MulS a b).2)]) H := by
  rw [e55]
  unfold R1_MulS negPair absU
  generalize R1_MulU = M
  have tf : (true == false) = false := rfl
  have ft : (false == true) = false := rfl
  cases R1_Neg a 8 <;> cases R1_Neg b 8
  · simp only [cond_true, cond_false, beq_self_eq_true, Bool.not_true]
    rfl
  · simp only [cond_true, cond_false, Bool.not_false, ft]
    cases h : (IntKind.u64.wrap (0 - (M a (IntKind.u64.wrap (0 - b))).2) == 0) <;> simp only [h, cond_true, cond_false] <;> rfl
  · simp only [cond_true, cond_false, Bool.not_false, tf]
    cases h : (IntKind.u64.wrap (0 - (M (IntKind.u64.wrap (0 - a)) b).2) == 0) <;> simp only [h, cond_true, cond_false] <;> rfl
  · simp only [cond_true, cond_false, beq_self_eq_true, Bool.not_true]
    rfl
theorem ok55 : FnOk Try.prog 55 F55 := by
  refine fn_ok (C := C55) (good54.env rfl) (good54.ctx rfl rfl rfl) (by kernel_rfl) Try.func55 (c := bodyOf Try.f55) (by kernel_rfl) (by kernel_rfl) (Nat.le_of_eq Try.ntmps55.symm) ?_
  intro R args H K r h
  unfold F55 numF G55 at h
  split at h
  · rw [fnA_eq, s55]; exact h
  · cases h
noncomputable def L55 := ((55, F55) : Nat × FnSem) :: L54
noncomputable def N55 : List Nat := 55 :: N54
theorem good55 : Callees Try.prog L55 [] N55 := good54.cons_num ok55 (numF_num _)
/-! R8_Product -/
def prodOver (hi lo : Int) (signed : Bool) (w : Int) : Bool :=
  bif signed then (bif R1_Neg lo w then hi != R1_Zx 18446744073709551615 w else hi != 0) else hi != 0
def R8_Product (a b : Int) (signed : Bool) (w : Int) : Int × Int × Bool × Bool × Int :=
  bif R1_Is w then
    let p := bif signed then R1_MulS (R1_Sx a w) (R1_Sx b w) else R1_MulU (R1_Zx a w) (R1_Zx b w)
    let hi := R1_Zx (bif decide (w < 8) then ishr .u64 p.2 (8 * w) else p.1) w
    let lo := R1_Zx p.2 w
    (lo, hi, prodOver hi lo signed w, prodOver hi lo signed w, R1_Sx lo w)
  else (0, 0, false, false, 0)
noncomputable def G19 : List TV → Option (List TV) | [.c (Cell.int .u64 a), .c (Cell.int .u64 b), .c (Cell.bool signed), .c (Cell.int .i64 w)] => let r := R8_Product a b signed w; some [.c (Cell.int .u64 r.1), .c (Cell.int .u64 r.2.1), .agg [Cell.bool r.2.2.1, Cell.bool r.2.2.2.1, Cell.int .u64 r.2.2.2.2]] | _ => none
noncomputable def F19 : FnSem := numF G19
noncomputable def C19 : Ctx := { P := Try.prog, own := [10], fns := L55, nt := 77, nums := N55, live := [] }
theorem e19 : ∀ (R : Type) (a b : Int) (signed : Bool) (w : Int) (H : Heap) (K : AV → Heap → Option R) (lp : Code → St → (AExit → St → Option R) → Option R), fnL C19 lp Try.f19.results.toList (bodyOf Try.f19) [TV.c (Cell.int IntKind.u64 a), TV.c (Cell.int IntKind.u64 b), TV.c (Cell.bool signed), TV.c (Cell.int IntKind.i64 w)] H K = bif !R1_Is w then K (AV.tup [TV.c (Cell.int IntKind.u64 0), TV.c (Cell.int IntKind.u64 0), TV.agg [Cell.bool false, Cell.bool false, Cell.int IntKind.u64 0]]) H else bif signed then bif decide (w < 8) then bif decide (IntKind.u64.wrap (IntKind.i64.wrap (8 * w)) < 0) then none else bif signed then bif R1_Zx (ishr IntKind.u64 (R1_MulS (R1_Sx a w) (R1_Sx b w)).snd (IntKind.u64.wrap (IntKind.i64.wrap (8 * w)))) w != 0 then bif R1_Neg (R1_Zx (R1_MulS (R1_Sx a w) (R1_Sx b w)).snd w) w then K (AV.tup [TV.c (Cell.int IntKind.u64 (R1_Zx (R1_MulS (R1_Sx a w) (R1_Sx b w)).snd w)), TV.c (Cell.int IntKind.u64 (R1_Zx (ishr IntKind.u64 (R1_MulS (R1_Sx a w) (R1_Sx b w)).snd (IntKind.u64.wrap (IntKind.i64.wrap (8 * w)))) w)), TV.agg [Cell.bool (R1_Zx (ishr IntKind.u64 (R1_MulS (R1_Sx a w) (R1_Sx b w)).snd (IntKind.u64.wrap (IntKind.i64.wrap (8 * w)))) w != R1_Zx 18446744073709551615 w), Cell.bool (R1_Zx (ishr IntKind.u64 (R1_MulS (R1_Sx a w) (R1_Sx b w)).snd (IntKind.u64.wrap (IntKind.i64.wrap (8 * w)))) w != R1_Zx 18446744073709551615 w), Cell.int IntKind.u64 (R1_Sx (R1_Zx (R1_MulS (R1_Sx a w) (R1_Sx b w)).snd w) w)]]) H else K (AV.tup [TV.c (Cell.int IntKind.u64 (R1_Zx (R1_MulS (R1_Sx a w) (R1_Sx b w)).snd w)), TV.c (Cell.int IntKind.u64 (R1_Zx (ishr IntKind.u64 (R1_MulS (R1_Sx a w) (R1_Sx b w)).snd (IntKind.u64.wrap (IntKind.i64.wrap (8 * w)))) w)), TV.agg [Cell.bool true, Cell.bool true, Cell.int IntKind.u64 (R1_Sx (R1_Zx (R1_MulS (R1_Sx a w) (R1_Sx b w)).snd w) w)]]) H else bif R1_Neg (R1_Zx (R1_MulS (R1_Sx a w) (R1_Sx b w)).snd w) w then K (AV.tup [TV.c (Cell.int IntKind.u64 (R1_Zx (R1_MulS (R1_Sx a w) (R1_Sx b w)).snd w)), TV.c (Cell.int IntKind.u64 (R1_Zx (ishr IntKind.u64 (R1_MulS (R1_Sx a w) (R1_Sx b w)).snd (IntKind.u64.wrap (IntKind.i64.wrap (8 * w)))) w)), TV.agg [Cell.bool (R1_Zx (ishr IntKind.u64 (R1_MulS (R1_Sx a w) (R1_Sx b w)).snd (IntKind.u64.wrap (IntKind.i64.wrap (8 * w)))) w != R1_Zx 18446744073709551615 w), Cell.bool (R1_Zx (ishr IntKind.u64 (R1_MulS (R1_Sx a w) (R1_Sx b w)).snd (IntKind.u64.wrap (IntKind.i64.wrap (8 * w)))) w != R1_Zx 18446744073709551615 w), Cell.int IntKind.u64 (R1_Sx (R1_Zx (R1_MulS (R1_Sx a w) (R1_Sx b w)).snd w) w)]]) H else K (AV.tup [TV.c (Cell.int IntKind.u64 (R1_Zx (R1_MulS (R1_Sx a w) (R1_Sx b w)).snd w)), TV.c (Cell.int IntKind.u64 (R1_Zx (ishr IntKind.u64 (R1_MulS (R1_Sx a w) (R1_Sx b w)).snd (IntKind.u64.wrap (IntKind.i64.wrap (8 * w)))) w)), TV.agg [Cell.bool (R1_Neg (R1_Zx (R1_MulS (R1_Sx a w) (R1_Sx b w)).snd w) w), Cell.bool (R1_Neg (R1_Zx (R1_MulS (R1_Sx a w) (R1_Sx b w)).snd w) w), Cell.int IntKind.u64 (R1_Sx (R1_Zx (R1_MulS (R1_Sx a w) (R1_Sx b w)).snd w) w)]]) H else K (AV.tup [TV.c (Cell.int IntKind.u64 (R1_Zx (R1_MulS (R1_Sx a w) (R1_Sx b w)).snd w)), TV.c (Cell.int IntKind.u64 (R1_Zx (ishr IntKind.u64 (R1_MulS (R1_Sx a w) (R1_Sx b w)).snd (IntKind.u64.wrap (IntKind.i64.wrap (8 * w)))) w)), TV.agg [Cell.bool (R1_Zx (ishr IntKind.u64 (R1_MulS (R1_Sx a w) (R1_Sx b w)).snd (IntKind.u64.wrap (IntKind.i64.wrap (8 * w)))) w != 0), Cell.bool (R1_Zx (ishr IntKind.u64 (R1_MulS (R1_Sx a w) (R1_Sx b w)).snd (IntKind.u64.wrap (IntKind.i64.wrap (8 * w)))) w != 0), Cell.int IntKind.u64 (R1_Sx (R1_Zx (R1_MulS (R1_Sx a w) (R1_Sx b w)).snd w) w)]]) H else bif signed then bif R1_Zx (R1_MulS (R1_Sx a w) (R1_Sx b w)).fst w != 0 then bif R1_Neg (R1_Zx (R1_MulS (R1_Sx a w) (R1_Sx b w)).snd w) w then K (AV.tup [TV.c (Cell.int IntKind.u64 (R1_Zx (R1_MulS (R1_Sx a w) (R1_Sx b w)).snd w)), TV.c (Cell.int IntKind.u64 (R1_Zx (R1_MulS (R1_Sx a w) (R1_Sx b w)).fst w)), TV.agg [Cell.bool (R1_Zx (R1_MulS (R1_Sx a w) (R1_Sx b w)).fst w != R1_Zx 18446744073709551615 w), Cell.bool (R1_Zx (R1_MulS (R1_Sx a w) (R1_Sx b w)).fst w != R1_Zx 18446744073709551615 w), Cell.int IntKind.u64 (R1_Sx (R1_Zx (R1_MulS (R1_Sx a w) (R1_Sx b w)).snd w) w)]]) H else K (AV.tup [TV.c (Cell.int IntKind.u64 (R1_Zx (R1_MulS (R1_Sx a w) (R1_Sx b w)).snd w)), TV.c (Cell.int IntKind.u64 (R1_Zx (R1_MulS (R1_Sx a w) (R1_Sx b w)).fst w)), TV.agg [Cell.bool true, Cell.bool true, Cell.int IntKind.u64 (R1_Sx (R1_Zx (R1_MulS (R1_Sx a w) (R1_Sx b w)).snd w) w)]]) H else bif R1_Neg (R1_Zx (R1_MulS (R1_Sx a w) (R1_Sx b w)).snd w) w then K (AV.tup [TV.c (Cell.int IntKind.u64 (R1_Zx (R1_MulS (R1_Sx a w) (R1_Sx b w)).snd w)), TV.c (Cell.int IntKind.u64 (R1_Zx (R1_MulS (R1_Sx a w) (R1_Sx b w)).fst w)), TV.agg [Cell.bool (R1_Zx (R1_MulS (R1_Sx a w) (R1_Sx b w)).fst w != R1_Zx 18446744073709551615 w), Cell.bool (R1_Zx (R1_MulS (R1_Sx a w) (R1_Sx b w)).fst w != R1_Zx 18446744073709551615 w), Cell.int IntKind.u64 (R1_Sx (R1_Zx (R1_MulS (R1_Sx a w) (R1_Sx b w)).snd w) w)]]) H else K (AV.tup [TV.c (Cell.int IntKind.u64 (R1_Zx (R1_MulS (R1_Sx a w) (R1_Sx b w)).snd w)), TV.c (Cell.int IntKind.u64 (R1_Zx (R1_MulS (R1_Sx a w) (R1_Sx b w)).fst w)), TV.agg [Cell.bool (R1_Neg (R1_Zx (R1_MulS (R1_Sx a w) (R1_Sx b w)).snd w) w), Cell.bool (R1_Neg (R1_Zx (R1_MulS (R1_Sx a w) (R1_Sx b w)).snd w) w), Cell.int IntKind.u64 (R1_Sx (R1_Zx (R1_MulS (R1_Sx a w) (R1_Sx b w)).snd w) w)]]) H else K (AV.tup [TV.c (Cell.int IntKind.u64 (R1_Zx (R1_MulS (R1_Sx a w) (R1_Sx b w)).snd w)), TV.c (Cell.int IntKind.u64 (R1_Zx (R1_MulS (R1_Sx a w) (R1_Sx b w)).fst w)), TV.agg [Cell.bool (R1_Zx (R1_MulS (R1_Sx a w) (R1_Sx b w)).fst w != 0), Cell.bool (R1_Zx (R1_MulS (R1_Sx a w) (R1_Sx b w)).fst w != 0), Cell.int IntKind.u64 (R1_Sx (R1_Zx (R1_MulS (R1_Sx a w) (R1_Sx b w)).snd w) w)]]) H else bif decide (w < 8) then bif decide (IntKind.u64.wrap (IntKind.i64.wrap (8 * w)) < 0) then none else bif signed then bif R1_Zx (ishr IntKind.u64 (R1_MulU (R1_Zx a w) (R1_Zx b w)).snd (IntKind.u64.wrap (IntKind.i64.wrap (8 * w)))) w != 0 then bif R1_Neg (R1_Zx (R1_MulU (R1_Zx a w) (R1_Zx b w)).snd w) w then K (AV.tup [TV.c (Cell.int IntKind.u64 (R1_Zx (R1_MulU (R1_Zx a w) (R1_Zx b w)).snd w)), TV.c (Cell.int IntKind.u64 (R1_Zx (ishr IntKind.u64 (R1_MulU (R1_Zx a w) (R1_Zx b w)).snd (IntKind.u64.wrap (IntKind.i64.wrap (8 * w)))) w)), TV.agg [Cell.bool (R1_Zx (ishr IntKind.u64 (R1_MulU (R1_Zx a w) (R1_Zx b w)).snd (IntKind.u64.wrap (IntKind.i64.wrap (8 * w)))) w != R1_Zx 18446744073709551615 w), Cell.bool (R1_Zx (ishr IntKind.u64 (R1_MulU (R1_Zx a w) (R1_Zx b w)).snd (IntKind.u64.wrap (IntKind.i64.wrap (8 * w)))) w != R1_Zx 18446744073709551615 w), Cell.int IntKind.u64 (R1_Sx (R1_Zx (R1_MulU (R1_Zx a w) (R1_Zx b w)).snd w) w)]]) H else K (AV.tup [TV.c (Cell.int IntKind.u64 (R1_Zx (R1_MulU (R1_Zx a w) (R1_Zx b w)).snd w)), TV.c (Cell.int IntKind.u64 (R1_Zx (ishr IntKind.u64 (R1_MulU (R1_Zx a w) (R1_Zx b w)).snd (IntKind.u64.wrap (IntKind.i64.wrap (8 * w)))) w)), TV.agg [Cell.bool true, Cell.bool true, Cell.int IntKind.u64 (R1_Sx (R1_Zx (R1_MulU (R1_Zx a w) (R1_Zx b w)).snd w) w)]]) H else bif R1_Neg (R1_Zx (R1_MulU (R1_Zx a w) (R1_Zx b w)).snd w) w then K (AV.tup [TV.c (Cell.int IntKind.u64 (R1_Zx (R1_MulU (R1_Zx a w) (R1_Zx b w)).snd w)), TV.c (Cell.int IntKind.u64 (R1_Zx (ishr IntKind.u64 (R1_MulU (R1_Zx a w) (R1_Zx b w)).snd (IntKind.u64.wrap (IntKind.i64.wrap (8 * w)))) w)), TV.agg [Cell.bool (R1_Zx (ishr IntKind.u64 (R1_MulU (R1_Zx a w) (R1_Zx b w)).snd (IntKind.u64.wrap (IntKind.i64.wrap (8 * w)))) w != R1_Zx 18446744073709551615 w), Cell.bool (R1_Zx (ishr IntKind.u64 (R1_MulU (R1_Zx a w) (R1_Zx b w)).snd (IntKind.u64.wrap (IntKind.i64.wrap (8 * w)))) w != R1_Zx 18446744073709551615 w), Cell.int IntKind.u64 (R1_Sx (R1_Zx (R1_MulU (R1_Zx a w) (R1_Zx b w)).snd w) w)]]) H else K (AV.tup [TV.c (Cell.int IntKind.u64 (R1_Zx (R1_MulU (R1_Zx a w) (R1_Zx b w)).snd w)), TV.c (Cell.int IntKind.u64 (R1_Zx (ishr IntKind.u64 (R1_MulU (R1_Zx a w) (R1_Zx b w)).snd (IntKind.u64.wrap (IntKind.i64.wrap (8 * w)))) w)), TV.agg [Cell.bool (R1_Neg (R1_Zx (R1_MulU (R1_Zx a w) (R1_Zx b w)).snd w) w), Cell.bool (R1_Neg (R1_Zx (R1_MulU (R1_Zx a w) (R1_Zx b w)).snd w) w), Cell.int IntKind.u64 (R1_Sx (R1_Zx (R1_MulU (R1_Zx a w) (R1_Zx b w)).snd w) w)]]) H else K (AV.tup [TV.c (Cell.int IntKind.u64 (R1_Zx (R1_MulU (R1_Zx a w) (R1_Zx b w)).snd w)), TV.c (Cell.int IntKind.u64 (R1_Zx (ishr IntKind.u64 (R1_MulU (R1_Zx a w) (R1_Zx b w)).snd (IntKind.u64.wrap (IntKind.i64.wrap (8 * w)))) w)), TV.agg [Cell.bool (R1_Zx (ishr IntKind.u64 (R1_MulU (R1_Zx a w) (R1_Zx b w)).snd (IntKind.u64.wrap (IntKind.i64.wrap (8 * w)))) w != 0), Cell.bool (R1_Zx (ishr IntKind.u64 (R1_MulU (R1_Zx a w) (R1_Zx b w)).snd (IntKind.u64.wrap (IntKind.i64.wrap (8 * w)))) w != 0), Cell.int IntKind.u64 (R1_Sx (R1_Zx (R1_MulU (R1_Zx a w) (R1_Zx b w)).snd w) w)]]) H else bif signed then bif R1_Zx (R1_MulU (R1_Zx a w) (R1_Zx b w)).fst w != 0 then bif R1_Neg (R1_Zx (R1_MulU (R1_Zx a w) (R1_Zx b w)).snd w) w then K (AV.tup [TV.c (Cell.int IntKind.u64 (R1_Zx (R1_MulU (R1_Zx a w) (R1_Zx b w)).snd w)), TV.c (Cell.int IntKind.u64 (R1_Zx (R1_MulU (R1_Zx a w) (R1_Zx b w)).fst w)), TV.agg [Cell.bool (R1_Zx (R1_MulU (R1_Zx a w) (R1_Zx b w)).fst w != R1_Zx 18446744073709551615 w), Cell.bool (R1_Zx (R1_MulU (R1_Zx a w) (R1_Zx b w)).fst w != R1_Zx 18446744073709551615 w), Cell.int IntKind.u64 (R1_Sx (R1_Zx (R1_MulU (R1_Zx a w) (R1_Zx b w)).snd w) w)]]) H else K (AV.tup [TV.c (Cell.int IntKind.u64 (R1_Zx (R1_MulU (R1_Zx a w) (R1_Zx b w)).snd w)), TV.c (Cell.int IntKind.u64 (R1_Zx (R1_MulU (R1_Zx a w) (R1_Zx b w)).fst w)), TV.agg [Cell.bool true, Cell.bool true, Cell.int IntKind.u64 (R1_Sx (R1_Zx (R1_MulU (R1_Zx a w) (R1_Zx b w)).snd w) w)]]) H else bif R1_Neg (R1_Zx (R1_MulU (R1_Zx a w) (R1_Zx b w)).snd w) w then K (AV.tup [TV.c (Cell.int IntKind.u64 (R1_Zx (R1_MulU (R1_Zx a w) (R1_Zx b w)).snd w)), TV.c (Cell.int IntKind.u64 (R1_Zx (R1_MulU (R1_Zx a w) (R1_Zx b w)).fst w)), TV.agg [Cell.bool (R1_Zx (R1_MulU (R1_Zx a w) (R1_Zx b w)).fst w != R1_Zx 18446744073709551615 w), Cell.bool (R1_Zx (R1_MulU (R1_Zx a w) (R1_Zx b w)).fst w != R1_Zx 18446744073709551615 w), Cell.int IntKind.u64 (R1_Sx (R1_Zx (R1_MulU (R1_Zx a w) (R1_Zx b w)).snd w) w)]]) H else K (AV.tup [TV.c (Cell.int IntKind.u64 (R1_Zx (R1_MulU (R1_Zx a w) (R1_Zx b w)).snd w)), TV.c (Cell.int IntKind.u64 (R1_Zx (R1_MulU (R1_Zx a w) (R1_Zx b w)).fst w)), TV.agg [Cell.bool (R1_Neg (R1_Zx (R1_MulU (R1_Zx a w) (R1_Zx b w)).snd w) w), Cell.bool (R1_Neg (R1_Zx (R1_MulU (R1_Zx a w) (R1_Zx b w)).snd w) w), Cell.int IntKind.u64 (R1_Sx (R1_Zx (R1_MulU (R1_Zx a w) (R1_Zx b w)).snd w) w)]]) H else K (AV.tup [TV.c (Cell.int IntKind.u64 (R1_Zx (R1_MulU (R1_Zx a w) (R1_Zx b w)).snd w)), TV.c (Cell.int IntKind.u64 (R1_Zx (R1_MulU (R1_Zx a w) (R1_Zx b w)).fst w)), TV.agg [Cell.bool (R1_Zx (R1_MulU (R1_Zx a w) (R1_Zx b w)).fst w != 0), Cell.bool (R1_Zx (R1_MulU (R1_Zx a w) (R1_Zx b w)).fst w != 0), Cell.int IntKind.u64 (R1_Sx (R1_Zx (R1_MulU (R1_Zx a w) (R1_Zx b w)).snd w) w)]]) H := by intros; kernel_rfl
theorem s19 (R : Type) (a : Int) (b : Int) (signed : Bool) (w : Int) (H : Heap) (K : AV → Heap → Option R) (lp : Code → St → (AExit → St → Option R) → Option R) : fnL C19 lp Try.f19.results.toList (bodyOf Try.f19) [.c (Cell.int .u64 a), .c (Cell.int .u64 b), .c (Cell.bool signed), .c (Cell.int .i64 w)] H K = K (oneOf [.c (Cell.int .u64 (R8_Product a b signed w).1), .c (Cell.int .u64 (R8_Product a b signed w).2.1), .agg [Cell.bool (R8_Product a b signed w).2.2.1, Cell.bool (R8_Product a b signed w).2.2.2.1, Cell.int .u64 (R8_Product a b signed w).2.2.2.2]]) H := by
  rw [e19]
  unfold R8_Product prodOver
  generalize R1_MulU = M
  generalize R1_MulS = N
  cases h : R1_Is w
  · rfl
  · have h8 := is_8w h
    have g1 : IntKind.u64.wrap (IntKind.i64.wrap (8 * w)) = 8 * w := by rw [h8.1, wrap_u64]; omega
    have g2 : decide (8 * w < 0) = false := by simp; omega
    rw [g1, g2]
    generalize R1_Zx = Z
    generalize R1_Sx = S
    generalize R1_Neg = G
    cases signed
    · cases decide (w < 8) <;> rfl
    · cases decide (w < 8)
      · simp only [cond_true, cond_false, Bool.not_true]
        cases h1 : (Z (N (S a w) (S b w)).1 w != 0) <;> cases h2 : G (Z (N (S a w) (S b w)).2 w) w <;> rfl
      · simp only [cond_true, cond_false, Bool.not_true]
        cases h1 : (Z (ishr .u64 (N (S a w) (S b w)).2 (8 * w)) w != 0) <;> cases h2 : G (Z (N (S a w) (S b w)).2 w) w <;> rfl
theorem ok19 : FnOk Try.prog 19 F19 := by
  refine fn_ok (C := C19) (good55.env rfl) (good55.ctx rfl rfl rfl) (by kernel_rfl) Try.func19 (c := bodyOf Try.f19) (by kernel_rfl) (by kernel_rfl) (Nat.le_of_eq Try.ntmps19.symm) ?_
  intro R args H K r h
  unfold F19 numF G19 at h
  split at h
  · rw [fnA_eq, s19]; exact h
  · cases h
noncomputable def L19 := ((19, F19) : Nat × FnSem) :: L55
noncomputable def N19 : List Nat := 19 :: N55
theorem good19 : Callees Try.prog L19 [] N19 := good55.cons_num ok19 (numF_num _)
