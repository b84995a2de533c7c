/- The reference's functions of layer 1, 2. -/
import Derived.Test.YtmdcmjlhnbodmaaFlR1
namespace Go.Proofs.Ytmdcmjlhnbodmaa
open Go Go.Proofs.Ytmdcmjlhnbodmaa.Ab
set_option linter.unusedVariables false
set_option maxRecDepth 100000
noncomputable section
/-! R1_Sum -/
def colSum (a b c i : Int) : Int := IntKind.u64.wrap (IntKind.u64.wrap (R1_Bit a i + R1_Bit b i) + c)
/-- The sum column by column: the result, the carry, the last carry. -/
def sumGo (a b : Int) : Nat → Int → Int → Int → Int → Int × Int × Int
  | 0, _, r, c, last => (r, c, last)
  | m + 1, i, r, c, _ => sumGo a b m (i + 1) (IntKind.u64.wrap (r + ishl .u64 ((colSum a b c i).tmod 2) (IntKind.u64.wrap i))) (IntKind.u64.wrap ((colSum a b c i).tdiv 2)) c
def R1_Sum (a b : Int) (i : Bool) (w : Int) : Int × Bool × Bool :=
  bif R1_Is w then ((sumGo a b (8 * w.toNat) 0 0 (R1_one i) (R1_one i)).1, (sumGo a b (8 * w.toNat) 0 0 (R1_one i) (R1_one i)).2.1 == 1, !((sumGo a b (8 * w.toNat) 0 0 (R1_one i) (R1_one i)).2.1 == (sumGo a b (8 * w.toNat) 0 0 (R1_one i) (R1_one i)).2.2))
  else (0, false, false)
noncomputable def G42 : List TV → Option (List TV) | [.c (Cell.int .u64 a), .c (Cell.int .u64 b), .c (Cell.bool x2), .c (Cell.int .i64 w)] => let r := R1_Sum a b x2 w; some [.c (Cell.int .u64 r.1), .c (Cell.bool r.2.1), .c (Cell.bool r.2.2)] | _ => none
noncomputable def F42 : FnSem := numF G42
noncomputable def C42 : Ctx := { P := Try.prog, own := [], fns := L50, nt := 53, nums := N50, live := [(7, ⟨[0, 1, 3, 11, 12, 13, 14], [], [11, 12, 13], []⟩)] }
theorem e42 : ∀ (R : Type) (a b : Int) (x2 : Bool) (w : Int) (H : Heap) (K : AV → Heap → Option R) (lp : Code → St → (AExit → St → Option R) → Option R), fnL C42 lp Try.f42.results.toList (bodyOf Try.f42) [TV.c (Cell.int IntKind.u64 a), TV.c (Cell.int IntKind.u64 b), TV.c (Cell.bool x2), TV.c (Cell.int IntKind.i64 w)] H K = bif !R1_Is w then K (AV.tup [TV.c (Cell.int IntKind.u64 0), TV.c (Cell.bool false), TV.c (Cell.bool false)]) H else lp (Code.l (Code.l (Code.r (Code.l (Code.r (Code.r (Code.r (Code.r (Code.r (bodyOf Try.f42)))))))))) { env := [(0, AV.c (Cell.int IntKind.u64 a)), (1, AV.c (Cell.int IntKind.u64 b)), (3, AV.c (Cell.int IntKind.i64 w)), (11, AV.c (Cell.int IntKind.u64 0)), (12, AV.c (Cell.int IntKind.u64 (R1_one x2))), (13, AV.c (Cell.int IntKind.u64 (R1_one x2))), (14, AV.c (Cell.int IntKind.i64 0))], loc := [], heap := H } (blockK 0 (seqK (execL C42 lp (Code.r (Code.r (Code.r (Code.r (Code.r (Code.r (bodyOf Try.f42)))))))) (retA C42 [ResultVar.tmp 8, ResultVar.tmp 9, ResultVar.tmp 10] K))) := by intros; kernel_rfl
theorem b42_7 : ∀ (R : Type) (t0 t1 t3 t11 t12 t13 t14 : Int) (H : Heap) (K : AExit → St → Option R) (f : St → (AExit → St → Option R) → Option R) (lp : Code → St → (AExit → St → Option R) → Option R), execL C42 lp (Code.l (Code.l (Code.r (Code.l (Code.r (Code.r (Code.r (Code.r (Code.r (bodyOf Try.f42)))))))))) { env := [(0, AV.c (Cell.int IntKind.u64 t0)), (1, AV.c (Cell.int IntKind.u64 t1)), (3, AV.c (Cell.int IntKind.i64 t3)), (11, AV.c (Cell.int IntKind.u64 t11)), (12, AV.c (Cell.int IntKind.u64 t12)), (13, AV.c (Cell.int IntKind.u64 t13)), (14, AV.c (Cell.int IntKind.i64 t14))], loc := [], heap := H } (loopK (keepOf C42.live (Code.l (Code.l (Code.r (Code.l (Code.r (Code.r (Code.r (Code.r (Code.r (bodyOf Try.f42))))))))))) f K) = bif decide (t14 < IntKind.i64.wrap (8 * t3)) then bif decide (IntKind.u64.wrap t14 < 0) then none else f { env := [(0, AV.c (Cell.int IntKind.u64 t0)), (1, AV.c (Cell.int IntKind.u64 t1)), (3, AV.c (Cell.int IntKind.i64 t3)), (11, AV.c (Cell.int IntKind.u64 (IntKind.u64.wrap (t11 + ishl IntKind.u64 ((IntKind.u64.wrap (IntKind.u64.wrap (R1_Bit t0 t14 + R1_Bit t1 t14) + t12)).tmod 2) (IntKind.u64.wrap t14))))), (12, AV.c (Cell.int IntKind.u64 (IntKind.u64.wrap ((IntKind.u64.wrap (IntKind.u64.wrap (R1_Bit t0 t14 + R1_Bit t1 t14) + t12)).tdiv 2)))), (13, AV.c (Cell.int IntKind.u64 t12)), (14, AV.c (Cell.int IntKind.i64 (IntKind.i64.wrap (t14 + 1))))], loc := [], heap := H } K else K (AExit.exit 0) { env := [(11, AV.c (Cell.int IntKind.u64 t11)), (12, AV.c (Cell.int IntKind.u64 t12)), (13, AV.c (Cell.int IntKind.u64 t13))], loc := [], heap := H } := by intros; kernel_rfl
theorem loop42 (R : Type) (a b w : Int) (h : R1_Is w = true) (H : Heap) (K : AExit → St → Option R) : ∀ (m n : Nat) (i r c l : Int), 0 ≤ i → i + m = 8 * w →
    loopN (exec C42 (Code.l (Code.l (Code.r (Code.l (Code.r (Code.r (Code.r (Code.r (Code.r (bodyOf Try.f42))))))))))) (keepOf C42.live (Code.l (Code.l (Code.r (Code.l (Code.r (Code.r (Code.r (Code.r (Code.r (bodyOf Try.f42))))))))))) (n + m + 1) { env := [(0, AV.c (Cell.int IntKind.u64 a)), (1, AV.c (Cell.int IntKind.u64 b)), (3, AV.c (Cell.int IntKind.i64 w)), (11, AV.c (Cell.int IntKind.u64 r)), (12, AV.c (Cell.int IntKind.u64 c)), (13, AV.c (Cell.int IntKind.u64 l)), (14, AV.c (Cell.int IntKind.i64 i))], loc := [], heap := H } K
      = K (AExit.exit 0) { env := [(11, AV.c (Cell.int IntKind.u64 (sumGo a b m i r c l).1)), (12, AV.c (Cell.int IntKind.u64 (sumGo a b m i r c l).2.1)), (13, AV.c (Cell.int IntKind.u64 (sumGo a b m i r c l).2.2))], loc := [], heap := H }
  | 0, n, i, r, c, l, h0, hi => by
    have g : decide (i < 8 * w) = false := by simp; omega
    rw [loopN_step, b42_7, (is_8w h).1, g]; rfl
  | m + 1, n, i, r, c, l, h0, hi => by
    have h8 := is_8w h
    have g : decide (i < 8 * w) = true := by simp; omega
    have g2 : IntKind.i64.wrap (i + 1) = i + 1 := wrap_i64 (by omega) (by omega)
    rw [show n + (m + 1) + 1 = (n + m + 1) + 1 by omega, loopN_step, b42_7, h8.1, g, u64_pos, g2]
    exact loop42 R a b w h H K m n (i + 1) _ _ _ (by omega) (by omega)
theorem s42 (R : Type) (a : Int) (b : Int) (x2 : Bool) (w : Int) (H : Heap) (K : AV → Heap → Option R) : fnL C42 (loops C42) Try.f42.results.toList (bodyOf Try.f42) [.c (Cell.int .u64 a), .c (Cell.int .u64 b), .c (Cell.bool x2), .c (Cell.int .i64 w)] H K = K (oneOf [.c (Cell.int .u64 (R1_Sum a b x2 w).1), .c (Cell.bool (R1_Sum a b x2 w).2.1), .c (Cell.bool (R1_Sum a b x2 w).2.2)]) H := by
  rw [e42]
  unfold R1_Sum
  cases h : R1_Is w
  · rfl
  · have h8 := is_8w h
    simp only [Bool.not_true, cond_false, cond_true]
    obtain ⟨n, hn⟩ := loops_of C42 (Code.l (Code.l (Code.r (Code.l (Code.r (Code.r (Code.r (Code.r (Code.r (bodyOf Try.f42)))))))))) { env := [(0, AV.c (Cell.int IntKind.u64 a)), (1, AV.c (Cell.int IntKind.u64 b)), (3, AV.c (Cell.int IntKind.i64 w)), (11, AV.c (Cell.int IntKind.u64 0)), (12, AV.c (Cell.int IntKind.u64 (R1_one x2))), (13, AV.c (Cell.int IntKind.u64 (R1_one x2))), (14, AV.c (Cell.int IntKind.i64 0))], loc := [], heap := H } (blockK 0 (seqK (execL C42 (loops C42) (Code.r (Code.r (Code.r (Code.r (Code.r (Code.r (bodyOf Try.f42)))))))) (retA C42 [ResultVar.tmp 8, ResultVar.tmp 9, ResultVar.tmp 10] K))) (8 * w.toNat) (by omega)
    rw [hn, loop42 R a b w h H _ (8 * w.toNat) n 0 _ _ _ (by omega) (by omega)]
    show _ = _
    kernel_rfl
theorem ok42 : FnOk Try.prog 42 F42 := by
  refine fn_ok (C := C42) (good50.env rfl) (good50.ctx rfl rfl rfl) (by kernel_rfl) Try.func42 (c := bodyOf Try.f42) (by kernel_rfl) (by kernel_rfl) (Nat.le_of_eq Try.ntmps42.symm) ?_
  intro R args H K r h
  unfold F42 numF G42 at h
  split at h
  · rw [fnA_eq, s42]; exact h
  · cases h
noncomputable def L42 := ((42, F42) : Nat × FnSem) :: L50
noncomputable def N42 : List Nat := 42 :: N50
theorem good42 : Callees Try.prog L42 [] N42 := good50.cons_num ok42 (numF_num _)
/-! R1_Less -/
def R1_Less (a b : Int) (i : Bool) (w : Int) : Int × Bool × Bool :=
  ((R1_Sum a (IntKind.u64.wrap (18446744073709551615 - b)) (!i) w).1, R1_Is w && !(R1_Sum a (IntKind.u64.wrap (18446744073709551615 - b)) (!i) w).2.1, (R1_Sum a (IntKind.u64.wrap (18446744073709551615 - b)) (!i) w).2.2)
noncomputable def G44 : List TV → Option (List TV) | [.c (Cell.int .u64 a), .c (Cell.int .u64 b), .c (Cell.bool x2), .c (Cell.int .i64 w)] => let r := R1_Less a b x2 w; some [.c (Cell.int .u64 r.1), .c (Cell.bool r.2.1), .c (Cell.bool r.2.2)] | _ => none
noncomputable def F44 : FnSem := numF G44
noncomputable def C44 : Ctx := { P := Try.prog, own := [], fns := L42, nt := 33, nums := N42, live := [] }
theorem e44 : ∀ (R : Type) (a b : Int) (x2 : Bool) (w : Int) (H : Heap) (K : AV → Heap → Option R) (lp : Code → St → (AExit → St → Option R) → Option R), fnL C44 lp Try.f44.results.toList (bodyOf Try.f44) [TV.c (Cell.int IntKind.u64 a), TV.c (Cell.int IntKind.u64 b), TV.c (Cell.bool x2), TV.c (Cell.int IntKind.i64 w)] H K = bif R1_Is w then K (AV.tup [TV.c (Cell.int IntKind.u64 (R1_Sum a (IntKind.u64.wrap (18446744073709551615 - b)) (!x2) w).fst), TV.c (Cell.bool !(R1_Sum a (IntKind.u64.wrap (18446744073709551615 - b)) (!x2) w).snd.fst), TV.c (Cell.bool (R1_Sum a (IntKind.u64.wrap (18446744073709551615 - b)) (!x2) w).snd.snd)]) H else K (AV.tup [TV.c (Cell.int IntKind.u64 (R1_Sum a (IntKind.u64.wrap (18446744073709551615 - b)) (!x2) w).fst), TV.c (Cell.bool false), TV.c (Cell.bool (R1_Sum a (IntKind.u64.wrap (18446744073709551615 - b)) (!x2) w).snd.snd)]) H := by intros; kernel_rfl
theorem s44 (R : Type) (a : Int) (b : Int) (x2 : Bool) (w : Int) (H : Heap) (K : AV → Heap → Option R) (lp : Code → St → (AExit → St → Option R) → Option R) : fnL C44 lp Try.f44.results.toList (bodyOf Try.f44) [.c (Cell.int .u64 a), .c (Cell.int .u64 b), .c (Cell.bool x2), .c (Cell.int .i64 w)] H K = K (oneOf [.c (Cell.int .u64 (R1_Less a b x2 w).1), .c (Cell.bool (R1_Less a b x2 w).2.1), .c (Cell.bool (R1_Less a b x2 w).2.2)]) H := by
  rw [e44]
  unfold R1_Less
  cases R1_Is w <;> rfl
theorem ok44 : FnOk Try.prog 44 F44 := by
  refine fn_ok (C := C44) (good42.env rfl) (good42.ctx rfl rfl rfl) (by kernel_rfl) Try.func44 (c := bodyOf Try.f44) (by kernel_rfl) (by kernel_rfl) (Nat.le_of_eq Try.ntmps44.symm) ?_
  intro R args H K r h
  unfold F44 numF G44 at h
  split at h
  · rw [fnA_eq, s44]; exact h
  · cases h
noncomputable def L44 := ((44, F44) : Nat × FnSem) :: L42
noncomputable def N44 : List Nat := 44 :: N42
theorem good44 : Callees Try.prog L44 [] N44 := good42.cons_num ok44 (numF_num _)
/-! R1_Ones -/
def onesGo (v : Int) : Nat → Int → Int → Int
  | 0, _, r => r
  | m + 1, i, r => onesGo v m (i + 1) (IntKind.i64.wrap (r + IntKind.i64.wrap (R1_Bit v i)))
def R1_Ones (v : Int) : Int := onesGo v 64 0 0
noncomputable def G70 : List TV → Option (List TV) | [.c (Cell.int .u64 v)] => some [.c (Cell.int .i64 (R1_Ones v))] | _ => none
noncomputable def F70 : FnSem := numF G70
noncomputable def C70 : Ctx := { P := Try.prog, own := [], fns := L44, nt := 16, nums := N44, live := [(3, ⟨[0, 3, 4], [], [3], []⟩)] }
theorem e70 : ∀ (R : Type) (v : Int) (H : Heap) (K : AV → Heap → Option R) (lp : Code → St → (AExit → St → Option R) → Option R), fnL C70 lp Try.f70.results.toList (bodyOf Try.f70) [TV.c (Cell.int IntKind.u64 v)] H K = lp (Code.l (Code.l (Code.r (Code.l (Code.r (Code.r (bodyOf Try.f70))))))) { env := [(0, AV.c (Cell.int IntKind.u64 v)), (3, AV.c (Cell.int IntKind.i64 0)), (4, AV.c (Cell.int IntKind.i64 0))], loc := [], heap := H } (blockK 0 (seqK (execL C70 lp (Code.r (Code.r (Code.r (bodyOf Try.f70))))) (retA C70 [ResultVar.tmp 2] K))) := by intros; kernel_rfl
theorem b70_3 : ∀ (R : Type) (t0 t3 t4 : Int) (H : Heap) (K : AExit → St → Option R) (f : St → (AExit → St → Option R) → Option R) (lp : Code → St → (AExit → St → Option R) → Option R), execL C70 lp (Code.l (Code.l (Code.r (Code.l (Code.r (Code.r (bodyOf Try.f70))))))) { env := [(0, AV.c (Cell.int IntKind.u64 t0)), (3, AV.c (Cell.int IntKind.i64 t3)), (4, AV.c (Cell.int IntKind.i64 t4))], loc := [], heap := H } (loopK (keepOf C70.live (Code.l (Code.l (Code.r (Code.l (Code.r (Code.r (bodyOf Try.f70)))))))) f K) = bif decide (t4 < 64) then f { env := [(0, AV.c (Cell.int IntKind.u64 t0)), (3, AV.c (Cell.int IntKind.i64 (IntKind.i64.wrap (t3 + IntKind.i64.wrap (R1_Bit t0 t4))))), (4, AV.c (Cell.int IntKind.i64 (IntKind.i64.wrap (t4 + 1))))], loc := [], heap := H } K else K (AExit.exit 0) { env := [(3, AV.c (Cell.int IntKind.i64 t3))], loc := [], heap := H } := by intros; kernel_rfl
theorem loop70 (R : Type) (v : Int) (H : Heap) (K : AExit → St → Option R) : ∀ (m n : Nat) (i r : Int), 0 ≤ i → i + m = 64 →
    loopN (exec C70 (Code.l (Code.l (Code.r (Code.l (Code.r (Code.r (bodyOf Try.f70)))))))) (keepOf C70.live (Code.l (Code.l (Code.r (Code.l (Code.r (Code.r (bodyOf Try.f70)))))))) (n + m + 1) { env := [(0, AV.c (Cell.int IntKind.u64 v)), (3, AV.c (Cell.int IntKind.i64 r)), (4, AV.c (Cell.int IntKind.i64 i))], loc := [], heap := H } K
      = K (AExit.exit 0) { env := [(3, AV.c (Cell.int IntKind.i64 (onesGo v m i r)))], loc := [], heap := H }
  | 0, n, i, r, h0, hi => by
    have g : decide (i < 64) = false := by simp; omega
    rw [loopN_step, b70_3, g]; rfl
  | m + 1, n, i, r, h0, hi => by
    have g : decide (i < 64) = true := by simp; omega
    have g2 : IntKind.i64.wrap (i + 1) = i + 1 := wrap_i64 (by omega) (by omega)
    rw [show n + (m + 1) + 1 = (n + m + 1) + 1 by omega, loopN_step, b70_3, g, g2]
    exact loop70 R v H K m n (i + 1) _ (by omega) (by omega)
theorem s70 (R : Type) (v : Int) (H : Heap) (K : AV → Heap → Option R) : fnL C70 (loops C70) Try.f70.results.toList (bodyOf Try.f70) [.c (Cell.int .u64 v)] H K = K (oneOf [.c (Cell.int .i64 (R1_Ones v))]) H := by
  rw [e70]
  obtain ⟨n, hn⟩ := loops_of C70 (Code.l (Code.l (Code.r (Code.l (Code.r (Code.r (bodyOf Try.f70))))))) { env := [(0, AV.c (Cell.int IntKind.u64 v)), (3, AV.c (Cell.int IntKind.i64 0)), (4, AV.c (Cell.int IntKind.i64 0))], loc := [], heap := H } (blockK 0 (seqK (execL C70 (loops C70) (Code.r (Code.r (Code.r (bodyOf Try.f70))))) (retA C70 [ResultVar.tmp 2] K))) 64 (by decide)
  rw [hn, loop70 R v H _ 64 n 0 0 (by omega) (by omega)]
  show _ = _
  kernel_rfl
theorem ok70 : FnOk Try.prog 70 F70 := by
  refine fn_ok (C := C70) (good44.env rfl) (good44.ctx rfl rfl rfl) (by kernel_rfl) Try.func70 (c := bodyOf Try.f70) (by kernel_rfl) (by kernel_rfl) (Nat.le_of_eq Try.ntmps70.symm) ?_
  intro R args H K r h
  unfold F70 numF G70 at h
  split at h
  · rw [fnA_eq, s70]; exact h
  · cases h
noncomputable def L70 := ((70, F70) : Nat × FnSem) :: L44
noncomputable def N70 : List Nat := 70 :: N44
theorem good70 : Callees Try.prog L70 [] N70 := good44.cons_num ok70 (numF_num _)
/-! R1_Even -/
def R1_Even (v : Int) : Bool := (R1_Ones (v.tmod 256)).tmod 2 == 0
noncomputable def G60 : List TV → Option (List TV) | [.c (Cell.int .u64 v)] => some [.c (Cell.bool (R1_Even v))] | _ => none
noncomputable def F60 : FnSem := numF G60
noncomputable def C60 : Ctx := { P := Try.prog, own := [], fns := L70, nt := 8, nums := N70, live := [] }
theorem e60 : ∀ (R : Type) (v : Int) (H : Heap) (K : AV → Heap → Option R) (lp : Code → St → (AExit → St → Option R) → Option R), fnL C60 lp Try.f60.results.toList (bodyOf Try.f60) [TV.c (Cell.int IntKind.u64 v)] H K = K (AV.c (Cell.bool ((R1_Ones (v.tmod 256)).tmod 2 == 0))) H := by intros; kernel_rfl
theorem s60 (R : Type) (v : Int) (H : Heap) (K : AV → Heap → Option R) (lp : Code → St → (AExit → St → Option R) → Option R) : fnL C60 lp Try.f60.results.toList (bodyOf Try.f60) [.c (Cell.int .u64 v)] H K = K (oneOf [.c (Cell.bool (R1_Even v))]) H := by
  rw [e60]
  rfl
theorem ok60 : FnOk Try.prog 60 F60 := by
  refine fn_ok (C := C60) (good70.env rfl) (good70.ctx rfl rfl rfl) (by kernel_rfl) Try.func60 (c := bodyOf Try.f60) (by kernel_rfl) (by kernel_rfl) (Nat.le_of_eq Try.ntmps60.symm) ?_
  intro R args H K r h
  unfold F60 numF G60 at h
  split at h
  · rw [fnA_eq, s60]; exact h
  · cases h
noncomputable def L60 := ((60, F60) : Nat × FnSem) :: L70
noncomputable def N60 : List Nat := 60 :: N70
theorem good60 : Callees Try.prog L60 [] N60 := good70.cons_num ok60 (numF_num _)
