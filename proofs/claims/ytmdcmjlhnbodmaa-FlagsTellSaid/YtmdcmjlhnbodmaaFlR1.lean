/- The reference's functions of layer 1. -/
import Derived.Test.YtmdcmjlhnbodmaaFl3
import Derived.Test.YtmdcmjlhnbodmaaAb22
namespace Go.Proofs.Ytmdcmjlhnbodmaa
open Go Go.Proofs.Ytmdcmjlhnbodmaa.Ab
set_option linter.unusedVariables false
set_option maxRecDepth 100000
noncomputable section
/-! R1_Is -/
def R1_Is (w : Int) : Bool := bits_Is w
noncomputable def G40 : List TV → Option (List TV) | [.c (Cell.int .i64 w)] => some [.c (Cell.bool (R1_Is w))] | _ => none
noncomputable def F40 : FnSem := numF G40
noncomputable def C40 : Ctx := { P := Try.prog, own := [], fns := L27, nt := 17, nums := N27, live := [] }
theorem e40 : ∀ (R : Type) (w : Int) (H : Heap) (K : AV → Heap → Option R) (lp : Code → St → (AExit → St → Option R) → Option R), fnL C40 lp Try.f40.results.toList (bodyOf Try.f40) [TV.c (Cell.int IntKind.i64 w)] H K = bif w == 1 then K (AV.c (Cell.bool true)) H else bif w == 2 then K (AV.c (Cell.bool true)) H else bif w == 4 then K (AV.c (Cell.bool true)) H else K (AV.c (Cell.bool (w == 8))) H := by intros; kernel_rfl
theorem s40 (R : Type) (w : Int) (H : Heap) (K : AV → Heap → Option R) (lp : Code → St → (AExit → St → Option R) → Option R) : fnL C40 lp Try.f40.results.toList (bodyOf Try.f40) [.c (Cell.int .i64 w)] H K = K (oneOf [.c (Cell.bool (R1_Is w))]) H := by
  rw [e40]
  unfold R1_Is bits_Is
  cases (w == 1) <;> cases (w == 2) <;> cases (w == 4) <;> rfl
theorem ok40 : FnOk Try.prog 40 F40 := by
  refine fn_ok (C := C40) (good27.env rfl) (good27.ctx rfl rfl rfl) (by kernel_rfl) Try.func40 (c := bodyOf Try.f40) (by kernel_rfl) (by kernel_rfl) (Nat.le_of_eq Try.ntmps40.symm) ?_
  intro R args H K r h
  unfold F40 numF G40 at h
  split at h
  · rw [fnA_eq, s40]; exact h
  · cases h
noncomputable def L40 := ((40, F40) : Nat × FnSem) :: L27
noncomputable def N40 : List Nat := 40 :: N27
theorem good40 : Callees Try.prog L40 [] N40 := good27.cons_num ok40 (numF_num _)
/-! R1_one -/
def R1_one (b : Bool) : Int := bits_one b
noncomputable def G65 : List TV → Option (List TV) | [.c (Cell.bool b)] => some [.c (Cell.int .u64 (R1_one b))] | _ => none
noncomputable def F65 : FnSem := numF G65
noncomputable def C65 : Ctx := { P := Try.prog, own := [], fns := L40, nt := 4, nums := N40, live := [] }
theorem e65 : ∀ (R : Type) (b : Bool) (H : Heap) (K : AV → Heap → Option R) (lp : Code → St → (AExit → St → Option R) → Option R), fnL C65 lp Try.f65.results.toList (bodyOf Try.f65) [TV.c (Cell.bool b)] H K = bif b then K (AV.c (Cell.int IntKind.u64 1)) H else K (AV.c (Cell.int IntKind.u64 0)) H := by intros; kernel_rfl
theorem s65 (R : Type) (b : Bool) (H : Heap) (K : AV → Heap → Option R) (lp : Code → St → (AExit → St → Option R) → Option R) : fnL C65 lp Try.f65.results.toList (bodyOf Try.f65) [.c (Cell.bool b)] H K = K (oneOf [.c (Cell.int .u64 (R1_one b))]) H := by
  rw [e65]
  cases b <;> rfl
theorem ok65 : FnOk Try.prog 65 F65 := by
  refine fn_ok (C := C65) (good40.env rfl) (good40.ctx rfl rfl rfl) (by kernel_rfl) Try.func65 (c := bodyOf Try.f65) (by kernel_rfl) (by kernel_rfl) (Nat.le_of_eq Try.ntmps65.symm) ?_
  intro R args H K r h
  unfold F65 numF G65 at h
  split at h
  · rw [fnA_eq, s65]; exact h
  · cases h
noncomputable def L65 := ((65, F65) : Nat × FnSem) :: L40
noncomputable def N65 : List Nat := 65 :: N40
theorem good65 : Callees Try.prog L65 [] N65 := good40.cons_num ok65 (numF_num _)
/-! R1_Bit -/
def R1_Bit (v i : Int) : Int := (ishr .u64 v (IntKind.u64.wrap i)).tmod 2
noncomputable def G45 : List TV → Option (List TV) | [.c (Cell.int .u64 v), .c (Cell.int .i64 i)] => some [.c (Cell.int .u64 (R1_Bit v i))] | _ => none
noncomputable def F45 : FnSem := numF G45
noncomputable def C45 : Ctx := { P := Try.prog, own := [], fns := L65, nt := 10, nums := N65, live := [] }
theorem e45 : ∀ (R : Type) (v i : Int) (H : Heap) (K : AV → Heap → Option R) (lp : Code → St → (AExit → St → Option R) → Option R), fnL C45 lp Try.f45.results.toList (bodyOf Try.f45) [TV.c (Cell.int IntKind.u64 v), TV.c (Cell.int IntKind.i64 i)] H K = bif decide (IntKind.u64.wrap i < 0) then none else K (AV.c (Cell.int IntKind.u64 ((ishr IntKind.u64 v (IntKind.u64.wrap i)).tmod 2))) H := by intros; kernel_rfl
theorem s45 (R : Type) (v : Int) (i : Int) (H : Heap) (K : AV → Heap → Option R) (lp : Code → St → (AExit → St → Option R) → Option R) : fnL C45 lp Try.f45.results.toList (bodyOf Try.f45) [.c (Cell.int .u64 v), .c (Cell.int .i64 i)] H K = K (oneOf [.c (Cell.int .u64 (R1_Bit v i))]) H := by
  rw [e45]
  have g : decide (IntKind.u64.wrap i < 0) = false := by rw [wrap_u64]; simp; omega
  rw [g]; rfl
theorem ok45 : FnOk Try.prog 45 F45 := by
  refine fn_ok (C := C45) (good65.env rfl) (good65.ctx rfl rfl rfl) (by kernel_rfl) Try.func45 (c := bodyOf Try.f45) (by kernel_rfl) (by kernel_rfl) (Nat.le_of_eq Try.ntmps45.symm) ?_
  intro R args H K r h
  unfold F45 numF G45 at h
  split at h
  · rw [fnA_eq, s45]; exact h
  · cases h
noncomputable def L45 := ((45, F45) : Nat × FnSem) :: L65
noncomputable def N45 : List Nat := 45 :: N65
theorem good45 : Callees Try.prog L45 [] N45 := good65.cons_num ok45 (numF_num _)
/-! R1_Zx -/
def zxGo (v : Int) : Nat → Int → Int → Int
  | 0, _, r => r
  | m + 1, i, r => zxGo v m (i + 1) (IntKind.u64.wrap (r + ishl .u64 (R1_Bit v i) (IntKind.u64.wrap i)))
def R1_Zx (v w : Int) : Int := bif R1_Is w then zxGo v (8 * w.toNat) 0 0 else 0
theorem is_8w {w : Int} (h : R1_Is w = true) : IntKind.i64.wrap (8 * w) = 8 * w ∧ 8 * w.toNat ≤ 64 ∧ ((8 * w.toNat : Nat) : Int) = 8 * w ∧ 0 < w := by
  have h' : bits_Is w = true := h
  rcases is_w h' with rfl | rfl | rfl | rfl <;> decide
theorem u64_pos (i : Int) : decide (IntKind.u64.wrap i < 0) = false := by rw [wrap_u64]; simp; omega
noncomputable def G49 : List TV → Option (List TV) | [.c (Cell.int .u64 v), .c (Cell.int .i64 w)] => some [.c (Cell.int .u64 (R1_Zx v w))] | _ => none
noncomputable def F49 : FnSem := numF G49
noncomputable def C49 : Ctx := { P := Try.prog, own := [], fns := L45, nt := 26, nums := N45, live := [(3, ⟨[0, 1, 5, 6], [], [5], []⟩)] }
theorem e49 : ∀ (R : Type) (v w : Int) (H : Heap) (K : AV → Heap → Option R) (lp : Code → St → (AExit → St → Option R) → Option R), fnL C49 lp Try.f49.results.toList (bodyOf Try.f49) [TV.c (Cell.int IntKind.u64 v), TV.c (Cell.int IntKind.i64 w)] H K = lp (Code.l (Code.l (Code.r (Code.l (Code.r (Code.r (bodyOf Try.f49))))))) { env := [(0, AV.c (Cell.int IntKind.u64 v)), (1, AV.c (Cell.int IntKind.i64 w)), (5, AV.c (Cell.int IntKind.u64 0)), (6, AV.c (Cell.int IntKind.i64 0))], loc := [], heap := H } (blockK 0 (seqK (execL C49 lp (Code.r (Code.r (Code.r (bodyOf Try.f49))))) (retA C49 [ResultVar.tmp 4] K))) := by intros; kernel_rfl
theorem b49_3 : ∀ (R : Type) (t0 t1 t5 t6 : Int) (H : Heap) (K : AExit → St → Option R) (f : St → (AExit → St → Option R) → Option R) (lp : Code → St → (AExit → St → Option R) → Option R), execL C49 lp (Code.l (Code.l (Code.r (Code.l (Code.r (Code.r (bodyOf Try.f49))))))) { env := [(0, AV.c (Cell.int IntKind.u64 t0)), (1, AV.c (Cell.int IntKind.i64 t1)), (5, AV.c (Cell.int IntKind.u64 t5)), (6, AV.c (Cell.int IntKind.i64 t6))], loc := [], heap := H } (loopK (keepOf C49.live (Code.l (Code.l (Code.r (Code.l (Code.r (Code.r (bodyOf Try.f49)))))))) f K) = bif R1_Is t1 then bif decide (t6 < IntKind.i64.wrap (8 * t1)) then bif decide (IntKind.u64.wrap t6 < 0) then none else f { env := [(0, AV.c (Cell.int IntKind.u64 t0)), (1, AV.c (Cell.int IntKind.i64 t1)), (5, AV.c (Cell.int IntKind.u64 (IntKind.u64.wrap (t5 + ishl IntKind.u64 (R1_Bit t0 t6) (IntKind.u64.wrap t6))))), (6, AV.c (Cell.int IntKind.i64 (IntKind.i64.wrap (t6 + 1))))], loc := [], heap := H } K else K (AExit.exit 0) { env := [(5, AV.c (Cell.int IntKind.u64 t5))], loc := [], heap := H } else K (AExit.exit 0) { env := [(5, AV.c (Cell.int IntKind.u64 t5))], loc := [], heap := H } := by intros; kernel_rfl
theorem loop49 (R : Type) (v w : Int) (h : R1_Is w = true) (H : Heap) (K : AExit → St → Option R) : ∀ (m n : Nat) (i r : Int), 0 ≤ i → i + m = 8 * w →
    loopN (exec C49 (Code.l (Code.l (Code.r (Code.l (Code.r (Code.r (bodyOf Try.f49)))))))) (keepOf C49.live (Code.l (Code.l (Code.r (Code.l (Code.r (Code.r (bodyOf Try.f49)))))))) (n + m + 1) { env := [(0, AV.c (Cell.int IntKind.u64 v)), (1, AV.c (Cell.int IntKind.i64 w)), (5, AV.c (Cell.int IntKind.u64 r)), (6, AV.c (Cell.int IntKind.i64 i))], loc := [], heap := H } K
      = K (AExit.exit 0) { env := [(5, AV.c (Cell.int IntKind.u64 (zxGo v m i r)))], loc := [], heap := H }
  | 0, n, i, r, h0, hi => by
    have g : decide (i < 8 * w) = false := by simp; omega
    rw [loopN_step, b49_3, h, (is_8w h).1, g]; rfl
  | m + 1, n, i, r, h0, hi => by
    have h8 := is_8w h
    have g : decide (i < 8 * w) = true := by simp; omega
    have g2 : IntKind.i64.wrap (i + 1) = i + 1 := wrap_i64 (by omega) (by omega)
    rw [show n + (m + 1) + 1 = (n + m + 1) + 1 by omega, loopN_step, b49_3, h, h8.1, g, u64_pos, g2]
    exact loop49 R v w h H K m n (i + 1) _ (by omega) (by omega)
theorem loop49_not (R : Type) (v w : Int) (h : R1_Is w = false) (H : Heap) (K : AExit → St → Option R) (n : Nat) (i r : Int) :
    loopN (exec C49 (Code.l (Code.l (Code.r (Code.l (Code.r (Code.r (bodyOf Try.f49)))))))) (keepOf C49.live (Code.l (Code.l (Code.r (Code.l (Code.r (Code.r (bodyOf Try.f49)))))))) (n + 0 + 1) { env := [(0, AV.c (Cell.int IntKind.u64 v)), (1, AV.c (Cell.int IntKind.i64 w)), (5, AV.c (Cell.int IntKind.u64 r)), (6, AV.c (Cell.int IntKind.i64 i))], loc := [], heap := H } K
      = K (AExit.exit 0) { env := [(5, AV.c (Cell.int IntKind.u64 r))], loc := [], heap := H } := by
  rw [loopN_step, b49_3, h]; rfl
theorem s49 (R : Type) (v : Int) (w : Int) (H : Heap) (K : AV → Heap → Option R) : fnL C49 (loops C49) Try.f49.results.toList (bodyOf Try.f49) [.c (Cell.int .u64 v), .c (Cell.int .i64 w)] H K = K (oneOf [.c (Cell.int .u64 (R1_Zx v w))]) H := by
  rw [e49]
  unfold R1_Zx
  cases h : R1_Is w
  · obtain ⟨n, hn⟩ := loops_of C49 (Code.l (Code.l (Code.r (Code.l (Code.r (Code.r (bodyOf Try.f49))))))) { env := [(0, AV.c (Cell.int IntKind.u64 v)), (1, AV.c (Cell.int IntKind.i64 w)), (5, AV.c (Cell.int IntKind.u64 0)), (6, AV.c (Cell.int IntKind.i64 0))], loc := [], heap := H } (blockK 0 (seqK (execL C49 (loops C49) (Code.r (Code.r (Code.r (bodyOf Try.f49))))) (retA C49 [ResultVar.tmp 4] K))) 0 (by decide)
    rw [hn, loop49_not R v w h]
    show _ = _
    kernel_rfl
  · have h8 := is_8w h
    obtain ⟨n, hn⟩ := loops_of C49 (Code.l (Code.l (Code.r (Code.l (Code.r (Code.r (bodyOf Try.f49))))))) { env := [(0, AV.c (Cell.int IntKind.u64 v)), (1, AV.c (Cell.int IntKind.i64 w)), (5, AV.c (Cell.int IntKind.u64 0)), (6, AV.c (Cell.int IntKind.i64 0))], loc := [], heap := H } (blockK 0 (seqK (execL C49 (loops C49) (Code.r (Code.r (Code.r (bodyOf Try.f49))))) (retA C49 [ResultVar.tmp 4] K))) (8 * w.toNat) (by omega)
    rw [hn, loop49 R v w h H _ (8 * w.toNat) n 0 0 (by omega) (by omega)]
    show _ = _
    kernel_rfl
theorem ok49 : FnOk Try.prog 49 F49 := by
  refine fn_ok (C := C49) (good45.env rfl) (good45.ctx rfl rfl rfl) (by kernel_rfl) Try.func49 (c := bodyOf Try.f49) (by kernel_rfl) (by kernel_rfl) (Nat.le_of_eq Try.ntmps49.symm) ?_
  intro R args H K r h
  unfold F49 numF G49 at h
  split at h
  · rw [fnA_eq, s49]; exact h
  · cases h
noncomputable def L49 := ((49, F49) : Nat × FnSem) :: L45
noncomputable def N49 : List Nat := 49 :: N45
theorem good49 : Callees Try.prog L49 [] N49 := good45.cons_num ok49 (numF_num _)
/-! R1_Sx -/
def sxGo (b : Int) : Nat → Int → Int → Int
  | 0, _, r => r
  | m + 1, i, r => sxGo b m (i + 1) (IntKind.u64.wrap (r + ishl .u64 b (IntKind.u64.wrap i)))
def R1_Sx (v w : Int) : Int := bif R1_Is w then sxGo (R1_Bit v (IntKind.i64.wrap (IntKind.i64.wrap (8 * w) - 1))) (64 - 8 * w.toNat) (IntKind.i64.wrap (8 * w)) (R1_Zx v w) else R1_Zx v w
noncomputable def G56 : List TV → Option (List TV) | [.c (Cell.int .u64 v), .c (Cell.int .i64 w)] => some [.c (Cell.int .u64 (R1_Sx v w))] | _ => none
noncomputable def F56 : FnSem := numF G56
noncomputable def C56 : Ctx := { P := Try.prog, own := [], fns := L49, nt := 31, nums := N49, live := [(3, ⟨[0, 1, 5, 6], [], [5], []⟩)] }
theorem e56 : ∀ (R : Type) (v w : Int) (H : Heap) (K : AV → Heap → Option R) (lp : Code → St → (AExit → St → Option R) → Option R), fnL C56 lp Try.f56.results.toList (bodyOf Try.f56) [TV.c (Cell.int IntKind.u64 v), TV.c (Cell.int IntKind.i64 w)] H K = lp (Code.l (Code.l (Code.r (Code.l (Code.r (Code.r (bodyOf Try.f56))))))) { env := [(0, AV.c (Cell.int IntKind.u64 v)), (1, AV.c (Cell.int IntKind.i64 w)), (5, AV.c (Cell.int IntKind.u64 (R1_Zx v w))), (6, AV.c (Cell.int IntKind.i64 (IntKind.i64.wrap (8 * w))))], loc := [], heap := H } (blockK 0 (seqK (execL C56 lp (Code.r (Code.r (Code.r (bodyOf Try.f56))))) (retA C56 [ResultVar.tmp 4] K))) := by intros; kernel_rfl
theorem b56_3 : ∀ (R : Type) (t0 t1 t5 t6 : Int) (H : Heap) (K : AExit → St → Option R) (f : St → (AExit → St → Option R) → Option R) (lp : Code → St → (AExit → St → Option R) → Option R), execL C56 lp (Code.l (Code.l (Code.r (Code.l (Code.r (Code.r (bodyOf Try.f56))))))) { env := [(0, AV.c (Cell.int IntKind.u64 t0)), (1, AV.c (Cell.int IntKind.i64 t1)), (5, AV.c (Cell.int IntKind.u64 t5)), (6, AV.c (Cell.int IntKind.i64 t6))], loc := [], heap := H } (loopK (keepOf C56.live (Code.l (Code.l (Code.r (Code.l (Code.r (Code.r (bodyOf Try.f56)))))))) f K) = bif R1_Is t1 then bif decide (t6 < 64) then bif decide (IntKind.u64.wrap t6 < 0) then none else f { env := [(0, AV.c (Cell.int IntKind.u64 t0)), (1, AV.c (Cell.int IntKind.i64 t1)), (5, AV.c (Cell.int IntKind.u64 (IntKind.u64.wrap (t5 + ishl IntKind.u64 (R1_Bit t0 (IntKind.i64.wrap (IntKind.i64.wrap (8 * t1) - 1))) (IntKind.u64.wrap t6))))), (6, AV.c (Cell.int IntKind.i64 (IntKind.i64.wrap (t6 + 1))))], loc := [], heap := H } K else K (AExit.exit 0) { env := [(5, AV.c (Cell.int IntKind.u64 t5))], loc := [], heap := H } else K (AExit.exit 0) { env := [(5, AV.c (Cell.int IntKind.u64 t5))], loc := [], heap := H } := by intros; kernel_rfl
theorem loop56 (R : Type) (v w : Int) (h : R1_Is w = true) (H : Heap) (K : AExit → St → Option R) : ∀ (m n : Nat) (i r : Int), 0 ≤ i → i + m = 64 →
    loopN (exec C56 (Code.l (Code.l (Code.r (Code.l (Code.r (Code.r (bodyOf Try.f56)))))))) (keepOf C56.live (Code.l (Code.l (Code.r (Code.l (Code.r (Code.r (bodyOf Try.f56)))))))) (n + m + 1) { env := [(0, AV.c (Cell.int IntKind.u64 v)), (1, AV.c (Cell.int IntKind.i64 w)), (5, AV.c (Cell.int IntKind.u64 r)), (6, AV.c (Cell.int IntKind.i64 i))], loc := [], heap := H } K
      = K (AExit.exit 0) { env := [(5, AV.c (Cell.int IntKind.u64 (sxGo (R1_Bit v (IntKind.i64.wrap (IntKind.i64.wrap (8 * w) - 1))) m i r)))], loc := [], heap := H }
  | 0, n, i, r, h0, hi => by
    have g : decide (i < 64) = false := by simp; omega
    rw [loopN_step, b56_3, h, g]; rfl
  | m + 1, n, i, r, h0, hi => by
    have g : decide (i < 64) = true := by simp; omega
    have g2 : IntKind.i64.wrap (i + 1) = i + 1 := wrap_i64 (by omega) (by omega)
    rw [show n + (m + 1) + 1 = (n + m + 1) + 1 by omega, loopN_step, b56_3, h, g, u64_pos, g2]
    exact loop56 R v w h H K m n (i + 1) _ (by omega) (by omega)
theorem loop56_not (R : Type) (v w : Int) (h : R1_Is w = false) (H : Heap) (K : AExit → St → Option R) (n : Nat) (i r : Int) :
    loopN (exec C56 (Code.l (Code.l (Code.r (Code.l (Code.r (Code.r (bodyOf Try.f56)))))))) (keepOf C56.live (Code.l (Code.l (Code.r (Code.l (Code.r (Code.r (bodyOf Try.f56)))))))) (n + 0 + 1) { env := [(0, AV.c (Cell.int IntKind.u64 v)), (1, AV.c (Cell.int IntKind.i64 w)), (5, AV.c (Cell.int IntKind.u64 r)), (6, AV.c (Cell.int IntKind.i64 i))], loc := [], heap := H } K
      = K (AExit.exit 0) { env := [(5, AV.c (Cell.int IntKind.u64 r))], loc := [], heap := H } := by
  rw [loopN_step, b56_3, h]; rfl
theorem s56 (R : Type) (v : Int) (w : Int) (H : Heap) (K : AV → Heap → Option R) : fnL C56 (loops C56) Try.f56.results.toList (bodyOf Try.f56) [.c (Cell.int .u64 v), .c (Cell.int .i64 w)] H K = K (oneOf [.c (Cell.int .u64 (R1_Sx v w))]) H := by
  rw [e56]
  unfold R1_Sx
  cases h : R1_Is w
  · obtain ⟨n, hn⟩ := loops_of C56 (Code.l (Code.l (Code.r (Code.l (Code.r (Code.r (bodyOf Try.f56))))))) { env := [(0, AV.c (Cell.int IntKind.u64 v)), (1, AV.c (Cell.int IntKind.i64 w)), (5, AV.c (Cell.int IntKind.u64 (R1_Zx v w))), (6, AV.c (Cell.int IntKind.i64 (IntKind.i64.wrap (8 * w))))], loc := [], heap := H } (blockK 0 (seqK (execL C56 (loops C56) (Code.r (Code.r (Code.r (bodyOf Try.f56))))) (retA C56 [ResultVar.tmp 4] K))) 0 (by decide)
    rw [hn, loop56_not R v w h]
    show _ = _
    kernel_rfl
  · have h8 := is_8w h
    obtain ⟨n, hn⟩ := loops_of C56 (Code.l (Code.l (Code.r (Code.l (Code.r (Code.r (bodyOf Try.f56))))))) { env := [(0, AV.c (Cell.int IntKind.u64 v)), (1, AV.c (Cell.int IntKind.i64 w)), (5, AV.c (Cell.int IntKind.u64 (R1_Zx v w))), (6, AV.c (Cell.int IntKind.i64 (IntKind.i64.wrap (8 * w))))], loc := [], heap := H } (blockK 0 (seqK (execL C56 (loops C56) (Code.r (Code.r (Code.r (bodyOf Try.f56))))) (retA C56 [ResultVar.tmp 4] K))) (64 - 8 * w.toNat) (by omega)
    rw [hn, loop56 R v w h H _ (64 - 8 * w.toNat) n (IntKind.i64.wrap (8 * w)) _ (by rw [h8.1]; omega) (by rw [h8.1]; omega)]
    show _ = _
    kernel_rfl
theorem ok56 : FnOk Try.prog 56 F56 := by
  refine fn_ok (C := C56) (good49.env rfl) (good49.ctx rfl rfl rfl) (by kernel_rfl) Try.func56 (c := bodyOf Try.f56) (by kernel_rfl) (by kernel_rfl) (Nat.le_of_eq Try.ntmps56.symm) ?_
  intro R args H K r h
  unfold F56 numF G56 at h
  split at h
  · rw [fnA_eq, s56]; exact h
  · cases h
noncomputable def L56 := ((56, F56) : Nat × FnSem) :: L49
noncomputable def N56 : List Nat := 56 :: N49
theorem good56 : Callees Try.prog L56 [] N56 := good49.cons_num ok56 (numF_num _)
/-! R8_of -/
def R8_of (r : Int) (c o : Bool) (w : Int) : Int × Bool × Bool × Int := (R1_Zx r w, c, o, R1_Sx r w)
noncomputable def G43 : List TV → Option (List TV) | [.c (Cell.int .u64 r), .c (Cell.bool c), .c (Cell.bool o), .c (Cell.int .i64 w)] => let r := R8_of r c o w; some [.c (Cell.int .u64 r.1), .agg [Cell.bool r.2.1, Cell.bool r.2.2.1, Cell.int .u64 r.2.2.2]] | _ => none
noncomputable def F43 : FnSem := numF G43
noncomputable def C43 : Ctx := { P := Try.prog, own := [9], fns := L56, nt := 19, nums := N56, live := [] }
theorem e43 : ∀ (R : Type) (r : Int) (c o : Bool) (w : Int) (H : Heap) (K : AV → Heap → Option R) (lp : Code → St → (AExit → St → Option R) → Option R), fnL C43 lp Try.f43.results.toList (bodyOf Try.f43) [TV.c (Cell.int IntKind.u64 r), TV.c (Cell.bool c), TV.c (Cell.bool o), TV.c (Cell.int IntKind.i64 w)] H K = K (AV.tup [TV.c (Cell.int IntKind.u64 (R1_Zx r w)), TV.agg [Cell.bool c, Cell.bool o, Cell.int IntKind.u64 (R1_Sx r w)]]) H := by intros; kernel_rfl
theorem s43 (R : Type) (r : Int) (c : Bool) (o : Bool) (w : Int) (H : Heap) (K : AV → Heap → Option R) (lp : Code → St → (AExit → St → Option R) → Option R) : fnL C43 lp Try.f43.results.toList (bodyOf Try.f43) [.c (Cell.int .u64 r), .c (Cell.bool c), .c (Cell.bool o), .c (Cell.int .i64 w)] H K = K (oneOf [.c (Cell.int .u64 (R8_of r c o w).1), .agg [Cell.bool (R8_of r c o w).2.1, Cell.bool (R8_of r c o w).2.2.1, Cell.int .u64 (R8_of r c o w).2.2.2]]) H := by
  rw [e43]
  rfl
theorem ok43 : FnOk Try.prog 43 F43 := by
  refine fn_ok (C := C43) (good56.env rfl) (good56.ctx rfl rfl rfl) (by kernel_rfl) Try.func43 (c := bodyOf Try.f43) (by kernel_rfl) (by kernel_rfl) (Nat.le_of_eq Try.ntmps43.symm) ?_
  intro R args H K r h
  unfold F43 numF G43 at h
  split at h
  · rw [fnA_eq, s43]; exact h
  · cases h
noncomputable def L43 := ((43, F43) : Nat × FnSem) :: L56
noncomputable def N43 : List Nat := 43 :: N56
theorem good43 : Callees Try.prog L43 [] N43 := good56.cons_num ok43 (numF_num _)
/-! R1_Neg -/
def R1_Neg (v w : Int) : Bool := bif R1_Is w then R1_Bit v (IntKind.i64.wrap (IntKind.i64.wrap (8 * w) - 1)) == 1 else false
noncomputable def G50 : List TV → Option (List TV) | [.c (Cell.int .u64 v), .c (Cell.int .i64 w)] => some [.c (Cell.bool (R1_Neg v w))] | _ => none
noncomputable def F50 : FnSem := numF G50
noncomputable def C50 : Ctx := { P := Try.prog, own := [], fns := L43, nt := 15, nums := N43, live := [] }
theorem e50 : ∀ (R : Type) (v w : Int) (H : Heap) (K : AV → Heap → Option R) (lp : Code → St → (AExit → St → Option R) → Option R), fnL C50 lp Try.f50.results.toList (bodyOf Try.f50) [TV.c (Cell.int IntKind.u64 v), TV.c (Cell.int IntKind.i64 w)] H K = bif R1_Is w then K (AV.c (Cell.bool (R1_Bit v (IntKind.i64.wrap (IntKind.i64.wrap (8 * w) - 1)) == 1))) H else K (AV.c (Cell.bool false)) H := by intros; kernel_rfl
theorem s50 (R : Type) (v : Int) (w : Int) (H : Heap) (K : AV → Heap → Option R) (lp : Code → St → (AExit → St → Option R) → Option R) : fnL C50 lp Try.f50.results.toList (bodyOf Try.f50) [.c (Cell.int .u64 v), .c (Cell.int .i64 w)] H K = K (oneOf [.c (Cell.bool (R1_Neg v w))]) H := by
  rw [e50]
  unfold R1_Neg
  cases R1_Is w <;> rfl
theorem ok50 : FnOk Try.prog 50 F50 := by
  refine fn_ok (C := C50) (good43.env rfl) (good43.ctx rfl rfl rfl) (by kernel_rfl) Try.func50 (c := bodyOf Try.f50) (by kernel_rfl) (by kernel_rfl) (Nat.le_of_eq Try.ntmps50.symm) ?_
  intro R args H K r h
  unfold F50 numF G50 at h
  split at h
  · rw [fnA_eq, s50]; exact h
  · cases h
noncomputable def L50 := ((50, F50) : Nat × FnSem) :: L43
noncomputable def N50 : List Nat := 50 :: N43
theorem good50 : Callees Try.prog L50 [] N50 := good43.cons_num ok50 (numF_num _)
