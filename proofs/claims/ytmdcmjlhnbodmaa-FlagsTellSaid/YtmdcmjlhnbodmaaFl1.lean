/- Layer 8's own functions: what each computes. -/
import Derived.Test.YtmdcmjlhnbodmaaProg
import Derived.Test.YtmdcmjlhnbodmaaAr
import Derived.KernelRfl
namespace Go.Proofs.Ytmdcmjlhnbodmaa
open Go Go.Proofs.Ytmdcmjlhnbodmaa.Ab
set_option linter.unusedVariables false
set_option maxRecDepth 100000
noncomputable section
/-! bits_Is -/
def bits_Is (w : Int) : Bool := w == 1 || (w == 2 || (w == 4 || w == 8))
theorem is_w {w : Int} (h : bits_Is w = true) : w = 1 ∨ w = 2 ∨ w = 4 ∨ w = 8 := by simpa [bits_Is] using h
noncomputable def G26 : List TV → Option (List TV) | [.c (Cell.int .i64 w)] => some [.c (Cell.bool (bits_Is w))] | _ => none
noncomputable def F26 : FnSem := numF G26
noncomputable def C26 : Ctx := { P := Try.prog, own := [], fns := ([] : List (Nat × FnSem)), nt := 17, nums := ([] : List Nat), live := [] }
theorem e26 : ∀ (R : Type) (w : Int) (H : Heap) (K : AV → Heap → Option R) (lp : Code → St → (AExit → St → Option R) → Option R), fnL C26 lp Try.f26.results.toList (bodyOf Try.f26) [TV.c (Cell.int IntKind.i64 w)] H K = bif w == 1 then K (AV.c (Cell.bool true)) H else bif w == 2 then K (AV.c (Cell.bool true)) H else bif w == 4 then K (AV.c (Cell.bool true)) H else K (AV.c (Cell.bool (w == 8))) H := by intros; kernel_rfl
theorem s26 (R : Type) (w : Int) (H : Heap) (K : AV → Heap → Option R) (lp : Code → St → (AExit → St → Option R) → Option R) : fnL C26 lp Try.f26.results.toList (bodyOf Try.f26) [.c (Cell.int .i64 w)] H K = K (oneOf [.c (Cell.bool (bits_Is w))]) H := by
  rw [e26]
  unfold bits_Is
  cases (w == 1) <;> cases (w == 2) <;> cases (w == 4) <;> rfl
theorem ok26 : FnOk Try.prog 26 F26 := by
  refine fn_ok (C := C26) ((Callees.nil Try.prog).env rfl) ((Callees.nil Try.prog).ctx rfl rfl rfl) (by kernel_rfl) Try.func26 (c := bodyOf Try.f26) (by kernel_rfl) (by kernel_rfl) (Nat.le_of_eq Try.ntmps26.symm) ?_
  intro R args H K r h
  unfold F26 numF G26 at h
  split at h
  · rw [fnA_eq, s26]; exact h
  · cases h
noncomputable def L26 := ((26, F26) : Nat × FnSem) :: ([] : List (Nat × FnSem))
noncomputable def N26 : List Nat := 26 :: ([] : List Nat)
theorem good26 : Callees Try.prog L26 [] N26 := (Callees.nil Try.prog).cons_num ok26 (numF_num _)
/-! bits_Mask -/
def bits_Mask (w : Int) : Int := bif bits_Is w then 2 ^ (8 * w.toNat) - 1 else 0
noncomputable def G53 : List TV → Option (List TV) | [.c (Cell.int .i64 w)] => some [.c (Cell.int .u64 (bits_Mask w))] | _ => none
noncomputable def F53 : FnSem := numF G53
noncomputable def C53 : Ctx := { P := Try.prog, own := [], fns := L26, nt := 10, nums := N26, live := [] }
theorem e53 : ∀ (R : Type) (w : Int) (H : Heap) (K : AV → Heap → Option R) (lp : Code → St → (AExit → St → Option R) → Option R), fnL C53 lp Try.f53.results.toList (bodyOf Try.f53) [TV.c (Cell.int IntKind.i64 w)] H K = bif !bits_Is w then K (AV.c (Cell.int IntKind.u64 0)) H else bif decide (IntKind.i64.wrap (64 - IntKind.i64.wrap (8 * w)) < 0) then none else K (AV.c (Cell.int IntKind.u64 (ishr IntKind.u64 18446744073709551615 (IntKind.i64.wrap (64 - IntKind.i64.wrap (8 * w)))))) H := by intros; kernel_rfl
theorem s53 (R : Type) (w : Int) (H : Heap) (K : AV → Heap → Option R) (lp : Code → St → (AExit → St → Option R) → Option R) : fnL C53 lp Try.f53.results.toList (bodyOf Try.f53) [.c (Cell.int .i64 w)] H K = K (oneOf [.c (Cell.int .u64 (bits_Mask w))]) H := by
  rw [e53]
  cases h : bits_Is w
  · unfold bits_Mask; rw [h]; rfl
  · rcases is_w h with rfl | rfl | rfl | rfl <;> kernel_rfl
theorem ok53 : FnOk Try.prog 53 F53 := by
  refine fn_ok (C := C53) (good26.env rfl) (good26.ctx rfl rfl rfl) (by kernel_rfl) Try.func53 (c := bodyOf Try.f53) (by kernel_rfl) (by kernel_rfl) (Nat.le_of_eq Try.ntmps53.symm) ?_
  intro R args H K r h
  unfold F53 numF G53 at h
  split at h
  · rw [fnA_eq, s53]; exact h
  · cases h
noncomputable def L53 := ((53, F53) : Nat × FnSem) :: L26
noncomputable def N53 : List Nat := 53 :: N26
theorem good53 : Callees Try.prog L53 [] N53 := good26.cons_num ok53 (numF_num _)
/-! bits_Zx -/
def bits_Zx (v w : Int) : Int := bif bits_Is w then v % 2 ^ (8 * w.toNat) else 0
theorem zx_nonneg (v w : Int) : 0 ≤ bits_Zx v w := by
  unfold bits_Zx
  cases h : bits_Is w
  · exact Int.le_refl _
  · exact Int.emod_nonneg _ (by have := Int.pow_pos (n := 2) (m := 8 * w.toNat) (by decide); omega)
theorem zx_lt (v w : Int) : bits_Zx v w < 18446744073709551616 := by
  unfold bits_Zx
  cases h : bits_Is w
  · show (0 : Int) < 18446744073709551616; decide
  · rcases is_w h with rfl | rfl | rfl | rfl <;> simp <;> omega
noncomputable def G22 : List TV → Option (List TV) | [.c (Cell.int .u64 v), .c (Cell.int .i64 w)] => some [.c (Cell.int .u64 (bits_Zx v w))] | _ => none
noncomputable def F22 : FnSem := numF G22
noncomputable def C22 : Ctx := { P := Try.prog, own := [], fns := L53, nt := 9, nums := N53, live := [] }
theorem e22 : ∀ (R : Type) (v w : Int) (H : Heap) (K : AV → Heap → Option R) (lp : Code → St → (AExit → St → Option R) → Option R), fnL C22 lp Try.f22.results.toList (bodyOf Try.f22) [TV.c (Cell.int IntKind.u64 v), TV.c (Cell.int IntKind.i64 w)] H K = K (AV.c (Cell.int IntKind.u64 (band IntKind.u64 v (bits_Mask w)))) H := by intros; kernel_rfl
theorem s22 (R : Type) (v : Int) (w : Int) (H : Heap) (K : AV → Heap → Option R) (lp : Code → St → (AExit → St → Option R) → Option R) : fnL C22 lp Try.f22.results.toList (bodyOf Try.f22) [.c (Cell.int .u64 v), .c (Cell.int .i64 w)] H K = K (oneOf [.c (Cell.int .u64 (bits_Zx v w))]) H := by
  rw [e22]
  have : band .u64 v (bits_Mask w) = bits_Zx v w := by
    unfold bits_Zx bits_Mask
    cases h : bits_Is w
    · exact band_zero v
    · exact band_mask v (by rcases is_w h with rfl | rfl | rfl | rfl <;> decide)
  rw [this]; rfl
theorem ok22 : FnOk Try.prog 22 F22 := by
  refine fn_ok (C := C22) (good53.env rfl) (good53.ctx rfl rfl rfl) (by kernel_rfl) Try.func22 (c := bodyOf Try.f22) (by kernel_rfl) (by kernel_rfl) (Nat.le_of_eq Try.ntmps22.symm) ?_
  intro R args H K r h
  unfold F22 numF G22 at h
  split at h
  · rw [fnA_eq, s22]; exact h
  · cases h
noncomputable def L22 := ((22, F22) : Nat × FnSem) :: L53
noncomputable def N22 : List Nat := 22 :: N53
theorem good22 : Callees Try.prog L22 [] N22 := good53.cons_num ok22 (numF_num _)
/-! bits_one -/
def bits_one (b : Bool) : Int := bif b then 1 else 0
theorem one_range (b : Bool) : 0 ≤ bits_one b ∧ bits_one b ≤ 1 := by cases b <;> decide
noncomputable def G62 : List TV → Option (List TV) | [.c (Cell.bool b)] => some [.c (Cell.int .u64 (bits_one b))] | _ => none
noncomputable def F62 : FnSem := numF G62
noncomputable def C62 : Ctx := { P := Try.prog, own := [], fns := L22, nt := 4, nums := N22, live := [] }
theorem e62 : ∀ (R : Type) (b : Bool) (H : Heap) (K : AV → Heap → Option R) (lp : Code → St → (AExit → St → Option R) → Option R), fnL C62 lp Try.f62.results.toList (bodyOf Try.f62) [TV.c (Cell.bool b)] H K = bif b then K (AV.c (Cell.int IntKind.u64 1)) H else K (AV.c (Cell.int IntKind.u64 0)) H := by intros; kernel_rfl
theorem s62 (R : Type) (b : Bool) (H : Heap) (K : AV → Heap → Option R) (lp : Code → St → (AExit → St → Option R) → Option R) : fnL C62 lp Try.f62.results.toList (bodyOf Try.f62) [.c (Cell.bool b)] H K = K (oneOf [.c (Cell.int .u64 (bits_one b))]) H := by
  rw [e62]
  cases b <;> rfl
theorem ok62 : FnOk Try.prog 62 F62 := by
  refine fn_ok (C := C62) (good22.env rfl) (good22.ctx rfl rfl rfl) (by kernel_rfl) Try.func62 (c := bodyOf Try.f62) (by kernel_rfl) (by kernel_rfl) (Nat.le_of_eq Try.ntmps62.symm) ?_
  intro R args H K r h
  unfold F62 numF G62 at h
  split at h
  · rw [fnA_eq, s62]; exact h
  · cases h
noncomputable def L62 := ((62, F62) : Nat × FnSem) :: L22
noncomputable def N62 : List Nat := 62 :: N22
theorem good62 : Callees Try.prog L62 [] N62 := good22.cons_num ok62 (numF_num _)
/-! mbits_Add64 -/
noncomputable def F61 : FnSem := numG addG addF
theorem ok61 : FnOk Try.prog 61 F61 := addF_ok Try.func61 (by kernel_rfl) (by kernel_rfl) (by kernel_rfl) (by kernel_rfl)
noncomputable def L61 := ((61, F61) : Nat × FnSem) :: L62
noncomputable def N61 : List Nat := 61 :: N62
theorem good61 : Callees Try.prog L61 [] N61 := good62.cons_num ok61 (numG_num _ _)
/-! bits_Neg -/
def bits_Neg (v w : Int) : Bool := bif bits_Is w then band .u64 (ishr .u64 v (8 * w - 1)) 1 == 1 else false
noncomputable def G48 : List TV → Option (List TV) | [.c (Cell.int .u64 v), .c (Cell.int .i64 w)] => some [.c (Cell.bool (bits_Neg v w))] | _ => none
noncomputable def F48 : FnSem := numF G48
noncomputable def C48 : Ctx := { P := Try.prog, own := [], fns := L61, nt := 16, nums := N61, live := [] }
theorem e48 : ∀ (R : Type) (v w : Int) (H : Heap) (K : AV → Heap → Option R) (lp : Code → St → (AExit → St → Option R) → Option R), fnL C48 lp Try.f48.results.toList (bodyOf Try.f48) [TV.c (Cell.int IntKind.u64 v), TV.c (Cell.int IntKind.i64 w)] H K = bif bits_Is w then bif decide (IntKind.i64.wrap (IntKind.i64.wrap (8 * w) - 1) < 0) then none else K (AV.c (Cell.bool (band IntKind.u64 (ishr IntKind.u64 v (IntKind.i64.wrap (IntKind.i64.wrap (8 * w) - 1))) 1 == 1))) H else K (AV.c (Cell.bool false)) H := by intros; kernel_rfl
theorem s48 (R : Type) (v : Int) (w : Int) (H : Heap) (K : AV → Heap → Option R) (lp : Code → St → (AExit → St → Option R) → Option R) : fnL C48 lp Try.f48.results.toList (bodyOf Try.f48) [.c (Cell.int .u64 v), .c (Cell.int .i64 w)] H K = K (oneOf [.c (Cell.bool (bits_Neg v w))]) H := by
  rw [e48]
  cases h : bits_Is w
  · unfold bits_Neg; rw [h]; rfl
  · rcases is_w h with rfl | rfl | rfl | rfl <;> kernel_rfl
theorem ok48 : FnOk Try.prog 48 F48 := by
  refine fn_ok (C := C48) (good61.env rfl) (good61.ctx rfl rfl rfl) (by kernel_rfl) Try.func48 (c := bodyOf Try.f48) (by kernel_rfl) (by kernel_rfl) (Nat.le_of_eq Try.ntmps48.symm) ?_
  intro R args H K r h
  unfold F48 numF G48 at h
  split at h
  · rw [fnA_eq, s48]; exact h
  · cases h
noncomputable def L48 := ((48, F48) : Nat × FnSem) :: L61
noncomputable def N48 : List Nat := 48 :: N61
theorem good48 : Callees Try.prog L48 [] N48 := good61.cons_num ok48 (numF_num _)
/-! bits_Sum -/
def bits_Sum (a b : Int) (i : Bool) (w : Int) : Int × Bool × Bool :=
  bif bits_Is w then
    (bits_Zx ((bits_Zx a w + bits_Zx b w + bits_one i) % 18446744073709551616) w,
      (bits_Zx a w + bits_Zx b w + bits_one i) / 18446744073709551616 == 1 || !((bits_Zx a w + bits_Zx b w + bits_one i) % 18446744073709551616 == bits_Zx ((bits_Zx a w + bits_Zx b w + bits_one i) % 18446744073709551616) w),
      bits_Neg (band .u64 (bxor .u64 (bits_Zx a w) (bits_Zx ((bits_Zx a w + bits_Zx b w + bits_one i) % 18446744073709551616) w)) (bxor .u64 (bits_Zx b w) (bits_Zx ((bits_Zx a w + bits_Zx b w + bits_one i) % 18446744073709551616) w))) w)
  else (0, false, false)
noncomputable def G37 : List TV → Option (List TV) | [.c (Cell.int .u64 a), .c (Cell.int .u64 b), .c (Cell.bool x2), .c (Cell.int .i64 w)] => let r := bits_Sum a b x2 w; some [.c (Cell.int .u64 r.1), .c (Cell.bool r.2.1), .c (Cell.bool r.2.2)] | _ => none
noncomputable def F37 : FnSem := numF G37
noncomputable def C37 : Ctx := { P := Try.prog, own := [], fns := L48, nt := 53, nums := N48, live := [] }
theorem e37 : ∀ (R : Type) (a b : Int) (x2 : Bool) (w : Int) (H : Heap) (K : AV → Heap → Option R) (lp : Code → St → (AExit → St → Option R) → Option R), fnL C37 lp Try.f37.results.toList (bodyOf Try.f37) [TV.c (Cell.int IntKind.u64 a), TV.c (Cell.int IntKind.u64 b), TV.c (Cell.bool x2), TV.c (Cell.int IntKind.i64 w)] H K = bif !bits_Is w then K (AV.tup [TV.c (Cell.int IntKind.u64 0), TV.c (Cell.bool false), TV.c (Cell.bool false)]) H else bif decide (0 ≤ bits_Zx a w ∧ 0 ≤ bits_Zx b w ∧ 0 ≤ bits_one x2 ∧ bits_one x2 ≤ 1) then bif (bits_Zx a w + bits_Zx b w + bits_one x2) / 18446744073709551616 == 1 then K (AV.tup [TV.c (Cell.int IntKind.u64 (bits_Zx ((bits_Zx a w + bits_Zx b w + bits_one x2) % 18446744073709551616) w)), TV.c (Cell.bool true), TV.c (Cell.bool (bits_Neg (band IntKind.u64 (bxor IntKind.u64 (bits_Zx a w) (bits_Zx ((bits_Zx a w + bits_Zx b w + bits_one x2) % 18446744073709551616) w)) (bxor IntKind.u64 (bits_Zx b w) (bits_Zx ((bits_Zx a w + bits_Zx b w + bits_one x2) % 18446744073709551616) w))) w))]) H else K (AV.tup [TV.c (Cell.int IntKind.u64 (bits_Zx ((bits_Zx a w + bits_Zx b w + bits_one x2) % 18446744073709551616) w)), TV.c (Cell.bool ((bits_Zx a w + bits_Zx b w + bits_one x2) % 18446744073709551616 != bits_Zx ((bits_Zx a w + bits_Zx b w + bits_one x2) % 18446744073709551616) w)), TV.c (Cell.bool (bits_Neg (band IntKind.u64 (bxor IntKind.u64 (bits_Zx a w) (bits_Zx ((bits_Zx a w + bits_Zx b w + bits_one x2) % 18446744073709551616) w)) (bxor IntKind.u64 (bits_Zx b w) (bits_Zx ((bits_Zx a w + bits_Zx b w + bits_one x2) % 18446744073709551616) w))) w))]) H else none := by intros; kernel_rfl
theorem s37 (R : Type) (a : Int) (b : Int) (x2 : Bool) (w : Int) (H : Heap) (K : AV → Heap → Option R) (lp : Code → St → (AExit → St → Option R) → Option R) : fnL C37 lp Try.f37.results.toList (bodyOf Try.f37) [.c (Cell.int .u64 a), .c (Cell.int .u64 b), .c (Cell.bool x2), .c (Cell.int .i64 w)] H K = K (oneOf [.c (Cell.int .u64 (bits_Sum a b x2 w).1), .c (Cell.bool (bits_Sum a b x2 w).2.1), .c (Cell.bool (bits_Sum a b x2 w).2.2)]) H := by
  rw [e37]
  unfold bits_Sum
  cases hw : bits_Is w
  · rfl
  · have g : decide (0 ≤ bits_Zx a w ∧ 0 ≤ bits_Zx b w ∧ 0 ≤ bits_one x2 ∧ bits_one x2 ≤ 1) = true := decide_eq_true ⟨zx_nonneg _ _, zx_nonneg _ _, one_range _⟩
    rw [g]
    cases (((bits_Zx a w + bits_Zx b w + bits_one x2) / 18446744073709551616) == 1) <;> rfl
theorem ok37 : FnOk Try.prog 37 F37 := by
  refine fn_ok (C := C37) (good48.env rfl) (good48.ctx rfl rfl rfl) (by kernel_rfl) Try.func37 (c := bodyOf Try.f37) (by kernel_rfl) (by kernel_rfl) (Nat.le_of_eq Try.ntmps37.symm) ?_
  intro R args H K r h
  unfold F37 numF G37 at h
  split at h
  · rw [fnA_eq, s37]; exact h
  · cases h
noncomputable def L37 := ((37, F37) : Nat × FnSem) :: L48
noncomputable def N37 : List Nat := 37 :: N48
theorem good37 : Callees Try.prog L37 [] N37 := good48.cons_num ok37 (numF_num _)
/-! bits_Sx -/
def bits_Sx (v w : Int) : Int := bif bits_Is w then IntKind.u64.wrap (ishr .i64 (IntKind.i64.wrap (ishl .u64 v (64 - 8 * w))) (64 - 8 * w)) else 0
noncomputable def G23 : List TV → Option (List TV) | [.c (Cell.int .u64 v), .c (Cell.int .i64 w)] => some [.c (Cell.int .u64 (bits_Sx v w))] | _ => none
noncomputable def F23 : FnSem := numF G23
noncomputable def C23 : Ctx := { P := Try.prog, own := [], fns := L37, nt := 19, nums := N37, live := [] }
theorem e23 : ∀ (R : Type) (v w : Int) (H : Heap) (K : AV → Heap → Option R) (lp : Code → St → (AExit → St → Option R) → Option R), fnL C23 lp Try.f23.results.toList (bodyOf Try.f23) [TV.c (Cell.int IntKind.u64 v), TV.c (Cell.int IntKind.i64 w)] H K = bif !bits_Is w then K (AV.c (Cell.int IntKind.u64 0)) H else bif decide (IntKind.i64.wrap (64 - IntKind.i64.wrap (8 * w)) < 0) then none else bif decide (IntKind.i64.wrap (64 - IntKind.i64.wrap (8 * w)) < 0) then none else K (AV.c (Cell.int IntKind.u64 (IntKind.u64.wrap (ishr IntKind.i64 (IntKind.i64.wrap (ishl IntKind.u64 v (IntKind.i64.wrap (64 - IntKind.i64.wrap (8 * w))))) (IntKind.i64.wrap (64 - IntKind.i64.wrap (8 * w))))))) H := by intros; kernel_rfl
theorem s23 (R : Type) (v : Int) (w : Int) (H : Heap) (K : AV → Heap → Option R) (lp : Code → St → (AExit → St → Option R) → Option R) : fnL C23 lp Try.f23.results.toList (bodyOf Try.f23) [.c (Cell.int .u64 v), .c (Cell.int .i64 w)] H K = K (oneOf [.c (Cell.int .u64 (bits_Sx v w))]) H := by
  rw [e23]
  cases h : bits_Is w
  · unfold bits_Sx; rw [h]; rfl
  · rcases is_w h with rfl | rfl | rfl | rfl <;> kernel_rfl
theorem ok23 : FnOk Try.prog 23 F23 := by
  refine fn_ok (C := C23) (good37.env rfl) (good37.ctx rfl rfl rfl) (by kernel_rfl) Try.func23 (c := bodyOf Try.f23) (by kernel_rfl) (by kernel_rfl) (Nat.le_of_eq Try.ntmps23.symm) ?_
  intro R args H K r h
  unfold F23 numF G23 at h
  split at h
  · rw [fnA_eq, s23]; exact h
  · cases h
noncomputable def L23 := ((23, F23) : Nat × FnSem) :: L37
noncomputable def N23 : List Nat := 23 :: N37
theorem good23 : Callees Try.prog L23 [] N23 := good37.cons_num ok23 (numF_num _)
/-! xflag_of -/
def xflag_of (r : Int) (c o : Bool) (w : Int) : Int × Bool × Bool × Int := (bits_Zx r w, c, o, bits_Sx r w)
noncomputable def G38 : List TV → Option (List TV) | [.c (Cell.int .u64 r), .c (Cell.bool c), .c (Cell.bool o), .c (Cell.int .i64 w)] => let r := xflag_of r c o w; some [.c (Cell.int .u64 r.1), .agg [Cell.bool r.2.1, Cell.bool r.2.2.1, Cell.int .u64 r.2.2.2]] | _ => none
noncomputable def F38 : FnSem := numF G38
noncomputable def C38 : Ctx := { P := Try.prog, own := [9], fns := L23, nt := 19, nums := N23, live := [] }
theorem e38 : ∀ (R : Type) (r : Int) (c o : Bool) (w : Int) (H : Heap) (K : AV → Heap → Option R) (lp : Code → St → (AExit → St → Option R) → Option R), fnL C38 lp Try.f38.results.toList (bodyOf Try.f38) [TV.c (Cell.int IntKind.u64 r), TV.c (Cell.bool c), TV.c (Cell.bool o), TV.c (Cell.int IntKind.i64 w)] H K = K (AV.tup [TV.c (Cell.int IntKind.u64 (bits_Zx r w)), TV.agg [Cell.bool c, Cell.bool o, Cell.int IntKind.u64 (bits_Sx r w)]]) H := by intros; kernel_rfl
theorem s38 (R : Type) (r : Int) (c : Bool) (o : Bool) (w : Int) (H : Heap) (K : AV → Heap → Option R) (lp : Code → St → (AExit → St → Option R) → Option R) : fnL C38 lp Try.f38.results.toList (bodyOf Try.f38) [.c (Cell.int .u64 r), .c (Cell.bool c), .c (Cell.bool o), .c (Cell.int .i64 w)] H K = K (oneOf [.c (Cell.int .u64 (xflag_of r c o w).1), .agg [Cell.bool (xflag_of r c o w).2.1, Cell.bool (xflag_of r c o w).2.2.1, Cell.int .u64 (xflag_of r c o w).2.2.2]]) H := by
  rw [e38]
  rfl
theorem ok38 : FnOk Try.prog 38 F38 := by
  refine fn_ok (C := C38) (good23.env rfl) (good23.ctx rfl rfl rfl) (by kernel_rfl) Try.func38 (c := bodyOf Try.f38) (by kernel_rfl) (by kernel_rfl) (Nat.le_of_eq Try.ntmps38.symm) ?_
  intro R args H K r h
  unfold F38 numF G38 at h
  split at h
  · rw [fnA_eq, s38]; exact h
  · cases h
noncomputable def L38 := ((38, F38) : Nat × FnSem) :: L23
noncomputable def N38 : List Nat := 38 :: N23
theorem good38 : Callees Try.prog L38 [] N38 := good23.cons_num ok38 (numF_num _)
/-! mbits_Sub64 -/
noncomputable def F63 : FnSem := numG subG subF
theorem ok63 : FnOk Try.prog 63 F63 := subF_ok Try.func63 (by kernel_rfl) (by kernel_rfl) (by kernel_rfl) (by kernel_rfl)
noncomputable def L63 := ((63, F63) : Nat × FnSem) :: L38
noncomputable def N63 : List Nat := 63 :: N38
theorem good63 : Callees Try.prog L63 [] N63 := good38.cons_num ok63 (numG_num _ _)
/-! bits_Less -/
def bits_Less (a b : Int) (i : Bool) (w : Int) : Int × Bool × Bool :=
  bif bits_Is w then
    (bits_Zx ((bits_Zx a w + 18446744073709551616 - bits_Zx b w - bits_one i) % 18446744073709551616) w, decide (bits_Zx a w < bits_Zx b w + bits_one i),
      bits_Neg (band .u64 (bxor .u64 (bits_Zx a w) (bits_Zx b w)) (bxor .u64 (bits_Zx a w) (bits_Zx ((bits_Zx a w + 18446744073709551616 - bits_Zx b w - bits_one i) % 18446744073709551616) w))) w)
  else (0, false, false)
noncomputable def G39 : List TV → Option (List TV) | [.c (Cell.int .u64 a), .c (Cell.int .u64 b), .c (Cell.bool x2), .c (Cell.int .i64 w)] => let r := bits_Less a b x2 w; some [.c (Cell.int .u64 r.1), .c (Cell.bool r.2.1), .c (Cell.bool r.2.2)] | _ => none
noncomputable def F39 : FnSem := numF G39
noncomputable def C39 : Ctx := { P := Try.prog, own := [], fns := L63, nt := 46, nums := N63, live := [] }
theorem e39 : ∀ (R : Type) (a b : Int) (x2 : Bool) (w : Int) (H : Heap) (K : AV → Heap → Option R) (lp : Code → St → (AExit → St → Option R) → Option R), fnL C39 lp Try.f39.results.toList (bodyOf Try.f39) [TV.c (Cell.int IntKind.u64 a), TV.c (Cell.int IntKind.u64 b), TV.c (Cell.bool x2), TV.c (Cell.int IntKind.i64 w)] H K = bif !bits_Is w then K (AV.tup [TV.c (Cell.int IntKind.u64 0), TV.c (Cell.bool false), TV.c (Cell.bool false)]) H else bif decide (0 ≤ bits_Zx a w ∧ bits_Zx a w < 18446744073709551616 ∧ 0 ≤ bits_Zx b w ∧ bits_Zx b w < 18446744073709551616 ∧ 0 ≤ bits_one x2 ∧ bits_one x2 ≤ 1) then K (AV.tup [TV.c (Cell.int IntKind.u64 (bits_Zx ((bits_Zx a w + 18446744073709551616 - bits_Zx b w - bits_one x2) % 18446744073709551616) w)), TV.c (Cell.bool (borrow (bits_Zx a w) (bits_Zx b w) (bits_one x2) == 1)), TV.c (Cell.bool (bits_Neg (band IntKind.u64 (bxor IntKind.u64 (bits_Zx a w) (bits_Zx b w)) (bxor IntKind.u64 (bits_Zx a w) (bits_Zx ((bits_Zx a w + 18446744073709551616 - bits_Zx b w - bits_one x2) % 18446744073709551616) w))) w))]) H else none := by intros; kernel_rfl
theorem s39 (R : Type) (a : Int) (b : Int) (x2 : Bool) (w : Int) (H : Heap) (K : AV → Heap → Option R) (lp : Code → St → (AExit → St → Option R) → Option R) : fnL C39 lp Try.f39.results.toList (bodyOf Try.f39) [.c (Cell.int .u64 a), .c (Cell.int .u64 b), .c (Cell.bool x2), .c (Cell.int .i64 w)] H K = K (oneOf [.c (Cell.int .u64 (bits_Less a b x2 w).1), .c (Cell.bool (bits_Less a b x2 w).2.1), .c (Cell.bool (bits_Less a b x2 w).2.2)]) H := by
  rw [e39]
  unfold bits_Less
  cases hw : bits_Is w
  · rfl
  · have g : decide (0 ≤ bits_Zx a w ∧ bits_Zx a w < 18446744073709551616 ∧ 0 ≤ bits_Zx b w ∧ bits_Zx b w < 18446744073709551616 ∧ 0 ≤ bits_one x2 ∧ bits_one x2 ≤ 1) = true := decide_eq_true ⟨zx_nonneg _ _, zx_lt _ _, zx_nonneg _ _, zx_lt _ _, one_range _⟩
    rw [g]
    unfold borrow
    cases decide (bits_Zx a w < bits_Zx b w + bits_one x2) <;> rfl
theorem ok39 : FnOk Try.prog 39 F39 := by
  refine fn_ok (C := C39) (good63.env rfl) (good63.ctx rfl rfl rfl) (by kernel_rfl) Try.func39 (c := bodyOf Try.f39) (by kernel_rfl) (by kernel_rfl) (Nat.le_of_eq Try.ntmps39.symm) ?_
  intro R args H K r h
  unfold F39 numF G39 at h
  split at h
  · rw [fnA_eq, s39]; exact h
  · cases h
noncomputable def L39 := ((39, F39) : Nat × FnSem) :: L63
noncomputable def N39 : List Nat := 39 :: N63
theorem good39 : Callees Try.prog L39 [] N39 := good63.cons_num ok39 (numF_num _)
