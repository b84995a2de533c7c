/- What operations make of numbers and flags: the program's functions of layers 1 and 8. -/
import Derived.Test.YtnipccoenalnkaaGreatSmZ
import Derived.Test.YtnipccoenalnkaaGreatTy
import Derived.KernelRfl
namespace Go.Proofs.YtnipccoenalnkaaGreat
open Go Go.Proofs.YtnipccoenalnkaaGreat.Ab
set_option linter.unusedVariables false
set_option linter.unusedSimpArgs false
set_option maxRecDepth 100000
noncomputable section
def bits_Mask (w : Int) : Int := bif isW8 w then 2 ^ (8 * w.toNat) - 1 else 0
def bits_Zx (v w : Int) : Int := bif isW8 w then v % 2 ^ (8 * w.toNat) else 0
theorem n105 (w : Int) (H : Heap) : f105 w H = some (isW8 w, H) := f105_x w H
theorem n107 (w : Int) (H : Heap) : f107 w H = some (bits_Mask w, H) := by
  rw [q107, n105, Ab.bs]
  unfold bits_Mask
  cases h : isW8 w
  · rfl
  · rcases isW8_w h with rfl | rfl | rfl | rfl <;> kernel_rfl
theorem n60 (v w : Int) (H : Heap) : f60 v w H = some (bits_Zx v w, H) := by
  have : band .u64 v (bits_Mask w) = bits_Zx v w := by
    unfold bits_Zx bits_Mask
    cases h : isW8 w
    · exact band_zero v
    · exact band_mask v (by rcases isW8_w h with rfl | rfl | rfl | rfl <;> decide)
  rw [q60, n107, Ab.bs, this]
theorem zx_nonneg (v w : Int) : 0 ≤ bits_Zx v w := by
  unfold bits_Zx
  cases h : isW8 w
  · exact Int.le_refl _
  · exact Int.emod_nonneg _ (by have := Int.pow_pos (n := 2) (m := 8 * w.toNat) (by decide); omega)
theorem zx_lt (v w : Int) : bits_Zx v w < 18446744073709551616 := by
  unfold bits_Zx
  cases h : isW8 w
  · show (0 : Int) < 18446744073709551616; decide
  · rcases isW8_w h with rfl | rfl | rfl | rfl <;> simp <;> omega
def G105 : List TV → Option (List TV)
  | [.c (Cell.int .i64 w)] => some [.c (Cell.bool (isW8 w))]
  | _ => none
def G107 : List TV → Option (List TV)
  | [.c (Cell.int .i64 w)] => some [.c (Cell.int .u64 (bits_Mask w))]
  | _ => none
def G60 : List TV → Option (List TV)
  | [.c (Cell.int .u64 v), .c (Cell.int .i64 w)] => some [.c (Cell.int .u64 (bits_Zx v w))]
  | _ => none
theorem okn105 : FnOk Tryz.prog 105 (numF G105) := numS_ok ok105 fun args vs h => by
  unfold G105 at h
  split at h
  · cases h; exact ⟨_, rfl, fun H => n105 _ H⟩
  · cases h
theorem okn107 : FnOk Tryz.prog 107 (numF G107) := numS_ok ok107 fun args vs h => by
  unfold G107 at h
  split at h
  · cases h; exact ⟨_, rfl, fun H => n107 _ H⟩
  · cases h
theorem okn60 : FnOk Tryz.prog 60 (numF G60) := numS_ok ok60 fun args vs h => by
  unfold G60 at h
  split at h
  · cases h; exact ⟨_, rfl, fun H => n60 _ _ H⟩
  · cases h
noncomputable def k105 : SF Tryz.prog := SF.nums (g := 105) (F := numF G105) (id okn105) (numF_num _)
noncomputable def k107 : SF Tryz.prog := SF.nums (g := 107) (F := numF G107) (id okn107) (numF_num _)
noncomputable def k60 : SF Tryz.prog := SF.nums (g := 60) (F := numF G60) (id okn60) (numF_num _)
/-! 162: bits_one -/
def bits_one (b : Bool) : Int := bif b then 1 else 0
theorem one_range (b : Bool) : 0 ≤ bits_one b ∧ bits_one b ≤ 1 := by cases b <;> decide
noncomputable def CC162 : Ctx := mkC (P := Tryz.prog) [] [] 4 []
noncomputable def f162 : Bool → Heap → Option (Int × Heap) := hide (mkF CC162 Tryz.f162 [boS] [u64S])
theorem h162 : IsF CC162 Tryz.f162 [boS] [u64S] f162 := hide_eq _
theorem q162 : ∀ (b : Bool) (H : Heap), f162 b H = bif b then some (1, H) else some (0, H) := by intros; exact (congrFun (qF h162 (mkC_nat _ _ _ _) _) _).trans (by kernel_rfl)
theorem n162 : ∀ (b : Bool) (H : Heap), f162 b H = some (bits_one b, H) := by
  intro b H
  rw [q162]
  cases b <;> rfl
noncomputable def k162 : SF Tryz.prog := SF.nums (g := 162) (F := numF (appN [boS] [u64S] bits_one)) (numN_ok (mkF_ok (C := CC162) rfl Tryz.func162 h162 Tryz.ntmps162.symm) n162) (numF_num _)
/-! 161: mbits_Add64 -/
noncomputable def k161 : SF Tryz.prog := SF.nums (g := 161) (F := numG addG addF) (addF_ok Tryz.func161 (by kernel_rfl) (by kernel_rfl) (by kernel_rfl) (by kernel_rfl)) (numG_num _ _)
/-! 130: bits_Neg -/
def bits_Neg (v w : Int) : Bool := bif isW8 w then band .u64 (ishr .u64 v (8 * w - 1)) 1 == 1 else false
noncomputable def CC130 : Ctx := mkC (P := Tryz.prog) [k105] [] 16 []
noncomputable def f130 : Int → Int → Heap → Option (Bool × Heap) := hide (mkF CC130 Tryz.f130 [u64S, i64S] [boS])
theorem h130 : IsF CC130 Tryz.f130 [u64S, i64S] [boS] f130 := hide_eq _
theorem q130 : ∀ (v w : Int) (H : Heap), f130 v w H = bif isW8 w then bif decide (IntKind.i64.wrap (IntKind.i64.wrap (8 * w) - 1) < 0) then none else some (band IntKind.u64 (ishr IntKind.u64 v (IntKind.i64.wrap (IntKind.i64.wrap (8 * w) - 1))) 1 == 1, H) else some (false, H) := by intros; exact (congrFun (qF h130 (mkC_nat _ _ _ _) _ _) _).trans (by kernel_rfl)
theorem n130 : ∀ (v w : Int) (H : Heap), f130 v w H = some (bits_Neg v w, H) := by
  intro v w H
  rw [q130]
  cases h : isW8 w
  · unfold bits_Neg; rw [h]; rfl
  · rcases isW8_w h with rfl | rfl | rfl | rfl <;> kernel_rfl
noncomputable def k130 : SF Tryz.prog := SF.nums (g := 130) (F := numF (appN [u64S, i64S] [boS] bits_Neg)) (numN_ok (mkF_ok (C := CC130) rfl Tryz.func130 h130 Tryz.ntmps130.symm) n130) (numF_num _)
/-! 114: bits_Sum -/
def bits_Sum (a b : Int) (i : Bool) (w : Int) : Int × Bool × Bool :=
  bif isW8 w then
    (bits_Zx ((bits_Zx a w + bits_Zx b w + bits_one i) % 18446744073709551616) w,
      (bits_Zx a w + bits_Zx b w + bits_one i) / 18446744073709551616 == 1 || !((bits_Zx a w + bits_Zx b w + bits_one i) % 18446744073709551616 == bits_Zx ((bits_Zx a w + bits_Zx b w + bits_one i) % 18446744073709551616) w),
      bits_Neg (band .u64 (bxor .u64 (bits_Zx a w) (bits_Zx ((bits_Zx a w + bits_Zx b w + bits_one i) % 18446744073709551616) w)) (bxor .u64 (bits_Zx b w) (bits_Zx ((bits_Zx a w + bits_Zx b w + bits_one i) % 18446744073709551616) w))) w)
  else (0, false, false)
noncomputable def CC114 : Ctx := mkC (P := Tryz.prog) [k105, k60, k162, k161, k130] [] 53 []
noncomputable def f114 : Int → Int → Bool → Int → Heap → Option ((Int × Bool × Bool) × Heap) := hide (mkF CC114 Tryz.f114 [u64S, u64S, boS, i64S] [u64S, boS, boS])
theorem h114 : IsF CC114 Tryz.f114 [u64S, u64S, boS, i64S] [u64S, boS, boS] f114 := hide_eq _
theorem q114 : ∀ (a b : Int) (x2 : Bool) (w : Int) (H : Heap), f114 a b x2 w H = bif !isW8 w then some ((0, false, false), H) else bif decide (0 ≤ bits_Zx a w ∧ 0 ≤ bits_Zx b w ∧ 0 ≤ bits_one x2 ∧ bits_one x2 ≤ 1) then bif (bits_Zx a w + bits_Zx b w + bits_one x2) / 18446744073709551616 == 1 then some ((bits_Zx ((bits_Zx a w + bits_Zx b w + bits_one x2) % 18446744073709551616) w, true, bits_Neg (band IntKind.u64 (bxor IntKind.u64 (bits_Zx a w) (bits_Zx ((bits_Zx a w + bits_Zx b w + bits_one x2) % 18446744073709551616) w)) (bxor IntKind.u64 (bits_Zx b w) (bits_Zx ((bits_Zx a w + bits_Zx b w + bits_one x2) % 18446744073709551616) w))) w), H) else some ((bits_Zx ((bits_Zx a w + bits_Zx b w + bits_one x2) % 18446744073709551616) w, (bits_Zx a w + bits_Zx b w + bits_one x2) % 18446744073709551616 != bits_Zx ((bits_Zx a w + bits_Zx b w + bits_one x2) % 18446744073709551616) w, bits_Neg (band IntKind.u64 (bxor IntKind.u64 (bits_Zx a w) (bits_Zx ((bits_Zx a w + bits_Zx b w + bits_one x2) % 18446744073709551616) w)) (bxor IntKind.u64 (bits_Zx b w) (bits_Zx ((bits_Zx a w + bits_Zx b w + bits_one x2) % 18446744073709551616) w))) w), H) else none := by intros; exact (congrFun (qF h114 (mkC_nat _ _ _ _) _ _ _ _) _).trans (by kernel_rfl)
theorem n114 : ∀ (a b : Int) (x2 : Bool) (w : Int) (H : Heap), f114 a b x2 w H = some (bits_Sum a b x2 w, H) := by
  intro a b x2 w H
  rw [q114]
  unfold bits_Sum
  cases hw : isW8 w
  · rfl
  · have g : decide (0 ≤ bits_Zx a w ∧ 0 ≤ bits_Zx b w ∧ 0 ≤ bits_one x2 ∧ bits_one x2 ≤ 1) = true := decide_eq_true ⟨zx_nonneg _ _, zx_nonneg _ _, one_range _⟩
    rw [g]
    cases (((bits_Zx a w + bits_Zx b w + bits_one x2) / 18446744073709551616) == 1) <;> rfl
noncomputable def k114 : SF Tryz.prog := SF.nums (g := 114) (F := numF (appN [u64S, u64S, boS, i64S] [u64S, boS, boS] bits_Sum)) (numN_ok (mkF_ok (C := CC114) rfl Tryz.func114 h114 Tryz.ntmps114.symm) n114) (numF_num _)
/-! 121: bits_Sx -/
def bits_Sx (v w : Int) : Int := bif isW8 w then IntKind.u64.wrap (ishr .i64 (IntKind.i64.wrap (ishl .u64 v (64 - 8 * w))) (64 - 8 * w)) else 0
noncomputable def CC121 : Ctx := mkC (P := Tryz.prog) [k105] [] 19 []
noncomputable def f121 : Int → Int → Heap → Option (Int × Heap) := hide (mkF CC121 Tryz.f121 [u64S, i64S] [u64S])
theorem h121 : IsF CC121 Tryz.f121 [u64S, i64S] [u64S] f121 := hide_eq _
theorem q121 : ∀ (v w : Int) (H : Heap), f121 v w H = bif !isW8 w then some (0, H) else bif decide (IntKind.i64.wrap (64 - IntKind.i64.wrap (8 * w)) < 0) then none else bif decide (IntKind.i64.wrap (64 - IntKind.i64.wrap (8 * w)) < 0) then none else some (IntKind.u64.wrap (ishr IntKind.i64 (IntKind.i64.wrap (ishl IntKind.u64 v (IntKind.i64.wrap (64 - IntKind.i64.wrap (8 * w))))) (IntKind.i64.wrap (64 - IntKind.i64.wrap (8 * w)))), H) := by intros; exact (congrFun (qF h121 (mkC_nat _ _ _ _) _ _) _).trans (by kernel_rfl)
theorem n121 : ∀ (v w : Int) (H : Heap), f121 v w H = some (bits_Sx v w, H) := by
  intro v w H
  rw [q121]
  cases h : isW8 w
  · unfold bits_Sx; rw [h]; rfl
  · rcases isW8_w h with rfl | rfl | rfl | rfl <;> kernel_rfl
noncomputable def k121 : SF Tryz.prog := SF.nums (g := 121) (F := numF (appN [u64S, i64S] [u64S] bits_Sx)) (numN_ok (mkF_ok (C := CC121) rfl Tryz.func121 h121 Tryz.ntmps121.symm) n121) (numF_num _)
/-! 115: xflag_of -/
def xflag_of (r : Int) (c o : Bool) (w : Int) : Int × TThunk := (bits_Zx r w, ⟨c, o, bits_Sx r w⟩)
noncomputable def CC115 : Ctx := mkC (P := Tryz.prog) [k60, k121] [9] 19 []
noncomputable def f115 : Int → Bool → Bool → Int → Heap → Option ((Int × TThunk) × Heap) := hide (mkF CC115 Tryz.f115 [u64S, boS, boS, i64S] [u64S, .g _ cThunk])
theorem h115 : IsF CC115 Tryz.f115 [u64S, boS, boS, i64S] [u64S, .g _ cThunk] f115 := hide_eq _
theorem q115 : ∀ (r : Int) (c o : Bool) (w : Int) (H : Heap), f115 r c o w H = some ((bits_Zx r w, TThunk.mk c o (bits_Sx r w)), H) := by intros; exact (congrFun (qF h115 (mkC_nat _ _ _ _) _ _ _ _) _).trans (by kernel_rfl)
theorem n115 : ∀ (r : Int) (c o : Bool) (w : Int) (H : Heap), f115 r c o w H = some (xflag_of r c o w, H) := by
  intro r c o w H
  rw [q115]
  rfl
noncomputable def k115 : SF Tryz.prog := SF.nums (g := 115) (F := numF (appN [u64S, boS, boS, i64S] [u64S, .g _ cThunk] xflag_of)) (numN_ok (mkF_ok (C := CC115) rfl Tryz.func115 h115 Tryz.ntmps115.symm) n115) (numF_num _)
/-! 163: mbits_Sub64 -/
noncomputable def k163 : SF Tryz.prog := SF.nums (g := 163) (F := numG subG subF) (subF_ok Tryz.func163 (by kernel_rfl) (by kernel_rfl) (by kernel_rfl) (by kernel_rfl)) (numG_num _ _)
/-! 116: bits_Less -/
def bits_Less (a b : Int) (i : Bool) (w : Int) : Int × Bool × Bool :=
  bif isW8 w then
    (bits_Zx ((bits_Zx a w + 18446744073709551616 - bits_Zx b w - bits_one i) % 18446744073709551616) w, decide (bits_Zx a w < bits_Zx b w + bits_one i),
      bits_Neg (band .u64 (bxor .u64 (bits_Zx a w) (bits_Zx b w)) (bxor .u64 (bits_Zx a w) (bits_Zx ((bits_Zx a w + 18446744073709551616 - bits_Zx b w - bits_one i) % 18446744073709551616) w))) w)
  else (0, false, false)
noncomputable def CC116 : Ctx := mkC (P := Tryz.prog) [k105, k60, k162, k163, k130] [] 46 []
noncomputable def f116 : Int → Int → Bool → Int → Heap → Option ((Int × Bool × Bool) × Heap) := hide (mkF CC116 Tryz.f116 [u64S, u64S, boS, i64S] [u64S, boS, boS])
theorem h116 : IsF CC116 Tryz.f116 [u64S, u64S, boS, i64S] [u64S, boS, boS] f116 := hide_eq _
theorem q116 : ∀ (a b : Int) (x2 : Bool) (w : Int) (H : Heap), f116 a b x2 w H = bif !isW8 w then some ((0, false, false), H) else bif decide (0 ≤ bits_Zx a w ∧ bits_Zx a w < 18446744073709551616 ∧ 0 ≤ bits_Zx b w ∧ bits_Zx b w < 18446744073709551616 ∧ 0 ≤ bits_one x2 ∧ bits_one x2 ≤ 1) then some ((bits_Zx ((bits_Zx a w + 18446744073709551616 - bits_Zx b w - bits_one x2) % 18446744073709551616) w, borrow (bits_Zx a w) (bits_Zx b w) (bits_one x2) == 1, bits_Neg (band IntKind.u64 (bxor IntKind.u64 (bits_Zx a w) (bits_Zx b w)) (bxor IntKind.u64 (bits_Zx a w) (bits_Zx ((bits_Zx a w + 18446744073709551616 - bits_Zx b w - bits_one x2) % 18446744073709551616) w))) w), H) else none := by intros; exact (congrFun (qF h116 (mkC_nat _ _ _ _) _ _ _ _) _).trans (by kernel_rfl)
theorem n116 : ∀ (a b : Int) (x2 : Bool) (w : Int) (H : Heap), f116 a b x2 w H = some (bits_Less a b x2 w, H) := by
  intro a b x2 w H
  rw [q116]
  unfold bits_Less
  cases hw : isW8 w
  · rfl
  · have g : decide (0 ≤ bits_Zx a w ∧ bits_Zx a w < 18446744073709551616 ∧ 0 ≤ bits_Zx b w ∧ bits_Zx b w < 18446744073709551616 ∧ 0 ≤ bits_one x2 ∧ bits_one x2 ≤ 1) = true := decide_eq_true ⟨zx_nonneg _ _, zx_lt _ _, zx_nonneg _ _, zx_lt _ _, one_range _⟩
    rw [g]
    unfold borrow
    cases decide (bits_Zx a w < bits_Zx b w + bits_one x2) <;> rfl
noncomputable def k116 : SF Tryz.prog := SF.nums (g := 116) (F := numF (appN [u64S, u64S, boS, i64S] [u64S, boS, boS] bits_Less)) (numN_ok (mkF_ok (C := CC116) rfl Tryz.func116 h116 Tryz.ntmps116.symm) n116) (numF_num _)
/-! 68: xflag_Two -/
def xflag_Two (op a b : Int) (t : TThunk) (w : Int) : Int × TThunk :=
  bif isW8 w then
    bif op == 1 || op == 3 then xflag_of (bits_Sum a b (op == 3 && t.C) w).1 (bits_Sum a b (op == 3 && t.C) w).2.1 (bits_Sum a b (op == 3 && t.C) w).2.2 w
    else bif op == 6 || (op == 4 || op == 8) then xflag_of (bits_Less a b (op == 4 && t.C) w).1 (bits_Less a b (op == 4 && t.C) w).2.1 (bits_Less a b (op == 4 && t.C) w).2.2 w
    else bif op == 5 || op == 9 then xflag_of (band .u64 a b) false false w
    else bif op == 2 then xflag_of (bor .u64 a b) false false w
    else bif op == 7 then xflag_of (bxor .u64 a b) false false w
    else (0, t)
  else (0, t)
noncomputable def CC68 : Ctx := mkC (P := Tryz.prog) [k105, k114, k115, k116] [8, 11] 101 []
noncomputable def f68 : Int → Int → Int → TThunk → Int → Heap → Option ((Int × TThunk) × Heap) := hide (mkF CC68 Tryz.f68 [i64S, u64S, u64S, .g _ cThunk, i64S] [u64S, .g _ cThunk])
theorem h68 : IsF CC68 Tryz.f68 [i64S, u64S, u64S, .g _ cThunk, i64S] [u64S, .g _ cThunk] f68 := hide_eq _
theorem q68 : ∀ (op a b : Int) (t : TThunk) (w : Int) (H : Heap), f68 op a b t w H = bif !isW8 w then some ((0, t), H) else bif op == 1 then bif op == 1 then bif op == 3 then some (((xflag_of (bits_Sum a b t.C w).1 (bits_Sum a b t.C w).2.1 (bits_Sum a b t.C w).2.2 w).1, (xflag_of (bits_Sum a b t.C w).1 (bits_Sum a b t.C w).2.1 (bits_Sum a b t.C w).2.2 w).2), H) else some (((xflag_of (bits_Sum a b false w).1 (bits_Sum a b false w).2.1 (bits_Sum a b false w).2.2 w).1, (xflag_of (bits_Sum a b false w).1 (bits_Sum a b false w).2.1 (bits_Sum a b false w).2.2 w).2), H) else bif op == 6 then bif op == 6 then bif op == 4 then some (((xflag_of (bits_Less a b t.C w).1 (bits_Less a b t.C w).2.1 (bits_Less a b t.C w).2.2 w).1, (xflag_of (bits_Less a b t.C w).1 (bits_Less a b t.C w).2.1 (bits_Less a b t.C w).2.2 w).2), H) else some (((xflag_of (bits_Less a b false w).1 (bits_Less a b false w).2.1 (bits_Less a b false w).2.2 w).1, (xflag_of (bits_Less a b false w).1 (bits_Less a b false w).2.1 (bits_Less a b false w).2.2 w).2), H) else bif op == 5 then bif op == 5 then some (((xflag_of (band IntKind.u64 a b) false false w).1, (xflag_of (band IntKind.u64 a b) false false w).2), H) else bif op == 2 then some (((xflag_of (bor IntKind.u64 a b) false false w).1, (xflag_of (bor IntKind.u64 a b) false false w).2), H) else bif op == 7 then some (((xflag_of (bxor IntKind.u64 a b) false false w).1, (xflag_of (bxor IntKind.u64 a b) false false w).2), H) else some ((0, t), H) else bif op == 9 then some (((xflag_of (band IntKind.u64 a b) false false w).1, (xflag_of (band IntKind.u64 a b) false false w).2), H) else bif op == 2 then some (((xflag_of (bor IntKind.u64 a b) false false w).1, (xflag_of (bor IntKind.u64 a b) false false w).2), H) else bif op == 7 then some (((xflag_of (bxor IntKind.u64 a b) false false w).1, (xflag_of (bxor IntKind.u64 a b) false false w).2), H) else some ((0, t), H) else bif op == 4 then bif op == 4 then bif op == 4 then some (((xflag_of (bits_Less a b t.C w).1 (bits_Less a b t.C w).2.1 (bits_Less a b t.C w).2.2 w).1, (xflag_of (bits_Less a b t.C w).1 (bits_Less a b t.C w).2.1 (bits_Less a b t.C w).2.2 w).2), H) else some (((xflag_of (bits_Less a b false w).1 (bits_Less a b false w).2.1 (bits_Less a b false w).2.2 w).1, (xflag_of (bits_Less a b false w).1 (bits_Less a b false w).2.1 (bits_Less a b false w).2.2 w).2), H) else bif op == 5 then bif op == 5 then some (((xflag_of (band IntKind.u64 a b) false false w).1, (xflag_of (band IntKind.u64 a b) false false w).2), H) else bif op == 2 then some (((xflag_of (bor IntKind.u64 a b) false false w).1, (xflag_of (bor IntKind.u64 a b) false false w).2), H) else bif op == 7 then some (((xflag_of (bxor IntKind.u64 a b) false false w).1, (xflag_of (bxor IntKind.u64 a b) false false w).2), H) else some ((0, t), H) else bif op == 9 then some (((xflag_of (band IntKind.u64 a b) false false w).1, (xflag_of (band IntKind.u64 a b) false false w).2), H) else bif op == 2 then some (((xflag_of (bor IntKind.u64 a b) false false w).1, (xflag_of (bor IntKind.u64 a b) false false w).2), H) else bif op == 7 then some (((xflag_of (bxor IntKind.u64 a b) false false w).1, (xflag_of (bxor IntKind.u64 a b) false false w).2), H) else some ((0, t), H) else bif op == 8 then bif op == 4 then some (((xflag_of (bits_Less a b t.C w).1 (bits_Less a b t.C w).2.1 (bits_Less a b t.C w).2.2 w).1, (xflag_of (bits_Less a b t.C w).1 (bits_Less a b t.C w).2.1 (bits_Less a b t.C w).2.2 w).2), H) else some (((xflag_of (bits_Less a b false w).1 (bits_Less a b false w).2.1 (bits_Less a b false w).2.2 w).1, (xflag_of (bits_Less a b false w).1 (bits_Less a b false w).2.1 (bits_Less a b false w).2.2 w).2), H) else bif op == 5 then bif op == 5 then some (((xflag_of (band IntKind.u64 a b) false false w).1, (xflag_of (band IntKind.u64 a b) false false w).2), H) else bif op == 2 then some (((xflag_of (bor IntKind.u64 a b) false false w).1, (xflag_of (bor IntKind.u64 a b) false false w).2), H) else bif op == 7 then some (((xflag_of (bxor IntKind.u64 a b) false false w).1, (xflag_of (bxor IntKind.u64 a b) false false w).2), H) else some ((0, t), H) else bif op == 9 then some (((xflag_of (band IntKind.u64 a b) false false w).1, (xflag_of (band IntKind.u64 a b) false false w).2), H) else bif op == 2 then some (((xflag_of (bor IntKind.u64 a b) false false w).1, (xflag_of (bor IntKind.u64 a b) false false w).2), H) else bif op == 7 then some (((xflag_of (bxor IntKind.u64 a b) false false w).1, (xflag_of (bxor IntKind.u64 a b) false false w).2), H) else some ((0, t), H) else bif op == 3 then bif op == 3 then some (((xflag_of (bits_Sum a b t.C w).1 (bits_Sum a b t.C w).2.1 (bits_Sum a b t.C w).2.2 w).1, (xflag_of (bits_Sum a b t.C w).1 (bits_Sum a b t.C w).2.1 (bits_Sum a b t.C w).2.2 w).2), H) else some (((xflag_of (bits_Sum a b false w).1 (bits_Sum a b false w).2.1 (bits_Sum a b false w).2.2 w).1, (xflag_of (bits_Sum a b false w).1 (bits_Sum a b false w).2.1 (bits_Sum a b false w).2.2 w).2), H) else bif op == 6 then bif op == 6 then bif op == 4 then some (((xflag_of (bits_Less a b t.C w).1 (bits_Less a b t.C w).2.1 (bits_Less a b t.C w).2.2 w).1, (xflag_of (bits_Less a b t.C w).1 (bits_Less a b t.C w).2.1 (bits_Less a b t.C w).2.2 w).2), H) else some (((xflag_of (bits_Less a b false w).1 (bits_Less a b false w).2.1 (bits_Less a b false w).2.2 w).1, (xflag_of (bits_Less a b false w).1 (bits_Less a b false w).2.1 (bits_Less a b false w).2.2 w).2), H) else bif op == 5 then bif op == 5 then some (((xflag_of (band IntKind.u64 a b) false false w).1, (xflag_of (band IntKind.u64 a b) false false w).2), H) else bif op == 2 then some (((xflag_of (bor IntKind.u64 a b) false false w).1, (xflag_of (bor IntKind.u64 a b) false false w).2), H) else bif op == 7 then some (((xflag_of (bxor IntKind.u64 a b) false false w).1, (xflag_of (bxor IntKind.u64 a b) false false w).2), H) else some ((0, t), H) else bif op == 9 then some (((xflag_of (band IntKind.u64 a b) false false w).1, (xflag_of (band IntKind.u64 a b) false false w).2), H) else bif op == 2 then some (((xflag_of (bor IntKind.u64 a b) false false w).1, (xflag_of (bor IntKind.u64 a b) false false w).2), H) else bif op == 7 then some (((xflag_of (bxor IntKind.u64 a b) false false w).1, (xflag_of (bxor IntKind.u64 a b) false false w).2), H) else some ((0, t), H) else bif op == 4 then bif op == 4 then bif op == 4 then some (((xflag_of (bits_Less a b t.C w).1 (bits_Less a b t.C w).2.1 (bits_Less a b t.C w).2.2 w).1, (xflag_of (bits_Less a b t.C w).1 (bits_Less a b t.C w).2.1 (bits_Less a b t.C w).2.2 w).2), H) else some (((xflag_of (bits_Less a b false w).1 (bits_Less a b false w).2.1 (bits_Less a b false w).2.2 w).1, (xflag_of (bits_Less a b false w).1 (bits_Less a b false w).2.1 (bits_Less a b false w).2.2 w).2), H) else bif op == 5 then bif op == 5 then some (((xflag_of (band IntKind.u64 a b) false false w).1, (xflag_of (band IntKind.u64 a b) false false w).2), H) else bif op == 2 then some (((xflag_of (bor IntKind.u64 a b) false false w).1, (xflag_of (bor IntKind.u64 a b) false false w).2), H) else bif op == 7 then some (((xflag_of (bxor IntKind.u64 a b) false false w).1, (xflag_of (bxor IntKind.u64 a b) false false w).2), H) else some ((0, t), H) else bif op == 9 then some (((xflag_of (band IntKind.u64 a b) false false w).1, (xflag_of (band IntKind.u64 a b) false false w).2), H) else bif op == 2 then some (((xflag_of (bor IntKind.u64 a b) false false w).1, (xflag_of (bor IntKind.u64 a b) false false w).2), H) else bif op == 7 then some (((xflag_of (bxor IntKind.u64 a b) false false w).1, (xflag_of (bxor IntKind.u64 a b) false false w).2), H) else some ((0, t), H) else bif op == 8 then bif op == 4 then some (((xflag_of (bits_Less a b t.C w).1 (bits_Less a b t.C w).2.1 (bits_Less a b t.C w).2.2 w).1, (xflag_of (bits_Less a b t.C w).1 (bits_Less a b t.C w).2.1 (bits_Less a b t.C w).2.2 w).2), H) else some (((xflag_of (bits_Less a b false w).1 (bits_Less a b false w).2.1 (bits_Less a b false w).2.2 w).1, (xflag_of (bits_Less a b false w).1 (bits_Less a b false w).2.1 (bits_Less a b false w).2.2 w).2), H) else bif op == 5 then bif op == 5 then some (((xflag_of (band IntKind.u64 a b) false false w).1, (xflag_of (band IntKind.u64 a b) false false w).2), H) else bif op == 2 then some (((xflag_of (bor IntKind.u64 a b) false false w).1, (xflag_of (bor IntKind.u64 a b) false false w).2), H) else bif op == 7 then some (((xflag_of (bxor IntKind.u64 a b) false false w).1, (xflag_of (bxor IntKind.u64 a b) false false w).2), H) else some ((0, t), H) else bif op == 9 then some (((xflag_of (band IntKind.u64 a b) false false w).1, (xflag_of (band IntKind.u64 a b) false false w).2), H) else bif op == 2 then some (((xflag_of (bor IntKind.u64 a b) false false w).1, (xflag_of (bor IntKind.u64 a b) false false w).2), H) else bif op == 7 then some (((xflag_of (bxor IntKind.u64 a b) false false w).1, (xflag_of (bxor IntKind.u64 a b) false false w).2), H) else some ((0, t), H) := by intros; exact (congrFun (qF h68 (mkC_nat _ _ _ _) _ _ _ _ _) _).trans (by kernel_rfl)
theorem n68 : ∀ (op a b : Int) (t : TThunk) (w : Int) (H : Heap), f68 op a b t w H = some (xflag_Two op a b t w, H) := by
  intro op a b t w H
  rw [q68]
  unfold xflag_Two
  cases isW8 w
  · rfl
  · cases h1 : (op == 1) <;> cases h3 : (op == 3) <;> simp only [Bool.not_true, cond_true, cond_false, Bool.or_true, Bool.or_false, Bool.true_and, Bool.false_and]
    case false.false =>
      cases h6 : (op == 6) <;> cases h4 : (op == 4) <;> simp only [cond_true, cond_false, Bool.or_true, Bool.true_or, Bool.false_or, Bool.true_and, Bool.false_and]
      case false.false =>
        cases (op == 8) <;> cases (op == 5) <;> cases (op == 9) <;> cases (op == 2) <;> cases (op == 7) <;> rfl
      all_goals first | rfl | (cases t.C <;> rfl)
    all_goals first | rfl | (cases t.C <;> rfl)
noncomputable def k68 : SF Tryz.prog := SF.nums (g := 68) (F := numF (appN [i64S, u64S, u64S, .g _ cThunk, i64S] [u64S, .g _ cThunk] xflag_Two)) (numN_ok (mkF_ok (C := CC68) rfl Tryz.func68 h68 Tryz.ntmps68.symm) n68) (numF_num _)
/-! 73: xflag_One -/
def xflag_One (op a : Int) (t : TThunk) (w : Int) : Int × TThunk :=
  bif isW8 w then
    bif op == 18 then (bits_Zx (bxor .u64 18446744073709551615 a) w, t)
    else bif op == 19 then xflag_Two 6 0 a t w
    else bif op == 16 then ((xflag_Two 1 a 1 t w).1, { (xflag_Two 1 a 1 t w).2 with C := t.C })
    else bif op == 17 then ((xflag_Two 6 a 1 t w).1, { (xflag_Two 6 a 1 t w).2 with C := t.C })
    else (0, t)
  else (0, t)
noncomputable def CC73 : Ctx := mkC (P := Tryz.prog) [k105, k60, k68] [6, 9, 12] 52 []
noncomputable def f73 : Int → Int → TThunk → Int → Heap → Option ((Int × TThunk) × Heap) := hide (mkF CC73 Tryz.f73 [i64S, u64S, .g _ cThunk, i64S] [u64S, .g _ cThunk])
theorem h73 : IsF CC73 Tryz.f73 [i64S, u64S, .g _ cThunk, i64S] [u64S, .g _ cThunk] f73 := hide_eq _
theorem q73 : ∀ (op a : Int) (t : TThunk) (w : Int) (H : Heap), f73 op a t w H = bif !isW8 w then some ((0, t), H) else bif op == 18 then some ((bits_Zx (bxor IntKind.u64 18446744073709551615 a) w, t), H) else bif op == 19 then some (((xflag_Two 6 0 a t w).1, (xflag_Two 6 0 a t w).2), H) else bif op == 16 then bif op == 16 then bif op == 17 then some (((xflag_Two 6 a 1 t w).1, TThunk.mk t.C (xflag_Two 6 a 1 t w).2.O (xflag_Two 6 a 1 t w).2.res), H) else some (((xflag_Two 1 a 1 t w).1, TThunk.mk t.C (xflag_Two 1 a 1 t w).2.O (xflag_Two 1 a 1 t w).2.res), H) else some ((0, t), H) else bif op == 17 then bif op == 17 then some (((xflag_Two 6 a 1 t w).1, TThunk.mk t.C (xflag_Two 6 a 1 t w).2.O (xflag_Two 6 a 1 t w).2.res), H) else some (((xflag_Two 1 a 1 t w).1, TThunk.mk t.C (xflag_Two 1 a 1 t w).2.O (xflag_Two 1 a 1 t w).2.res), H) else some ((0, t), H) := by intros; exact (congrFun (qF h73 (mkC_nat _ _ _ _) _ _ _ _) _).trans (by kernel_rfl)
theorem n73 : ∀ (op a : Int) (t : TThunk) (w : Int) (H : Heap), f73 op a t w H = some (xflag_One op a t w, H) := by
  intro op a t w H
  rw [q73]
  unfold xflag_One
  cases isW8 w
  · rfl
  · cases (op == 18)
    · cases (op == 19)
      · by_cases h : op = 16
        · subst h; rfl
        · have h1 : (op == 16) = false := by simpa using h
          rw [h1]
          cases (op == 17) <;> rfl
      · rfl
    · rfl
noncomputable def k73 : SF Tryz.prog := SF.nums (g := 73) (F := numF (appN [i64S, u64S, .g _ cThunk, i64S] [u64S, .g _ cThunk] xflag_One)) (numN_ok (mkF_ok (C := CC73) rfl Tryz.func73 h73 Tryz.ntmps73.symm) n73) (numF_num _)
/-! 181: mbits_Mul64 -/
def mbits_Mul64 (x y : Int) : Int × Int :=
  (IntKind.u64.wrap (IntKind.u64.wrap (IntKind.u64.wrap (ishr IntKind.u64 x 32 * ishr IntKind.u64 y 32) + ishr IntKind.u64 (IntKind.u64.wrap (IntKind.u64.wrap (ishr IntKind.u64 x 32 * band IntKind.u64 y 4294967295) + ishr IntKind.u64 (IntKind.u64.wrap (band IntKind.u64 x 4294967295 * band IntKind.u64 y 4294967295)) 32)) 32) + ishr IntKind.u64 (IntKind.u64.wrap (band IntKind.u64 (IntKind.u64.wrap (IntKind.u64.wrap (ishr IntKind.u64 x 32 * band IntKind.u64 y 4294967295) + ishr IntKind.u64 (IntKind.u64.wrap (band IntKind.u64 x 4294967295 * band IntKind.u64 y 4294967295)) 32)) 4294967295 + IntKind.u64.wrap (band IntKind.u64 x 4294967295 * ishr IntKind.u64 y 32))) 32), IntKind.u64.wrap (x * y))
noncomputable def CC181 : Ctx := mkC (P := Tryz.prog) [] [] 51 []
noncomputable def f181 : Int → Int → Heap → Option ((Int × Int) × Heap) := hide (mkF CC181 Tryz.f181 [u64S, u64S] [u64S, u64S])
theorem h181 : IsF CC181 Tryz.f181 [u64S, u64S] [u64S, u64S] f181 := hide_eq _
theorem q181 : ∀ (x0 y : Int) (H : Heap), f181 x0 y H = some ((IntKind.u64.wrap (IntKind.u64.wrap (IntKind.u64.wrap (ishr IntKind.u64 x0 32 * ishr IntKind.u64 y 32) + ishr IntKind.u64 (IntKind.u64.wrap (IntKind.u64.wrap (ishr IntKind.u64 x0 32 * band IntKind.u64 y 4294967295) + ishr IntKind.u64 (IntKind.u64.wrap (band IntKind.u64 x0 4294967295 * band IntKind.u64 y 4294967295)) 32)) 32) + ishr IntKind.u64 (IntKind.u64.wrap (band IntKind.u64 (IntKind.u64.wrap (IntKind.u64.wrap (ishr IntKind.u64 x0 32 * band IntKind.u64 y 4294967295) + ishr IntKind.u64 (IntKind.u64.wrap (band IntKind.u64 x0 4294967295 * band IntKind.u64 y 4294967295)) 32)) 4294967295 + IntKind.u64.wrap (band IntKind.u64 x0 4294967295 * ishr IntKind.u64 y 32))) 32), IntKind.u64.wrap (x0 * y)), H) := by intros; exact (congrFun (qF h181 (mkC_nat _ _ _ _) _ _) _).trans (by kernel_rfl)
theorem n181 : ∀ (x0 y : Int) (H : Heap), f181 x0 y H = some (mbits_Mul64 x0 y, H) := by
  intro x0 y H
  rw [q181]
  rfl
noncomputable def k181 : SF Tryz.prog := SF.nums (g := 181) (F := numF (appN [u64S, u64S] [u64S, u64S] mbits_Mul64)) (numN_ok (mkF_ok (C := CC181) rfl Tryz.func181 h181 Tryz.ntmps181.symm) n181) (numF_num _)
/-! 165: bits_MulU -/
def bits_MulU (a b : Int) : Int × Int := mbits_Mul64 a b
noncomputable def CC165 : Ctx := mkC (P := Tryz.prog) [k181] [] 11 []
noncomputable def f165 : Int → Int → Heap → Option ((Int × Int) × Heap) := hide (mkF CC165 Tryz.f165 [u64S, u64S] [u64S, u64S])
theorem h165 : IsF CC165 Tryz.f165 [u64S, u64S] [u64S, u64S] f165 := hide_eq _
theorem q165 : ∀ (a b : Int) (H : Heap), f165 a b H = some (((mbits_Mul64 a b).1, (mbits_Mul64 a b).2), H) := by intros; exact (congrFun (qF h165 (mkC_nat _ _ _ _) _ _) _).trans (by kernel_rfl)
theorem n165 : ∀ (a b : Int) (H : Heap), f165 a b H = some (bits_MulU a b, H) := by
  intro a b H
  rw [q165]
  rfl
noncomputable def k165 : SF Tryz.prog := SF.nums (g := 165) (F := numF (appN [u64S, u64S] [u64S, u64S] bits_MulU)) (numN_ok (mkF_ok (C := CC165) rfl Tryz.func165 h165 Tryz.ntmps165.symm) n165) (numF_num _)
/-! 166: bits_MulS -/
def bits_MulS (a b : Int) : Int × Int :=
  (bif decide (IntKind.i64.wrap b < 0) then IntKind.u64.wrap ((bif decide (IntKind.i64.wrap a < 0) then IntKind.u64.wrap ((mbits_Mul64 a b).1 - b) else (mbits_Mul64 a b).1) - a) else (bif decide (IntKind.i64.wrap a < 0) then IntKind.u64.wrap ((mbits_Mul64 a b).1 - b) else (mbits_Mul64 a b).1), (mbits_Mul64 a b).2)
noncomputable def CC166 : Ctx := mkC (P := Tryz.prog) [k181] [] 28 []
noncomputable def f166 : Int → Int → Heap → Option ((Int × Int) × Heap) := hide (mkF CC166 Tryz.f166 [u64S, u64S] [u64S, u64S])
theorem h166 : IsF CC166 Tryz.f166 [u64S, u64S] [u64S, u64S] f166 := hide_eq _
theorem q166 : ∀ (a b : Int) (H : Heap), f166 a b H = bif decide (IntKind.i64.wrap a < 0) then bif decide (IntKind.i64.wrap b < 0) then some ((IntKind.u64.wrap (IntKind.u64.wrap ((mbits_Mul64 a b).1 - b) - a), (mbits_Mul64 a b).2), H) else some ((IntKind.u64.wrap ((mbits_Mul64 a b).1 - b), (mbits_Mul64 a b).2), H) else bif decide (IntKind.i64.wrap b < 0) then some ((IntKind.u64.wrap ((mbits_Mul64 a b).1 - a), (mbits_Mul64 a b).2), H) else some (((mbits_Mul64 a b).1, (mbits_Mul64 a b).2), H) := by intros; exact (congrFun (qF h166 (mkC_nat _ _ _ _) _ _) _).trans (by kernel_rfl)
theorem n166 : ∀ (a b : Int) (H : Heap), f166 a b H = some (bits_MulS a b, H) := by
  intro a b H
  rw [q166]
  unfold bits_MulS
  cases decide (IntKind.i64.wrap a < 0) <;> cases decide (IntKind.i64.wrap b < 0) <;> rfl
noncomputable def k166 : SF Tryz.prog := SF.nums (g := 166) (F := numF (appN [u64S, u64S] [u64S, u64S] bits_MulS)) (numN_ok (mkF_ok (C := CC166) rfl Tryz.func166 h166 Tryz.ntmps166.symm) n166) (numF_num _)
/-! 124: xflag_Product -/
def xflag_Product (a b : Int) (signed : Bool) (w : Int) : Int × Int × TThunk :=
  bif isW8 w then
    let p := bif signed then bits_MulS (bits_Sx a w) (bits_Sx b w) else bits_MulU (bits_Zx a w) (bits_Zx b w)
    let hi := bif decide (w < 8) then bits_Zx (ishr .u64 p.2 (IntKind.i64.wrap (8 * w))) w else p.1
    let lo := bif decide (w < 8) then bits_Zx p.2 w else p.2
    let over := bif signed then !(hi == bif bits_Neg lo w then bits_Mask w else 0) else !(hi == 0)
    ((xflag_of lo over over w).1, hi, (xflag_of lo over over w).2)
  else (0, 0, ⟨false, false, 0⟩)
noncomputable def CC124 : Ctx := mkC (P := Tryz.prog) [k105, k60, k165, k121, k166, k130, k107, k115] [10, 16] 75 []
noncomputable def f124 : Int → Int → Bool → Int → Heap → Option ((Int × Int × TThunk) × Heap) := hide (mkF CC124 Tryz.f124 [u64S, u64S, boS, i64S] [u64S, u64S, .g _ cThunk])
theorem h124 : IsF CC124 Tryz.f124 [u64S, u64S, boS, i64S] [u64S, u64S, .g _ cThunk] f124 := hide_eq _
theorem q124 : ∀ (a b : Int) (signed : Bool) (w : Int) (H : Heap), f124 a b signed w H = bif !isW8 w then some ((0, 0, TThunk.mk false false 0), H) else bif signed then bif decide (w < 8) then bif decide (IntKind.i64.wrap (8 * w) < 0) then none else bif signed then bif bits_Neg (bits_Zx (bits_MulS (bits_Sx a w) (bits_Sx b w)).2 w) w then some (((xflag_of (bits_Zx (bits_MulS (bits_Sx a w) (bits_Sx b w)).2 w) (bits_Zx (ishr IntKind.u64 (bits_MulS (bits_Sx a w) (bits_Sx b w)).2 (IntKind.i64.wrap (8 * w))) w != bits_Mask w) (bits_Zx (ishr IntKind.u64 (bits_MulS (bits_Sx a w) (bits_Sx b w)).2 (IntKind.i64.wrap (8 * w))) w != bits_Mask w) w).1, bits_Zx (ishr IntKind.u64 (bits_MulS (bits_Sx a w) (bits_Sx b w)).2 (IntKind.i64.wrap (8 * w))) w, (xflag_of (bits_Zx (bits_MulS (bits_Sx a w) (bits_Sx b w)).2 w) (bits_Zx (ishr IntKind.u64 (bits_MulS (bits_Sx a w) (bits_Sx b w)).2 (IntKind.i64.wrap (8 * w))) w != bits_Mask w) (bits_Zx (ishr IntKind.u64 (bits_MulS (bits_Sx a w) (bits_Sx b w)).2 (IntKind.i64.wrap (8 * w))) w != bits_Mask w) w).2), H) else some (((xflag_of (bits_Zx (bits_MulS (bits_Sx a w) (bits_Sx b w)).2 w) (bits_Zx (ishr IntKind.u64 (bits_MulS (bits_Sx a w) (bits_Sx b w)).2 (IntKind.i64.wrap (8 * w))) w != 0) (bits_Zx (ishr IntKind.u64 (bits_MulS (bits_Sx a w) (bits_Sx b w)).2 (IntKind.i64.wrap (8 * w))) w != 0) w).1, bits_Zx (ishr IntKind.u64 (bits_MulS (bits_Sx a w) (bits_Sx b w)).2 (IntKind.i64.wrap (8 * w))) w, (xflag_of (bits_Zx (bits_MulS (bits_Sx a w) (bits_Sx b w)).2 w) (bits_Zx (ishr IntKind.u64 (bits_MulS (bits_Sx a w) (bits_Sx b w)).2 (IntKind.i64.wrap (8 * w))) w != 0) (bits_Zx (ishr IntKind.u64 (bits_MulS (bits_Sx a w) (bits_Sx b w)).2 (IntKind.i64.wrap (8 * w))) w != 0) w).2), H) else some (((xflag_of (bits_Zx (bits_MulS (bits_Sx a w) (bits_Sx b w)).2 w) (bits_Zx (ishr IntKind.u64 (bits_MulS (bits_Sx a w) (bits_Sx b w)).2 (IntKind.i64.wrap (8 * w))) w != 0) (bits_Zx (ishr IntKind.u64 (bits_MulS (bits_Sx a w) (bits_Sx b w)).2 (IntKind.i64.wrap (8 * w))) w != 0) w).1, bits_Zx (ishr IntKind.u64 (bits_MulS (bits_Sx a w) (bits_Sx b w)).2 (IntKind.i64.wrap (8 * w))) w, (xflag_of (bits_Zx (bits_MulS (bits_Sx a w) (bits_Sx b w)).2 w) (bits_Zx (ishr IntKind.u64 (bits_MulS (bits_Sx a w) (bits_Sx b w)).2 (IntKind.i64.wrap (8 * w))) w != 0) (bits_Zx (ishr IntKind.u64 (bits_MulS (bits_Sx a w) (bits_Sx b w)).2 (IntKind.i64.wrap (8 * w))) w != 0) w).2), H) else bif signed then bif bits_Neg (bits_MulS (bits_Sx a w) (bits_Sx b w)).2 w then some (((xflag_of (bits_MulS (bits_Sx a w) (bits_Sx b w)).2 ((bits_MulS (bits_Sx a w) (bits_Sx b w)).1 != bits_Mask w) ((bits_MulS (bits_Sx a w) (bits_Sx b w)).1 != bits_Mask w) w).1, (bits_MulS (bits_Sx a w) (bits_Sx b w)).1, (xflag_of (bits_MulS (bits_Sx a w) (bits_Sx b w)).2 ((bits_MulS (bits_Sx a w) (bits_Sx b w)).1 != bits_Mask w) ((bits_MulS (bits_Sx a w) (bits_Sx b w)).1 != bits_Mask w) w).2), H) else some (((xflag_of (bits_MulS (bits_Sx a w) (bits_Sx b w)).2 ((bits_MulS (bits_Sx a w) (bits_Sx b w)).1 != 0) ((bits_MulS (bits_Sx a w) (bits_Sx b w)).1 != 0) w).1, (bits_MulS (bits_Sx a w) (bits_Sx b w)).1, (xflag_of (bits_MulS (bits_Sx a w) (bits_Sx b w)).2 ((bits_MulS (bits_Sx a w) (bits_Sx b w)).1 != 0) ((bits_MulS (bits_Sx a w) (bits_Sx b w)).1 != 0) w).2), H) else some (((xflag_of (bits_MulS (bits_Sx a w) (bits_Sx b w)).2 ((bits_MulS (bits_Sx a w) (bits_Sx b w)).1 != 0) ((bits_MulS (bits_Sx a w) (bits_Sx b w)).1 != 0) w).1, (bits_MulS (bits_Sx a w) (bits_Sx b w)).1, (xflag_of (bits_MulS (bits_Sx a w) (bits_Sx b w)).2 ((bits_MulS (bits_Sx a w) (bits_Sx b w)).1 != 0) ((bits_MulS (bits_Sx a w) (bits_Sx b w)).1 != 0) w).2), H) else bif decide (w < 8) then bif decide (IntKind.i64.wrap (8 * w) < 0) then none else bif signed then bif bits_Neg (bits_Zx (bits_MulU (bits_Zx a w) (bits_Zx b w)).2 w) w then some (((xflag_of (bits_Zx (bits_MulU (bits_Zx a w) (bits_Zx b w)).2 w) (bits_Zx (ishr IntKind.u64 (bits_MulU (bits_Zx a w) (bits_Zx b w)).2 (IntKind.i64.wrap (8 * w))) w != bits_Mask w) (bits_Zx (ishr IntKind.u64 (bits_MulU (bits_Zx a w) (bits_Zx b w)).2 (IntKind.i64.wrap (8 * w))) w != bits_Mask w) w).1, bits_Zx (ishr IntKind.u64 (bits_MulU (bits_Zx a w) (bits_Zx b w)).2 (IntKind.i64.wrap (8 * w))) w, (xflag_of (bits_Zx (bits_MulU (bits_Zx a w) (bits_Zx b w)).2 w) (bits_Zx (ishr IntKind.u64 (bits_MulU (bits_Zx a w) (bits_Zx b w)).2 (IntKind.i64.wrap (8 * w))) w != bits_Mask w) (bits_Zx (ishr IntKind.u64 (bits_MulU (bits_Zx a w) (bits_Zx b w)).2 (IntKind.i64.wrap (8 * w))) w != bits_Mask w) w).2), H) else some (((xflag_of (bits_Zx (bits_MulU (bits_Zx a w) (bits_Zx b w)).2 w) (bits_Zx (ishr IntKind.u64 (bits_MulU (bits_Zx a w) (bits_Zx b w)).2 (IntKind.i64.wrap (8 * w))) w != 0) (bits_Zx (ishr IntKind.u64 (bits_MulU (bits_Zx a w) (bits_Zx b w)).2 (IntKind.i64.wrap (8 * w))) w != 0) w).1, bits_Zx (ishr IntKind.u64 (bits_MulU (bits_Zx a w) (bits_Zx b w)).2 (IntKind.i64.wrap (8 * w))) w, (xflag_of (bits_Zx (bits_MulU (bits_Zx a w) (bits_Zx b w)).2 w) (bits_Zx (ishr IntKind.u64 (bits_MulU (bits_Zx a w) (bits_Zx b w)).2 (IntKind.i64.wrap (8 * w))) w != 0) (bits_Zx (ishr IntKind.u64 (bits_MulU (bits_Zx a w) (bits_Zx b w)).2 (IntKind.i64.wrap (8 * w))) w != 0) w).2), H) else some (((xflag_of (bits_Zx (bits_MulU (bits_Zx a w) (bits_Zx b w)).2 w) (bits_Zx (ishr IntKind.u64 (bits_MulU (bits_Zx a w) (bits_Zx b w)).2 (IntKind.i64.wrap (8 * w))) w != 0) (bits_Zx (ishr IntKind.u64 (bits_MulU (bits_Zx a w) (bits_Zx b w)).2 (IntKind.i64.wrap (8 * w))) w != 0) w).1, bits_Zx (ishr IntKind.u64 (bits_MulU (bits_Zx a w) (bits_Zx b w)).2 (IntKind.i64.wrap (8 * w))) w, (xflag_of (bits_Zx (bits_MulU (bits_Zx a w) (bits_Zx b w)).2 w) (bits_Zx (ishr IntKind.u64 (bits_MulU (bits_Zx a w) (bits_Zx b w)).2 (IntKind.i64.wrap (8 * w))) w != 0) (bits_Zx (ishr IntKind.u64 (bits_MulU (bits_Zx a w) (bits_Zx b w)).2 (IntKind.i64.wrap (8 * w))) w != 0) w).2), H) else bif signed then bif bits_Neg (bits_MulU (bits_Zx a w) (bits_Zx b w)).2 w then some (((xflag_of (bits_MulU (bits_Zx a w) (bits_Zx b w)).2 ((bits_MulU (bits_Zx a w) (bits_Zx b w)).1 != bits_Mask w) ((bits_MulU (bits_Zx a w) (bits_Zx b w)).1 != bits_Mask w) w).1, (bits_MulU (bits_Zx a w) (bits_Zx b w)).1, (xflag_of (bits_MulU (bits_Zx a w) (bits_Zx b w)).2 ((bits_MulU (bits_Zx a w) (bits_Zx b w)).1 != bits_Mask w) ((bits_MulU (bits_Zx a w) (bits_Zx b w)).1 != bits_Mask w) w).2), H) else some (((xflag_of (bits_MulU (bits_Zx a w) (bits_Zx b w)).2 ((bits_MulU (bits_Zx a w) (bits_Zx b w)).1 != 0) ((bits_MulU (bits_Zx a w) (bits_Zx b w)).1 != 0) w).1, (bits_MulU (bits_Zx a w) (bits_Zx b w)).1, (xflag_of (bits_MulU (bits_Zx a w) (bits_Zx b w)).2 ((bits_MulU (bits_Zx a w) (bits_Zx b w)).1 != 0) ((bits_MulU (bits_Zx a w) (bits_Zx b w)).1 != 0) w).2), H) else some (((xflag_of (bits_MulU (bits_Zx a w) (bits_Zx b w)).2 ((bits_MulU (bits_Zx a w) (bits_Zx b w)).1 != 0) ((bits_MulU (bits_Zx a w) (bits_Zx b w)).1 != 0) w).1, (bits_MulU (bits_Zx a w) (bits_Zx b w)).1, (xflag_of (bits_MulU (bits_Zx a w) (bits_Zx b w)).2 ((bits_MulU (bits_Zx a w) (bits_Zx b w)).1 != 0) ((bits_MulU (bits_Zx a w) (bits_Zx b w)).1 != 0) w).2), H) := by intros; exact (congrFun (qF h124 (mkC_nat _ _ _ _) _ _ _ _) _).trans (by kernel_rfl)
theorem n124 : ∀ (a b : Int) (signed : Bool) (w : Int) (H : Heap), f124 a b signed w H = some (xflag_Product a b signed w, H) := by
  intro a b signed w H
  rw [q124]
  unfold xflag_Product
  cases h : isW8 w
  · rfl
  · have g : decide (IntKind.i64.wrap (8 * w) < 0) = false := by rcases isW8_w h with rfl | rfl | rfl | rfl <;> decide
    rw [g]
    cases signed
    · cases decide (w < 8) <;> rfl
    · cases decide (w < 8)
      · simp only [Bool.not_true, cond_false, cond_true]
        cases bits_Neg (bits_MulS (bits_Sx a w) (bits_Sx b w)).2 w <;> rfl
      · simp only [Bool.not_true, cond_false, cond_true]
        cases bits_Neg (bits_Zx (bits_MulS (bits_Sx a w) (bits_Sx b w)).2 w) w <;> rfl
noncomputable def k124 : SF Tryz.prog := SF.nums (g := 124) (F := numF (appN [u64S, u64S, boS, i64S] [u64S, u64S, .g _ cThunk] xflag_Product)) (numN_ok (mkF_ok (C := CC124) rfl Tryz.func124 h124 Tryz.ntmps124.symm) n124) (numF_num _)
/-! 160: bits_Fits -/
def bits_Fits (v n : Int) : Bool := bif decide (n < 1) then false else bif decide (n > 64) then false else ishr .i64 (ishl .i64 v (64 - n)) (64 - n) == v
noncomputable def CC160 : Ctx := mkC (P := Tryz.prog) [] [] 21 []
noncomputable def f160 : Int → Int → Heap → Option (Bool × Heap) := hide (mkF CC160 Tryz.f160 [i64S, i64S] [boS])
theorem h160 : IsF CC160 Tryz.f160 [i64S, i64S] [boS] f160 := hide_eq _
theorem q160 : ∀ (v n : Int) (H : Heap), f160 v n H = bif decide (n < 1) then some (false, H) else bif decide (n > 64) then some (false, H) else bif decide (IntKind.i64.wrap (64 - n) < 0) then none else bif decide (IntKind.i64.wrap (64 - n) < 0) then none else some (ishr IntKind.i64 (ishl IntKind.i64 v (IntKind.i64.wrap (64 - n))) (IntKind.i64.wrap (64 - n)) == v, H) := by intros; exact (congrFun (qF h160 (mkC_nat _ _ _ _) _ _) _).trans (by kernel_rfl)
theorem n160 : ∀ (v n : Int) (H : Heap), f160 v n H = some (bits_Fits v n, H) := by
  intro v n H
  rw [q160]
  unfold bits_Fits
  cases h1 : decide (n < 1)
  · cases h2 : decide (n > 64)
    · simp at h1 h2
      have h3 : IntKind.i64.wrap (64 - n) = 64 - n := wrap_i64 (by omega) (by omega)
      have h4 : decide (64 - n < 0) = false := by simp; omega
      simp only [h3, h4, cond_false]
    · rfl
  · rfl
noncomputable def k160 : SF Tryz.prog := SF.nums (g := 160) (F := numF (appN [i64S, i64S] [boS] bits_Fits)) (numN_ok (mkF_ok (C := CC160) rfl Tryz.func160 h160 Tryz.ntmps160.symm) n160) (numF_num _)
/-! 182: xflag_divided -/
noncomputable def CC182 : Ctx := mkC (P := Tryz.prog) [k160, k60] [] 38 []
noncomputable def f182 : Int → Int → Int → Heap → Option ((Int × Int × Bool) × Heap) := hide (mkF CC182 Tryz.f182 [i64S, i64S, i64S] [u64S, u64S, boS])
theorem h182 : IsF CC182 Tryz.f182 [i64S, i64S, i64S] [u64S, u64S, boS] f182 := hide_eq _
theorem q182 : ∀ (v d w : Int) (H : Heap), f182 v d w H = bif d == 0 then none else bif d == 0 then none else bif !bits_Fits (IntKind.i64.wrap (v.tdiv d)) (IntKind.i64.wrap (8 * w)) then some ((0, 0, false), H) else bif v == -9223372036854775808 then bif d == -1 then some ((0, 0, false), H) else some ((bits_Zx (IntKind.u64.wrap (IntKind.i64.wrap (v.tdiv d))) w, bits_Zx (IntKind.u64.wrap (v.tmod d)) w, true), H) else some ((bits_Zx (IntKind.u64.wrap (IntKind.i64.wrap (v.tdiv d))) w, bits_Zx (IntKind.u64.wrap (v.tmod d)) w, true), H) := by intros; exact (congrFun (qF h182 (mkC_nat _ _ _ _) _ _ _) _).trans (by kernel_rfl)
noncomputable def k182 : SF Tryz.prog := SF.spec (g := 182) (enc := encR [u64S, u64S, boS]) (S := appS [i64S, i64S, i64S] f182) (mkF_ok (C := CC182) rfl Tryz.func182 h182 Tryz.ntmps182.symm)
def xflag_divided (v d w : Int) : Int × Int × Bool :=
  bif !bits_Fits (IntKind.i64.wrap (v.tdiv d)) (IntKind.i64.wrap (8 * w)) then (0, 0, false)
  else bif v == -9223372036854775808 && d == -1 then (0, 0, false)
  else (bits_Zx (IntKind.u64.wrap (IntKind.i64.wrap (v.tdiv d))) w, bits_Zx (IntKind.u64.wrap (v.tmod d)) w, true)
theorem n182 (v d w : Int) (H : Heap) (hg : (!(d == 0)) = true) : f182 v d w H = some (xflag_divided v d w, H) := by
  rw [q182]
  have g : (d == 0) = false := by simpa using hg
  unfold xflag_divided
  rw [g]
  cases bits_Fits (IntKind.i64.wrap (v.tdiv d)) (IntKind.i64.wrap (8 * w)) <;> cases (v == -9223372036854775808) <;> cases (d == -1) <;> rfl
/-! 167: xflag_Quotient -/
theorem sx_eq {w : Int} (h : isW8 w = true) (v : Int) : bits_Sx v w = bif decide (v % 2 ^ (8 * w.toNat) < 2 ^ (8 * w.toNat - 1)) then v % 2 ^ (8 * w.toNat) else v % 2 ^ (8 * w.toNat) + 18446744073709551616 - 2 ^ (8 * w.toNat) := by
  unfold bits_Sx ishr ishl
  rw [h]
  rcases isW8_w h with rfl | rfl | rfl | rfl <;> simp [IntKind.wrap, IntKind.bits, IntKind.signed, Int.fdiv_eq_ediv_of_nonneg, cond_eq_ite] <;> omega
def xflag_Quotient (hi lo d : Int) (signed : Bool) (w : Int) : Int × Int × Bool :=
  bif isW8 w && (!(w == 8) && !(bits_Zx d w == 0)) then
    let v := bor .u64 (ishl .u64 (bits_Zx hi w) (IntKind.i64.wrap (8 * w))) (bits_Zx lo w)
    bif signed then xflag_divided (IntKind.i64.wrap (bits_Sx v (IntKind.i64.wrap (2 * w)))) (IntKind.i64.wrap (bits_Sx (bits_Zx d w) w)) w
    else bif decide (IntKind.u64.wrap (v.tdiv (bits_Zx d w)) > bits_Mask w) then (0, 0, false) else (IntKind.u64.wrap (v.tdiv (bits_Zx d w)), v.tmod (bits_Zx d w), true)
  else (0, 0, false)
theorem sx_ne {w d : Int} (h : isW8 w = true) (h8 : (w == 8) = false) (hd : (bits_Zx d w == 0) = false) : (IntKind.i64.wrap (bits_Sx (bits_Zx d w) w) == 0) = false := by
  rw [sx_eq h]
  unfold bits_Zx at hd ⊢
  rw [h] at hd ⊢
  rcases isW8_w h with rfl | rfl | rfl | rfl
  all_goals simp [IntKind.wrap, IntKind.bits, IntKind.signed, cond_eq_ite] at hd h8 ⊢
  all_goals omega
noncomputable def CC167 : Ctx := mkC (P := Tryz.prog) [k105, k60, k107, k121, k182] [] 66 []
noncomputable def f167 : Int → Int → Int → Bool → Int → Heap → Option ((Int × Int × Bool) × Heap) := hide (mkF CC167 Tryz.f167 [u64S, u64S, u64S, boS, i64S] [u64S, u64S, boS])
theorem h167 : IsF CC167 Tryz.f167 [u64S, u64S, u64S, boS, i64S] [u64S, u64S, boS] f167 := hide_eq _
theorem q167 : ∀ (hi lo d : Int) (signed : Bool) (w : Int) (H : Heap), f167 hi lo d signed w H = bif !isW8 w then some ((0, 0, false), H) else bif w == 8 then some ((0, 0, false), H) else bif decide (IntKind.i64.wrap (8 * w) < 0) then none else bif bits_Zx d w == 0 then some ((0, 0, false), H) else bif !signed then bif bits_Zx d w == 0 then none else bif bits_Zx d w == 0 then none else bif decide (IntKind.u64.wrap ((bor IntKind.u64 (ishl IntKind.u64 (bits_Zx hi w) (IntKind.i64.wrap (8 * w))) (bits_Zx lo w)).tdiv (bits_Zx d w)) > bits_Mask w) then some ((0, 0, false), H) else some ((IntKind.u64.wrap ((bor IntKind.u64 (ishl IntKind.u64 (bits_Zx hi w) (IntKind.i64.wrap (8 * w))) (bits_Zx lo w)).tdiv (bits_Zx d w)), (bor IntKind.u64 (ishl IntKind.u64 (bits_Zx hi w) (IntKind.i64.wrap (8 * w))) (bits_Zx lo w)).tmod (bits_Zx d w), true), H) else (f182 (IntKind.i64.wrap (bits_Sx (bor IntKind.u64 (ishl IntKind.u64 (bits_Zx hi w) (IntKind.i64.wrap (8 * w))) (bits_Zx lo w)) (IntKind.i64.wrap (2 * w)))) (IntKind.i64.wrap (bits_Sx (bits_Zx d w) w)) w H).bind fun v0 => some ((v0.1.1, v0.1.2.1, v0.1.2.2), v0.2) := by intros; exact (congrFun (qF h167 (mkC_nat _ _ _ _) _ _ _ _ _) _).trans (by kernel_rfl)
theorem n167 : ∀ (hi lo d : Int) (signed : Bool) (w : Int) (H : Heap), f167 hi lo d signed w H = some (xflag_Quotient hi lo d signed w, H) := by
  intro hi lo d signed w H
  rw [q167]
  unfold xflag_Quotient
  cases h : isW8 w
  · rfl
  · have g : decide (IntKind.i64.wrap (8 * w) < 0) = false := by rcases isW8_w h with rfl | rfl | rfl | rfl <;> decide
    rw [g]
    cases h8 : (w == 8)
    · cases hd : (bits_Zx d w == 0)
      · have gd := sx_ne h h8 hd
        have gd2 : (!(IntKind.i64.wrap (bits_Sx (bits_Zx d w) w) == 0)) = true := by rw [gd]; rfl
        cases signed
        · simp only [Bool.not_true, Bool.not_false, cond_false, cond_true, Bool.and_true]
          cases decide (IntKind.u64.wrap ((bor .u64 (ishl .u64 (bits_Zx hi w) (IntKind.i64.wrap (8 * w))) (bits_Zx lo w)).tdiv (bits_Zx d w)) > bits_Mask w) <;> rfl
        · simp only [Bool.not_true, Bool.not_false, cond_false, cond_true, Bool.and_true]
          rw [n182 _ _ _ _ gd2]
          rfl
      · rfl
    · rfl
noncomputable def k167 : SF Tryz.prog := SF.nums (g := 167) (F := numF (appN [u64S, u64S, u64S, boS, i64S] [u64S, u64S, boS] xflag_Quotient)) (numN_ok (mkF_ok (C := CC167) rfl Tryz.func167 h167 Tryz.ntmps167.symm) n167) (numF_num _)
/-! 168: bits_Turn -/
def bits_Turn (v k w : Int) : Int :=
  bif isW8 w then bits_Zx (bor .u64 (ishl .u64 (bits_Zx v w) ((k.tmod (8 * w) + 8 * w).tmod (8 * w))) (ishr .u64 (bits_Zx v w) (8 * w - (k.tmod (8 * w) + 8 * w).tmod (8 * w)))) w else 0
theorem turn_k (k n : Int) (hn : 0 < n) (hn2 : n ≤ 64) : IntKind.i64.wrap (k.tmod n + n) = k.tmod n + n ∧ 0 ≤ (k.tmod n + n).tmod n ∧ (k.tmod n + n).tmod n < n := by
  have h1 : -n < k.tmod n := by
    have e1 := Int.emod_nonneg k (show n ≠ 0 by omega)
    rw [Int.tmod_eq_emod]
    split
    · omega
    · rename_i hh
      have : k % n ≠ 0 := fun he => hh (.inr (Int.dvd_of_emod_eq_zero he))
      omega
  have h2 : k.tmod n < n := Int.tmod_lt_of_pos k hn
  refine ⟨wrap_i64 (by omega) (by omega), ?_, Int.tmod_lt_of_pos _ hn⟩
  exact Int.tmod_nonneg _ (by omega)
noncomputable def CC168 : Ctx := mkC (P := Tryz.prog) [k105, k60] [] 34 []
noncomputable def f168 : Int → Int → Int → Heap → Option (Int × Heap) := hide (mkF CC168 Tryz.f168 [u64S, i64S, i64S] [u64S])
theorem h168 : IsF CC168 Tryz.f168 [u64S, i64S, i64S] [u64S] f168 := hide_eq _
theorem q168 : ∀ (v k w : Int) (H : Heap), f168 v k w H = bif !isW8 w then some (0, H) else bif IntKind.i64.wrap (8 * w) == 0 then none else bif IntKind.i64.wrap (8 * w) == 0 then none else bif decide ((IntKind.i64.wrap (k.tmod (IntKind.i64.wrap (8 * w)) + IntKind.i64.wrap (8 * w))).tmod (IntKind.i64.wrap (8 * w)) < 0) then none else bif decide (IntKind.i64.wrap (IntKind.i64.wrap (8 * w) - (IntKind.i64.wrap (k.tmod (IntKind.i64.wrap (8 * w)) + IntKind.i64.wrap (8 * w))).tmod (IntKind.i64.wrap (8 * w))) < 0) then none else some (bits_Zx (bor IntKind.u64 (ishl IntKind.u64 (bits_Zx v w) ((IntKind.i64.wrap (k.tmod (IntKind.i64.wrap (8 * w)) + IntKind.i64.wrap (8 * w))).tmod (IntKind.i64.wrap (8 * w)))) (ishr IntKind.u64 (bits_Zx v w) (IntKind.i64.wrap (IntKind.i64.wrap (8 * w) - (IntKind.i64.wrap (k.tmod (IntKind.i64.wrap (8 * w)) + IntKind.i64.wrap (8 * w))).tmod (IntKind.i64.wrap (8 * w)))))) w, H) := by intros; exact (congrFun (qF h168 (mkC_nat _ _ _ _) _ _ _) _).trans (by kernel_rfl)
theorem n168 : ∀ (v k w : Int) (H : Heap), f168 v k w H = some (bits_Turn v k w, H) := by
  intro v k w H
  rw [q168]
  unfold bits_Turn
  cases h : isW8 w
  · rfl
  · have hw : IntKind.i64.wrap (8 * w) = 8 * w ∧ 0 < 8 * w ∧ 8 * w ≤ 64 := by rcases isW8_w h with rfl | rfl | rfl | rfl <;> decide
    obtain ⟨h1, h2, h3⟩ := turn_k k (8 * w) hw.2.1 hw.2.2
    have g1 : (8 * w == 0) = false := by simp; omega
    have g2 : decide ((k.tmod (8 * w) + 8 * w).tmod (8 * w) < 0) = false := by simp; omega
    have g3 : IntKind.i64.wrap (8 * w - (k.tmod (8 * w) + 8 * w).tmod (8 * w)) = 8 * w - (k.tmod (8 * w) + 8 * w).tmod (8 * w) := wrap_i64 (by omega) (by omega)
    have g4 : decide (8 * w - (k.tmod (8 * w) + 8 * w).tmod (8 * w) < 0) = false := by simp; omega
    simp only [hw.1, h1, g1, g2, g3, g4, Bool.not_true, cond_true, cond_false]
noncomputable def k168 : SF Tryz.prog := SF.nums (g := 168) (F := numF (appN [u64S, i64S, i64S] [u64S] bits_Turn)) (numN_ok (mkF_ok (C := CC168) rfl Tryz.func168 h168 Tryz.ntmps168.symm) n168) (numF_num _)
/-! 129: xflag_bit -/
def xflag_bit (v i : Int) : Bool := decide (i ≥ 0) && (decide (i < 64) && (band .u64 (ishr .u64 v i) 1 == 1))
noncomputable def CC129 : Ctx := mkC (P := Tryz.prog) [] [] 18 []
noncomputable def f129 : Int → Int → Heap → Option (Bool × Heap) := hide (mkF CC129 Tryz.f129 [u64S, i64S] [boS])
theorem h129 : IsF CC129 Tryz.f129 [u64S, i64S] [boS] f129 := hide_eq _
theorem q129 : ∀ (v i : Int) (H : Heap), f129 v i H = bif decide (i ≥ 0) then bif decide (i < 64) then bif decide (i < 0) then none else some (band IntKind.u64 (ishr IntKind.u64 v i) 1 == 1, H) else some (false, H) else some (false, H) := by intros; exact (congrFun (qF h129 (mkC_nat _ _ _ _) _ _) _).trans (by kernel_rfl)
theorem n129 : ∀ (v i : Int) (H : Heap), f129 v i H = some (xflag_bit v i, H) := by
  intro v i H
  rw [q129]
  unfold xflag_bit
  cases h : decide (i ≥ 0)
  · rfl
  · have : decide (i < 0) = false := by simp at h ⊢; omega
    rw [this]
    cases decide (i < 64) <;> rfl
noncomputable def k129 : SF Tryz.prog := SF.nums (g := 129) (F := numF (appN [u64S, i64S] [boS] xflag_bit)) (numN_ok (mkF_ok (C := CC129) rfl Tryz.func129 h129 Tryz.ntmps129.symm) n129) (numF_num _)
/-! 128: xflag_turn -/
def xflag_turn (op a k : Int) (t : TThunk) (w : Int) : Int × TThunk :=
  bif op == 26 then (bits_Turn a k w, ⟨xflag_bit (bits_Turn a k w) 0, !(bits_Neg (bits_Turn a k w) w == xflag_bit (bits_Turn a k w) 0), t.res⟩)
  else (bits_Turn a (IntKind.i64.wrap (0 - k)) w, ⟨bits_Neg (bits_Turn a (IntKind.i64.wrap (0 - k)) w) w, !(bits_Neg (bits_Turn a (IntKind.i64.wrap (0 - k)) w) w == xflag_bit (bits_Turn a (IntKind.i64.wrap (0 - k)) w) (IntKind.i64.wrap (IntKind.i64.wrap (8 * w) - 2))), t.res⟩)
noncomputable def CC128 : Ctx := mkC (P := Tryz.prog) [k168, k129, k130] [8, 11] 54 []
noncomputable def f128 : Int → Int → Int → TThunk → Int → Heap → Option ((Int × TThunk) × Heap) := hide (mkF CC128 Tryz.f128 [i64S, u64S, i64S, .g _ cThunk, i64S] [u64S, .g _ cThunk])
theorem h128 : IsF CC128 Tryz.f128 [i64S, u64S, i64S, .g _ cThunk, i64S] [u64S, .g _ cThunk] f128 := hide_eq _
theorem q128 : ∀ (op a k : Int) (t : TThunk) (w : Int) (H : Heap), f128 op a k t w H = bif op == 26 then some ((bits_Turn a k w, TThunk.mk (xflag_bit (bits_Turn a k w) 0) (!bits_Neg (bits_Turn a k w) w == xflag_bit (bits_Turn a k w) 0) t.res), H) else some ((bits_Turn a (IntKind.i64.wrap (0 - k)) w, TThunk.mk (bits_Neg (bits_Turn a (IntKind.i64.wrap (0 - k)) w) w) (!bits_Neg (bits_Turn a (IntKind.i64.wrap (0 - k)) w) w == xflag_bit (bits_Turn a (IntKind.i64.wrap (0 - k)) w) (IntKind.i64.wrap (IntKind.i64.wrap (8 * w) - 2))) t.res), H) := by intros; exact (congrFun (qF h128 (mkC_nat _ _ _ _) _ _ _ _ _) _).trans (by kernel_rfl)
theorem n128 : ∀ (op a k : Int) (t : TThunk) (w : Int) (H : Heap), f128 op a k t w H = some (xflag_turn op a k t w, H) := by
  intro op a k t w H
  rw [q128]
  unfold xflag_turn
  cases op == 26 <;> rfl
noncomputable def k128 : SF Tryz.prog := SF.nums (g := 128) (F := numF (appN [i64S, u64S, i64S, .g _ cThunk, i64S] [u64S, .g _ cThunk] xflag_turn)) (numN_ok (mkF_ok (C := CC128) rfl Tryz.func128 h128 Tryz.ntmps128.symm) n128) (numF_num _)
/-! 76: xflag_Turn -/
theorem band_i64_small (n : Int) {k : Nat} (hk : k < 63) : 0 ≤ band .i64 n (2 ^ k - 1) ∧ band .i64 n (2 ^ k - 1) < 2 ^ k := by
  unfold band
  rw [BitVec.toNat_and]
  simp only [BitVec.toNat_ofInt, IntKind.bits]
  have e64 : ((2 ^ 64 : Nat) : Int) = 18446744073709551616 := rfl
  rw [e64]
  have hp : (2 : Nat) ^ k ≤ 2 ^ 62 := Nat.pow_le_pow_right (by omega) (by omega)
  have h0 : (0 : Nat) < 2 ^ k := Nat.two_pow_pos k
  have hc : ((2 : Int) ^ k) = ((2 ^ k : Nat) : Int) := by simp
  have h1 : (((2 : Int) ^ k - 1) % 18446744073709551616).toNat = 2 ^ k - 1 := by rw [hc]; omega
  rw [h1, Nat.and_two_pow_sub_one_eq_mod, hc]
  have h2 : (n % 18446744073709551616).toNat % 2 ^ k < 2 ^ k := Nat.mod_lt _ h0
  rw [wrap_i64 (by omega) (by omega)]
  omega
def xturnK (op x k : Int) (t : TThunk) (w : Int) : Int × TThunk :=
  bif k == 0 then (x, t)
  else bif decide (op ≤ 27) then xflag_turn op x k t w
  else bif op == 28 then xflag_of (ishl .u64 x k) (xflag_bit x (IntKind.i64.wrap (IntKind.i64.wrap (8 * w) - k))) (!(bits_Neg (ishl .u64 x k) w == xflag_bit x (IntKind.i64.wrap (IntKind.i64.wrap (8 * w) - k)))) w
  else bif op == 29 then xflag_of (ishr .u64 x k) (xflag_bit x (IntKind.i64.wrap (k - 1))) (bits_Neg x w) w
  else xflag_of (IntKind.u64.wrap (ishr .i64 (IntKind.i64.wrap (bits_Sx x w)) k)) (xflag_bit (bits_Sx x w) (IntKind.i64.wrap (k - 1))) false w
def xflag_Turn (op a n : Int) (t : TThunk) (w : Int) : Int × TThunk :=
  bif isW8 w then bif decide (op < 26) then (0, t) else bif decide (op > 30) then (0, t)
    else xturnK op (bits_Zx a w) (bif w == 8 then band .i64 n 63 else band .i64 n 31) t w
  else (0, t)
noncomputable def CC76 : Ctx := mkC (P := Tryz.prog) [k105, k60, k128, k129, k130, k115, k121] [8, 11] 111 []
noncomputable def f76 : Int → Int → Int → TThunk → Int → Heap → Option ((Int × TThunk) × Heap) := hide (mkF CC76 Tryz.f76 [i64S, u64S, i64S, .g _ cThunk, i64S] [u64S, .g _ cThunk])
theorem h76 : IsF CC76 Tryz.f76 [i64S, u64S, i64S, .g _ cThunk, i64S] [u64S, .g _ cThunk] f76 := hide_eq _
theorem q76 : ∀ (op a n : Int) (t : TThunk) (w : Int) (H : Heap), f76 op a n t w H = bif !isW8 w then some ((0, t), H) else bif decide (op < 26) then some ((0, t), H) else bif decide (op > 30) then some ((0, t), H) else bif w == 8 then bif band IntKind.i64 n 63 == 0 then some ((bits_Zx a w, t), H) else bif decide (op ≤ 27) then some (((xflag_turn op (bits_Zx a w) (band IntKind.i64 n 63) t w).1, (xflag_turn op (bits_Zx a w) (band IntKind.i64 n 63) t w).2), H) else bif op == 28 then bif decide (band IntKind.i64 n 63 < 0) then none else some (((xflag_of (ishl IntKind.u64 (bits_Zx a w) (band IntKind.i64 n 63)) (xflag_bit (bits_Zx a w) (IntKind.i64.wrap (IntKind.i64.wrap (8 * w) - band IntKind.i64 n 63))) (!bits_Neg (ishl IntKind.u64 (bits_Zx a w) (band IntKind.i64 n 63)) w == xflag_bit (bits_Zx a w) (IntKind.i64.wrap (IntKind.i64.wrap (8 * w) - band IntKind.i64 n 63))) w).1, (xflag_of (ishl IntKind.u64 (bits_Zx a w) (band IntKind.i64 n 63)) (xflag_bit (bits_Zx a w) (IntKind.i64.wrap (IntKind.i64.wrap (8 * w) - band IntKind.i64 n 63))) (!bits_Neg (ishl IntKind.u64 (bits_Zx a w) (band IntKind.i64 n 63)) w == xflag_bit (bits_Zx a w) (IntKind.i64.wrap (IntKind.i64.wrap (8 * w) - band IntKind.i64 n 63))) w).2), H) else bif op == 29 then bif decide (band IntKind.i64 n 63 < 0) then none else some (((xflag_of (ishr IntKind.u64 (bits_Zx a w) (band IntKind.i64 n 63)) (xflag_bit (bits_Zx a w) (IntKind.i64.wrap (band IntKind.i64 n 63 - 1))) (bits_Neg (bits_Zx a w) w) w).1, (xflag_of (ishr IntKind.u64 (bits_Zx a w) (band IntKind.i64 n 63)) (xflag_bit (bits_Zx a w) (IntKind.i64.wrap (band IntKind.i64 n 63 - 1))) (bits_Neg (bits_Zx a w) w) w).2), H) else bif decide (band IntKind.i64 n 63 < 0) then none else some (((xflag_of (IntKind.u64.wrap (ishr IntKind.i64 (IntKind.i64.wrap (bits_Sx (bits_Zx a w) w)) (band IntKind.i64 n 63))) (xflag_bit (bits_Sx (bits_Zx a w) w) (IntKind.i64.wrap (band IntKind.i64 n 63 - 1))) false w).1, (xflag_of (IntKind.u64.wrap (ishr IntKind.i64 (IntKind.i64.wrap (bits_Sx (bits_Zx a w) w)) (band IntKind.i64 n 63))) (xflag_bit (bits_Sx (bits_Zx a w) w) (IntKind.i64.wrap (band IntKind.i64 n 63 - 1))) false w).2), H) else bif band IntKind.i64 n 31 == 0 then some ((bits_Zx a w, t), H) else bif decide (op ≤ 27) then some (((xflag_turn op (bits_Zx a w) (band IntKind.i64 n 31) t w).1, (xflag_turn op (bits_Zx a w) (band IntKind.i64 n 31) t w).2), H) else bif op == 28 then bif decide (band IntKind.i64 n 31 < 0) then none else some (((xflag_of (ishl IntKind.u64 (bits_Zx a w) (band IntKind.i64 n 31)) (xflag_bit (bits_Zx a w) (IntKind.i64.wrap (IntKind.i64.wrap (8 * w) - band IntKind.i64 n 31))) (!bits_Neg (ishl IntKind.u64 (bits_Zx a w) (band IntKind.i64 n 31)) w == xflag_bit (bits_Zx a w) (IntKind.i64.wrap (IntKind.i64.wrap (8 * w) - band IntKind.i64 n 31))) w).1, (xflag_of (ishl IntKind.u64 (bits_Zx a w) (band IntKind.i64 n 31)) (xflag_bit (bits_Zx a w) (IntKind.i64.wrap (IntKind.i64.wrap (8 * w) - band IntKind.i64 n 31))) (!bits_Neg (ishl IntKind.u64 (bits_Zx a w) (band IntKind.i64 n 31)) w == xflag_bit (bits_Zx a w) (IntKind.i64.wrap (IntKind.i64.wrap (8 * w) - band IntKind.i64 n 31))) w).2), H) else bif op == 29 then bif decide (band IntKind.i64 n 31 < 0) then none else some (((xflag_of (ishr IntKind.u64 (bits_Zx a w) (band IntKind.i64 n 31)) (xflag_bit (bits_Zx a w) (IntKind.i64.wrap (band IntKind.i64 n 31 - 1))) (bits_Neg (bits_Zx a w) w) w).1, (xflag_of (ishr IntKind.u64 (bits_Zx a w) (band IntKind.i64 n 31)) (xflag_bit (bits_Zx a w) (IntKind.i64.wrap (band IntKind.i64 n 31 - 1))) (bits_Neg (bits_Zx a w) w) w).2), H) else bif decide (band IntKind.i64 n 31 < 0) then none else some (((xflag_of (IntKind.u64.wrap (ishr IntKind.i64 (IntKind.i64.wrap (bits_Sx (bits_Zx a w) w)) (band IntKind.i64 n 31))) (xflag_bit (bits_Sx (bits_Zx a w) w) (IntKind.i64.wrap (band IntKind.i64 n 31 - 1))) false w).1, (xflag_of (IntKind.u64.wrap (ishr IntKind.i64 (IntKind.i64.wrap (bits_Sx (bits_Zx a w) w)) (band IntKind.i64 n 31))) (xflag_bit (bits_Sx (bits_Zx a w) w) (IntKind.i64.wrap (band IntKind.i64 n 31 - 1))) false w).2), H) := by intros; exact (congrFun (qF h76 (mkC_nat _ _ _ _) _ _ _ _ _) _).trans (by kernel_rfl)
theorem n76 : ∀ (op a n : Int) (t : TThunk) (w : Int) (H : Heap), f76 op a n t w H = some (xflag_Turn op a n t w, H) := by
  intro op a n t w H
  rw [q76]
  have g1 : decide (band .i64 n 63 < 0) = false := by have := (band_i64_small n (k := 6) (by decide)).1; simpa using this
  have g2 : decide (band .i64 n 31 < 0) = false := by have := (band_i64_small n (k := 5) (by decide)).1; simpa using this
  unfold xflag_Turn
  simp only [g1, g2]
  cases isW8 w
  · rfl
  · cases decide (op < 26)
    · cases decide (op > 30)
      · cases (w == 8)
        · simp only [cond_false, Bool.not_true]
          unfold xturnK
          cases (band .i64 n 31 == 0) <;> cases decide (op ≤ 27) <;> cases (op == 28) <;> cases (op == 29) <;> rfl
        · simp only [cond_false, cond_true, Bool.not_true]
          unfold xturnK
          cases (band .i64 n 63 == 0) <;> cases decide (op ≤ 27) <;> cases (op == 28) <;> cases (op == 29) <;> rfl
      · rfl
    · rfl
noncomputable def k76 : SF Tryz.prog := SF.nums (g := 76) (F := numF (appN [i64S, u64S, i64S, .g _ cThunk, i64S] [u64S, .g _ cThunk] xflag_Turn)) (numN_ok (mkF_ok (C := CC76) rfl Tryz.func76 h76 Tryz.ntmps76.symm) n76) (numF_num _)
/-! 136: xflag_Thunk_Zero -/
def xflag_Thunk_Zero (t : TThunk) : Bool := t.res == 0
noncomputable def CC136 : Ctx := mkC (P := Tryz.prog) [] [1] 6 []
noncomputable def f136 : TThunk → Heap → Option (Bool × Heap) := hide (mkF CC136 Tryz.f136 [.g _ cThunk] [boS])
theorem h136 : IsF CC136 Tryz.f136 [.g _ cThunk] [boS] f136 := hide_eq _
theorem q136 : ∀ (t : TThunk) (H : Heap), f136 t H = some (t.res == 0, H) := by intros; exact (congrFun (qF h136 (mkC_nat _ _ _ _) _) _).trans (by kernel_rfl)
theorem n136 : ∀ (t : TThunk) (H : Heap), f136 t H = some (xflag_Thunk_Zero t, H) := by
  intro t H
  rw [q136]
  rfl
noncomputable def k136 : SF Tryz.prog := SF.nums (g := 136) (F := numF (appN [.g _ cThunk] [boS] xflag_Thunk_Zero)) (numN_ok (mkF_ok (C := CC136) rfl Tryz.func136 h136 Tryz.ntmps136.symm) n136) (numF_num _)
/-! 137: xflag_Thunk_Sign -/
def xflag_Thunk_Sign (t : TThunk) : Bool := decide (IntKind.i64.wrap t.res < 0)
noncomputable def CC137 : Ctx := mkC (P := Tryz.prog) [] [1] 7 []
noncomputable def f137 : TThunk → Heap → Option (Bool × Heap) := hide (mkF CC137 Tryz.f137 [.g _ cThunk] [boS])
theorem h137 : IsF CC137 Tryz.f137 [.g _ cThunk] [boS] f137 := hide_eq _
theorem q137 : ∀ (t : TThunk) (H : Heap), f137 t H = some (decide (IntKind.i64.wrap t.res < 0), H) := by intros; exact (congrFun (qF h137 (mkC_nat _ _ _ _) _) _).trans (by kernel_rfl)
theorem n137 : ∀ (t : TThunk) (H : Heap), f137 t H = some (xflag_Thunk_Sign t, H) := by
  intro t H
  rw [q137]
  rfl
noncomputable def k137 : SF Tryz.prog := SF.nums (g := 137) (F := numF (appN [.g _ cThunk] [boS] xflag_Thunk_Sign)) (numN_ok (mkF_ok (C := CC137) rfl Tryz.func137 h137 Tryz.ntmps137.symm) n137) (numF_num _)
/-! 183: mbits_OnesCount8 -/
noncomputable def CC183 : Ctx := mkC (P := Tryz.prog) [] [] 6 []
noncomputable def f183 : Int → Heap → Option (Int × Heap) := hide (mkF CC183 Tryz.f183 [.c (.i .u8)] [i64S])
theorem h183 : IsF CC183 Tryz.f183 [.c (.i .u8)] [i64S] f183 := hide_eq _
theorem q183 : ∀ (x0 : Int) (H : Heap), f183 x0 H = bif inb x0 256 then [UInt8.ofNat 0, UInt8.ofNat 1, UInt8.ofNat 1, UInt8.ofNat 2, UInt8.ofNat 1, UInt8.ofNat 2, UInt8.ofNat 2, UInt8.ofNat 3, UInt8.ofNat 1, UInt8.ofNat 2, UInt8.ofNat 2, UInt8.ofNat 3, UInt8.ofNat 2, UInt8.ofNat 3, UInt8.ofNat 3, UInt8.ofNat 4, UInt8.ofNat 1, UInt8.ofNat 2, UInt8.ofNat 2, UInt8.ofNat 3, UInt8.ofNat 2, UInt8.ofNat 3, UInt8.ofNat 3, UInt8.ofNat 4, UInt8.ofNat 2, UInt8.ofNat 3, UInt8.ofNat 3, UInt8.ofNat 4, UInt8.ofNat 3, UInt8.ofNat 4, UInt8.ofNat 4, UInt8.ofNat 5, UInt8.ofNat 1, UInt8.ofNat 2, UInt8.ofNat 2, UInt8.ofNat 3, UInt8.ofNat 2, UInt8.ofNat 3, UInt8.ofNat 3, UInt8.ofNat 4, UInt8.ofNat 2, UInt8.ofNat 3, UInt8.ofNat 3, UInt8.ofNat 4, UInt8.ofNat 3, UInt8.ofNat 4, UInt8.ofNat 4, UInt8.ofNat 5, UInt8.ofNat 2, UInt8.ofNat 3, UInt8.ofNat 3, UInt8.ofNat 4, UInt8.ofNat 3, UInt8.ofNat 4, UInt8.ofNat 4, UInt8.ofNat 5, UInt8.ofNat 3, UInt8.ofNat 4, UInt8.ofNat 4, UInt8.ofNat 5, UInt8.ofNat 4, UInt8.ofNat 5, UInt8.ofNat 5, UInt8.ofNat 6, UInt8.ofNat 1, UInt8.ofNat 2, UInt8.ofNat 2, UInt8.ofNat 3, UInt8.ofNat 2, UInt8.ofNat 3, UInt8.ofNat 3, UInt8.ofNat 4, UInt8.ofNat 2, UInt8.ofNat 3, UInt8.ofNat 3, UInt8.ofNat 4, UInt8.ofNat 3, UInt8.ofNat 4, UInt8.ofNat 4, UInt8.ofNat 5, UInt8.ofNat 2, UInt8.ofNat 3, UInt8.ofNat 3, UInt8.ofNat 4, UInt8.ofNat 3, UInt8.ofNat 4, UInt8.ofNat 4, UInt8.ofNat 5, UInt8.ofNat 3, UInt8.ofNat 4, UInt8.ofNat 4, UInt8.ofNat 5, UInt8.ofNat 4, UInt8.ofNat 5, UInt8.ofNat 5, UInt8.ofNat 6, UInt8.ofNat 2, UInt8.ofNat 3, UInt8.ofNat 3, UInt8.ofNat 4, UInt8.ofNat 3, UInt8.ofNat 4, UInt8.ofNat 4, UInt8.ofNat 5, UInt8.ofNat 3, UInt8.ofNat 4, UInt8.ofNat 4, UInt8.ofNat 5, UInt8.ofNat 4, UInt8.ofNat 5, UInt8.ofNat 5, UInt8.ofNat 6, UInt8.ofNat 3, UInt8.ofNat 4, UInt8.ofNat 4, UInt8.ofNat 5, UInt8.ofNat 4, UInt8.ofNat 5, UInt8.ofNat 5, UInt8.ofNat 6, UInt8.ofNat 4, UInt8.ofNat 5, UInt8.ofNat 5, UInt8.ofNat 6, UInt8.ofNat 5, UInt8.ofNat 6, UInt8.ofNat 6, UInt8.ofNat 7, UInt8.ofNat 1, UInt8.ofNat 2, UInt8.ofNat 2, UInt8.ofNat 3, UInt8.ofNat 2, UInt8.ofNat 3, UInt8.ofNat 3, UInt8.ofNat 4, UInt8.ofNat 2, UInt8.ofNat 3, UInt8.ofNat 3, UInt8.ofNat 4, UInt8.ofNat 3, UInt8.ofNat 4, UInt8.ofNat 4, UInt8.ofNat 5, UInt8.ofNat 2, UInt8.ofNat 3, UInt8.ofNat 3, UInt8.ofNat 4, UInt8.ofNat 3, UInt8.ofNat 4, UInt8.ofNat 4, UInt8.ofNat 5, UInt8.ofNat 3, UInt8.ofNat 4, UInt8.ofNat 4, UInt8.ofNat 5, UInt8.ofNat 4, UInt8.ofNat 5, UInt8.ofNat 5, UInt8.ofNat 6, UInt8.ofNat 2, UInt8.ofNat 3, UInt8.ofNat 3, UInt8.ofNat 4, UInt8.ofNat 3, UInt8.ofNat 4, UInt8.ofNat 4, UInt8.ofNat 5, UInt8.ofNat 3, UInt8.ofNat 4, UInt8.ofNat 4, UInt8.ofNat 5, UInt8.ofNat 4, UInt8.ofNat 5, UInt8.ofNat 5, UInt8.ofNat 6, UInt8.ofNat 3, UInt8.ofNat 4, UInt8.ofNat 4, UInt8.ofNat 5, UInt8.ofNat 4, UInt8.ofNat 5, UInt8.ofNat 5, UInt8.ofNat 6, UInt8.ofNat 4, UInt8.ofNat 5, UInt8.ofNat 5, UInt8.ofNat 6, UInt8.ofNat 5, UInt8.ofNat 6, UInt8.ofNat 6, UInt8.ofNat 7, UInt8.ofNat 2, UInt8.ofNat 3, UInt8.ofNat 3, UInt8.ofNat 4, UInt8.ofNat 3, UInt8.ofNat 4, UInt8.ofNat 4, UInt8.ofNat 5, UInt8.ofNat 3, UInt8.ofNat 4, UInt8.ofNat 4, UInt8.ofNat 5, UInt8.ofNat 4, UInt8.ofNat 5, UInt8.ofNat 5, UInt8.ofNat 6, UInt8.ofNat 3, UInt8.ofNat 4, UInt8.ofNat 4, UInt8.ofNat 5, UInt8.ofNat 4, UInt8.ofNat 5, UInt8.ofNat 5, UInt8.ofNat 6, UInt8.ofNat 4, UInt8.ofNat 5, UInt8.ofNat 5, UInt8.ofNat 6, UInt8.ofNat 5, UInt8.ofNat 6, UInt8.ofNat 6, UInt8.ofNat 7, UInt8.ofNat 3, UInt8.ofNat 4, UInt8.ofNat 4, UInt8.ofNat 5, UInt8.ofNat 4, UInt8.ofNat 5, UInt8.ofNat 5, UInt8.ofNat 6, UInt8.ofNat 4, UInt8.ofNat 5, UInt8.ofNat 5, UInt8.ofNat 6, UInt8.ofNat 5, UInt8.ofNat 6, UInt8.ofNat 6, UInt8.ofNat 7, UInt8.ofNat 4, UInt8.ofNat 5, UInt8.ofNat 5, UInt8.ofNat 6, UInt8.ofNat 5, UInt8.ofNat 6, UInt8.ofNat 6, UInt8.ofNat 7, UInt8.ofNat 5, UInt8.ofNat 6, UInt8.ofNat 6, UInt8.ofNat 7, UInt8.ofNat 6, UInt8.ofNat 7, UInt8.ofNat 7, UInt8.ofNat 8][x0.toNat]?.bind fun v0 => some (IntKind.i64.wrap (↑v0.toNat : Int), H) else none := by intros; exact (congrFun (qF h183 (mkC_nat _ _ _ _) _) _).trans (by kernel_rfl)
noncomputable def k183 : SF Tryz.prog := SF.spec (g := 183) (enc := encR [i64S]) (S := appS [.c (.i .u8)] f183) (mkF_ok (C := CC183) rfl Tryz.func183 h183 Tryz.ntmps183.symm)
def pop8 : List UInt8 := [UInt8.ofNat 0, UInt8.ofNat 1, UInt8.ofNat 1, UInt8.ofNat 2, UInt8.ofNat 1, UInt8.ofNat 2, UInt8.ofNat 2, UInt8.ofNat 3, UInt8.ofNat 1, UInt8.ofNat 2, UInt8.ofNat 2, UInt8.ofNat 3, UInt8.ofNat 2, UInt8.ofNat 3, UInt8.ofNat 3, UInt8.ofNat 4, UInt8.ofNat 1, UInt8.ofNat 2, UInt8.ofNat 2, UInt8.ofNat 3, UInt8.ofNat 2, UInt8.ofNat 3, UInt8.ofNat 3, UInt8.ofNat 4, UInt8.ofNat 2, UInt8.ofNat 3, UInt8.ofNat 3, UInt8.ofNat 4, UInt8.ofNat 3, UInt8.ofNat 4, UInt8.ofNat 4, UInt8.ofNat 5, UInt8.ofNat 1, UInt8.ofNat 2, UInt8.ofNat 2, UInt8.ofNat 3, UInt8.ofNat 2, UInt8.ofNat 3, UInt8.ofNat 3, UInt8.ofNat 4, UInt8.ofNat 2, UInt8.ofNat 3, UInt8.ofNat 3, UInt8.ofNat 4, UInt8.ofNat 3, UInt8.ofNat 4, UInt8.ofNat 4, UInt8.ofNat 5, UInt8.ofNat 2, UInt8.ofNat 3, UInt8.ofNat 3, UInt8.ofNat 4, UInt8.ofNat 3, UInt8.ofNat 4, UInt8.ofNat 4, UInt8.ofNat 5, UInt8.ofNat 3, UInt8.ofNat 4, UInt8.ofNat 4, UInt8.ofNat 5, UInt8.ofNat 4, UInt8.ofNat 5, UInt8.ofNat 5, UInt8.ofNat 6, UInt8.ofNat 1, UInt8.ofNat 2, UInt8.ofNat 2, UInt8.ofNat 3, UInt8.ofNat 2, UInt8.ofNat 3, UInt8.ofNat 3, UInt8.ofNat 4, UInt8.ofNat 2, UInt8.ofNat 3, UInt8.ofNat 3, UInt8.ofNat 4, UInt8.ofNat 3, UInt8.ofNat 4, UInt8.ofNat 4, UInt8.ofNat 5, UInt8.ofNat 2, UInt8.ofNat 3, UInt8.ofNat 3, UInt8.ofNat 4, UInt8.ofNat 3, UInt8.ofNat 4, UInt8.ofNat 4, UInt8.ofNat 5, UInt8.ofNat 3, UInt8.ofNat 4, UInt8.ofNat 4, UInt8.ofNat 5, UInt8.ofNat 4, UInt8.ofNat 5, UInt8.ofNat 5, UInt8.ofNat 6, UInt8.ofNat 2, UInt8.ofNat 3, UInt8.ofNat 3, UInt8.ofNat 4, UInt8.ofNat 3, UInt8.ofNat 4, UInt8.ofNat 4, UInt8.ofNat 5, UInt8.ofNat 3, UInt8.ofNat 4, UInt8.ofNat 4, UInt8.ofNat 5, UInt8.ofNat 4, UInt8.ofNat 5, UInt8.ofNat 5, UInt8.ofNat 6, UInt8.ofNat 3, UInt8.ofNat 4, UInt8.ofNat 4, UInt8.ofNat 5, UInt8.ofNat 4, UInt8.ofNat 5, UInt8.ofNat 5, UInt8.ofNat 6, UInt8.ofNat 4, UInt8.ofNat 5, UInt8.ofNat 5, UInt8.ofNat 6, UInt8.ofNat 5, UInt8.ofNat 6, UInt8.ofNat 6, UInt8.ofNat 7, UInt8.ofNat 1, UInt8.ofNat 2, UInt8.ofNat 2, UInt8.ofNat 3, UInt8.ofNat 2, UInt8.ofNat 3, UInt8.ofNat 3, UInt8.ofNat 4, UInt8.ofNat 2, UInt8.ofNat 3, UInt8.ofNat 3, UInt8.ofNat 4, UInt8.ofNat 3, UInt8.ofNat 4, UInt8.ofNat 4, UInt8.ofNat 5, UInt8.ofNat 2, UInt8.ofNat 3, UInt8.ofNat 3, UInt8.ofNat 4, UInt8.ofNat 3, UInt8.ofNat 4, UInt8.ofNat 4, UInt8.ofNat 5, UInt8.ofNat 3, UInt8.ofNat 4, UInt8.ofNat 4, UInt8.ofNat 5, UInt8.ofNat 4, UInt8.ofNat 5, UInt8.ofNat 5, UInt8.ofNat 6, UInt8.ofNat 2, UInt8.ofNat 3, UInt8.ofNat 3, UInt8.ofNat 4, UInt8.ofNat 3, UInt8.ofNat 4, UInt8.ofNat 4, UInt8.ofNat 5, UInt8.ofNat 3, UInt8.ofNat 4, UInt8.ofNat 4, UInt8.ofNat 5, UInt8.ofNat 4, UInt8.ofNat 5, UInt8.ofNat 5, UInt8.ofNat 6, UInt8.ofNat 3, UInt8.ofNat 4, UInt8.ofNat 4, UInt8.ofNat 5, UInt8.ofNat 4, UInt8.ofNat 5, UInt8.ofNat 5, UInt8.ofNat 6, UInt8.ofNat 4, UInt8.ofNat 5, UInt8.ofNat 5, UInt8.ofNat 6, UInt8.ofNat 5, UInt8.ofNat 6, UInt8.ofNat 6, UInt8.ofNat 7, UInt8.ofNat 2, UInt8.ofNat 3, UInt8.ofNat 3, UInt8.ofNat 4, UInt8.ofNat 3, UInt8.ofNat 4, UInt8.ofNat 4, UInt8.ofNat 5, UInt8.ofNat 3, UInt8.ofNat 4, UInt8.ofNat 4, UInt8.ofNat 5, UInt8.ofNat 4, UInt8.ofNat 5, UInt8.ofNat 5, UInt8.ofNat 6, UInt8.ofNat 3, UInt8.ofNat 4, UInt8.ofNat 4, UInt8.ofNat 5, UInt8.ofNat 4, UInt8.ofNat 5, UInt8.ofNat 5, UInt8.ofNat 6, UInt8.ofNat 4, UInt8.ofNat 5, UInt8.ofNat 5, UInt8.ofNat 6, UInt8.ofNat 5, UInt8.ofNat 6, UInt8.ofNat 6, UInt8.ofNat 7, UInt8.ofNat 3, UInt8.ofNat 4, UInt8.ofNat 4, UInt8.ofNat 5, UInt8.ofNat 4, UInt8.ofNat 5, UInt8.ofNat 5, UInt8.ofNat 6, UInt8.ofNat 4, UInt8.ofNat 5, UInt8.ofNat 5, UInt8.ofNat 6, UInt8.ofNat 5, UInt8.ofNat 6, UInt8.ofNat 6, UInt8.ofNat 7, UInt8.ofNat 4, UInt8.ofNat 5, UInt8.ofNat 5, UInt8.ofNat 6, UInt8.ofNat 5, UInt8.ofNat 6, UInt8.ofNat 6, UInt8.ofNat 7, UInt8.ofNat 5, UInt8.ofNat 6, UInt8.ofNat 6, UInt8.ofNat 7, UInt8.ofNat 6, UInt8.ofNat 7, UInt8.ofNat 7, UInt8.ofNat 8]
def mbits_OnesCount8 (x : Int) : Int := (pop8[x.toNat]?).elim 0 fun v => IntKind.i64.wrap v.toNat
theorem n183 (x : Int) (H : Heap) (hg : inb x 256 = true) : f183 x H = some (mbits_OnesCount8 x, H) := by
  rw [q183]
  rw [hg]
  have hx : 0 ≤ x ∧ x < 256 := by simpa [inb] using hg
  unfold mbits_OnesCount8
  have hl : x.toNat < pop8.length := by have : pop8.length = 256 := rfl; omega
  show ((pop8[x.toNat]?).bind fun v0 => some (IntKind.i64.wrap ((v0.toNat : Nat) : Int), H)) = _
  rw [List.getElem?_eq_getElem hl]
  rfl
/-! 170: bits_Even -/
def bits_Even (v : Int) : Bool := (mbits_OnesCount8 (IntKind.u8.wrap v)).tmod 2 == 0
noncomputable def CC170 : Ctx := mkC (P := Tryz.prog) [k183] [] 8 []
noncomputable def f170 : Int → Heap → Option (Bool × Heap) := hide (mkF CC170 Tryz.f170 [u64S] [boS])
theorem h170 : IsF CC170 Tryz.f170 [u64S] [boS] f170 := hide_eq _
theorem q170 : ∀ (v : Int) (H : Heap), f170 v H = (f183 (IntKind.u8.wrap v) H).bind fun v0 => some (Int.tmod v0.1 2 == 0, v0.2) := by intros; exact (congrFun (qF h170 (mkC_nat _ _ _ _) _) _).trans (by kernel_rfl)
theorem n170 : ∀ (v : Int) (H : Heap), f170 v H = some (bits_Even v, H) := by
  intro v H
  rw [q170]
  have g : inb (IntKind.u8.wrap v) 256 = true := by rw [wrap_u8]; simp [inb]; omega
  rw [n183 _ _ g]; rfl
noncomputable def k170 : SF Tryz.prog := SF.nums (g := 170) (F := numF (appN [u64S] [boS] bits_Even)) (numN_ok (mkF_ok (C := CC170) rfl Tryz.func170 h170 Tryz.ntmps170.symm) n170) (numF_num _)
/-! 135: xflag_Thunk_Even -/
def xflag_Thunk_Even (t : TThunk) : Bool := bits_Even t.res
noncomputable def CC135 : Ctx := mkC (P := Tryz.prog) [k170] [1] 6 []
noncomputable def f135 : TThunk → Heap → Option (Bool × Heap) := hide (mkF CC135 Tryz.f135 [.g _ cThunk] [boS])
theorem h135 : IsF CC135 Tryz.f135 [.g _ cThunk] [boS] f135 := hide_eq _
theorem q135 : ∀ (t : TThunk) (H : Heap), f135 t H = some (bits_Even t.res, H) := by intros; exact (congrFun (qF h135 (mkC_nat _ _ _ _) _) _).trans (by kernel_rfl)
theorem n135 : ∀ (t : TThunk) (H : Heap), f135 t H = some (xflag_Thunk_Even t, H) := by
  intro t H
  rw [q135]
  rfl
noncomputable def k135 : SF Tryz.prog := SF.nums (g := 135) (F := numF (appN [.g _ cThunk] [boS] xflag_Thunk_Even)) (numN_ok (mkF_ok (C := CC135) rfl Tryz.func135 h135 Tryz.ntmps135.symm) n135) (numF_num _)
/-! 169: xflag_Thunk_less -/
def xflag_Thunk_less (t : TThunk) : Bool := !(xflag_Thunk_Sign t == t.O)
noncomputable def CC169 : Ctx := mkC (P := Tryz.prog) [k137] [1] 8 []
noncomputable def f169 : TThunk → Heap → Option (Bool × Heap) := hide (mkF CC169 Tryz.f169 [.g _ cThunk] [boS])
theorem h169 : IsF CC169 Tryz.f169 [.g _ cThunk] [boS] f169 := hide_eq _
theorem q169 : ∀ (t : TThunk) (H : Heap), f169 t H = some (!xflag_Thunk_Sign t == t.O, H) := by intros; exact (congrFun (qF h169 (mkC_nat _ _ _ _) _) _).trans (by kernel_rfl)
theorem n169 : ∀ (t : TThunk) (H : Heap), f169 t H = some (xflag_Thunk_less t, H) := by
  intro t H
  rw [q169]
  rfl
noncomputable def k169 : SF Tryz.prog := SF.nums (g := 169) (F := numF (appN [.g _ cThunk] [boS] xflag_Thunk_less)) (numN_ok (mkF_ok (C := CC169) rfl Tryz.func169 h169 Tryz.ntmps169.symm) n169) (numF_num _)
/-! 132: xflag_Thunk_Cond -/
def condK (odd : Bool) (e : Int) (t : TThunk) : Bool :=
  bif e == 0 then !(t.O == odd) else bif e == 2 then !(t.C == odd) else bif e == 4 then !(xflag_Thunk_Zero t == odd)
  else bif e == 6 then !((t.C || xflag_Thunk_Zero t) == odd) else bif e == 8 then !(xflag_Thunk_Sign t == odd)
  else bif e == 10 then !(xflag_Thunk_Even t == odd) else bif e == 12 then !(xflag_Thunk_less t == odd)
  else bif e == 14 then !((xflag_Thunk_Zero t || xflag_Thunk_less t) == odd) else false
def xflag_Thunk_Cond (t : TThunk) (cc : Int) : Bool := condK (band .i64 cc 1 == 1) (bandn .i64 cc 1) t
noncomputable def CC132 : Ctx := mkC (P := Tryz.prog) [k136, k137, k135, k169] [2] 53 []
noncomputable def f132 : TThunk → Int → Heap → Option (Bool × Heap) := hide (mkF CC132 Tryz.f132 [.g _ cThunk, i64S] [boS])
theorem h132 : IsF CC132 Tryz.f132 [.g _ cThunk, i64S] [boS] f132 := hide_eq _
theorem q132 : ∀ (t : TThunk) (cc : Int) (H : Heap), f132 t cc H = bif bandn IntKind.i64 cc 1 == 0 then some (!t.O == (band IntKind.i64 cc 1 == 1), H) else bif bandn IntKind.i64 cc 1 == 2 then some (!t.C == (band IntKind.i64 cc 1 == 1), H) else bif bandn IntKind.i64 cc 1 == 4 then some (!xflag_Thunk_Zero t == (band IntKind.i64 cc 1 == 1), H) else bif bandn IntKind.i64 cc 1 == 6 then bif t.C then some (!true == (band IntKind.i64 cc 1 == 1), H) else some (!xflag_Thunk_Zero t == (band IntKind.i64 cc 1 == 1), H) else bif bandn IntKind.i64 cc 1 == 8 then some (!xflag_Thunk_Sign t == (band IntKind.i64 cc 1 == 1), H) else bif bandn IntKind.i64 cc 1 == 10 then some (!xflag_Thunk_Even t == (band IntKind.i64 cc 1 == 1), H) else bif bandn IntKind.i64 cc 1 == 12 then some (!xflag_Thunk_less t == (band IntKind.i64 cc 1 == 1), H) else bif bandn IntKind.i64 cc 1 == 14 then bif xflag_Thunk_Zero t then some (!true == (band IntKind.i64 cc 1 == 1), H) else some (!xflag_Thunk_less t == (band IntKind.i64 cc 1 == 1), H) else some (false, H) := by intros; exact (congrFun (qF h132 (mkC_nat _ _ _ _) _ _) _).trans (by kernel_rfl)
theorem n132 : ∀ (t : TThunk) (cc : Int) (H : Heap), f132 t cc H = some (xflag_Thunk_Cond t cc, H) := by
  intro t cc H
  rw [q132]
  unfold xflag_Thunk_Cond condK
  cases (bandn .i64 cc 1 == 0) <;> cases (bandn .i64 cc 1 == 2) <;> cases (bandn .i64 cc 1 == 4) <;> try rfl
  cases (bandn .i64 cc 1 == 6)
  · cases (bandn .i64 cc 1 == 8) <;> cases (bandn .i64 cc 1 == 10) <;> cases (bandn .i64 cc 1 == 12) <;> try rfl
    cases (bandn .i64 cc 1 == 14)
    · rfl
    · cases xflag_Thunk_Zero t <;> rfl
  · cases t.C <;> rfl
noncomputable def k132 : SF Tryz.prog := SF.nums (g := 132) (F := numF (appN [.g _ cThunk, i64S] [boS] xflag_Thunk_Cond)) (numN_ok (mkF_ok (C := CC132) rfl Tryz.func132 h132 Tryz.ntmps132.symm) n132) (numF_num _)
/-! 81: xflag_Thunk_Pack -/
noncomputable def CC81 : Ctx := mkC (P := Tryz.prog) [k135, k136, k137] [1, 5] 35 [(3, ⟨[3, 21, 22, 23], [], [3], []⟩)]
noncomputable def f81 : TThunk → Heap → Option (Int × Heap) := hide (mkF CC81 Tryz.f81 [.g _ cThunk] [u64S])
theorem h81 : IsF CC81 Tryz.f81 [.g _ cThunk] [u64S] f81 := hide_eq _
noncomputable def P81_3 : Code := (Code.l (Code.l (Code.r (Code.l (Code.r (Code.r (bodyOf Tryz.f81)))))))
def S81_3 (t3 : Int) (t21 : SO) (t22 t23 : Int) (H : Heap) : St := ⟨[(3, .c (Cell.int .u64 t3)), (21, .c (Cell.slice t21)), (22, .c (Cell.int .i64 t22)), (23, .c (Cell.int .i64 t23))], [], H⟩
noncomputable def D81_3 : Nat → St → Option (AExit × St) := dOf CC81 P81_3
noncomputable def LL81_3 : St → Option (AExit × St) := loopsD CC81 P81_3
theorem LL81_3_of (m : Nat) (hm : m < 18446744073709551616) (s : St) : ∃ n, LL81_3 s = D81_3 (n + m + 1) s := loopsD_of _ _ _ m hm
def X81_3 (x0 : Int) (H : Heap) : St := St.mk [(3, AV.c (Cell.int .u64 x0))] [] H
noncomputable def J81_3 : AExit × St → Option (Int × Heap) := fun p => blockK 0 (seqK (execL CC81 (lpD CC81) (Code.r (Code.r (Code.r (bodyOf Tryz.f81))))) (retA CC81 [ResultVar.tmp 2] (decF (decR [u64S])))) p.1 p.2
theorem D81_3_s : ∀ (n : Nat) (t3 : Int) (t21 : SO) (t22 t23 : Int) (H : Heap), D81_3 (n + 1) (S81_3 t3 t21 t22 t23 H) = bif decide (t23 < t22) then t21.bind fun v1 => bif inb t23 v1.len && v1.esz == 2 then ldStructisboolbituint64 H v1.id (v1.off + t23.toNat * 2) fun v0 => bif v0.is then D81_3 n (S81_3 (bor IntKind.u64 t3 v0.bit) t21 t22 (IntKind.i64.wrap (t23 + 1)) H) else D81_3 n (S81_3 t3 t21 t22 (IntKind.i64.wrap (t23 + 1)) H) else none else some (AExit.exit 0, X81_3 t3 H) := by intros; exact (dOf_s (mkC_nat _ _ _ _) _ _ _).trans (by kernel_rfl)
theorem q81 : ∀ (t : TThunk) (H : Heap), f81 t H = (LL81_3 (S81_3 514 (some (Sl.mk (List.length H) 0 5 5 2)) (slen (some (Sl.mk (List.length H) 0 5 5 2))) 0 (H ++ [Blk.row [Cell.bool t.C, Cell.int .u64 1, Cell.bool (xflag_Thunk_Even t), Cell.int .u64 4, Cell.bool (xflag_Thunk_Zero t), Cell.int .u64 64, Cell.bool (xflag_Thunk_Sign t), Cell.int .u64 128, Cell.bool t.O, Cell.int .u64 2048] false]))).bind J81_3 := by intros; exact (congrFun (qF h81 (mkC_nat _ _ _ _) _) _).trans (by kernel_rfl)
theorem J81_3_0 : ∀ (x0 : Int) (H : Heap), J81_3 (AExit.exit 0, X81_3 x0 H) = some (x0, H) := by intros; kernel_rfl
noncomputable def k81 : SF Tryz.prog := SF.spec (g := 81) (enc := encR [u64S]) (S := appS [.g _ cThunk] f81) (mkF_ok (C := CC81) rfl Tryz.func81 h81 Tryz.ntmps81.symm)
