/- Layer 10: steps: the functions that StepStack reaches. -/
import Derived.Test.YtnipccoenalnkaaGreatSt0
import Derived.KernelRfl
namespace Go.Proofs.YtnipccoenalnkaaGreat
open Go Go.Proofs.YtnipccoenalnkaaGreat.Ab
set_option linter.unusedVariables false
set_option linter.unusedSimpArgs false
set_option maxRecDepth 100000
noncomputable section
/-! 8: L10_Start_worlds -/
noncomputable def CC8 : Ctx := { P := Tryz.prog, own := [1, 8], fns := [(33, specF enc33 (sem33 f33)), (32, specF enc32 (sem32 f32)), (31, specF enc31 (sem31 f31)), (30, specF enc30 (sem30 f30)), (29, specF enc29 (sem29 f29)), (28, specF enc28 (sem28 f28)), (22, specF enc22 (sem22 f22))], nt := 71, nums := [], live := [(7, ⟨[4, 5, 6, 24, 25, 26], [], [5, 6], []⟩)] }
theorem good8 : Callees Tryz.prog CC8.fns [] CC8.nums := (((((((Callees.nil Tryz.prog).cons ok22 (specF_nat _ _)).cons ok28 (specF_nat _ _)).cons ok29 (specF_nat _ _)).cons ok30 (specF_nat _ _)).cons ok31 (specF_nat _ _)).cons ok32 (specF_nat _ _)).cons ok33 (specF_nat _ _)
theorem hN8 : CtxNat CC8 := good8.ctx rfl rfl rfl
def enc8 (r : PO × PO) : List TV := [.c (Cell.ptr (r.1)), .c (Cell.ptr (r.2))]
def dec8 : AV → Option (PO × PO)
  | .tup [.c (Cell.ptr q0), .c (Cell.ptr q1)] => some (q0, q1)
  | _ => none
theorem de8 (v : AV) (r : PO × PO) (h : dec8 v = some r) : v = oneOf (enc8 r) := by
  unfold dec8 at h
  split at h
  · cases h; rfl
  · cases h
abbrev Ty8 := Int → Int → Int → Int → Int → Int → Int → Int → Int → Int → Int → Int → Int → Int → Int → Int → Bool → Bool → Int → Int → SO → SO → Bool → Heap → Option ((PO × PO) × Heap)
def sem8 (f : Ty8) : List TV → Heap → Option ((PO × PO) × Heap)
  | [.agg [Cell.int .u64 s0, Cell.int .u64 s1, Cell.int .u64 s2, Cell.int .u64 s3, Cell.int .u64 s4, Cell.int .u64 s5, Cell.int .u64 s6, Cell.int .u64 s7, Cell.int .u64 s8, Cell.int .u64 s9, Cell.int .u64 s10, Cell.int .u64 s11, Cell.int .u64 s12, Cell.int .u64 s13, Cell.int .u64 s14, Cell.int .u64 s15, Cell.bool s16, Cell.bool s17, Cell.int .u64 s18, Cell.int .u64 s19, Cell.slice s20, Cell.slice s21, Cell.bool s22]], H => f s0 s1 s2 s3 s4 s5 s6 s7 s8 s9 s10 s11 s12 s13 s14 s15 s16 s17 s18 s19 s20 s21 s22 H
  | _, _ => none
noncomputable def F08 : Ty8 := fun s0 s1 s2 s3 s4 s5 s6 s7 s8 s9 s10 s11 s12 s13 s14 s15 s16 s17 s18 s19 s20 s21 s22 H => fnA CC8 Tryz.f8.results.toList (bodyOf Tryz.f8) _ [.agg [Cell.int .u64 s0, Cell.int .u64 s1, Cell.int .u64 s2, Cell.int .u64 s3, Cell.int .u64 s4, Cell.int .u64 s5, Cell.int .u64 s6, Cell.int .u64 s7, Cell.int .u64 s8, Cell.int .u64 s9, Cell.int .u64 s10, Cell.int .u64 s11, Cell.int .u64 s12, Cell.int .u64 s13, Cell.int .u64 s14, Cell.int .u64 s15, Cell.bool s16, Cell.bool s17, Cell.int .u64 s18, Cell.int .u64 s19, Cell.slice s20, Cell.slice s21, Cell.bool s22]] H (decF dec8)
noncomputable def f8 : Ty8 := hide F08
theorem f8_eq : f8 = F08 := hide_eq _
noncomputable def P8_7 : Code := (Code.l (Code.l (Code.r (Code.l (Code.r (Code.r (Code.r (Code.r (bodyOf Tryz.f8)))))))))
def S8_7 (t4 : SO) (t5 t6 : PO) (t24 : SO) (t25 t26 : Int) (H : Heap) : St := ⟨[(4, .c (Cell.slice t4)), (5, .c (Cell.ptr t5)), (6, .c (Cell.ptr t6)), (24, .c (Cell.slice t24)), (25, .c (Cell.int .i64 t25)), (26, .c (Cell.int .i64 t26))], [], H⟩
noncomputable def D8_7 (n : Nat) (t4 : SO) (t5 t6 : PO) (t24 : SO) (t25 t26 : Int) (H : Heap) : Option (AExit × St) := loopN (exec CC8 P8_7) (keepOf CC8.live P8_7) n (S8_7 t4 t5 t6 t24 t25 t26 H) retD
noncomputable def LL8_7 (t4 : SO) (t5 t6 : PO) (t24 : SO) (t25 t26 : Int) (H : Heap) : Option (AExit × St) := loopsD CC8 P8_7 (S8_7 t4 t5 t6 t24 t25 t26 H)
theorem LL8_7_of (m : Nat) (hm : m < 18446744073709551616) (t4 : SO) (t5 t6 : PO) (t24 : SO) (t25 t26 : Int) (H : Heap) : ∃ n, LL8_7 t4 t5 t6 t24 t25 t26 H = D8_7 (n + m + 1) t4 t5 t6 t24 t25 t26 H := loopsD_of _ _ _ m hm
def X8_7 (x0 : PO) (x1 : PO) (H : Heap) : St := { env := [(5, AV.c (Cell.ptr x0)), (6, AV.c (Cell.ptr x1))], loc := [], heap := H }
noncomputable def J8_7 : AExit × St → Option ((Option (Nat × Nat) × Option (Nat × Nat)) × Heap) := fun p => blockK 0 (seqK (execL CC8 (lpD CC8) (Code.r (Code.r (Code.r (Code.r (Code.r (bodyOf Tryz.f8))))))) (retA CC8 [ResultVar.tmp 2, ResultVar.tmp 3] (decF dec8))) p.1 p.2
theorem D8_7_s : ∀ (n : Nat) (t4 : SO) (t5 t6 : PO) (t24 : SO) (t25 t26 : Int) (H : Heap), D8_7 (n + 1) t4 t5 t6 t24 t25 t26 H = bif decide (t26 < t25) then t24.bind fun v23 => bif inb t26 v23.len && v23.esz == 7 then (H.get v23.id (v23.off + t26.toNat * 7)).bind fun v22 => (H.get v23.id (v23.off + t26.toNat * 7 + 1)).bind fun v21 => (H.get v23.id (v23.off + t26.toNat * 7 + 1 + 1)).bind fun v20 => (H.get v23.id (v23.off + t26.toNat * 7 + 1 + 1 + 1)).bind fun v19 => (H.get v23.id (v23.off + t26.toNat * 7 + 1 + 1 + 1 + 1)).bind fun v18 => (H.get v23.id (v23.off + t26.toNat * 7 + 1 + 1 + 1 + 1 + 1)).bind fun v17 => (H.get v23.id (v23.off + t26.toNat * 7 + 1 + 1 + 1 + 1 + 1 + 1)).bind fun v16 => (Cell.toInt .i64 v22).bind fun v15 => (Cell.toInt .i64 v21).bind fun v14 => v20.toBool.bind fun v13 => (Cell.toInt .i64 v19).bind fun v12 => (Cell.toInt .u64 v18).bind fun v11 => (Cell.toInt .i64 v17).bind fun v10 => (Cell.toInt .u64 v16).bind fun v9 => bif decide (t26 ≥ 12) then some (AExit.exit 0, X8_7 t5 t6 H) else bif v13 then bif decide (slen t4 > 0) then t4.bind fun v4 => bif inb 0 v4.len && v4.esz == 5 then (H.get v4.id (v4.off + 0 + 0)).bind fun v3 => (Cell.toInt .u64 v3).bind fun v2 => (f32 t5 v14 (IntKind.u64.wrap (v2 + v11.tmod 72)) v10 v9 H).bind fun v1 => (f33 t6 v14 (IntKind.u64.wrap (v2 + v11.tmod 72)) v10 v9 v1.2).bind fun v0 => D8_7 n t4 t5 t6 t24 t25 (IntKind.i64.wrap (t26 + 1)) v0.2 else none else (f32 t5 v14 v11 v10 v9 H).bind fun v6 => (f33 t6 v14 v11 v10 v9 v6.2).bind fun v5 => D8_7 n t4 t5 t6 t24 t25 (IntKind.i64.wrap (t26 + 1)) v5.2 else (f32 t5 v14 v11 v10 v9 H).bind fun v8 => (f33 t6 v14 v11 v10 v9 v8.2).bind fun v7 => D8_7 n t4 t5 t6 t24 t25 (IntKind.i64.wrap (t26 + 1)) v7.2 else none else some (AExit.exit 0, X8_7 t5 t6 H) := by intros; exact (loopN_stepD hN8 _ _ _ _).trans (by kernel_rfl)
theorem q8 : ∀ (s0 s1 s2 s3 s4 s5 s6 s7 s8 s9 s10 s11 s12 s13 s14 s15 : Int) (s16 s17 : Bool) (s18 s19 : Int) (s20 s21 : SO) (s22 : Bool) (H : Heap), f8 s0 s1 s2 s3 s4 s5 s6 s7 s8 s9 s10 s11 s12 s13 s14 s15 s16 s17 s18 s19 s20 s21 s22 H = (f22 s20 H).bind fun v28 => (f28 v28.1 v28.2).bind fun v27 => (f29 v28.1 v27.2).bind fun v26 => bif s22 then (f30 v27.1 0 1 v26.2).bind fun v25 => (f31 v26.1 0 1 v25.2).bind fun v24 => (LL8_7 v28.1 v27.1 v26.1 s21 (slen s21) 0 v24.2).bind J8_7 else (LL8_7 v28.1 v27.1 v26.1 s21 (slen s21) 0 v26.2).bind J8_7 := by intros; rw [f8_eq]; exact (fnA_lpD hN8 ..).trans (by kernel_rfl)
theorem J8_7_0 : ∀ (x0 x1 : PO) (H : Heap), J8_7 (AExit.exit 0, X8_7 x0 x1 H) = some ((x0, x1), H) := by intros; kernel_rfl
theorem ok8 : FnOk Tryz.prog 8 (specF enc8 (sem8 f8)) := by
  refine spec_ok (C := CC8) good8 rfl rfl rfl (by kernel_rfl) Tryz.func8 (c := bodyOf Tryz.f8) (by kernel_rfl) (by kernel_rfl) (Nat.le_of_eq Tryz.ntmps8.symm) dec8 enc8 de8 _ ?_
  intro args H q h
  unfold sem8 at h
  split at h
  · rw [f8_eq] at h; exact h
  · cases h
/-! 9: L10_Ours -/
noncomputable def CC9 : Ctx := { P := Tryz.prog, own := [1], fns := [], nt := 19, nums := [], live := [] }
theorem good9 : Callees Tryz.prog CC9.fns [] CC9.nums := Callees.nil Tryz.prog
theorem hN9 : CtxNat CC9 := good9.ctx rfl rfl rfl
def enc9 (r : PO) : List TV := [.c (Cell.ptr (r))]
def dec9 : AV → Option (PO)
  | .c (Cell.ptr q0) => some (q0)
  | _ => none
theorem de9 (v : AV) (r : PO) (h : dec9 v = some r) : v = oneOf (enc9 r) := by
  unfold dec9 at h
  split at h
  · cases h; rfl
  · cases h
abbrev Ty9 := Int → Int → Int → Int → Int → Int → Int → Int → Int → Int → Int → Int → Int → Int → Int → Int → Bool → Bool → Int → Int → Heap → Option ((PO) × Heap)
def sem9 (f : Ty9) : List TV → Heap → Option ((PO) × Heap)
  | [.agg [Cell.int .u64 c0, Cell.int .u64 c1, Cell.int .u64 c2, Cell.int .u64 c3, Cell.int .u64 c4, Cell.int .u64 c5, Cell.int .u64 c6, Cell.int .u64 c7, Cell.int .u64 c8, Cell.int .u64 c9, Cell.int .u64 c10, Cell.int .u64 c11, Cell.int .u64 c12, Cell.int .u64 c13, Cell.int .u64 c14, Cell.int .u64 c15, Cell.bool c16, Cell.bool c17, Cell.int .u64 c18, Cell.int .u64 c19]], H => f c0 c1 c2 c3 c4 c5 c6 c7 c8 c9 c10 c11 c12 c13 c14 c15 c16 c17 c18 c19 H
  | _, _ => none
noncomputable def F09 : Ty9 := fun c0 c1 c2 c3 c4 c5 c6 c7 c8 c9 c10 c11 c12 c13 c14 c15 c16 c17 c18 c19 H => fnA CC9 Tryz.f9.results.toList (bodyOf Tryz.f9) _ [.agg [Cell.int .u64 c0, Cell.int .u64 c1, Cell.int .u64 c2, Cell.int .u64 c3, Cell.int .u64 c4, Cell.int .u64 c5, Cell.int .u64 c6, Cell.int .u64 c7, Cell.int .u64 c8, Cell.int .u64 c9, Cell.int .u64 c10, Cell.int .u64 c11, Cell.int .u64 c12, Cell.int .u64 c13, Cell.int .u64 c14, Cell.int .u64 c15, Cell.bool c16, Cell.bool c17, Cell.int .u64 c18, Cell.int .u64 c19]] H (decF dec9)
noncomputable def f9 : Ty9 := hide F09
theorem f9_eq : f9 = F09 := hide_eq _
theorem q9 : ∀ (c0 c1 c2 c3 c4 c5 c6 c7 c8 c9 c10 c11 c12 c13 c14 c15 : Int) (c16 c17 : Bool) (c18 c19 : Int) (H : Heap), f9 c0 c1 c2 c3 c4 c5 c6 c7 c8 c9 c10 c11 c12 c13 c14 c15 c16 c17 c18 c19 H = some (some (List.length H, 0), H ++ [Blk.row [Cell.int .u64 c0, Cell.int .u64 c1, Cell.int .u64 c2, Cell.int .u64 c3, Cell.int .u64 c4, Cell.int .u64 c5, Cell.int .u64 c6, Cell.int .u64 c7, Cell.int .u64 c8, Cell.int .u64 c9, Cell.int .u64 c10, Cell.int .u64 c11, Cell.int .u64 c12, Cell.int .u64 c13, Cell.int .u64 c14, Cell.int .u64 c15, Cell.bool c16, Cell.bool c17, Cell.int .u64 c18, Cell.int .u64 c19] false]) := by intros; rw [f9_eq]; exact (fnA_lpD hN9 ..).trans (by kernel_rfl)
theorem ok9 : FnOk Tryz.prog 9 (specF enc9 (sem9 f9)) := by
  refine spec_ok (C := CC9) good9 rfl rfl rfl (by kernel_rfl) Tryz.func9 (c := bodyOf Tryz.f9) (by kernel_rfl) (by kernel_rfl) (Nat.le_of_eq Tryz.ntmps9.symm) dec9 enc9 de9 _ ?_
  intro args H q h
  unfold sem9 at h
  split at h
  · rw [f9_eq] at h; exact h
  · cases h
/-! 10: L10_Plain -/
noncomputable def CC10 : Ctx := { P := Tryz.prog, own := [2], fns := [], nt := 28, nums := [], live := [] }
theorem good10 : Callees Tryz.prog CC10.fns [] CC10.nums := Callees.nil Tryz.prog
theorem hN10 : CtxNat CC10 := good10.ctx rfl rfl rfl
def enc10 (r : Int × Int × Int × Int × Int × Int × Int × Int × Int × Int × Int × Int × Int × Int × Int × Int × Bool × Bool × Int × Int) : List TV := [.agg [Cell.int .u64 (r.1), Cell.int .u64 (r.2.1), Cell.int .u64 (r.2.2.1), Cell.int .u64 (r.2.2.2.1), Cell.int .u64 (r.2.2.2.2.1), Cell.int .u64 (r.2.2.2.2.2.1), Cell.int .u64 (r.2.2.2.2.2.2.1), Cell.int .u64 (r.2.2.2.2.2.2.2.1), Cell.int .u64 (r.2.2.2.2.2.2.2.2.1), Cell.int .u64 (r.2.2.2.2.2.2.2.2.2.1), Cell.int .u64 (r.2.2.2.2.2.2.2.2.2.2.1), Cell.int .u64 (r.2.2.2.2.2.2.2.2.2.2.2.1), Cell.int .u64 (r.2.2.2.2.2.2.2.2.2.2.2.2.1), Cell.int .u64 (r.2.2.2.2.2.2.2.2.2.2.2.2.2.1), Cell.int .u64 (r.2.2.2.2.2.2.2.2.2.2.2.2.2.2.1), Cell.int .u64 (r.2.2.2.2.2.2.2.2.2.2.2.2.2.2.2.1), Cell.bool (r.2.2.2.2.2.2.2.2.2.2.2.2.2.2.2.2.1), Cell.bool (r.2.2.2.2.2.2.2.2.2.2.2.2.2.2.2.2.2.1), Cell.int .u64 (r.2.2.2.2.2.2.2.2.2.2.2.2.2.2.2.2.2.2.1), Cell.int .u64 (r.2.2.2.2.2.2.2.2.2.2.2.2.2.2.2.2.2.2.2)]]
def dec10 : AV → Option (Int × Int × Int × Int × Int × Int × Int × Int × Int × Int × Int × Int × Int × Int × Int × Int × Bool × Bool × Int × Int)
  | .agg [Cell.int .u64 q0, Cell.int .u64 q1, Cell.int .u64 q2, Cell.int .u64 q3, Cell.int .u64 q4, Cell.int .u64 q5, Cell.int .u64 q6, Cell.int .u64 q7, Cell.int .u64 q8, Cell.int .u64 q9, Cell.int .u64 q10, Cell.int .u64 q11, Cell.int .u64 q12, Cell.int .u64 q13, Cell.int .u64 q14, Cell.int .u64 q15, Cell.bool q16, Cell.bool q17, Cell.int .u64 q18, Cell.int .u64 q19] => some (q0, q1, q2, q3, q4, q5, q6, q7, q8, q9, q10, q11, q12, q13, q14, q15, q16, q17, q18, q19)
  | _ => none
theorem de10 (v : AV) (r : Int × Int × Int × Int × Int × Int × Int × Int × Int × Int × Int × Int × Int × Int × Int × Int × Bool × Bool × Int × Int) (h : dec10 v = some r) : v = oneOf (enc10 r) := by
  unfold dec10 at h
  split at h
  · cases h; rfl
  · cases h
abbrev Ty10 := PO → Heap → Option ((Int × Int × Int × Int × Int × Int × Int × Int × Int × Int × Int × Int × Int × Int × Int × Int × Bool × Bool × Int × Int) × Heap)
def sem10 (f : Ty10) : List TV → Heap → Option ((Int × Int × Int × Int × Int × Int × Int × Int × Int × Int × Int × Int × Int × Int × Int × Int × Bool × Bool × Int × Int) × Heap)
  | [.c (Cell.ptr c)], H => f c H
  | _, _ => none
noncomputable def F010 : Ty10 := fun c H => fnA CC10 Tryz.f10.results.toList (bodyOf Tryz.f10) _ [.c (Cell.ptr c)] H (decF dec10)
noncomputable def f10 : Ty10 := hide F010
theorem f10_eq : f10 = F010 := hide_eq _
theorem q10 : ∀ (c : PO) (H : Heap), f10 c H = c.bind fun v44 => (H.get v44.1 (v44.2 + 0)).bind fun v43 => (H.get v44.1 (v44.2 + 0 + 1)).bind fun v42 => (H.get v44.1 (v44.2 + 0 + 1 + 1)).bind fun v41 => (H.get v44.1 (v44.2 + 0 + 1 + 1 + 1)).bind fun v40 => (H.get v44.1 (v44.2 + 0 + 1 + 1 + 1 + 1)).bind fun v39 => (H.get v44.1 (v44.2 + 0 + 1 + 1 + 1 + 1 + 1)).bind fun v38 => (H.get v44.1 (v44.2 + 0 + 1 + 1 + 1 + 1 + 1 + 1)).bind fun v37 => (H.get v44.1 (v44.2 + 0 + 1 + 1 + 1 + 1 + 1 + 1 + 1)).bind fun v36 => (H.get v44.1 (v44.2 + 0 + 1 + 1 + 1 + 1 + 1 + 1 + 1 + 1)).bind fun v35 => (H.get v44.1 (v44.2 + 0 + 1 + 1 + 1 + 1 + 1 + 1 + 1 + 1 + 1)).bind fun v34 => (H.get v44.1 (v44.2 + 0 + 1 + 1 + 1 + 1 + 1 + 1 + 1 + 1 + 1 + 1)).bind fun v33 => (H.get v44.1 (v44.2 + 0 + 1 + 1 + 1 + 1 + 1 + 1 + 1 + 1 + 1 + 1 + 1)).bind fun v32 => (H.get v44.1 (v44.2 + 0 + 1 + 1 + 1 + 1 + 1 + 1 + 1 + 1 + 1 + 1 + 1 + 1)).bind fun v31 => (H.get v44.1 (v44.2 + 0 + 1 + 1 + 1 + 1 + 1 + 1 + 1 + 1 + 1 + 1 + 1 + 1 + 1)).bind fun v30 => (H.get v44.1 (v44.2 + 0 + 1 + 1 + 1 + 1 + 1 + 1 + 1 + 1 + 1 + 1 + 1 + 1 + 1 + 1)).bind fun v29 => (H.get v44.1 (v44.2 + 0 + 1 + 1 + 1 + 1 + 1 + 1 + 1 + 1 + 1 + 1 + 1 + 1 + 1 + 1 + 1)).bind fun v28 => (Cell.toInt .u64 v43).bind fun v27 => (Cell.toInt .u64 v42).bind fun v26 => (Cell.toInt .u64 v41).bind fun v25 => (Cell.toInt .u64 v40).bind fun v24 => (Cell.toInt .u64 v39).bind fun v23 => (Cell.toInt .u64 v38).bind fun v22 => (Cell.toInt .u64 v37).bind fun v21 => (Cell.toInt .u64 v36).bind fun v20 => (Cell.toInt .u64 v35).bind fun v19 => (Cell.toInt .u64 v34).bind fun v18 => (Cell.toInt .u64 v33).bind fun v17 => (Cell.toInt .u64 v32).bind fun v16 => (Cell.toInt .u64 v31).bind fun v15 => (Cell.toInt .u64 v30).bind fun v14 => (Cell.toInt .u64 v29).bind fun v13 => (Cell.toInt .u64 v28).bind fun v12 => c.bind fun v11 => (H.get v11.1 (v11.2 + 16 + 0)).bind fun v10 => v10.toBool.bind fun v9 => c.bind fun v8 => (H.get v8.1 (v8.2 + 16 + 1)).bind fun v7 => v7.toBool.bind fun v6 => c.bind fun v5 => (H.get v5.1 (v5.2 + 16 + 2)).bind fun v4 => (Cell.toInt .u64 v4).bind fun v3 => c.bind fun v2 => (H.get v2.1 (v2.2 + 19)).bind fun v1 => (Cell.toInt .u64 v1).bind fun v0 => some ((v27, v26, v25, v24, v23, v22, v21, v20, v19, v18, v17, v16, v15, v14, v13, v12, v9, v6, v3, v0), H) := by intros; rw [f10_eq]; exact (fnA_lpD hN10 ..).trans (by kernel_rfl)
theorem ok10 : FnOk Tryz.prog 10 (specF enc10 (sem10 f10)) := by
  refine spec_ok (C := CC10) good10 rfl rfl rfl (by kernel_rfl) Tryz.func10 (c := bodyOf Tryz.f10) (by kernel_rfl) (by kernel_rfl) (Nat.le_of_eq Tryz.ntmps10.symm) dec10 enc10 de10 _ ?_
  intro args H q h
  unfold sem10 at h
  split at h
  · rw [f10_eq] at h; exact h
  · cases h
/-! 11: xinst_R -/
noncomputable def CC11 : Ctx := { P := Tryz.prog, own := [2], fns := [], nt := 5, nums := [], live := [] }
theorem good11 : Callees Tryz.prog CC11.fns [] CC11.nums := Callees.nil Tryz.prog
theorem hN11 : CtxNat CC11 := good11.ctx rfl rfl rfl
def enc11 (r : Int × Int × Int × Int × Int × Int) : List TV := [.agg [Cell.int .i64 (r.1), Cell.int .i64 (r.2.1), Cell.int .i64 (r.2.2.1), Cell.int .i64 (r.2.2.2.1), Cell.int .i64 (r.2.2.2.2.1), Cell.int .i64 (r.2.2.2.2.2)]]
def dec11 : AV → Option (Int × Int × Int × Int × Int × Int)
  | .agg [Cell.int .i64 q0, Cell.int .i64 q1, Cell.int .i64 q2, Cell.int .i64 q3, Cell.int .i64 q4, Cell.int .i64 q5] => some (q0, q1, q2, q3, q4, q5)
  | _ => none
theorem de11 (v : AV) (r : Int × Int × Int × Int × Int × Int) (h : dec11 v = some r) : v = oneOf (enc11 r) := by
  unfold dec11 at h
  split at h
  · cases h; rfl
  · cases h
abbrev Ty11 := Int → Heap → Option ((Int × Int × Int × Int × Int × Int) × Heap)
def sem11 (f : Ty11) : List TV → Heap → Option ((Int × Int × Int × Int × Int × Int) × Heap)
  | [.c (Cell.int .i64 reg)], H => f reg H
  | _, _ => none
noncomputable def F011 : Ty11 := fun reg H => fnA CC11 Tryz.f11.results.toList (bodyOf Tryz.f11) _ [.c (Cell.int .i64 reg)] H (decF dec11)
noncomputable def f11 : Ty11 := hide F011
theorem f11_eq : f11 = F011 := hide_eq _
theorem q11 : ∀ (reg : Int) (H : Heap), f11 reg H = some ((1, reg, 0, 0, 0, 0), H) := by intros; rw [f11_eq]; exact (fnA_lpD hN11 ..).trans (by kernel_rfl)
theorem ok11 : FnOk Tryz.prog 11 (specF enc11 (sem11 f11)) := by
  refine spec_ok (C := CC11) good11 rfl rfl rfl (by kernel_rfl) Tryz.func11 (c := bodyOf Tryz.f11) (by kernel_rfl) (by kernel_rfl) (Nat.le_of_eq Tryz.ntmps11.symm) dec11 enc11 de11 _ ?_
  intro args H q h
  unfold sem11 at h
  split at h
  · rw [f11_eq] at h; exact h
  · cases h
/-! 52: xinst_Inst_in -/
noncomputable def CC52 : Ctx := { P := Tryz.prog, own := [3], fns := [], nt := 17, nums := [], live := [] }
theorem good52 : Callees Tryz.prog CC52.fns [] CC52.nums := Callees.nil Tryz.prog
theorem hN52 : CtxNat CC52 := good52.ctx rfl rfl rfl
def enc52 (r : Bool) : List TV := [.c (Cell.bool (r))]
def dec52 : AV → Option (Bool)
  | .c (Cell.bool q0) => some (q0)
  | _ => none
theorem de52 (v : AV) (r : Bool) (h : dec52 v = some r) : v = oneOf (enc52 r) := by
  unfold dec52 at h
  split at h
  · cases h; rfl
  · cases h
abbrev Ty52 := Int → Int → Int → Int → Int → Int → Int → Int → Int → Int → Int → Int → Int → Int → Int → Int → Int → Bool → Bool → Int → Int → Int → Heap → Option (Bool × Heap)
def sem52 (f : Ty52) : List TV → Heap → Option (Bool × Heap)
  | [.agg [Cell.int .i64 i0, Cell.int .i64 i1, Cell.int .i64 i2, Cell.int .i64 i3, Cell.int .i64 i4, Cell.int .i64 i5, Cell.int .i64 i6, Cell.int .i64 i7, Cell.int .i64 i8, Cell.int .i64 i9, Cell.int .i64 i10, Cell.int .i64 i11, Cell.int .i64 i12, Cell.int .i64 i13, Cell.int .i64 i14, Cell.int .i64 i15, Cell.int .i64 i16, Cell.bool i17, Cell.bool i18, Cell.int .i64 i19], .c (Cell.int .i64 lo), .c (Cell.int .i64 hi)], H => f i0 i1 i2 i3 i4 i5 i6 i7 i8 i9 i10 i11 i12 i13 i14 i15 i16 i17 i18 i19 lo hi H
  | _, _ => none
noncomputable def F052 : Ty52 := fun i0 i1 i2 i3 i4 i5 i6 i7 i8 i9 i10 i11 i12 i13 i14 i15 i16 i17 i18 i19 lo hi H => fnA CC52 Tryz.f52.results.toList (bodyOf Tryz.f52) _ [.agg [Cell.int .i64 i0, Cell.int .i64 i1, Cell.int .i64 i2, Cell.int .i64 i3, Cell.int .i64 i4, Cell.int .i64 i5, Cell.int .i64 i6, Cell.int .i64 i7, Cell.int .i64 i8, Cell.int .i64 i9, Cell.int .i64 i10, Cell.int .i64 i11, Cell.int .i64 i12, Cell.int .i64 i13, Cell.int .i64 i14, Cell.int .i64 i15, Cell.int .i64 i16, Cell.bool i17, Cell.bool i18, Cell.int .i64 i19], .c (Cell.int .i64 lo), .c (Cell.int .i64 hi)] H (decF dec52)
noncomputable def f52 : Ty52 := hide F052
theorem f52_eq : f52 = F052 := hide_eq _
theorem q52 : ∀ (i0 i1 i2 i3 i4 i5 i6 i7 i8 i9 i10 i11 i12 i13 i14 i15 i16 : Int) (i17 i18 : Bool) (i19 lo hi : Int) (H : Heap), f52 i0 i1 i2 i3 i4 i5 i6 i7 i8 i9 i10 i11 i12 i13 i14 i15 i16 i17 i18 i19 lo hi H = bif decide (i0 ≥ lo) then some (decide (i0 ≤ hi), H) else some (false, H) := by intros; rw [f52_eq]; exact (fnA_lpD hN52 ..).trans (by kernel_rfl)
theorem ok52 : FnOk Tryz.prog 52 (specF enc52 (sem52 f52)) := by
  refine spec_ok (C := CC52) good52 rfl rfl rfl (by kernel_rfl) Tryz.func52 (c := bodyOf Tryz.f52) (by kernel_rfl) (by kernel_rfl) (Nat.le_of_eq Tryz.ntmps52.symm) dec52 enc52 de52 _ ?_
  intro args H q h
  unfold sem52 at h
  split at h
  · rw [f52_eq] at h; exact h
  · cases h
/-! 64: xinst_Inst_locked -/
noncomputable def CC64 : Ctx := { P := Tryz.prog, own := [1], fns := [(52, specF enc52 (sem52 f52))], nt := 41, nums := [], live := [] }
theorem good64 : Callees Tryz.prog CC64.fns [] CC64.nums := (Callees.nil Tryz.prog).cons ok52 (specF_nat _ _)
theorem hN64 : CtxNat CC64 := good64.ctx rfl rfl rfl
def enc64 (r : Bool) : List TV := [.c (Cell.bool (r))]
def dec64 : AV → Option (Bool)
  | .c (Cell.bool q0) => some (q0)
  | _ => none
theorem de64 (v : AV) (r : Bool) (h : dec64 v = some r) : v = oneOf (enc64 r) := by
  unfold dec64 at h
  split at h
  · cases h; rfl
  · cases h
abbrev Ty64 := Int → Int → Int → Int → Int → Int → Int → Int → Int → Int → Int → Int → Int → Int → Int → Int → Int → Bool → Bool → Int → Heap → Option (Bool × Heap)
def sem64 (f : Ty64) : List TV → Heap → Option (Bool × Heap)
  | [.agg [Cell.int .i64 i0, Cell.int .i64 i1, Cell.int .i64 i2, Cell.int .i64 i3, Cell.int .i64 i4, Cell.int .i64 i5, Cell.int .i64 i6, Cell.int .i64 i7, Cell.int .i64 i8, Cell.int .i64 i9, Cell.int .i64 i10, Cell.int .i64 i11, Cell.int .i64 i12, Cell.int .i64 i13, Cell.int .i64 i14, Cell.int .i64 i15, Cell.int .i64 i16, Cell.bool i17, Cell.bool i18, Cell.int .i64 i19]], H => f i0 i1 i2 i3 i4 i5 i6 i7 i8 i9 i10 i11 i12 i13 i14 i15 i16 i17 i18 i19 H
  | _, _ => none
noncomputable def F064 : Ty64 := fun i0 i1 i2 i3 i4 i5 i6 i7 i8 i9 i10 i11 i12 i13 i14 i15 i16 i17 i18 i19 H => fnA CC64 Tryz.f64.results.toList (bodyOf Tryz.f64) _ [.agg [Cell.int .i64 i0, Cell.int .i64 i1, Cell.int .i64 i2, Cell.int .i64 i3, Cell.int .i64 i4, Cell.int .i64 i5, Cell.int .i64 i6, Cell.int .i64 i7, Cell.int .i64 i8, Cell.int .i64 i9, Cell.int .i64 i10, Cell.int .i64 i11, Cell.int .i64 i12, Cell.int .i64 i13, Cell.int .i64 i14, Cell.int .i64 i15, Cell.int .i64 i16, Cell.bool i17, Cell.bool i18, Cell.int .i64 i19]] H (decF dec64)
noncomputable def f64 : Ty64 := hide F064
theorem f64_eq : f64 = F064 := hide_eq _
theorem q64 : ∀ (i0 i1 i2 i3 i4 i5 i6 i7 i8 i9 i10 i11 i12 i13 i14 i15 i16 : Int) (i17 i18 : Bool) (i19 : Int) (H : Heap), f64 i0 i1 i2 i3 i4 i5 i6 i7 i8 i9 i10 i11 i12 i13 i14 i15 i16 i17 i18 i19 H = bif i18 then (f52 i0 i1 i2 i3 i4 i5 i6 i7 i8 i9 i10 i11 i12 i13 i14 i15 i16 i17 i18 i19 42 43 H).bind fun v3 => bif !v3.1 then some (false, v3.2) else bif decide (i19 < 0) then some (false, v3.2) else bif decide (i19 > 15) then some (false, v3.2) else bif !i17 then some (true, v3.2) else bif i3 == 2 then (f52 i0 i1 i2 i3 i4 i5 i6 i7 i8 i9 i10 i11 i12 i13 i14 i15 i16 i17 i18 i19 1 7 v3.2).bind fun v2 => bif v2.1 then some (true, v2.2) else (f52 i0 i1 i2 i3 i4 i5 i6 i7 i8 i9 i10 i11 i12 i13 i14 i15 i16 i17 i18 i19 16 19 v2.2).bind fun v1 => bif v1.1 then some (true, v1.2) else (f52 i0 i1 i2 i3 i4 i5 i6 i7 i8 i9 i10 i11 i12 i13 i14 i15 i16 i17 i18 i19 31 33 v1.2).bind fun v0 => some (v0.1, v0.2) else some (false, v3.2) else bif decide (i19 < 0) then some (false, H) else bif decide (i19 > 15) then some (false, H) else bif !i17 then some (true, H) else bif i3 == 2 then (f52 i0 i1 i2 i3 i4 i5 i6 i7 i8 i9 i10 i11 i12 i13 i14 i15 i16 i17 i18 i19 1 7 H).bind fun v6 => bif v6.1 then some (true, v6.2) else (f52 i0 i1 i2 i3 i4 i5 i6 i7 i8 i9 i10 i11 i12 i13 i14 i15 i16 i17 i18 i19 16 19 v6.2).bind fun v5 => bif v5.1 then some (true, v5.2) else (f52 i0 i1 i2 i3 i4 i5 i6 i7 i8 i9 i10 i11 i12 i13 i14 i15 i16 i17 i18 i19 31 33 v5.2).bind fun v4 => some (v4.1, v4.2) else some (false, H) := by intros; rw [f64_eq]; exact (fnA_lpD hN64 ..).trans (by kernel_rfl)
theorem ok64 : FnOk Tryz.prog 64 (specF enc64 (sem64 f64)) := by
  refine spec_ok (C := CC64) good64 rfl rfl rfl (by kernel_rfl) Tryz.func64 (c := bodyOf Tryz.f64) (by kernel_rfl) (by kernel_rfl) (Nat.le_of_eq Tryz.ntmps64.symm) dec64 enc64 de64 _ ?_
  intro args H q h
  unfold sem64 at h
  split at h
  · rw [f64_eq] at h; exact h
  · cases h
/-! 65: xinst_Inst_plain -/
noncomputable def CC65 : Ctx := { P := Tryz.prog, own := [4], fns := [], nt := 41, nums := [], live := [] }
theorem good65 : Callees Tryz.prog CC65.fns [] CC65.nums := Callees.nil Tryz.prog
theorem hN65 : CtxNat CC65 := good65.ctx rfl rfl rfl
def enc65 (r : Bool) : List TV := [.c (Cell.bool (r))]
def dec65 : AV → Option (Bool)
  | .c (Cell.bool q0) => some (q0)
  | _ => none
theorem de65 (v : AV) (r : Bool) (h : dec65 v = some r) : v = oneOf (enc65 r) := by
  unfold dec65 at h
  split at h
  · cases h; rfl
  · cases h
abbrev Ty65 := Int → Int → Int → Int → Int → Int → Int → Int → Int → Int → Int → Int → Int → Int → Int → Int → Int → Bool → Bool → Int → Bool → Bool → Bool → Heap → Option (Bool × Heap)
def sem65 (f : Ty65) : List TV → Heap → Option (Bool × Heap)
  | [.agg [Cell.int .i64 i0, Cell.int .i64 i1, Cell.int .i64 i2, Cell.int .i64 i3, Cell.int .i64 i4, Cell.int .i64 i5, Cell.int .i64 i6, Cell.int .i64 i7, Cell.int .i64 i8, Cell.int .i64 i9, Cell.int .i64 i10, Cell.int .i64 i11, Cell.int .i64 i12, Cell.int .i64 i13, Cell.int .i64 i14, Cell.int .i64 i15, Cell.int .i64 i16, Cell.bool i17, Cell.bool i18, Cell.int .i64 i19], .c (Cell.bool imm), .c (Cell.bool cc), .c (Cell.bool w2)], H => f i0 i1 i2 i3 i4 i5 i6 i7 i8 i9 i10 i11 i12 i13 i14 i15 i16 i17 i18 i19 imm cc w2 H
  | _, _ => none
noncomputable def F065 : Ty65 := fun i0 i1 i2 i3 i4 i5 i6 i7 i8 i9 i10 i11 i12 i13 i14 i15 i16 i17 i18 i19 imm cc w2 H => fnA CC65 Tryz.f65.results.toList (bodyOf Tryz.f65) _ [.agg [Cell.int .i64 i0, Cell.int .i64 i1, Cell.int .i64 i2, Cell.int .i64 i3, Cell.int .i64 i4, Cell.int .i64 i5, Cell.int .i64 i6, Cell.int .i64 i7, Cell.int .i64 i8, Cell.int .i64 i9, Cell.int .i64 i10, Cell.int .i64 i11, Cell.int .i64 i12, Cell.int .i64 i13, Cell.int .i64 i14, Cell.int .i64 i15, Cell.int .i64 i16, Cell.bool i17, Cell.bool i18, Cell.int .i64 i19], .c (Cell.bool imm), .c (Cell.bool cc), .c (Cell.bool w2)] H (decF dec65)
noncomputable def f65 : Ty65 := hide F065
theorem f65_eq : f65 = F065 := hide_eq _
theorem q65 : ∀ (i0 i1 i2 i3 i4 i5 i6 i7 i8 i9 i10 i11 i12 i13 i14 i15 i16 : Int) (i17 i18 : Bool) (i19 : Int) (imm cc w2 : Bool) (H : Heap), f65 i0 i1 i2 i3 i4 i5 i6 i7 i8 i9 i10 i11 i12 i13 i14 i15 i16 i17 i18 i19 imm cc w2 H = bif imm then bif cc then bif decide (i16 ≥ 0) then bif decide (i16 ≤ 15) then bif w2 then some (true, H) else some (i2 == 0, H) else bif i16 == 0 then bif w2 then some (true, H) else some (i2 == 0, H) else some (false, H) else bif i16 == 0 then bif w2 then some (true, H) else some (i2 == 0, H) else some (false, H) else bif i16 == 0 then bif w2 then some (true, H) else some (i2 == 0, H) else some (false, H) else bif i15 == 0 then bif cc then bif decide (i16 ≥ 0) then bif decide (i16 ≤ 15) then bif w2 then some (true, H) else some (i2 == 0, H) else bif i16 == 0 then bif w2 then some (true, H) else some (i2 == 0, H) else some (false, H) else bif i16 == 0 then bif w2 then some (true, H) else some (i2 == 0, H) else some (false, H) else bif i16 == 0 then bif w2 then some (true, H) else some (i2 == 0, H) else some (false, H) else some (false, H) := by intros; rw [f65_eq]; exact (fnA_lpD hN65 ..).trans (by kernel_rfl)
theorem ok65 : FnOk Tryz.prog 65 (specF enc65 (sem65 f65)) := by
  refine spec_ok (C := CC65) good65 rfl rfl rfl (by kernel_rfl) Tryz.func65 (c := bodyOf Tryz.f65) (by kernel_rfl) (by kernel_rfl) (Nat.le_of_eq Tryz.ntmps65.symm) dec65 enc65 de65 _ ?_
  intro args H q h
  unfold sem65 at h
  split at h
  · rw [f65_eq] at h; exact h
  · cases h
/-! 160: bits_Fits -/
noncomputable def CC160 : Ctx := { P := Tryz.prog, own := [], fns := [], nt := 21, nums := [], live := [] }
theorem good160 : Callees Tryz.prog CC160.fns [] CC160.nums := Callees.nil Tryz.prog
theorem hN160 : CtxNat CC160 := good160.ctx rfl rfl rfl
def enc160 (r : Bool) : List TV := [.c (Cell.bool (r))]
def dec160 : AV → Option (Bool)
  | .c (Cell.bool q0) => some (q0)
  | _ => none
theorem de160 (v : AV) (r : Bool) (h : dec160 v = some r) : v = oneOf (enc160 r) := by
  unfold dec160 at h
  split at h
  · cases h; rfl
  · cases h
abbrev Ty160 := Int → Int → Heap → Option (Bool × Heap)
def sem160 (f : Ty160) : List TV → Heap → Option (Bool × Heap)
  | [.c (Cell.int .i64 v), .c (Cell.int .i64 n)], H => f v n H
  | _, _ => none
noncomputable def F0160 : Ty160 := fun v n H => fnA CC160 Tryz.f160.results.toList (bodyOf Tryz.f160) _ [.c (Cell.int .i64 v), .c (Cell.int .i64 n)] H (decF dec160)
noncomputable def f160 : Ty160 := hide F0160
theorem f160_eq : f160 = F0160 := hide_eq _
theorem q160 : ∀ (v n : Int) (H : Heap), f160 v n H = bif decide (n < 1) then some (false, H) else bif decide (n > 64) then some (false, H) else bif decide (IntKind.i64.wrap (64 - n) < 0) then none else bif decide (IntKind.i64.wrap (64 - n) < 0) then none else some (ishr IntKind.i64 (ishl IntKind.i64 v (IntKind.i64.wrap (64 - n))) (IntKind.i64.wrap (64 - n)) == v, H) := by intros; rw [f160_eq]; exact (fnA_lpD hN160 ..).trans (by kernel_rfl)
theorem ok160 : FnOk Tryz.prog 160 (specF enc160 (sem160 f160)) := by
  refine spec_ok (C := CC160) good160 rfl rfl rfl (by kernel_rfl) Tryz.func160 (c := bodyOf Tryz.f160) (by kernel_rfl) (by kernel_rfl) (Nat.le_of_eq Tryz.ntmps160.symm) dec160 enc160 de160 _ ?_
  intro args H q h
  unfold sem160 at h
  split at h
  · rw [f160_eq] at h; exact h
  · cases h
/-! 179: xinst_Addr_may -/
noncomputable def CC179 : Ctx := { P := Tryz.prog, own := [1], fns := [(105, specF enc105 (sem105 f105)), (160, specF enc160 (sem160 f160))], nt := 46, nums := [], live := [] }
theorem good179 : Callees Tryz.prog CC179.fns [] CC179.nums := ((Callees.nil Tryz.prog).cons ok160 (specF_nat _ _)).cons ok105 (specF_nat _ _)
def enc179 (r : Bool) : List TV := [.c (Cell.bool (r))]
def dec179 : AV → Option (Bool)
  | .c (Cell.bool q0) => some (q0)
  | _ => none
theorem de179 (v : AV) (r : Bool) (h : dec179 v = some r) : v = oneOf (enc179 r) := by
  unfold dec179 at h
  split at h
  · cases h; rfl
  · cases h
abbrev Ty179 := Int → Int → Int → Int → Heap → Option (Bool × Heap)
def sem179 (f : Ty179) : List TV → Heap → Option (Bool × Heap)
  | [.agg [Cell.int .i64 a0, Cell.int .i64 a1, Cell.int .i64 a2, Cell.int .i64 a3]], H => f a0 a1 a2 a3 H
  | _, _ => none
noncomputable def F0179 : Ty179 := fun a0 a1 a2 a3 H => fnA CC179 Tryz.f179.results.toList (bodyOf Tryz.f179) _ [.agg [Cell.int .i64 a0, Cell.int .i64 a1, Cell.int .i64 a2, Cell.int .i64 a3]] H (decF dec179)
noncomputable def f179 : Ty179 := hide F0179
theorem f179_eq : f179 = F0179 := hide_eq _
theorem ok179 : FnOk Tryz.prog 179 (specF enc179 (sem179 f179)) := by
  refine spec_ok (C := CC179) good179 rfl rfl rfl (by kernel_rfl) Tryz.func179 (c := bodyOf Tryz.f179) (by kernel_rfl) (by kernel_rfl) (Nat.le_of_eq Tryz.ntmps179.symm) dec179 enc179 de179 _ ?_
  intro args H q h
  unfold sem179 at h
  split at h
  · rw [f179_eq] at h; exact h
  · cases h
/-! 159: xinst_Opd_may -/
noncomputable def CC159 : Ctx := { P := Tryz.prog, own := [1], fns := [(179, specF enc179 (sem179 f179))], nt := 39, nums := [], live := [] }
theorem good159 : Callees Tryz.prog CC159.fns [] CC159.nums := (Callees.nil Tryz.prog).cons ok179 (specF_nat _ _)
theorem hN159 : CtxNat CC159 := good159.ctx rfl rfl rfl
def enc159 (r : Bool) : List TV := [.c (Cell.bool (r))]
def dec159 : AV → Option (Bool)
  | .c (Cell.bool q0) => some (q0)
  | _ => none
theorem de159 (v : AV) (r : Bool) (h : dec159 v = some r) : v = oneOf (enc159 r) := by
  unfold dec159 at h
  split at h
  · cases h; rfl
  · cases h
abbrev Ty159 := Int → Int → Int → Int → Int → Int → Heap → Option (Bool × Heap)
def sem159 (f : Ty159) : List TV → Heap → Option (Bool × Heap)
  | [.agg [Cell.int .i64 o0, Cell.int .i64 o1, Cell.int .i64 o2, Cell.int .i64 o3, Cell.int .i64 o4, Cell.int .i64 o5]], H => f o0 o1 o2 o3 o4 o5 H
  | _, _ => none
noncomputable def F0159 : Ty159 := fun o0 o1 o2 o3 o4 o5 H => fnA CC159 Tryz.f159.results.toList (bodyOf Tryz.f159) _ [.agg [Cell.int .i64 o0, Cell.int .i64 o1, Cell.int .i64 o2, Cell.int .i64 o3, Cell.int .i64 o4, Cell.int .i64 o5]] H (decF dec159)
noncomputable def f159 : Ty159 := hide F0159
theorem f159_eq : f159 = F0159 := hide_eq _
theorem q159 : ∀ (o0 o1 o2 o3 o4 o5 : Int) (H : Heap), f159 o0 o1 o2 o3 o4 o5 H = bif o0 == 1 then bif decide (o1 ≥ 0) then bif decide (o1 ≤ 15) then some (o2 == 0 && (o3 == 0 && (o4 == 0 && (o5 == 0 && true))), H) else some (false, H) else some (false, H) else bif o0 == 2 then bif o1 == 0 then (f179 o2 o3 o4 o5 H).bind fun v0 => some (v0.1, v0.2) else some (false, H) else bif o0 == 0 then bif o0 == 0 then some (o0 == o0 && (o1 == 0 && (o2 == 0 && (o3 == 0 && (o4 == 0 && (o5 == 0 && true))) && true)), H) else some (false, H) else bif o0 == 3 then some (o0 == o0 && (o1 == 0 && (o2 == 0 && (o3 == 0 && (o4 == 0 && (o5 == 0 && true))) && true)), H) else some (false, H) := by intros; rw [f159_eq]; exact (fnA_lpD hN159 ..).trans (by kernel_rfl)
theorem ok159 : FnOk Tryz.prog 159 (specF enc159 (sem159 f159)) := by
  refine spec_ok (C := CC159) good159 rfl rfl rfl (by kernel_rfl) Tryz.func159 (c := bodyOf Tryz.f159) (by kernel_rfl) (by kernel_rfl) (Nat.le_of_eq Tryz.ntmps159.symm) dec159 enc159 de159 _ ?_
  intro args H q h
  unfold sem159 at h
  split at h
  · rw [f159_eq] at h; exact h
  · cases h
/-! 110: xinst_Opd_is -/
noncomputable def CC110 : Ctx := { P := Tryz.prog, own := [2], fns := [(159, specF enc159 (sem159 f159))], nt := 20, nums := [], live := [(2, ⟨[2, 7, 8, 9], [2], [4], []⟩)] }
theorem good110 : Callees Tryz.prog CC110.fns [] CC110.nums := (Callees.nil Tryz.prog).cons ok159 (specF_nat _ _)
theorem hN110 : CtxNat CC110 := good110.ctx rfl rfl rfl
def enc110 (r : Bool) : List TV := [.c (Cell.bool (r))]
def dec110 : AV → Option (Bool)
  | .c (Cell.bool q0) => some (q0)
  | _ => none
theorem de110 (v : AV) (r : Bool) (h : dec110 v = some r) : v = oneOf (enc110 r) := by
  unfold dec110 at h
  split at h
  · cases h; rfl
  · cases h
abbrev Ty110 := Int → Int → Int → Int → Int → Int → SO → Heap → Option (Bool × Heap)
def sem110 (f : Ty110) : List TV → Heap → Option (Bool × Heap)
  | [.agg [Cell.int .i64 o0, Cell.int .i64 o1, Cell.int .i64 o2, Cell.int .i64 o3, Cell.int .i64 o4, Cell.int .i64 o5], .c (Cell.slice kinds)], H => f o0 o1 o2 o3 o4 o5 kinds H
  | _, _ => none
noncomputable def F0110 : Ty110 := fun o0 o1 o2 o3 o4 o5 kinds H => fnA CC110 Tryz.f110.results.toList (bodyOf Tryz.f110) _ [.agg [Cell.int .i64 o0, Cell.int .i64 o1, Cell.int .i64 o2, Cell.int .i64 o3, Cell.int .i64 o4, Cell.int .i64 o5], .c (Cell.slice kinds)] H (decF dec110)
noncomputable def f110 : Ty110 := hide F0110
theorem f110_eq : f110 = F0110 := hide_eq _
noncomputable def P110_2 : Code := (Code.l (Code.l (Code.r (Code.l (Code.r (bodyOf Tryz.f110))))))
def S110_2 (t7 : SO) (t8 t9 b2_0 b2_1 b2_2 b2_3 b2_4 b2_5 : Int) (H : Heap) : St := ⟨[(2, .lp 2 0), (7, .c (Cell.slice t7)), (8, .c (Cell.int .i64 t8)), (9, .c (Cell.int .i64 t9))], [(2, [Cell.int .i64 b2_0, Cell.int .i64 b2_1, Cell.int .i64 b2_2, Cell.int .i64 b2_3, Cell.int .i64 b2_4, Cell.int .i64 b2_5])], H⟩
noncomputable def D110_2 (n : Nat) (t7 : SO) (t8 t9 b2_0 b2_1 b2_2 b2_3 b2_4 b2_5 : Int) (H : Heap) : Option (AExit × St) := loopN (exec CC110 P110_2) (keepOf CC110.live P110_2) n (S110_2 t7 t8 t9 b2_0 b2_1 b2_2 b2_3 b2_4 b2_5 H) retD
noncomputable def LL110_2 (t7 : SO) (t8 t9 b2_0 b2_1 b2_2 b2_3 b2_4 b2_5 : Int) (H : Heap) : Option (AExit × St) := loopsD CC110 P110_2 (S110_2 t7 t8 t9 b2_0 b2_1 b2_2 b2_3 b2_4 b2_5 H)
theorem LL110_2_of (m : Nat) (hm : m < 18446744073709551616) (t7 : SO) (t8 t9 b2_0 b2_1 b2_2 b2_3 b2_4 b2_5 : Int) (H : Heap) : ∃ n, LL110_2 t7 t8 t9 b2_0 b2_1 b2_2 b2_3 b2_4 b2_5 H = D110_2 (n + m + 1) t7 t8 t9 b2_0 b2_1 b2_2 b2_3 b2_4 b2_5 H := loopsD_of _ _ _ m hm
def X110_2 (x0 : Bool) (H : Heap) : St := { env := [(4, AV.c (Cell.bool x0))], loc := [], heap := H }
def X110_2a (H : Heap) : St := { env := [], loc := [], heap := H }
noncomputable def J110_2 : AExit × St → Option (Bool × Heap) := fun p => blockK 0 (seqK (execL CC110 (lpD CC110) (Code.r (Code.r (bodyOf Tryz.f110)))) (retA CC110 [ResultVar.tmp 4] (decF dec110))) p.1 p.2
theorem D110_2_s : ∀ (n : Nat) (t7 : SO) (t8 t9 b2_0 b2_1 b2_2 b2_3 b2_4 b2_5 : Int) (H : Heap), D110_2 (n + 1) t7 t8 t9 b2_0 b2_1 b2_2 b2_3 b2_4 b2_5 H = bif decide (t9 < t8) then t7.bind fun v3 => bif inb t9 v3.len && v3.esz == 1 then (H.get v3.id (v3.off + t9.toNat * 1)).bind fun v2 => (Cell.toInt .i64 v2).bind fun v1 => bif b2_0 == v1 then (f159 b2_0 b2_1 b2_2 b2_3 b2_4 b2_5 H).bind fun v0 => some (AExit.ret, X110_2 v0.1 v0.2) else D110_2 n t7 t8 (IntKind.i64.wrap (t9 + 1)) b2_0 b2_1 b2_2 b2_3 b2_4 b2_5 H else none else some (AExit.exit 0, X110_2a H) := by intros; exact (loopN_stepD hN110 _ _ _ _).trans (by kernel_rfl)
theorem q110 : ∀ (o0 o1 o2 o3 o4 o5 : Int) (kinds : SO) (H : Heap), f110 o0 o1 o2 o3 o4 o5 kinds H = (LL110_2 kinds (slen kinds) 0 o0 o1 o2 o3 o4 o5 H).bind J110_2 := by intros; rw [f110_eq]; exact (fnA_lpD hN110 ..).trans (by kernel_rfl)
theorem J110_2_0 : ∀ (x0 : Bool) (H : Heap), J110_2 (AExit.ret, X110_2 x0 H) = some (x0, H) := by intros; kernel_rfl
theorem ok110 : FnOk Tryz.prog 110 (specF enc110 (sem110 f110)) := by
  refine spec_ok (C := CC110) good110 rfl rfl rfl (by kernel_rfl) Tryz.func110 (c := bodyOf Tryz.f110) (by kernel_rfl) (by kernel_rfl) (Nat.le_of_eq Tryz.ntmps110.symm) dec110 enc110 de110 _ ?_
  intro args H q h
  unfold sem110 at h
  split at h
  · rw [f110_eq] at h; exact h
  · cases h
/-! 113: xinst_Inst_imm -/
noncomputable def CC113 : Ctx := { P := Tryz.prog, own := [1], fns := [(160, specF enc160 (sem160 f160))], nt := 10, nums := [], live := [] }
theorem good113 : Callees Tryz.prog CC113.fns [] CC113.nums := (Callees.nil Tryz.prog).cons ok160 (specF_nat _ _)
theorem hN113 : CtxNat CC113 := good113.ctx rfl rfl rfl
def enc113 (r : Bool) : List TV := [.c (Cell.bool (r))]
def dec113 : AV → Option (Bool)
  | .c (Cell.bool q0) => some (q0)
  | _ => none
theorem de113 (v : AV) (r : Bool) (h : dec113 v = some r) : v = oneOf (enc113 r) := by
  unfold dec113 at h
  split at h
  · cases h; rfl
  · cases h
abbrev Ty113 := Int → Int → Int → Int → Int → Int → Int → Int → Int → Int → Int → Int → Int → Int → Int → Int → Int → Bool → Bool → Int → Heap → Option (Bool × Heap)
def sem113 (f : Ty113) : List TV → Heap → Option (Bool × Heap)
  | [.agg [Cell.int .i64 i0, Cell.int .i64 i1, Cell.int .i64 i2, Cell.int .i64 i3, Cell.int .i64 i4, Cell.int .i64 i5, Cell.int .i64 i6, Cell.int .i64 i7, Cell.int .i64 i8, Cell.int .i64 i9, Cell.int .i64 i10, Cell.int .i64 i11, Cell.int .i64 i12, Cell.int .i64 i13, Cell.int .i64 i14, Cell.int .i64 i15, Cell.int .i64 i16, Cell.bool i17, Cell.bool i18, Cell.int .i64 i19]], H => f i0 i1 i2 i3 i4 i5 i6 i7 i8 i9 i10 i11 i12 i13 i14 i15 i16 i17 i18 i19 H
  | _, _ => none
noncomputable def F0113 : Ty113 := fun i0 i1 i2 i3 i4 i5 i6 i7 i8 i9 i10 i11 i12 i13 i14 i15 i16 i17 i18 i19 H => fnA CC113 Tryz.f113.results.toList (bodyOf Tryz.f113) _ [.agg [Cell.int .i64 i0, Cell.int .i64 i1, Cell.int .i64 i2, Cell.int .i64 i3, Cell.int .i64 i4, Cell.int .i64 i5, Cell.int .i64 i6, Cell.int .i64 i7, Cell.int .i64 i8, Cell.int .i64 i9, Cell.int .i64 i10, Cell.int .i64 i11, Cell.int .i64 i12, Cell.int .i64 i13, Cell.int .i64 i14, Cell.int .i64 i15, Cell.int .i64 i16, Cell.bool i17, Cell.bool i18, Cell.int .i64 i19]] H (decF dec113)
noncomputable def f113 : Ty113 := hide F0113
theorem f113_eq : f113 = F0113 := hide_eq _
theorem q113 : ∀ (i0 i1 i2 i3 i4 i5 i6 i7 i8 i9 i10 i11 i12 i13 i14 i15 i16 : Int) (i17 i18 : Bool) (i19 : Int) (H : Heap), f113 i0 i1 i2 i3 i4 i5 i6 i7 i8 i9 i10 i11 i12 i13 i14 i15 i16 i17 i18 i19 H = (f160 i15 (IntKind.i64.wrap (8 * mm Builtin.min i1 4)) H).bind fun v0 => some (v0.1, v0.2) := by intros; rw [f113_eq]; exact (fnA_lpD hN113 ..).trans (by kernel_rfl)
theorem ok113 : FnOk Tryz.prog 113 (specF enc113 (sem113 f113)) := by
  refine spec_ok (C := CC113) good113 rfl rfl rfl (by kernel_rfl) Tryz.func113 (c := bodyOf Tryz.f113) (by kernel_rfl) (by kernel_rfl) (Nat.le_of_eq Tryz.ntmps113.symm) dec113 enc113 de113 _ ?_
  intro args H q h
  unfold sem113 at h
  split at h
  · rw [f113_eq] at h; exact h
  · cases h
/-! 111: xinst_Inst_immB -/
noncomputable def CC111 : Ctx := { P := Tryz.prog, own := [1], fns := [(113, specF enc113 (sem113 f113))], nt := 22, nums := [], live := [] }
theorem good111 : Callees Tryz.prog CC111.fns [] CC111.nums := (Callees.nil Tryz.prog).cons ok113 (specF_nat _ _)
def enc111 (r : Bool) : List TV := [.c (Cell.bool (r))]
def dec111 : AV → Option (Bool)
  | .c (Cell.bool q0) => some (q0)
  | _ => none
theorem de111 (v : AV) (r : Bool) (h : dec111 v = some r) : v = oneOf (enc111 r) := by
  unfold dec111 at h
  split at h
  · cases h; rfl
  · cases h
abbrev Ty111 := Int → Int → Int → Int → Int → Int → Int → Int → Int → Int → Int → Int → Int → Int → Int → Int → Int → Bool → Bool → Int → Heap → Option (Bool × Heap)
def sem111 (f : Ty111) : List TV → Heap → Option (Bool × Heap)
  | [.agg [Cell.int .i64 i0, Cell.int .i64 i1, Cell.int .i64 i2, Cell.int .i64 i3, Cell.int .i64 i4, Cell.int .i64 i5, Cell.int .i64 i6, Cell.int .i64 i7, Cell.int .i64 i8, Cell.int .i64 i9, Cell.int .i64 i10, Cell.int .i64 i11, Cell.int .i64 i12, Cell.int .i64 i13, Cell.int .i64 i14, Cell.int .i64 i15, Cell.int .i64 i16, Cell.bool i17, Cell.bool i18, Cell.int .i64 i19]], H => f i0 i1 i2 i3 i4 i5 i6 i7 i8 i9 i10 i11 i12 i13 i14 i15 i16 i17 i18 i19 H
  | _, _ => none
noncomputable def F0111 : Ty111 := fun i0 i1 i2 i3 i4 i5 i6 i7 i8 i9 i10 i11 i12 i13 i14 i15 i16 i17 i18 i19 H => fnA CC111 Tryz.f111.results.toList (bodyOf Tryz.f111) _ [.agg [Cell.int .i64 i0, Cell.int .i64 i1, Cell.int .i64 i2, Cell.int .i64 i3, Cell.int .i64 i4, Cell.int .i64 i5, Cell.int .i64 i6, Cell.int .i64 i7, Cell.int .i64 i8, Cell.int .i64 i9, Cell.int .i64 i10, Cell.int .i64 i11, Cell.int .i64 i12, Cell.int .i64 i13, Cell.int .i64 i14, Cell.int .i64 i15, Cell.int .i64 i16, Cell.bool i17, Cell.bool i18, Cell.int .i64 i19]] H (decF dec111)
noncomputable def f111 : Ty111 := hide F0111
theorem f111_eq : f111 = F0111 := hide_eq _
theorem ok111 : FnOk Tryz.prog 111 (specF enc111 (sem111 f111)) := by
  refine spec_ok (C := CC111) good111 rfl rfl rfl (by kernel_rfl) Tryz.func111 (c := bodyOf Tryz.f111) (by kernel_rfl) (by kernel_rfl) (Nat.le_of_eq Tryz.ntmps111.symm) dec111 enc111 de111 _ ?_
  intro args H q h
  unfold sem111 at h
  split at h
  · rw [f111_eq] at h; exact h
  · cases h
/-! 112: xinst_Inst_wide -/
noncomputable def CC112 : Ctx := { P := Tryz.prog, own := [1], fns := [], nt := 16, nums := [], live := [] }
theorem good112 : Callees Tryz.prog CC112.fns [] CC112.nums := Callees.nil Tryz.prog
def enc112 (r : Bool) : List TV := [.c (Cell.bool (r))]
def dec112 : AV → Option (Bool)
  | .c (Cell.bool q0) => some (q0)
  | _ => none
theorem de112 (v : AV) (r : Bool) (h : dec112 v = some r) : v = oneOf (enc112 r) := by
  unfold dec112 at h
  split at h
  · cases h; rfl
  · cases h
abbrev Ty112 := Int → Int → Int → Int → Int → Int → Int → Int → Int → Int → Int → Int → Int → Int → Int → Int → Int → Bool → Bool → Int → Heap → Option (Bool × Heap)
def sem112 (f : Ty112) : List TV → Heap → Option (Bool × Heap)
  | [.agg [Cell.int .i64 i0, Cell.int .i64 i1, Cell.int .i64 i2, Cell.int .i64 i3, Cell.int .i64 i4, Cell.int .i64 i5, Cell.int .i64 i6, Cell.int .i64 i7, Cell.int .i64 i8, Cell.int .i64 i9, Cell.int .i64 i10, Cell.int .i64 i11, Cell.int .i64 i12, Cell.int .i64 i13, Cell.int .i64 i14, Cell.int .i64 i15, Cell.int .i64 i16, Cell.bool i17, Cell.bool i18, Cell.int .i64 i19]], H => f i0 i1 i2 i3 i4 i5 i6 i7 i8 i9 i10 i11 i12 i13 i14 i15 i16 i17 i18 i19 H
  | _, _ => none
noncomputable def F0112 : Ty112 := fun i0 i1 i2 i3 i4 i5 i6 i7 i8 i9 i10 i11 i12 i13 i14 i15 i16 i17 i18 i19 H => fnA CC112 Tryz.f112.results.toList (bodyOf Tryz.f112) _ [.agg [Cell.int .i64 i0, Cell.int .i64 i1, Cell.int .i64 i2, Cell.int .i64 i3, Cell.int .i64 i4, Cell.int .i64 i5, Cell.int .i64 i6, Cell.int .i64 i7, Cell.int .i64 i8, Cell.int .i64 i9, Cell.int .i64 i10, Cell.int .i64 i11, Cell.int .i64 i12, Cell.int .i64 i13, Cell.int .i64 i14, Cell.int .i64 i15, Cell.int .i64 i16, Cell.bool i17, Cell.bool i18, Cell.int .i64 i19]] H (decF dec112)
noncomputable def f112 : Ty112 := hide F0112
theorem f112_eq : f112 = F0112 := hide_eq _
theorem ok112 : FnOk Tryz.prog 112 (specF enc112 (sem112 f112)) := by
  refine spec_ok (C := CC112) good112 rfl rfl rfl (by kernel_rfl) Tryz.func112 (c := bodyOf Tryz.f112) (by kernel_rfl) (by kernel_rfl) (Nat.le_of_eq Tryz.ntmps112.symm) dec112 enc112 de112 _ ?_
  intro args H q h
  unfold sem112 at h
  split at h
  · rw [f112_eq] at h; exact h
  · cases h
/-! 66: xinst_Inst_two -/
noncomputable def CC66 : Ctx := { P := Tryz.prog, own := [1], fns := [(11, specF enc11 (sem11 f11)), (113, specF enc113 (sem113 f113)), (112, specF enc112 (sem112 f112)), (111, specF enc111 (sem111 f111)), (110, specF enc110 (sem110 f110)), (105, specF enc105 (sem105 f105)), (52, specF enc52 (sem52 f52))], nt := 271, nums := [], live := [] }
theorem good66 : Callees Tryz.prog CC66.fns [] CC66.nums := (((((((Callees.nil Tryz.prog).cons ok52 (specF_nat _ _)).cons ok105 (specF_nat _ _)).cons ok110 (specF_nat _ _)).cons ok111 (specF_nat _ _)).cons ok112 (specF_nat _ _)).cons ok113 (specF_nat _ _)).cons ok11 (specF_nat _ _)
theorem hN66 : CtxNat CC66 := good66.ctx rfl rfl rfl
def enc66 (r : Bool) : List TV := [.c (Cell.bool (r))]
def dec66 : AV → Option (Bool)
  | .c (Cell.bool q0) => some (q0)
  | _ => none
theorem de66 (v : AV) (r : Bool) (h : dec66 v = some r) : v = oneOf (enc66 r) := by
  unfold dec66 at h
  split at h
  · cases h; rfl
  · cases h
abbrev Ty66 := Int → Int → Int → Int → Int → Int → Int → Int → Int → Int → Int → Int → Int → Int → Int → Int → Int → Bool → Bool → Int → Heap → Option (Bool × Heap)
def sem66 (f : Ty66) : List TV → Heap → Option (Bool × Heap)
  | [.agg [Cell.int .i64 i0, Cell.int .i64 i1, Cell.int .i64 i2, Cell.int .i64 i3, Cell.int .i64 i4, Cell.int .i64 i5, Cell.int .i64 i6, Cell.int .i64 i7, Cell.int .i64 i8, Cell.int .i64 i9, Cell.int .i64 i10, Cell.int .i64 i11, Cell.int .i64 i12, Cell.int .i64 i13, Cell.int .i64 i14, Cell.int .i64 i15, Cell.int .i64 i16, Cell.bool i17, Cell.bool i18, Cell.int .i64 i19]], H => f i0 i1 i2 i3 i4 i5 i6 i7 i8 i9 i10 i11 i12 i13 i14 i15 i16 i17 i18 i19 H
  | _, _ => none
noncomputable def F066 : Ty66 := fun i0 i1 i2 i3 i4 i5 i6 i7 i8 i9 i10 i11 i12 i13 i14 i15 i16 i17 i18 i19 H => fnA CC66 Tryz.f66.results.toList (bodyOf Tryz.f66) _ [.agg [Cell.int .i64 i0, Cell.int .i64 i1, Cell.int .i64 i2, Cell.int .i64 i3, Cell.int .i64 i4, Cell.int .i64 i5, Cell.int .i64 i6, Cell.int .i64 i7, Cell.int .i64 i8, Cell.int .i64 i9, Cell.int .i64 i10, Cell.int .i64 i11, Cell.int .i64 i12, Cell.int .i64 i13, Cell.int .i64 i14, Cell.int .i64 i15, Cell.int .i64 i16, Cell.bool i17, Cell.bool i18, Cell.int .i64 i19]] H (decF dec66)
noncomputable def f66 : Ty66 := hide F066
theorem f66_eq : f66 = F066 := hide_eq _
theorem q66 : ∀ (i0 i1 i2 i3 i4 i5 i6 i7 i8 i9 i10 i11 i12 i13 i14 i15 i16 : Int) (i17 i18 : Bool) (i19 : Int) (H : Heap), f66 i0 i1 i2 i3 i4 i5 i6 i7 i8 i9 i10 i11 i12 i13 i14 i15 i16 i17 i18 i19 H = bif i3 == 2 then (f52 i0 i1 i2 i3 i4 i5 i6 i7 i8 i9 i10 i11 i12 i13 i14 i15 i16 i17 i18 i19 1 8 H).bind fun v45 => bif v45.1 then (f105 i1 v45.2).bind fun v3 => bif v3.1 then (f110 i3 i4 i5 i6 i7 i8 (some { id := List.length v3.2, off := 0, len := 2, cap := 2, esz := 1 }) (v3.2 ++ [Blk.row [Cell.int .i64 1, Cell.int .i64 2] false])).bind fun v2 => bif v2.1 then (f110 i9 i10 i11 i12 i13 i14 (some { id := List.length v2.2, off := 0, len := 3, cap := 3, esz := 1 }) (v2.2 ++ [Blk.row [Cell.int .i64 1, Cell.int .i64 2, Cell.int .i64 3] false])).bind fun v1 => bif v1.1 then bif !i9 == 2 then (f111 i0 i1 i2 i3 i4 i5 i6 i7 i8 i9 i10 i11 i12 i13 i14 i15 i16 i17 i18 i19 v1.2).bind fun v0 => some (v0.1, v0.2) else some (false, v1.2) else some (false, v1.2) else some (false, v2.2) else some (false, v3.2) else bif i0 == 9 then (f105 i1 v45.2).bind fun v7 => bif v7.1 then (f110 i3 i4 i5 i6 i7 i8 (some { id := List.length v7.2, off := 0, len := 2, cap := 2, esz := 1 }) (v7.2 ++ [Blk.row [Cell.int .i64 1, Cell.int .i64 2] false])).bind fun v6 => bif v6.1 then (f110 i9 i10 i11 i12 i13 i14 (some { id := List.length v6.2, off := 0, len := 2, cap := 2, esz := 1 }) (v6.2 ++ [Blk.row [Cell.int .i64 1, Cell.int .i64 3] false])).bind fun v5 => bif v5.1 then (f111 i0 i1 i2 i3 i4 i5 i6 i7 i8 i9 i10 i11 i12 i13 i14 i15 i16 i17 i18 i19 v5.2).bind fun v4 => some (v4.1, v4.2) else some (false, v5.2) else some (false, v6.2) else some (false, v7.2) else bif i0 == 10 then bif i1 == 8 then bif i3 == 1 then (f105 i1 v45.2).bind fun v11 => bif v11.1 then (f110 i3 i4 i5 i6 i7 i8 (some { id := List.length v11.2, off := 0, len := 2, cap := 2, esz := 1 }) (v11.2 ++ [Blk.row [Cell.int .i64 1, Cell.int .i64 2] false])).bind fun v10 => bif v10.1 then (f110 i9 i10 i11 i12 i13 i14 (some { id := List.length v10.2, off := 0, len := 3, cap := 3, esz := 1 }) (v10.2 ++ [Blk.row [Cell.int .i64 1, Cell.int .i64 2, Cell.int .i64 3] false])).bind fun v9 => bif v9.1 then bif !i9 == 2 then (f111 i0 i1 i2 i3 i4 i5 i6 i7 i8 i9 i10 i11 i12 i13 i14 i15 i16 i17 i18 i19 v9.2).bind fun v8 => bif v8.1 then some (true, v8.2) else some (i9 == 3, v8.2) else some (false, v9.2) else some (false, v9.2) else some (false, v10.2) else some (false, v11.2) else (f105 i1 v45.2).bind fun v15 => bif v15.1 then (f110 i3 i4 i5 i6 i7 i8 (some { id := List.length v15.2, off := 0, len := 2, cap := 2, esz := 1 }) (v15.2 ++ [Blk.row [Cell.int .i64 1, Cell.int .i64 2] false])).bind fun v14 => bif v14.1 then (f110 i9 i10 i11 i12 i13 i14 (some { id := List.length v14.2, off := 0, len := 3, cap := 3, esz := 1 }) (v14.2 ++ [Blk.row [Cell.int .i64 1, Cell.int .i64 2, Cell.int .i64 3] false])).bind fun v13 => bif v13.1 then bif !i9 == 2 then (f111 i0 i1 i2 i3 i4 i5 i6 i7 i8 i9 i10 i11 i12 i13 i14 i15 i16 i17 i18 i19 v13.2).bind fun v12 => bif v12.1 then some (true, v12.2) else some (false, v12.2) else some (false, v13.2) else some (false, v13.2) else some (false, v14.2) else some (false, v15.2) else (f105 i1 v45.2).bind fun v19 => bif v19.1 then (f110 i3 i4 i5 i6 i7 i8 (some { id := List.length v19.2, off := 0, len := 2, cap := 2, esz := 1 }) (v19.2 ++ [Blk.row [Cell.int .i64 1, Cell.int .i64 2] false])).bind fun v18 => bif v18.1 then (f110 i9 i10 i11 i12 i13 i14 (some { id := List.length v18.2, off := 0, len := 3, cap := 3, esz := 1 }) (v18.2 ++ [Blk.row [Cell.int .i64 1, Cell.int .i64 2, Cell.int .i64 3] false])).bind fun v17 => bif v17.1 then bif !i9 == 2 then (f111 i0 i1 i2 i3 i4 i5 i6 i7 i8 i9 i10 i11 i12 i13 i14 i15 i16 i17 i18 i19 v17.2).bind fun v16 => bif v16.1 then some (true, v16.2) else some (false, v16.2) else some (false, v17.2) else some (false, v17.2) else some (false, v18.2) else some (false, v19.2) else (f52 i0 i1 i2 i3 i4 i5 i6 i7 i8 i9 i10 i11 i12 i13 i14 i15 i16 i17 i18 i19 11 12 v45.2).bind fun v44 => bif v44.1 then (f112 i0 i1 i2 i3 i4 i5 i6 i7 i8 i9 i10 i11 i12 i13 i14 i15 i16 i17 i18 i19 v44.2).bind fun v22 => bif v22.1 then (f110 i3 i4 i5 i6 i7 i8 (some { id := List.length v22.2, off := 0, len := 1, cap := 1, esz := 1 }) (v22.2 ++ [Blk.row [Cell.int .i64 1] false])).bind fun v21 => bif v21.1 then (f110 i9 i10 i11 i12 i13 i14 (some { id := List.length v21.2, off := 0, len := 2, cap := 2, esz := 1 }) (v21.2 ++ [Blk.row [Cell.int .i64 1, Cell.int .i64 2] false])).bind fun v20 => bif v20.1 then bif i2 == 1 then some (true, v20.2) else bif i2 == 2 then bif decide (i1 > 2) then some (true, v20.2) else bif i2 == 4 then bif i1 == 8 then some (i0 == 12, v20.2) else some (false, v20.2) else some (false, v20.2) else bif i2 == 4 then bif i1 == 8 then some (i0 == 12, v20.2) else some (false, v20.2) else some (false, v20.2) else some (false, v20.2) else some (false, v21.2) else some (false, v22.2) else bif i0 == 13 then (f112 i0 i1 i2 i3 i4 i5 i6 i7 i8 i9 i10 i11 i12 i13 i14 i15 i16 i17 i18 i19 v44.2).bind fun v25 => bif v25.1 then (f110 i3 i4 i5 i6 i7 i8 (some { id := List.length v25.2, off := 0, len := 1, cap := 1, esz := 1 }) (v25.2 ++ [Blk.row [Cell.int .i64 1] false])).bind fun v24 => bif v24.1 then (f110 i9 i10 i11 i12 i13 i14 (some { id := List.length v24.2, off := 0, len := 1, cap := 1, esz := 1 }) (v24.2 ++ [Blk.row [Cell.int .i64 2] false])).bind fun v23 => some (v23.1, v23.2) else some (false, v24.2) else some (false, v25.2) else (f52 i0 i1 i2 i3 i4 i5 i6 i7 i8 i9 i10 i11 i12 i13 i14 i15 i16 i17 i18 i19 24 25 v44.2).bind fun v43 => bif v43.1 then (f112 i0 i1 i2 i3 i4 i5 i6 i7 i8 i9 i10 i11 i12 i13 i14 i15 i16 i17 i18 i19 v43.2).bind fun v29 => bif v29.1 then (f110 i3 i4 i5 i6 i7 i8 (some { id := List.length v29.2, off := 0, len := 1, cap := 1, esz := 1 }) (v29.2 ++ [Blk.row [Cell.int .i64 1] false])).bind fun v28 => bif v28.1 then (f110 i9 i10 i11 i12 i13 i14 (some { id := List.length v28.2, off := 0, len := 2, cap := 2, esz := 1 }) (v28.2 ++ [Blk.row [Cell.int .i64 1, Cell.int .i64 2] false])).bind fun v27 => bif v27.1 then (f113 i0 i1 i2 i3 i4 i5 i6 i7 i8 i9 i10 i11 i12 i13 i14 i15 i16 i17 i18 i19 v27.2).bind fun v26 => some (v26.1, v26.2) else some (false, v27.2) else some (false, v28.2) else some (false, v29.2) else (f52 i0 i1 i2 i3 i4 i5 i6 i7 i8 i9 i10 i11 i12 i13 i14 i15 i16 i17 i18 i19 26 30 v43.2).bind fun v42 => bif v42.1 then (f105 i1 v42.2).bind fun v34 => bif v34.1 then (f110 i3 i4 i5 i6 i7 i8 (some { id := List.length v34.2, off := 0, len := 2, cap := 2, esz := 1 }) (v34.2 ++ [Blk.row [Cell.int .i64 1, Cell.int .i64 2] false])).bind fun v33 => bif v33.1 then (f11 1 v33.2).bind fun v32 => bif i9 == v32.1.1 && (i10 == v32.1.2.1 && (i11 == v32.1.2.2.1 && (i12 == v32.1.2.2.2.1 && (i13 == v32.1.2.2.2.2.1 && (i14 == v32.1.2.2.2.2.2 && true))) && true)) then bif i15 == 0 then some (true, v32.2) else (f110 i9 i10 i11 i12 i13 i14 (some { id := List.length v32.2, off := 0, len := 1, cap := 1, esz := 1 }) (v32.2 ++ [Blk.row [Cell.int .i64 3] false])).bind fun v30 => bif v30.1 then bif decide (i15 ≥ 0) then some (decide (i15 ≤ 255), v30.2) else some (false, v30.2) else some (false, v30.2) else (f110 i9 i10 i11 i12 i13 i14 (some { id := List.length v32.2, off := 0, len := 1, cap := 1, esz := 1 }) (v32.2 ++ [Blk.row [Cell.int .i64 3] false])).bind fun v31 => bif v31.1 then bif decide (i15 ≥ 0) then some (decide (i15 ≤ 255), v31.2) else some (false, v31.2) else some (false, v31.2) else some (false, v33.2) else some (false, v34.2) else (f52 i0 i1 i2 i3 i4 i5 i6 i7 i8 i9 i10 i11 i12 i13 i14 i15 i16 i17 i18 i19 31 33 v42.2).bind fun v41 => bif v41.1 then (f105 i1 v41.2).bind fun v37 => bif v37.1 then (f110 i3 i4 i5 i6 i7 i8 (some { id := List.length v37.2, off := 0, len := 2, cap := 2, esz := 1 }) (v37.2 ++ [Blk.row [Cell.int .i64 1, Cell.int .i64 2] false])).bind fun v36 => bif v36.1 then (f110 i9 i10 i11 i12 i13 i14 (some { id := List.length v36.2, off := 0, len := 1, cap := 1, esz := 1 }) (v36.2 ++ [Blk.row [Cell.int .i64 1] false])).bind fun v35 => some (v35.1, v35.2) else some (false, v36.2) else some (false, v37.2) else bif i0 == 34 then (f112 i0 i1 i2 i3 i4 i5 i6 i7 i8 i9 i10 i11 i12 i13 i14 i15 i16 i17 i18 i19 v41.2).bind fun v40 => bif v40.1 then (f110 i3 i4 i5 i6 i7 i8 (some { id := List.length v40.2, off := 0, len := 1, cap := 1, esz := 1 }) (v40.2 ++ [Blk.row [Cell.int .i64 1] false])).bind fun v39 => bif v39.1 then (f110 i9 i10 i11 i12 i13 i14 (some { id := List.length v39.2, off := 0, len := 2, cap := 2, esz := 1 }) (v39.2 ++ [Blk.row [Cell.int .i64 1, Cell.int .i64 2] false])).bind fun v38 => some (v38.1, v38.2) else some (false, v39.2) else some (false, v40.2) else some (false, v41.2) else (f52 i0 i1 i2 i3 i4 i5 i6 i7 i8 i9 i10 i11 i12 i13 i14 i15 i16 i17 i18 i19 1 8 H).bind fun v91 => bif v91.1 then (f105 i1 v91.2).bind fun v49 => bif v49.1 then (f110 i3 i4 i5 i6 i7 i8 (some { id := List.length v49.2, off := 0, len := 2, cap := 2, esz := 1 }) (v49.2 ++ [Blk.row [Cell.int .i64 1, Cell.int .i64 2] false])).bind fun v48 => bif v48.1 then (f110 i9 i10 i11 i12 i13 i14 (some { id := List.length v48.2, off := 0, len := 3, cap := 3, esz := 1 }) (v48.2 ++ [Blk.row [Cell.int .i64 1, Cell.int .i64 2, Cell.int .i64 3] false])).bind fun v47 => bif v47.1 then (f111 i0 i1 i2 i3 i4 i5 i6 i7 i8 i9 i10 i11 i12 i13 i14 i15 i16 i17 i18 i19 v47.2).bind fun v46 => some (v46.1, v46.2) else some (false, v47.2) else some (false, v48.2) else some (false, v49.2) else bif i0 == 9 then (f105 i1 v91.2).bind fun v53 => bif v53.1 then (f110 i3 i4 i5 i6 i7 i8 (some { id := List.length v53.2, off := 0, len := 2, cap := 2, esz := 1 }) (v53.2 ++ [Blk.row [Cell.int .i64 1, Cell.int .i64 2] false])).bind fun v52 => bif v52.1 then (f110 i9 i10 i11 i12 i13 i14 (some { id := List.length v52.2, off := 0, len := 2, cap := 2, esz := 1 }) (v52.2 ++ [Blk.row [Cell.int .i64 1, Cell.int .i64 3] false])).bind fun v51 => bif v51.1 then (f111 i0 i1 i2 i3 i4 i5 i6 i7 i8 i9 i10 i11 i12 i13 i14 i15 i16 i17 i18 i19 v51.2).bind fun v50 => some (v50.1, v50.2) else some (false, v51.2) else some (false, v52.2) else some (false, v53.2) else bif i0 == 10 then bif i1 == 8 then bif i3 == 1 then (f105 i1 v91.2).bind fun v57 => bif v57.1 then (f110 i3 i4 i5 i6 i7 i8 (some { id := List.length v57.2, off := 0, len := 2, cap := 2, esz := 1 }) (v57.2 ++ [Blk.row [Cell.int .i64 1, Cell.int .i64 2] false])).bind fun v56 => bif v56.1 then (f110 i9 i10 i11 i12 i13 i14 (some { id := List.length v56.2, off := 0, len := 3, cap := 3, esz := 1 }) (v56.2 ++ [Blk.row [Cell.int .i64 1, Cell.int .i64 2, Cell.int .i64 3] false])).bind fun v55 => bif v55.1 then (f111 i0 i1 i2 i3 i4 i5 i6 i7 i8 i9 i10 i11 i12 i13 i14 i15 i16 i17 i18 i19 v55.2).bind fun v54 => bif v54.1 then some (true, v54.2) else some (i9 == 3, v54.2) else some (false, v55.2) else some (false, v56.2) else some (false, v57.2) else (f105 i1 v91.2).bind fun v61 => bif v61.1 then (f110 i3 i4 i5 i6 i7 i8 (some { id := List.length v61.2, off := 0, len := 2, cap := 2, esz := 1 }) (v61.2 ++ [Blk.row [Cell.int .i64 1, Cell.int .i64 2] false])).bind fun v60 => bif v60.1 then (f110 i9 i10 i11 i12 i13 i14 (some { id := List.length v60.2, off := 0, len := 3, cap := 3, esz := 1 }) (v60.2 ++ [Blk.row [Cell.int .i64 1, Cell.int .i64 2, Cell.int .i64 3] false])).bind fun v59 => bif v59.1 then (f111 i0 i1 i2 i3 i4 i5 i6 i7 i8 i9 i10 i11 i12 i13 i14 i15 i16 i17 i18 i19 v59.2).bind fun v58 => bif v58.1 then some (true, v58.2) else some (false, v58.2) else some (false, v59.2) else some (false, v60.2) else some (false, v61.2) else (f105 i1 v91.2).bind fun v65 => bif v65.1 then (f110 i3 i4 i5 i6 i7 i8 (some { id := List.length v65.2, off := 0, len := 2, cap := 2, esz := 1 }) (v65.2 ++ [Blk.row [Cell.int .i64 1, Cell.int .i64 2] false])).bind fun v64 => bif v64.1 then (f110 i9 i10 i11 i12 i13 i14 (some { id := List.length v64.2, off := 0, len := 3, cap := 3, esz := 1 }) (v64.2 ++ [Blk.row [Cell.int .i64 1, Cell.int .i64 2, Cell.int .i64 3] false])).bind fun v63 => bif v63.1 then (f111 i0 i1 i2 i3 i4 i5 i6 i7 i8 i9 i10 i11 i12 i13 i14 i15 i16 i17 i18 i19 v63.2).bind fun v62 => bif v62.1 then some (true, v62.2) else some (false, v62.2) else some (false, v63.2) else some (false, v64.2) else some (false, v65.2) else (f52 i0 i1 i2 i3 i4 i5 i6 i7 i8 i9 i10 i11 i12 i13 i14 i15 i16 i17 i18 i19 11 12 v91.2).bind fun v90 => bif v90.1 then (f112 i0 i1 i2 i3 i4 i5 i6 i7 i8 i9 i10 i11 i12 i13 i14 i15 i16 i17 i18 i19 v90.2).bind fun v68 => bif v68.1 then (f110 i3 i4 i5 i6 i7 i8 (some { id := List.length v68.2, off := 0, len := 1, cap := 1, esz := 1 }) (v68.2 ++ [Blk.row [Cell.int .i64 1] false])).bind fun v67 => bif v67.1 then (f110 i9 i10 i11 i12 i13 i14 (some { id := List.length v67.2, off := 0, len := 2, cap := 2, esz := 1 }) (v67.2 ++ [Blk.row [Cell.int .i64 1, Cell.int .i64 2] false])).bind fun v66 => bif v66.1 then bif i2 == 1 then some (true, v66.2) else bif i2 == 2 then bif decide (i1 > 2) then some (true, v66.2) else bif i2 == 4 then bif i1 == 8 then some (i0 == 12, v66.2) else some (false, v66.2) else some (false, v66.2) else bif i2 == 4 then bif i1 == 8 then some (i0 == 12, v66.2) else some (false, v66.2) else some (false, v66.2) else some (false, v66.2) else some (false, v67.2) else some (false, v68.2) else bif i0 == 13 then (f112 i0 i1 i2 i3 i4 i5 i6 i7 i8 i9 i10 i11 i12 i13 i14 i15 i16 i17 i18 i19 v90.2).bind fun v71 => bif v71.1 then (f110 i3 i4 i5 i6 i7 i8 (some { id := List.length v71.2, off := 0, len := 1, cap := 1, esz := 1 }) (v71.2 ++ [Blk.row [Cell.int .i64 1] false])).bind fun v70 => bif v70.1 then (f110 i9 i10 i11 i12 i13 i14 (some { id := List.length v70.2, off := 0, len := 1, cap := 1, esz := 1 }) (v70.2 ++ [Blk.row [Cell.int .i64 2] false])).bind fun v69 => some (v69.1, v69.2) else some (false, v70.2) else some (false, v71.2) else (f52 i0 i1 i2 i3 i4 i5 i6 i7 i8 i9 i10 i11 i12 i13 i14 i15 i16 i17 i18 i19 24 25 v90.2).bind fun v89 => bif v89.1 then (f112 i0 i1 i2 i3 i4 i5 i6 i7 i8 i9 i10 i11 i12 i13 i14 i15 i16 i17 i18 i19 v89.2).bind fun v75 => bif v75.1 then (f110 i3 i4 i5 i6 i7 i8 (some { id := List.length v75.2, off := 0, len := 1, cap := 1, esz := 1 }) (v75.2 ++ [Blk.row [Cell.int .i64 1] false])).bind fun v74 => bif v74.1 then (f110 i9 i10 i11 i12 i13 i14 (some { id := List.length v74.2, off := 0, len := 2, cap := 2, esz := 1 }) (v74.2 ++ [Blk.row [Cell.int .i64 1, Cell.int .i64 2] false])).bind fun v73 => bif v73.1 then (f113 i0 i1 i2 i3 i4 i5 i6 i7 i8 i9 i10 i11 i12 i13 i14 i15 i16 i17 i18 i19 v73.2).bind fun v72 => some (v72.1, v72.2) else some (false, v73.2) else some (false, v74.2) else some (false, v75.2) else (f52 i0 i1 i2 i3 i4 i5 i6 i7 i8 i9 i10 i11 i12 i13 i14 i15 i16 i17 i18 i19 26 30 v89.2).bind fun v88 => bif v88.1 then (f105 i1 v88.2).bind fun v80 => bif v80.1 then (f110 i3 i4 i5 i6 i7 i8 (some { id := List.length v80.2, off := 0, len := 2, cap := 2, esz := 1 }) (v80.2 ++ [Blk.row [Cell.int .i64 1, Cell.int .i64 2] false])).bind fun v79 => bif v79.1 then (f11 1 v79.2).bind fun v78 => bif i9 == v78.1.1 && (i10 == v78.1.2.1 && (i11 == v78.1.2.2.1 && (i12 == v78.1.2.2.2.1 && (i13 == v78.1.2.2.2.2.1 && (i14 == v78.1.2.2.2.2.2 && true))) && true)) then bif i15 == 0 then some (true, v78.2) else (f110 i9 i10 i11 i12 i13 i14 (some { id := List.length v78.2, off := 0, len := 1, cap := 1, esz := 1 }) (v78.2 ++ [Blk.row [Cell.int .i64 3] false])).bind fun v76 => bif v76.1 then bif decide (i15 ≥ 0) then some (decide (i15 ≤ 255), v76.2) else some (false, v76.2) else some (false, v76.2) else (f110 i9 i10 i11 i12 i13 i14 (some { id := List.length v78.2, off := 0, len := 1, cap := 1, esz := 1 }) (v78.2 ++ [Blk.row [Cell.int .i64 3] false])).bind fun v77 => bif v77.1 then bif decide (i15 ≥ 0) then some (decide (i15 ≤ 255), v77.2) else some (false, v77.2) else some (false, v77.2) else some (false, v79.2) else some (false, v80.2) else (f52 i0 i1 i2 i3 i4 i5 i6 i7 i8 i9 i10 i11 i12 i13 i14 i15 i16 i17 i18 i19 31 33 v88.2).bind fun v87 => bif v87.1 then (f105 i1 v87.2).bind fun v83 => bif v83.1 then (f110 i3 i4 i5 i6 i7 i8 (some { id := List.length v83.2, off := 0, len := 2, cap := 2, esz := 1 }) (v83.2 ++ [Blk.row [Cell.int .i64 1, Cell.int .i64 2] false])).bind fun v82 => bif v82.1 then (f110 i9 i10 i11 i12 i13 i14 (some { id := List.length v82.2, off := 0, len := 1, cap := 1, esz := 1 }) (v82.2 ++ [Blk.row [Cell.int .i64 1] false])).bind fun v81 => some (v81.1, v81.2) else some (false, v82.2) else some (false, v83.2) else bif i0 == 34 then (f112 i0 i1 i2 i3 i4 i5 i6 i7 i8 i9 i10 i11 i12 i13 i14 i15 i16 i17 i18 i19 v87.2).bind fun v86 => bif v86.1 then (f110 i3 i4 i5 i6 i7 i8 (some { id := List.length v86.2, off := 0, len := 1, cap := 1, esz := 1 }) (v86.2 ++ [Blk.row [Cell.int .i64 1] false])).bind fun v85 => bif v85.1 then (f110 i9 i10 i11 i12 i13 i14 (some { id := List.length v85.2, off := 0, len := 2, cap := 2, esz := 1 }) (v85.2 ++ [Blk.row [Cell.int .i64 1, Cell.int .i64 2] false])).bind fun v84 => some (v84.1, v84.2) else some (false, v85.2) else some (false, v86.2) else some (false, v87.2) := by intros; rw [f66_eq]; exact (fnA_lpD hN66 ..).trans (by kernel_rfl)
theorem ok66 : FnOk Tryz.prog 66 (specF enc66 (sem66 f66)) := by
  refine spec_ok (C := CC66) good66 rfl rfl rfl (by kernel_rfl) Tryz.func66 (c := bodyOf Tryz.f66) (by kernel_rfl) (by kernel_rfl) (Nat.le_of_eq Tryz.ntmps66.symm) dec66 enc66 de66 _ ?_
  intro args H q h
  unfold sem66 at h
  split at h
  · rw [f66_eq] at h; exact h
  · cases h
/-! 67: xinst_Inst_one -/
noncomputable def CC67 : Ctx := { P := Tryz.prog, own := [1], fns := [(112, specF enc112 (sem112 f112)), (105, specF enc105 (sem105 f105)), (52, specF enc52 (sem52 f52)), (113, specF enc113 (sem113 f113)), (110, specF enc110 (sem110 f110))], nt := 175, nums := [], live := [] }
theorem good67 : Callees Tryz.prog CC67.fns [] CC67.nums := (((((Callees.nil Tryz.prog).cons ok110 (specF_nat _ _)).cons ok113 (specF_nat _ _)).cons ok52 (specF_nat _ _)).cons ok105 (specF_nat _ _)).cons ok112 (specF_nat _ _)
theorem hN67 : CtxNat CC67 := good67.ctx rfl rfl rfl
def enc67 (r : Bool) : List TV := [.c (Cell.bool (r))]
def dec67 : AV → Option (Bool)
  | .c (Cell.bool q0) => some (q0)
  | _ => none
theorem de67 (v : AV) (r : Bool) (h : dec67 v = some r) : v = oneOf (enc67 r) := by
  unfold dec67 at h
  split at h
  · cases h; rfl
  · cases h
abbrev Ty67 := Int → Int → Int → Int → Int → Int → Int → Int → Int → Int → Int → Int → Int → Int → Int → Int → Int → Bool → Bool → Int → Heap → Option (Bool × Heap)
def sem67 (f : Ty67) : List TV → Heap → Option (Bool × Heap)
  | [.agg [Cell.int .i64 i0, Cell.int .i64 i1, Cell.int .i64 i2, Cell.int .i64 i3, Cell.int .i64 i4, Cell.int .i64 i5, Cell.int .i64 i6, Cell.int .i64 i7, Cell.int .i64 i8, Cell.int .i64 i9, Cell.int .i64 i10, Cell.int .i64 i11, Cell.int .i64 i12, Cell.int .i64 i13, Cell.int .i64 i14, Cell.int .i64 i15, Cell.int .i64 i16, Cell.bool i17, Cell.bool i18, Cell.int .i64 i19]], H => f i0 i1 i2 i3 i4 i5 i6 i7 i8 i9 i10 i11 i12 i13 i14 i15 i16 i17 i18 i19 H
  | _, _ => none
noncomputable def F067 : Ty67 := fun i0 i1 i2 i3 i4 i5 i6 i7 i8 i9 i10 i11 i12 i13 i14 i15 i16 i17 i18 i19 H => fnA CC67 Tryz.f67.results.toList (bodyOf Tryz.f67) _ [.agg [Cell.int .i64 i0, Cell.int .i64 i1, Cell.int .i64 i2, Cell.int .i64 i3, Cell.int .i64 i4, Cell.int .i64 i5, Cell.int .i64 i6, Cell.int .i64 i7, Cell.int .i64 i8, Cell.int .i64 i9, Cell.int .i64 i10, Cell.int .i64 i11, Cell.int .i64 i12, Cell.int .i64 i13, Cell.int .i64 i14, Cell.int .i64 i15, Cell.int .i64 i16, Cell.bool i17, Cell.bool i18, Cell.int .i64 i19]] H (decF dec67)
noncomputable def f67 : Ty67 := hide F067
theorem f67_eq : f67 = F067 := hide_eq _
theorem q67 : ∀ (i0 i1 i2 i3 i4 i5 i6 i7 i8 i9 i10 i11 i12 i13 i14 i15 i16 : Int) (i17 i18 : Bool) (i19 : Int) (H : Heap), f67 i0 i1 i2 i3 i4 i5 i6 i7 i8 i9 i10 i11 i12 i13 i14 i15 i16 i17 i18 i19 H = bif !(i9 == 0 && (i10 == 0 && (i11 == 0 && (i12 == 0 && (i13 == 0 && (i14 == 0 && true))) && true))) then some (false, H) else bif i0 == 14 then bif i1 == 8 then (f110 i3 i4 i5 i6 i7 i8 (some { id := List.length H, off := 0, len := 3, cap := 3, esz := 1 }) (H ++ [Blk.row [Cell.int .i64 1, Cell.int .i64 2, Cell.int .i64 3] false])).bind fun v1 => bif v1.1 then bif i3 == 3 then (f113 i0 i1 i2 i3 i4 i5 i6 i7 i8 i9 i10 i11 i12 i13 i14 i15 i16 i17 i18 i19 v1.2).bind fun v0 => bif v0.1 then some (true, v0.2) else some (i15 == 0, v0.2) else some (i15 == 0, v1.2) else some (false, v1.2) else some (false, H) else bif i0 == 15 then bif i1 == 8 then (f110 i3 i4 i5 i6 i7 i8 (some { id := List.length H, off := 0, len := 2, cap := 2, esz := 1 }) (H ++ [Blk.row [Cell.int .i64 1, Cell.int .i64 2] false])).bind fun v2 => some (v2.1, v2.2) else some (false, H) else (f52 i0 i1 i2 i3 i4 i5 i6 i7 i8 i9 i10 i11 i12 i13 i14 i15 i16 i17 i18 i19 16 21 H).bind fun v25 => bif v25.1 then (f105 i1 v25.2).bind fun v4 => bif v4.1 then (f110 i3 i4 i5 i6 i7 i8 (some { id := List.length v4.2, off := 0, len := 2, cap := 2, esz := 1 }) (v4.2 ++ [Blk.row [Cell.int .i64 1, Cell.int .i64 2] false])).bind fun v3 => some (v3.1, v3.2) else some (false, v4.2) else (f52 i0 i1 i2 i3 i4 i5 i6 i7 i8 i9 i10 i11 i12 i13 i14 i15 i16 i17 i18 i19 22 23 v25.2).bind fun v24 => bif v24.1 then (f105 i1 v24.2).bind fun v6 => bif v6.1 then bif decide (i1 < 8) then (f110 i3 i4 i5 i6 i7 i8 (some { id := List.length v6.2, off := 0, len := 2, cap := 2, esz := 1 }) (v6.2 ++ [Blk.row [Cell.int .i64 1, Cell.int .i64 2] false])).bind fun v5 => some (v5.1, v5.2) else some (false, v6.2) else some (false, v6.2) else bif i0 == 35 then bif i1 == 1 then (f110 i3 i4 i5 i6 i7 i8 (some { id := List.length v24.2, off := 0, len := 2, cap := 2, esz := 1 }) (v24.2 ++ [Blk.row [Cell.int .i64 1, Cell.int .i64 2] false])).bind fun v7 => some (v7.1, v7.2) else some (false, v24.2) else (f52 i0 i1 i2 i3 i4 i5 i6 i7 i8 i9 i10 i11 i12 i13 i14 i15 i16 i17 i18 i19 37 38 v24.2).bind fun v23 => bif v23.1 then bif i1 == 8 then (f110 i3 i4 i5 i6 i7 i8 (some { id := List.length v23.2, off := 0, len := 1, cap := 1, esz := 1 }) (v23.2 ++ [Blk.row [Cell.int .i64 0] false])).bind fun v11 => bif v11.1 then (f113 i0 i1 i2 i3 i4 i5 i6 i7 i8 i9 i10 i11 i12 i13 i14 i15 i16 i17 i18 i19 v11.2).bind fun v9 => bif v9.1 then some (true, v9.2) else (f110 i3 i4 i5 i6 i7 i8 (some { id := List.length v9.2, off := 0, len := 2, cap := 2, esz := 1 }) (v9.2 ++ [Blk.row [Cell.int .i64 1, Cell.int .i64 2] false])).bind fun v8 => bif v8.1 then some (i15 == 0, v8.2) else some (false, v8.2) else (f110 i3 i4 i5 i6 i7 i8 (some { id := List.length v11.2, off := 0, len := 2, cap := 2, esz := 1 }) (v11.2 ++ [Blk.row [Cell.int .i64 1, Cell.int .i64 2] false])).bind fun v10 => bif v10.1 then some (i15 == 0, v10.2) else some (false, v10.2) else some (false, v23.2) else bif i0 == 36 then bif i1 == 8 then (f110 i3 i4 i5 i6 i7 i8 (some { id := List.length v23.2, off := 0, len := 1, cap := 1, esz := 1 }) (v23.2 ++ [Blk.row [Cell.int .i64 0] false])).bind fun v13 => bif v13.1 then (f113 i0 i1 i2 i3 i4 i5 i6 i7 i8 i9 i10 i11 i12 i13 i14 i15 i16 i17 i18 i19 v13.2).bind fun v12 => some (v12.1, v12.2) else some (false, v13.2) else some (false, v23.2) else (f52 i0 i1 i2 i3 i4 i5 i6 i7 i8 i9 i10 i11 i12 i13 i14 i15 i16 i17 i18 i19 40 41 v23.2).bind fun v22 => bif v22.1 then (f112 i0 i1 i2 i3 i4 i5 i6 i7 i8 i9 i10 i11 i12 i13 i14 i15 i16 i17 i18 i19 v22.2).bind fun v15 => bif v15.1 then (f110 i3 i4 i5 i6 i7 i8 (some { id := List.length v15.2, off := 0, len := 1, cap := 1, esz := 1 }) (v15.2 ++ [Blk.row [Cell.int .i64 0] false])).bind fun v14 => some (v14.1, v14.2) else some (false, v15.2) else (f52 i0 i1 i2 i3 i4 i5 i6 i7 i8 i9 i10 i11 i12 i13 i14 i15 i16 i17 i18 i19 42 43 v22.2).bind fun v21 => bif v21.1 then (f105 i1 v21.2).bind fun v17 => bif v17.1 then (f110 i3 i4 i5 i6 i7 i8 (some { id := List.length v17.2, off := 0, len := 1, cap := 1, esz := 1 }) (v17.2 ++ [Blk.row [Cell.int .i64 0] false])).bind fun v16 => some (v16.1, v16.2) else some (false, v17.2) else bif i0 == 39 then bif i1 == 8 then (f110 i3 i4 i5 i6 i7 i8 (some { id := List.length v21.2, off := 0, len := 1, cap := 1, esz := 1 }) (v21.2 ++ [Blk.row [Cell.int .i64 0] false])).bind fun v18 => some (v18.1, v18.2) else some (false, v21.2) else (f52 i0 i1 i2 i3 i4 i5 i6 i7 i8 i9 i10 i11 i12 i13 i14 i15 i16 i17 i18 i19 44 47 v21.2).bind fun v20 => bif v20.1 then bif i1 == 8 then (f110 i3 i4 i5 i6 i7 i8 (some { id := List.length v20.2, off := 0, len := 1, cap := 1, esz := 1 }) (v20.2 ++ [Blk.row [Cell.int .i64 0] false])).bind fun v19 => some (v19.1, v19.2) else some (false, v20.2) else some (false, v20.2) := by intros; rw [f67_eq]; exact (fnA_lpD hN67 ..).trans (by kernel_rfl)
theorem ok67 : FnOk Tryz.prog 67 (specF enc67 (sem67 f67)) := by
  refine spec_ok (C := CC67) good67 rfl rfl rfl (by kernel_rfl) Tryz.func67 (c := bodyOf Tryz.f67) (by kernel_rfl) (by kernel_rfl) (Nat.le_of_eq Tryz.ntmps67.symm) dec67 enc67 de67 _ ?_
  intro args H q h
  unfold sem67 at h
  split at h
  · rw [f67_eq] at h; exact h
  · cases h
/-! 34: xinst_May -/
noncomputable def CC34 : Ctx := { P := Tryz.prog, own := [1], fns := [(67, specF enc67 (sem67 f67)), (66, specF enc66 (sem66 f66)), (65, specF enc65 (sem65 f65)), (64, specF enc64 (sem64 f64)), (52, specF enc52 (sem52 f52))], nt := 41, nums := [], live := [] }
theorem good34 : Callees Tryz.prog CC34.fns [] CC34.nums := (((((Callees.nil Tryz.prog).cons ok52 (specF_nat _ _)).cons ok64 (specF_nat _ _)).cons ok65 (specF_nat _ _)).cons ok66 (specF_nat _ _)).cons ok67 (specF_nat _ _)
theorem hN34 : CtxNat CC34 := good34.ctx rfl rfl rfl
def enc34 (r : Bool) : List TV := [.c (Cell.bool (r))]
def dec34 : AV → Option (Bool)
  | .c (Cell.bool q0) => some (q0)
  | _ => none
theorem de34 (v : AV) (r : Bool) (h : dec34 v = some r) : v = oneOf (enc34 r) := by
  unfold dec34 at h
  split at h
  · cases h; rfl
  · cases h
abbrev Ty34 := Int → Int → Int → Int → Int → Int → Int → Int → Int → Int → Int → Int → Int → Int → Int → Int → Int → Bool → Bool → Int → Heap → Option (Bool × Heap)
def sem34 (f : Ty34) : List TV → Heap → Option (Bool × Heap)
  | [.agg [Cell.int .i64 i0, Cell.int .i64 i1, Cell.int .i64 i2, Cell.int .i64 i3, Cell.int .i64 i4, Cell.int .i64 i5, Cell.int .i64 i6, Cell.int .i64 i7, Cell.int .i64 i8, Cell.int .i64 i9, Cell.int .i64 i10, Cell.int .i64 i11, Cell.int .i64 i12, Cell.int .i64 i13, Cell.int .i64 i14, Cell.int .i64 i15, Cell.int .i64 i16, Cell.bool i17, Cell.bool i18, Cell.int .i64 i19]], H => f i0 i1 i2 i3 i4 i5 i6 i7 i8 i9 i10 i11 i12 i13 i14 i15 i16 i17 i18 i19 H
  | _, _ => none
noncomputable def F034 : Ty34 := fun i0 i1 i2 i3 i4 i5 i6 i7 i8 i9 i10 i11 i12 i13 i14 i15 i16 i17 i18 i19 H => fnA CC34 Tryz.f34.results.toList (bodyOf Tryz.f34) _ [.agg [Cell.int .i64 i0, Cell.int .i64 i1, Cell.int .i64 i2, Cell.int .i64 i3, Cell.int .i64 i4, Cell.int .i64 i5, Cell.int .i64 i6, Cell.int .i64 i7, Cell.int .i64 i8, Cell.int .i64 i9, Cell.int .i64 i10, Cell.int .i64 i11, Cell.int .i64 i12, Cell.int .i64 i13, Cell.int .i64 i14, Cell.int .i64 i15, Cell.int .i64 i16, Cell.bool i17, Cell.bool i18, Cell.int .i64 i19]] H (decF dec34)
noncomputable def f34 : Ty34 := hide F034
theorem f34_eq : f34 = F034 := hide_eq _
theorem q34 : ∀ (i0 i1 i2 i3 i4 i5 i6 i7 i8 i9 i10 i11 i12 i13 i14 i15 i16 : Int) (i17 i18 : Bool) (i19 : Int) (H : Heap), f34 i0 i1 i2 i3 i4 i5 i6 i7 i8 i9 i10 i11 i12 i13 i14 i15 i16 i17 i18 i19 H = bif i9 == 3 then (f64 i0 i1 i2 i3 i4 i5 i6 i7 i8 i9 i10 i11 i12 i13 i14 i15 i16 i17 i18 i19 H).bind fun v5 => bif v5.1 then (f52 i0 i1 i2 i3 i4 i5 i6 i7 i8 i9 i10 i11 i12 i13 i14 i15 i16 i17 i18 i19 34 36 v5.2).bind fun v4 => (f52 i0 i1 i2 i3 i4 i5 i6 i7 i8 i9 i10 i11 i12 i13 i14 i15 i16 i17 i18 i19 11 12 v4.2).bind fun v3 => (f65 i0 i1 i2 i3 i4 i5 i6 i7 i8 i9 i10 i11 i12 i13 i14 i15 i16 i17 i18 i19 true v4.1 v3.1 v3.2).bind fun v2 => bif v2.1 then (f66 i0 i1 i2 i3 i4 i5 i6 i7 i8 i9 i10 i11 i12 i13 i14 i15 i16 i17 i18 i19 v2.2).bind fun v1 => bif v1.1 then some (true, v1.2) else (f67 i0 i1 i2 i3 i4 i5 i6 i7 i8 i9 i10 i11 i12 i13 i14 i15 i16 i17 i18 i19 v1.2).bind fun v0 => some (v0.1, v0.2) else some (false, v2.2) else some (false, v5.2) else bif i0 == 25 then (f64 i0 i1 i2 i3 i4 i5 i6 i7 i8 i9 i10 i11 i12 i13 i14 i15 i16 i17 i18 i19 H).bind fun v11 => bif v11.1 then (f52 i0 i1 i2 i3 i4 i5 i6 i7 i8 i9 i10 i11 i12 i13 i14 i15 i16 i17 i18 i19 34 36 v11.2).bind fun v10 => (f52 i0 i1 i2 i3 i4 i5 i6 i7 i8 i9 i10 i11 i12 i13 i14 i15 i16 i17 i18 i19 11 12 v10.2).bind fun v9 => (f65 i0 i1 i2 i3 i4 i5 i6 i7 i8 i9 i10 i11 i12 i13 i14 i15 i16 i17 i18 i19 true v10.1 v9.1 v9.2).bind fun v8 => bif v8.1 then (f66 i0 i1 i2 i3 i4 i5 i6 i7 i8 i9 i10 i11 i12 i13 i14 i15 i16 i17 i18 i19 v8.2).bind fun v7 => bif v7.1 then some (true, v7.2) else (f67 i0 i1 i2 i3 i4 i5 i6 i7 i8 i9 i10 i11 i12 i13 i14 i15 i16 i17 i18 i19 v7.2).bind fun v6 => some (v6.1, v6.2) else some (false, v8.2) else some (false, v11.2) else bif i0 == 14 then (f64 i0 i1 i2 i3 i4 i5 i6 i7 i8 i9 i10 i11 i12 i13 i14 i15 i16 i17 i18 i19 H).bind fun v17 => bif v17.1 then (f52 i0 i1 i2 i3 i4 i5 i6 i7 i8 i9 i10 i11 i12 i13 i14 i15 i16 i17 i18 i19 34 36 v17.2).bind fun v16 => (f52 i0 i1 i2 i3 i4 i5 i6 i7 i8 i9 i10 i11 i12 i13 i14 i15 i16 i17 i18 i19 11 12 v16.2).bind fun v15 => (f65 i0 i1 i2 i3 i4 i5 i6 i7 i8 i9 i10 i11 i12 i13 i14 i15 i16 i17 i18 i19 true v16.1 v15.1 v15.2).bind fun v14 => bif v14.1 then (f66 i0 i1 i2 i3 i4 i5 i6 i7 i8 i9 i10 i11 i12 i13 i14 i15 i16 i17 i18 i19 v14.2).bind fun v13 => bif v13.1 then some (true, v13.2) else (f67 i0 i1 i2 i3 i4 i5 i6 i7 i8 i9 i10 i11 i12 i13 i14 i15 i16 i17 i18 i19 v13.2).bind fun v12 => some (v12.1, v12.2) else some (false, v14.2) else some (false, v17.2) else (f52 i0 i1 i2 i3 i4 i5 i6 i7 i8 i9 i10 i11 i12 i13 i14 i15 i16 i17 i18 i19 36 38 H).bind fun v24 => (f64 i0 i1 i2 i3 i4 i5 i6 i7 i8 i9 i10 i11 i12 i13 i14 i15 i16 i17 i18 i19 v24.2).bind fun v23 => bif v23.1 then (f52 i0 i1 i2 i3 i4 i5 i6 i7 i8 i9 i10 i11 i12 i13 i14 i15 i16 i17 i18 i19 34 36 v23.2).bind fun v22 => (f52 i0 i1 i2 i3 i4 i5 i6 i7 i8 i9 i10 i11 i12 i13 i14 i15 i16 i17 i18 i19 11 12 v22.2).bind fun v21 => (f65 i0 i1 i2 i3 i4 i5 i6 i7 i8 i9 i10 i11 i12 i13 i14 i15 i16 i17 i18 i19 v24.1 v22.1 v21.1 v21.2).bind fun v20 => bif v20.1 then (f66 i0 i1 i2 i3 i4 i5 i6 i7 i8 i9 i10 i11 i12 i13 i14 i15 i16 i17 i18 i19 v20.2).bind fun v19 => bif v19.1 then some (true, v19.2) else (f67 i0 i1 i2 i3 i4 i5 i6 i7 i8 i9 i10 i11 i12 i13 i14 i15 i16 i17 i18 i19 v19.2).bind fun v18 => some (v18.1, v18.2) else some (false, v20.2) else some (false, v23.2) := by intros; rw [f34_eq]; exact (fnA_lpD hN34 ..).trans (by kernel_rfl)
theorem ok34 : FnOk Tryz.prog 34 (specF enc34 (sem34 f34)) := by
  refine spec_ok (C := CC34) good34 rfl rfl rfl (by kernel_rfl) Tryz.func34 (c := bodyOf Tryz.f34) (by kernel_rfl) (by kernel_rfl) (Nat.le_of_eq Tryz.ntmps34.symm) dec34 enc34 de34 _ ?_
  intro args H q h
  unfold sem34 at h
  split at h
  · rw [f34_eq] at h; exact h
  · cases h
/-! 35: xinst_Inst_Next -/
noncomputable def CC35 : Ctx := { P := Tryz.prog, own := [2], fns := [], nt := 10, nums := [], live := [] }
theorem good35 : Callees Tryz.prog CC35.fns [] CC35.nums := Callees.nil Tryz.prog
theorem hN35 : CtxNat CC35 := good35.ctx rfl rfl rfl
def enc35 (r : Int) : List TV := [.c (Cell.int .u64 (r))]
def dec35 : AV → Option (Int)
  | .c (Cell.int .u64 q0) => some (q0)
  | _ => none
theorem de35 (v : AV) (r : Int) (h : dec35 v = some r) : v = oneOf (enc35 r) := by
  unfold dec35 at h
  split at h
  · cases h; rfl
  · cases h
abbrev Ty35 := Int → Int → Int → Int → Int → Int → Int → Int → Int → Int → Int → Int → Int → Int → Int → Int → Int → Bool → Bool → Int → Int → Heap → Option (Int × Heap)
def sem35 (f : Ty35) : List TV → Heap → Option (Int × Heap)
  | [.agg [Cell.int .i64 i0, Cell.int .i64 i1, Cell.int .i64 i2, Cell.int .i64 i3, Cell.int .i64 i4, Cell.int .i64 i5, Cell.int .i64 i6, Cell.int .i64 i7, Cell.int .i64 i8, Cell.int .i64 i9, Cell.int .i64 i10, Cell.int .i64 i11, Cell.int .i64 i12, Cell.int .i64 i13, Cell.int .i64 i14, Cell.int .i64 i15, Cell.int .i64 i16, Cell.bool i17, Cell.bool i18, Cell.int .i64 i19], .c (Cell.int .u64 x1)], H => f i0 i1 i2 i3 i4 i5 i6 i7 i8 i9 i10 i11 i12 i13 i14 i15 i16 i17 i18 i19 x1 H
  | _, _ => none
noncomputable def F035 : Ty35 := fun i0 i1 i2 i3 i4 i5 i6 i7 i8 i9 i10 i11 i12 i13 i14 i15 i16 i17 i18 i19 x1 H => fnA CC35 Tryz.f35.results.toList (bodyOf Tryz.f35) _ [.agg [Cell.int .i64 i0, Cell.int .i64 i1, Cell.int .i64 i2, Cell.int .i64 i3, Cell.int .i64 i4, Cell.int .i64 i5, Cell.int .i64 i6, Cell.int .i64 i7, Cell.int .i64 i8, Cell.int .i64 i9, Cell.int .i64 i10, Cell.int .i64 i11, Cell.int .i64 i12, Cell.int .i64 i13, Cell.int .i64 i14, Cell.int .i64 i15, Cell.int .i64 i16, Cell.bool i17, Cell.bool i18, Cell.int .i64 i19], .c (Cell.int .u64 x1)] H (decF dec35)
noncomputable def f35 : Ty35 := hide F035
theorem f35_eq : f35 = F035 := hide_eq _
theorem q35 : ∀ (i0 i1 i2 i3 i4 i5 i6 i7 i8 i9 i10 i11 i12 i13 i14 i15 i16 : Int) (i17 i18 : Bool) (i19 x1 : Int) (H : Heap), f35 i0 i1 i2 i3 i4 i5 i6 i7 i8 i9 i10 i11 i12 i13 i14 i15 i16 i17 i18 i19 x1 H = some (IntKind.u64.wrap (x1 + IntKind.u64.wrap i19), H) := by intros; rw [f35_eq]; exact (fnA_lpD hN35 ..).trans (by kernel_rfl)
theorem ok35 : FnOk Tryz.prog 35 (specF enc35 (sem35 f35)) := by
  refine spec_ok (C := CC35) good35 rfl rfl rfl (by kernel_rfl) Tryz.func35 (c := bodyOf Tryz.f35) (by kernel_rfl) (by kernel_rfl) (Nat.le_of_eq Tryz.ntmps35.symm) dec35 enc35 de35 _ ?_
  intro args H q h
  unfold sem35 at h
  split at h
  · rw [f35_eq] at h; exact h
  · cases h
/-! 36: xsem_run_locked -/
noncomputable def CC36 : Ctx := { P := Tryz.prog, own := [], fns := [], nt := 25, nums := [], live := [] }
theorem good36 : Callees Tryz.prog CC36.fns [] CC36.nums := Callees.nil Tryz.prog
theorem hN36 : CtxNat CC36 := good36.ctx rfl rfl rfl
def enc36 (r : Bool) : List TV := [.c (Cell.bool (r))]
def dec36 : AV → Option (Bool)
  | .c (Cell.bool q0) => some (q0)
  | _ => none
theorem de36 (v : AV) (r : Bool) (h : dec36 v = some r) : v = oneOf (enc36 r) := by
  unfold dec36 at h
  split at h
  · cases h; rfl
  · cases h
abbrev Ty36 := PO → Heap → Option (Bool × Heap)
def sem36 (f : Ty36) : List TV → Heap → Option (Bool × Heap)
  | [.c (Cell.ptr r)], H => f r H
  | _, _ => none
noncomputable def F036 : Ty36 := fun r H => fnA CC36 Tryz.f36.results.toList (bodyOf Tryz.f36) _ [.c (Cell.ptr r)] H (decF dec36)
noncomputable def f36 : Ty36 := hide F036
theorem f36_eq : f36 = F036 := hide_eq _
theorem q36 : ∀ (r : PO) (H : Heap), f36 r H = r.bind fun v8 => (H.get v8.1 (v8.2 + 21 + 17)).bind fun v7 => v7.toBool.bind fun v6 => bif v6 then some (true, H) else r.bind fun v5 => (H.get v5.1 (v5.2 + 21 + 0)).bind fun v4 => (Cell.toInt .i64 v4).bind fun v3 => bif v3 == 31 then r.bind fun v2 => (H.get v2.1 (v2.2 + 21 + 3 + 0)).bind fun v1 => (Cell.toInt .i64 v1).bind fun v0 => some (v0 == 2, H) else some (false, H) := by intros; rw [f36_eq]; exact (fnA_lpD hN36 ..).trans (by kernel_rfl)
theorem ok36 : FnOk Tryz.prog 36 (specF enc36 (sem36 f36)) := by
  refine spec_ok (C := CC36) good36 rfl rfl rfl (by kernel_rfl) Tryz.func36 (c := bodyOf Tryz.f36) (by kernel_rfl) (by kernel_rfl) (Nat.le_of_eq Tryz.ntmps36.symm) dec36 enc36 de36 _ ?_
  intro args H q h
  unfold sem36 at h
  split at h
  · rw [f36_eq] at h; exact h
  · cases h
/-! 127: xsem_Cpu_has -/
noncomputable def CC127 : Ctx := { P := Tryz.prog, own := [], fns := [(105, specF enc105 (sem105 f105))], nt := 21, nums := [], live := [] }
theorem good127 : Callees Tryz.prog CC127.fns [] CC127.nums := (Callees.nil Tryz.prog).cons ok105 (specF_nat _ _)
theorem hN127 : CtxNat CC127 := good127.ctx rfl rfl rfl
def enc127 (r : Bool) : List TV := [.c (Cell.bool (r))]
def dec127 : AV → Option (Bool)
  | .c (Cell.bool q0) => some (q0)
  | _ => none
theorem de127 (v : AV) (r : Bool) (h : dec127 v = some r) : v = oneOf (enc127 r) := by
  unfold dec127 at h
  split at h
  · cases h; rfl
  · cases h
abbrev Ty127 := PO → Int → Int → Heap → Option (Bool × Heap)
def sem127 (f : Ty127) : List TV → Heap → Option (Bool × Heap)
  | [.c (Cell.ptr c), .c (Cell.int .i64 reg), .c (Cell.int .i64 w)], H => f c reg w H
  | _, _ => none
noncomputable def F0127 : Ty127 := fun c reg w H => fnA CC127 Tryz.f127.results.toList (bodyOf Tryz.f127) _ [.c (Cell.ptr c), .c (Cell.int .i64 reg), .c (Cell.int .i64 w)] H (decF dec127)
noncomputable def f127 : Ty127 := hide F0127
theorem f127_eq : f127 = F0127 := hide_eq _
theorem q127 : ∀ (c : PO) (reg w : Int) (H : Heap), f127 c reg w H = bif !c.isNone then bif decide (reg ≥ 0) then bif decide (reg < 16) then (f105 w H).bind fun v0 => some (v0.1, v0.2) else some (false, H) else some (false, H) else some (false, H) := by intros; rw [f127_eq]; exact (fnA_lpD hN127 ..).trans (by kernel_rfl)
theorem ok127 : FnOk Tryz.prog 127 (specF enc127 (sem127 f127)) := by
  refine spec_ok (C := CC127) good127 rfl rfl rfl (by kernel_rfl) Tryz.func127 (c := bodyOf Tryz.f127) (by kernel_rfl) (by kernel_rfl) (Nat.le_of_eq Tryz.ntmps127.symm) dec127 enc127 de127 _ ?_
  intro args H q h
  unfold sem127 at h
  split at h
  · rw [f127_eq] at h; exact h
  · cases h
/-! 75: xsem_Cpu_Read -/
noncomputable def CC75 : Ctx := { P := Tryz.prog, own := [], fns := [(60, specF enc60 (sem60 f60)), (127, specF enc127 (sem127 f127))], nt := 20, nums := [], live := [] }
theorem good75 : Callees Tryz.prog CC75.fns [] CC75.nums := ((Callees.nil Tryz.prog).cons ok127 (specF_nat _ _)).cons ok60 (specF_nat _ _)
theorem hN75 : CtxNat CC75 := good75.ctx rfl rfl rfl
def enc75 (r : Int) : List TV := [.c (Cell.int .u64 (r))]
def dec75 : AV → Option (Int)
  | .c (Cell.int .u64 q0) => some (q0)
  | _ => none
theorem de75 (v : AV) (r : Int) (h : dec75 v = some r) : v = oneOf (enc75 r) := by
  unfold dec75 at h
  split at h
  · cases h; rfl
  · cases h
abbrev Ty75 := PO → Int → Int → Heap → Option (Int × Heap)
def sem75 (f : Ty75) : List TV → Heap → Option (Int × Heap)
  | [.c (Cell.ptr c), .c (Cell.int .i64 reg), .c (Cell.int .i64 w)], H => f c reg w H
  | _, _ => none
noncomputable def F075 : Ty75 := fun c reg w H => fnA CC75 Tryz.f75.results.toList (bodyOf Tryz.f75) _ [.c (Cell.ptr c), .c (Cell.int .i64 reg), .c (Cell.int .i64 w)] H (decF dec75)
noncomputable def f75 : Ty75 := hide F075
theorem f75_eq : f75 = F075 := hide_eq _
theorem q75 : ∀ (c : PO) (reg w : Int) (H : Heap), f75 c reg w H = (f127 c reg w H).bind fun v4 => bif !v4.1 then some (0, v4.2) else c.bind fun v3 => bif inb reg 16 then (v4.2.get v3.1 (v3.2 + 0 + reg.toNat * 1)).bind fun v2 => (Cell.toInt .u64 v2).bind fun v1 => (f60 v1 w v4.2).bind fun v0 => some (v0.1, v0.2) else none := by intros; rw [f75_eq]; exact (fnA_lpD hN75 ..).trans (by kernel_rfl)
theorem ok75 : FnOk Tryz.prog 75 (specF enc75 (sem75 f75)) := by
  refine spec_ok (C := CC75) good75 rfl rfl rfl (by kernel_rfl) Tryz.func75 (c := bodyOf Tryz.f75) (by kernel_rfl) (by kernel_rfl) (Nat.le_of_eq Tryz.ntmps75.symm) dec75 enc75 de75 _ ?_
  intro args H q h
  unfold sem75 at h
  split at h
  · rw [f75_eq] at h; exact h
  · cases h
/-! 118: xsem_Cpu_At -/
noncomputable def CC118 : Ctx := { P := Tryz.prog, own := [4], fns := [(75, specF enc75 (sem75 f75))], nt := 34, nums := [], live := [] }
theorem good118 : Callees Tryz.prog CC118.fns [] CC118.nums := (Callees.nil Tryz.prog).cons ok75 (specF_nat _ _)
def enc118 (r : Int) : List TV := [.c (Cell.int .u64 (r))]
def dec118 : AV → Option (Int)
  | .c (Cell.int .u64 q0) => some (q0)
  | _ => none
theorem de118 (v : AV) (r : Int) (h : dec118 v = some r) : v = oneOf (enc118 r) := by
  unfold dec118 at h
  split at h
  · cases h; rfl
  · cases h
abbrev Ty118 := PO → Int → Int → Int → Int → Int → Heap → Option (Int × Heap)
def sem118 (f : Ty118) : List TV → Heap → Option (Int × Heap)
  | [.c (Cell.ptr c), .agg [Cell.int .i64 a0, Cell.int .i64 a1, Cell.int .i64 a2, Cell.int .i64 a3], .c (Cell.int .u64 next)], H => f c a0 a1 a2 a3 next H
  | _, _ => none
noncomputable def F0118 : Ty118 := fun c a0 a1 a2 a3 next H => fnA CC118 Tryz.f118.results.toList (bodyOf Tryz.f118) _ [.c (Cell.ptr c), .agg [Cell.int .i64 a0, Cell.int .i64 a1, Cell.int .i64 a2, Cell.int .i64 a3], .c (Cell.int .u64 next)] H (decF dec118)
noncomputable def f118 : Ty118 := hide F0118
theorem f118_eq : f118 = F0118 := hide_eq _
theorem ok118 : FnOk Tryz.prog 118 (specF enc118 (sem118 f118)) := by
  refine spec_ok (C := CC118) good118 rfl rfl rfl (by kernel_rfl) Tryz.func118 (c := bodyOf Tryz.f118) (by kernel_rfl) (by kernel_rfl) (Nat.le_of_eq Tryz.ntmps118.symm) dec118 enc118 de118 _ ?_
  intro args H q h
  unfold sem118 at h
  split at h
  · rw [f118_eq] at h; exact h
  · cases h
/-! 82: xsem_run_fail -/
noncomputable def CC82 : Ctx := { P := Tryz.prog, own := [], fns := [], nt := 13, nums := [], live := [] }
theorem good82 : Callees Tryz.prog CC82.fns [] CC82.nums := Callees.nil Tryz.prog
theorem hN82 : CtxNat CC82 := good82.ctx rfl rfl rfl
def enc82 (r : Unit) : List TV := []
def dec82 : AV → Option (Unit)
  | .tup [] => some ()
  | _ => none
theorem de82 (v : AV) (r : Unit) (h : dec82 v = some r) : v = oneOf (enc82 r) := by
  unfold dec82 at h
  split at h
  · cases h; rfl
  · cases h
abbrev Ty82 := PO → Int → Heap → Option (Unit × Heap)
def sem82 (f : Ty82) : List TV → Heap → Option (Unit × Heap)
  | [.c (Cell.ptr r), .c (Cell.int .i64 x1)], H => f r x1 H
  | _, _ => none
noncomputable def F082 : Ty82 := fun r x1 H => fnA CC82 Tryz.f82.results.toList (bodyOf Tryz.f82) _ [.c (Cell.ptr r), .c (Cell.int .i64 x1)] H (decF dec82)
noncomputable def f82 : Ty82 := hide F082
theorem f82_eq : f82 = F082 := hide_eq _
theorem q82 : ∀ (r : PO) (x1 : Int) (H : Heap), f82 r x1 H = r.bind fun v4 => (H.get v4.1 (v4.2 + 44)).bind fun v3 => (Cell.toInt .i64 v3).bind fun v2 => bif v2 == 0 then r.bind fun v1 => (H.put v1.1 (v1.2 + 44) [Cell.int .i64 x1]).bind fun v0 => some ((), v0) else some ((), H) := by intros; rw [f82_eq]; exact (fnA_lpD hN82 ..).trans (by kernel_rfl)
theorem ok82 : FnOk Tryz.prog 82 (specF enc82 (sem82 f82)) := by
  refine spec_ok (C := CC82) good82 rfl rfl rfl (by kernel_rfl) Tryz.func82 (c := bodyOf Tryz.f82) (by kernel_rfl) (by kernel_rfl) (Nat.le_of_eq Tryz.ntmps82.symm) dec82 enc82 de82 _ ?_
  intro args H q h
  unfold sem82 at h
  split at h
  · rw [f82_eq] at h; exact h
  · cases h
/-! 117: xsem_run_read -/
noncomputable def CC117 : Ctx := { P := Tryz.prog, own := [], fns := [(82, specF enc82 (sem82 f82)), (164, specF enc164 (sem164 f164))], nt := 28, nums := [], live := [] }
theorem good117 : Callees Tryz.prog CC117.fns [] CC117.nums := ((Callees.nil Tryz.prog).cons ok164 (specF_nat _ _)).cons ok82 (specF_nat _ _)
theorem hN117 : CtxNat CC117 := good117.ctx rfl rfl rfl
def enc117 (r : Int) : List TV := [.c (Cell.int .u64 (r))]
def dec117 : AV → Option (Int)
  | .c (Cell.int .u64 q0) => some (q0)
  | _ => none
theorem de117 (v : AV) (r : Int) (h : dec117 v = some r) : v = oneOf (enc117 r) := by
  unfold dec117 at h
  split at h
  · cases h; rfl
  · cases h
abbrev Ty117 := PO → Int → Int → Heap → Option (Int × Heap)
def sem117 (f : Ty117) : List TV → Heap → Option (Int × Heap)
  | [.c (Cell.ptr r), .c (Cell.int .u64 x1), .c (Cell.int .i64 w)], H => f r x1 w H
  | _, _ => none
noncomputable def F0117 : Ty117 := fun r x1 w H => fnA CC117 Tryz.f117.results.toList (bodyOf Tryz.f117) _ [.c (Cell.ptr r), .c (Cell.int .u64 x1), .c (Cell.int .i64 w)] H (decF dec117)
noncomputable def f117 : Ty117 := hide F0117
theorem f117_eq : f117 = F0117 := hide_eq _
theorem q117 : ∀ (r : PO) (x1 w : Int) (H : Heap), f117 r x1 w H = r.bind fun v7 => (H.get v7.1 (v7.2 + 41)).bind fun v6 => v6.toPtr.bind fun v5 => r.bind fun v4 => (H.get v4.1 (v4.2 + 20)).bind fun v3 => (Cell.toInt .i64 v3).bind fun v2 => (f164 v5 v2 x1 w H).bind fun v1 => bif !v1.1.2 then (f82 r 2 v1.2).bind fun v0 => some (v1.1.1, v0.2) else some (v1.1.1, v1.2) := by intros; rw [f117_eq]; exact (fnA_lpD hN117 ..).trans (by kernel_rfl)
theorem ok117 : FnOk Tryz.prog 117 (specF enc117 (sem117 f117)) := by
  refine spec_ok (C := CC117) good117 rfl rfl rfl (by kernel_rfl) Tryz.func117 (c := bodyOf Tryz.f117) (by kernel_rfl) (by kernel_rfl) (Nat.le_of_eq Tryz.ntmps117.symm) dec117 enc117 de117 _ ?_
  intro args H q h
  unfold sem117 at h
  split at h
  · rw [f117_eq] at h; exact h
  · cases h
/-! 69: xsem_run_get -/
noncomputable def CC69 : Ctx := { P := Tryz.prog, own := [4], fns := [(60, specF enc60 (sem60 f60)), (117, specF enc117 (sem117 f117)), (118, specF enc118 (sem118 f118)), (75, specF enc75 (sem75 f75))], nt := 41, nums := [], live := [] }
theorem good69 : Callees Tryz.prog CC69.fns [] CC69.nums := ((((Callees.nil Tryz.prog).cons ok75 (specF_nat _ _)).cons ok118 (specF_nat _ _)).cons ok117 (specF_nat _ _)).cons ok60 (specF_nat _ _)
theorem hN69 : CtxNat CC69 := good69.ctx rfl rfl rfl
def enc69 (r : Int) : List TV := [.c (Cell.int .u64 (r))]
def dec69 : AV → Option (Int)
  | .c (Cell.int .u64 q0) => some (q0)
  | _ => none
theorem de69 (v : AV) (r : Int) (h : dec69 v = some r) : v = oneOf (enc69 r) := by
  unfold dec69 at h
  split at h
  · cases h; rfl
  · cases h
abbrev Ty69 := PO → Int → Int → Int → Int → Int → Int → Int → Heap → Option (Int × Heap)
def sem69 (f : Ty69) : List TV → Heap → Option (Int × Heap)
  | [.c (Cell.ptr r), .agg [Cell.int .i64 o0, Cell.int .i64 o1, Cell.int .i64 o2, Cell.int .i64 o3, Cell.int .i64 o4, Cell.int .i64 o5], .c (Cell.int .i64 w)], H => f r o0 o1 o2 o3 o4 o5 w H
  | _, _ => none
noncomputable def F069 : Ty69 := fun r o0 o1 o2 o3 o4 o5 w H => fnA CC69 Tryz.f69.results.toList (bodyOf Tryz.f69) _ [.c (Cell.ptr r), .agg [Cell.int .i64 o0, Cell.int .i64 o1, Cell.int .i64 o2, Cell.int .i64 o3, Cell.int .i64 o4, Cell.int .i64 o5], .c (Cell.int .i64 w)] H (decF dec69)
noncomputable def f69 : Ty69 := hide F069
theorem f69_eq : f69 = F069 := hide_eq _
theorem q69 : ∀ (r : PO) (o0 o1 o2 o3 o4 o5 w : Int) (H : Heap), f69 r o0 o1 o2 o3 o4 o5 w H = bif o0 == 1 then r.bind fun v1 => (f75 (some (v1.1, v1.2 + 0)) o1 w H).bind fun v0 => some (v0.1, v0.2) else bif o0 == 2 then r.bind fun v7 => r.bind fun v6 => (H.get v6.1 (v6.2 + 43)).bind fun v5 => (Cell.toInt .u64 v5).bind fun v4 => (f118 (some (v7.1, v7.2 + 0)) o2 o3 o4 o5 v4 H).bind fun v3 => (f117 r v3.1 w v3.2).bind fun v2 => some (v2.1, v2.2) else r.bind fun v11 => (H.get v11.1 (v11.2 + 21 + 15)).bind fun v10 => (Cell.toInt .i64 v10).bind fun v9 => (f60 (IntKind.u64.wrap v9) w H).bind fun v8 => some (v8.1, v8.2) := by intros; rw [f69_eq]; exact (fnA_lpD hN69 ..).trans (by kernel_rfl)
theorem ok69 : FnOk Tryz.prog 69 (specF enc69 (sem69 f69)) := by
  refine spec_ok (C := CC69) good69 rfl rfl rfl (by kernel_rfl) Tryz.func69 (c := bodyOf Tryz.f69) (by kernel_rfl) (by kernel_rfl) (Nat.le_of_eq Tryz.ntmps69.symm) dec69 enc69 de69 _ ?_
  intro args H q h
  unfold sem69 at h
  split at h
  · rw [f69_eq] at h; exact h
  · cases h
/-! 162: bits_one -/
noncomputable def CC162 : Ctx := { P := Tryz.prog, own := [], fns := [], nt := 4, nums := [], live := [] }
theorem good162 : Callees Tryz.prog CC162.fns [] CC162.nums := Callees.nil Tryz.prog
def enc162 (r : Int) : List TV := [.c (Cell.int .u64 (r))]
def dec162 : AV → Option (Int)
  | .c (Cell.int .u64 q0) => some (q0)
  | _ => none
theorem de162 (v : AV) (r : Int) (h : dec162 v = some r) : v = oneOf (enc162 r) := by
  unfold dec162 at h
  split at h
  · cases h; rfl
  · cases h
abbrev Ty162 := Bool → Heap → Option (Int × Heap)
def sem162 (f : Ty162) : List TV → Heap → Option (Int × Heap)
  | [.c (Cell.bool b)], H => f b H
  | _, _ => none
noncomputable def F0162 : Ty162 := fun b H => fnA CC162 Tryz.f162.results.toList (bodyOf Tryz.f162) _ [.c (Cell.bool b)] H (decF dec162)
noncomputable def f162 : Ty162 := hide F0162
theorem f162_eq : f162 = F0162 := hide_eq _
theorem ok162 : FnOk Tryz.prog 162 (specF enc162 (sem162 f162)) := by
  refine spec_ok (C := CC162) good162 rfl rfl rfl (by kernel_rfl) Tryz.func162 (c := bodyOf Tryz.f162) (by kernel_rfl) (by kernel_rfl) (Nat.le_of_eq Tryz.ntmps162.symm) dec162 enc162 de162 _ ?_
  intro args H q h
  unfold sem162 at h
  split at h
  · rw [f162_eq] at h; exact h
  · cases h
/-! 161: mbits_Add64 -/
noncomputable def F161 : FnSem := numG addG addF
theorem ok161 : FnOk Tryz.prog 161 F161 := addF_ok Tryz.func161 (by kernel_rfl) (by kernel_rfl) (by kernel_rfl) (by kernel_rfl)
theorem F161_num : FnNum F161 := numG_num _ _
/-! 130: bits_Neg -/
noncomputable def CC130 : Ctx := { P := Tryz.prog, own := [], fns := [(105, specF enc105 (sem105 f105))], nt := 16, nums := [], live := [] }
theorem good130 : Callees Tryz.prog CC130.fns [] CC130.nums := (Callees.nil Tryz.prog).cons ok105 (specF_nat _ _)
def enc130 (r : Bool) : List TV := [.c (Cell.bool (r))]
def dec130 : AV → Option (Bool)
  | .c (Cell.bool q0) => some (q0)
  | _ => none
theorem de130 (v : AV) (r : Bool) (h : dec130 v = some r) : v = oneOf (enc130 r) := by
  unfold dec130 at h
  split at h
  · cases h; rfl
  · cases h
abbrev Ty130 := Int → Int → Heap → Option (Bool × Heap)
def sem130 (f : Ty130) : List TV → Heap → Option (Bool × Heap)
  | [.c (Cell.int .u64 v), .c (Cell.int .i64 w)], H => f v w H
  | _, _ => none
noncomputable def F0130 : Ty130 := fun v w H => fnA CC130 Tryz.f130.results.toList (bodyOf Tryz.f130) _ [.c (Cell.int .u64 v), .c (Cell.int .i64 w)] H (decF dec130)
noncomputable def f130 : Ty130 := hide F0130
theorem f130_eq : f130 = F0130 := hide_eq _
theorem ok130 : FnOk Tryz.prog 130 (specF enc130 (sem130 f130)) := by
  refine spec_ok (C := CC130) good130 rfl rfl rfl (by kernel_rfl) Tryz.func130 (c := bodyOf Tryz.f130) (by kernel_rfl) (by kernel_rfl) (Nat.le_of_eq Tryz.ntmps130.symm) dec130 enc130 de130 _ ?_
  intro args H q h
  unfold sem130 at h
  split at h
  · rw [f130_eq] at h; exact h
  · cases h
/-! 114: bits_Sum -/
noncomputable def CC114 : Ctx := { P := Tryz.prog, own := [], fns := [(161, F161), (130, specF enc130 (sem130 f130)), (162, specF enc162 (sem162 f162)), (60, specF enc60 (sem60 f60)), (105, specF enc105 (sem105 f105))], nt := 53, nums := [161], live := [] }
theorem good114 : Callees Tryz.prog CC114.fns [] CC114.nums := (((((Callees.nil Tryz.prog).cons ok105 (specF_nat _ _)).cons ok60 (specF_nat _ _)).cons ok162 (specF_nat _ _)).cons ok130 (specF_nat _ _)).cons_num ok161 F161_num
def enc114 (r : Int × Bool × Bool) : List TV := [.c (Cell.int .u64 (r.1)), .c (Cell.bool (r.2.1)), .c (Cell.bool (r.2.2))]
def dec114 : AV → Option (Int × Bool × Bool)
  | .tup [.c (Cell.int .u64 q0), .c (Cell.bool q1), .c (Cell.bool q2)] => some (q0, q1, q2)
  | _ => none
theorem de114 (v : AV) (r : Int × Bool × Bool) (h : dec114 v = some r) : v = oneOf (enc114 r) := by
  unfold dec114 at h
  split at h
  · cases h; rfl
  · cases h
abbrev Ty114 := Int → Int → Bool → Int → Heap → Option ((Int × Bool × Bool) × Heap)
def sem114 (f : Ty114) : List TV → Heap → Option ((Int × Bool × Bool) × Heap)
  | [.c (Cell.int .u64 a), .c (Cell.int .u64 b), .c (Cell.bool x2), .c (Cell.int .i64 w)], H => f a b x2 w H
  | _, _ => none
noncomputable def F0114 : Ty114 := fun a b x2 w H => fnA CC114 Tryz.f114.results.toList (bodyOf Tryz.f114) _ [.c (Cell.int .u64 a), .c (Cell.int .u64 b), .c (Cell.bool x2), .c (Cell.int .i64 w)] H (decF dec114)
noncomputable def f114 : Ty114 := hide F0114
theorem f114_eq : f114 = F0114 := hide_eq _
theorem ok114 : FnOk Tryz.prog 114 (specF enc114 (sem114 f114)) := by
  refine spec_ok (C := CC114) good114 rfl rfl rfl (by kernel_rfl) Tryz.func114 (c := bodyOf Tryz.f114) (by kernel_rfl) (by kernel_rfl) (Nat.le_of_eq Tryz.ntmps114.symm) dec114 enc114 de114 _ ?_
  intro args H q h
  unfold sem114 at h
  split at h
  · rw [f114_eq] at h; exact h
  · cases h
/-! 121: bits_Sx -/
noncomputable def CC121 : Ctx := { P := Tryz.prog, own := [], fns := [(105, specF enc105 (sem105 f105))], nt := 19, nums := [], live := [] }
theorem good121 : Callees Tryz.prog CC121.fns [] CC121.nums := (Callees.nil Tryz.prog).cons ok105 (specF_nat _ _)
def enc121 (r : Int) : List TV := [.c (Cell.int .u64 (r))]
def dec121 : AV → Option (Int)
  | .c (Cell.int .u64 q0) => some (q0)
  | _ => none
theorem de121 (v : AV) (r : Int) (h : dec121 v = some r) : v = oneOf (enc121 r) := by
  unfold dec121 at h
  split at h
  · cases h; rfl
  · cases h
abbrev Ty121 := Int → Int → Heap → Option (Int × Heap)
def sem121 (f : Ty121) : List TV → Heap → Option (Int × Heap)
  | [.c (Cell.int .u64 v), .c (Cell.int .i64 w)], H => f v w H
  | _, _ => none
noncomputable def F0121 : Ty121 := fun v w H => fnA CC121 Tryz.f121.results.toList (bodyOf Tryz.f121) _ [.c (Cell.int .u64 v), .c (Cell.int .i64 w)] H (decF dec121)
noncomputable def f121 : Ty121 := hide F0121
theorem f121_eq : f121 = F0121 := hide_eq _
theorem ok121 : FnOk Tryz.prog 121 (specF enc121 (sem121 f121)) := by
  refine spec_ok (C := CC121) good121 rfl rfl rfl (by kernel_rfl) Tryz.func121 (c := bodyOf Tryz.f121) (by kernel_rfl) (by kernel_rfl) (Nat.le_of_eq Tryz.ntmps121.symm) dec121 enc121 de121 _ ?_
  intro args H q h
  unfold sem121 at h
  split at h
  · rw [f121_eq] at h; exact h
  · cases h
/-! 115: xflag_of -/
noncomputable def CC115 : Ctx := { P := Tryz.prog, own := [9], fns := [(121, specF enc121 (sem121 f121)), (60, specF enc60 (sem60 f60))], nt := 19, nums := [], live := [] }
theorem good115 : Callees Tryz.prog CC115.fns [] CC115.nums := ((Callees.nil Tryz.prog).cons ok60 (specF_nat _ _)).cons ok121 (specF_nat _ _)
def enc115 (r : Int × Bool × Bool × Int) : List TV := [.c (Cell.int .u64 (r.1)), .agg [Cell.bool (r.2.1), Cell.bool (r.2.2.1), Cell.int .u64 (r.2.2.2)]]
def dec115 : AV → Option (Int × Bool × Bool × Int)
  | .tup [.c (Cell.int .u64 q0), .agg [Cell.bool q1, Cell.bool q2, Cell.int .u64 q3]] => some (q0, q1, q2, q3)
  | _ => none
theorem de115 (v : AV) (r : Int × Bool × Bool × Int) (h : dec115 v = some r) : v = oneOf (enc115 r) := by
  unfold dec115 at h
  split at h
  · cases h; rfl
  · cases h
abbrev Ty115 := Int → Bool → Bool → Int → Heap → Option ((Int × Bool × Bool × Int) × Heap)
def sem115 (f : Ty115) : List TV → Heap → Option ((Int × Bool × Bool × Int) × Heap)
  | [.c (Cell.int .u64 r), .c (Cell.bool c), .c (Cell.bool o), .c (Cell.int .i64 w)], H => f r c o w H
  | _, _ => none
noncomputable def F0115 : Ty115 := fun r c o w H => fnA CC115 Tryz.f115.results.toList (bodyOf Tryz.f115) _ [.c (Cell.int .u64 r), .c (Cell.bool c), .c (Cell.bool o), .c (Cell.int .i64 w)] H (decF dec115)
noncomputable def f115 : Ty115 := hide F0115
theorem f115_eq : f115 = F0115 := hide_eq _
theorem ok115 : FnOk Tryz.prog 115 (specF enc115 (sem115 f115)) := by
  refine spec_ok (C := CC115) good115 rfl rfl rfl (by kernel_rfl) Tryz.func115 (c := bodyOf Tryz.f115) (by kernel_rfl) (by kernel_rfl) (Nat.le_of_eq Tryz.ntmps115.symm) dec115 enc115 de115 _ ?_
  intro args H q h
  unfold sem115 at h
  split at h
  · rw [f115_eq] at h; exact h
  · cases h
/-! 163: mbits_Sub64 -/
noncomputable def F163 : FnSem := numG subG subF
theorem ok163 : FnOk Tryz.prog 163 F163 := subF_ok Tryz.func163 (by kernel_rfl) (by kernel_rfl) (by kernel_rfl) (by kernel_rfl)
theorem F163_num : FnNum F163 := numG_num _ _
/-! 116: bits_Less -/
noncomputable def CC116 : Ctx := { P := Tryz.prog, own := [], fns := [(163, F163), (130, specF enc130 (sem130 f130)), (162, specF enc162 (sem162 f162)), (60, specF enc60 (sem60 f60)), (105, specF enc105 (sem105 f105))], nt := 46, nums := [163], live := [] }
theorem good116 : Callees Tryz.prog CC116.fns [] CC116.nums := (((((Callees.nil Tryz.prog).cons ok105 (specF_nat _ _)).cons ok60 (specF_nat _ _)).cons ok162 (specF_nat _ _)).cons ok130 (specF_nat _ _)).cons_num ok163 F163_num
def enc116 (r : Int × Bool × Bool) : List TV := [.c (Cell.int .u64 (r.1)), .c (Cell.bool (r.2.1)), .c (Cell.bool (r.2.2))]
def dec116 : AV → Option (Int × Bool × Bool)
  | .tup [.c (Cell.int .u64 q0), .c (Cell.bool q1), .c (Cell.bool q2)] => some (q0, q1, q2)
  | _ => none
theorem de116 (v : AV) (r : Int × Bool × Bool) (h : dec116 v = some r) : v = oneOf (enc116 r) := by
  unfold dec116 at h
  split at h
  · cases h; rfl
  · cases h
abbrev Ty116 := Int → Int → Bool → Int → Heap → Option ((Int × Bool × Bool) × Heap)
def sem116 (f : Ty116) : List TV → Heap → Option ((Int × Bool × Bool) × Heap)
  | [.c (Cell.int .u64 a), .c (Cell.int .u64 b), .c (Cell.bool x2), .c (Cell.int .i64 w)], H => f a b x2 w H
  | _, _ => none
noncomputable def F0116 : Ty116 := fun a b x2 w H => fnA CC116 Tryz.f116.results.toList (bodyOf Tryz.f116) _ [.c (Cell.int .u64 a), .c (Cell.int .u64 b), .c (Cell.bool x2), .c (Cell.int .i64 w)] H (decF dec116)
noncomputable def f116 : Ty116 := hide F0116
theorem f116_eq : f116 = F0116 := hide_eq _
theorem ok116 : FnOk Tryz.prog 116 (specF enc116 (sem116 f116)) := by
  refine spec_ok (C := CC116) good116 rfl rfl rfl (by kernel_rfl) Tryz.func116 (c := bodyOf Tryz.f116) (by kernel_rfl) (by kernel_rfl) (Nat.le_of_eq Tryz.ntmps116.symm) dec116 enc116 de116 _ ?_
  intro args H q h
  unfold sem116 at h
  split at h
  · rw [f116_eq] at h; exact h
  · cases h
/-! 68: xflag_Two -/
noncomputable def CC68 : Ctx := { P := Tryz.prog, own := [8, 11], fns := [(116, specF enc116 (sem116 f116)), (115, specF enc115 (sem115 f115)), (114, specF enc114 (sem114 f114)), (105, specF enc105 (sem105 f105))], nt := 101, nums := [], live := [] }
theorem good68 : Callees Tryz.prog CC68.fns [] CC68.nums := ((((Callees.nil Tryz.prog).cons ok105 (specF_nat _ _)).cons ok114 (specF_nat _ _)).cons ok115 (specF_nat _ _)).cons ok116 (specF_nat _ _)
def enc68 (r : Int × Bool × Bool × Int) : List TV := [.c (Cell.int .u64 (r.1)), .agg [Cell.bool (r.2.1), Cell.bool (r.2.2.1), Cell.int .u64 (r.2.2.2)]]
def dec68 : AV → Option (Int × Bool × Bool × Int)
  | .tup [.c (Cell.int .u64 q0), .agg [Cell.bool q1, Cell.bool q2, Cell.int .u64 q3]] => some (q0, q1, q2, q3)
  | _ => none
theorem de68 (v : AV) (r : Int × Bool × Bool × Int) (h : dec68 v = some r) : v = oneOf (enc68 r) := by
  unfold dec68 at h
  split at h
  · cases h; rfl
  · cases h
abbrev Ty68 := Int → Int → Int → Bool → Bool → Int → Int → Heap → Option ((Int × Bool × Bool × Int) × Heap)
def sem68 (f : Ty68) : List TV → Heap → Option ((Int × Bool × Bool × Int) × Heap)
  | [.c (Cell.int .i64 op), .c (Cell.int .u64 a), .c (Cell.int .u64 b), .agg [Cell.bool t0, Cell.bool t1, Cell.int .u64 t2], .c (Cell.int .i64 w)], H => f op a b t0 t1 t2 w H
  | _, _ => none
noncomputable def F068 : Ty68 := fun op a b t0 t1 t2 w H => fnA CC68 Tryz.f68.results.toList (bodyOf Tryz.f68) _ [.c (Cell.int .i64 op), .c (Cell.int .u64 a), .c (Cell.int .u64 b), .agg [Cell.bool t0, Cell.bool t1, Cell.int .u64 t2], .c (Cell.int .i64 w)] H (decF dec68)
noncomputable def f68 : Ty68 := hide F068
theorem f68_eq : f68 = F068 := hide_eq _
theorem ok68 : FnOk Tryz.prog 68 (specF enc68 (sem68 f68)) := by
  refine spec_ok (C := CC68) good68 rfl rfl rfl (by kernel_rfl) Tryz.func68 (c := bodyOf Tryz.f68) (by kernel_rfl) (by kernel_rfl) (Nat.le_of_eq Tryz.ntmps68.symm) dec68 enc68 de68 _ ?_
  intro args H q h
  unfold sem68 at h
  split at h
  · rw [f68_eq] at h; exact h
  · cases h
/-! 119: xsem_run_write -/
noncomputable def CC119 : Ctx := { P := Tryz.prog, own := [], fns := [(60, specF enc60 (sem60 f60)), (82, specF enc82 (sem82 f82)), (59, specF enc59 (sem59 f59))], nt := 35, nums := [], live := [] }
theorem good119 : Callees Tryz.prog CC119.fns [] CC119.nums := (((Callees.nil Tryz.prog).cons ok59 (specF_nat _ _)).cons ok82 (specF_nat _ _)).cons ok60 (specF_nat _ _)
theorem hN119 : CtxNat CC119 := good119.ctx rfl rfl rfl
def enc119 (r : Unit) : List TV := []
def dec119 : AV → Option (Unit)
  | .tup [] => some ()
  | _ => none
theorem de119 (v : AV) (r : Unit) (h : dec119 v = some r) : v = oneOf (enc119 r) := by
  unfold dec119 at h
  split at h
  · cases h; rfl
  · cases h
abbrev Ty119 := PO → Int → Int → Int → Heap → Option (Unit × Heap)
def sem119 (f : Ty119) : List TV → Heap → Option (Unit × Heap)
  | [.c (Cell.ptr r), .c (Cell.int .u64 x1), .c (Cell.int .i64 w), .c (Cell.int .u64 v)], H => f r x1 w v H
  | _, _ => none
noncomputable def F0119 : Ty119 := fun r x1 w v H => fnA CC119 Tryz.f119.results.toList (bodyOf Tryz.f119) _ [.c (Cell.ptr r), .c (Cell.int .u64 x1), .c (Cell.int .i64 w), .c (Cell.int .u64 v)] H (decF dec119)
noncomputable def f119 : Ty119 := hide F0119
theorem f119_eq : f119 = F0119 := hide_eq _
theorem q119 : ∀ (r : PO) (x1 w v : Int) (H : Heap), f119 r x1 w v H = r.bind fun v21 => (H.get v21.1 (v21.2 + 41)).bind fun v20 => v20.toPtr.bind fun v19 => r.bind fun v18 => (H.get v18.1 (v18.2 + 20)).bind fun v17 => (Cell.toInt .i64 v17).bind fun v16 => (f59 v19 v16 x1 w true H).bind fun v15 => bif !v15.1 then (f82 r 2 v15.2).bind fun v7 => (f60 v w v7.2).bind fun v6 => r.bind fun v5 => (v6.2.put v5.1 (v5.2 + 45) [Cell.bool true]).bind fun v4 => r.bind fun v3 => (v4.put v3.1 (v3.2 + 46) [Cell.int .u64 x1]).bind fun v2 => r.bind fun v1 => (v2.put v1.1 (v1.2 + 47) [Cell.int .u64 v6.1]).bind fun v0 => some ((), v0) else (f60 v w v15.2).bind fun v14 => r.bind fun v13 => (v14.2.put v13.1 (v13.2 + 45) [Cell.bool true]).bind fun v12 => r.bind fun v11 => (v12.put v11.1 (v11.2 + 46) [Cell.int .u64 x1]).bind fun v10 => r.bind fun v9 => (v10.put v9.1 (v9.2 + 47) [Cell.int .u64 v14.1]).bind fun v8 => some ((), v8) := by intros; rw [f119_eq]; exact (fnA_lpD hN119 ..).trans (by kernel_rfl)
theorem ok119 : FnOk Tryz.prog 119 (specF enc119 (sem119 f119)) := by
  refine spec_ok (C := CC119) good119 rfl rfl rfl (by kernel_rfl) Tryz.func119 (c := bodyOf Tryz.f119) (by kernel_rfl) (by kernel_rfl) (Nat.le_of_eq Tryz.ntmps119.symm) dec119 enc119 de119 _ ?_
  intro args H q h
  unfold sem119 at h
  split at h
  · rw [f119_eq] at h; exact h
  · cases h
/-! 120: xsem_Cpu_Write -/
noncomputable def CC120 : Ctx := { P := Tryz.prog, own := [], fns := [(107, specF enc107 (sem107 f107)), (60, specF enc60 (sem60 f60)), (127, specF enc127 (sem127 f127))], nt := 35, nums := [], live := [] }
theorem good120 : Callees Tryz.prog CC120.fns [] CC120.nums := (((Callees.nil Tryz.prog).cons ok127 (specF_nat _ _)).cons ok60 (specF_nat _ _)).cons ok107 (specF_nat _ _)
theorem hN120 : CtxNat CC120 := good120.ctx rfl rfl rfl
def enc120 (r : Unit) : List TV := []
def dec120 : AV → Option (Unit)
  | .tup [] => some ()
  | _ => none
theorem de120 (v : AV) (r : Unit) (h : dec120 v = some r) : v = oneOf (enc120 r) := by
  unfold dec120 at h
  split at h
  · cases h; rfl
  · cases h
abbrev Ty120 := PO → Int → Int → Int → Heap → Option (Unit × Heap)
def sem120 (f : Ty120) : List TV → Heap → Option (Unit × Heap)
  | [.c (Cell.ptr c), .c (Cell.int .i64 reg), .c (Cell.int .i64 w), .c (Cell.int .u64 v)], H => f c reg w v H
  | _, _ => none
noncomputable def F0120 : Ty120 := fun c reg w v H => fnA CC120 Tryz.f120.results.toList (bodyOf Tryz.f120) _ [.c (Cell.ptr c), .c (Cell.int .i64 reg), .c (Cell.int .i64 w), .c (Cell.int .u64 v)] H (decF dec120)
noncomputable def f120 : Ty120 := hide F0120
theorem f120_eq : f120 = F0120 := hide_eq _
theorem q120 : ∀ (c : PO) (reg w v : Int) (H : Heap), f120 c reg w v H = (f127 c reg w H).bind fun v9 => bif !v9.1 then some ((), v9.2) else (f60 v w v9.2).bind fun v8 => bif decide (w < 4) then c.bind fun v5 => bif inb reg 16 then (v8.2.get v5.1 (v5.2 + 0 + reg.toNat * 1)).bind fun v4 => (Cell.toInt .u64 v4).bind fun v3 => (f107 w v8.2).bind fun v2 => bif same v5.1 v8.2 v2.2 then c.bind fun v1 => bif inb reg 16 then (v2.2.put v1.1 (v1.2 + 0 + reg.toNat * 1) [Cell.int .u64 (bor IntKind.u64 v8.1 (bandn IntKind.u64 v3 v2.1))]).bind fun v0 => some ((), v0) else none else none else none else c.bind fun v7 => bif inb reg 16 then (v8.2.put v7.1 (v7.2 + 0 + reg.toNat * 1) [Cell.int .u64 v8.1]).bind fun v6 => some ((), v6) else none := by intros; rw [f120_eq]; exact (fnA_lpD hN120 ..).trans (by kernel_rfl)
theorem ok120 : FnOk Tryz.prog 120 (specF enc120 (sem120 f120)) := by
  refine spec_ok (C := CC120) good120 rfl rfl rfl (by kernel_rfl) Tryz.func120 (c := bodyOf Tryz.f120) (by kernel_rfl) (by kernel_rfl) (Nat.le_of_eq Tryz.ntmps120.symm) dec120 enc120 de120 _ ?_
  intro args H q h
  unfold sem120 at h
  split at h
  · rw [f120_eq] at h; exact h
  · cases h
/-! 70: xsem_run_set -/
noncomputable def CC70 : Ctx := { P := Tryz.prog, own := [5], fns := [(120, specF enc120 (sem120 f120)), (119, specF enc119 (sem119 f119)), (118, specF enc118 (sem118 f118))], nt := 33, nums := [], live := [] }
theorem good70 : Callees Tryz.prog CC70.fns [] CC70.nums := (((Callees.nil Tryz.prog).cons ok118 (specF_nat _ _)).cons ok119 (specF_nat _ _)).cons ok120 (specF_nat _ _)
theorem hN70 : CtxNat CC70 := good70.ctx rfl rfl rfl
def enc70 (r : Unit) : List TV := []
def dec70 : AV → Option (Unit)
  | .tup [] => some ()
  | _ => none
theorem de70 (v : AV) (r : Unit) (h : dec70 v = some r) : v = oneOf (enc70 r) := by
  unfold dec70 at h
  split at h
  · cases h; rfl
  · cases h
abbrev Ty70 := PO → Int → Int → Int → Int → Int → Int → Int → Int → Heap → Option (Unit × Heap)
def sem70 (f : Ty70) : List TV → Heap → Option (Unit × Heap)
  | [.c (Cell.ptr r), .agg [Cell.int .i64 o0, Cell.int .i64 o1, Cell.int .i64 o2, Cell.int .i64 o3, Cell.int .i64 o4, Cell.int .i64 o5], .c (Cell.int .i64 w), .c (Cell.int .u64 v)], H => f r o0 o1 o2 o3 o4 o5 w v H
  | _, _ => none
noncomputable def F070 : Ty70 := fun r o0 o1 o2 o3 o4 o5 w v H => fnA CC70 Tryz.f70.results.toList (bodyOf Tryz.f70) _ [.c (Cell.ptr r), .agg [Cell.int .i64 o0, Cell.int .i64 o1, Cell.int .i64 o2, Cell.int .i64 o3, Cell.int .i64 o4, Cell.int .i64 o5], .c (Cell.int .i64 w), .c (Cell.int .u64 v)] H (decF dec70)
noncomputable def f70 : Ty70 := hide F070
theorem f70_eq : f70 = F070 := hide_eq _
theorem q70 : ∀ (r : PO) (o0 o1 o2 o3 o4 o5 w v : Int) (H : Heap), f70 r o0 o1 o2 o3 o4 o5 w v H = bif o0 == 2 then r.bind fun v5 => r.bind fun v4 => (H.get v4.1 (v4.2 + 43)).bind fun v3 => (Cell.toInt .u64 v3).bind fun v2 => (f118 (some (v5.1, v5.2 + 0)) o2 o3 o4 o5 v2 H).bind fun v1 => (f119 r v1.1 w v v1.2).bind fun v0 => some ((), v0.2) else r.bind fun v7 => (f120 (some (v7.1, v7.2 + 0)) o1 w v H).bind fun v6 => some ((), v6.2) := by intros; rw [f70_eq]; exact (fnA_lpD hN70 ..).trans (by kernel_rfl)
theorem ok70 : FnOk Tryz.prog 70 (specF enc70 (sem70 f70)) := by
  refine spec_ok (C := CC70) good70 rfl rfl rfl (by kernel_rfl) Tryz.func70 (c := bodyOf Tryz.f70) (by kernel_rfl) (by kernel_rfl) (Nat.le_of_eq Tryz.ntmps70.symm) dec70 enc70 de70 _ ?_
  intro args H q h
  unfold sem70 at h
  split at h
  · rw [f70_eq] at h; exact h
  · cases h
/-! 71: xsem_run_move -/
noncomputable def CC71 : Ctx := { P := Tryz.prog, own := [2], fns := [(70, specF enc70 (sem70 f70)), (118, specF enc118 (sem118 f118)), (121, specF enc121 (sem121 f121)), (69, specF enc69 (sem69 f69))], nt := 57, nums := [], live := [] }
theorem good71 : Callees Tryz.prog CC71.fns [] CC71.nums := ((((Callees.nil Tryz.prog).cons ok69 (specF_nat _ _)).cons ok121 (specF_nat _ _)).cons ok118 (specF_nat _ _)).cons ok70 (specF_nat _ _)
def enc71 (r : Unit) : List TV := []
def dec71 : AV → Option (Unit)
  | .tup [] => some ()
  | _ => none
theorem de71 (v : AV) (r : Unit) (h : dec71 v = some r) : v = oneOf (enc71 r) := by
  unfold dec71 at h
  split at h
  · cases h; rfl
  · cases h
abbrev Ty71 := PO → Heap → Option (Unit × Heap)
def sem71 (f : Ty71) : List TV → Heap → Option (Unit × Heap)
  | [.c (Cell.ptr r)], H => f r H
  | _, _ => none
noncomputable def F071 : Ty71 := fun r H => fnA CC71 Tryz.f71.results.toList (bodyOf Tryz.f71) _ [.c (Cell.ptr r)] H (decF dec71)
noncomputable def f71 : Ty71 := hide F071
theorem f71_eq : f71 = F071 := hide_eq _
theorem ok71 : FnOk Tryz.prog 71 (specF enc71 (sem71 f71)) := by
  refine spec_ok (C := CC71) good71 rfl rfl rfl (by kernel_rfl) Tryz.func71 (c := bodyOf Tryz.f71) (by kernel_rfl) (by kernel_rfl) (Nat.le_of_eq Tryz.ntmps71.symm) dec71 enc71 de71 _ ?_
  intro args H q h
  unfold sem71 at h
  split at h
  · rw [f71_eq] at h; exact h
  · cases h
/-! 122: xsem_run_push -/
noncomputable def CC122 : Ctx := { P := Tryz.prog, own := [], fns := [(119, specF enc119 (sem119 f119))], nt := 22, nums := [], live := [] }
theorem good122 : Callees Tryz.prog CC122.fns [] CC122.nums := (Callees.nil Tryz.prog).cons ok119 (specF_nat _ _)
theorem hN122 : CtxNat CC122 := good122.ctx rfl rfl rfl
def enc122 (r : Unit) : List TV := []
def dec122 : AV → Option (Unit)
  | .tup [] => some ()
  | _ => none
theorem de122 (v : AV) (r : Unit) (h : dec122 v = some r) : v = oneOf (enc122 r) := by
  unfold dec122 at h
  split at h
  · cases h; rfl
  · cases h
abbrev Ty122 := PO → Int → Heap → Option (Unit × Heap)
def sem122 (f : Ty122) : List TV → Heap → Option (Unit × Heap)
  | [.c (Cell.ptr r), .c (Cell.int .u64 v)], H => f r v H
  | _, _ => none
noncomputable def F0122 : Ty122 := fun r v H => fnA CC122 Tryz.f122.results.toList (bodyOf Tryz.f122) _ [.c (Cell.ptr r), .c (Cell.int .u64 v)] H (decF dec122)
noncomputable def f122 : Ty122 := hide F0122
theorem f122_eq : f122 = F0122 := hide_eq _
theorem q122 : ∀ (r : PO) (v : Int) (H : Heap), f122 r v H = r.bind fun v5 => (H.get v5.1 (v5.2 + 0 + 0 + 4)).bind fun v4 => (Cell.toInt .u64 v4).bind fun v3 => (f119 r (IntKind.u64.wrap (v3 - 8)) 8 v H).bind fun v2 => r.bind fun v1 => (v2.2.put v1.1 (v1.2 + 0 + 0 + 4) [Cell.int .u64 (IntKind.u64.wrap (v3 - 8))]).bind fun v0 => some ((), v0) := by intros; rw [f122_eq]; exact (fnA_lpD hN122 ..).trans (by kernel_rfl)
theorem ok122 : FnOk Tryz.prog 122 (specF enc122 (sem122 f122)) := by
  refine spec_ok (C := CC122) good122 rfl rfl rfl (by kernel_rfl) Tryz.func122 (c := bodyOf Tryz.f122) (by kernel_rfl) (by kernel_rfl) (Nat.le_of_eq Tryz.ntmps122.symm) dec122 enc122 de122 _ ?_
  intro args H q h
  unfold sem122 at h
  split at h
  · rw [f122_eq] at h; exact h
  · cases h
/-! 123: xsem_run_pop -/
noncomputable def CC123 : Ctx := { P := Tryz.prog, own := [], fns := [(117, specF enc117 (sem117 f117))], nt := 24, nums := [], live := [] }
theorem good123 : Callees Tryz.prog CC123.fns [] CC123.nums := (Callees.nil Tryz.prog).cons ok117 (specF_nat _ _)
theorem hN123 : CtxNat CC123 := good123.ctx rfl rfl rfl
def enc123 (r : Int) : List TV := [.c (Cell.int .u64 (r))]
def dec123 : AV → Option (Int)
  | .c (Cell.int .u64 q0) => some (q0)
  | _ => none
theorem de123 (v : AV) (r : Int) (h : dec123 v = some r) : v = oneOf (enc123 r) := by
  unfold dec123 at h
  split at h
  · cases h; rfl
  · cases h
abbrev Ty123 := PO → Heap → Option (Int × Heap)
def sem123 (f : Ty123) : List TV → Heap → Option (Int × Heap)
  | [.c (Cell.ptr r)], H => f r H
  | _, _ => none
noncomputable def F0123 : Ty123 := fun r H => fnA CC123 Tryz.f123.results.toList (bodyOf Tryz.f123) _ [.c (Cell.ptr r)] H (decF dec123)
noncomputable def f123 : Ty123 := hide F0123
theorem f123_eq : f123 = F0123 := hide_eq _
theorem q123 : ∀ (r : PO) (H : Heap), f123 r H = r.bind fun v8 => (H.get v8.1 (v8.2 + 0 + 0 + 4)).bind fun v7 => (Cell.toInt .u64 v7).bind fun v6 => (f117 r v6 8 H).bind fun v5 => r.bind fun v4 => (v5.2.get v4.1 (v4.2 + 0 + 0 + 4)).bind fun v3 => (Cell.toInt .u64 v3).bind fun v2 => r.bind fun v1 => (v5.2.put v1.1 (v1.2 + 0 + 0 + 4) [Cell.int .u64 (IntKind.u64.wrap (v2 + 8))]).bind fun v0 => some (v5.1, v0) := by intros; rw [f123_eq]; exact (fnA_lpD hN123 ..).trans (by kernel_rfl)
theorem ok123 : FnOk Tryz.prog 123 (specF enc123 (sem123 f123)) := by
  refine spec_ok (C := CC123) good123 rfl rfl rfl (by kernel_rfl) Tryz.func123 (c := bodyOf Tryz.f123) (by kernel_rfl) (by kernel_rfl) (Nat.le_of_eq Tryz.ntmps123.symm) dec123 enc123 de123 _ ?_
  intro args H q h
  unfold sem123 at h
  split at h
  · rw [f123_eq] at h; exact h
  · cases h
/-! 72: xsem_run_stack -/
noncomputable def CC72 : Ctx := { P := Tryz.prog, own := [], fns := [(70, specF enc70 (sem70 f70)), (123, specF enc123 (sem123 f123)), (122, specF enc122 (sem122 f122)), (69, specF enc69 (sem69 f69))], nt := 28, nums := [], live := [] }
theorem good72 : Callees Tryz.prog CC72.fns [] CC72.nums := ((((Callees.nil Tryz.prog).cons ok69 (specF_nat _ _)).cons ok122 (specF_nat _ _)).cons ok123 (specF_nat _ _)).cons ok70 (specF_nat _ _)
theorem hN72 : CtxNat CC72 := good72.ctx rfl rfl rfl
def enc72 (r : Unit) : List TV := []
def dec72 : AV → Option (Unit)
  | .tup [] => some ()
  | _ => none
theorem de72 (v : AV) (r : Unit) (h : dec72 v = some r) : v = oneOf (enc72 r) := by
  unfold dec72 at h
  split at h
  · cases h; rfl
  · cases h
abbrev Ty72 := PO → Heap → Option (Unit × Heap)
def sem72 (f : Ty72) : List TV → Heap → Option (Unit × Heap)
  | [.c (Cell.ptr r)], H => f r H
  | _, _ => none
noncomputable def F072 : Ty72 := fun r H => fnA CC72 Tryz.f72.results.toList (bodyOf Tryz.f72) _ [.c (Cell.ptr r)] H (decF dec72)
noncomputable def f72 : Ty72 := hide F072
theorem f72_eq : f72 = F072 := hide_eq _
theorem q72 : ∀ (r : PO) (H : Heap), f72 r H = r.bind fun v32 => (H.get v32.1 (v32.2 + 21 + 0)).bind fun v31 => (Cell.toInt .i64 v31).bind fun v30 => bif v30 == 14 then r.bind fun v14 => (H.get v14.1 (v14.2 + 21 + 3)).bind fun v13 => (H.get v14.1 (v14.2 + 21 + 3 + 1)).bind fun v12 => (H.get v14.1 (v14.2 + 21 + 3 + 1 + 1)).bind fun v11 => (H.get v14.1 (v14.2 + 21 + 3 + 1 + 1 + 1)).bind fun v10 => (H.get v14.1 (v14.2 + 21 + 3 + 1 + 1 + 1 + 1)).bind fun v9 => (H.get v14.1 (v14.2 + 21 + 3 + 1 + 1 + 1 + 1 + 1)).bind fun v8 => (Cell.toInt .i64 v13).bind fun v7 => (Cell.toInt .i64 v12).bind fun v6 => (Cell.toInt .i64 v11).bind fun v5 => (Cell.toInt .i64 v10).bind fun v4 => (Cell.toInt .i64 v9).bind fun v3 => (Cell.toInt .i64 v8).bind fun v2 => (f69 r v7 v6 v5 v4 v3 v2 8 H).bind fun v1 => (f122 r v1.1 v1.2).bind fun v0 => some ((), v0.2) else (f123 r H).bind fun v29 => r.bind fun v28 => (v29.2.get v28.1 (v28.2 + 21 + 3)).bind fun v27 => (v29.2.get v28.1 (v28.2 + 21 + 3 + 1)).bind fun v26 => (v29.2.get v28.1 (v28.2 + 21 + 3 + 1 + 1)).bind fun v25 => (v29.2.get v28.1 (v28.2 + 21 + 3 + 1 + 1 + 1)).bind fun v24 => (v29.2.get v28.1 (v28.2 + 21 + 3 + 1 + 1 + 1 + 1)).bind fun v23 => (v29.2.get v28.1 (v28.2 + 21 + 3 + 1 + 1 + 1 + 1 + 1)).bind fun v22 => (Cell.toInt .i64 v27).bind fun v21 => (Cell.toInt .i64 v26).bind fun v20 => (Cell.toInt .i64 v25).bind fun v19 => (Cell.toInt .i64 v24).bind fun v18 => (Cell.toInt .i64 v23).bind fun v17 => (Cell.toInt .i64 v22).bind fun v16 => (f70 r v21 v20 v19 v18 v17 v16 8 v29.1 v29.2).bind fun v15 => some ((), v15.2) := by intros; rw [f72_eq]; exact (fnA_lpD hN72 ..).trans (by kernel_rfl)
theorem ok72 : FnOk Tryz.prog 72 (specF enc72 (sem72 f72)) := by
  refine spec_ok (C := CC72) good72 rfl rfl rfl (by kernel_rfl) Tryz.func72 (c := bodyOf Tryz.f72) (by kernel_rfl) (by kernel_rfl) (Nat.le_of_eq Tryz.ntmps72.symm) dec72 enc72 de72 _ ?_
  intro args H q h
  unfold sem72 at h
  split at h
  · rw [f72_eq] at h; exact h
  · cases h
/-! 73: xflag_One -/
noncomputable def CC73 : Ctx := { P := Tryz.prog, own := [6, 9, 12], fns := [(68, specF enc68 (sem68 f68)), (60, specF enc60 (sem60 f60)), (105, specF enc105 (sem105 f105))], nt := 52, nums := [], live := [] }
theorem good73 : Callees Tryz.prog CC73.fns [] CC73.nums := (((Callees.nil Tryz.prog).cons ok105 (specF_nat _ _)).cons ok60 (specF_nat _ _)).cons ok68 (specF_nat _ _)
def enc73 (r : Int × Bool × Bool × Int) : List TV := [.c (Cell.int .u64 (r.1)), .agg [Cell.bool (r.2.1), Cell.bool (r.2.2.1), Cell.int .u64 (r.2.2.2)]]
def dec73 : AV → Option (Int × Bool × Bool × Int)
  | .tup [.c (Cell.int .u64 q0), .agg [Cell.bool q1, Cell.bool q2, Cell.int .u64 q3]] => some (q0, q1, q2, q3)
  | _ => none
theorem de73 (v : AV) (r : Int × Bool × Bool × Int) (h : dec73 v = some r) : v = oneOf (enc73 r) := by
  unfold dec73 at h
  split at h
  · cases h; rfl
  · cases h
abbrev Ty73 := Int → Int → Bool → Bool → Int → Int → Heap → Option ((Int × Bool × Bool × Int) × Heap)
def sem73 (f : Ty73) : List TV → Heap → Option ((Int × Bool × Bool × Int) × Heap)
  | [.c (Cell.int .i64 op), .c (Cell.int .u64 a), .agg [Cell.bool t0, Cell.bool t1, Cell.int .u64 t2], .c (Cell.int .i64 w)], H => f op a t0 t1 t2 w H
  | _, _ => none
noncomputable def F073 : Ty73 := fun op a t0 t1 t2 w H => fnA CC73 Tryz.f73.results.toList (bodyOf Tryz.f73) _ [.c (Cell.int .i64 op), .c (Cell.int .u64 a), .agg [Cell.bool t0, Cell.bool t1, Cell.int .u64 t2], .c (Cell.int .i64 w)] H (decF dec73)
noncomputable def f73 : Ty73 := hide F073
theorem f73_eq : f73 = F073 := hide_eq _
theorem ok73 : FnOk Tryz.prog 73 (specF enc73 (sem73 f73)) := by
  refine spec_ok (C := CC73) good73 rfl rfl rfl (by kernel_rfl) Tryz.func73 (c := bodyOf Tryz.f73) (by kernel_rfl) (by kernel_rfl) (Nat.le_of_eq Tryz.ntmps73.symm) dec73 enc73 de73 _ ?_
  intro args H q h
  unfold sem73 at h
  split at h
  · rw [f73_eq] at h; exact h
  · cases h
/-! 181: mbits_Mul64 -/
noncomputable def CC181 : Ctx := { P := Tryz.prog, own := [], fns := [], nt := 51, nums := [], live := [] }
theorem good181 : Callees Tryz.prog CC181.fns [] CC181.nums := Callees.nil Tryz.prog
def enc181 (r : Int × Int) : List TV := [.c (Cell.int .u64 (r.1)), .c (Cell.int .u64 (r.2))]
def dec181 : AV → Option (Int × Int)
  | .tup [.c (Cell.int .u64 q0), .c (Cell.int .u64 q1)] => some (q0, q1)
  | _ => none
theorem de181 (v : AV) (r : Int × Int) (h : dec181 v = some r) : v = oneOf (enc181 r) := by
  unfold dec181 at h
  split at h
  · cases h; rfl
  · cases h
abbrev Ty181 := Int → Int → Heap → Option ((Int × Int) × Heap)
def sem181 (f : Ty181) : List TV → Heap → Option ((Int × Int) × Heap)
  | [.c (Cell.int .u64 x0), .c (Cell.int .u64 y)], H => f x0 y H
  | _, _ => none
noncomputable def F0181 : Ty181 := fun x0 y H => fnA CC181 Tryz.f181.results.toList (bodyOf Tryz.f181) _ [.c (Cell.int .u64 x0), .c (Cell.int .u64 y)] H (decF dec181)
noncomputable def f181 : Ty181 := hide F0181
theorem f181_eq : f181 = F0181 := hide_eq _
theorem ok181 : FnOk Tryz.prog 181 (specF enc181 (sem181 f181)) := by
  refine spec_ok (C := CC181) good181 rfl rfl rfl (by kernel_rfl) Tryz.func181 (c := bodyOf Tryz.f181) (by kernel_rfl) (by kernel_rfl) (Nat.le_of_eq Tryz.ntmps181.symm) dec181 enc181 de181 _ ?_
  intro args H q h
  unfold sem181 at h
  split at h
  · rw [f181_eq] at h; exact h
  · cases h
/-! 165: bits_MulU -/
noncomputable def CC165 : Ctx := { P := Tryz.prog, own := [], fns := [(181, specF enc181 (sem181 f181))], nt := 11, nums := [], live := [] }
theorem good165 : Callees Tryz.prog CC165.fns [] CC165.nums := (Callees.nil Tryz.prog).cons ok181 (specF_nat _ _)
def enc165 (r : Int × Int) : List TV := [.c (Cell.int .u64 (r.1)), .c (Cell.int .u64 (r.2))]
def dec165 : AV → Option (Int × Int)
  | .tup [.c (Cell.int .u64 q0), .c (Cell.int .u64 q1)] => some (q0, q1)
  | _ => none
theorem de165 (v : AV) (r : Int × Int) (h : dec165 v = some r) : v = oneOf (enc165 r) := by
  unfold dec165 at h
  split at h
  · cases h; rfl
  · cases h
abbrev Ty165 := Int → Int → Heap → Option ((Int × Int) × Heap)
def sem165 (f : Ty165) : List TV → Heap → Option ((Int × Int) × Heap)
  | [.c (Cell.int .u64 a), .c (Cell.int .u64 b)], H => f a b H
  | _, _ => none
noncomputable def F0165 : Ty165 := fun a b H => fnA CC165 Tryz.f165.results.toList (bodyOf Tryz.f165) _ [.c (Cell.int .u64 a), .c (Cell.int .u64 b)] H (decF dec165)
noncomputable def f165 : Ty165 := hide F0165
theorem f165_eq : f165 = F0165 := hide_eq _
theorem ok165 : FnOk Tryz.prog 165 (specF enc165 (sem165 f165)) := by
  refine spec_ok (C := CC165) good165 rfl rfl rfl (by kernel_rfl) Tryz.func165 (c := bodyOf Tryz.f165) (by kernel_rfl) (by kernel_rfl) (Nat.le_of_eq Tryz.ntmps165.symm) dec165 enc165 de165 _ ?_
  intro args H q h
  unfold sem165 at h
  split at h
  · rw [f165_eq] at h; exact h
  · cases h
/-! 166: bits_MulS -/
noncomputable def CC166 : Ctx := { P := Tryz.prog, own := [], fns := [(181, specF enc181 (sem181 f181))], nt := 28, nums := [], live := [] }
theorem good166 : Callees Tryz.prog CC166.fns [] CC166.nums := (Callees.nil Tryz.prog).cons ok181 (specF_nat _ _)
def enc166 (r : Int × Int) : List TV := [.c (Cell.int .u64 (r.1)), .c (Cell.int .u64 (r.2))]
def dec166 : AV → Option (Int × Int)
  | .tup [.c (Cell.int .u64 q0), .c (Cell.int .u64 q1)] => some (q0, q1)
  | _ => none
theorem de166 (v : AV) (r : Int × Int) (h : dec166 v = some r) : v = oneOf (enc166 r) := by
  unfold dec166 at h
  split at h
  · cases h; rfl
  · cases h
abbrev Ty166 := Int → Int → Heap → Option ((Int × Int) × Heap)
def sem166 (f : Ty166) : List TV → Heap → Option ((Int × Int) × Heap)
  | [.c (Cell.int .u64 a), .c (Cell.int .u64 b)], H => f a b H
  | _, _ => none
noncomputable def F0166 : Ty166 := fun a b H => fnA CC166 Tryz.f166.results.toList (bodyOf Tryz.f166) _ [.c (Cell.int .u64 a), .c (Cell.int .u64 b)] H (decF dec166)
noncomputable def f166 : Ty166 := hide F0166
theorem f166_eq : f166 = F0166 := hide_eq _
theorem ok166 : FnOk Tryz.prog 166 (specF enc166 (sem166 f166)) := by
  refine spec_ok (C := CC166) good166 rfl rfl rfl (by kernel_rfl) Tryz.func166 (c := bodyOf Tryz.f166) (by kernel_rfl) (by kernel_rfl) (Nat.le_of_eq Tryz.ntmps166.symm) dec166 enc166 de166 _ ?_
  intro args H q h
  unfold sem166 at h
  split at h
  · rw [f166_eq] at h; exact h
  · cases h
/-! 124: xflag_Product -/
noncomputable def CC124 : Ctx := { P := Tryz.prog, own := [10, 16], fns := [(115, specF enc115 (sem115 f115)), (107, specF enc107 (sem107 f107)), (130, specF enc130 (sem130 f130)), (166, specF enc166 (sem166 f166)), (121, specF enc121 (sem121 f121)), (165, specF enc165 (sem165 f165)), (60, specF enc60 (sem60 f60)), (105, specF enc105 (sem105 f105))], nt := 75, nums := [], live := [] }
theorem good124 : Callees Tryz.prog CC124.fns [] CC124.nums := ((((((((Callees.nil Tryz.prog).cons ok105 (specF_nat _ _)).cons ok60 (specF_nat _ _)).cons ok165 (specF_nat _ _)).cons ok121 (specF_nat _ _)).cons ok166 (specF_nat _ _)).cons ok130 (specF_nat _ _)).cons ok107 (specF_nat _ _)).cons ok115 (specF_nat _ _)
def enc124 (r : Int × Int × Bool × Bool × Int) : List TV := [.c (Cell.int .u64 (r.1)), .c (Cell.int .u64 (r.2.1)), .agg [Cell.bool (r.2.2.1), Cell.bool (r.2.2.2.1), Cell.int .u64 (r.2.2.2.2)]]
def dec124 : AV → Option (Int × Int × Bool × Bool × Int)
  | .tup [.c (Cell.int .u64 q0), .c (Cell.int .u64 q1), .agg [Cell.bool q2, Cell.bool q3, Cell.int .u64 q4]] => some (q0, q1, q2, q3, q4)
  | _ => none
theorem de124 (v : AV) (r : Int × Int × Bool × Bool × Int) (h : dec124 v = some r) : v = oneOf (enc124 r) := by
  unfold dec124 at h
  split at h
  · cases h; rfl
  · cases h
abbrev Ty124 := Int → Int → Bool → Int → Heap → Option ((Int × Int × Bool × Bool × Int) × Heap)
def sem124 (f : Ty124) : List TV → Heap → Option ((Int × Int × Bool × Bool × Int) × Heap)
  | [.c (Cell.int .u64 a), .c (Cell.int .u64 b), .c (Cell.bool signed), .c (Cell.int .i64 w)], H => f a b signed w H
  | _, _ => none
noncomputable def F0124 : Ty124 := fun a b signed w H => fnA CC124 Tryz.f124.results.toList (bodyOf Tryz.f124) _ [.c (Cell.int .u64 a), .c (Cell.int .u64 b), .c (Cell.bool signed), .c (Cell.int .i64 w)] H (decF dec124)
noncomputable def f124 : Ty124 := hide F0124
theorem f124_eq : f124 = F0124 := hide_eq _
theorem ok124 : FnOk Tryz.prog 124 (specF enc124 (sem124 f124)) := by
  refine spec_ok (C := CC124) good124 rfl rfl rfl (by kernel_rfl) Tryz.func124 (c := bodyOf Tryz.f124) (by kernel_rfl) (by kernel_rfl) (Nat.le_of_eq Tryz.ntmps124.symm) dec124 enc124 de124 _ ?_
  intro args H q h
  unfold sem124 at h
  split at h
  · rw [f124_eq] at h; exact h
  · cases h
/-! 125: xsem_run_halves -/
noncomputable def CC125 : Ctx := { P := Tryz.prog, own := [], fns := [(120, specF enc120 (sem120 f120))], nt := 40, nums := [], live := [] }
theorem good125 : Callees Tryz.prog CC125.fns [] CC125.nums := (Callees.nil Tryz.prog).cons ok120 (specF_nat _ _)
def enc125 (r : Unit) : List TV := []
def dec125 : AV → Option (Unit)
  | .tup [] => some ()
  | _ => none
theorem de125 (v : AV) (r : Unit) (h : dec125 v = some r) : v = oneOf (enc125 r) := by
  unfold dec125 at h
  split at h
  · cases h; rfl
  · cases h
abbrev Ty125 := PO → Int → Int → Heap → Option (Unit × Heap)
def sem125 (f : Ty125) : List TV → Heap → Option (Unit × Heap)
  | [.c (Cell.ptr r), .c (Cell.int .u64 lo), .c (Cell.int .u64 hi)], H => f r lo hi H
  | _, _ => none
noncomputable def F0125 : Ty125 := fun r lo hi H => fnA CC125 Tryz.f125.results.toList (bodyOf Tryz.f125) _ [.c (Cell.ptr r), .c (Cell.int .u64 lo), .c (Cell.int .u64 hi)] H (decF dec125)
noncomputable def f125 : Ty125 := hide F0125
theorem f125_eq : f125 = F0125 := hide_eq _
theorem ok125 : FnOk Tryz.prog 125 (specF enc125 (sem125 f125)) := by
  refine spec_ok (C := CC125) good125 rfl rfl rfl (by kernel_rfl) Tryz.func125 (c := bodyOf Tryz.f125) (by kernel_rfl) (by kernel_rfl) (Nat.le_of_eq Tryz.ntmps125.symm) dec125 enc125 de125 _ ?_
  intro args H q h
  unfold sem125 at h
  split at h
  · rw [f125_eq] at h; exact h
  · cases h
/-! 182: xflag_divided -/
noncomputable def CC182 : Ctx := { P := Tryz.prog, own := [], fns := [(60, specF enc60 (sem60 f60)), (160, specF enc160 (sem160 f160))], nt := 38, nums := [], live := [] }
theorem good182 : Callees Tryz.prog CC182.fns [] CC182.nums := ((Callees.nil Tryz.prog).cons ok160 (specF_nat _ _)).cons ok60 (specF_nat _ _)
def enc182 (r : Int × Int × Bool) : List TV := [.c (Cell.int .u64 (r.1)), .c (Cell.int .u64 (r.2.1)), .c (Cell.bool (r.2.2))]
def dec182 : AV → Option (Int × Int × Bool)
  | .tup [.c (Cell.int .u64 q0), .c (Cell.int .u64 q1), .c (Cell.bool q2)] => some (q0, q1, q2)
  | _ => none
theorem de182 (v : AV) (r : Int × Int × Bool) (h : dec182 v = some r) : v = oneOf (enc182 r) := by
  unfold dec182 at h
  split at h
  · cases h; rfl
  · cases h
abbrev Ty182 := Int → Int → Int → Heap → Option ((Int × Int × Bool) × Heap)
def sem182 (f : Ty182) : List TV → Heap → Option ((Int × Int × Bool) × Heap)
  | [.c (Cell.int .i64 v), .c (Cell.int .i64 d), .c (Cell.int .i64 w)], H => f v d w H
  | _, _ => none
noncomputable def F0182 : Ty182 := fun v d w H => fnA CC182 Tryz.f182.results.toList (bodyOf Tryz.f182) _ [.c (Cell.int .i64 v), .c (Cell.int .i64 d), .c (Cell.int .i64 w)] H (decF dec182)
noncomputable def f182 : Ty182 := hide F0182
theorem f182_eq : f182 = F0182 := hide_eq _
theorem ok182 : FnOk Tryz.prog 182 (specF enc182 (sem182 f182)) := by
  refine spec_ok (C := CC182) good182 rfl rfl rfl (by kernel_rfl) Tryz.func182 (c := bodyOf Tryz.f182) (by kernel_rfl) (by kernel_rfl) (Nat.le_of_eq Tryz.ntmps182.symm) dec182 enc182 de182 _ ?_
  intro args H q h
  unfold sem182 at h
  split at h
  · rw [f182_eq] at h; exact h
  · cases h
/-! 167: xflag_Quotient -/
noncomputable def CC167 : Ctx := { P := Tryz.prog, own := [], fns := [(182, specF enc182 (sem182 f182)), (121, specF enc121 (sem121 f121)), (107, specF enc107 (sem107 f107)), (60, specF enc60 (sem60 f60)), (105, specF enc105 (sem105 f105))], nt := 66, nums := [], live := [] }
theorem good167 : Callees Tryz.prog CC167.fns [] CC167.nums := (((((Callees.nil Tryz.prog).cons ok105 (specF_nat _ _)).cons ok60 (specF_nat _ _)).cons ok107 (specF_nat _ _)).cons ok121 (specF_nat _ _)).cons ok182 (specF_nat _ _)
def enc167 (r : Int × Int × Bool) : List TV := [.c (Cell.int .u64 (r.1)), .c (Cell.int .u64 (r.2.1)), .c (Cell.bool (r.2.2))]
def dec167 : AV → Option (Int × Int × Bool)
  | .tup [.c (Cell.int .u64 q0), .c (Cell.int .u64 q1), .c (Cell.bool q2)] => some (q0, q1, q2)
  | _ => none
theorem de167 (v : AV) (r : Int × Int × Bool) (h : dec167 v = some r) : v = oneOf (enc167 r) := by
  unfold dec167 at h
  split at h
  · cases h; rfl
  · cases h
abbrev Ty167 := Int → Int → Int → Bool → Int → Heap → Option ((Int × Int × Bool) × Heap)
def sem167 (f : Ty167) : List TV → Heap → Option ((Int × Int × Bool) × Heap)
  | [.c (Cell.int .u64 hi), .c (Cell.int .u64 lo), .c (Cell.int .u64 d), .c (Cell.bool signed), .c (Cell.int .i64 w)], H => f hi lo d signed w H
  | _, _ => none
noncomputable def F0167 : Ty167 := fun hi lo d signed w H => fnA CC167 Tryz.f167.results.toList (bodyOf Tryz.f167) _ [.c (Cell.int .u64 hi), .c (Cell.int .u64 lo), .c (Cell.int .u64 d), .c (Cell.bool signed), .c (Cell.int .i64 w)] H (decF dec167)
noncomputable def f167 : Ty167 := hide F0167
theorem f167_eq : f167 = F0167 := hide_eq _
theorem ok167 : FnOk Tryz.prog 167 (specF enc167 (sem167 f167)) := by
  refine spec_ok (C := CC167) good167 rfl rfl rfl (by kernel_rfl) Tryz.func167 (c := bodyOf Tryz.f167) (by kernel_rfl) (by kernel_rfl) (Nat.le_of_eq Tryz.ntmps167.symm) dec167 enc167 de167 _ ?_
  intro args H q h
  unfold sem167 at h
  split at h
  · rw [f167_eq] at h; exact h
  · cases h
/-! 126: xsem_run_quotient -/
noncomputable def CC126 : Ctx := { P := Tryz.prog, own := [2], fns := [(125, specF enc125 (sem125 f125)), (82, specF enc82 (sem82 f82)), (167, specF enc167 (sem167 f167)), (69, specF enc69 (sem69 f69)), (75, specF enc75 (sem75 f75))], nt := 60, nums := [], live := [] }
theorem good126 : Callees Tryz.prog CC126.fns [] CC126.nums := (((((Callees.nil Tryz.prog).cons ok75 (specF_nat _ _)).cons ok69 (specF_nat _ _)).cons ok167 (specF_nat _ _)).cons ok82 (specF_nat _ _)).cons ok125 (specF_nat _ _)
def enc126 (r : Unit) : List TV := []
def dec126 : AV → Option (Unit)
  | .tup [] => some ()
  | _ => none
theorem de126 (v : AV) (r : Unit) (h : dec126 v = some r) : v = oneOf (enc126 r) := by
  unfold dec126 at h
  split at h
  · cases h; rfl
  · cases h
abbrev Ty126 := PO → Heap → Option (Unit × Heap)
def sem126 (f : Ty126) : List TV → Heap → Option (Unit × Heap)
  | [.c (Cell.ptr r)], H => f r H
  | _, _ => none
noncomputable def F0126 : Ty126 := fun r H => fnA CC126 Tryz.f126.results.toList (bodyOf Tryz.f126) _ [.c (Cell.ptr r)] H (decF dec126)
noncomputable def f126 : Ty126 := hide F0126
theorem f126_eq : f126 = F0126 := hide_eq _
theorem ok126 : FnOk Tryz.prog 126 (specF enc126 (sem126 f126)) := by
  refine spec_ok (C := CC126) good126 rfl rfl rfl (by kernel_rfl) Tryz.func126 (c := bodyOf Tryz.f126) (by kernel_rfl) (by kernel_rfl) (Nat.le_of_eq Tryz.ntmps126.symm) dec126 enc126 de126 _ ?_
  intro args H q h
  unfold sem126 at h
  split at h
  · rw [f126_eq] at h; exact h
  · cases h
/-! 74: xsem_run_product -/
noncomputable def CC74 : Ctx := { P := Tryz.prog, own := [2, 5, 10], fns := [(120, specF enc120 (sem120 f120)), (126, specF enc126 (sem126 f126)), (125, specF enc125 (sem125 f125)), (124, specF enc124 (sem124 f124)), (69, specF enc69 (sem69 f69)), (75, specF enc75 (sem75 f75))], nt := 98, nums := [], live := [] }
theorem good74 : Callees Tryz.prog CC74.fns [] CC74.nums := ((((((Callees.nil Tryz.prog).cons ok75 (specF_nat _ _)).cons ok69 (specF_nat _ _)).cons ok124 (specF_nat _ _)).cons ok125 (specF_nat _ _)).cons ok126 (specF_nat _ _)).cons ok120 (specF_nat _ _)
def enc74 (r : Unit) : List TV := []
def dec74 : AV → Option (Unit)
  | .tup [] => some ()
  | _ => none
theorem de74 (v : AV) (r : Unit) (h : dec74 v = some r) : v = oneOf (enc74 r) := by
  unfold dec74 at h
  split at h
  · cases h; rfl
  · cases h
abbrev Ty74 := PO → Heap → Option (Unit × Heap)
def sem74 (f : Ty74) : List TV → Heap → Option (Unit × Heap)
  | [.c (Cell.ptr r)], H => f r H
  | _, _ => none
noncomputable def F074 : Ty74 := fun r H => fnA CC74 Tryz.f74.results.toList (bodyOf Tryz.f74) _ [.c (Cell.ptr r)] H (decF dec74)
noncomputable def f74 : Ty74 := hide F074
theorem f74_eq : f74 = F074 := hide_eq _
theorem ok74 : FnOk Tryz.prog 74 (specF enc74 (sem74 f74)) := by
  refine spec_ok (C := CC74) good74 rfl rfl rfl (by kernel_rfl) Tryz.func74 (c := bodyOf Tryz.f74) (by kernel_rfl) (by kernel_rfl) (Nat.le_of_eq Tryz.ntmps74.symm) dec74 enc74 de74 _ ?_
  intro args H q h
  unfold sem74 at h
  split at h
  · rw [f74_eq] at h; exact h
  · cases h
/-! 168: bits_Turn -/
noncomputable def CC168 : Ctx := { P := Tryz.prog, own := [], fns := [(60, specF enc60 (sem60 f60)), (105, specF enc105 (sem105 f105))], nt := 34, nums := [], live := [] }
theorem good168 : Callees Tryz.prog CC168.fns [] CC168.nums := ((Callees.nil Tryz.prog).cons ok105 (specF_nat _ _)).cons ok60 (specF_nat _ _)
def enc168 (r : Int) : List TV := [.c (Cell.int .u64 (r))]
def dec168 : AV → Option (Int)
  | .c (Cell.int .u64 q0) => some (q0)
  | _ => none
theorem de168 (v : AV) (r : Int) (h : dec168 v = some r) : v = oneOf (enc168 r) := by
  unfold dec168 at h
  split at h
  · cases h; rfl
  · cases h
abbrev Ty168 := Int → Int → Int → Heap → Option (Int × Heap)
def sem168 (f : Ty168) : List TV → Heap → Option (Int × Heap)
  | [.c (Cell.int .u64 v), .c (Cell.int .i64 k), .c (Cell.int .i64 w)], H => f v k w H
  | _, _ => none
noncomputable def F0168 : Ty168 := fun v k w H => fnA CC168 Tryz.f168.results.toList (bodyOf Tryz.f168) _ [.c (Cell.int .u64 v), .c (Cell.int .i64 k), .c (Cell.int .i64 w)] H (decF dec168)
noncomputable def f168 : Ty168 := hide F0168
theorem f168_eq : f168 = F0168 := hide_eq _
theorem ok168 : FnOk Tryz.prog 168 (specF enc168 (sem168 f168)) := by
  refine spec_ok (C := CC168) good168 rfl rfl rfl (by kernel_rfl) Tryz.func168 (c := bodyOf Tryz.f168) (by kernel_rfl) (by kernel_rfl) (Nat.le_of_eq Tryz.ntmps168.symm) dec168 enc168 de168 _ ?_
  intro args H q h
  unfold sem168 at h
  split at h
  · rw [f168_eq] at h; exact h
  · cases h
/-! 129: xflag_bit -/
noncomputable def CC129 : Ctx := { P := Tryz.prog, own := [], fns := [], nt := 18, nums := [], live := [] }
theorem good129 : Callees Tryz.prog CC129.fns [] CC129.nums := Callees.nil Tryz.prog
def enc129 (r : Bool) : List TV := [.c (Cell.bool (r))]
def dec129 : AV → Option (Bool)
  | .c (Cell.bool q0) => some (q0)
  | _ => none
theorem de129 (v : AV) (r : Bool) (h : dec129 v = some r) : v = oneOf (enc129 r) := by
  unfold dec129 at h
  split at h
  · cases h; rfl
  · cases h
abbrev Ty129 := Int → Int → Heap → Option (Bool × Heap)
def sem129 (f : Ty129) : List TV → Heap → Option (Bool × Heap)
  | [.c (Cell.int .u64 v), .c (Cell.int .i64 i)], H => f v i H
  | _, _ => none
noncomputable def F0129 : Ty129 := fun v i H => fnA CC129 Tryz.f129.results.toList (bodyOf Tryz.f129) _ [.c (Cell.int .u64 v), .c (Cell.int .i64 i)] H (decF dec129)
noncomputable def f129 : Ty129 := hide F0129
theorem f129_eq : f129 = F0129 := hide_eq _
theorem ok129 : FnOk Tryz.prog 129 (specF enc129 (sem129 f129)) := by
  refine spec_ok (C := CC129) good129 rfl rfl rfl (by kernel_rfl) Tryz.func129 (c := bodyOf Tryz.f129) (by kernel_rfl) (by kernel_rfl) (Nat.le_of_eq Tryz.ntmps129.symm) dec129 enc129 de129 _ ?_
  intro args H q h
  unfold sem129 at h
  split at h
  · rw [f129_eq] at h; exact h
  · cases h
/-! 128: xflag_turn -/
noncomputable def CC128 : Ctx := { P := Tryz.prog, own := [8, 11], fns := [(130, specF enc130 (sem130 f130)), (129, specF enc129 (sem129 f129)), (168, specF enc168 (sem168 f168))], nt := 54, nums := [], live := [] }
theorem good128 : Callees Tryz.prog CC128.fns [] CC128.nums := (((Callees.nil Tryz.prog).cons ok168 (specF_nat _ _)).cons ok129 (specF_nat _ _)).cons ok130 (specF_nat _ _)
def enc128 (r : Int × Bool × Bool × Int) : List TV := [.c (Cell.int .u64 (r.1)), .agg [Cell.bool (r.2.1), Cell.bool (r.2.2.1), Cell.int .u64 (r.2.2.2)]]
def dec128 : AV → Option (Int × Bool × Bool × Int)
  | .tup [.c (Cell.int .u64 q0), .agg [Cell.bool q1, Cell.bool q2, Cell.int .u64 q3]] => some (q0, q1, q2, q3)
  | _ => none
theorem de128 (v : AV) (r : Int × Bool × Bool × Int) (h : dec128 v = some r) : v = oneOf (enc128 r) := by
  unfold dec128 at h
  split at h
  · cases h; rfl
  · cases h
abbrev Ty128 := Int → Int → Int → Bool → Bool → Int → Int → Heap → Option ((Int × Bool × Bool × Int) × Heap)
def sem128 (f : Ty128) : List TV → Heap → Option ((Int × Bool × Bool × Int) × Heap)
  | [.c (Cell.int .i64 op), .c (Cell.int .u64 a), .c (Cell.int .i64 k), .agg [Cell.bool t0, Cell.bool t1, Cell.int .u64 t2], .c (Cell.int .i64 w)], H => f op a k t0 t1 t2 w H
  | _, _ => none
noncomputable def F0128 : Ty128 := fun op a k t0 t1 t2 w H => fnA CC128 Tryz.f128.results.toList (bodyOf Tryz.f128) _ [.c (Cell.int .i64 op), .c (Cell.int .u64 a), .c (Cell.int .i64 k), .agg [Cell.bool t0, Cell.bool t1, Cell.int .u64 t2], .c (Cell.int .i64 w)] H (decF dec128)
noncomputable def f128 : Ty128 := hide F0128
theorem f128_eq : f128 = F0128 := hide_eq _
theorem ok128 : FnOk Tryz.prog 128 (specF enc128 (sem128 f128)) := by
  refine spec_ok (C := CC128) good128 rfl rfl rfl (by kernel_rfl) Tryz.func128 (c := bodyOf Tryz.f128) (by kernel_rfl) (by kernel_rfl) (Nat.le_of_eq Tryz.ntmps128.symm) dec128 enc128 de128 _ ?_
  intro args H q h
  unfold sem128 at h
  split at h
  · rw [f128_eq] at h; exact h
  · cases h
/-! 76: xflag_Turn -/
noncomputable def CC76 : Ctx := { P := Tryz.prog, own := [8, 11], fns := [(121, specF enc121 (sem121 f121)), (115, specF enc115 (sem115 f115)), (130, specF enc130 (sem130 f130)), (129, specF enc129 (sem129 f129)), (128, specF enc128 (sem128 f128)), (60, specF enc60 (sem60 f60)), (105, specF enc105 (sem105 f105))], nt := 111, nums := [], live := [] }
theorem good76 : Callees Tryz.prog CC76.fns [] CC76.nums := (((((((Callees.nil Tryz.prog).cons ok105 (specF_nat _ _)).cons ok60 (specF_nat _ _)).cons ok128 (specF_nat _ _)).cons ok129 (specF_nat _ _)).cons ok130 (specF_nat _ _)).cons ok115 (specF_nat _ _)).cons ok121 (specF_nat _ _)
def enc76 (r : Int × Bool × Bool × Int) : List TV := [.c (Cell.int .u64 (r.1)), .agg [Cell.bool (r.2.1), Cell.bool (r.2.2.1), Cell.int .u64 (r.2.2.2)]]
def dec76 : AV → Option (Int × Bool × Bool × Int)
  | .tup [.c (Cell.int .u64 q0), .agg [Cell.bool q1, Cell.bool q2, Cell.int .u64 q3]] => some (q0, q1, q2, q3)
  | _ => none
theorem de76 (v : AV) (r : Int × Bool × Bool × Int) (h : dec76 v = some r) : v = oneOf (enc76 r) := by
  unfold dec76 at h
  split at h
  · cases h; rfl
  · cases h
abbrev Ty76 := Int → Int → Int → Bool → Bool → Int → Int → Heap → Option ((Int × Bool × Bool × Int) × Heap)
def sem76 (f : Ty76) : List TV → Heap → Option ((Int × Bool × Bool × Int) × Heap)
  | [.c (Cell.int .i64 op), .c (Cell.int .u64 a), .c (Cell.int .i64 n), .agg [Cell.bool t0, Cell.bool t1, Cell.int .u64 t2], .c (Cell.int .i64 w)], H => f op a n t0 t1 t2 w H
  | _, _ => none
noncomputable def F076 : Ty76 := fun op a n t0 t1 t2 w H => fnA CC76 Tryz.f76.results.toList (bodyOf Tryz.f76) _ [.c (Cell.int .i64 op), .c (Cell.int .u64 a), .c (Cell.int .i64 n), .agg [Cell.bool t0, Cell.bool t1, Cell.int .u64 t2], .c (Cell.int .i64 w)] H (decF dec76)
noncomputable def f76 : Ty76 := hide F076
theorem f76_eq : f76 = F076 := hide_eq _
theorem ok76 : FnOk Tryz.prog 76 (specF enc76 (sem76 f76)) := by
  refine spec_ok (C := CC76) good76 rfl rfl rfl (by kernel_rfl) Tryz.func76 (c := bodyOf Tryz.f76) (by kernel_rfl) (by kernel_rfl) (Nat.le_of_eq Tryz.ntmps76.symm) dec76 enc76 de76 _ ?_
  intro args H q h
  unfold sem76 at h
  split at h
  · rw [f76_eq] at h; exact h
  · cases h
/-! 131: xsem_run_swap -/
noncomputable def CC131 : Ctx := { P := Tryz.prog, own := [], fns := [(120, specF enc120 (sem120 f120)), (119, specF enc119 (sem119 f119))], nt := 38, nums := [], live := [] }
theorem good131 : Callees Tryz.prog CC131.fns [] CC131.nums := ((Callees.nil Tryz.prog).cons ok119 (specF_nat _ _)).cons ok120 (specF_nat _ _)
def enc131 (r : Unit) : List TV := []
def dec131 : AV → Option (Unit)
  | .tup [] => some ()
  | _ => none
theorem de131 (v : AV) (r : Unit) (h : dec131 v = some r) : v = oneOf (enc131 r) := by
  unfold dec131 at h
  split at h
  · cases h; rfl
  · cases h
abbrev Ty131 := PO → Int → Int → Heap → Option (Unit × Heap)
def sem131 (f : Ty131) : List TV → Heap → Option (Unit × Heap)
  | [.c (Cell.ptr r), .c (Cell.int .u64 x1), .c (Cell.int .u64 v)], H => f r x1 v H
  | _, _ => none
noncomputable def F0131 : Ty131 := fun r x1 v H => fnA CC131 Tryz.f131.results.toList (bodyOf Tryz.f131) _ [.c (Cell.ptr r), .c (Cell.int .u64 x1), .c (Cell.int .u64 v)] H (decF dec131)
noncomputable def f131 : Ty131 := hide F0131
theorem f131_eq : f131 = F0131 := hide_eq _
theorem ok131 : FnOk Tryz.prog 131 (specF enc131 (sem131 f131)) := by
  refine spec_ok (C := CC131) good131 rfl rfl rfl (by kernel_rfl) Tryz.func131 (c := bodyOf Tryz.f131) (by kernel_rfl) (by kernel_rfl) (Nat.le_of_eq Tryz.ntmps131.symm) dec131 enc131 de131 _ ?_
  intro args H q h
  unfold sem131 at h
  split at h
  · rw [f131_eq] at h; exact h
  · cases h
/-! 77: xsem_run_exchange -/
noncomputable def CC77 : Ctx := { P := Tryz.prog, own := [2, 7, 10], fns := [(75, specF enc75 (sem75 f75)), (68, specF enc68 (sem68 f68)), (131, specF enc131 (sem131 f131)), (120, specF enc120 (sem120 f120)), (69, specF enc69 (sem69 f69)), (118, specF enc118 (sem118 f118))], nt := 136, nums := [], live := [] }
theorem good77 : Callees Tryz.prog CC77.fns [] CC77.nums := ((((((Callees.nil Tryz.prog).cons ok118 (specF_nat _ _)).cons ok69 (specF_nat _ _)).cons ok120 (specF_nat _ _)).cons ok131 (specF_nat _ _)).cons ok68 (specF_nat _ _)).cons ok75 (specF_nat _ _)
def enc77 (r : Unit) : List TV := []
def dec77 : AV → Option (Unit)
  | .tup [] => some ()
  | _ => none
theorem de77 (v : AV) (r : Unit) (h : dec77 v = some r) : v = oneOf (enc77 r) := by
  unfold dec77 at h
  split at h
  · cases h; rfl
  · cases h
abbrev Ty77 := PO → Heap → Option (Unit × Heap)
def sem77 (f : Ty77) : List TV → Heap → Option (Unit × Heap)
  | [.c (Cell.ptr r)], H => f r H
  | _, _ => none
noncomputable def F077 : Ty77 := fun r H => fnA CC77 Tryz.f77.results.toList (bodyOf Tryz.f77) _ [.c (Cell.ptr r)] H (decF dec77)
noncomputable def f77 : Ty77 := hide F077
theorem f77_eq : f77 = F077 := hide_eq _
theorem ok77 : FnOk Tryz.prog 77 (specF enc77 (sem77 f77)) := by
  refine spec_ok (C := CC77) good77 rfl rfl rfl (by kernel_rfl) Tryz.func77 (c := bodyOf Tryz.f77) (by kernel_rfl) (by kernel_rfl) (Nat.le_of_eq Tryz.ntmps77.symm) dec77 enc77 de77 _ ?_
  intro args H q h
  unfold sem77 at h
  split at h
  · rw [f77_eq] at h; exact h
  · cases h
/-! 136: xflag_Thunk_Zero -/
noncomputable def CC136 : Ctx := { P := Tryz.prog, own := [1], fns := [], nt := 6, nums := [], live := [] }
theorem good136 : Callees Tryz.prog CC136.fns [] CC136.nums := Callees.nil Tryz.prog
def enc136 (r : Bool) : List TV := [.c (Cell.bool (r))]
def dec136 : AV → Option (Bool)
  | .c (Cell.bool q0) => some (q0)
  | _ => none
theorem de136 (v : AV) (r : Bool) (h : dec136 v = some r) : v = oneOf (enc136 r) := by
  unfold dec136 at h
  split at h
  · cases h; rfl
  · cases h
abbrev Ty136 := Bool → Bool → Int → Heap → Option (Bool × Heap)
def sem136 (f : Ty136) : List TV → Heap → Option (Bool × Heap)
  | [.agg [Cell.bool t0, Cell.bool t1, Cell.int .u64 t2]], H => f t0 t1 t2 H
  | _, _ => none
noncomputable def F0136 : Ty136 := fun t0 t1 t2 H => fnA CC136 Tryz.f136.results.toList (bodyOf Tryz.f136) _ [.agg [Cell.bool t0, Cell.bool t1, Cell.int .u64 t2]] H (decF dec136)
noncomputable def f136 : Ty136 := hide F0136
theorem f136_eq : f136 = F0136 := hide_eq _
theorem ok136 : FnOk Tryz.prog 136 (specF enc136 (sem136 f136)) := by
  refine spec_ok (C := CC136) good136 rfl rfl rfl (by kernel_rfl) Tryz.func136 (c := bodyOf Tryz.f136) (by kernel_rfl) (by kernel_rfl) (Nat.le_of_eq Tryz.ntmps136.symm) dec136 enc136 de136 _ ?_
  intro args H q h
  unfold sem136 at h
  split at h
  · rw [f136_eq] at h; exact h
  · cases h
/-! 137: xflag_Thunk_Sign -/
noncomputable def CC137 : Ctx := { P := Tryz.prog, own := [1], fns := [], nt := 7, nums := [], live := [] }
theorem good137 : Callees Tryz.prog CC137.fns [] CC137.nums := Callees.nil Tryz.prog
def enc137 (r : Bool) : List TV := [.c (Cell.bool (r))]
def dec137 : AV → Option (Bool)
  | .c (Cell.bool q0) => some (q0)
  | _ => none
theorem de137 (v : AV) (r : Bool) (h : dec137 v = some r) : v = oneOf (enc137 r) := by
  unfold dec137 at h
  split at h
  · cases h; rfl
  · cases h
abbrev Ty137 := Bool → Bool → Int → Heap → Option (Bool × Heap)
def sem137 (f : Ty137) : List TV → Heap → Option (Bool × Heap)
  | [.agg [Cell.bool t0, Cell.bool t1, Cell.int .u64 t2]], H => f t0 t1 t2 H
  | _, _ => none
noncomputable def F0137 : Ty137 := fun t0 t1 t2 H => fnA CC137 Tryz.f137.results.toList (bodyOf Tryz.f137) _ [.agg [Cell.bool t0, Cell.bool t1, Cell.int .u64 t2]] H (decF dec137)
noncomputable def f137 : Ty137 := hide F0137
theorem f137_eq : f137 = F0137 := hide_eq _
theorem ok137 : FnOk Tryz.prog 137 (specF enc137 (sem137 f137)) := by
  refine spec_ok (C := CC137) good137 rfl rfl rfl (by kernel_rfl) Tryz.func137 (c := bodyOf Tryz.f137) (by kernel_rfl) (by kernel_rfl) (Nat.le_of_eq Tryz.ntmps137.symm) dec137 enc137 de137 _ ?_
  intro args H q h
  unfold sem137 at h
  split at h
  · rw [f137_eq] at h; exact h
  · cases h
/-! 183: mbits_OnesCount8 -/
noncomputable def CC183 : Ctx := { P := Tryz.prog, own := [], fns := [], nt := 6, nums := [], live := [] }
theorem good183 : Callees Tryz.prog CC183.fns [] CC183.nums := Callees.nil Tryz.prog
def enc183 (r : Int) : List TV := [.c (Cell.int .i64 (r))]
def dec183 : AV → Option (Int)
  | .c (Cell.int .i64 q0) => some (q0)
  | _ => none
theorem de183 (v : AV) (r : Int) (h : dec183 v = some r) : v = oneOf (enc183 r) := by
  unfold dec183 at h
  split at h
  · cases h; rfl
  · cases h
abbrev Ty183 := Int → Heap → Option (Int × Heap)
def sem183 (f : Ty183) : List TV → Heap → Option (Int × Heap)
  | [.c (Cell.int .u8 x0)], H => f x0 H
  | _, _ => none
noncomputable def F0183 : Ty183 := fun x0 H => fnA CC183 Tryz.f183.results.toList (bodyOf Tryz.f183) _ [.c (Cell.int .u8 x0)] H (decF dec183)
noncomputable def f183 : Ty183 := hide F0183
theorem f183_eq : f183 = F0183 := hide_eq _
theorem ok183 : FnOk Tryz.prog 183 (specF enc183 (sem183 f183)) := by
  refine spec_ok (C := CC183) good183 rfl rfl rfl (by kernel_rfl) Tryz.func183 (c := bodyOf Tryz.f183) (by kernel_rfl) (by kernel_rfl) (Nat.le_of_eq Tryz.ntmps183.symm) dec183 enc183 de183 _ ?_
  intro args H q h
  unfold sem183 at h
  split at h
  · rw [f183_eq] at h; exact h
  · cases h
/-! 170: bits_Even -/
noncomputable def CC170 : Ctx := { P := Tryz.prog, own := [], fns := [(183, specF enc183 (sem183 f183))], nt := 8, nums := [], live := [] }
theorem good170 : Callees Tryz.prog CC170.fns [] CC170.nums := (Callees.nil Tryz.prog).cons ok183 (specF_nat _ _)
def enc170 (r : Bool) : List TV := [.c (Cell.bool (r))]
def dec170 : AV → Option (Bool)
  | .c (Cell.bool q0) => some (q0)
  | _ => none
theorem de170 (v : AV) (r : Bool) (h : dec170 v = some r) : v = oneOf (enc170 r) := by
  unfold dec170 at h
  split at h
  · cases h; rfl
  · cases h
abbrev Ty170 := Int → Heap → Option (Bool × Heap)
def sem170 (f : Ty170) : List TV → Heap → Option (Bool × Heap)
  | [.c (Cell.int .u64 v)], H => f v H
  | _, _ => none
noncomputable def F0170 : Ty170 := fun v H => fnA CC170 Tryz.f170.results.toList (bodyOf Tryz.f170) _ [.c (Cell.int .u64 v)] H (decF dec170)
noncomputable def f170 : Ty170 := hide F0170
theorem f170_eq : f170 = F0170 := hide_eq _
theorem ok170 : FnOk Tryz.prog 170 (specF enc170 (sem170 f170)) := by
  refine spec_ok (C := CC170) good170 rfl rfl rfl (by kernel_rfl) Tryz.func170 (c := bodyOf Tryz.f170) (by kernel_rfl) (by kernel_rfl) (Nat.le_of_eq Tryz.ntmps170.symm) dec170 enc170 de170 _ ?_
  intro args H q h
  unfold sem170 at h
  split at h
  · rw [f170_eq] at h; exact h
  · cases h
/-! 135: xflag_Thunk_Even -/
noncomputable def CC135 : Ctx := { P := Tryz.prog, own := [1], fns := [(170, specF enc170 (sem170 f170))], nt := 6, nums := [], live := [] }
theorem good135 : Callees Tryz.prog CC135.fns [] CC135.nums := (Callees.nil Tryz.prog).cons ok170 (specF_nat _ _)
def enc135 (r : Bool) : List TV := [.c (Cell.bool (r))]
def dec135 : AV → Option (Bool)
  | .c (Cell.bool q0) => some (q0)
  | _ => none
theorem de135 (v : AV) (r : Bool) (h : dec135 v = some r) : v = oneOf (enc135 r) := by
  unfold dec135 at h
  split at h
  · cases h; rfl
  · cases h
abbrev Ty135 := Bool → Bool → Int → Heap → Option (Bool × Heap)
def sem135 (f : Ty135) : List TV → Heap → Option (Bool × Heap)
  | [.agg [Cell.bool t0, Cell.bool t1, Cell.int .u64 t2]], H => f t0 t1 t2 H
  | _, _ => none
noncomputable def F0135 : Ty135 := fun t0 t1 t2 H => fnA CC135 Tryz.f135.results.toList (bodyOf Tryz.f135) _ [.agg [Cell.bool t0, Cell.bool t1, Cell.int .u64 t2]] H (decF dec135)
noncomputable def f135 : Ty135 := hide F0135
theorem f135_eq : f135 = F0135 := hide_eq _
theorem ok135 : FnOk Tryz.prog 135 (specF enc135 (sem135 f135)) := by
  refine spec_ok (C := CC135) good135 rfl rfl rfl (by kernel_rfl) Tryz.func135 (c := bodyOf Tryz.f135) (by kernel_rfl) (by kernel_rfl) (Nat.le_of_eq Tryz.ntmps135.symm) dec135 enc135 de135 _ ?_
  intro args H q h
  unfold sem135 at h
  split at h
  · rw [f135_eq] at h; exact h
  · cases h
/-! 169: xflag_Thunk_less -/
noncomputable def CC169 : Ctx := { P := Tryz.prog, own := [1], fns := [(137, specF enc137 (sem137 f137))], nt := 8, nums := [], live := [] }
theorem good169 : Callees Tryz.prog CC169.fns [] CC169.nums := (Callees.nil Tryz.prog).cons ok137 (specF_nat _ _)
def enc169 (r : Bool) : List TV := [.c (Cell.bool (r))]
def dec169 : AV → Option (Bool)
  | .c (Cell.bool q0) => some (q0)
  | _ => none
theorem de169 (v : AV) (r : Bool) (h : dec169 v = some r) : v = oneOf (enc169 r) := by
  unfold dec169 at h
  split at h
  · cases h; rfl
  · cases h
abbrev Ty169 := Bool → Bool → Int → Heap → Option (Bool × Heap)
def sem169 (f : Ty169) : List TV → Heap → Option (Bool × Heap)
  | [.agg [Cell.bool t0, Cell.bool t1, Cell.int .u64 t2]], H => f t0 t1 t2 H
  | _, _ => none
noncomputable def F0169 : Ty169 := fun t0 t1 t2 H => fnA CC169 Tryz.f169.results.toList (bodyOf Tryz.f169) _ [.agg [Cell.bool t0, Cell.bool t1, Cell.int .u64 t2]] H (decF dec169)
noncomputable def f169 : Ty169 := hide F0169
theorem f169_eq : f169 = F0169 := hide_eq _
theorem ok169 : FnOk Tryz.prog 169 (specF enc169 (sem169 f169)) := by
  refine spec_ok (C := CC169) good169 rfl rfl rfl (by kernel_rfl) Tryz.func169 (c := bodyOf Tryz.f169) (by kernel_rfl) (by kernel_rfl) (Nat.le_of_eq Tryz.ntmps169.symm) dec169 enc169 de169 _ ?_
  intro args H q h
  unfold sem169 at h
  split at h
  · rw [f169_eq] at h; exact h
  · cases h
/-! 132: xflag_Thunk_Cond -/
noncomputable def CC132 : Ctx := { P := Tryz.prog, own := [2], fns := [(169, specF enc169 (sem169 f169)), (135, specF enc135 (sem135 f135)), (137, specF enc137 (sem137 f137)), (136, specF enc136 (sem136 f136))], nt := 53, nums := [], live := [] }
theorem good132 : Callees Tryz.prog CC132.fns [] CC132.nums := ((((Callees.nil Tryz.prog).cons ok136 (specF_nat _ _)).cons ok137 (specF_nat _ _)).cons ok135 (specF_nat _ _)).cons ok169 (specF_nat _ _)
def enc132 (r : Bool) : List TV := [.c (Cell.bool (r))]
def dec132 : AV → Option (Bool)
  | .c (Cell.bool q0) => some (q0)
  | _ => none
theorem de132 (v : AV) (r : Bool) (h : dec132 v = some r) : v = oneOf (enc132 r) := by
  unfold dec132 at h
  split at h
  · cases h; rfl
  · cases h
abbrev Ty132 := Bool → Bool → Int → Int → Heap → Option (Bool × Heap)
def sem132 (f : Ty132) : List TV → Heap → Option (Bool × Heap)
  | [.agg [Cell.bool t0, Cell.bool t1, Cell.int .u64 t2], .c (Cell.int .i64 cc)], H => f t0 t1 t2 cc H
  | _, _ => none
noncomputable def F0132 : Ty132 := fun t0 t1 t2 cc H => fnA CC132 Tryz.f132.results.toList (bodyOf Tryz.f132) _ [.agg [Cell.bool t0, Cell.bool t1, Cell.int .u64 t2], .c (Cell.int .i64 cc)] H (decF dec132)
noncomputable def f132 : Ty132 := hide F0132
theorem f132_eq : f132 = F0132 := hide_eq _
theorem ok132 : FnOk Tryz.prog 132 (specF enc132 (sem132 f132)) := by
  refine spec_ok (C := CC132) good132 rfl rfl rfl (by kernel_rfl) Tryz.func132 (c := bodyOf Tryz.f132) (by kernel_rfl) (by kernel_rfl) (Nat.le_of_eq Tryz.ntmps132.symm) dec132 enc132 de132 _ ?_
  intro args H q h
  unfold sem132 at h
  split at h
  · rw [f132_eq] at h; exact h
  · cases h
/-! 78: xsem_run_choose -/
noncomputable def CC78 : Ctx := { P := Tryz.prog, own := [2], fns := [(120, specF enc120 (sem120 f120)), (75, specF enc75 (sem75 f75)), (69, specF enc69 (sem69 f69)), (70, specF enc70 (sem70 f70)), (132, specF enc132 (sem132 f132))], nt := 56, nums := [], live := [] }
theorem good78 : Callees Tryz.prog CC78.fns [] CC78.nums := (((((Callees.nil Tryz.prog).cons ok132 (specF_nat _ _)).cons ok70 (specF_nat _ _)).cons ok69 (specF_nat _ _)).cons ok75 (specF_nat _ _)).cons ok120 (specF_nat _ _)
def enc78 (r : Unit) : List TV := []
def dec78 : AV → Option (Unit)
  | .tup [] => some ()
  | _ => none
theorem de78 (v : AV) (r : Unit) (h : dec78 v = some r) : v = oneOf (enc78 r) := by
  unfold dec78 at h
  split at h
  · cases h; rfl
  · cases h
abbrev Ty78 := PO → Heap → Option (Unit × Heap)
def sem78 (f : Ty78) : List TV → Heap → Option (Unit × Heap)
  | [.c (Cell.ptr r)], H => f r H
  | _, _ => none
noncomputable def F078 : Ty78 := fun r H => fnA CC78 Tryz.f78.results.toList (bodyOf Tryz.f78) _ [.c (Cell.ptr r)] H (decF dec78)
noncomputable def f78 : Ty78 := hide F078
theorem f78_eq : f78 = F078 := hide_eq _
theorem ok78 : FnOk Tryz.prog 78 (specF enc78 (sem78 f78)) := by
  refine spec_ok (C := CC78) good78 rfl rfl rfl (by kernel_rfl) Tryz.func78 (c := bodyOf Tryz.f78) (by kernel_rfl) (by kernel_rfl) (Nat.le_of_eq Tryz.ntmps78.symm) dec78 enc78 de78 _ ?_
  intro args H q h
  unfold sem78 at h
  split at h
  · rw [f78_eq] at h; exact h
  · cases h
/-! 133: xsem_run_target -/
noncomputable def CC133 : Ctx := { P := Tryz.prog, own := [], fns := [(69, specF enc69 (sem69 f69))], nt := 28, nums := [], live := [] }
theorem good133 : Callees Tryz.prog CC133.fns [] CC133.nums := (Callees.nil Tryz.prog).cons ok69 (specF_nat _ _)
theorem hN133 : CtxNat CC133 := good133.ctx rfl rfl rfl
def enc133 (r : Int) : List TV := [.c (Cell.int .u64 (r))]
def dec133 : AV → Option (Int)
  | .c (Cell.int .u64 q0) => some (q0)
  | _ => none
theorem de133 (v : AV) (r : Int) (h : dec133 v = some r) : v = oneOf (enc133 r) := by
  unfold dec133 at h
  split at h
  · cases h; rfl
  · cases h
abbrev Ty133 := PO → Heap → Option (Int × Heap)
def sem133 (f : Ty133) : List TV → Heap → Option (Int × Heap)
  | [.c (Cell.ptr r)], H => f r H
  | _, _ => none
noncomputable def F0133 : Ty133 := fun r H => fnA CC133 Tryz.f133.results.toList (bodyOf Tryz.f133) _ [.c (Cell.ptr r)] H (decF dec133)
noncomputable def f133 : Ty133 := hide F0133
theorem f133_eq : f133 = F0133 := hide_eq _
theorem q133 : ∀ (r : PO) (H : Heap), f133 r H = r.bind fun v22 => (H.get v22.1 (v22.2 + 21 + 3 + 0)).bind fun v21 => (Cell.toInt .i64 v21).bind fun v20 => bif v20 == 0 then r.bind fun v5 => (H.get v5.1 (v5.2 + 43)).bind fun v4 => (Cell.toInt .u64 v4).bind fun v3 => r.bind fun v2 => (H.get v2.1 (v2.2 + 21 + 15)).bind fun v1 => (Cell.toInt .i64 v1).bind fun v0 => some (IntKind.u64.wrap (v3 + IntKind.u64.wrap v0), H) else r.bind fun v19 => (H.get v19.1 (v19.2 + 21 + 3)).bind fun v18 => (H.get v19.1 (v19.2 + 21 + 3 + 1)).bind fun v17 => (H.get v19.1 (v19.2 + 21 + 3 + 1 + 1)).bind fun v16 => (H.get v19.1 (v19.2 + 21 + 3 + 1 + 1 + 1)).bind fun v15 => (H.get v19.1 (v19.2 + 21 + 3 + 1 + 1 + 1 + 1)).bind fun v14 => (H.get v19.1 (v19.2 + 21 + 3 + 1 + 1 + 1 + 1 + 1)).bind fun v13 => (Cell.toInt .i64 v18).bind fun v12 => (Cell.toInt .i64 v17).bind fun v11 => (Cell.toInt .i64 v16).bind fun v10 => (Cell.toInt .i64 v15).bind fun v9 => (Cell.toInt .i64 v14).bind fun v8 => (Cell.toInt .i64 v13).bind fun v7 => (f69 r v12 v11 v10 v9 v8 v7 8 H).bind fun v6 => some (v6.1, v6.2) := by intros; rw [f133_eq]; exact (fnA_lpD hN133 ..).trans (by kernel_rfl)
theorem ok133 : FnOk Tryz.prog 133 (specF enc133 (sem133 f133)) := by
  refine spec_ok (C := CC133) good133 rfl rfl rfl (by kernel_rfl) Tryz.func133 (c := bodyOf Tryz.f133) (by kernel_rfl) (by kernel_rfl) (Nat.le_of_eq Tryz.ntmps133.symm) dec133 enc133 de133 _ ?_
  intro args H q h
  unfold sem133 at h
  split at h
  · rw [f133_eq] at h; exact h
  · cases h
/-! 79: xsem_run_jump -/
noncomputable def CC79 : Ctx := { P := Tryz.prog, own := [], fns := [(123, specF enc123 (sem123 f123)), (122, specF enc122 (sem122 f122)), (133, specF enc133 (sem133 f133)), (132, specF enc132 (sem132 f132))], nt := 56, nums := [], live := [] }
theorem good79 : Callees Tryz.prog CC79.fns [] CC79.nums := ((((Callees.nil Tryz.prog).cons ok132 (specF_nat _ _)).cons ok133 (specF_nat _ _)).cons ok122 (specF_nat _ _)).cons ok123 (specF_nat _ _)
theorem hN79 : CtxNat CC79 := good79.ctx rfl rfl rfl
def enc79 (r : Unit) : List TV := []
def dec79 : AV → Option (Unit)
  | .tup [] => some ()
  | _ => none
theorem de79 (v : AV) (r : Unit) (h : dec79 v = some r) : v = oneOf (enc79 r) := by
  unfold dec79 at h
  split at h
  · cases h; rfl
  · cases h
abbrev Ty79 := PO → Heap → Option (Unit × Heap)
def sem79 (f : Ty79) : List TV → Heap → Option (Unit × Heap)
  | [.c (Cell.ptr r)], H => f r H
  | _, _ => none
noncomputable def F079 : Ty79 := fun r H => fnA CC79 Tryz.f79.results.toList (bodyOf Tryz.f79) _ [.c (Cell.ptr r)] H (decF dec79)
noncomputable def f79 : Ty79 := hide F079
theorem f79_eq : f79 = F079 := hide_eq _
theorem q79 : ∀ (r : PO) (H : Heap), f79 r H = r.bind fun v29 => (H.get v29.1 (v29.2 + 21 + 0)).bind fun v28 => (Cell.toInt .i64 v28).bind fun v27 => bif v27 == 36 then r.bind fun v13 => (H.get v13.1 (v13.2 + 0 + 16)).bind fun v12 => (H.get v13.1 (v13.2 + 0 + 16 + 1)).bind fun v11 => (H.get v13.1 (v13.2 + 0 + 16 + 1 + 1)).bind fun v10 => v12.toBool.bind fun v9 => v11.toBool.bind fun v8 => (Cell.toInt .u64 v10).bind fun v7 => r.bind fun v6 => (H.get v6.1 (v6.2 + 21 + 16)).bind fun v5 => (Cell.toInt .i64 v5).bind fun v4 => (f132 v9 v8 v7 v4 H).bind fun v3 => bif v3.1 then (f133 r v3.2).bind fun v2 => r.bind fun v1 => (v2.2.put v1.1 (v1.2 + 0 + 19) [Cell.int .u64 v2.1]).bind fun v0 => some ((), v0) else some ((), v3.2) else bif v27 == 37 then (f133 r H).bind fun v16 => r.bind fun v15 => (v16.2.put v15.1 (v15.2 + 0 + 19) [Cell.int .u64 v16.1]).bind fun v14 => some ((), v14) else bif v27 == 38 then (f133 r H).bind fun v23 => r.bind fun v22 => (v23.2.get v22.1 (v22.2 + 43)).bind fun v21 => (Cell.toInt .u64 v21).bind fun v20 => (f122 r v20 v23.2).bind fun v19 => r.bind fun v18 => (v19.2.put v18.1 (v18.2 + 0 + 19) [Cell.int .u64 v23.1]).bind fun v17 => some ((), v17) else (f123 r H).bind fun v26 => r.bind fun v25 => (v26.2.put v25.1 (v25.2 + 0 + 19) [Cell.int .u64 v26.1]).bind fun v24 => some ((), v24) := by intros; rw [f79_eq]; exact (fnA_lpD hN79 ..).trans (by kernel_rfl)
theorem ok79 : FnOk Tryz.prog 79 (specF enc79 (sem79 f79)) := by
  refine spec_ok (C := CC79) good79 rfl rfl rfl (by kernel_rfl) Tryz.func79 (c := bodyOf Tryz.f79) (by kernel_rfl) (by kernel_rfl) (Nat.le_of_eq Tryz.ntmps79.symm) dec79 enc79 de79 _ ?_
  intro args H q h
  unfold sem79 at h
  split at h
  · rw [f79_eq] at h; exact h
  · cases h
/-! 134: xsem_run_strings -/
noncomputable def CC134 : Ctx := { P := Tryz.prog, own := [], fns := [(119, specF enc119 (sem119 f119)), (117, specF enc117 (sem117 f117)), (75, specF enc75 (sem75 f75))], nt := 107, nums := [], live := [] }
theorem good134 : Callees Tryz.prog CC134.fns [] CC134.nums := (((Callees.nil Tryz.prog).cons ok75 (specF_nat _ _)).cons ok117 (specF_nat _ _)).cons ok119 (specF_nat _ _)
def enc134 (r : Unit) : List TV := []
def dec134 : AV → Option (Unit)
  | .tup [] => some ()
  | _ => none
theorem de134 (v : AV) (r : Unit) (h : dec134 v = some r) : v = oneOf (enc134 r) := by
  unfold dec134 at h
  split at h
  · cases h; rfl
  · cases h
abbrev Ty134 := PO → Int → Heap → Option (Unit × Heap)
def sem134 (f : Ty134) : List TV → Heap → Option (Unit × Heap)
  | [.c (Cell.ptr r), .c (Cell.int .i64 w)], H => f r w H
  | _, _ => none
noncomputable def F0134 : Ty134 := fun r w H => fnA CC134 Tryz.f134.results.toList (bodyOf Tryz.f134) _ [.c (Cell.ptr r), .c (Cell.int .i64 w)] H (decF dec134)
noncomputable def f134 : Ty134 := hide F0134
theorem f134_eq : f134 = F0134 := hide_eq _
theorem ok134 : FnOk Tryz.prog 134 (specF enc134 (sem134 f134)) := by
  refine spec_ok (C := CC134) good134 rfl rfl rfl (by kernel_rfl) Tryz.func134 (c := bodyOf Tryz.f134) (by kernel_rfl) (by kernel_rfl) (Nat.le_of_eq Tryz.ntmps134.symm) dec134 enc134 de134 _ ?_
  intro args H q h
  unfold sem134 at h
  split at h
  · rw [f134_eq] at h; exact h
  · cases h
/-! 80: xsem_run_other -/
noncomputable def CC80 : Ctx := { P := Tryz.prog, own := [], fns := [(134, specF enc134 (sem134 f134)), (107, specF enc107 (sem107 f107)), (130, specF enc130 (sem130 f130)), (120, specF enc120 (sem120 f120)), (121, specF enc121 (sem121 f121)), (75, specF enc75 (sem75 f75))], nt := 50, nums := [], live := [] }
theorem good80 : Callees Tryz.prog CC80.fns [] CC80.nums := ((((((Callees.nil Tryz.prog).cons ok75 (specF_nat _ _)).cons ok121 (specF_nat _ _)).cons ok120 (specF_nat _ _)).cons ok130 (specF_nat _ _)).cons ok107 (specF_nat _ _)).cons ok134 (specF_nat _ _)
def enc80 (r : Unit) : List TV := []
def dec80 : AV → Option (Unit)
  | .tup [] => some ()
  | _ => none
theorem de80 (v : AV) (r : Unit) (h : dec80 v = some r) : v = oneOf (enc80 r) := by
  unfold dec80 at h
  split at h
  · cases h; rfl
  · cases h
abbrev Ty80 := PO → Heap → Option (Unit × Heap)
def sem80 (f : Ty80) : List TV → Heap → Option (Unit × Heap)
  | [.c (Cell.ptr r)], H => f r H
  | _, _ => none
noncomputable def F080 : Ty80 := fun r H => fnA CC80 Tryz.f80.results.toList (bodyOf Tryz.f80) _ [.c (Cell.ptr r)] H (decF dec80)
noncomputable def f80 : Ty80 := hide F080
theorem f80_eq : f80 = F080 := hide_eq _
theorem ok80 : FnOk Tryz.prog 80 (specF enc80 (sem80 f80)) := by
  refine spec_ok (C := CC80) good80 rfl rfl rfl (by kernel_rfl) Tryz.func80 (c := bodyOf Tryz.f80) (by kernel_rfl) (by kernel_rfl) (Nat.le_of_eq Tryz.ntmps80.symm) dec80 enc80 de80 _ ?_
  intro args H q h
  unfold sem80 at h
  split at h
  · rw [f80_eq] at h; exact h
  · cases h
/-! 81: xflag_Thunk_Pack -/
noncomputable def CC81 : Ctx := { P := Tryz.prog, own := [1, 5], fns := [(137, specF enc137 (sem137 f137)), (136, specF enc136 (sem136 f136)), (135, specF enc135 (sem135 f135))], nt := 35, nums := [], live := [(3, ⟨[3, 21, 22, 23], [], [3], []⟩)] }
theorem good81 : Callees Tryz.prog CC81.fns [] CC81.nums := (((Callees.nil Tryz.prog).cons ok135 (specF_nat _ _)).cons ok136 (specF_nat _ _)).cons ok137 (specF_nat _ _)
def enc81 (r : Int) : List TV := [.c (Cell.int .u64 (r))]
def dec81 : AV → Option (Int)
  | .c (Cell.int .u64 q0) => some (q0)
  | _ => none
theorem de81 (v : AV) (r : Int) (h : dec81 v = some r) : v = oneOf (enc81 r) := by
  unfold dec81 at h
  split at h
  · cases h; rfl
  · cases h
abbrev Ty81 := Bool → Bool → Int → Heap → Option (Int × Heap)
def sem81 (f : Ty81) : List TV → Heap → Option (Int × Heap)
  | [.agg [Cell.bool t0, Cell.bool t1, Cell.int .u64 t2]], H => f t0 t1 t2 H
  | _, _ => none
noncomputable def F081 : Ty81 := fun t0 t1 t2 H => fnA CC81 Tryz.f81.results.toList (bodyOf Tryz.f81) _ [.agg [Cell.bool t0, Cell.bool t1, Cell.int .u64 t2]] H (decF dec81)
noncomputable def f81 : Ty81 := hide F081
theorem f81_eq : f81 = F081 := hide_eq _
theorem ok81 : FnOk Tryz.prog 81 (specF enc81 (sem81 f81)) := by
  refine spec_ok (C := CC81) good81 rfl rfl rfl (by kernel_rfl) Tryz.func81 (c := bodyOf Tryz.f81) (by kernel_rfl) (by kernel_rfl) (Nat.le_of_eq Tryz.ntmps81.symm) dec81 enc81 de81 _ ?_
  intro args H q h
  unfold sem81 at h
  split at h
  · rw [f81_eq] at h; exact h
  · cases h
/-! 37: xsem_run_do -/
noncomputable def CC37 : Ctx := { P := Tryz.prog, own := [2, 4, 6, 9], fns := [(82, specF enc82 (sem82 f82)), (81, specF enc81 (sem81 f81)), (80, specF enc80 (sem80 f80)), (79, specF enc79 (sem79 f79)), (78, specF enc78 (sem78 f78)), (77, specF enc77 (sem77 f77)), (76, specF enc76 (sem76 f76)), (75, specF enc75 (sem75 f75)), (74, specF enc74 (sem74 f74)), (73, specF enc73 (sem73 f73)), (72, specF enc72 (sem72 f72)), (71, specF enc71 (sem71 f71)), (70, specF enc70 (sem70 f70)), (68, specF enc68 (sem68 f68)), (69, specF enc69 (sem69 f69))], nt := 215, nums := [], live := [] }
theorem good37 : Callees Tryz.prog CC37.fns [] CC37.nums := (((((((((((((((Callees.nil Tryz.prog).cons ok69 (specF_nat _ _)).cons ok68 (specF_nat _ _)).cons ok70 (specF_nat _ _)).cons ok71 (specF_nat _ _)).cons ok72 (specF_nat _ _)).cons ok73 (specF_nat _ _)).cons ok74 (specF_nat _ _)).cons ok75 (specF_nat _ _)).cons ok76 (specF_nat _ _)).cons ok77 (specF_nat _ _)).cons ok78 (specF_nat _ _)).cons ok79 (specF_nat _ _)).cons ok80 (specF_nat _ _)).cons ok81 (specF_nat _ _)).cons ok82 (specF_nat _ _)
theorem hN37 : CtxNat CC37 := good37.ctx rfl rfl rfl
def enc37 (r : Unit) : List TV := []
def dec37 : AV → Option (Unit)
  | .tup [] => some ()
  | _ => none
theorem de37 (v : AV) (r : Unit) (h : dec37 v = some r) : v = oneOf (enc37 r) := by
  unfold dec37 at h
  split at h
  · cases h; rfl
  · cases h
abbrev Ty37 := PO → Heap → Option (Unit × Heap)
def sem37 (f : Ty37) : List TV → Heap → Option (Unit × Heap)
  | [.c (Cell.ptr r)], H => f r H
  | _, _ => none
noncomputable def F037 : Ty37 := fun r H => fnA CC37 Tryz.f37.results.toList (bodyOf Tryz.f37) _ [.c (Cell.ptr r)] H (decF dec37)
noncomputable def f37 : Ty37 := hide F037
theorem f37_eq : f37 = F037 := hide_eq _
theorem q37 : ∀ (r : PO) (H : Heap), f37 r H = r.bind fun v118 => (H.get v118.1 (v118.2 + 21)).bind fun v117 => (H.get v118.1 (v118.2 + 21 + 1)).bind fun v116 => (H.get v118.1 (v118.2 + 21 + 1 + 1)).bind fun v115 => (H.get v118.1 (v118.2 + 21 + 1 + 1 + 1)).bind fun v114 => (H.get v118.1 (v118.2 + 21 + 1 + 1 + 1 + 1)).bind fun v113 => (H.get v118.1 (v118.2 + 21 + 1 + 1 + 1 + 1 + 1)).bind fun v112 => (H.get v118.1 (v118.2 + 21 + 1 + 1 + 1 + 1 + 1 + 1)).bind fun v111 => (H.get v118.1 (v118.2 + 21 + 1 + 1 + 1 + 1 + 1 + 1 + 1)).bind fun v110 => (H.get v118.1 (v118.2 + 21 + 1 + 1 + 1 + 1 + 1 + 1 + 1 + 1)).bind fun v109 => (H.get v118.1 (v118.2 + 21 + 1 + 1 + 1 + 1 + 1 + 1 + 1 + 1 + 1)).bind fun v108 => (H.get v118.1 (v118.2 + 21 + 1 + 1 + 1 + 1 + 1 + 1 + 1 + 1 + 1 + 1)).bind fun v107 => (H.get v118.1 (v118.2 + 21 + 1 + 1 + 1 + 1 + 1 + 1 + 1 + 1 + 1 + 1 + 1)).bind fun v106 => (H.get v118.1 (v118.2 + 21 + 1 + 1 + 1 + 1 + 1 + 1 + 1 + 1 + 1 + 1 + 1 + 1)).bind fun v105 => (H.get v118.1 (v118.2 + 21 + 1 + 1 + 1 + 1 + 1 + 1 + 1 + 1 + 1 + 1 + 1 + 1 + 1)).bind fun v104 => (H.get v118.1 (v118.2 + 21 + 1 + 1 + 1 + 1 + 1 + 1 + 1 + 1 + 1 + 1 + 1 + 1 + 1 + 1)).bind fun v103 => (H.get v118.1 (v118.2 + 21 + 1 + 1 + 1 + 1 + 1 + 1 + 1 + 1 + 1 + 1 + 1 + 1 + 1 + 1 + 1)).bind fun v102 => (H.get v118.1 (v118.2 + 21 + 1 + 1 + 1 + 1 + 1 + 1 + 1 + 1 + 1 + 1 + 1 + 1 + 1 + 1 + 1 + 1)).bind fun v101 => (H.get v118.1 (v118.2 + 21 + 1 + 1 + 1 + 1 + 1 + 1 + 1 + 1 + 1 + 1 + 1 + 1 + 1 + 1 + 1 + 1 + 1)).bind fun v100 => (H.get v118.1 (v118.2 + 21 + 1 + 1 + 1 + 1 + 1 + 1 + 1 + 1 + 1 + 1 + 1 + 1 + 1 + 1 + 1 + 1 + 1 + 1)).bind fun v99 => (H.get v118.1 (v118.2 + 21 + 1 + 1 + 1 + 1 + 1 + 1 + 1 + 1 + 1 + 1 + 1 + 1 + 1 + 1 + 1 + 1 + 1 + 1 + 1)).bind fun v98 => (Cell.toInt .i64 v117).bind fun v97 => (Cell.toInt .i64 v116).bind fun v96 => (Cell.toInt .i64 v115).bind fun v95 => (Cell.toInt .i64 v114).bind fun v94 => (Cell.toInt .i64 v113).bind fun v93 => (Cell.toInt .i64 v112).bind fun v92 => (Cell.toInt .i64 v111).bind fun v91 => (Cell.toInt .i64 v110).bind fun v90 => (Cell.toInt .i64 v109).bind fun v89 => (Cell.toInt .i64 v108).bind fun v88 => (Cell.toInt .i64 v107).bind fun v87 => (Cell.toInt .i64 v106).bind fun v86 => (Cell.toInt .i64 v105).bind fun v85 => (Cell.toInt .i64 v104).bind fun v84 => (Cell.toInt .i64 v103).bind fun v83 => (Cell.toInt .i64 v102).bind fun v82 => (Cell.toInt .i64 v101).bind fun v81 => v100.toBool.bind fun v80 => v99.toBool.bind fun v79 => (Cell.toInt .i64 v98).bind fun v78 => bif decide (v97 ≤ 9) then (f69 r v94 v93 v92 v91 v90 v89 v96 H).bind fun v14 => (f69 r v88 v87 v86 v85 v84 v83 v96 v14.2).bind fun v13 => r.bind fun v12 => (v13.2.get v12.1 (v12.2 + 0 + 16)).bind fun v11 => (v13.2.get v12.1 (v12.2 + 0 + 16 + 1)).bind fun v10 => (v13.2.get v12.1 (v12.2 + 0 + 16 + 1 + 1)).bind fun v9 => v11.toBool.bind fun v8 => v10.toBool.bind fun v7 => (Cell.toInt .u64 v9).bind fun v6 => bif same v12.1 H v14.2 then bif same v12.1 v14.2 v13.2 then (f68 v97 v14.1 v13.1 v8 v7 v6 v96 v13.2).bind fun v5 => bif decide (v97 < 8) then (f70 r v94 v93 v92 v91 v90 v89 v96 v5.1.1 v5.2).bind fun v2 => r.bind fun v1 => (v2.2.put v1.1 (v1.2 + 0 + 16) [Cell.bool v5.1.2.1, Cell.bool v5.1.2.2.1, Cell.int .u64 v5.1.2.2.2]).bind fun v0 => some ((), v0) else r.bind fun v4 => (v5.2.put v4.1 (v4.2 + 0 + 16) [Cell.bool v5.1.2.1, Cell.bool v5.1.2.2.1, Cell.int .u64 v5.1.2.2.2]).bind fun v3 => some ((), v3) else none else none else bif decide (v97 ≤ 13) then (f71 r H).bind fun v15 => some ((), v15.2) else bif decide (v97 ≤ 15) then (f72 r H).bind fun v16 => some ((), v16.2) else bif decide (v97 ≤ 19) then (f69 r v94 v93 v92 v91 v90 v89 v96 H).bind fun v28 => r.bind fun v27 => (v28.2.get v27.1 (v27.2 + 0 + 16)).bind fun v26 => (v28.2.get v27.1 (v27.2 + 0 + 16 + 1)).bind fun v25 => (v28.2.get v27.1 (v27.2 + 0 + 16 + 1 + 1)).bind fun v24 => v26.toBool.bind fun v23 => v25.toBool.bind fun v22 => (Cell.toInt .u64 v24).bind fun v21 => bif same v27.1 H v28.2 then (f73 v97 v28.1 v23 v22 v21 v96 v28.2).bind fun v20 => (f70 r v94 v93 v92 v91 v90 v89 v96 v20.1.1 v20.2).bind fun v19 => r.bind fun v18 => (v19.2.put v18.1 (v18.2 + 0 + 16) [Cell.bool v20.1.2.1, Cell.bool v20.1.2.2.1, Cell.int .u64 v20.1.2.2.2]).bind fun v17 => some ((), v17) else none else bif decide (v97 ≤ 25) then (f74 r H).bind fun v29 => some ((), v29.2) else bif decide (v97 ≤ 30) then bif v88 == 1 then r.bind fun v43 => (f75 (some (v43.1, v43.2 + 0)) 1 1 H).bind fun v42 => (f69 r v94 v93 v92 v91 v90 v89 v96 v42.2).bind fun v41 => r.bind fun v40 => (v41.2.get v40.1 (v40.2 + 0 + 16)).bind fun v39 => (v41.2.get v40.1 (v40.2 + 0 + 16 + 1)).bind fun v38 => (v41.2.get v40.1 (v40.2 + 0 + 16 + 1 + 1)).bind fun v37 => v39.toBool.bind fun v36 => v38.toBool.bind fun v35 => (Cell.toInt .u64 v37).bind fun v34 => bif same v40.1 v42.2 v41.2 then (f76 v97 v41.1 (IntKind.i64.wrap v42.1) v36 v35 v34 v96 v41.2).bind fun v33 => (f70 r v94 v93 v92 v91 v90 v89 v96 v33.1.1 v33.2).bind fun v32 => r.bind fun v31 => (v32.2.put v31.1 (v31.2 + 0 + 16) [Cell.bool v33.1.2.1, Cell.bool v33.1.2.2.1, Cell.int .u64 v33.1.2.2.2]).bind fun v30 => some ((), v30) else none else (f69 r v94 v93 v92 v91 v90 v89 v96 H).bind fun v55 => r.bind fun v54 => (v55.2.get v54.1 (v54.2 + 0 + 16)).bind fun v53 => (v55.2.get v54.1 (v54.2 + 0 + 16 + 1)).bind fun v52 => (v55.2.get v54.1 (v54.2 + 0 + 16 + 1 + 1)).bind fun v51 => v53.toBool.bind fun v50 => v52.toBool.bind fun v49 => (Cell.toInt .u64 v51).bind fun v48 => bif same v54.1 H v55.2 then (f76 v97 v55.1 v82 v50 v49 v48 v96 v55.2).bind fun v47 => (f70 r v94 v93 v92 v91 v90 v89 v96 v47.1.1 v47.2).bind fun v46 => r.bind fun v45 => (v46.2.put v45.1 (v45.2 + 0 + 16) [Cell.bool v47.1.2.1, Cell.bool v47.1.2.2.1, Cell.int .u64 v47.1.2.2.2]).bind fun v44 => some ((), v44) else none else bif decide (v97 ≤ 33) then (f77 r H).bind fun v56 => some ((), v56.2) else bif decide (v97 ≤ 35) then (f78 r H).bind fun v57 => some ((), v57.2) else bif decide (v97 ≤ 39) then (f79 r H).bind fun v58 => some ((), v58.2) else bif decide (v97 ≤ 43) then (f80 r H).bind fun v59 => some ((), v59.2) else bif v97 == 46 then r.bind fun v76 => (H.get v76.1 (v76.2 + 43)).bind fun v75 => (Cell.toInt .u64 v75).bind fun v74 => r.bind fun v73 => (H.get v73.1 (v73.2 + 0 + 16)).bind fun v72 => (H.get v73.1 (v73.2 + 0 + 16 + 1)).bind fun v71 => (H.get v73.1 (v73.2 + 0 + 16 + 1 + 1)).bind fun v70 => v72.toBool.bind fun v69 => v71.toBool.bind fun v68 => (Cell.toInt .u64 v70).bind fun v67 => (f81 v69 v68 v67 H).bind fun v66 => bif same v76.1 H v66.2 then r.bind fun v65 => (v66.2.put v65.1 (v65.2 + 0 + 0 + 1) [Cell.int .u64 v74]).bind fun v64 => r.bind fun v63 => (v64.put v63.1 (v63.2 + 0 + 0 + 11) [Cell.int .u64 v66.1]).bind fun v62 => r.bind fun v61 => (v62.put v61.1 (v61.2 + 44) [Cell.int .i64 7]).bind fun v60 => some ((), v60) else none else bif v97 == 47 then (f82 r 4 H).bind fun v77 => some ((), v77.2) else some ((), H) := by intros; rw [f37_eq]; exact (fnA_lpD hN37 ..).trans (by kernel_rfl)
theorem ok37 : FnOk Tryz.prog 37 (specF enc37 (sem37 f37)) := by
  refine spec_ok (C := CC37) good37 rfl rfl rfl (by kernel_rfl) Tryz.func37 (c := bodyOf Tryz.f37) (by kernel_rfl) (by kernel_rfl) (Nat.le_of_eq Tryz.ntmps37.symm) dec37 enc37 de37 _ ?_
  intro args H q h
  unfold sem37 at h
  split at h
  · rw [f37_eq] at h; exact h
  · cases h
