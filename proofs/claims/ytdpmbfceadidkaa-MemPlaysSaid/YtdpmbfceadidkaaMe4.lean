/- Layer 9: memory: what MemPlays reaches. -/
import Derived.Test.YtdpmbfceadidkaaMe3
import Derived.KernelRfl
namespace Go.Proofs.Ytdpmbfceadidkaa
open Go Go.Proofs.Ytdpmbfceadidkaa.Ab
set_option linter.unusedVariables false
set_option linter.unusedSimpArgs false
set_option maxRecDepth 100000
noncomputable section
/-! 23: L09_Same -/
noncomputable def CC23 : Ctx := { P := Try.prog, own := [7], fns := [(20, specF enc20 (sem20 f20)), (29, specF enc29 (sem29 f29))], nt := 118, nums := [], live := [(16, ⟨[0, 1, 9], [], [4], []⟩), (10, ⟨[0, 1, 5, 6, 28, 29, 30, 80, 81], [], [0, 1, 5, 28, 29, 30], []⟩), (5, ⟨[0, 1, 5, 28, 29, 30], [], [0, 1, 4], []⟩)] }
theorem good23 : Callees Try.prog CC23.fns [] CC23.nums := ((Callees.nil Try.prog).cons ok29 (specF_nat _ _)).cons ok20 (specF_nat _ _)
theorem hN23 : CtxNat CC23 := good23.ctx rfl rfl rfl
def enc23 (r : Bool) : List TV := [.c (Cell.bool (r))]
def dec23 : AV → Option (Bool)
  | .c (Cell.bool q0) => some (q0)
  | _ => none
theorem de23 (v : AV) (r : Bool) (h : dec23 v = some r) : v = oneOf (enc23 r) := by
  unfold dec23 at h
  split at h
  · cases h; rfl
  · cases h
abbrev Ty23 := (Option (Nat × Nat)) → (Option (Nat × Nat)) → Heap → Option (Bool × Heap)
def sem23 (f : Ty23) : List TV → Heap → Option (Bool × Heap)
  | [.c (Cell.ptr m), .c (Cell.ptr r)], H => f m r H
  | _, _ => none
noncomputable def f23 : Ty23 := hide fun m r H => fnA CC23 Try.f23.results.toList (bodyOf Try.f23) _ [.c (Cell.ptr m), .c (Cell.ptr r)] H (decF dec23)
theorem f23_eq (m : (Option (Nat × Nat))) (r : (Option (Nat × Nat))) (H : Heap) : f23 m r H = fnA CC23 Try.f23.results.toList (bodyOf Try.f23) _ [.c (Cell.ptr m), .c (Cell.ptr r)] H (decF dec23) := by unfold f23; rw [hide_eq]
theorem f23_run (m : (Option (Nat × Nat))) (r : (Option (Nat × Nat))) (H : Heap) : f23 m r H = fnL CC23 (lpD CC23) Try.f23.results.toList (bodyOf Try.f23) [.c (Cell.ptr m), .c (Cell.ptr r)] H (decF dec23) := (f23_eq ..).trans (fnA_lpD hN23 ..)
def S23_5 (t0 : (Option (Nat × Nat))) (t1 : (Option (Nat × Nat))) (t5 : (Option Sl)) (t28 : (Option Sl)) (t29 : Int) (t30 : Int) (H : Heap) : St := ⟨[(0, .c (Cell.ptr t0)), (1, .c (Cell.ptr t1)), (5, .c (Cell.slice t5)), (28, .c (Cell.slice t28)), (29, .c (Cell.int .i64 t29)), (30, .c (Cell.int .i64 t30))], [], H⟩
noncomputable def D23_5 (n : Nat) (t0 : (Option (Nat × Nat))) (t1 : (Option (Nat × Nat))) (t5 : (Option Sl)) (t28 : (Option Sl)) (t29 : Int) (t30 : Int) (H : Heap) : Option (AExit × St) := loopN (exec CC23 (Code.l (Code.l (Code.r (Code.l (Code.r (Code.r (Code.r (bodyOf Try.f23))))))))) (keepOf CC23.live (Code.l (Code.l (Code.r (Code.l (Code.r (Code.r (Code.r (bodyOf Try.f23))))))))) n (S23_5 t0 t1 t5 t28 t29 t30 H) retD
noncomputable def LL23_5 (t0 : (Option (Nat × Nat))) (t1 : (Option (Nat × Nat))) (t5 : (Option Sl)) (t28 : (Option Sl)) (t29 : Int) (t30 : Int) (H : Heap) : Option (AExit × St) := loopsD CC23 (Code.l (Code.l (Code.r (Code.l (Code.r (Code.r (Code.r (bodyOf Try.f23)))))))) (S23_5 t0 t1 t5 t28 t29 t30 H)
theorem LL23_5_of (m : Nat) (hm : m < 18446744073709551616) (t0 : (Option (Nat × Nat))) (t1 : (Option (Nat × Nat))) (t5 : (Option Sl)) (t28 : (Option Sl)) (t29 : Int) (t30 : Int) (H : Heap) : ∃ n, LL23_5 t0 t1 t5 t28 t29 t30 H = D23_5 (n + m + 1) t0 t1 t5 t28 t29 t30 H := loopsD_of _ _ _ m hm
def S23_10 (t0 : (Option (Nat × Nat))) (t1 : (Option (Nat × Nat))) (t5 : (Option Sl)) (t6 : Int) (t28 : (Option Sl)) (t29 : Int) (t30 : Int) (t80 : Int) (t81 : Int) (H : Heap) : St := ⟨[(0, .c (Cell.ptr t0)), (1, .c (Cell.ptr t1)), (5, .c (Cell.slice t5)), (6, .c (Cell.int .i64 t6)), (28, .c (Cell.slice t28)), (29, .c (Cell.int .i64 t29)), (30, .c (Cell.int .i64 t30)), (80, .c (Cell.int .i64 t80)), (81, .c (Cell.int .i64 t81))], [], H⟩
noncomputable def D23_10 (n : Nat) (t0 : (Option (Nat × Nat))) (t1 : (Option (Nat × Nat))) (t5 : (Option Sl)) (t6 : Int) (t28 : (Option Sl)) (t29 : Int) (t30 : Int) (t80 : Int) (t81 : Int) (H : Heap) : Option (AExit × St) := loopN (exec CC23 (Code.l (Code.l (Code.r (Code.r (Code.r (Code.l (Code.l (Code.r (Code.r (Code.l (Code.l (Code.r (Code.l (Code.r (Code.r (Code.r (bodyOf Try.f23)))))))))))))))))) (keepOf CC23.live (Code.l (Code.l (Code.r (Code.r (Code.r (Code.l (Code.l (Code.r (Code.r (Code.l (Code.l (Code.r (Code.l (Code.r (Code.r (Code.r (bodyOf Try.f23)))))))))))))))))) n (S23_10 t0 t1 t5 t6 t28 t29 t30 t80 t81 H) retD
noncomputable def LL23_10 (t0 : (Option (Nat × Nat))) (t1 : (Option (Nat × Nat))) (t5 : (Option Sl)) (t6 : Int) (t28 : (Option Sl)) (t29 : Int) (t30 : Int) (t80 : Int) (t81 : Int) (H : Heap) : Option (AExit × St) := loopsD CC23 (Code.l (Code.l (Code.r (Code.r (Code.r (Code.l (Code.l (Code.r (Code.r (Code.l (Code.l (Code.r (Code.l (Code.r (Code.r (Code.r (bodyOf Try.f23))))))))))))))))) (S23_10 t0 t1 t5 t6 t28 t29 t30 t80 t81 H)
theorem LL23_10_of (m : Nat) (hm : m < 18446744073709551616) (t0 : (Option (Nat × Nat))) (t1 : (Option (Nat × Nat))) (t5 : (Option Sl)) (t6 : Int) (t28 : (Option Sl)) (t29 : Int) (t30 : Int) (t80 : Int) (t81 : Int) (H : Heap) : ∃ n, LL23_10 t0 t1 t5 t6 t28 t29 t30 t80 t81 H = D23_10 (n + m + 1) t0 t1 t5 t6 t28 t29 t30 t80 t81 H := loopsD_of _ _ _ m hm
def S23_16 (t0 : (Option (Nat × Nat))) (t1 : (Option (Nat × Nat))) (t9 : Int) (H : Heap) : St := ⟨[(0, .c (Cell.ptr t0)), (1, .c (Cell.ptr t1)), (9, .c (Cell.int .i64 t9))], [], H⟩
noncomputable def D23_16 (n : Nat) (t0 : (Option (Nat × Nat))) (t1 : (Option (Nat × Nat))) (t9 : Int) (H : Heap) : Option (AExit × St) := loopN (exec CC23 (Code.l (Code.l (Code.r (Code.l (Code.r (Code.r (Code.r (Code.r (bodyOf Try.f23)))))))))) (keepOf CC23.live (Code.l (Code.l (Code.r (Code.l (Code.r (Code.r (Code.r (Code.r (bodyOf Try.f23)))))))))) n (S23_16 t0 t1 t9 H) retD
noncomputable def LL23_16 (t0 : (Option (Nat × Nat))) (t1 : (Option (Nat × Nat))) (t9 : Int) (H : Heap) : Option (AExit × St) := loopsD CC23 (Code.l (Code.l (Code.r (Code.l (Code.r (Code.r (Code.r (Code.r (bodyOf Try.f23))))))))) (S23_16 t0 t1 t9 H)
theorem LL23_16_of (m : Nat) (hm : m < 18446744073709551616) (t0 : (Option (Nat × Nat))) (t1 : (Option (Nat × Nat))) (t9 : Int) (H : Heap) : ∃ n, LL23_16 t0 t1 t9 H = D23_16 (n + m + 1) t0 t1 t9 H := loopsD_of _ _ _ m hm
def X23_16 (x0 : Bool) (H : Heap) : St := { env := [(4, AV.c (Cell.bool x0))], loc := [], heap := H }
def X23_16a (H : Heap) : St := { env := [], loc := [], heap := H }
def X23_10 (x0 : Option (Nat × Nat)) (x1 : Option (Nat × Nat)) (x2 : Option Sl) (x3 : Option Sl) (x4 : Int) (x5 : Int) (H : Heap) : St := { env := [(0, AV.c (Cell.ptr x0)), (1, AV.c (Cell.ptr x1)), (5, AV.c (Cell.slice x2)), (28, AV.c (Cell.slice x3)), (29, AV.c (Cell.int IntKind.i64 x4)), (30, AV.c (Cell.int IntKind.i64 x5))], loc := [], heap := H }
def X23_5 (x0 : Option (Nat × Nat)) (x1 : Option (Nat × Nat)) (x2 : Bool) (H : Heap) : St := { env := [(0, AV.c (Cell.ptr x0)), (1, AV.c (Cell.ptr x1)), (4, AV.c (Cell.bool x2))], loc := [], heap := H }
def X23_5a (x0 : Option (Nat × Nat)) (x1 : Option (Nat × Nat)) (H : Heap) : St := { env := [(0, AV.c (Cell.ptr x0)), (1, AV.c (Cell.ptr x1))], loc := [], heap := H }
noncomputable def J23_10 : Nat → AExit × St → Option (AExit × St) := fun n p => blockK 2 (blockK 1 (seqK (execL CC23 (lpD CC23) (Code.r (Code.r (Code.r (Code.l (Code.l (Code.r (Code.l (Code.r (Code.r (Code.r (bodyOf Try.f23)))))))))))) (loopK (some { t1 := [0, 1, 5, 28, 29, 30], l1 := [], t2 := [0, 1, 4], l2 := [] }) (loopN (exec CC23 (Code.l (Code.l (Code.r (Code.l (Code.r (Code.r (Code.r (bodyOf Try.f23))))))))) (keepOf CC23.live (Code.l (Code.l (Code.r (Code.l (Code.r (Code.r (Code.r (bodyOf Try.f23))))))))) n) retD))) p.fst p.snd
noncomputable def J23_5 : AExit × St → Option (Bool × Heap) := fun p => blockK 0 (seqK (execL CC23 (lpD CC23) (Code.r (Code.r (Code.r (Code.r (bodyOf Try.f23)))))) (retA CC23 [ResultVar.tmp 4] (decF dec23))) p.fst p.snd
noncomputable def J23_16 : AExit × St → Option (Bool × Heap) := fun p => blockK 4 (seqK (execL CC23 (lpD CC23) (Code.r (Code.r (Code.r (Code.r (Code.r (bodyOf Try.f23))))))) (retA CC23 [ResultVar.tmp 4] (decF dec23))) p.fst p.snd
theorem D23_16_s : ∀ (n : Nat) (t0 t1 : Option (Nat × Nat)) (t9 : Int) (H : Heap), D23_16 (n + 1) t0 t1 t9 H = bif decide (t9 < 9) then bif decide (t9 ≥ 0) then bif decide (t9 < 8) then t1.bind fun v3 => bif inb t9 8 then (H.get v3.fst (v3.snd + 1 + t9.toNat * 1)).bind fun v2 => v2.toSlice.bind fun v1 => (f20 t0 t9 H).bind fun v0 => bif v0.fst != slen v1 then some (AExit.ret, X23_16 false v0.snd) else D23_16 n t0 t1 (IntKind.i64.wrap (t9 + 1)) v0.snd else none else (f20 t0 t9 H).bind fun v4 => bif v4.fst != 0 then some (AExit.ret, X23_16 false v4.snd) else D23_16 n t0 t1 (IntKind.i64.wrap (t9 + 1)) v4.snd else (f20 t0 t9 H).bind fun v5 => bif v5.fst != 0 then some (AExit.ret, X23_16 false v5.snd) else D23_16 n t0 t1 (IntKind.i64.wrap (t9 + 1)) v5.snd else some (AExit.exit 4, X23_16a H) := by intros; exact (loopN_stepD hN23 _ _ _ _).trans (by kernel_rfl)
theorem D23_10_s : ∀ (n : Nat) (t0 t1 : Option (Nat × Nat)) (t5 : Option Sl) (t6 : Int) (t28 : Option Sl) (t29 t30 t80 t81 : Int) (H : Heap), D23_10 (n + 1) t0 t1 t5 t6 t28 t29 t30 t80 t81 H = bif decide (t81 < t80) then t5.bind fun v13 => bif inb t6 v13.len && v13.esz == 4 then (H.get v13.id (v13.off + t6.toNat * 4 + 1)).bind fun v12 => v12.toSlice.bind fun v11 => v11.bind fun v10 => bif inb t81 v10.len && v10.esz == 1 then (H.get v10.id (v10.off + t81.toNat * 1)).bind fun v9 => (Cell.toInt IntKind.u8 v9).bind fun v8 => v11.bind fun v7 => bif inb t81 v7.len && v7.esz == 1 then (H.put v7.id (v7.off + t81.toNat * 1) [Cell.int IntKind.u8 (bxor IntKind.u8 v8 9)]).bind fun v6 => D23_10 n t0 t1 t5 t6 t28 t29 t30 t80 (IntKind.i64.wrap (t81 + 1)) v6 else none else none else none else some (AExit.exit 2, X23_10 t0 t1 t5 t28 t29 t30 H) := by intros; exact (loopN_stepD hN23 _ _ _ _).trans (by kernel_rfl)
theorem D23_5_s : ∀ (n : Nat) (t0 t1 : Option (Nat × Nat)) (t5 t28 : Option Sl) (t29 t30 : Int) (H : Heap), D23_5 (n + 1) t0 t1 t5 t28 t29 t30 H = bif decide (t30 < t29) then t28.bind fun v41 => bif inb t30 v41.len && v41.esz == 5 then (H.get v41.id (v41.off + t30.toNat * 5)).bind fun v40 => (H.get v41.id (v41.off + t30.toNat * 5 + 1)).bind fun v39 => (H.get v41.id (v41.off + t30.toNat * 5 + 1 + 1)).bind fun v38 => (H.get v41.id (v41.off + t30.toNat * 5 + 1 + 1 + 1)).bind fun v37 => (H.get v41.id (v41.off + t30.toNat * 5 + 1 + 1 + 1 + 1)).bind fun v36 => (Cell.toInt IntKind.u64 v40).bind fun v35 => v39.toSlice.bind fun v34 => v38.toBool.bind fun v33 => v37.toBool.bind fun v32 => (Cell.toInt IntKind.i64 v36).bind fun v31 => t5.bind fun v30 => bif inb t30 v30.len && v30.esz == 4 then (H.get v30.id (v30.off + t30.toNat * 4 + 0)).bind fun v29 => (Cell.toInt IntKind.u64 v29).bind fun v28 => bif v28 != v35 then some (AExit.ret, X23_5 t0 t1 false H) else t5.bind fun v27 => bif inb t30 v27.len && v27.esz == 4 then (H.get v27.id (v27.off + t30.toNat * 4 + 2)).bind fun v26 => v26.toBool.bind fun v25 => bif !v25 == v33 then some (AExit.ret, X23_5 t0 t1 false H) else t5.bind fun v24 => bif inb t30 v24.len && v24.esz == 4 then (H.get v24.id (v24.off + t30.toNat * 4 + 3)).bind fun v23 => v23.toBool.bind fun v22 => bif !v22 == v32 then some (AExit.ret, X23_5 t0 t1 false H) else t5.bind fun v21 => bif inb t30 v21.len && v21.esz == 4 then (H.get v21.id (v21.off + t30.toNat * 4 + 1)).bind fun v20 => v20.toSlice.bind fun v19 => (H.str v19).bind fun v18 => (H.str v34).bind fun v17 => bif !strEq v18 v17 then some (AExit.ret, X23_5 t0 t1 false H) else t5.bind fun v16 => bif inb t30 v16.len && v16.esz == 4 then (H.get v16.id (v16.off + t30.toNat * 4 + 1)).bind fun v15 => v15.toSlice.bind fun v14 => (LL23_10 t0 t1 t5 t30 t28 t29 t30 (slen v14) 0 H).bind (J23_10 n) else none else none else none else none else none else none else some (AExit.exit 0, X23_5a t0 t1 H) := by intros; exact (loopN_stepD hN23 _ _ _ _).trans (by kernel_rfl)
theorem J23_10_0 : ∀ (n : Nat) (x0 x1 : Option (Nat × Nat)) (x2 x3 : Option Sl) (x4 x5 : Int) (H : Heap), J23_10 n (AExit.exit 2, X23_10 x0 x1 x2 x3 x4 x5 H) = D23_5 n x0 x1 x2 x3 x4 (IntKind.i64.wrap (x5 + 1)) H := by intros; kernel_rfl
theorem q23 : ∀ (m r : Option (Nat × Nat)) (H : Heap), f23 m r H = (f29 m H).bind fun v48 => bif m.isNone then some (false, v48.snd) else r.bind fun v47 => (v48.snd.get v47.fst (v47.snd + 0)).bind fun v46 => v46.toSlice.bind fun v45 => bif slen v48.fst != slen v45 then some (false, v48.snd) else r.bind fun v44 => (v48.snd.get v44.fst (v44.snd + 0)).bind fun v43 => v43.toSlice.bind fun v42 => (LL23_5 m r v48.fst v42 (slen v42) 0 v48.snd).bind J23_5 := by intros; exact (f23_run ..).trans (by kernel_rfl)
theorem J23_5_0 : ∀ (x0 x1 : Option (Nat × Nat)) (x2 : Bool) (H : Heap), J23_5 (AExit.ret, X23_5 x0 x1 x2 H) = some (x2, H) := by intros; kernel_rfl
theorem J23_5_1 : ∀ (x0 x1 : Option (Nat × Nat)) (H : Heap), J23_5 (AExit.exit 0, X23_5a x0 x1 H) = (LL23_16 x0 x1 (-1) H).bind J23_16 := by intros; kernel_rfl
theorem J23_16_0 : ∀ (x0 : Bool) (H : Heap), J23_16 (AExit.ret, X23_16 x0 H) = some (x0, H) := by intros; kernel_rfl
theorem J23_16_1 : ∀ (H : Heap), J23_16 (AExit.exit 4, X23_16a H) = some (true, H) := by intros; kernel_rfl
theorem ok23 : FnOk Try.prog 23 (specF enc23 (sem23 f23)) := by
  refine spec_ok (C := CC23) good23 rfl rfl rfl (by kernel_rfl) Try.func23 (c := bodyOf Try.f23) (by kernel_rfl) (by kernel_rfl) (Nat.le_of_eq Try.ntmps23.symm) dec23 enc23 de23 _ ?_
  intro args H q h
  unfold sem23 at h
  split at h
  · rw [← f23_eq]; exact h
  · cases h
/-! 25: R9_Mem_Copy -/
noncomputable def CC25 : Ctx := { P := Try.prog, own := [], fns := [(13, specF enc13 (sem13 f13))], nt := 53, nums := [], live := [(8, ⟨[0, 3, 35], [], [3], []⟩), (3, ⟨[0, 3, 15, 16], [], [0, 3], []⟩)] }
theorem good25 : Callees Try.prog CC25.fns [] CC25.nums := (Callees.nil Try.prog).cons ok13 (specF_nat _ _)
theorem hN25 : CtxNat CC25 := good25.ctx rfl rfl rfl
def enc25 (r : (Option (Nat × Nat))) : List TV := [.c (Cell.ptr (r))]
def dec25 : AV → Option ((Option (Nat × Nat)))
  | .c (Cell.ptr q0) => some (q0)
  | _ => none
theorem de25 (v : AV) (r : (Option (Nat × Nat))) (h : dec25 v = some r) : v = oneOf (enc25 r) := by
  unfold dec25 at h
  split at h
  · cases h; rfl
  · cases h
abbrev Ty25 := (Option (Nat × Nat)) → Heap → Option (((Option (Nat × Nat))) × Heap)
def sem25 (f : Ty25) : List TV → Heap → Option (((Option (Nat × Nat))) × Heap)
  | [.c (Cell.ptr m)], H => f m H
  | _, _ => none
noncomputable def f25 : Ty25 := hide fun m H => fnA CC25 Try.f25.results.toList (bodyOf Try.f25) _ [.c (Cell.ptr m)] H (decF dec25)
theorem f25_eq (m : (Option (Nat × Nat))) (H : Heap) : f25 m H = fnA CC25 Try.f25.results.toList (bodyOf Try.f25) _ [.c (Cell.ptr m)] H (decF dec25) := by unfold f25; rw [hide_eq]
theorem f25_run (m : (Option (Nat × Nat))) (H : Heap) : f25 m H = fnL CC25 (lpD CC25) Try.f25.results.toList (bodyOf Try.f25) [.c (Cell.ptr m)] H (decF dec25) := (f25_eq ..).trans (fnA_lpD hN25 ..)
def S25_3 (t0 : (Option (Nat × Nat))) (t3 : (Option (Nat × Nat))) (t15 : Int) (t16 : Int) (H : Heap) : St := ⟨[(0, .c (Cell.ptr t0)), (3, .c (Cell.ptr t3)), (15, .c (Cell.int .i64 t15)), (16, .c (Cell.int .i64 t16))], [], H⟩
noncomputable def D25_3 (n : Nat) (t0 : (Option (Nat × Nat))) (t3 : (Option (Nat × Nat))) (t15 : Int) (t16 : Int) (H : Heap) : Option (AExit × St) := loopN (exec CC25 (Code.l (Code.l (Code.r (Code.l (Code.r (Code.r (bodyOf Try.f25)))))))) (keepOf CC25.live (Code.l (Code.l (Code.r (Code.l (Code.r (Code.r (bodyOf Try.f25)))))))) n (S25_3 t0 t3 t15 t16 H) retD
noncomputable def LL25_3 (t0 : (Option (Nat × Nat))) (t3 : (Option (Nat × Nat))) (t15 : Int) (t16 : Int) (H : Heap) : Option (AExit × St) := loopsD CC25 (Code.l (Code.l (Code.r (Code.l (Code.r (Code.r (bodyOf Try.f25))))))) (S25_3 t0 t3 t15 t16 H)
theorem LL25_3_of (m : Nat) (hm : m < 18446744073709551616) (t0 : (Option (Nat × Nat))) (t3 : (Option (Nat × Nat))) (t15 : Int) (t16 : Int) (H : Heap) : ∃ n, LL25_3 t0 t3 t15 t16 H = D25_3 (n + m + 1) t0 t3 t15 t16 H := loopsD_of _ _ _ m hm
def S25_8 (t0 : (Option (Nat × Nat))) (t3 : (Option (Nat × Nat))) (t35 : Int) (H : Heap) : St := ⟨[(0, .c (Cell.ptr t0)), (3, .c (Cell.ptr t3)), (35, .c (Cell.int .i64 t35))], [], H⟩
noncomputable def D25_8 (n : Nat) (t0 : (Option (Nat × Nat))) (t3 : (Option (Nat × Nat))) (t35 : Int) (H : Heap) : Option (AExit × St) := loopN (exec CC25 (Code.l (Code.l (Code.r (Code.l (Code.r (Code.r (Code.r (bodyOf Try.f25))))))))) (keepOf CC25.live (Code.l (Code.l (Code.r (Code.l (Code.r (Code.r (Code.r (bodyOf Try.f25))))))))) n (S25_8 t0 t3 t35 H) retD
noncomputable def LL25_8 (t0 : (Option (Nat × Nat))) (t3 : (Option (Nat × Nat))) (t35 : Int) (H : Heap) : Option (AExit × St) := loopsD CC25 (Code.l (Code.l (Code.r (Code.l (Code.r (Code.r (Code.r (bodyOf Try.f25)))))))) (S25_8 t0 t3 t35 H)
theorem LL25_8_of (m : Nat) (hm : m < 18446744073709551616) (t0 : (Option (Nat × Nat))) (t3 : (Option (Nat × Nat))) (t35 : Int) (H : Heap) : ∃ n, LL25_8 t0 t3 t35 H = D25_8 (n + m + 1) t0 t3 t35 H := loopsD_of _ _ _ m hm
def X25_8 (x0 : Option (Nat × Nat)) (H : Heap) : St := { env := [(3, AV.c (Cell.ptr x0))], loc := [], heap := H }
def X25_3 (x0 : Option (Nat × Nat)) (x1 : Option (Nat × Nat)) (H : Heap) : St := { env := [(0, AV.c (Cell.ptr x0)), (3, AV.c (Cell.ptr x1))], loc := [], heap := H }
noncomputable def J25_3 : AExit × St → Option (Option (Nat × Nat) × Heap) := fun p => blockK 0 (seqK (execL CC25 (lpD CC25) (Code.r (Code.r (Code.r (bodyOf Try.f25))))) (retA CC25 [ResultVar.tmp 2] (decF dec25))) p.fst p.snd
noncomputable def J25_8 : AExit × St → Option (Option (Nat × Nat) × Heap) := fun p => blockK 2 (seqK (execL CC25 (lpD CC25) (Code.r (Code.r (Code.r (Code.r (bodyOf Try.f25)))))) (retA CC25 [ResultVar.tmp 2] (decF dec25))) p.fst p.snd
theorem D25_8_s : ∀ (n : Nat) (t0 t3 : Option (Nat × Nat)) (t35 : Int) (H : Heap), D25_8 (n + 1) t0 t3 t35 H = bif decide (t35 < 8) then t0.bind fun v5 => bif inb t35 8 then ((H ++ [Blk.row [] false]).get v5.fst (v5.snd + 1 + t35.toNat * 1)).bind fun v4 => v4.toSlice.bind fun v3 => ((H ++ [Blk.row [] false]).append 2 32 (some { id := List.length H, off := 0, len := 0, cap := 0, esz := 2 }) v3).bind fun v2 => t3.bind fun v1 => bif inb t35 8 then (v2.snd.put v1.fst (v1.snd + 1 + t35.toNat * 1) [Cell.slice v2.fst]).bind fun v0 => D25_8 n t0 t3 (IntKind.i64.wrap (t35 + 1)) v0 else none else none else some (AExit.exit 2, X25_8 t3 H) := by intros; exact (loopN_stepD hN25 _ _ _ _).trans (by kernel_rfl)
theorem D25_3_s : ∀ (n : Nat) (t0 t3 : Option (Nat × Nat)) (t15 t16 : Int) (H : Heap), D25_3 (n + 1) t0 t3 t15 t16 H = bif decide (t16 < t15) then t3.bind fun v16 => (H.get v16.fst (v16.snd + 0)).bind fun v15 => v15.toSlice.bind fun v14 => t0.bind fun v13 => (H.get v13.fst (v13.snd + 0)).bind fun v12 => v12.toSlice.bind fun v11 => v11.bind fun v10 => bif inb t16 v10.len && v10.esz == 5 then (H.get v10.id (v10.off + t16.toNat * 5 + 4)).bind fun v9 => (Cell.toInt IntKind.i64 v9).bind fun v8 => v14.bind fun v7 => bif inb t16 v7.len && v7.esz == 5 then (H.put v7.id (v7.off + t16.toNat * 5 + 4) [Cell.int IntKind.i64 v8]).bind fun v6 => D25_3 n t0 t3 t15 (IntKind.i64.wrap (t16 + 1)) v6 else none else none else some (AExit.exit 0, X25_3 t0 t3 H) := by intros; exact (loopN_stepD hN25 _ _ _ _).trans (by kernel_rfl)
theorem q25 : ∀ (m : Option (Nat × Nat)) (H : Heap), f25 m H = m.bind fun v23 => (H.get v23.fst (v23.snd + 0)).bind fun v22 => v22.toSlice.bind fun v21 => (f13 v21 H).bind fun v20 => m.bind fun v19 => (v20.snd.get v19.fst (v19.snd + 0)).bind fun v18 => v18.toSlice.bind fun v17 => (LL25_3 m v20.fst (slen v17) 0 v20.snd).bind J25_3 := by intros; exact (f25_run ..).trans (by kernel_rfl)
theorem J25_3_0 : ∀ (x0 x1 : Option (Nat × Nat)) (H : Heap), J25_3 (AExit.exit 0, X25_3 x0 x1 H) = (LL25_8 x0 x1 0 H).bind J25_8 := by intros; kernel_rfl
theorem J25_8_0 : ∀ (x0 : Option (Nat × Nat)) (H : Heap), J25_8 (AExit.exit 2, X25_8 x0 H) = some (x0, H) := by intros; kernel_rfl
theorem ok25 : FnOk Try.prog 25 (specF enc25 (sem25 f25)) := by
  refine spec_ok (C := CC25) good25 rfl rfl rfl (by kernel_rfl) Try.func25 (c := bodyOf Try.f25) (by kernel_rfl) (by kernel_rfl) (Nat.le_of_eq Try.ntmps25.symm) dec25 enc25 de25 _ ?_
  intro args H q h
  unfold sem25 at h
  split at h
  · rw [← f25_eq]; exact h
  · cases h
/-! 26: R9_Mem_Same -/
noncomputable def CC26 : Ctx := { P := Try.prog, own := [6, 7], fns := [], nt := 65, nums := [], live := [(4, ⟨[1, 22, 23, 24], [], [4], []⟩)] }
theorem good26 : Callees Try.prog CC26.fns [] CC26.nums := Callees.nil Try.prog
theorem hN26 : CtxNat CC26 := good26.ctx rfl rfl rfl
def enc26 (r : Bool) : List TV := [.c (Cell.bool (r))]
def dec26 : AV → Option (Bool)
  | .c (Cell.bool q0) => some (q0)
  | _ => none
theorem de26 (v : AV) (r : Bool) (h : dec26 v = some r) : v = oneOf (enc26 r) := by
  unfold dec26 at h
  split at h
  · cases h; rfl
  · cases h
abbrev Ty26 := (Option (Nat × Nat)) → (Option (Nat × Nat)) → Heap → Option (Bool × Heap)
def sem26 (f : Ty26) : List TV → Heap → Option (Bool × Heap)
  | [.c (Cell.ptr m), .c (Cell.ptr n)], H => f m n H
  | _, _ => none
noncomputable def f26 : Ty26 := hide fun m n H => fnA CC26 Try.f26.results.toList (bodyOf Try.f26) _ [.c (Cell.ptr m), .c (Cell.ptr n)] H (decF dec26)
theorem f26_eq (m : (Option (Nat × Nat))) (n : (Option (Nat × Nat))) (H : Heap) : f26 m n H = fnA CC26 Try.f26.results.toList (bodyOf Try.f26) _ [.c (Cell.ptr m), .c (Cell.ptr n)] H (decF dec26) := by unfold f26; rw [hide_eq]
theorem f26_run (m : (Option (Nat × Nat))) (n : (Option (Nat × Nat))) (H : Heap) : f26 m n H = fnL CC26 (lpD CC26) Try.f26.results.toList (bodyOf Try.f26) [.c (Cell.ptr m), .c (Cell.ptr n)] H (decF dec26) := (f26_eq ..).trans (fnA_lpD hN26 ..)
def S26_4 (t1 : (Option (Nat × Nat))) (t22 : (Option Sl)) (t23 : Int) (t24 : Int) (H : Heap) : St := ⟨[(1, .c (Cell.ptr t1)), (22, .c (Cell.slice t22)), (23, .c (Cell.int .i64 t23)), (24, .c (Cell.int .i64 t24))], [], H⟩
noncomputable def D26_4 (n : Nat) (t1 : (Option (Nat × Nat))) (t22 : (Option Sl)) (t23 : Int) (t24 : Int) (H : Heap) : Option (AExit × St) := loopN (exec CC26 (Code.l (Code.l (Code.r (Code.l (Code.r (Code.r (bodyOf Try.f26)))))))) (keepOf CC26.live (Code.l (Code.l (Code.r (Code.l (Code.r (Code.r (bodyOf Try.f26)))))))) n (S26_4 t1 t22 t23 t24 H) retD
noncomputable def LL26_4 (t1 : (Option (Nat × Nat))) (t22 : (Option Sl)) (t23 : Int) (t24 : Int) (H : Heap) : Option (AExit × St) := loopsD CC26 (Code.l (Code.l (Code.r (Code.l (Code.r (Code.r (bodyOf Try.f26))))))) (S26_4 t1 t22 t23 t24 H)
theorem LL26_4_of (m : Nat) (hm : m < 18446744073709551616) (t1 : (Option (Nat × Nat))) (t22 : (Option Sl)) (t23 : Int) (t24 : Int) (H : Heap) : ∃ n, LL26_4 t1 t22 t23 t24 H = D26_4 (n + m + 1) t1 t22 t23 t24 H := loopsD_of _ _ _ m hm
def X26_4 (x0 : Bool) (H : Heap) : St := { env := [(4, AV.c (Cell.bool x0))], loc := [], heap := H }
def X26_4a (H : Heap) : St := { env := [], loc := [], heap := H }
noncomputable def J26_4 : AExit × St → Option (Bool × Heap) := fun p => blockK 0 (seqK (execL CC26 (lpD CC26) (Code.r (Code.r (Code.r (bodyOf Try.f26))))) (retA CC26 [ResultVar.tmp 4] (decF dec26))) p.fst p.snd
theorem D26_4_s : ∀ (n : Nat) (t1 : Option (Nat × Nat)) (t22 : Option Sl) (t23 t24 : Int) (H : Heap), D26_4 (n + 1) t1 t22 t23 t24 H = bif decide (t24 < t23) then t22.bind fun v26 => bif inb t24 v26.len && v26.esz == 5 then (H.get v26.id (v26.off + t24.toNat * 5)).bind fun v25 => (H.get v26.id (v26.off + t24.toNat * 5 + 1)).bind fun v24 => (H.get v26.id (v26.off + t24.toNat * 5 + 1 + 1)).bind fun v23 => (H.get v26.id (v26.off + t24.toNat * 5 + 1 + 1 + 1)).bind fun v22 => (H.get v26.id (v26.off + t24.toNat * 5 + 1 + 1 + 1 + 1)).bind fun v21 => (Cell.toInt IntKind.u64 v25).bind fun v20 => v24.toSlice.bind fun v19 => v23.toBool.bind fun v18 => v22.toBool.bind fun v17 => (Cell.toInt IntKind.i64 v21).bind fun v16 => t1.bind fun v15 => (H.get v15.fst (v15.snd + 0)).bind fun v14 => v14.toSlice.bind fun v13 => v13.bind fun v12 => bif inb t24 v12.len && v12.esz == 5 then (H.get v12.id (v12.off + t24.toNat * 5)).bind fun v11 => (H.get v12.id (v12.off + t24.toNat * 5 + 1)).bind fun v10 => (H.get v12.id (v12.off + t24.toNat * 5 + 1 + 1)).bind fun v9 => (H.get v12.id (v12.off + t24.toNat * 5 + 1 + 1 + 1)).bind fun v8 => (H.get v12.id (v12.off + t24.toNat * 5 + 1 + 1 + 1 + 1)).bind fun v7 => (Cell.toInt IntKind.u64 v11).bind fun v6 => v10.toSlice.bind fun v5 => v9.toBool.bind fun v4 => v8.toBool.bind fun v3 => (Cell.toInt IntKind.i64 v7).bind fun v2 => bif v20 != v6 then some (AExit.ret, X26_4 false H) else bif !v18 == v4 then some (AExit.ret, X26_4 false H) else bif !v17 == v3 then some (AExit.ret, X26_4 false H) else (H.str v19).bind fun v1 => (H.str v5).bind fun v0 => bif !strEq v1 v0 then some (AExit.ret, X26_4 false H) else D26_4 n t1 t22 t23 (IntKind.i64.wrap (t24 + 1)) H else none else none else some (AExit.exit 0, X26_4a H) := by intros; exact (loopN_stepD hN26 _ _ _ _).trans (by kernel_rfl)
theorem q26 : ∀ (m n : Option (Nat × Nat)) (H : Heap), f26 m n H = m.bind fun v35 => (H.get v35.fst (v35.snd + 0)).bind fun v34 => v34.toSlice.bind fun v33 => n.bind fun v32 => (H.get v32.fst (v32.snd + 0)).bind fun v31 => v31.toSlice.bind fun v30 => bif slen v33 != slen v30 then some (false, H) else m.bind fun v29 => (H.get v29.fst (v29.snd + 0)).bind fun v28 => v28.toSlice.bind fun v27 => (LL26_4 n v27 (slen v27) 0 H).bind J26_4 := by intros; exact (f26_run ..).trans (by kernel_rfl)
theorem J26_4_0 : ∀ (x0 : Bool) (H : Heap), J26_4 (AExit.ret, X26_4 x0 H) = some (x0, H) := by intros; kernel_rfl
theorem J26_4_1 : ∀ (H : Heap), J26_4 (AExit.exit 0, X26_4a H) = some (true, H) := by intros; kernel_rfl
theorem ok26 : FnOk Try.prog 26 (specF enc26 (sem26 f26)) := by
  refine spec_ok (C := CC26) good26 rfl rfl rfl (by kernel_rfl) Try.func26 (c := bodyOf Try.f26) (by kernel_rfl) (by kernel_rfl) (Nat.le_of_eq Try.ntmps26.symm) dec26 enc26 de26 _ ?_
  intro args H q h
  unfold sem26 at h
  split at h
  · rw [← f26_eq]; exact h
  · cases h
/-! 6: L09_MemPlays -/
noncomputable def CC6 : Ctx := { P := Try.prog, own := [13], fns := [(11, F11), (26, specF enc26 (sem26 f26)), (22, specF enc22 (sem22 f22)), (19, specF enc19 (sem19 f19)), (25, specF enc25 (sem25 f25)), (24, specF enc24 (sem24 f24)), (23, specF enc23 (sem23 f23)), (13, specF enc13 (sem13 f13)), (9, specF enc9 (sem9 f9)), (8, specF enc8 (sem8 f8))], nt := 86, nums := [11], live := [(7, ⟨[2, 7, 8, 9, 10, 11, 24, 25, 26], [], [9], []⟩)] }
theorem good6 : Callees Try.prog CC6.fns [] CC6.nums := ((((((((((Callees.nil Try.prog).cons ok8 (specF_nat _ _)).cons ok9 (specF_nat _ _)).cons ok13 (specF_nat _ _)).cons ok23 (specF_nat _ _)).cons ok24 (specF_nat _ _)).cons ok25 (specF_nat _ _)).cons ok19 (specF_nat _ _)).cons ok22 (specF_nat _ _)).cons ok26 (specF_nat _ _)).cons_num ok11 F11_num
theorem hN6 : CtxNat CC6 := good6.ctx rfl rfl rfl
def enc6 (r : Bool) : List TV := [.c (Cell.bool (r))]
def dec6 : AV → Option (Bool)
  | .c (Cell.bool q0) => some (q0)
  | _ => none
theorem de6 (v : AV) (r : Bool) (h : dec6 v = some r) : v = oneOf (enc6 r) := by
  unfold dec6 at h
  split at h
  · cases h; rfl
  · cases h
abbrev Ty6 := (Option Sl) → (Option Sl) → Int → Heap → Option (Bool × Heap)
def sem6 (f : Ty6) : List TV → Heap → Option (Bool × Heap)
  | [.c (Cell.slice l), .c (Cell.slice calls), .c (Cell.int .i64 cut)], H => f l calls cut H
  | _, _ => none
noncomputable def f6 : Ty6 := hide fun l calls cut H => fnA CC6 Try.f6.results.toList (bodyOf Try.f6) _ [.c (Cell.slice l), .c (Cell.slice calls), .c (Cell.int .i64 cut)] H (decF dec6)
theorem f6_eq (l : (Option Sl)) (calls : (Option Sl)) (cut : Int) (H : Heap) : f6 l calls cut H = fnA CC6 Try.f6.results.toList (bodyOf Try.f6) _ [.c (Cell.slice l), .c (Cell.slice calls), .c (Cell.int .i64 cut)] H (decF dec6) := by unfold f6; rw [hide_eq]
theorem f6_run (l : (Option Sl)) (calls : (Option Sl)) (cut : Int) (H : Heap) : f6 l calls cut H = fnL CC6 (lpD CC6) Try.f6.results.toList (bodyOf Try.f6) [.c (Cell.slice l), .c (Cell.slice calls), .c (Cell.int .i64 cut)] H (decF dec6) := (f6_eq ..).trans (fnA_lpD hN6 ..)
def S6_7 (t2 : Int) (t7 : (Option (Nat × Nat))) (t8 : (Option (Nat × Nat))) (t9 : Bool) (t10 : (Option (Nat × Nat))) (t11 : (Option (Nat × Nat))) (t24 : (Option Sl)) (t25 : Int) (t26 : Int) (H : Heap) : St := ⟨[(2, .c (Cell.int .i64 t2)), (7, .c (Cell.ptr t7)), (8, .c (Cell.ptr t8)), (9, .c (Cell.bool t9)), (10, .c (Cell.ptr t10)), (11, .c (Cell.ptr t11)), (24, .c (Cell.slice t24)), (25, .c (Cell.int .i64 t25)), (26, .c (Cell.int .i64 t26))], [], H⟩
noncomputable def D6_7 (n : Nat) (t2 : Int) (t7 : (Option (Nat × Nat))) (t8 : (Option (Nat × Nat))) (t9 : Bool) (t10 : (Option (Nat × Nat))) (t11 : (Option (Nat × Nat))) (t24 : (Option Sl)) (t25 : Int) (t26 : Int) (H : Heap) : Option (AExit × St) := loopN (exec CC6 (Code.l (Code.l (Code.r (Code.l (Code.r (Code.r (Code.r (Code.r (Code.r (Code.r (bodyOf Try.f6)))))))))))) (keepOf CC6.live (Code.l (Code.l (Code.r (Code.l (Code.r (Code.r (Code.r (Code.r (Code.r (Code.r (bodyOf Try.f6)))))))))))) n (S6_7 t2 t7 t8 t9 t10 t11 t24 t25 t26 H) retD
noncomputable def LL6_7 (t2 : Int) (t7 : (Option (Nat × Nat))) (t8 : (Option (Nat × Nat))) (t9 : Bool) (t10 : (Option (Nat × Nat))) (t11 : (Option (Nat × Nat))) (t24 : (Option Sl)) (t25 : Int) (t26 : Int) (H : Heap) : Option (AExit × St) := loopsD CC6 (Code.l (Code.l (Code.r (Code.l (Code.r (Code.r (Code.r (Code.r (Code.r (Code.r (bodyOf Try.f6))))))))))) (S6_7 t2 t7 t8 t9 t10 t11 t24 t25 t26 H)
theorem LL6_7_of (m : Nat) (hm : m < 18446744073709551616) (t2 : Int) (t7 : (Option (Nat × Nat))) (t8 : (Option (Nat × Nat))) (t9 : Bool) (t10 : (Option (Nat × Nat))) (t11 : (Option (Nat × Nat))) (t24 : (Option Sl)) (t25 : Int) (t26 : Int) (H : Heap) : ∃ n, LL6_7 t2 t7 t8 t9 t10 t11 t24 t25 t26 H = D6_7 (n + m + 1) t2 t7 t8 t9 t10 t11 t24 t25 t26 H := loopsD_of _ _ _ m hm
def X6_7 (x0 : Bool) (H : Heap) : St := { env := [(9, AV.c (Cell.bool x0))], loc := [], heap := H }
noncomputable def J6_7 : AExit × St → Option (Bool × Heap) := fun p => blockK 0 (seqK (execL CC6 (lpD CC6) (Code.r (Code.r (Code.r (Code.r (Code.r (Code.r (Code.r (bodyOf Try.f6))))))))) (retA CC6 [ResultVar.tmp 6] (decF dec6))) p.fst p.snd
theorem D6_7_s : ∀ (n : Nat) (t2 : Int) (t7 t8 : Option (Nat × Nat)) (t9 : Bool) (t10 t11 : Option (Nat × Nat)) (t24 : Option Sl) (t25 t26 : Int) (H : Heap), D6_7 (n + 1) t2 t7 t8 t9 t10 t11 t24 t25 t26 H = bif decide (t26 < t25) then t24.bind fun v34 => bif inb t26 v34.len && v34.esz == 7 then (H.get v34.id (v34.off + t26.toNat * 7)).bind fun v33 => (H.get v34.id (v34.off + t26.toNat * 7 + 1)).bind fun v32 => (H.get v34.id (v34.off + t26.toNat * 7 + 1 + 1)).bind fun v31 => (H.get v34.id (v34.off + t26.toNat * 7 + 1 + 1 + 1)).bind fun v30 => (H.get v34.id (v34.off + t26.toNat * 7 + 1 + 1 + 1 + 1)).bind fun v29 => (H.get v34.id (v34.off + t26.toNat * 7 + 1 + 1 + 1 + 1 + 1)).bind fun v28 => (H.get v34.id (v34.off + t26.toNat * 7 + 1 + 1 + 1 + 1 + 1 + 1)).bind fun v27 => (Cell.toInt IntKind.i64 v33).bind fun v26 => (Cell.toInt IntKind.i64 v32).bind fun v25 => v31.toBool.bind fun v24 => (Cell.toInt IntKind.i64 v30).bind fun v23 => (Cell.toInt IntKind.u64 v29).bind fun v22 => (Cell.toInt IntKind.i64 v28).bind fun v21 => (Cell.toInt IntKind.u64 v27).bind fun v20 => bif decide (t26 ≥ 50) then some (AExit.exit 0, X6_7 t9 H) else bif !t9 then some (AExit.exit 0, X6_7 t9 H) else bif t26 == t2 then (f24 t7 H).bind fun v10 => (f25 t8 v10.snd).bind fun v9 => (f19 t7 t8 v26 v25 v24 v23 v22 v21 v20 v9.snd).bind fun v8 => bif v8.fst then (f23 t7 t8 v8.snd).bind fun v7 => bif v7.fst then bif !v10.fst.isNone then bif t26.tmod 2 == 0 then (f23 v10.fst v9.fst v7.snd).bind fun v2 => bif v2.fst then (f22 t7 v10.fst v2.snd).bind fun v1 => (f26 t8 v9.fst v1.snd).bind fun v0 => D6_7 n t2 t7 t8 (v1.fst == v0.fst) v10.fst v9.fst t24 t25 (IntKind.i64.wrap (t26 + 1)) v0.snd else D6_7 n t2 t7 t8 false v10.fst v9.fst t24 t25 (IntKind.i64.wrap (t26 + 1)) v2.snd else (f19 v10.fst v9.fst v26 v25 v24 v23 v22 v21 v20 v7.snd).bind fun v6 => bif v6.fst then (f23 v10.fst v9.fst v6.snd).bind fun v5 => bif v5.fst then (f22 t7 v10.fst v5.snd).bind fun v4 => (f26 t8 v9.fst v4.snd).bind fun v3 => D6_7 n t2 t7 t8 (v4.fst == v3.fst) v10.fst v9.fst t24 t25 (IntKind.i64.wrap (t26 + 1)) v3.snd else D6_7 n t2 t7 t8 false v10.fst v9.fst t24 t25 (IntKind.i64.wrap (t26 + 1)) v5.snd else D6_7 n t2 t7 t8 false v10.fst v9.fst t24 t25 (IntKind.i64.wrap (t26 + 1)) v6.snd else D6_7 n t2 t7 t8 v7.fst v10.fst v9.fst t24 t25 (IntKind.i64.wrap (t26 + 1)) v7.snd else D6_7 n t2 t7 t8 v7.fst v10.fst v9.fst t24 t25 (IntKind.i64.wrap (t26 + 1)) v7.snd else D6_7 n t2 t7 t8 false v10.fst v9.fst t24 t25 (IntKind.i64.wrap (t26 + 1)) v8.snd else (f19 t7 t8 v26 v25 v24 v23 v22 v21 v20 H).bind fun v19 => bif v19.fst then (f23 t7 t8 v19.snd).bind fun v18 => bif v18.fst then bif !t10.isNone then bif t26.tmod 2 == 0 then (f23 t10 t11 v18.snd).bind fun v13 => bif v13.fst then (f22 t7 t10 v13.snd).bind fun v12 => (f26 t8 t11 v12.snd).bind fun v11 => D6_7 n t2 t7 t8 (v12.fst == v11.fst) t10 t11 t24 t25 (IntKind.i64.wrap (t26 + 1)) v11.snd else D6_7 n t2 t7 t8 false t10 t11 t24 t25 (IntKind.i64.wrap (t26 + 1)) v13.snd else (f19 t10 t11 v26 v25 v24 v23 v22 v21 v20 v18.snd).bind fun v17 => bif v17.fst then (f23 t10 t11 v17.snd).bind fun v16 => bif v16.fst then (f22 t7 t10 v16.snd).bind fun v15 => (f26 t8 t11 v15.snd).bind fun v14 => D6_7 n t2 t7 t8 (v15.fst == v14.fst) t10 t11 t24 t25 (IntKind.i64.wrap (t26 + 1)) v14.snd else D6_7 n t2 t7 t8 false t10 t11 t24 t25 (IntKind.i64.wrap (t26 + 1)) v16.snd else D6_7 n t2 t7 t8 false t10 t11 t24 t25 (IntKind.i64.wrap (t26 + 1)) v17.snd else D6_7 n t2 t7 t8 v18.fst t10 t11 t24 t25 (IntKind.i64.wrap (t26 + 1)) v18.snd else D6_7 n t2 t7 t8 v18.fst t10 t11 t24 t25 (IntKind.i64.wrap (t26 + 1)) v18.snd else D6_7 n t2 t7 t8 false t10 t11 t24 t25 (IntKind.i64.wrap (t26 + 1)) v19.snd else none else some (AExit.exit 0, X6_7 t9 H) := by intros; exact (loopN_stepD hN6 _ _ _ _).trans (by kernel_rfl)
theorem q6 : ∀ (l calls : Option Sl) (cut : Int) (H : Heap), f6 l calls cut H = (f8 l H).bind fun v38 => (f9 v38.fst v38.snd).bind fun v37 => (f13 v38.fst v37.snd).bind fun v36 => (f23 v37.fst v36.fst v36.snd).bind fun v35 => (LL6_7 cut v37.fst v36.fst v35.fst none v36.fst calls (slen calls) 0 v35.snd).bind J6_7 := by intros; exact (f6_run ..).trans (by kernel_rfl)
theorem J6_7_0 : ∀ (x0 : Bool) (H : Heap), J6_7 (AExit.exit 0, X6_7 x0 H) = bif x0 then some (true, H) else some (false, H) := by intros; kernel_rfl
theorem ok6 : FnOk Try.prog 6 (specF enc6 (sem6 f6)) := by
  refine spec_ok (C := CC6) good6 rfl rfl rfl (by kernel_rfl) Try.func6 (c := bodyOf Try.f6) (by kernel_rfl) (by kernel_rfl) (Nat.le_of_eq Try.ntmps6.symm) dec6 enc6 de6 _ ?_
  intro args H q h
  unfold sem6 at h
  split at h
  · rw [← f6_eq]; exact h
  · cases h
