/- Layer 10: memory. -/
import Derived.Test.YtnipccoenalnkaaGreatStBa
import Derived.KernelRfl
namespace Go.Proofs.YtnipccoenalnkaaGreat
open Go Go.Proofs.YtnipccoenalnkaaGreat.Ab
set_option linter.unusedVariables false
set_option linter.unusedSimpArgs false
set_option maxRecDepth 100000
noncomputable section
abbrev SO := Option Sl
abbrev PO := Option (Nat × Nat)
/-! 84: bytes_Clone -/
noncomputable def CC84 : Ctx := { P := Tryz.prog, own := [], fns := [], nt := 8, nums := [], live := [] }
theorem good84 : Callees Tryz.prog CC84.fns [] CC84.nums := Callees.nil Tryz.prog
theorem hN84 : CtxNat CC84 := good84.ctx rfl rfl rfl
def enc84 (r : SO) : List TV := [.c (Cell.slice (r))]
def dec84 : AV → Option (SO)
  | .c (Cell.slice q0) => some (q0)
  | _ => none
theorem de84 (v : AV) (r : SO) (h : dec84 v = some r) : v = oneOf (enc84 r) := by
  unfold dec84 at h
  split at h
  · cases h; rfl
  · cases h
abbrev Ty84 := SO → Heap → Option (SO × Heap)
def sem84 (f : Ty84) : List TV → Heap → Option (SO × Heap)
  | [.c (Cell.slice b)], H => f b H
  | _, _ => none
noncomputable def F084 : Ty84 := fun b H => fnA CC84 Tryz.f84.results.toList (bodyOf Tryz.f84) _ [.c (Cell.slice b)] H (decF dec84)
noncomputable def f84 : Ty84 := hide F084
theorem f84_eq : f84 = F084 := hide_eq _
theorem q84 : ∀ (b : SO) (H : Heap), f84 b H = bif b.isNone then some (none, H) else ((H ++ [Blk.row [] false]).append 1 1 (some { id := List.length H, off := 0, len := 0, cap := 0, esz := 1 }) b).bind fun v0 => some (v0.1, v0.2) := by intros; rw [f84_eq]; exact (fnA_lpD hN84 ..).trans (by kernel_rfl)
theorem ok84 : FnOk Tryz.prog 84 (specF enc84 (sem84 f84)) := by
  refine spec_ok (C := CC84) good84 rfl rfl rfl (by kernel_rfl) Tryz.func84 (c := bodyOf Tryz.f84) (by kernel_rfl) (by kernel_rfl) (Nat.le_of_eq Tryz.ntmps84.symm) dec84 enc84 de84 _ ?_
  intro args H q h
  unfold sem84 at h
  split at h
  · rw [f84_eq] at h; exact h
  · cases h
/-! 46: mem_Mem_Areas -/
noncomputable def CC46 : Ctx := { P := Tryz.prog, own := [5], fns := [(84, specF enc84 (sem84 f84))], nt := 30, nums := [], live := [(5, ⟨[3, 11, 12, 13], [], [3], []⟩)] }
theorem good46 : Callees Tryz.prog CC46.fns [] CC46.nums := (Callees.nil Tryz.prog).cons ok84 (specF_nat _ _)
def enc46 (r : SO) : List TV := [.c (Cell.slice (r))]
def dec46 : AV → Option (SO)
  | .c (Cell.slice q0) => some (q0)
  | _ => none
theorem de46 (v : AV) (r : SO) (h : dec46 v = some r) : v = oneOf (enc46 r) := by
  unfold dec46 at h
  split at h
  · cases h; rfl
  · cases h
abbrev Ty46 := PO → Heap → Option (SO × Heap)
def sem46 (f : Ty46) : List TV → Heap → Option (SO × Heap)
  | [.c (Cell.ptr m)], H => f m H
  | _, _ => none
noncomputable def F046 : Ty46 := fun m H => fnA CC46 Tryz.f46.results.toList (bodyOf Tryz.f46) _ [.c (Cell.ptr m)] H (decF dec46)
noncomputable def f46 : Ty46 := hide F046
theorem f46_eq : f46 = F046 := hide_eq _
theorem ok46 : FnOk Tryz.prog 46 (specF enc46 (sem46 f46)) := by
  refine spec_ok (C := CC46) good46 rfl rfl rfl (by kernel_rfl) Tryz.func46 (c := bodyOf Tryz.f46) (by kernel_rfl) (by kernel_rfl) (Nat.le_of_eq Tryz.ntmps46.symm) dec46 enc46 de46 _ ?_
  intro args H q h
  unfold sem46 at h
  split at h
  · rw [f46_eq] at h; exact h
  · cases h
/-! 47: mem_Mem_thread -/
noncomputable def CC47 : Ctx := { P := Tryz.prog, own := [], fns := [], nt := 15, nums := [], live := [] }
theorem good47 : Callees Tryz.prog CC47.fns [] CC47.nums := Callees.nil Tryz.prog
theorem hN47 : CtxNat CC47 := good47.ctx rfl rfl rfl
def enc47 (r : Bool) : List TV := [.c (Cell.bool (r))]
def dec47 : AV → Option (Bool)
  | .c (Cell.bool q0) => some (q0)
  | _ => none
theorem de47 (v : AV) (r : Bool) (h : dec47 v = some r) : v = oneOf (enc47 r) := by
  unfold dec47 at h
  split at h
  · cases h; rfl
  · cases h
abbrev Ty47 := PO → Int → Heap → Option (Bool × Heap)
def sem47 (f : Ty47) : List TV → Heap → Option (Bool × Heap)
  | [.c (Cell.ptr m), .c (Cell.int .i64 t)], H => f m t H
  | _, _ => none
noncomputable def F047 : Ty47 := fun m t H => fnA CC47 Tryz.f47.results.toList (bodyOf Tryz.f47) _ [.c (Cell.ptr m), .c (Cell.int .i64 t)] H (decF dec47)
noncomputable def f47 : Ty47 := hide F047
theorem f47_eq : f47 = F047 := hide_eq _
theorem q47 : ∀ (m : PO) (t : Int) (H : Heap), f47 m t H = bif !m.isNone then bif decide (t ≥ 0) then some (decide (t < 8), H) else some (false, H) else some (false, H) := by intros; rw [f47_eq]; exact (fnA_lpD hN47 ..).trans (by kernel_rfl)
theorem ok47 : FnOk Tryz.prog 47 (specF enc47 (sem47 f47)) := by
  refine spec_ok (C := CC47) good47 rfl rfl rfl (by kernel_rfl) Tryz.func47 (c := bodyOf Tryz.f47) (by kernel_rfl) (by kernel_rfl) (Nat.le_of_eq Tryz.ntmps47.symm) dec47 enc47 de47 _ ?_
  intro args H q h
  unfold sem47 at h
  split at h
  · rw [f47_eq] at h; exact h
  · cases h
/-! 17: mem_Mem_Pending -/
noncomputable def CC17 : Ctx := { P := Tryz.prog, own := [], fns := [(47, specF enc47 (sem47 f47))], nt := 16, nums := [], live := [] }
theorem good17 : Callees Tryz.prog CC17.fns [] CC17.nums := (Callees.nil Tryz.prog).cons ok47 (specF_nat _ _)
theorem hN17 : CtxNat CC17 := good17.ctx rfl rfl rfl
def enc17 (r : Int) : List TV := [.c (Cell.int .i64 (r))]
def dec17 : AV → Option (Int)
  | .c (Cell.int .i64 q0) => some (q0)
  | _ => none
theorem de17 (v : AV) (r : Int) (h : dec17 v = some r) : v = oneOf (enc17 r) := by
  unfold dec17 at h
  split at h
  · cases h; rfl
  · cases h
abbrev Ty17 := PO → Int → Heap → Option (Int × Heap)
def sem17 (f : Ty17) : List TV → Heap → Option (Int × Heap)
  | [.c (Cell.ptr m), .c (Cell.int .i64 t)], H => f m t H
  | _, _ => none
noncomputable def F017 : Ty17 := fun m t H => fnA CC17 Tryz.f17.results.toList (bodyOf Tryz.f17) _ [.c (Cell.ptr m), .c (Cell.int .i64 t)] H (decF dec17)
noncomputable def f17 : Ty17 := hide F017
theorem f17_eq : f17 = F017 := hide_eq _
theorem q17 : ∀ (m : PO) (t : Int) (H : Heap), f17 m t H = (f47 m t H).bind fun v3 => bif !v3.1 then some (0, v3.2) else m.bind fun v2 => bif inb t 8 then (v3.2.get v2.1 (v2.2 + 1 + t.toNat * 1)).bind fun v1 => v1.toSlice.bind fun v0 => some (slen v0, v3.2) else none := by intros; rw [f17_eq]; exact (fnA_lpD hN17 ..).trans (by kernel_rfl)
theorem ok17 : FnOk Tryz.prog 17 (specF enc17 (sem17 f17)) := by
  refine spec_ok (C := CC17) good17 rfl rfl rfl (by kernel_rfl) Tryz.func17 (c := bodyOf Tryz.f17) (by kernel_rfl) (by kernel_rfl) (Nat.le_of_eq Tryz.ntmps17.symm) dec17 enc17 de17 _ ?_
  intro args H q h
  unfold sem17 at h
  split at h
  · rw [f17_eq] at h; exact h
  · cases h
/-! 16: L09_Same -/
noncomputable def CC16 : Ctx := { P := Tryz.prog, own := [7], fns := [(17, specF enc17 (sem17 f17)), (46, specF enc46 (sem46 f46))], nt := 118, nums := [], live := [(16, ⟨[0, 1, 9], [], [4], []⟩), (10, ⟨[0, 1, 5, 6, 28, 29, 30, 80, 81], [], [0, 1, 5, 28, 29, 30], []⟩), (5, ⟨[0, 1, 5, 28, 29, 30], [], [0, 1, 4], []⟩)] }
theorem good16 : Callees Tryz.prog CC16.fns [] CC16.nums := ((Callees.nil Tryz.prog).cons ok46 (specF_nat _ _)).cons ok17 (specF_nat _ _)
theorem hN16 : CtxNat CC16 := good16.ctx rfl rfl rfl
def dec16 : AV → Option (Bool)
  | .c (Cell.bool q0) => some (q0)
  | _ => none
abbrev Ty16 := PO → PO → Heap → Option (Bool × Heap)
noncomputable def F016 : Ty16 := fun m r H => fnA CC16 Tryz.f16.results.toList (bodyOf Tryz.f16) _ [.c (Cell.ptr m), .c (Cell.ptr r)] H (decF dec16)
noncomputable def f16 : Ty16 := hide F016
theorem f16_eq : f16 = F016 := hide_eq _
noncomputable def P16_5 : Code := (Code.l (Code.l (Code.r (Code.l (Code.r (Code.r (Code.r (bodyOf Tryz.f16))))))))
def S16_5 (t0 t1 : PO) (t5 t28 : SO) (t29 t30 : Int) (H : Heap) : St := ⟨[(0, .c (Cell.ptr t0)), (1, .c (Cell.ptr t1)), (5, .c (Cell.slice t5)), (28, .c (Cell.slice t28)), (29, .c (Cell.int .i64 t29)), (30, .c (Cell.int .i64 t30))], [], H⟩
noncomputable def LL16_5 (t0 t1 : PO) (t5 t28 : SO) (t29 t30 : Int) (H : Heap) : Option (AExit × St) := loopsD CC16 P16_5 (S16_5 t0 t1 t5 t28 t29 t30 H)
noncomputable def J16_5 : AExit × St → Option (Bool × Heap) := fun p => blockK 0 (seqK (execL CC16 (lpD CC16) (Code.r (Code.r (Code.r (Code.r (bodyOf Tryz.f16)))))) (retA CC16 [ResultVar.tmp 4] (decF dec16))) p.1 p.2
theorem q16 : ∀ (m r : PO) (H : Heap), f16 m r H = (f46 m H).bind fun v48 => bif m.isNone then some (false, v48.2) else r.bind fun v47 => (v48.2.get v47.1 (v47.2 + 0)).bind fun v46 => v46.toSlice.bind fun v45 => bif slen v48.1 != slen v45 then some (false, v48.2) else r.bind fun v44 => (v48.2.get v44.1 (v44.2 + 0)).bind fun v43 => v43.toSlice.bind fun v42 => (LL16_5 m r v48.1 v42 (slen v42) 0 v48.2).bind J16_5 := by intros; rw [f16_eq]; exact (fnA_lpD hN16 ..).trans (by kernel_rfl)
/-! 22: L09_Cut -/
noncomputable def CC22 : Ctx := { P := Tryz.prog, own := [5], fns := [], nt := 29, nums := [], live := [(3, ⟨[3, 6, 7, 8], [], [3], []⟩)] }
theorem good22 : Callees Tryz.prog CC22.fns [] CC22.nums := Callees.nil Tryz.prog
theorem hN22 : CtxNat CC22 := good22.ctx rfl rfl rfl
def enc22 (r : SO) : List TV := [.c (Cell.slice (r))]
def dec22 : AV → Option (SO)
  | .c (Cell.slice q0) => some (q0)
  | _ => none
theorem de22 (v : AV) (r : SO) (h : dec22 v = some r) : v = oneOf (enc22 r) := by
  unfold dec22 at h
  split at h
  · cases h; rfl
  · cases h
abbrev Ty22 := SO → Heap → Option (SO × Heap)
def sem22 (f : Ty22) : List TV → Heap → Option (SO × Heap)
  | [.c (Cell.slice l)], H => f l H
  | _, _ => none
noncomputable def F022 : Ty22 := fun l H => fnA CC22 Tryz.f22.results.toList (bodyOf Tryz.f22) _ [.c (Cell.slice l)] H (decF dec22)
noncomputable def f22 : Ty22 := hide F022
theorem f22_eq : f22 = F022 := hide_eq _
noncomputable def P22_3 : Code := (Code.l (Code.l (Code.r (Code.l (Code.r (Code.r (bodyOf Tryz.f22)))))))
def S22_3 (t3 t6 : SO) (t7 t8 : Int) (H : Heap) : St := ⟨[(3, .c (Cell.slice t3)), (6, .c (Cell.slice t6)), (7, .c (Cell.int .i64 t7)), (8, .c (Cell.int .i64 t8))], [], H⟩
noncomputable def D22_3 (n : Nat) (t3 t6 : SO) (t7 t8 : Int) (H : Heap) : Option (AExit × St) := loopN (exec CC22 P22_3) (keepOf CC22.live P22_3) n (S22_3 t3 t6 t7 t8 H) retD
noncomputable def LL22_3 (t3 t6 : SO) (t7 t8 : Int) (H : Heap) : Option (AExit × St) := loopsD CC22 P22_3 (S22_3 t3 t6 t7 t8 H)
theorem LL22_3_of (m : Nat) (hm : m < 18446744073709551616) (t3 t6 : SO) (t7 t8 : Int) (H : Heap) : ∃ n, LL22_3 t3 t6 t7 t8 H = D22_3 (n + m + 1) t3 t6 t7 t8 H := loopsD_of _ _ _ m hm
def X22_3 (x0 : SO) (H : Heap) : St := { env := [(3, AV.c (Cell.slice x0))], loc := [], heap := H }
noncomputable def J22_3 : AExit × St → Option (Option Sl × Heap) := fun p => blockK 0 (seqK (execL CC22 (lpD CC22) (Code.r (Code.r (Code.r (bodyOf Tryz.f22))))) (retA CC22 [ResultVar.tmp 2] (decF dec22))) p.1 p.2
theorem D22_3_s : ∀ (n : Nat) (t3 t6 : SO) (t7 t8 : Int) (H : Heap), D22_3 (n + 1) t3 t6 t7 t8 H = bif decide (t8 < t7) then t6.bind fun v13 => bif inb t8 v13.len && v13.esz == 5 then (H.get v13.id (v13.off + t8.toNat * 5)).bind fun v12 => (H.get v13.id (v13.off + t8.toNat * 5 + 1)).bind fun v11 => (H.get v13.id (v13.off + t8.toNat * 5 + 1 + 1)).bind fun v10 => (H.get v13.id (v13.off + t8.toNat * 5 + 1 + 1 + 1)).bind fun v9 => (H.get v13.id (v13.off + t8.toNat * 5 + 1 + 1 + 1 + 1)).bind fun v8 => (Cell.toInt .u64 v12).bind fun v7 => v11.toSlice.bind fun v6 => v10.toBool.bind fun v5 => v9.toBool.bind fun v4 => (Cell.toInt .i64 v8).bind fun v3 => bif decide (t8 ≥ 8) then some (AExit.exit 0, X22_3 t3 H) else bif decide (slen v6 > 64) then (Sl.sub v6 0 (some 64)).bind fun v1 => bif esOk v6 1 then ((H ++ [Blk.row [Cell.int .u64 v7, Cell.slice v1, Cell.bool v5, Cell.bool v4, Cell.int .i64 v3] false]).append 5 48 t3 (some { id := List.length H, off := 0, len := 1, cap := 1, esz := 5 })).bind fun v0 => D22_3 n v0.1 t6 t7 (IntKind.i64.wrap (t8 + 1)) v0.2 else none else ((H ++ [Blk.row [Cell.int .u64 v7, Cell.slice v6, Cell.bool v5, Cell.bool v4, Cell.int .i64 v3] false]).append 5 48 t3 (some { id := List.length H, off := 0, len := 1, cap := 1, esz := 5 })).bind fun v2 => D22_3 n v2.1 t6 t7 (IntKind.i64.wrap (t8 + 1)) v2.2 else none else some (AExit.exit 0, X22_3 t3 H) := by intros; exact (loopN_stepD hN22 _ _ _ _).trans (by kernel_rfl)
theorem q22 : ∀ (l : SO) (H : Heap), f22 l H = (LL22_3 none l (slen l) 0 H).bind J22_3 := by intros; rw [f22_eq]; exact (fnA_lpD hN22 ..).trans (by kernel_rfl)
theorem J22_3_0 : ∀ (x0 : SO) (H : Heap), J22_3 (AExit.exit 0, X22_3 x0 H) = some (x0, H) := by intros; kernel_rfl
theorem ok22 : FnOk Tryz.prog 22 (specF enc22 (sem22 f22)) := by
  refine spec_ok (C := CC22) good22 rfl rfl rfl (by kernel_rfl) Tryz.func22 (c := bodyOf Tryz.f22) (by kernel_rfl) (by kernel_rfl) (Nat.le_of_eq Tryz.ntmps22.symm) dec22 enc22 de22 _ ?_
  intro args H q h
  unfold sem22 at h
  split at h
  · rw [f22_eq] at h; exact h
  · cases h
/-! 41: mem_New -/
noncomputable def CC41 : Ctx := { P := Tryz.prog, own := [5], fns := [(84, specF enc84 (sem84 f84))], nt := 31, nums := [], live := [(3, ⟨[3, 8, 9, 10], [], [3], []⟩)] }
theorem good41 : Callees Tryz.prog CC41.fns [] CC41.nums := (Callees.nil Tryz.prog).cons ok84 (specF_nat _ _)
theorem hN41 : CtxNat CC41 := good41.ctx rfl rfl rfl
def enc41 (r : PO) : List TV := [.c (Cell.ptr (r))]
def dec41 : AV → Option (PO)
  | .c (Cell.ptr q0) => some (q0)
  | _ => none
theorem de41 (v : AV) (r : PO) (h : dec41 v = some r) : v = oneOf (enc41 r) := by
  unfold dec41 at h
  split at h
  · cases h; rfl
  · cases h
abbrev Ty41 := SO → Heap → Option ((PO) × Heap)
def sem41 (f : Ty41) : List TV → Heap → Option ((PO) × Heap)
  | [.c (Cell.slice l)], H => f l H
  | _, _ => none
noncomputable def F041 : Ty41 := fun l H => fnA CC41 Tryz.f41.results.toList (bodyOf Tryz.f41) _ [.c (Cell.slice l)] H (decF dec41)
noncomputable def f41 : Ty41 := hide F041
theorem f41_eq : f41 = F041 := hide_eq _
noncomputable def P41_3 : Code := (Code.l (Code.l (Code.r (Code.l (Code.r (Code.r (bodyOf Tryz.f41)))))))
def S41_3 (t3 : PO) (t8 : SO) (t9 t10 : Int) (H : Heap) : St := ⟨[(3, .c (Cell.ptr t3)), (8, .c (Cell.slice t8)), (9, .c (Cell.int .i64 t9)), (10, .c (Cell.int .i64 t10))], [], H⟩
noncomputable def D41_3 (n : Nat) (t3 : PO) (t8 : SO) (t9 t10 : Int) (H : Heap) : Option (AExit × St) := loopN (exec CC41 P41_3) (keepOf CC41.live P41_3) n (S41_3 t3 t8 t9 t10 H) retD
noncomputable def LL41_3 (t3 : PO) (t8 : SO) (t9 t10 : Int) (H : Heap) : Option (AExit × St) := loopsD CC41 P41_3 (S41_3 t3 t8 t9 t10 H)
theorem LL41_3_of (m : Nat) (hm : m < 18446744073709551616) (t3 : PO) (t8 : SO) (t9 t10 : Int) (H : Heap) : ∃ n, LL41_3 t3 t8 t9 t10 H = D41_3 (n + m + 1) t3 t8 t9 t10 H := loopsD_of _ _ _ m hm
def X41_3 (x0 : PO) (H : Heap) : St := { env := [(3, AV.c (Cell.ptr x0))], loc := [], heap := H }
noncomputable def J41_3 : AExit × St → Option (Option (Nat × Nat) × Heap) := fun p => blockK 0 (seqK (execL CC41 (lpD CC41) (Code.r (Code.r (Code.r (bodyOf Tryz.f41))))) (retA CC41 [ResultVar.tmp 2] (decF dec41))) p.1 p.2
theorem D41_3_s : ∀ (n : Nat) (t3 : PO) (t8 : SO) (t9 t10 : Int) (H : Heap), D41_3 (n + 1) t3 t8 t9 t10 H = bif decide (t10 < t9) then t8.bind fun v15 => bif inb t10 v15.len && v15.esz == 4 then (H.get v15.id (v15.off + t10.toNat * 4)).bind fun v14 => (H.get v15.id (v15.off + t10.toNat * 4 + 1)).bind fun v13 => (H.get v15.id (v15.off + t10.toNat * 4 + 1 + 1)).bind fun v12 => (H.get v15.id (v15.off + t10.toNat * 4 + 1 + 1 + 1)).bind fun v11 => (Cell.toInt .u64 v14).bind fun v10 => v13.toSlice.bind fun v9 => v12.toBool.bind fun v8 => v11.toBool.bind fun v7 => (f84 v9 H).bind fun v6 => t3.bind fun v5 => (v6.2.get v5.1 (v5.2 + 0)).bind fun v4 => v4.toSlice.bind fun v3 => ((v6.2 ++ [Blk.row [Cell.int .u64 v10, Cell.slice v6.1, Cell.bool v8, Cell.bool v7, Cell.int .i64 (-1)] false]).append 5 48 v3 (some { id := List.length v6.2, off := 0, len := 1, cap := 1, esz := 5 })).bind fun v2 => t3.bind fun v1 => (v2.2.put v1.1 (v1.2 + 0) [Cell.slice v2.1]).bind fun v0 => D41_3 n t3 t8 t9 (IntKind.i64.wrap (t10 + 1)) v0 else none else some (AExit.exit 0, X41_3 t3 H) := by intros; exact (loopN_stepD hN41 _ _ _ _).trans (by kernel_rfl)
theorem q41 : ∀ (l : SO) (H : Heap), f41 l H = (LL41_3 (some (List.length H, 0)) l (slen l) 0 (H ++ [Blk.row [Cell.slice none, Cell.slice none, Cell.slice none, Cell.slice none, Cell.slice none, Cell.slice none, Cell.slice none, Cell.slice none, Cell.slice none] false])).bind J41_3 := by intros; rw [f41_eq]; exact (fnA_lpD hN41 ..).trans (by kernel_rfl)
theorem J41_3_0 : ∀ (x0 : PO) (H : Heap), J41_3 (AExit.exit 0, X41_3 x0 H) = some (x0, H) := by intros; kernel_rfl
theorem ok41 : FnOk Tryz.prog 41 (specF enc41 (sem41 f41)) := by
  refine spec_ok (C := CC41) good41 rfl rfl rfl (by kernel_rfl) Tryz.func41 (c := bodyOf Tryz.f41) (by kernel_rfl) (by kernel_rfl) (Nat.le_of_eq Tryz.ntmps41.symm) dec41 enc41 de41 _ ?_
  intro args H q h
  unfold sem41 at h
  split at h
  · rw [f41_eq] at h; exact h
  · cases h
/-! 54: slices_Clone_mem_store_mem_store -/
noncomputable def CC54 : Ctx := { P := Tryz.prog, own := [], fns := [], nt := 8, nums := [], live := [] }
theorem good54 : Callees Tryz.prog CC54.fns [] CC54.nums := Callees.nil Tryz.prog
def enc54 (r : SO) : List TV := [.c (Cell.slice (r))]
def dec54 : AV → Option (SO)
  | .c (Cell.slice q0) => some (q0)
  | _ => none
theorem de54 (v : AV) (r : SO) (h : dec54 v = some r) : v = oneOf (enc54 r) := by
  unfold dec54 at h
  split at h
  · cases h; rfl
  · cases h
abbrev Ty54 := SO → Heap → Option (SO × Heap)
def sem54 (f : Ty54) : List TV → Heap → Option (SO × Heap)
  | [.c (Cell.slice s)], H => f s H
  | _, _ => none
noncomputable def F054 : Ty54 := fun s H => fnA CC54 Tryz.f54.results.toList (bodyOf Tryz.f54) _ [.c (Cell.slice s)] H (decF dec54)
noncomputable def f54 : Ty54 := hide F054
theorem f54_eq : f54 = F054 := hide_eq _
theorem ok54 : FnOk Tryz.prog 54 (specF enc54 (sem54 f54)) := by
  refine spec_ok (C := CC54) good54 rfl rfl rfl (by kernel_rfl) Tryz.func54 (c := bodyOf Tryz.f54) (by kernel_rfl) (by kernel_rfl) (Nat.le_of_eq Tryz.ntmps54.symm) dec54 enc54 de54 _ ?_
  intro args H q h
  unfold sem54 at h
  split at h
  · rw [f54_eq] at h; exact h
  · cases h
/-! 23: mem_Mem_Copy -/
/-! 104: bytes_Equal -/
/-! 57: mem_Area_same -/
/-! 56: mem_Mem_Same_1 -/
/-! 55: slices_EqualFunc_mem_held_mem_held_mem_held_mem_held -/
/-! 26: mem_Mem_Same -/
/-! 173: mem_Area_has -/
noncomputable def CC173 : Ctx := { P := Tryz.prog, own := [2], fns := [], nt := 14, nums := [], live := [] }
theorem good173 : Callees Tryz.prog CC173.fns [] CC173.nums := Callees.nil Tryz.prog
theorem hN173 : CtxNat CC173 := good173.ctx rfl rfl rfl
def enc173 (r : Bool) : List TV := [.c (Cell.bool (r))]
def dec173 : AV → Option (Bool)
  | .c (Cell.bool q0) => some (q0)
  | _ => none
theorem de173 (v : AV) (r : Bool) (h : dec173 v = some r) : v = oneOf (enc173 r) := by
  unfold dec173 at h
  split at h
  · cases h; rfl
  · cases h
abbrev Ty173 := Int → SO → Bool → Bool → Int → Heap → Option (Bool × Heap)
def sem173 (f : Ty173) : List TV → Heap → Option (Bool × Heap)
  | [.agg [Cell.int .u64 a0, Cell.slice a1, Cell.bool a2, Cell.bool a3], .c (Cell.int .u64 x1)], H => f a0 a1 a2 a3 x1 H
  | _, _ => none
noncomputable def F0173 : Ty173 := fun a0 a1 a2 a3 x1 H => fnA CC173 Tryz.f173.results.toList (bodyOf Tryz.f173) _ [.agg [Cell.int .u64 a0, Cell.slice a1, Cell.bool a2, Cell.bool a3], .c (Cell.int .u64 x1)] H (decF dec173)
noncomputable def f173 : Ty173 := hide F0173
theorem f173_eq : f173 = F0173 := hide_eq _
theorem q173 : ∀ (a0 : Int) (a1 : SO) (a2 a3 : Bool) (x1 : Int) (H : Heap), f173 a0 a1 a2 a3 x1 H = some (decide (IntKind.u64.wrap (x1 - a0) < IntKind.u64.wrap (slen a1)), H) := by intros; rw [f173_eq]; exact (fnA_lpD hN173 ..).trans (by kernel_rfl)
theorem ok173 : FnOk Tryz.prog 173 (specF enc173 (sem173 f173)) := by
  refine spec_ok (C := CC173) good173 rfl rfl rfl (by kernel_rfl) Tryz.func173 (c := bodyOf Tryz.f173) (by kernel_rfl) (by kernel_rfl) (Nat.le_of_eq Tryz.ntmps173.symm) dec173 enc173 de173 _ ?_
  intro args H q h
  unfold sem173 at h
  split at h
  · rw [f173_eq] at h; exact h
  · cases h
/-! 172: mem_Mem_find_1 -/
noncomputable def CC172 : Ctx := { P := Tryz.prog, own := [2], fns := [(173, specF enc173 (sem173 f173))], nt := 8, nums := [], live := [] }
theorem good172 : Callees Tryz.prog CC172.fns [] CC172.nums := (Callees.nil Tryz.prog).cons ok173 (specF_nat _ _)
theorem hN172 : CtxNat CC172 := good172.ctx rfl rfl rfl
def enc172 (r : Bool) : List TV := [.c (Cell.bool (r))]
def dec172 : AV → Option (Bool)
  | .c (Cell.bool q0) => some (q0)
  | _ => none
theorem de172 (v : AV) (r : Bool) (h : dec172 v = some r) : v = oneOf (enc172 r) := by
  unfold dec172 at h
  split at h
  · cases h; rfl
  · cases h
abbrev Ty172 := Int → SO → Bool → Bool → Int → PO → Heap → Option (Bool × Heap)
def sem172 (f : Ty172) : List TV → Heap → Option (Bool × Heap)
  | [.agg [Cell.int .u64 h0, Cell.slice h1, Cell.bool h2, Cell.bool h3, Cell.int .i64 h4], .c (Cell.ptr c0)], H => f h0 h1 h2 h3 h4 c0 H
  | _, _ => none
noncomputable def F0172 : Ty172 := fun h0 h1 h2 h3 h4 c0 H => fnA CC172 Tryz.f172.results.toList (bodyOf Tryz.f172) _ [.agg [Cell.int .u64 h0, Cell.slice h1, Cell.bool h2, Cell.bool h3, Cell.int .i64 h4], .c (Cell.ptr c0)] H (decF dec172)
noncomputable def f172 : Ty172 := hide F0172
theorem f172_eq : f172 = F0172 := hide_eq _
theorem q172 : ∀ (h0 : Int) (h1 : SO) (h2 h3 : Bool) (h4 : Int) (c0 : PO) (H : Heap), f172 h0 h1 h2 h3 h4 c0 H = c0.bind fun v3 => (H.get v3.1 v3.2).bind fun v2 => (Cell.toInt .u64 v2).bind fun v1 => (f173 h0 h1 h2 h3 v1 H).bind fun v0 => some (v0.1, v0.2) := by intros; rw [f172_eq]; exact (fnA_lpD hN172 ..).trans (by kernel_rfl)
theorem ok172 : FnOk Tryz.prog 172 (specF enc172 (sem172 f172)) := by
  refine spec_ok (C := CC172) good172 rfl rfl rfl (by kernel_rfl) Tryz.func172 (c := bodyOf Tryz.f172) (by kernel_rfl) (by kernel_rfl) (Nat.le_of_eq Tryz.ntmps172.symm) dec172 enc172 de172 _ ?_
  intro args H q h
  unfold sem172 at h
  split at h
  · rw [f172_eq] at h; exact h
  · cases h
/-! 171: slices_IndexFunc_mem_held_mem_held -/
noncomputable def CC171 : Ctx := { P := Tryz.prog, own := [], fns := [(172, specF enc172 (sem172 f172))], nt := 19, nums := [], live := [(2, ⟨[0, 1, 7, 8], [], [4], []⟩)] }
theorem good171 : Callees Tryz.prog CC171.fns [] CC171.nums := (Callees.nil Tryz.prog).cons ok172 (specF_nat _ _)
theorem hN171 : CtxNat CC171 := good171.ctx rfl rfl rfl
def enc171 (r : Int) : List TV := [.c (Cell.int .i64 (r))]
def dec171 : AV → Option (Int)
  | .c (Cell.int .i64 q0) => some (q0)
  | _ => none
theorem de171 (v : AV) (r : Int) (h : dec171 v = some r) : v = oneOf (enc171 r) := by
  unfold dec171 at h
  split at h
  · cases h; rfl
  · cases h
abbrev Ty171a := SO → PO → Heap → Option (Int × Heap)
noncomputable def F0171a : Ty171a := fun s q H => fnA CC171 Tryz.f171.results.toList (bodyOf Tryz.f171) _ [.c (Cell.slice s), .c (Cell.fn 172 [] [Cell.ptr q])] H (decF dec171)
noncomputable def f171a : Ty171a := hide F0171a
theorem f171a_eq : f171a = F0171a := hide_eq _
noncomputable def P171a_2 : Code := (Code.l (Code.l (Code.r (Code.l (Code.r (bodyOf Tryz.f171))))))
def S171a_2 (t0 : SO) (q : PO) (t7 t8 : Int) (H : Heap) : St := ⟨[(0, .c (Cell.slice t0)), (1, .c (Cell.fn 172 [] [Cell.ptr q])), (7, .c (Cell.int .i64 t7)), (8, .c (Cell.int .i64 t8))], [], H⟩
noncomputable def D171a_2 (n : Nat) (t0 : SO) (q : PO) (t7 t8 : Int) (H : Heap) : Option (AExit × St) := loopN (exec CC171 P171a_2) (keepOf CC171.live P171a_2) n (S171a_2 t0 q t7 t8 H) retD
noncomputable def LL171a_2 (t0 : SO) (q : PO) (t7 t8 : Int) (H : Heap) : Option (AExit × St) := loopsD CC171 P171a_2 (S171a_2 t0 q t7 t8 H)
theorem LL171a_2_of (m : Nat) (hm : m < 18446744073709551616) (t0 : SO) (q : PO) (t7 t8 : Int) (H : Heap) : ∃ n, LL171a_2 t0 q t7 t8 H = D171a_2 (n + m + 1) t0 q t7 t8 H := loopsD_of _ _ _ m hm
def X171a_2 (x0 : Int) (H : Heap) : St := { env := [(4, AV.c (Cell.int .i64 x0))], loc := [], heap := H }
def X171a_2a (H : Heap) : St := { env := [], loc := [], heap := H }
noncomputable def J171a_2 : AExit × St → Option (Int × Heap) := fun p => blockK 0 (seqK (execL CC171 (lpD CC171) (Code.r (Code.r (bodyOf Tryz.f171)))) (retA CC171 [ResultVar.tmp 4] (decF dec171))) p.1 p.2
theorem D171a_2_s : ∀ (n : Nat) (t0 : SO) (q : PO) (t7 t8 : Int) (H : Heap), D171a_2 (n + 1) t0 q t7 t8 H = bif decide (t8 < t7) then t0.bind fun v11 => bif inb t8 v11.len && v11.esz == 5 then (H.get v11.id (v11.off + t8.toNat * 5)).bind fun v10 => (H.get v11.id (v11.off + t8.toNat * 5 + 1)).bind fun v9 => (H.get v11.id (v11.off + t8.toNat * 5 + 1 + 1)).bind fun v8 => (H.get v11.id (v11.off + t8.toNat * 5 + 1 + 1 + 1)).bind fun v7 => (H.get v11.id (v11.off + t8.toNat * 5 + 1 + 1 + 1 + 1)).bind fun v6 => (Cell.toInt .u64 v10).bind fun v5 => v9.toSlice.bind fun v4 => v8.toBool.bind fun v3 => v7.toBool.bind fun v2 => (Cell.toInt .i64 v6).bind fun v1 => (f172 v5 v4 v3 v2 v1 q H).bind fun v0 => bif v0.1 then some (AExit.ret, X171a_2 t8 v0.2) else D171a_2 n t0 q t7 (IntKind.i64.wrap (t8 + 1)) v0.2 else none else some (AExit.exit 0, X171a_2a H) := by intros; exact (loopN_stepD hN171 _ _ _ _).trans (by kernel_rfl)
theorem q171a : ∀ (s : SO) (q : PO) (H : Heap), f171a s q H = (LL171a_2 s q (slen s) 0 H).bind J171a_2 := by intros; rw [f171a_eq]; exact (fnA_lpD hN171 ..).trans (by kernel_rfl)
theorem J171a_2_0 : ∀ (x0 : Int) (H : Heap), J171a_2 (AExit.ret, X171a_2 x0 H) = some (x0, H) := by intros; kernel_rfl
theorem J171a_2_1 : ∀ (H : Heap), J171a_2 (AExit.exit 0, X171a_2a H) = some (-1, H) := by intros; kernel_rfl
noncomputable def sem171 (_ : Unit) : List TV → Heap → Option (Int × Heap)
  | [.c (Cell.slice s), .c (Cell.fn 172 [] [Cell.ptr q])], H => f171a s q H
  | _, _ => none
def f171 : Unit := ()
theorem ok171 : FnOk Tryz.prog 171 (specF enc171 (sem171 f171)) := by
  refine spec_ok (C := CC171) good171 rfl rfl rfl (by kernel_rfl) Tryz.func171 (c := bodyOf Tryz.f171) (by kernel_rfl) (by kernel_rfl) (Nat.le_of_eq Tryz.ntmps171.symm) dec171 enc171 de171 _ ?_
  intro args H q h
  unfold sem171 at h
  split at h
  · rw [f171a_eq] at h; exact h
  · cases h
/-! 138: mem_Mem_find -/
noncomputable def CC138 : Ctx := { P := Tryz.prog, own := [], fns := [(171, specF enc171 (sem171 f171)), (172, specF enc172 (sem172 f172))], nt := 11, nums := [], live := [] }
theorem good138 : Callees Tryz.prog CC138.fns [] CC138.nums := ((Callees.nil Tryz.prog).cons ok172 (specF_nat _ _)).cons ok171 (specF_nat _ _)
theorem hN138 : CtxNat CC138 := good138.ctx rfl rfl rfl
def enc138 (r : Int) : List TV := [.c (Cell.int .i64 (r))]
def dec138 : AV → Option (Int)
  | .c (Cell.int .i64 q0) => some (q0)
  | _ => none
theorem de138 (v : AV) (r : Int) (h : dec138 v = some r) : v = oneOf (enc138 r) := by
  unfold dec138 at h
  split at h
  · cases h; rfl
  · cases h
abbrev Ty138 := PO → Int → Heap → Option (Int × Heap)
def sem138 (f : Ty138) : List TV → Heap → Option (Int × Heap)
  | [.c (Cell.ptr m), .c (Cell.int .u64 x1)], H => f m x1 H
  | _, _ => none
noncomputable def F0138 : Ty138 := fun m x1 H => fnA CC138 Tryz.f138.results.toList (bodyOf Tryz.f138) _ [.c (Cell.ptr m), .c (Cell.int .u64 x1)] H (decF dec138)
noncomputable def f138 : Ty138 := hide F0138
theorem f138_eq : f138 = F0138 := hide_eq _
theorem q138 : ∀ (m : PO) (x1 : Int) (H : Heap), f138 m x1 H = m.bind fun v3 => ((H ++ [Blk.row [Cell.int .u64 x1] false]).get v3.1 (v3.2 + 0)).bind fun v2 => v2.toSlice.bind fun v1 => (f171a v1 (some (List.length H, 0)) (H ++ [Blk.row [Cell.int .u64 x1] false])).bind fun v0 => some (v0.1, v0.2) := by intros; rw [f138_eq]; exact (fnA_lpD hN138 ..).trans (by kernel_rfl)
theorem ok138 : FnOk Tryz.prog 138 (specF enc138 (sem138 f138)) := by
  refine spec_ok (C := CC138) good138 rfl rfl rfl (by kernel_rfl) Tryz.func138 (c := bodyOf Tryz.f138) (by kernel_rfl) (by kernel_rfl) (Nat.le_of_eq Tryz.ntmps138.symm) dec138 enc138 de138 _ ?_
  intro args H q h
  unfold sem138 at h
  split at h
  · rw [f138_eq] at h; exact h
  · cases h
/-! 83: mem_Mem_write -/
noncomputable def CC83 : Ctx := { P := Tryz.prog, own := [3, 5], fns := [(138, specF enc138 (sem138 f138))], nt := 43, nums := [], live := [(2, ⟨[0, 3, 8, 9], [3], [], []⟩)] }
theorem good83 : Callees Tryz.prog CC83.fns [] CC83.nums := (Callees.nil Tryz.prog).cons ok138 (specF_nat _ _)
def enc83 (r : Unit) : List TV := []
def dec83 : AV → Option (Unit)
  | .tup [] => some ()
  | _ => none
theorem de83 (v : AV) (r : Unit) (h : dec83 v = some r) : v = oneOf (enc83 r) := by
  unfold dec83 at h
  split at h
  · cases h; rfl
  · cases h
abbrev Ty83 := PO → Int → Int → Int → Heap → Option (Unit × Heap)
def sem83 (f : Ty83) : List TV → Heap → Option (Unit × Heap)
  | [.c (Cell.ptr m), .agg [Cell.int .u64 s0, Cell.int .i64 s1, Cell.int .u64 s2]], H => f m s0 s1 s2 H
  | _, _ => none
noncomputable def F083 : Ty83 := fun m s0 s1 s2 H => fnA CC83 Tryz.f83.results.toList (bodyOf Tryz.f83) _ [.c (Cell.ptr m), .agg [Cell.int .u64 s0, Cell.int .i64 s1, Cell.int .u64 s2]] H (decF dec83)
noncomputable def f83 : Ty83 := hide F083
theorem f83_eq : f83 = F083 := hide_eq _
theorem ok83 : FnOk Tryz.prog 83 (specF enc83 (sem83 f83)) := by
  refine spec_ok (C := CC83) good83 rfl rfl rfl (by kernel_rfl) Tryz.func83 (c := bodyOf Tryz.f83) (by kernel_rfl) (by kernel_rfl) (Nat.le_of_eq Tryz.ntmps83.symm) dec83 enc83 de83 _ ?_
  intro args H q h
  unfold sem83 at h
  split at h
  · rw [f83_eq] at h; exact h
  · cases h
/-! 58: mem_Mem_Drain -/
noncomputable def CC58 : Ctx := { P := Tryz.prog, own := [], fns := [(54, specF enc54 (sem54 f54)), (83, specF enc83 (sem83 f83)), (47, specF enc47 (sem47 f47))], nt := 42, nums := [], live := [] }
theorem good58 : Callees Tryz.prog CC58.fns [] CC58.nums := (((Callees.nil Tryz.prog).cons ok47 (specF_nat _ _)).cons ok83 (specF_nat _ _)).cons ok54 (specF_nat _ _)
def enc58 (r : Bool) : List TV := [.c (Cell.bool (r))]
def dec58 : AV → Option (Bool)
  | .c (Cell.bool q0) => some (q0)
  | _ => none
theorem de58 (v : AV) (r : Bool) (h : dec58 v = some r) : v = oneOf (enc58 r) := by
  unfold dec58 at h
  split at h
  · cases h; rfl
  · cases h
abbrev Ty58 := PO → Int → Heap → Option (Bool × Heap)
def sem58 (f : Ty58) : List TV → Heap → Option (Bool × Heap)
  | [.c (Cell.ptr m), .c (Cell.int .i64 t)], H => f m t H
  | _, _ => none
noncomputable def F058 : Ty58 := fun m t H => fnA CC58 Tryz.f58.results.toList (bodyOf Tryz.f58) _ [.c (Cell.ptr m), .c (Cell.int .i64 t)] H (decF dec58)
noncomputable def f58 : Ty58 := hide F058
theorem f58_eq : f58 = F058 := hide_eq _
theorem ok58 : FnOk Tryz.prog 58 (specF enc58 (sem58 f58)) := by
  refine spec_ok (C := CC58) good58 rfl rfl rfl (by kernel_rfl) Tryz.func58 (c := bodyOf Tryz.f58) (by kernel_rfl) (by kernel_rfl) (Nat.le_of_eq Tryz.ntmps58.symm) dec58 enc58 de58 _ ?_
  intro args H q h
  unfold sem58 at h
  split at h
  · rw [f58_eq] at h; exact h
  · cases h
/-! 27: mem_Mem_Flush -/
noncomputable def CC27 : Ctx := { P := Tryz.prog, own := [], fns := [(58, specF enc58 (sem58 f58))], nt := 12, nums := [], live := [(2, ⟨[0, 1, 5], [], [5], []⟩)] }
theorem good27 : Callees Tryz.prog CC27.fns [] CC27.nums := (Callees.nil Tryz.prog).cons ok58 (specF_nat _ _)
def enc27 (r : Int) : List TV := [.c (Cell.int .i64 (r))]
def dec27 : AV → Option (Int)
  | .c (Cell.int .i64 q0) => some (q0)
  | _ => none
theorem de27 (v : AV) (r : Int) (h : dec27 v = some r) : v = oneOf (enc27 r) := by
  unfold dec27 at h
  split at h
  · cases h; rfl
  · cases h
abbrev Ty27 := PO → Int → Heap → Option (Int × Heap)
def sem27 (f : Ty27) : List TV → Heap → Option (Int × Heap)
  | [.c (Cell.ptr m), .c (Cell.int .i64 t)], H => f m t H
  | _, _ => none
noncomputable def F027 : Ty27 := fun m t H => fnA CC27 Tryz.f27.results.toList (bodyOf Tryz.f27) _ [.c (Cell.ptr m), .c (Cell.int .i64 t)] H (decF dec27)
noncomputable def f27 : Ty27 := hide F027
theorem f27_eq : f27 = F027 := hide_eq _
theorem ok27 : FnOk Tryz.prog 27 (specF enc27 (sem27 f27)) := by
  refine spec_ok (C := CC27) good27 rfl rfl rfl (by kernel_rfl) Tryz.func27 (c := bodyOf Tryz.f27) (by kernel_rfl) (by kernel_rfl) (Nat.le_of_eq Tryz.ntmps27.symm) dec27 enc27 de27 _ ?_
  intro args H q h
  unfold sem27 at h
  split at h
  · rw [f27_eq] at h; exact h
  · cases h
/-! 28: L09_Ours -/
noncomputable def CC28 : Ctx := { P := Tryz.prog, own := [5], fns := [(41, specF enc41 (sem41 f41))], nt := 27, nums := [], live := [(3, ⟨[3, 6, 7, 8], [], [3], []⟩)] }
theorem good28 : Callees Tryz.prog CC28.fns [] CC28.nums := (Callees.nil Tryz.prog).cons ok41 (specF_nat _ _)
theorem hN28 : CtxNat CC28 := good28.ctx rfl rfl rfl
def enc28 (r : PO) : List TV := [.c (Cell.ptr (r))]
def dec28 : AV → Option (PO)
  | .c (Cell.ptr q0) => some (q0)
  | _ => none
theorem de28 (v : AV) (r : PO) (h : dec28 v = some r) : v = oneOf (enc28 r) := by
  unfold dec28 at h
  split at h
  · cases h; rfl
  · cases h
abbrev Ty28 := SO → Heap → Option ((PO) × Heap)
def sem28 (f : Ty28) : List TV → Heap → Option ((PO) × Heap)
  | [.c (Cell.slice l)], H => f l H
  | _, _ => none
noncomputable def F028 : Ty28 := fun l H => fnA CC28 Tryz.f28.results.toList (bodyOf Tryz.f28) _ [.c (Cell.slice l)] H (decF dec28)
noncomputable def f28 : Ty28 := hide F028
theorem f28_eq : f28 = F028 := hide_eq _
noncomputable def P28_3 : Code := (Code.l (Code.l (Code.r (Code.l (Code.r (Code.r (bodyOf Tryz.f28)))))))
def S28_3 (t3 t6 : SO) (t7 t8 : Int) (H : Heap) : St := ⟨[(3, .c (Cell.slice t3)), (6, .c (Cell.slice t6)), (7, .c (Cell.int .i64 t7)), (8, .c (Cell.int .i64 t8))], [], H⟩
noncomputable def D28_3 (n : Nat) (t3 t6 : SO) (t7 t8 : Int) (H : Heap) : Option (AExit × St) := loopN (exec CC28 P28_3) (keepOf CC28.live P28_3) n (S28_3 t3 t6 t7 t8 H) retD
noncomputable def LL28_3 (t3 t6 : SO) (t7 t8 : Int) (H : Heap) : Option (AExit × St) := loopsD CC28 P28_3 (S28_3 t3 t6 t7 t8 H)
theorem LL28_3_of (m : Nat) (hm : m < 18446744073709551616) (t3 t6 : SO) (t7 t8 : Int) (H : Heap) : ∃ n, LL28_3 t3 t6 t7 t8 H = D28_3 (n + m + 1) t3 t6 t7 t8 H := loopsD_of _ _ _ m hm
def X28_3 (x0 : SO) (H : Heap) : St := { env := [(3, AV.c (Cell.slice x0))], loc := [], heap := H }
noncomputable def J28_3 : AExit × St → Option (Option (Nat × Nat) × Heap) := fun p => blockK 0 (seqK (execL CC28 (lpD CC28) (Code.r (Code.r (Code.r (bodyOf Tryz.f28))))) (retA CC28 [ResultVar.tmp 2] (decF dec28))) p.1 p.2
theorem D28_3_s : ∀ (n : Nat) (t3 t6 : SO) (t7 t8 : Int) (H : Heap), D28_3 (n + 1) t3 t6 t7 t8 H = bif decide (t8 < t7) then t6.bind fun v11 => bif inb t8 v11.len && v11.esz == 5 then (H.get v11.id (v11.off + t8.toNat * 5)).bind fun v10 => (H.get v11.id (v11.off + t8.toNat * 5 + 1)).bind fun v9 => (H.get v11.id (v11.off + t8.toNat * 5 + 1 + 1)).bind fun v8 => (H.get v11.id (v11.off + t8.toNat * 5 + 1 + 1 + 1)).bind fun v7 => (H.get v11.id (v11.off + t8.toNat * 5 + 1 + 1 + 1 + 1)).bind fun v6 => (Cell.toInt .u64 v10).bind fun v5 => v9.toSlice.bind fun v4 => v8.toBool.bind fun v3 => v7.toBool.bind fun v2 => (Cell.toInt .i64 v6).bind fun v1 => ((H ++ [Blk.row [Cell.int .u64 v5, Cell.slice v4, Cell.bool v3, Cell.bool v2] false]).append 4 40 t3 (some { id := List.length H, off := 0, len := 1, cap := 1, esz := 4 })).bind fun v0 => D28_3 n v0.1 t6 t7 (IntKind.i64.wrap (t8 + 1)) v0.2 else none else some (AExit.exit 0, X28_3 t3 H) := by intros; exact (loopN_stepD hN28 _ _ _ _).trans (by kernel_rfl)
theorem q28 : ∀ (l : SO) (H : Heap), f28 l H = (LL28_3 none l (slen l) 0 H).bind J28_3 := by intros; rw [f28_eq]; exact (fnA_lpD hN28 ..).trans (by kernel_rfl)
theorem J28_3_0 : ∀ (x0 : SO) (H : Heap), J28_3 (AExit.exit 0, X28_3 x0 H) = (f41 x0 H).bind fun v12 => some (v12.1, v12.2) := by intros; kernel_rfl
theorem ok28 : FnOk Tryz.prog 28 (specF enc28 (sem28 f28)) := by
  refine spec_ok (C := CC28) good28 rfl rfl rfl (by kernel_rfl) Tryz.func28 (c := bodyOf Tryz.f28) (by kernel_rfl) (by kernel_rfl) (Nat.le_of_eq Tryz.ntmps28.symm) dec28 enc28 de28 _ ?_
  intro args H q h
  unfold sem28 at h
  split at h
  · rw [f28_eq] at h; exact h
  · cases h
/-! 29: R9_New -/
noncomputable def CC29 : Ctx := { P := Tryz.prog, own := [5], fns := [], nt := 32, nums := [], live := [(3, ⟨[3, 8, 9, 10], [], [3], []⟩)] }
theorem good29 : Callees Tryz.prog CC29.fns [] CC29.nums := Callees.nil Tryz.prog
theorem hN29 : CtxNat CC29 := good29.ctx rfl rfl rfl
def enc29 (r : PO) : List TV := [.c (Cell.ptr (r))]
def dec29 : AV → Option (PO)
  | .c (Cell.ptr q0) => some (q0)
  | _ => none
theorem de29 (v : AV) (r : PO) (h : dec29 v = some r) : v = oneOf (enc29 r) := by
  unfold dec29 at h
  split at h
  · cases h; rfl
  · cases h
abbrev Ty29 := SO → Heap → Option ((PO) × Heap)
def sem29 (f : Ty29) : List TV → Heap → Option ((PO) × Heap)
  | [.c (Cell.slice l)], H => f l H
  | _, _ => none
noncomputable def F029 : Ty29 := fun l H => fnA CC29 Tryz.f29.results.toList (bodyOf Tryz.f29) _ [.c (Cell.slice l)] H (decF dec29)
noncomputable def f29 : Ty29 := hide F029
theorem f29_eq : f29 = F029 := hide_eq _
noncomputable def P29_3 : Code := (Code.l (Code.l (Code.r (Code.l (Code.r (Code.r (bodyOf Tryz.f29)))))))
def S29_3 (t3 : PO) (t8 : SO) (t9 t10 : Int) (H : Heap) : St := ⟨[(3, .c (Cell.ptr t3)), (8, .c (Cell.slice t8)), (9, .c (Cell.int .i64 t9)), (10, .c (Cell.int .i64 t10))], [], H⟩
noncomputable def D29_3 (n : Nat) (t3 : PO) (t8 : SO) (t9 t10 : Int) (H : Heap) : Option (AExit × St) := loopN (exec CC29 P29_3) (keepOf CC29.live P29_3) n (S29_3 t3 t8 t9 t10 H) retD
noncomputable def LL29_3 (t3 : PO) (t8 : SO) (t9 t10 : Int) (H : Heap) : Option (AExit × St) := loopsD CC29 P29_3 (S29_3 t3 t8 t9 t10 H)
theorem LL29_3_of (m : Nat) (hm : m < 18446744073709551616) (t3 : PO) (t8 : SO) (t9 t10 : Int) (H : Heap) : ∃ n, LL29_3 t3 t8 t9 t10 H = D29_3 (n + m + 1) t3 t8 t9 t10 H := loopsD_of _ _ _ m hm
def X29_3 (x0 : PO) (H : Heap) : St := { env := [(3, AV.c (Cell.ptr x0))], loc := [], heap := H }
noncomputable def J29_3 : AExit × St → Option (Option (Nat × Nat) × Heap) := fun p => blockK 0 (seqK (execL CC29 (lpD CC29) (Code.r (Code.r (Code.r (bodyOf Tryz.f29))))) (retA CC29 [ResultVar.tmp 2] (decF dec29))) p.1 p.2
theorem D29_3_s : ∀ (n : Nat) (t3 : PO) (t8 : SO) (t9 t10 : Int) (H : Heap), D29_3 (n + 1) t3 t8 t9 t10 H = bif decide (t10 < t9) then t8.bind fun v17 => bif inb t10 v17.len && v17.esz == 5 then (H.get v17.id (v17.off + t10.toNat * 5)).bind fun v16 => (H.get v17.id (v17.off + t10.toNat * 5 + 1)).bind fun v15 => (H.get v17.id (v17.off + t10.toNat * 5 + 1 + 1)).bind fun v14 => (H.get v17.id (v17.off + t10.toNat * 5 + 1 + 1 + 1)).bind fun v13 => (H.get v17.id (v17.off + t10.toNat * 5 + 1 + 1 + 1 + 1)).bind fun v12 => (Cell.toInt .u64 v16).bind fun v11 => v15.toSlice.bind fun v10 => v14.toBool.bind fun v9 => v13.toBool.bind fun v8 => (Cell.toInt .i64 v12).bind fun v7 => ((H ++ [Blk.row [] false]).append 1 1 (some { id := List.length H, off := 0, len := 0, cap := 0, esz := 1 }) v10).bind fun v6 => t3.bind fun v5 => (v6.2.get v5.1 (v5.2 + 0)).bind fun v4 => v4.toSlice.bind fun v3 => ((v6.2 ++ [Blk.row [Cell.int .u64 v11, Cell.slice v6.1, Cell.bool v9, Cell.bool v8, Cell.int .i64 (-1)] false]).append 5 48 v3 (some { id := List.length v6.2, off := 0, len := 1, cap := 1, esz := 5 })).bind fun v2 => t3.bind fun v1 => (v2.2.put v1.1 (v1.2 + 0) [Cell.slice v2.1]).bind fun v0 => D29_3 n t3 t8 t9 (IntKind.i64.wrap (t10 + 1)) v0 else none else some (AExit.exit 0, X29_3 t3 H) := by intros; exact (loopN_stepD hN29 _ _ _ _).trans (by kernel_rfl)
theorem q29 : ∀ (l : SO) (H : Heap), f29 l H = (LL29_3 (some (List.length H, 0)) l (slen l) 0 (H ++ [Blk.row [Cell.slice none, Cell.slice none, Cell.slice none, Cell.slice none, Cell.slice none, Cell.slice none, Cell.slice none, Cell.slice none, Cell.slice none] false])).bind J29_3 := by intros; rw [f29_eq]; exact (fnA_lpD hN29 ..).trans (by kernel_rfl)
theorem J29_3_0 : ∀ (x0 : PO) (H : Heap), J29_3 (AExit.exit 0, X29_3 x0 H) = some (x0, H) := by intros; kernel_rfl
theorem ok29 : FnOk Tryz.prog 29 (specF enc29 (sem29 f29)) := by
  refine spec_ok (C := CC29) good29 rfl rfl rfl (by kernel_rfl) Tryz.func29 (c := bodyOf Tryz.f29) (by kernel_rfl) (by kernel_rfl) (Nat.le_of_eq Tryz.ntmps29.symm) dec29 enc29 de29 _ ?_
  intro args H q h
  unfold sem29 at h
  split at h
  · rw [f29_eq] at h; exact h
  · cases h
/-! 30: mem_Mem_Own -/
noncomputable def CC30 : Ctx := { P := Tryz.prog, own := [], fns := [(47, specF enc47 (sem47 f47))], nt := 55, nums := [], live := [] }
theorem good30 : Callees Tryz.prog CC30.fns [] CC30.nums := (Callees.nil Tryz.prog).cons ok47 (specF_nat _ _)
theorem hN30 : CtxNat CC30 := good30.ctx rfl rfl rfl
def enc30 (r : Bool) : List TV := [.c (Cell.bool (r))]
def dec30 : AV → Option (Bool)
  | .c (Cell.bool q0) => some (q0)
  | _ => none
theorem de30 (v : AV) (r : Bool) (h : dec30 v = some r) : v = oneOf (enc30 r) := by
  unfold dec30 at h
  split at h
  · cases h; rfl
  · cases h
abbrev Ty30 := PO → Int → Int → Heap → Option (Bool × Heap)
def sem30 (f : Ty30) : List TV → Heap → Option (Bool × Heap)
  | [.c (Cell.ptr m), .c (Cell.int .i64 t), .c (Cell.int .i64 k)], H => f m t k H
  | _, _ => none
noncomputable def F030 : Ty30 := fun m t k H => fnA CC30 Tryz.f30.results.toList (bodyOf Tryz.f30) _ [.c (Cell.ptr m), .c (Cell.int .i64 t), .c (Cell.int .i64 k)] H (decF dec30)
noncomputable def f30 : Ty30 := hide F030
theorem f30_eq : f30 = F030 := hide_eq _
theorem q30 : ∀ (m : PO) (t k : Int) (H : Heap), f30 m t k H = (f47 m t H).bind fun v20 => bif !v20.1 then some (false, v20.2) else bif decide (k < 0) then some (false, v20.2) else m.bind fun v19 => (v20.2.get v19.1 (v19.2 + 0)).bind fun v18 => v18.toSlice.bind fun v17 => bif decide (k ≥ slen v17) then some (false, v20.2) else m.bind fun v16 => (v20.2.get v16.1 (v16.2 + 0)).bind fun v15 => v15.toSlice.bind fun v14 => v14.bind fun v13 => bif inb k v13.len && v13.esz == 5 then (v20.2.get v13.id (v13.off + k.toNat * 5 + 0 + 3)).bind fun v12 => v12.toBool.bind fun v11 => bif !v11 then some (false, v20.2) else m.bind fun v10 => (v20.2.get v10.1 (v10.2 + 0)).bind fun v9 => v9.toSlice.bind fun v8 => v8.bind fun v7 => bif inb k v7.len && v7.esz == 5 then (v20.2.get v7.id (v7.off + k.toNat * 5 + 4)).bind fun v6 => (Cell.toInt .i64 v6).bind fun v5 => bif v5 != -1 then some (false, v20.2) else m.bind fun v4 => (v20.2.get v4.1 (v4.2 + 0)).bind fun v3 => v3.toSlice.bind fun v2 => v2.bind fun v1 => bif inb k v1.len && v1.esz == 5 then (v20.2.put v1.id (v1.off + k.toNat * 5 + 4) [Cell.int .i64 t]).bind fun v0 => some (true, v0) else none else none else none := by intros; rw [f30_eq]; exact (fnA_lpD hN30 ..).trans (by kernel_rfl)
theorem ok30 : FnOk Tryz.prog 30 (specF enc30 (sem30 f30)) := by
  refine spec_ok (C := CC30) good30 rfl rfl rfl (by kernel_rfl) Tryz.func30 (c := bodyOf Tryz.f30) (by kernel_rfl) (by kernel_rfl) (Nat.le_of_eq Tryz.ntmps30.symm) dec30 enc30 de30 _ ?_
  intro args H q h
  unfold sem30 at h
  split at h
  · rw [f30_eq] at h; exact h
  · cases h
/-! 31: R9_Mem_Own -/
noncomputable def CC31 : Ctx := { P := Tryz.prog, own := [], fns := [], nt := 56, nums := [], live := [] }
theorem good31 : Callees Tryz.prog CC31.fns [] CC31.nums := Callees.nil Tryz.prog
theorem hN31 : CtxNat CC31 := good31.ctx rfl rfl rfl
def enc31 (r : Bool) : List TV := [.c (Cell.bool (r))]
def dec31 : AV → Option (Bool)
  | .c (Cell.bool q0) => some (q0)
  | _ => none
theorem de31 (v : AV) (r : Bool) (h : dec31 v = some r) : v = oneOf (enc31 r) := by
  unfold dec31 at h
  split at h
  · cases h; rfl
  · cases h
abbrev Ty31 := PO → Int → Int → Heap → Option (Bool × Heap)
def sem31 (f : Ty31) : List TV → Heap → Option (Bool × Heap)
  | [.c (Cell.ptr m), .c (Cell.int .i64 t), .c (Cell.int .i64 k)], H => f m t k H
  | _, _ => none
noncomputable def F031 : Ty31 := fun m t k H => fnA CC31 Tryz.f31.results.toList (bodyOf Tryz.f31) _ [.c (Cell.ptr m), .c (Cell.int .i64 t), .c (Cell.int .i64 k)] H (decF dec31)
noncomputable def f31 : Ty31 := hide F031
theorem f31_eq : f31 = F031 := hide_eq _
theorem q31 : ∀ (m : PO) (t k : Int) (H : Heap), f31 m t k H = bif decide (t < 0) then some (false, H) else bif decide (t > 7) then some (false, H) else bif decide (k < 0) then some (false, H) else m.bind fun v19 => (H.get v19.1 (v19.2 + 0)).bind fun v18 => v18.toSlice.bind fun v17 => bif decide (k ≥ slen v17) then some (false, H) else m.bind fun v16 => (H.get v16.1 (v16.2 + 0)).bind fun v15 => v15.toSlice.bind fun v14 => v14.bind fun v13 => bif inb k v13.len && v13.esz == 5 then (H.get v13.id (v13.off + k.toNat * 5 + 3)).bind fun v12 => v12.toBool.bind fun v11 => bif !v11 then some (false, H) else m.bind fun v10 => (H.get v10.1 (v10.2 + 0)).bind fun v9 => v9.toSlice.bind fun v8 => v8.bind fun v7 => bif inb k v7.len && v7.esz == 5 then (H.get v7.id (v7.off + k.toNat * 5 + 4)).bind fun v6 => (Cell.toInt .i64 v6).bind fun v5 => bif v5 != -1 then some (false, H) else m.bind fun v4 => (H.get v4.1 (v4.2 + 0)).bind fun v3 => v3.toSlice.bind fun v2 => v2.bind fun v1 => bif inb k v1.len && v1.esz == 5 then (H.put v1.id (v1.off + k.toNat * 5 + 4) [Cell.int .i64 t]).bind fun v0 => some (true, v0) else none else none else none := by intros; rw [f31_eq]; exact (fnA_lpD hN31 ..).trans (by kernel_rfl)
theorem ok31 : FnOk Tryz.prog 31 (specF enc31 (sem31 f31)) := by
  refine spec_ok (C := CC31) good31 rfl rfl rfl (by kernel_rfl) Tryz.func31 (c := bodyOf Tryz.f31) (by kernel_rfl) (by kernel_rfl) (Nat.le_of_eq Tryz.ntmps31.symm) dec31 enc31 de31 _ ?_
  intro args H q h
  unfold sem31 at h
  split at h
  · rw [f31_eq] at h; exact h
  · cases h
/-! 105: bits_Is -/
noncomputable def CC105 : Ctx := { P := Tryz.prog, own := [], fns := [], nt := 17, nums := [], live := [] }
theorem good105 : Callees Tryz.prog CC105.fns [] CC105.nums := Callees.nil Tryz.prog
theorem hN105 : CtxNat CC105 := good105.ctx rfl rfl rfl
def enc105 (r : Bool) : List TV := [.c (Cell.bool (r))]
def dec105 : AV → Option (Bool)
  | .c (Cell.bool q0) => some (q0)
  | _ => none
theorem de105 (v : AV) (r : Bool) (h : dec105 v = some r) : v = oneOf (enc105 r) := by
  unfold dec105 at h
  split at h
  · cases h; rfl
  · cases h
abbrev Ty105 := Int → Heap → Option (Bool × Heap)
def sem105 (f : Ty105) : List TV → Heap → Option (Bool × Heap)
  | [.c (Cell.int .i64 w)], H => f w H
  | _, _ => none
noncomputable def F0105 : Ty105 := fun w H => fnA CC105 Tryz.f105.results.toList (bodyOf Tryz.f105) _ [.c (Cell.int .i64 w)] H (decF dec105)
noncomputable def f105 : Ty105 := hide F0105
theorem f105_eq : f105 = F0105 := hide_eq _
theorem q105 : ∀ (w : Int) (H : Heap), f105 w H = bif w == 1 then some (true, H) else bif w == 2 then some (true, H) else bif w == 4 then some (true, H) else some (w == 8, H) := by intros; rw [f105_eq]; exact (fnA_lpD hN105 ..).trans (by kernel_rfl)
theorem ok105 : FnOk Tryz.prog 105 (specF enc105 (sem105 f105)) := by
  refine spec_ok (C := CC105) good105 rfl rfl rfl (by kernel_rfl) Tryz.func105 (c := bodyOf Tryz.f105) (by kernel_rfl) (by kernel_rfl) (Nat.le_of_eq Tryz.ntmps105.symm) dec105 enc105 de105 _ ?_
  intro args H q h
  unfold sem105 at h
  split at h
  · rw [f105_eq] at h; exact h
  · cases h
/-! 106: mem_Mem_there -/
noncomputable def CC106 : Ctx := { P := Tryz.prog, own := [10], fns := [(138, specF enc138 (sem138 f138))], nt := 42, nums := [], live := [] }
theorem good106 : Callees Tryz.prog CC106.fns [] CC106.nums := (Callees.nil Tryz.prog).cons ok138 (specF_nat _ _)
theorem hN106 : CtxNat CC106 := good106.ctx rfl rfl rfl
def enc106 (r : Bool) : List TV := [.c (Cell.bool (r))]
def dec106 : AV → Option (Bool)
  | .c (Cell.bool q0) => some (q0)
  | _ => none
theorem de106 (v : AV) (r : Bool) (h : dec106 v = some r) : v = oneOf (enc106 r) := by
  unfold dec106 at h
  split at h
  · cases h; rfl
  · cases h
abbrev Ty106 := PO → Int → Int → Bool → Heap → Option (Bool × Heap)
def sem106 (f : Ty106) : List TV → Heap → Option (Bool × Heap)
  | [.c (Cell.ptr m), .c (Cell.int .i64 t), .c (Cell.int .u64 x2), .c (Cell.bool write)], H => f m t x2 write H
  | _, _ => none
noncomputable def F0106 : Ty106 := fun m t x2 write H => fnA CC106 Tryz.f106.results.toList (bodyOf Tryz.f106) _ [.c (Cell.ptr m), .c (Cell.int .i64 t), .c (Cell.int .u64 x2), .c (Cell.bool write)] H (decF dec106)
noncomputable def f106 : Ty106 := hide F0106
theorem f106_eq : f106 = F0106 := hide_eq _
theorem q106 : ∀ (m : PO) (t x2 : Int) (write : Bool) (H : Heap), f106 m t x2 write H = (f138 m x2 H).bind fun v14 => bif decide (v14.1 < 0) then some (false, v14.2) else m.bind fun v13 => (v14.2.get v13.1 (v13.2 + 0)).bind fun v12 => v12.toSlice.bind fun v11 => v11.bind fun v10 => bif inb v14.1 v10.len && v10.esz == 5 then (v14.2.get v10.id (v10.off + v14.1.toNat * 5)).bind fun v9 => (v14.2.get v10.id (v10.off + v14.1.toNat * 5 + 1)).bind fun v8 => (v14.2.get v10.id (v10.off + v14.1.toNat * 5 + 1 + 1)).bind fun v7 => (v14.2.get v10.id (v10.off + v14.1.toNat * 5 + 1 + 1 + 1)).bind fun v6 => (v14.2.get v10.id (v10.off + v14.1.toNat * 5 + 1 + 1 + 1 + 1)).bind fun v5 => (Cell.toInt .u64 v9).bind fun v4 => v8.toSlice.bind fun v3 => v7.toBool.bind fun v2 => v6.toBool.bind fun v1 => (Cell.toInt .i64 v5).bind fun v0 => bif !v1 then bif v2 then some (true, v14.2) else some (!write, v14.2) else bif v0 == t then bif v2 then some (true, v14.2) else some (!write, v14.2) else some (false, v14.2) else none := by intros; rw [f106_eq]; exact (fnA_lpD hN106 ..).trans (by kernel_rfl)
theorem ok106 : FnOk Tryz.prog 106 (specF enc106 (sem106 f106)) := by
  refine spec_ok (C := CC106) good106 rfl rfl rfl (by kernel_rfl) Tryz.func106 (c := bodyOf Tryz.f106) (by kernel_rfl) (by kernel_rfl) (Nat.le_of_eq Tryz.ntmps106.symm) dec106 enc106 de106 _ ?_
  intro args H q h
  unfold sem106 at h
  split at h
  · rw [f106_eq] at h; exact h
  · cases h
/-! 59: mem_Mem_May -/
noncomputable def CC59 : Ctx := { P := Tryz.prog, own := [], fns := [(106, specF enc106 (sem106 f106)), (105, specF enc105 (sem105 f105)), (47, specF enc47 (sem47 f47))], nt := 43, nums := [], live := [(4, ⟨[0, 1, 2, 4, 30, 31], [], [10], []⟩)] }
theorem good59 : Callees Tryz.prog CC59.fns [] CC59.nums := (((Callees.nil Tryz.prog).cons ok47 (specF_nat _ _)).cons ok105 (specF_nat _ _)).cons ok106 (specF_nat _ _)
theorem hN59 : CtxNat CC59 := good59.ctx rfl rfl rfl
def enc59 (r : Bool) : List TV := [.c (Cell.bool (r))]
def dec59 : AV → Option (Bool)
  | .c (Cell.bool q0) => some (q0)
  | _ => none
theorem de59 (v : AV) (r : Bool) (h : dec59 v = some r) : v = oneOf (enc59 r) := by
  unfold dec59 at h
  split at h
  · cases h; rfl
  · cases h
abbrev Ty59 := PO → Int → Int → Int → Bool → Heap → Option (Bool × Heap)
def sem59 (f : Ty59) : List TV → Heap → Option (Bool × Heap)
  | [.c (Cell.ptr m), .c (Cell.int .i64 t), .c (Cell.int .u64 x2), .c (Cell.int .i64 w), .c (Cell.bool write)], H => f m t x2 w write H
  | _, _ => none
noncomputable def F059 : Ty59 := fun m t x2 w write H => fnA CC59 Tryz.f59.results.toList (bodyOf Tryz.f59) _ [.c (Cell.ptr m), .c (Cell.int .i64 t), .c (Cell.int .u64 x2), .c (Cell.int .i64 w), .c (Cell.bool write)] H (decF dec59)
noncomputable def f59 : Ty59 := hide F059
theorem f59_eq : f59 = F059 := hide_eq _
noncomputable def P59_4 : Code := (Code.l (Code.l (Code.r (Code.l (Code.r (Code.r (bodyOf Tryz.f59)))))))
def S59_4 (t0 : PO) (t1 t2 : Int) (t4 : Bool) (t30 t31 : Int) (H : Heap) : St := ⟨[(0, .c (Cell.ptr t0)), (1, .c (Cell.int .i64 t1)), (2, .c (Cell.int .u64 t2)), (4, .c (Cell.bool t4)), (30, .c (Cell.int .u64 t30)), (31, .c (Cell.int .u64 t31))], [], H⟩
noncomputable def D59_4 (n : Nat) (t0 : PO) (t1 t2 : Int) (t4 : Bool) (t30 t31 : Int) (H : Heap) : Option (AExit × St) := loopN (exec CC59 P59_4) (keepOf CC59.live P59_4) n (S59_4 t0 t1 t2 t4 t30 t31 H) retD
noncomputable def LL59_4 (t0 : PO) (t1 t2 : Int) (t4 : Bool) (t30 t31 : Int) (H : Heap) : Option (AExit × St) := loopsD CC59 P59_4 (S59_4 t0 t1 t2 t4 t30 t31 H)
theorem LL59_4_of (m : Nat) (hm : m < 18446744073709551616) (t0 : PO) (t1 t2 : Int) (t4 : Bool) (t30 t31 : Int) (H : Heap) : ∃ n, LL59_4 t0 t1 t2 t4 t30 t31 H = D59_4 (n + m + 1) t0 t1 t2 t4 t30 t31 H := loopsD_of _ _ _ m hm
def X59_4 (x0 : Bool) (H : Heap) : St := { env := [(10, AV.c (Cell.bool x0))], loc := [], heap := H }
def X59_4a (H : Heap) : St := { env := [], loc := [], heap := H }
noncomputable def J59_4 : AExit × St → Option (Bool × Heap) := fun p => blockK 0 (seqK (execL CC59 (lpD CC59) (Code.r (Code.r (Code.r (bodyOf Tryz.f59))))) (retA CC59 [ResultVar.tmp 10] (decF dec59))) p.1 p.2
theorem D59_4_s : ∀ (n : Nat) (t0 : PO) (t1 t2 : Int) (t4 : Bool) (t30 t31 : Int) (H : Heap), D59_4 (n + 1) t0 t1 t2 t4 t30 t31 H = bif decide (t31 < t30) then (f106 t0 t1 (IntKind.u64.wrap (t2 + t31)) t4 H).bind fun v0 => bif !v0.1 then some (AExit.ret, X59_4 false v0.2) else D59_4 n t0 t1 t2 t4 t30 (IntKind.u64.wrap (t31 + 1)) v0.2 else some (AExit.exit 0, X59_4a H) := by intros; exact (loopN_stepD hN59 _ _ _ _).trans (by kernel_rfl)
theorem q59 : ∀ (m : PO) (t x2 w : Int) (write : Bool) (H : Heap), f59 m t x2 w write H = (f47 m t H).bind fun v2 => bif !v2.1 then some (false, v2.2) else (f105 w v2.2).bind fun v1 => bif !v1.1 then some (false, v1.2) else bif decide (x2 > IntKind.u64.wrap (18446744073709551615 - IntKind.u64.wrap (IntKind.i64.wrap (w - 1)))) then some (false, v1.2) else (LL59_4 m t x2 write (IntKind.u64.wrap w) 0 v1.2).bind J59_4 := by intros; rw [f59_eq]; exact (fnA_lpD hN59 ..).trans (by kernel_rfl)
theorem J59_4_0 : ∀ (x0 : Bool) (H : Heap), J59_4 (AExit.ret, X59_4 x0 H) = some (x0, H) := by intros; kernel_rfl
theorem J59_4_1 : ∀ (H : Heap), J59_4 (AExit.exit 0, X59_4a H) = some (true, H) := by intros; kernel_rfl
theorem ok59 : FnOk Tryz.prog 59 (specF enc59 (sem59 f59)) := by
  refine spec_ok (C := CC59) good59 rfl rfl rfl (by kernel_rfl) Tryz.func59 (c := bodyOf Tryz.f59) (by kernel_rfl) (by kernel_rfl) (Nat.le_of_eq Tryz.ntmps59.symm) dec59 enc59 de59 _ ?_
  intro args H q h
  unfold sem59 at h
  split at h
  · rw [f59_eq] at h; exact h
  · cases h
/-! 107: bits_Mask -/
noncomputable def CC107 : Ctx := { P := Tryz.prog, own := [], fns := [(105, specF enc105 (sem105 f105))], nt := 10, nums := [], live := [] }
theorem good107 : Callees Tryz.prog CC107.fns [] CC107.nums := (Callees.nil Tryz.prog).cons ok105 (specF_nat _ _)
theorem hN107 : CtxNat CC107 := good107.ctx rfl rfl rfl
def enc107 (r : Int) : List TV := [.c (Cell.int .u64 (r))]
def dec107 : AV → Option (Int)
  | .c (Cell.int .u64 q0) => some (q0)
  | _ => none
theorem de107 (v : AV) (r : Int) (h : dec107 v = some r) : v = oneOf (enc107 r) := by
  unfold dec107 at h
  split at h
  · cases h; rfl
  · cases h
abbrev Ty107 := Int → Heap → Option (Int × Heap)
def sem107 (f : Ty107) : List TV → Heap → Option (Int × Heap)
  | [.c (Cell.int .i64 w)], H => f w H
  | _, _ => none
noncomputable def F0107 : Ty107 := fun w H => fnA CC107 Tryz.f107.results.toList (bodyOf Tryz.f107) _ [.c (Cell.int .i64 w)] H (decF dec107)
noncomputable def f107 : Ty107 := hide F0107
theorem f107_eq : f107 = F0107 := hide_eq _
theorem q107 : ∀ (w : Int) (H : Heap), f107 w H = (f105 w H).bind fun v0 => bif !v0.1 then some (0, v0.2) else bif decide (IntKind.i64.wrap (64 - IntKind.i64.wrap (8 * w)) < 0) then none else some (ishr IntKind.u64 18446744073709551615 (IntKind.i64.wrap (64 - IntKind.i64.wrap (8 * w))), v0.2) := by intros; rw [f107_eq]; exact (fnA_lpD hN107 ..).trans (by kernel_rfl)
theorem ok107 : FnOk Tryz.prog 107 (specF enc107 (sem107 f107)) := by
  refine spec_ok (C := CC107) good107 rfl rfl rfl (by kernel_rfl) Tryz.func107 (c := bodyOf Tryz.f107) (by kernel_rfl) (by kernel_rfl) (Nat.le_of_eq Tryz.ntmps107.symm) dec107 enc107 de107 _ ?_
  intro args H q h
  unfold sem107 at h
  split at h
  · rw [f107_eq] at h; exact h
  · cases h
/-! 60: bits_Zx -/
noncomputable def CC60 : Ctx := { P := Tryz.prog, own := [], fns := [(107, specF enc107 (sem107 f107))], nt := 9, nums := [], live := [] }
theorem good60 : Callees Tryz.prog CC60.fns [] CC60.nums := (Callees.nil Tryz.prog).cons ok107 (specF_nat _ _)
theorem hN60 : CtxNat CC60 := good60.ctx rfl rfl rfl
def enc60 (r : Int) : List TV := [.c (Cell.int .u64 (r))]
def dec60 : AV → Option (Int)
  | .c (Cell.int .u64 q0) => some (q0)
  | _ => none
theorem de60 (v : AV) (r : Int) (h : dec60 v = some r) : v = oneOf (enc60 r) := by
  unfold dec60 at h
  split at h
  · cases h; rfl
  · cases h
abbrev Ty60 := Int → Int → Heap → Option (Int × Heap)
def sem60 (f : Ty60) : List TV → Heap → Option (Int × Heap)
  | [.c (Cell.int .u64 v), .c (Cell.int .i64 w)], H => f v w H
  | _, _ => none
noncomputable def F060 : Ty60 := fun v w H => fnA CC60 Tryz.f60.results.toList (bodyOf Tryz.f60) _ [.c (Cell.int .u64 v), .c (Cell.int .i64 w)] H (decF dec60)
noncomputable def f60 : Ty60 := hide F060
theorem f60_eq : f60 = F060 := hide_eq _
theorem q60 : ∀ (v w : Int) (H : Heap), f60 v w H = (f107 w H).bind fun v0 => some (band IntKind.u64 v v0.1, v0.2) := by intros; rw [f60_eq]; exact (fnA_lpD hN60 ..).trans (by kernel_rfl)
theorem ok60 : FnOk Tryz.prog 60 (specF enc60 (sem60 f60)) := by
  refine spec_ok (C := CC60) good60 rfl rfl rfl (by kernel_rfl) Tryz.func60 (c := bodyOf Tryz.f60) (by kernel_rfl) (by kernel_rfl) (Nat.le_of_eq Tryz.ntmps60.symm) dec60 enc60 de60 _ ?_
  intro args H q h
  unfold sem60 at h
  split at h
  · rw [f60_eq] at h; exact h
  · cases h
/-! 32: mem_Mem_Store -/
noncomputable def CC32 : Ctx := { P := Tryz.prog, own := [], fns := [(60, specF enc60 (sem60 f60)), (58, specF enc58 (sem58 f58)), (59, specF enc59 (sem59 f59))], nt := 47, nums := [], live := [] }
theorem good32 : Callees Tryz.prog CC32.fns [] CC32.nums := (((Callees.nil Tryz.prog).cons ok59 (specF_nat _ _)).cons ok58 (specF_nat _ _)).cons ok60 (specF_nat _ _)
theorem hN32 : CtxNat CC32 := good32.ctx rfl rfl rfl
def enc32 (r : Bool) : List TV := [.c (Cell.bool (r))]
def dec32 : AV → Option (Bool)
  | .c (Cell.bool q0) => some (q0)
  | _ => none
theorem de32 (v : AV) (r : Bool) (h : dec32 v = some r) : v = oneOf (enc32 r) := by
  unfold dec32 at h
  split at h
  · cases h; rfl
  · cases h
abbrev Ty32 := PO → Int → Int → Int → Int → Heap → Option (Bool × Heap)
def sem32 (f : Ty32) : List TV → Heap → Option (Bool × Heap)
  | [.c (Cell.ptr m), .c (Cell.int .i64 t), .c (Cell.int .u64 x2), .c (Cell.int .i64 w), .c (Cell.int .u64 v)], H => f m t x2 w v H
  | _, _ => none
noncomputable def F032 : Ty32 := fun m t x2 w v H => fnA CC32 Tryz.f32.results.toList (bodyOf Tryz.f32) _ [.c (Cell.ptr m), .c (Cell.int .i64 t), .c (Cell.int .u64 x2), .c (Cell.int .i64 w), .c (Cell.int .u64 v)] H (decF dec32)
noncomputable def f32 : Ty32 := hide F032
theorem f32_eq : f32 = F032 := hide_eq _
theorem q32 : ∀ (m : PO) (t x2 w v : Int) (H : Heap), f32 m t x2 w v H = (f59 m t x2 w true H).bind fun v18 => bif !v18.1 then some (false, v18.2) else m.bind fun v17 => bif inb t 8 then (v18.2.get v17.1 (v17.2 + 1 + t.toNat * 1)).bind fun v16 => v16.toSlice.bind fun v15 => bif decide (slen v15 ≥ 65536) then (f58 m t v18.2).bind fun v7 => m.bind fun v6 => bif inb t 8 then (v7.2.get v6.1 (v6.2 + 1 + t.toNat * 1)).bind fun v5 => v5.toSlice.bind fun v4 => (f60 v w v7.2).bind fun v3 => bif same v6.1 v7.2 v3.2 then ((v3.2 ++ [Blk.row [Cell.int .u64 x2, Cell.int .i64 w, Cell.int .u64 v3.1] false]).append 3 24 v4 (some { id := List.length v3.2, off := 0, len := 1, cap := 1, esz := 3 })).bind fun v2 => m.bind fun v1 => bif inb t 8 then (v2.2.put v1.1 (v1.2 + 1 + t.toNat * 1) [Cell.slice v2.1]).bind fun v0 => some (true, v0) else none else none else none else m.bind fun v14 => bif inb t 8 then (v18.2.get v14.1 (v14.2 + 1 + t.toNat * 1)).bind fun v13 => v13.toSlice.bind fun v12 => (f60 v w v18.2).bind fun v11 => bif same v14.1 v18.2 v11.2 then ((v11.2 ++ [Blk.row [Cell.int .u64 x2, Cell.int .i64 w, Cell.int .u64 v11.1] false]).append 3 24 v12 (some { id := List.length v11.2, off := 0, len := 1, cap := 1, esz := 3 })).bind fun v10 => m.bind fun v9 => bif inb t 8 then (v10.2.put v9.1 (v9.2 + 1 + t.toNat * 1) [Cell.slice v10.1]).bind fun v8 => some (true, v8) else none else none else none else none := by intros; rw [f32_eq]; exact (fnA_lpD hN32 ..).trans (by kernel_rfl)
theorem ok32 : FnOk Tryz.prog 32 (specF enc32 (sem32 f32)) := by
  refine spec_ok (C := CC32) good32 rfl rfl rfl (by kernel_rfl) Tryz.func32 (c := bodyOf Tryz.f32) (by kernel_rfl) (by kernel_rfl) (Nat.le_of_eq Tryz.ntmps32.symm) dec32 enc32 de32 _ ?_
  intro args H q h
  unfold sem32 at h
  split at h
  · rw [f32_eq] at h; exact h
  · cases h
/-! 108: R2_Is -/
noncomputable def CC108 : Ctx := { P := Tryz.prog, own := [], fns := [], nt := 17, nums := [], live := [] }
theorem good108 : Callees Tryz.prog CC108.fns [] CC108.nums := Callees.nil Tryz.prog
theorem hN108 : CtxNat CC108 := good108.ctx rfl rfl rfl
def enc108 (r : Bool) : List TV := [.c (Cell.bool (r))]
def dec108 : AV → Option (Bool)
  | .c (Cell.bool q0) => some (q0)
  | _ => none
theorem de108 (v : AV) (r : Bool) (h : dec108 v = some r) : v = oneOf (enc108 r) := by
  unfold dec108 at h
  split at h
  · cases h; rfl
  · cases h
abbrev Ty108 := Int → Heap → Option (Bool × Heap)
def sem108 (f : Ty108) : List TV → Heap → Option (Bool × Heap)
  | [.c (Cell.int .i64 w)], H => f w H
  | _, _ => none
noncomputable def F0108 : Ty108 := fun w H => fnA CC108 Tryz.f108.results.toList (bodyOf Tryz.f108) _ [.c (Cell.int .i64 w)] H (decF dec108)
noncomputable def f108 : Ty108 := hide F0108
theorem f108_eq : f108 = F0108 := hide_eq _
theorem q108 : ∀ (w : Int) (H : Heap), f108 w H = bif w == 1 then some (true, H) else bif w == 2 then some (true, H) else bif w == 4 then some (true, H) else some (w == 8, H) := by intros; rw [f108_eq]; exact (fnA_lpD hN108 ..).trans (by kernel_rfl)
theorem ok108 : FnOk Tryz.prog 108 (specF enc108 (sem108 f108)) := by
  refine spec_ok (C := CC108) good108 rfl rfl rfl (by kernel_rfl) Tryz.func108 (c := bodyOf Tryz.f108) (by kernel_rfl) (by kernel_rfl) (Nat.le_of_eq Tryz.ntmps108.symm) dec108 enc108 de108 _ ?_
  intro args H q h
  unfold sem108 at h
  split at h
  · rw [f108_eq] at h; exact h
  · cases h
/-! 109: R9_Mem_Find -/
noncomputable def CC109 : Ctx := { P := Tryz.prog, own := [6], fns := [], nt := 28, nums := [], live := [(2, ⟨[1, 10, 11, 12], [], [4], []⟩)] }
theorem good109 : Callees Tryz.prog CC109.fns [] CC109.nums := Callees.nil Tryz.prog
theorem hN109 : CtxNat CC109 := good109.ctx rfl rfl rfl
def enc109 (r : Int) : List TV := [.c (Cell.int .i64 (r))]
def dec109 : AV → Option (Int)
  | .c (Cell.int .i64 q0) => some (q0)
  | _ => none
theorem de109 (v : AV) (r : Int) (h : dec109 v = some r) : v = oneOf (enc109 r) := by
  unfold dec109 at h
  split at h
  · cases h; rfl
  · cases h
abbrev Ty109 := PO → Int → Heap → Option (Int × Heap)
def sem109 (f : Ty109) : List TV → Heap → Option (Int × Heap)
  | [.c (Cell.ptr m), .c (Cell.int .u64 x1)], H => f m x1 H
  | _, _ => none
noncomputable def F0109 : Ty109 := fun m x1 H => fnA CC109 Tryz.f109.results.toList (bodyOf Tryz.f109) _ [.c (Cell.ptr m), .c (Cell.int .u64 x1)] H (decF dec109)
noncomputable def f109 : Ty109 := hide F0109
theorem f109_eq : f109 = F0109 := hide_eq _
noncomputable def P109_2 : Code := (Code.l (Code.l (Code.r (Code.l (Code.r (bodyOf Tryz.f109))))))
def S109_2 (t1 : Int) (t10 : SO) (t11 t12 : Int) (H : Heap) : St := ⟨[(1, .c (Cell.int .u64 t1)), (10, .c (Cell.slice t10)), (11, .c (Cell.int .i64 t11)), (12, .c (Cell.int .i64 t12))], [], H⟩
noncomputable def D109_2 (n : Nat) (t1 : Int) (t10 : SO) (t11 t12 : Int) (H : Heap) : Option (AExit × St) := loopN (exec CC109 P109_2) (keepOf CC109.live P109_2) n (S109_2 t1 t10 t11 t12 H) retD
noncomputable def LL109_2 (t1 : Int) (t10 : SO) (t11 t12 : Int) (H : Heap) : Option (AExit × St) := loopsD CC109 P109_2 (S109_2 t1 t10 t11 t12 H)
theorem LL109_2_of (m : Nat) (hm : m < 18446744073709551616) (t1 : Int) (t10 : SO) (t11 t12 : Int) (H : Heap) : ∃ n, LL109_2 t1 t10 t11 t12 H = D109_2 (n + m + 1) t1 t10 t11 t12 H := loopsD_of _ _ _ m hm
def X109_2 (x0 : Int) (H : Heap) : St := { env := [(4, AV.c (Cell.int .i64 x0))], loc := [], heap := H }
def X109_2a (H : Heap) : St := { env := [], loc := [], heap := H }
noncomputable def J109_2 : AExit × St → Option (Int × Heap) := fun p => blockK 0 (seqK (execL CC109 (lpD CC109) (Code.r (Code.r (bodyOf Tryz.f109)))) (retA CC109 [ResultVar.tmp 4] (decF dec109))) p.1 p.2
theorem D109_2_s : ∀ (n : Nat) (t1 : Int) (t10 : SO) (t11 t12 : Int) (H : Heap), D109_2 (n + 1) t1 t10 t11 t12 H = bif decide (t12 < t11) then t10.bind fun v10 => bif inb t12 v10.len && v10.esz == 5 then (H.get v10.id (v10.off + t12.toNat * 5)).bind fun v9 => (H.get v10.id (v10.off + t12.toNat * 5 + 1)).bind fun v8 => (H.get v10.id (v10.off + t12.toNat * 5 + 1 + 1)).bind fun v7 => (H.get v10.id (v10.off + t12.toNat * 5 + 1 + 1 + 1)).bind fun v6 => (H.get v10.id (v10.off + t12.toNat * 5 + 1 + 1 + 1 + 1)).bind fun v5 => (Cell.toInt .u64 v9).bind fun v4 => v8.toSlice.bind fun v3 => v7.toBool.bind fun v2 => v6.toBool.bind fun v1 => (Cell.toInt .i64 v5).bind fun v0 => bif decide (IntKind.u64.wrap (t1 - v4) < IntKind.u64.wrap (slen v3)) then some (AExit.ret, X109_2 t12 H) else D109_2 n t1 t10 t11 (IntKind.i64.wrap (t12 + 1)) H else none else some (AExit.exit 0, X109_2a H) := by intros; exact (loopN_stepD hN109 _ _ _ _).trans (by kernel_rfl)
theorem q109 : ∀ (m : PO) (x1 : Int) (H : Heap), f109 m x1 H = m.bind fun v13 => (H.get v13.1 (v13.2 + 0)).bind fun v12 => v12.toSlice.bind fun v11 => (LL109_2 x1 v11 (slen v11) 0 H).bind J109_2 := by intros; rw [f109_eq]; exact (fnA_lpD hN109 ..).trans (by kernel_rfl)
theorem J109_2_0 : ∀ (x0 : Int) (H : Heap), J109_2 (AExit.ret, X109_2 x0 H) = some (x0, H) := by intros; kernel_rfl
theorem J109_2_1 : ∀ (H : Heap), J109_2 (AExit.exit 0, X109_2a H) = some (-1, H) := by intros; kernel_rfl
theorem ok109 : FnOk Tryz.prog 109 (specF enc109 (sem109 f109)) := by
  refine spec_ok (C := CC109) good109 rfl rfl rfl (by kernel_rfl) Tryz.func109 (c := bodyOf Tryz.f109) (by kernel_rfl) (by kernel_rfl) (Nat.le_of_eq Tryz.ntmps109.symm) dec109 enc109 de109 _ ?_
  intro args H q h
  unfold sem109 at h
  split at h
  · rw [f109_eq] at h; exact h
  · cases h
/-! 61: R9_Mem_May -/
noncomputable def CC61 : Ctx := { P := Tryz.prog, own := [], fns := [(109, specF enc109 (sem109 f109)), (108, specF enc108 (sem108 f108))], nt := 82, nums := [], live := [(4, ⟨[0, 1, 2, 3, 4, 11], [], [10], []⟩)] }
theorem good61 : Callees Tryz.prog CC61.fns [] CC61.nums := ((Callees.nil Tryz.prog).cons ok108 (specF_nat _ _)).cons ok109 (specF_nat _ _)
theorem hN61 : CtxNat CC61 := good61.ctx rfl rfl rfl
def enc61 (r : Bool) : List TV := [.c (Cell.bool (r))]
def dec61 : AV → Option (Bool)
  | .c (Cell.bool q0) => some (q0)
  | _ => none
theorem de61 (v : AV) (r : Bool) (h : dec61 v = some r) : v = oneOf (enc61 r) := by
  unfold dec61 at h
  split at h
  · cases h; rfl
  · cases h
abbrev Ty61 := PO → Int → Int → Int → Bool → Heap → Option (Bool × Heap)
def sem61 (f : Ty61) : List TV → Heap → Option (Bool × Heap)
  | [.c (Cell.ptr m), .c (Cell.int .i64 t), .c (Cell.int .u64 x2), .c (Cell.int .i64 w), .c (Cell.bool write)], H => f m t x2 w write H
  | _, _ => none
noncomputable def F061 : Ty61 := fun m t x2 w write H => fnA CC61 Tryz.f61.results.toList (bodyOf Tryz.f61) _ [.c (Cell.ptr m), .c (Cell.int .i64 t), .c (Cell.int .u64 x2), .c (Cell.int .i64 w), .c (Cell.bool write)] H (decF dec61)
noncomputable def f61 : Ty61 := hide F061
theorem f61_eq : f61 = F061 := hide_eq _
noncomputable def P61_4 : Code := (Code.l (Code.l (Code.r (Code.l (Code.r (Code.r (bodyOf Tryz.f61)))))))
def S61_4 (t0 : PO) (t1 t2 t3 : Int) (t4 : Bool) (t11 : Int) (H : Heap) : St := ⟨[(0, .c (Cell.ptr t0)), (1, .c (Cell.int .i64 t1)), (2, .c (Cell.int .u64 t2)), (3, .c (Cell.int .i64 t3)), (4, .c (Cell.bool t4)), (11, .c (Cell.int .i64 t11))], [], H⟩
noncomputable def D61_4 (n : Nat) (t0 : PO) (t1 t2 t3 : Int) (t4 : Bool) (t11 : Int) (H : Heap) : Option (AExit × St) := loopN (exec CC61 P61_4) (keepOf CC61.live P61_4) n (S61_4 t0 t1 t2 t3 t4 t11 H) retD
noncomputable def LL61_4 (t0 : PO) (t1 t2 t3 : Int) (t4 : Bool) (t11 : Int) (H : Heap) : Option (AExit × St) := loopsD CC61 P61_4 (S61_4 t0 t1 t2 t3 t4 t11 H)
theorem LL61_4_of (m : Nat) (hm : m < 18446744073709551616) (t0 : PO) (t1 t2 t3 : Int) (t4 : Bool) (t11 : Int) (H : Heap) : ∃ n, LL61_4 t0 t1 t2 t3 t4 t11 H = D61_4 (n + m + 1) t0 t1 t2 t3 t4 t11 H := loopsD_of _ _ _ m hm
def X61_4 (x0 : Bool) (H : Heap) : St := { env := [(10, AV.c (Cell.bool x0))], loc := [], heap := H }
def X61_4a (H : Heap) : St := { env := [], loc := [], heap := H }
noncomputable def J61_4 : AExit × St → Option (Bool × Heap) := fun p => blockK 0 (seqK (execL CC61 (lpD CC61) (Code.r (Code.r (Code.r (bodyOf Tryz.f61))))) (retA CC61 [ResultVar.tmp 10] (decF dec61))) p.1 p.2
theorem D61_4_s : ∀ (n : Nat) (t0 : PO) (t1 t2 t3 : Int) (t4 : Bool) (t11 : Int) (H : Heap), D61_4 (n + 1) t0 t1 t2 t3 t4 t11 H = bif decide (t11 < t3) then (f109 t0 (IntKind.u64.wrap (t2 + IntKind.u64.wrap t11)) H).bind fun v24 => bif decide (v24.1 < 0) then some (AExit.ret, X61_4 false v24.2) else t0.bind fun v23 => (v24.2.get v23.1 (v23.2 + 0)).bind fun v22 => v22.toSlice.bind fun v21 => v21.bind fun v20 => bif inb v24.1 v20.len && v20.esz == 5 then (v24.2.get v20.id (v20.off + v24.1.toNat * 5 + 3)).bind fun v19 => v19.toBool.bind fun v18 => bif v18 then t0.bind fun v11 => (v24.2.get v11.1 (v11.2 + 0)).bind fun v10 => v10.toSlice.bind fun v9 => v9.bind fun v8 => bif inb v24.1 v8.len && v8.esz == 5 then (v24.2.get v8.id (v8.off + v24.1.toNat * 5 + 4)).bind fun v7 => (Cell.toInt .i64 v7).bind fun v6 => bif v6 != t1 then some (AExit.ret, X61_4 false v24.2) else bif t4 then t0.bind fun v5 => (v24.2.get v5.1 (v5.2 + 0)).bind fun v4 => v4.toSlice.bind fun v3 => v3.bind fun v2 => bif inb v24.1 v2.len && v2.esz == 5 then (v24.2.get v2.id (v2.off + v24.1.toNat * 5 + 2)).bind fun v1 => v1.toBool.bind fun v0 => bif !v0 then some (AExit.ret, X61_4 false v24.2) else D61_4 n t0 t1 t2 t3 t4 (IntKind.i64.wrap (t11 + 1)) v24.2 else none else D61_4 n t0 t1 t2 t3 t4 (IntKind.i64.wrap (t11 + 1)) v24.2 else none else bif t4 then t0.bind fun v17 => (v24.2.get v17.1 (v17.2 + 0)).bind fun v16 => v16.toSlice.bind fun v15 => v15.bind fun v14 => bif inb v24.1 v14.len && v14.esz == 5 then (v24.2.get v14.id (v14.off + v24.1.toNat * 5 + 2)).bind fun v13 => v13.toBool.bind fun v12 => bif !v12 then some (AExit.ret, X61_4 false v24.2) else D61_4 n t0 t1 t2 t3 t4 (IntKind.i64.wrap (t11 + 1)) v24.2 else none else D61_4 n t0 t1 t2 t3 t4 (IntKind.i64.wrap (t11 + 1)) v24.2 else none else some (AExit.exit 0, X61_4a H) := by intros; exact (loopN_stepD hN61 _ _ _ _).trans (by kernel_rfl)
theorem q61 : ∀ (m : PO) (t x2 w : Int) (write : Bool) (H : Heap), f61 m t x2 w write H = bif decide (t < 0) then some (false, H) else bif decide (t > 7) then some (false, H) else (f108 w H).bind fun v25 => bif !v25.1 then some (false, v25.2) else bif decide (IntKind.u64.wrap (x2 + IntKind.u64.wrap (IntKind.i64.wrap (w - 1))) < x2) then some (false, v25.2) else (LL61_4 m t x2 w write 0 v25.2).bind J61_4 := by intros; rw [f61_eq]; exact (fnA_lpD hN61 ..).trans (by kernel_rfl)
theorem J61_4_0 : ∀ (x0 : Bool) (H : Heap), J61_4 (AExit.ret, X61_4 x0 H) = some (x0, H) := by intros; kernel_rfl
theorem J61_4_1 : ∀ (H : Heap), J61_4 (AExit.exit 0, X61_4a H) = some (true, H) := by intros; kernel_rfl
theorem ok61 : FnOk Tryz.prog 61 (specF enc61 (sem61 f61)) := by
  refine spec_ok (C := CC61) good61 rfl rfl rfl (by kernel_rfl) Tryz.func61 (c := bodyOf Tryz.f61) (by kernel_rfl) (by kernel_rfl) (Nat.le_of_eq Tryz.ntmps61.symm) dec61 enc61 de61 _ ?_
  intro args H q h
  unfold sem61 at h
  split at h
  · rw [f61_eq] at h; exact h
  · cases h
/-! 99: R9_Mem_write -/
noncomputable def CC99 : Ctx := { P := Tryz.prog, own := [3], fns := [(109, specF enc109 (sem109 f109))], nt := 47, nums := [], live := [(2, ⟨[0, 3, 8, 9, 10], [3], [], []⟩)] }
theorem good99 : Callees Tryz.prog CC99.fns [] CC99.nums := (Callees.nil Tryz.prog).cons ok109 (specF_nat _ _)
def enc99 (r : Unit) : List TV := []
def dec99 : AV → Option (Unit)
  | .tup [] => some ()
  | _ => none
theorem de99 (v : AV) (r : Unit) (h : dec99 v = some r) : v = oneOf (enc99 r) := by
  unfold dec99 at h
  split at h
  · cases h; rfl
  · cases h
abbrev Ty99 := PO → Int → SO → Heap → Option (Unit × Heap)
def sem99 (f : Ty99) : List TV → Heap → Option (Unit × Heap)
  | [.c (Cell.ptr m), .agg [Cell.int .u64 s0, Cell.slice s1]], H => f m s0 s1 H
  | _, _ => none
noncomputable def F099 : Ty99 := fun m s0 s1 H => fnA CC99 Tryz.f99.results.toList (bodyOf Tryz.f99) _ [.c (Cell.ptr m), .agg [Cell.int .u64 s0, Cell.slice s1]] H (decF dec99)
noncomputable def f99 : Ty99 := hide F099
theorem f99_eq : f99 = F099 := hide_eq _
theorem ok99 : FnOk Tryz.prog 99 (specF enc99 (sem99 f99)) := by
  refine spec_ok (C := CC99) good99 rfl rfl rfl (by kernel_rfl) Tryz.func99 (c := bodyOf Tryz.f99) (by kernel_rfl) (by kernel_rfl) (Nat.le_of_eq Tryz.ntmps99.symm) dec99 enc99 de99 _ ?_
  intro args H q h
  unfold sem99 at h
  split at h
  · rw [f99_eq] at h; exact h
  · cases h
/-! 62: R9_Mem_Drain -/
noncomputable def CC62 : Ctx := { P := Tryz.prog, own := [], fns := [(99, specF enc99 (sem99 f99))], nt := 46, nums := [], live := [] }
theorem good62 : Callees Tryz.prog CC62.fns [] CC62.nums := (Callees.nil Tryz.prog).cons ok99 (specF_nat _ _)
def enc62 (r : Bool) : List TV := [.c (Cell.bool (r))]
def dec62 : AV → Option (Bool)
  | .c (Cell.bool q0) => some (q0)
  | _ => none
theorem de62 (v : AV) (r : Bool) (h : dec62 v = some r) : v = oneOf (enc62 r) := by
  unfold dec62 at h
  split at h
  · cases h; rfl
  · cases h
abbrev Ty62 := PO → Int → Heap → Option (Bool × Heap)
def sem62 (f : Ty62) : List TV → Heap → Option (Bool × Heap)
  | [.c (Cell.ptr m), .c (Cell.int .i64 t)], H => f m t H
  | _, _ => none
noncomputable def F062 : Ty62 := fun m t H => fnA CC62 Tryz.f62.results.toList (bodyOf Tryz.f62) _ [.c (Cell.ptr m), .c (Cell.int .i64 t)] H (decF dec62)
noncomputable def f62 : Ty62 := hide F062
theorem f62_eq : f62 = F062 := hide_eq _
theorem ok62 : FnOk Tryz.prog 62 (specF enc62 (sem62 f62)) := by
  refine spec_ok (C := CC62) good62 rfl rfl rfl (by kernel_rfl) Tryz.func62 (c := bodyOf Tryz.f62) (by kernel_rfl) (by kernel_rfl) (Nat.le_of_eq Tryz.ntmps62.symm) dec62 enc62 de62 _ ?_
  intro args H q h
  unfold sem62 at h
  split at h
  · rw [f62_eq] at h; exact h
  · cases h
/-! 63: R2_Bytes -/
noncomputable def CC63 : Ctx := { P := Tryz.prog, own := [], fns := [], nt := 21, nums := [], live := [(3, ⟨[0, 1, 5, 6], [], [5], []⟩)] }
theorem good63 : Callees Tryz.prog CC63.fns [] CC63.nums := Callees.nil Tryz.prog
theorem hN63 : CtxNat CC63 := good63.ctx rfl rfl rfl
def enc63 (r : SO) : List TV := [.c (Cell.slice (r))]
def dec63 : AV → Option (SO)
  | .c (Cell.slice q0) => some (q0)
  | _ => none
theorem de63 (v : AV) (r : SO) (h : dec63 v = some r) : v = oneOf (enc63 r) := by
  unfold dec63 at h
  split at h
  · cases h; rfl
  · cases h
abbrev Ty63 := Int → Int → Heap → Option (SO × Heap)
def sem63 (f : Ty63) : List TV → Heap → Option (SO × Heap)
  | [.c (Cell.int .i64 w), .c (Cell.int .u64 v)], H => f w v H
  | _, _ => none
noncomputable def F063 : Ty63 := fun w v H => fnA CC63 Tryz.f63.results.toList (bodyOf Tryz.f63) _ [.c (Cell.int .i64 w), .c (Cell.int .u64 v)] H (decF dec63)
noncomputable def f63 : Ty63 := hide F063
theorem f63_eq : f63 = F063 := hide_eq _
noncomputable def P63_3 : Code := (Code.l (Code.l (Code.r (Code.l (Code.r (Code.r (bodyOf Tryz.f63)))))))
def S63_3 (t0 t1 : Int) (t5 : SO) (t6 : Int) (H : Heap) : St := ⟨[(0, .c (Cell.int .i64 t0)), (1, .c (Cell.int .u64 t1)), (5, .c (Cell.slice t5)), (6, .c (Cell.int .i64 t6))], [], H⟩
noncomputable def D63_3 (n : Nat) (t0 t1 : Int) (t5 : SO) (t6 : Int) (H : Heap) : Option (AExit × St) := loopN (exec CC63 P63_3) (keepOf CC63.live P63_3) n (S63_3 t0 t1 t5 t6 H) retD
noncomputable def LL63_3 (t0 t1 : Int) (t5 : SO) (t6 : Int) (H : Heap) : Option (AExit × St) := loopsD CC63 P63_3 (S63_3 t0 t1 t5 t6 H)
theorem LL63_3_of (m : Nat) (hm : m < 18446744073709551616) (t0 t1 : Int) (t5 : SO) (t6 : Int) (H : Heap) : ∃ n, LL63_3 t0 t1 t5 t6 H = D63_3 (n + m + 1) t0 t1 t5 t6 H := loopsD_of _ _ _ m hm
def X63_3 (x0 : SO) (H : Heap) : St := { env := [(5, AV.c (Cell.slice x0))], loc := [], heap := H }
noncomputable def J63_3 : AExit × St → Option (Option Sl × Heap) := fun p => blockK 0 (seqK (execL CC63 (lpD CC63) (Code.r (Code.r (Code.r (bodyOf Tryz.f63))))) (retA CC63 [ResultVar.tmp 4] (decF dec63))) p.1 p.2
theorem D63_3_s : ∀ (n : Nat) (t0 t1 : Int) (t5 : SO) (t6 : Int) (H : Heap), D63_3 (n + 1) t0 t1 t5 t6 H = bif decide (t6 < t0) then ((H ++ [Blk.row [Cell.int .u8 (IntKind.u8.wrap (t1.tmod 256))] false]).append 1 1 t5 (some { id := List.length H, off := 0, len := 1, cap := 1, esz := 1 })).bind fun v0 => D63_3 n t0 (IntKind.u64.wrap (t1.tdiv 256)) v0.1 (IntKind.i64.wrap (t6 + 1)) v0.2 else some (AExit.exit 0, X63_3 t5 H) := by intros; exact (loopN_stepD hN63 _ _ _ _).trans (by kernel_rfl)
theorem q63 : ∀ (w v : Int) (H : Heap), f63 w v H = (LL63_3 w v none 0 H).bind J63_3 := by intros; rw [f63_eq]; exact (fnA_lpD hN63 ..).trans (by kernel_rfl)
theorem J63_3_0 : ∀ (x0 : SO) (H : Heap), J63_3 (AExit.exit 0, X63_3 x0 H) = some (x0, H) := by intros; kernel_rfl
theorem ok63 : FnOk Tryz.prog 63 (specF enc63 (sem63 f63)) := by
  refine spec_ok (C := CC63) good63 rfl rfl rfl (by kernel_rfl) Tryz.func63 (c := bodyOf Tryz.f63) (by kernel_rfl) (by kernel_rfl) (Nat.le_of_eq Tryz.ntmps63.symm) dec63 enc63 de63 _ ?_
  intro args H q h
  unfold sem63 at h
  split at h
  · rw [f63_eq] at h; exact h
  · cases h
/-! 33: R9_Mem_Store -/
noncomputable def CC33 : Ctx := { P := Tryz.prog, own := [], fns := [(63, specF enc63 (sem63 f63)), (62, specF enc62 (sem62 f62)), (61, specF enc61 (sem61 f61))], nt := 46, nums := [], live := [] }
theorem good33 : Callees Tryz.prog CC33.fns [] CC33.nums := (((Callees.nil Tryz.prog).cons ok61 (specF_nat _ _)).cons ok62 (specF_nat _ _)).cons ok63 (specF_nat _ _)
theorem hN33 : CtxNat CC33 := good33.ctx rfl rfl rfl
def enc33 (r : Bool) : List TV := [.c (Cell.bool (r))]
def dec33 : AV → Option (Bool)
  | .c (Cell.bool q0) => some (q0)
  | _ => none
theorem de33 (v : AV) (r : Bool) (h : dec33 v = some r) : v = oneOf (enc33 r) := by
  unfold dec33 at h
  split at h
  · cases h; rfl
  · cases h
abbrev Ty33 := PO → Int → Int → Int → Int → Heap → Option (Bool × Heap)
def sem33 (f : Ty33) : List TV → Heap → Option (Bool × Heap)
  | [.c (Cell.ptr m), .c (Cell.int .i64 t), .c (Cell.int .u64 x2), .c (Cell.int .i64 w), .c (Cell.int .u64 v)], H => f m t x2 w v H
  | _, _ => none
noncomputable def F033 : Ty33 := fun m t x2 w v H => fnA CC33 Tryz.f33.results.toList (bodyOf Tryz.f33) _ [.c (Cell.ptr m), .c (Cell.int .i64 t), .c (Cell.int .u64 x2), .c (Cell.int .i64 w), .c (Cell.int .u64 v)] H (decF dec33)
noncomputable def f33 : Ty33 := hide F033
theorem f33_eq : f33 = F033 := hide_eq _
theorem q33 : ∀ (m : PO) (t x2 w v : Int) (H : Heap), f33 m t x2 w v H = (f61 m t x2 w true H).bind fun v18 => bif !v18.1 then some (false, v18.2) else m.bind fun v17 => bif inb t 8 then (v18.2.get v17.1 (v17.2 + 1 + t.toNat * 1)).bind fun v16 => v16.toSlice.bind fun v15 => bif decide (slen v15 ≥ 65536) then (f62 m t v18.2).bind fun v7 => m.bind fun v6 => bif inb t 8 then (v7.2.get v6.1 (v6.2 + 1 + t.toNat * 1)).bind fun v5 => v5.toSlice.bind fun v4 => (f63 w v v7.2).bind fun v3 => bif same v6.1 v7.2 v3.2 then ((v3.2 ++ [Blk.row [Cell.int .u64 x2, Cell.slice v3.1] false]).append 2 32 v4 (some { id := List.length v3.2, off := 0, len := 1, cap := 1, esz := 2 })).bind fun v2 => m.bind fun v1 => bif inb t 8 then (v2.2.put v1.1 (v1.2 + 1 + t.toNat * 1) [Cell.slice v2.1]).bind fun v0 => some (true, v0) else none else none else none else m.bind fun v14 => bif inb t 8 then (v18.2.get v14.1 (v14.2 + 1 + t.toNat * 1)).bind fun v13 => v13.toSlice.bind fun v12 => (f63 w v v18.2).bind fun v11 => bif same v14.1 v18.2 v11.2 then ((v11.2 ++ [Blk.row [Cell.int .u64 x2, Cell.slice v11.1] false]).append 2 32 v12 (some { id := List.length v11.2, off := 0, len := 1, cap := 1, esz := 2 })).bind fun v10 => m.bind fun v9 => bif inb t 8 then (v10.2.put v9.1 (v9.2 + 1 + t.toNat * 1) [Cell.slice v10.1]).bind fun v8 => some (true, v8) else none else none else none else none := by intros; rw [f33_eq]; exact (fnA_lpD hN33 ..).trans (by kernel_rfl)
theorem ok33 : FnOk Tryz.prog 33 (specF enc33 (sem33 f33)) := by
  refine spec_ok (C := CC33) good33 rfl rfl rfl (by kernel_rfl) Tryz.func33 (c := bodyOf Tryz.f33) (by kernel_rfl) (by kernel_rfl) (Nat.le_of_eq Tryz.ntmps33.symm) dec33 enc33 de33 _ ?_
  intro args H q h
  unfold sem33 at h
  split at h
  · rw [f33_eq] at h; exact h
  · cases h
/-! 38: mem_Mem_Put -/
noncomputable def CC38 : Ctx := { P := Tryz.prog, own := [], fns := [(83, specF enc83 (sem83 f83)), (27, specF enc27 (sem27 f27)), (59, specF enc59 (sem59 f59))], nt := 26, nums := [], live := [] }
theorem good38 : Callees Tryz.prog CC38.fns [] CC38.nums := (((Callees.nil Tryz.prog).cons ok59 (specF_nat _ _)).cons ok27 (specF_nat _ _)).cons ok83 (specF_nat _ _)
def enc38 (r : Bool) : List TV := [.c (Cell.bool (r))]
def dec38 : AV → Option (Bool)
  | .c (Cell.bool q0) => some (q0)
  | _ => none
theorem de38 (v : AV) (r : Bool) (h : dec38 v = some r) : v = oneOf (enc38 r) := by
  unfold dec38 at h
  split at h
  · cases h; rfl
  · cases h
abbrev Ty38 := PO → Int → Int → Int → Int → Heap → Option (Bool × Heap)
def sem38 (f : Ty38) : List TV → Heap → Option (Bool × Heap)
  | [.c (Cell.ptr m), .c (Cell.int .i64 t), .c (Cell.int .u64 x2), .c (Cell.int .i64 w), .c (Cell.int .u64 v)], H => f m t x2 w v H
  | _, _ => none
noncomputable def F038 : Ty38 := fun m t x2 w v H => fnA CC38 Tryz.f38.results.toList (bodyOf Tryz.f38) _ [.c (Cell.ptr m), .c (Cell.int .i64 t), .c (Cell.int .u64 x2), .c (Cell.int .i64 w), .c (Cell.int .u64 v)] H (decF dec38)
noncomputable def f38 : Ty38 := hide F038
theorem f38_eq : f38 = F038 := hide_eq _
theorem ok38 : FnOk Tryz.prog 38 (specF enc38 (sem38 f38)) := by
  refine spec_ok (C := CC38) good38 rfl rfl rfl (by kernel_rfl) Tryz.func38 (c := bodyOf Tryz.f38) (by kernel_rfl) (by kernel_rfl) (Nat.le_of_eq Tryz.ntmps38.symm) dec38 enc38 de38 _ ?_
  intro args H q h
  unfold sem38 at h
  split at h
  · rw [f38_eq] at h; exact h
  · cases h
/-! 43: R9_Mem_Flush -/
/-! 45: R9_Mem_Put -/
/-! 187: slices_Backward_mem_store_mem_store -/
noncomputable def CC187 : Ctx := { P := Tryz.prog, own := [], fns := [], nt := 4, nums := [], live := [] }
theorem good187 : Callees Tryz.prog CC187.fns [] CC187.nums := Callees.nil Tryz.prog
noncomputable def F187 : FnSem := natF (runS CC187 Tryz.f187.results.toList (bodyOf Tryz.f187))
theorem ok187 : FnOk Tryz.prog 187 F187 := own_ok (C := CC187) good187 rfl rfl rfl (by kernel_rfl) Tryz.func187 (c := bodyOf Tryz.f187) (by kernel_rfl) (by kernel_rfl) (Nat.le_of_eq Tryz.ntmps187.symm)
/-! 180: mem_Mem_sees -/
noncomputable def CC180 : Ctx := { P := Tryz.prog, own := [8, 10], fns := [(138, specF enc138 (sem138 f138)), (187, F187)], nt := 54, iters := [(188, (102, 115))], nums := [], live := [(2, ⟨[0, 5, 6, 17], [], [0, 5, 6], []⟩)] }
theorem good180 : Callees Tryz.prog CC180.fns [] CC180.nums := ((Callees.nil Tryz.prog).cons ok187 (natF_nat _)).cons ok138 (specF_nat _ _)
theorem hI180 : CtxNat CC180 := good180.ctxI rfl rfl rfl fun gf ty h => by
  have hi : CC180.iters = [(188, (102, 115))] := rfl
  rw [hi, look_cons] at h
  split at h
  · rename_i e
    subst e
    cases h
    exact it188
  · cases h
theorem hN180 : CtxNat CC180 := hI180
def enc180 (r : Int) : List TV := [.c (Cell.int .u8 (r))]
def dec180 : AV → Option (Int)
  | .c (Cell.int .u8 q0) => some (q0)
  | _ => none
theorem de180 (v : AV) (r : Int) (h : dec180 v = some r) : v = oneOf (enc180 r) := by
  unfold dec180 at h
  split at h
  · cases h; rfl
  · cases h
abbrev Ty180 := PO → Int → Int → Heap → Option (Int × Heap)
def sem180 (f : Ty180) : List TV → Heap → Option (Int × Heap)
  | [.c (Cell.ptr m), .c (Cell.int .i64 t), .c (Cell.int .u64 x2)], H => f m t x2 H
  | _, _ => none
noncomputable def F0180 : Ty180 := fun m t x2 H => fnA CC180 Tryz.f180.results.toList (bodyOf Tryz.f180) _ [.c (Cell.ptr m), .c (Cell.int .i64 t), .c (Cell.int .u64 x2)] H (decF dec180)
noncomputable def f180 : Ty180 := hide F0180
theorem f180_eq : f180 = F0180 := hide_eq _
def S180_2 (t0 : PO) (t5 t6 id17 off17 : Nat) (H : Heap) : St := ⟨[(0, .c (Cell.ptr t0)), (5, .c (Cell.ptr (some (t5, 0)))), (6, .c (Cell.ptr (some (t6, 0)))), (17, .c (Cell.fn 188 [] [Cell.ptr (some (id17, off17))]))], [], H⟩
noncomputable def D180_2 (n : Nat) (t0 : PO) (t5 t6 id17 off17 : Nat) (H : Heap) : Option (AExit × Heap) := rangeN CC180 102 115 id17 off17 18 19 (exec CC180 (Code.l (Code.l (Code.r (Code.l (Code.r (bodyOf Tryz.f180))))))) (exec CC180 (Code.r (Code.l (Code.r (Code.l (Code.r (bodyOf Tryz.f180))))))) (envOf (keepOf CC180.live (Code.l (Code.l (Code.r (Code.l (Code.r (bodyOf Tryz.f180))))))) (S180_2 t0 t5 t6 id17 off17 H).env) n H retH
noncomputable def XR180_2 (t0 : PO) (t5 t6 id17 off17 : Nat) (H : Heap) : St := tidy2 (keepOf CC180.live (Code.l (Code.l (Code.r (Code.l (Code.r (bodyOf Tryz.f180))))))) ((S180_2 t0 t5 t6 id17 off17 H).withHeap H)
noncomputable def LL180_2 (t0 : PO) (t5 t6 id17 off17 : Nat) (H : Heap) : Option (AExit × St) := loopsD CC180 (Code.l (Code.r (Code.l (Code.r (bodyOf Tryz.f180))))) (S180_2 t0 t5 t6 id17 off17 H)
theorem LL180_2_r (t0 : PO) (t5 t6 id17 off17 : Nat) (H : Heap) : LL180_2 t0 t5 t6 id17 off17 H = caught CC180.P 102 id17 off17 H fun x => bif decide (slen x ≤ 9223372036854775807) then (D180_2 (slen x).toNat t0 t5 t6 id17 off17 H).bind fun p => some (p.1, XR180_2 t0 t5 t6 id17 off17 p.2) else none :=
  loopsD_range hN180 _ _ _ _ (S180_2 t0 t5 t6 id17 off17 H) 102 115 id17 off17 18 19 188 (by kernel_rfl) (by kernel_rfl) (by kernel_rfl) (by kernel_rfl) (by kernel_rfl)
def X180_2 (x0 : PO) (x1 : Nat) (x2 : Nat) (H : Heap) : St := { env := [(0, AV.c (Cell.ptr x0)), (5, AV.c (Cell.ptr (some (x1, 0)))), (6, AV.c (Cell.ptr (some (x2, 0))))], loc := [], heap := H }
noncomputable def J180_2 : AExit × St → Option (Int × Heap) := fun p => blockK 0 (seqK (execL CC180 (lpD CC180) (Code.r (Code.r (bodyOf Tryz.f180)))) (retA CC180 [ResultVar.cell 6 5] (decF dec180))) p.1 p.2
theorem D180_2_s : ∀ (n : Nat) (t0 : PO) (t5 t6 id17 off17 : Nat) (H : Heap), D180_2 (n + 1) t0 t5 t6 id17 off17 H = (H.get id17 off17).bind fun v11 => v11.toSlice.bind fun v10 => v10.bind fun v9 => bif inb (↑n : Int) v9.len && v9.esz == 3 then (H.get v9.id (v9.off + (↑n : Int).toNat * 3)).bind fun v8 => (H.get v9.id (v9.off + (↑n : Int).toNat * 3 + 1)).bind fun v7 => (H.get v9.id (v9.off + (↑n : Int).toNat * 3 + 1 + 1)).bind fun v6 => (Cell.toInt .u64 v8).bind fun v5 => (Cell.toInt .i64 v7).bind fun v4 => (Cell.toInt .u64 v6).bind fun v3 => (H.get t5 0).bind fun v2 => (Cell.toInt .u64 v2).bind fun v1 => bif decide (IntKind.u64.wrap (v1 - v5) < IntKind.u64.wrap v4) then bif decide (IntKind.u64.wrap (8 * IntKind.u64.wrap (v1 - v5)) < 0) then none else (H.put t6 0 [Cell.int .u8 (IntKind.u8.wrap (ishr IntKind.u64 v3 (IntKind.u64.wrap (8 * IntKind.u64.wrap (v1 - v5)))))]).bind fun v0 => some (AExit.ret, v0) else D180_2 n t0 t5 t6 id17 off17 H else none := by intros; exact (rangeN_stepD hN180 _ _ _ _ _ _ _ _ _ _ _ _).trans (by kernel_rfl)
theorem XR180_2_x : ∀ (t0 : PO) (t5 t6 id17 off17 : Nat) (H : Heap), XR180_2 t0 t5 t6 id17 off17 H = X180_2 t0 t5 t6 H := by intros; kernel_rfl
theorem q180 : ∀ (m : PO) (t x2 : Int) (H : Heap), f180 m t x2 H = m.bind fun v14 => bif inb t 8 then ((H ++ [Blk.row [Cell.int .u64 x2] false] ++ [Blk.row [Cell.int .u8 0] false]).get v14.1 (v14.2 + 1 + t.toNat * 1)).bind fun v13 => v13.toSlice.bind fun v12 => (LL180_2 m (List.length H) (List.length (H ++ [Blk.row [Cell.int .u64 x2] false])) (List.length (H ++ [Blk.row [Cell.int .u64 x2] false] ++ [Blk.row [Cell.int .u8 0] false])) 0 (H ++ [Blk.row [Cell.int .u64 x2] false] ++ [Blk.row [Cell.int .u8 0] false] ++ [Blk.row [Cell.slice v12] false])).bind J180_2 else none := by intros; rw [f180_eq]; exact (fnA_lpD hN180 ..).trans (by kernel_rfl)
theorem J180_2_0 : ∀ (x0 : PO) (x1 x2 : Nat) (H : Heap), J180_2 (AExit.normal, X180_2 x0 x1 x2 H) = x0.bind fun v39 => (H.get v39.1 (v39.2 + 0)).bind fun v38 => v38.toSlice.bind fun v37 => (H.get x1 0).bind fun v36 => (Cell.toInt .u64 v36).bind fun v35 => (f138 x0 v35 H).bind fun v34 => bif same v39.1 H v34.2 then v37.bind fun v33 => bif inb v34.1 v33.len && v33.esz == 5 then (v34.2.get v33.id (v33.off + v34.1.toNat * 5)).bind fun v32 => (v34.2.get v33.id (v33.off + v34.1.toNat * 5 + 1)).bind fun v31 => (v34.2.get v33.id (v33.off + v34.1.toNat * 5 + 1 + 1)).bind fun v30 => (v34.2.get v33.id (v33.off + v34.1.toNat * 5 + 1 + 1 + 1)).bind fun v29 => (v34.2.get v33.id (v33.off + v34.1.toNat * 5 + 1 + 1 + 1 + 1)).bind fun v28 => (Cell.toInt .u64 v32).bind fun v27 => v31.toSlice.bind fun v26 => v30.toBool.bind fun v25 => v29.toBool.bind fun v24 => (Cell.toInt .i64 v28).bind fun v23 => (v34.2.get x1 0).bind fun v22 => (Cell.toInt .u64 v22).bind fun v21 => v26.bind fun v20 => bif inb (IntKind.u64.wrap (v21 - v27)) v20.len && v20.esz == 1 then (v34.2.get v20.id (v20.off + (IntKind.u64.wrap (v21 - v27)).toNat * 1)).bind fun v19 => (Cell.toInt .u8 v19).bind fun v18 => (v34.2.put x2 0 [Cell.int .u8 v18]).bind fun v17 => (v17.get x2 0).bind fun v16 => (Cell.toInt .u8 v16).bind fun v15 => some (v15, v17) else none else none else none := by intros; kernel_rfl
theorem J180_2_1 : ∀ (x0 : PO) (x1 x2 : Nat) (H : Heap), J180_2 (AExit.ret, X180_2 x0 x1 x2 H) = (H.get x2 0).bind fun v41 => (Cell.toInt .u8 v41).bind fun v40 => some (v40, H) := by intros; kernel_rfl
theorem ok180 : FnOk Tryz.prog 180 (specF enc180 (sem180 f180)) := by
  refine spec_okN (C := CC180) (good180.env rfl) (hI180) (by kernel_rfl) Tryz.func180 (c := bodyOf Tryz.f180) (by kernel_rfl) (by kernel_rfl) (Nat.le_of_eq Tryz.ntmps180.symm) dec180 enc180 de180 _ ?_
  intro args H q h
  unfold sem180 at h
  split at h
  · rw [f180_eq] at h; exact h
  · cases h
/-! 164: mem_Mem_Load -/
noncomputable def CC164 : Ctx := { P := Tryz.prog, own := [], fns := [(180, specF enc180 (sem180 f180)), (59, specF enc59 (sem59 f59))], nt := 37, nums := [], live := [(5, ⟨[0, 1, 2, 10, 19, 20], [], [10], []⟩)] }
theorem good164 : Callees Tryz.prog CC164.fns [] CC164.nums := ((Callees.nil Tryz.prog).cons ok59 (specF_nat _ _)).cons ok180 (specF_nat _ _)
theorem hN164 : CtxNat CC164 := good164.ctx rfl rfl rfl
def enc164 (r : Int × Bool) : List TV := [.c (Cell.int .u64 (r.1)), .c (Cell.bool (r.2))]
def dec164 : AV → Option (Int × Bool)
  | .tup [.c (Cell.int .u64 q0), .c (Cell.bool q1)] => some (q0, q1)
  | _ => none
theorem de164 (v : AV) (r : Int × Bool) (h : dec164 v = some r) : v = oneOf (enc164 r) := by
  unfold dec164 at h
  split at h
  · cases h; rfl
  · cases h
abbrev Ty164 := PO → Int → Int → Int → Heap → Option ((Int × Bool) × Heap)
def sem164 (f : Ty164) : List TV → Heap → Option ((Int × Bool) × Heap)
  | [.c (Cell.ptr m), .c (Cell.int .i64 t), .c (Cell.int .u64 x2), .c (Cell.int .i64 w)], H => f m t x2 w H
  | _, _ => none
noncomputable def F0164 : Ty164 := fun m t x2 w H => fnA CC164 Tryz.f164.results.toList (bodyOf Tryz.f164) _ [.c (Cell.ptr m), .c (Cell.int .i64 t), .c (Cell.int .u64 x2), .c (Cell.int .i64 w)] H (decF dec164)
noncomputable def f164 : Ty164 := hide F0164
theorem f164_eq : f164 = F0164 := hide_eq _
noncomputable def P164_5 : Code := (Code.l (Code.l (Code.r (Code.l (Code.r (Code.r (Code.r (bodyOf Tryz.f164))))))))
def S164_5 (t0 : PO) (t1 t2 t10 t19 t20 : Int) (H : Heap) : St := ⟨[(0, .c (Cell.ptr t0)), (1, .c (Cell.int .i64 t1)), (2, .c (Cell.int .u64 t2)), (10, .c (Cell.int .u64 t10)), (19, .c (Cell.int .u64 t19)), (20, .c (Cell.int .u64 t20))], [], H⟩
noncomputable def D164_5 (n : Nat) (t0 : PO) (t1 t2 t10 t19 t20 : Int) (H : Heap) : Option (AExit × St) := loopN (exec CC164 P164_5) (keepOf CC164.live P164_5) n (S164_5 t0 t1 t2 t10 t19 t20 H) retD
noncomputable def LL164_5 (t0 : PO) (t1 t2 t10 t19 t20 : Int) (H : Heap) : Option (AExit × St) := loopsD CC164 P164_5 (S164_5 t0 t1 t2 t10 t19 t20 H)
theorem LL164_5_of (m : Nat) (hm : m < 18446744073709551616) (t0 : PO) (t1 t2 t10 t19 t20 : Int) (H : Heap) : ∃ n, LL164_5 t0 t1 t2 t10 t19 t20 H = D164_5 (n + m + 1) t0 t1 t2 t10 t19 t20 H := loopsD_of _ _ _ m hm
def X164_5 (x0 : Int) (H : Heap) : St := { env := [(10, AV.c (Cell.int .u64 x0))], loc := [], heap := H }
noncomputable def J164_5 : AExit × St → Option ((Int × Bool) × Heap) := fun p => blockK 0 (seqK (execL CC164 (lpD CC164) (Code.r (Code.r (Code.r (Code.r (bodyOf Tryz.f164)))))) (retA CC164 [ResultVar.tmp 8, ResultVar.tmp 9] (decF dec164))) p.1 p.2
theorem D164_5_s : ∀ (n : Nat) (t0 : PO) (t1 t2 t10 t19 t20 : Int) (H : Heap), D164_5 (n + 1) t0 t1 t2 t10 t19 t20 H = bif decide (t20 < t19) then (f180 t0 t1 (IntKind.u64.wrap (t2 + t20)) H).bind fun v0 => bif decide (IntKind.u64.wrap (8 * t20) < 0) then none else D164_5 n t0 t1 t2 (bor IntKind.u64 t10 (ishl IntKind.u64 (IntKind.u64.wrap v0.1) (IntKind.u64.wrap (8 * t20)))) t19 (IntKind.u64.wrap (t20 + 1)) v0.2 else some (AExit.exit 0, X164_5 t10 H) := by intros; exact (loopN_stepD hN164 _ _ _ _).trans (by kernel_rfl)
theorem q164 : ∀ (m : PO) (t x2 w : Int) (H : Heap), f164 m t x2 w H = (f59 m t x2 w false H).bind fun v1 => bif !v1.1 then some ((0, false), v1.2) else (LL164_5 m t x2 0 (IntKind.u64.wrap w) 0 v1.2).bind J164_5 := by intros; rw [f164_eq]; exact (fnA_lpD hN164 ..).trans (by kernel_rfl)
theorem J164_5_0 : ∀ (x0 : Int) (H : Heap), J164_5 (AExit.exit 0, X164_5 x0 H) = some ((x0, true), H) := by intros; kernel_rfl
theorem ok164 : FnOk Tryz.prog 164 (specF enc164 (sem164 f164)) := by
  refine spec_ok (C := CC164) good164 rfl rfl rfl (by kernel_rfl) Tryz.func164 (c := bodyOf Tryz.f164) (by kernel_rfl) (by kernel_rfl) (Nat.le_of_eq Tryz.ntmps164.symm) dec164 enc164 de164 _ ?_
  intro args H q h
  unfold sem164 at h
  split at h
  · rw [f164_eq] at h; exact h
  · cases h
/-! 184: R9_Mem_byteOf -/
/-! 185: R2_Num -/
/-! 175: R9_Mem_Load -/