/- Layer 9: memory: what MemPrivate reaches. -/
import Derived.Test.YtdpmbfceadidkaaMe1
import Derived.KernelRfl
namespace Go.Proofs.Ytdpmbfceadidkaa
open Go Go.Proofs.Ytdpmbfceadidkaa.Ab
set_option linter.unusedVariables false
set_option linter.unusedSimpArgs false
set_option maxRecDepth 100000
noncomputable section
/-! 8: L09_Cut -/
noncomputable def CC8 : Ctx := { P := Try.prog, own := [5], fns := [], nt := 29, nums := [], live := [(3, ⟨[3, 6, 7, 8], [], [3], []⟩)] }
theorem good8 : Callees Try.prog CC8.fns [] CC8.nums := Callees.nil Try.prog
theorem hN8 : CtxNat CC8 := good8.ctx rfl rfl rfl
def enc8 (r : (Option Sl)) : List TV := [.c (Cell.slice (r))]
def dec8 : AV → Option ((Option Sl))
  | .c (Cell.slice q0) => some (q0)
  | _ => none
theorem de8 (v : AV) (r : (Option Sl)) (h : dec8 v = some r) : v = oneOf (enc8 r) := by
  unfold dec8 at h
  split at h
  · cases h; rfl
  · cases h
abbrev Ty8 := (Option Sl) → Heap → Option ((Option Sl) × Heap)
def sem8 (f : Ty8) : List TV → Heap → Option ((Option Sl) × Heap)
  | [.c (Cell.slice l)], H => f l H
  | _, _ => none
noncomputable def f8 : Ty8 := hide fun l H => fnA CC8 Try.f8.results.toList (bodyOf Try.f8) _ [.c (Cell.slice l)] H (decF dec8)
theorem f8_eq (l : (Option Sl)) (H : Heap) : f8 l H = fnA CC8 Try.f8.results.toList (bodyOf Try.f8) _ [.c (Cell.slice l)] H (decF dec8) := by unfold f8; rw [hide_eq]
theorem f8_run (l : (Option Sl)) (H : Heap) : f8 l H = fnL CC8 (lpD CC8) Try.f8.results.toList (bodyOf Try.f8) [.c (Cell.slice l)] H (decF dec8) := (f8_eq ..).trans (fnA_lpD hN8 ..)
def S8_3 (t3 : (Option Sl)) (t6 : (Option Sl)) (t7 : Int) (t8 : Int) (H : Heap) : St := ⟨[(3, .c (Cell.slice t3)), (6, .c (Cell.slice t6)), (7, .c (Cell.int .i64 t7)), (8, .c (Cell.int .i64 t8))], [], H⟩
noncomputable def D8_3 (n : Nat) (t3 : (Option Sl)) (t6 : (Option Sl)) (t7 : Int) (t8 : Int) (H : Heap) : Option (AExit × St) := loopN (exec CC8 (Code.l (Code.l (Code.r (Code.l (Code.r (Code.r (bodyOf Try.f8)))))))) (keepOf CC8.live (Code.l (Code.l (Code.r (Code.l (Code.r (Code.r (bodyOf Try.f8)))))))) n (S8_3 t3 t6 t7 t8 H) retD
noncomputable def LL8_3 (t3 : (Option Sl)) (t6 : (Option Sl)) (t7 : Int) (t8 : Int) (H : Heap) : Option (AExit × St) := loopsD CC8 (Code.l (Code.l (Code.r (Code.l (Code.r (Code.r (bodyOf Try.f8))))))) (S8_3 t3 t6 t7 t8 H)
theorem LL8_3_of (m : Nat) (hm : m < 18446744073709551616) (t3 : (Option Sl)) (t6 : (Option Sl)) (t7 : Int) (t8 : Int) (H : Heap) : ∃ n, LL8_3 t3 t6 t7 t8 H = D8_3 (n + m + 1) t3 t6 t7 t8 H := loopsD_of _ _ _ m hm
def X8_3 (x0 : Option Sl) (H : Heap) : St := { env := [(3, AV.c (Cell.slice x0))], loc := [], heap := H }
noncomputable def J8_3 : AExit × St → Option (Option Sl × Heap) := fun p => blockK 0 (seqK (execL CC8 (lpD CC8) (Code.r (Code.r (Code.r (bodyOf Try.f8))))) (retA CC8 [ResultVar.tmp 2] (decF dec8))) p.fst p.snd
theorem D8_3_s : ∀ (n : Nat) (t3 t6 : Option Sl) (t7 t8 : Int) (H : Heap), D8_3 (n + 1) t3 t6 t7 t8 H = bif decide (t8 < t7) then t6.bind fun v13 => bif inb t8 v13.len && v13.esz == 5 then (H.get v13.id (v13.off + t8.toNat * 5)).bind fun v12 => (H.get v13.id (v13.off + t8.toNat * 5 + 1)).bind fun v11 => (H.get v13.id (v13.off + t8.toNat * 5 + 1 + 1)).bind fun v10 => (H.get v13.id (v13.off + t8.toNat * 5 + 1 + 1 + 1)).bind fun v9 => (H.get v13.id (v13.off + t8.toNat * 5 + 1 + 1 + 1 + 1)).bind fun v8 => (Cell.toInt IntKind.u64 v12).bind fun v7 => v11.toSlice.bind fun v6 => v10.toBool.bind fun v5 => v9.toBool.bind fun v4 => (Cell.toInt IntKind.i64 v8).bind fun v3 => bif decide (t8 ≥ 8) then some (AExit.exit 0, X8_3 t3 H) else bif decide (slen v6 > 64) then (Sl.sub v6 0 (some 64)).bind fun v1 => bif esOk v6 1 then ((H ++ [Blk.row [Cell.int IntKind.u64 v7, Cell.slice v1, Cell.bool v5, Cell.bool v4, Cell.int IntKind.i64 v3] false]).append 5 48 t3 (some { id := List.length H, off := 0, len := 1, cap := 1, esz := 5 })).bind fun v0 => D8_3 n v0.fst t6 t7 (IntKind.i64.wrap (t8 + 1)) v0.snd else none else ((H ++ [Blk.row [Cell.int IntKind.u64 v7, Cell.slice v6, Cell.bool v5, Cell.bool v4, Cell.int IntKind.i64 v3] false]).append 5 48 t3 (some { id := List.length H, off := 0, len := 1, cap := 1, esz := 5 })).bind fun v2 => D8_3 n v2.fst t6 t7 (IntKind.i64.wrap (t8 + 1)) v2.snd else none else some (AExit.exit 0, X8_3 t3 H) := by intros; exact (loopN_stepD hN8 _ _ _ _).trans (by kernel_rfl)
theorem q8 : ∀ (l : Option Sl) (H : Heap), f8 l H = (LL8_3 none l (slen l) 0 H).bind J8_3 := by intros; exact (f8_run ..).trans (by kernel_rfl)
theorem J8_3_0 : ∀ (x0 : Option Sl) (H : Heap), J8_3 (AExit.exit 0, X8_3 x0 H) = some (x0, H) := by intros; kernel_rfl
theorem ok8 : FnOk Try.prog 8 (specF enc8 (sem8 f8)) := by
  refine spec_ok (C := CC8) good8 rfl rfl rfl (by kernel_rfl) Try.func8 (c := bodyOf Try.f8) (by kernel_rfl) (by kernel_rfl) (Nat.le_of_eq Try.ntmps8.symm) dec8 enc8 de8 _ ?_
  intro args H q h
  unfold sem8 at h
  split at h
  · rw [← f8_eq]; exact h
  · cases h
/-! 9: L09_Ours -/
noncomputable def CC9 : Ctx := { P := Try.prog, own := [5], fns := [(30, specF enc30 (sem30 f30))], nt := 27, nums := [], live := [(3, ⟨[3, 6, 7, 8], [], [3], []⟩)] }
theorem good9 : Callees Try.prog CC9.fns [] CC9.nums := (Callees.nil Try.prog).cons ok30 (specF_nat _ _)
theorem hN9 : CtxNat CC9 := good9.ctx rfl rfl rfl
def enc9 (r : (Option (Nat × Nat))) : List TV := [.c (Cell.ptr (r))]
def dec9 : AV → Option ((Option (Nat × Nat)))
  | .c (Cell.ptr q0) => some (q0)
  | _ => none
theorem de9 (v : AV) (r : (Option (Nat × Nat))) (h : dec9 v = some r) : v = oneOf (enc9 r) := by
  unfold dec9 at h
  split at h
  · cases h; rfl
  · cases h
abbrev Ty9 := (Option Sl) → Heap → Option (((Option (Nat × Nat))) × Heap)
def sem9 (f : Ty9) : List TV → Heap → Option (((Option (Nat × Nat))) × Heap)
  | [.c (Cell.slice l)], H => f l H
  | _, _ => none
noncomputable def f9 : Ty9 := hide fun l H => fnA CC9 Try.f9.results.toList (bodyOf Try.f9) _ [.c (Cell.slice l)] H (decF dec9)
theorem f9_eq (l : (Option Sl)) (H : Heap) : f9 l H = fnA CC9 Try.f9.results.toList (bodyOf Try.f9) _ [.c (Cell.slice l)] H (decF dec9) := by unfold f9; rw [hide_eq]
theorem f9_run (l : (Option Sl)) (H : Heap) : f9 l H = fnL CC9 (lpD CC9) Try.f9.results.toList (bodyOf Try.f9) [.c (Cell.slice l)] H (decF dec9) := (f9_eq ..).trans (fnA_lpD hN9 ..)
def S9_3 (t3 : (Option Sl)) (t6 : (Option Sl)) (t7 : Int) (t8 : Int) (H : Heap) : St := ⟨[(3, .c (Cell.slice t3)), (6, .c (Cell.slice t6)), (7, .c (Cell.int .i64 t7)), (8, .c (Cell.int .i64 t8))], [], H⟩
noncomputable def D9_3 (n : Nat) (t3 : (Option Sl)) (t6 : (Option Sl)) (t7 : Int) (t8 : Int) (H : Heap) : Option (AExit × St) := loopN (exec CC9 (Code.l (Code.l (Code.r (Code.l (Code.r (Code.r (bodyOf Try.f9)))))))) (keepOf CC9.live (Code.l (Code.l (Code.r (Code.l (Code.r (Code.r (bodyOf Try.f9)))))))) n (S9_3 t3 t6 t7 t8 H) retD
noncomputable def LL9_3 (t3 : (Option Sl)) (t6 : (Option Sl)) (t7 : Int) (t8 : Int) (H : Heap) : Option (AExit × St) := loopsD CC9 (Code.l (Code.l (Code.r (Code.l (Code.r (Code.r (bodyOf Try.f9))))))) (S9_3 t3 t6 t7 t8 H)
theorem LL9_3_of (m : Nat) (hm : m < 18446744073709551616) (t3 : (Option Sl)) (t6 : (Option Sl)) (t7 : Int) (t8 : Int) (H : Heap) : ∃ n, LL9_3 t3 t6 t7 t8 H = D9_3 (n + m + 1) t3 t6 t7 t8 H := loopsD_of _ _ _ m hm
def X9_3 (x0 : Option Sl) (H : Heap) : St := { env := [(3, AV.c (Cell.slice x0))], loc := [], heap := H }
noncomputable def J9_3 : AExit × St → Option (Option (Nat × Nat) × Heap) := fun p => blockK 0 (seqK (execL CC9 (lpD CC9) (Code.r (Code.r (Code.r (bodyOf Try.f9))))) (retA CC9 [ResultVar.tmp 2] (decF dec9))) p.fst p.snd
theorem D9_3_s : ∀ (n : Nat) (t3 t6 : Option Sl) (t7 t8 : Int) (H : Heap), D9_3 (n + 1) t3 t6 t7 t8 H = bif decide (t8 < t7) then t6.bind fun v11 => bif inb t8 v11.len && v11.esz == 5 then (H.get v11.id (v11.off + t8.toNat * 5)).bind fun v10 => (H.get v11.id (v11.off + t8.toNat * 5 + 1)).bind fun v9 => (H.get v11.id (v11.off + t8.toNat * 5 + 1 + 1)).bind fun v8 => (H.get v11.id (v11.off + t8.toNat * 5 + 1 + 1 + 1)).bind fun v7 => (H.get v11.id (v11.off + t8.toNat * 5 + 1 + 1 + 1 + 1)).bind fun v6 => (Cell.toInt IntKind.u64 v10).bind fun v5 => v9.toSlice.bind fun v4 => v8.toBool.bind fun v3 => v7.toBool.bind fun v2 => (Cell.toInt IntKind.i64 v6).bind fun v1 => ((H ++ [Blk.row [Cell.int IntKind.u64 v5, Cell.slice v4, Cell.bool v3, Cell.bool v2] false]).append 4 40 t3 (some { id := List.length H, off := 0, len := 1, cap := 1, esz := 4 })).bind fun v0 => D9_3 n v0.fst t6 t7 (IntKind.i64.wrap (t8 + 1)) v0.snd else none else some (AExit.exit 0, X9_3 t3 H) := by intros; exact (loopN_stepD hN9 _ _ _ _).trans (by kernel_rfl)
theorem q9 : ∀ (l : Option Sl) (H : Heap), f9 l H = (LL9_3 none l (slen l) 0 H).bind J9_3 := by intros; exact (f9_run ..).trans (by kernel_rfl)
theorem J9_3_0 : ∀ (x0 : Option Sl) (H : Heap), J9_3 (AExit.exit 0, X9_3 x0 H) = (f30 x0 H).bind fun v12 => some (v12.fst, v12.snd) := by intros; kernel_rfl
theorem ok9 : FnOk Try.prog 9 (specF enc9 (sem9 f9)) := by
  refine spec_ok (C := CC9) good9 rfl rfl rfl (by kernel_rfl) Try.func9 (c := bodyOf Try.f9) (by kernel_rfl) (by kernel_rfl) (Nat.le_of_eq Try.ntmps9.symm) dec9 enc9 de9 _ ?_
  intro args H q h
  unfold sem9 at h
  split at h
  · rw [← f9_eq]; exact h
  · cases h
/-! 13: R9_New -/
noncomputable def CC13 : Ctx := { P := Try.prog, own := [5], fns := [], nt := 32, nums := [], live := [(3, ⟨[3, 8, 9, 10], [], [3], []⟩)] }
theorem good13 : Callees Try.prog CC13.fns [] CC13.nums := Callees.nil Try.prog
theorem hN13 : CtxNat CC13 := good13.ctx rfl rfl rfl
def enc13 (r : (Option (Nat × Nat))) : List TV := [.c (Cell.ptr (r))]
def dec13 : AV → Option ((Option (Nat × Nat)))
  | .c (Cell.ptr q0) => some (q0)
  | _ => none
theorem de13 (v : AV) (r : (Option (Nat × Nat))) (h : dec13 v = some r) : v = oneOf (enc13 r) := by
  unfold dec13 at h
  split at h
  · cases h; rfl
  · cases h
abbrev Ty13 := (Option Sl) → Heap → Option (((Option (Nat × Nat))) × Heap)
def sem13 (f : Ty13) : List TV → Heap → Option (((Option (Nat × Nat))) × Heap)
  | [.c (Cell.slice l)], H => f l H
  | _, _ => none
noncomputable def f13 : Ty13 := hide fun l H => fnA CC13 Try.f13.results.toList (bodyOf Try.f13) _ [.c (Cell.slice l)] H (decF dec13)
theorem f13_eq (l : (Option Sl)) (H : Heap) : f13 l H = fnA CC13 Try.f13.results.toList (bodyOf Try.f13) _ [.c (Cell.slice l)] H (decF dec13) := by unfold f13; rw [hide_eq]
theorem f13_run (l : (Option Sl)) (H : Heap) : f13 l H = fnL CC13 (lpD CC13) Try.f13.results.toList (bodyOf Try.f13) [.c (Cell.slice l)] H (decF dec13) := (f13_eq ..).trans (fnA_lpD hN13 ..)
def S13_3 (t3 : (Option (Nat × Nat))) (t8 : (Option Sl)) (t9 : Int) (t10 : Int) (H : Heap) : St := ⟨[(3, .c (Cell.ptr t3)), (8, .c (Cell.slice t8)), (9, .c (Cell.int .i64 t9)), (10, .c (Cell.int .i64 t10))], [], H⟩
noncomputable def D13_3 (n : Nat) (t3 : (Option (Nat × Nat))) (t8 : (Option Sl)) (t9 : Int) (t10 : Int) (H : Heap) : Option (AExit × St) := loopN (exec CC13 (Code.l (Code.l (Code.r (Code.l (Code.r (Code.r (bodyOf Try.f13)))))))) (keepOf CC13.live (Code.l (Code.l (Code.r (Code.l (Code.r (Code.r (bodyOf Try.f13)))))))) n (S13_3 t3 t8 t9 t10 H) retD
noncomputable def LL13_3 (t3 : (Option (Nat × Nat))) (t8 : (Option Sl)) (t9 : Int) (t10 : Int) (H : Heap) : Option (AExit × St) := loopsD CC13 (Code.l (Code.l (Code.r (Code.l (Code.r (Code.r (bodyOf Try.f13))))))) (S13_3 t3 t8 t9 t10 H)
theorem LL13_3_of (m : Nat) (hm : m < 18446744073709551616) (t3 : (Option (Nat × Nat))) (t8 : (Option Sl)) (t9 : Int) (t10 : Int) (H : Heap) : ∃ n, LL13_3 t3 t8 t9 t10 H = D13_3 (n + m + 1) t3 t8 t9 t10 H := loopsD_of _ _ _ m hm
def X13_3 (x0 : Option (Nat × Nat)) (H : Heap) : St := { env := [(3, AV.c (Cell.ptr x0))], loc := [], heap := H }
noncomputable def J13_3 : AExit × St → Option (Option (Nat × Nat) × Heap) := fun p => blockK 0 (seqK (execL CC13 (lpD CC13) (Code.r (Code.r (Code.r (bodyOf Try.f13))))) (retA CC13 [ResultVar.tmp 2] (decF dec13))) p.fst p.snd
theorem D13_3_s : ∀ (n : Nat) (t3 : Option (Nat × Nat)) (t8 : Option Sl) (t9 t10 : Int) (H : Heap), D13_3 (n + 1) t3 t8 t9 t10 H = bif decide (t10 < t9) then t8.bind fun v17 => bif inb t10 v17.len && v17.esz == 5 then (H.get v17.id (v17.off + t10.toNat * 5)).bind fun v16 => (H.get v17.id (v17.off + t10.toNat * 5 + 1)).bind fun v15 => (H.get v17.id (v17.off + t10.toNat * 5 + 1 + 1)).bind fun v14 => (H.get v17.id (v17.off + t10.toNat * 5 + 1 + 1 + 1)).bind fun v13 => (H.get v17.id (v17.off + t10.toNat * 5 + 1 + 1 + 1 + 1)).bind fun v12 => (Cell.toInt IntKind.u64 v16).bind fun v11 => v15.toSlice.bind fun v10 => v14.toBool.bind fun v9 => v13.toBool.bind fun v8 => (Cell.toInt IntKind.i64 v12).bind fun v7 => ((H ++ [Blk.row [] false]).append 1 1 (some { id := List.length H, off := 0, len := 0, cap := 0, esz := 1 }) v10).bind fun v6 => t3.bind fun v5 => (v6.snd.get v5.fst (v5.snd + 0)).bind fun v4 => v4.toSlice.bind fun v3 => ((v6.snd ++ [Blk.row [Cell.int IntKind.u64 v11, Cell.slice v6.fst, Cell.bool v9, Cell.bool v8, Cell.int IntKind.i64 (-1)] false]).append 5 48 v3 (some { id := List.length v6.snd, off := 0, len := 1, cap := 1, esz := 5 })).bind fun v2 => t3.bind fun v1 => (v2.snd.put v1.fst (v1.snd + 0) [Cell.slice v2.fst]).bind fun v0 => D13_3 n t3 t8 t9 (IntKind.i64.wrap (t10 + 1)) v0 else none else some (AExit.exit 0, X13_3 t3 H) := by intros; exact (loopN_stepD hN13 _ _ _ _).trans (by kernel_rfl)
theorem q13 : ∀ (l : Option Sl) (H : Heap), f13 l H = (LL13_3 (some (List.length H, 0)) l (slen l) 0 (H ++ [Blk.row [Cell.slice none, Cell.slice none, Cell.slice none, Cell.slice none, Cell.slice none, Cell.slice none, Cell.slice none, Cell.slice none, Cell.slice none] false])).bind J13_3 := by intros; exact (f13_run ..).trans (by kernel_rfl)
theorem J13_3_0 : ∀ (x0 : Option (Nat × Nat)) (H : Heap), J13_3 (AExit.exit 0, X13_3 x0 H) = some (x0, H) := by intros; kernel_rfl
theorem ok13 : FnOk Try.prog 13 (specF enc13 (sem13 f13)) := by
  refine spec_ok (C := CC13) good13 rfl rfl rfl (by kernel_rfl) Try.func13 (c := bodyOf Try.f13) (by kernel_rfl) (by kernel_rfl) (Nat.le_of_eq Try.ntmps13.symm) dec13 enc13 de13 _ ?_
  intro args H q h
  unfold sem13 at h
  split at h
  · rw [← f13_eq]; exact h
  · cases h
/-! 14: R9_Mem_Find -/
noncomputable def CC14 : Ctx := { P := Try.prog, own := [6], fns := [], nt := 28, nums := [], live := [(2, ⟨[1, 10, 11, 12], [], [4], []⟩)] }
theorem good14 : Callees Try.prog CC14.fns [] CC14.nums := Callees.nil Try.prog
theorem hN14 : CtxNat CC14 := good14.ctx rfl rfl rfl
def enc14 (r : Int) : List TV := [.c (Cell.int .i64 (r))]
def dec14 : AV → Option (Int)
  | .c (Cell.int .i64 q0) => some (q0)
  | _ => none
theorem de14 (v : AV) (r : Int) (h : dec14 v = some r) : v = oneOf (enc14 r) := by
  unfold dec14 at h
  split at h
  · cases h; rfl
  · cases h
abbrev Ty14 := (Option (Nat × Nat)) → Int → Heap → Option (Int × Heap)
def sem14 (f : Ty14) : List TV → Heap → Option (Int × Heap)
  | [.c (Cell.ptr m), .c (Cell.int .u64 x1)], H => f m x1 H
  | _, _ => none
noncomputable def f14 : Ty14 := hide fun m x1 H => fnA CC14 Try.f14.results.toList (bodyOf Try.f14) _ [.c (Cell.ptr m), .c (Cell.int .u64 x1)] H (decF dec14)
theorem f14_eq (m : (Option (Nat × Nat))) (x1 : Int) (H : Heap) : f14 m x1 H = fnA CC14 Try.f14.results.toList (bodyOf Try.f14) _ [.c (Cell.ptr m), .c (Cell.int .u64 x1)] H (decF dec14) := by unfold f14; rw [hide_eq]
theorem f14_run (m : (Option (Nat × Nat))) (x1 : Int) (H : Heap) : f14 m x1 H = fnL CC14 (lpD CC14) Try.f14.results.toList (bodyOf Try.f14) [.c (Cell.ptr m), .c (Cell.int .u64 x1)] H (decF dec14) := (f14_eq ..).trans (fnA_lpD hN14 ..)
def S14_2 (t1 : Int) (t10 : (Option Sl)) (t11 : Int) (t12 : Int) (H : Heap) : St := ⟨[(1, .c (Cell.int .u64 t1)), (10, .c (Cell.slice t10)), (11, .c (Cell.int .i64 t11)), (12, .c (Cell.int .i64 t12))], [], H⟩
noncomputable def D14_2 (n : Nat) (t1 : Int) (t10 : (Option Sl)) (t11 : Int) (t12 : Int) (H : Heap) : Option (AExit × St) := loopN (exec CC14 (Code.l (Code.l (Code.r (Code.l (Code.r (bodyOf Try.f14))))))) (keepOf CC14.live (Code.l (Code.l (Code.r (Code.l (Code.r (bodyOf Try.f14))))))) n (S14_2 t1 t10 t11 t12 H) retD
noncomputable def LL14_2 (t1 : Int) (t10 : (Option Sl)) (t11 : Int) (t12 : Int) (H : Heap) : Option (AExit × St) := loopsD CC14 (Code.l (Code.l (Code.r (Code.l (Code.r (bodyOf Try.f14)))))) (S14_2 t1 t10 t11 t12 H)
theorem LL14_2_of (m : Nat) (hm : m < 18446744073709551616) (t1 : Int) (t10 : (Option Sl)) (t11 : Int) (t12 : Int) (H : Heap) : ∃ n, LL14_2 t1 t10 t11 t12 H = D14_2 (n + m + 1) t1 t10 t11 t12 H := loopsD_of _ _ _ m hm
def X14_2 (x0 : Int) (H : Heap) : St := { env := [(4, AV.c (Cell.int IntKind.i64 x0))], loc := [], heap := H }
def X14_2a (H : Heap) : St := { env := [], loc := [], heap := H }
noncomputable def J14_2 : AExit × St → Option (Int × Heap) := fun p => blockK 0 (seqK (execL CC14 (lpD CC14) (Code.r (Code.r (bodyOf Try.f14)))) (retA CC14 [ResultVar.tmp 4] (decF dec14))) p.fst p.snd
theorem D14_2_s : ∀ (n : Nat) (t1 : Int) (t10 : Option Sl) (t11 t12 : Int) (H : Heap), D14_2 (n + 1) t1 t10 t11 t12 H = bif decide (t12 < t11) then t10.bind fun v10 => bif inb t12 v10.len && v10.esz == 5 then (H.get v10.id (v10.off + t12.toNat * 5)).bind fun v9 => (H.get v10.id (v10.off + t12.toNat * 5 + 1)).bind fun v8 => (H.get v10.id (v10.off + t12.toNat * 5 + 1 + 1)).bind fun v7 => (H.get v10.id (v10.off + t12.toNat * 5 + 1 + 1 + 1)).bind fun v6 => (H.get v10.id (v10.off + t12.toNat * 5 + 1 + 1 + 1 + 1)).bind fun v5 => (Cell.toInt IntKind.u64 v9).bind fun v4 => v8.toSlice.bind fun v3 => v7.toBool.bind fun v2 => v6.toBool.bind fun v1 => (Cell.toInt IntKind.i64 v5).bind fun v0 => bif decide (IntKind.u64.wrap (t1 - v4) < IntKind.u64.wrap (slen v3)) then some (AExit.ret, X14_2 t12 H) else D14_2 n t1 t10 t11 (IntKind.i64.wrap (t12 + 1)) H else none else some (AExit.exit 0, X14_2a H) := by intros; exact (loopN_stepD hN14 _ _ _ _).trans (by kernel_rfl)
theorem q14 : ∀ (m : Option (Nat × Nat)) (x1 : Int) (H : Heap), f14 m x1 H = m.bind fun v13 => (H.get v13.fst (v13.snd + 0)).bind fun v12 => v12.toSlice.bind fun v11 => (LL14_2 x1 v11 (slen v11) 0 H).bind J14_2 := by intros; exact (f14_run ..).trans (by kernel_rfl)
theorem J14_2_0 : ∀ (x0 : Int) (H : Heap), J14_2 (AExit.ret, X14_2 x0 H) = some (x0, H) := by intros; kernel_rfl
theorem J14_2_1 : ∀ (H : Heap), J14_2 (AExit.exit 0, X14_2a H) = some (-1, H) := by intros; kernel_rfl
theorem ok14 : FnOk Try.prog 14 (specF enc14 (sem14 f14)) := by
  refine spec_ok (C := CC14) good14 rfl rfl rfl (by kernel_rfl) Try.func14 (c := bodyOf Try.f14) (by kernel_rfl) (by kernel_rfl) (Nat.le_of_eq Try.ntmps14.symm) dec14 enc14 de14 _ ?_
  intro args H q h
  unfold sem14 at h
  split at h
  · rw [← f14_eq]; exact h
  · cases h
/-! 3: L09_MemPrivate -/
noncomputable def CC3 : Ctx := { P := Try.prog, own := [9], fns := [(11, F11), (17, specF enc17 (sem17 f17)), (16, specF enc16 (sem16 f16)), (15, specF enc15 (sem15 f15)), (14, specF enc14 (sem14 f14)), (13, specF enc13 (sem13 f13)), (12, specF enc12 (sem12 f12)), (10, specF enc10 (sem10 f10)), (9, specF enc9 (sem9 f9)), (8, specF enc8 (sem8 f8))], nt := 108, nums := [11], live := [] }
theorem good3 : Callees Try.prog CC3.fns [] CC3.nums := ((((((((((Callees.nil Try.prog).cons ok8 (specF_nat _ _)).cons ok9 (specF_nat _ _)).cons ok10 (specF_nat _ _)).cons ok12 (specF_nat _ _)).cons ok13 (specF_nat _ _)).cons ok14 (specF_nat _ _)).cons ok15 (specF_nat _ _)).cons ok16 (specF_nat _ _)).cons ok17 (specF_nat _ _)).cons_num ok11 F11_num
theorem hN3 : CtxNat CC3 := good3.ctx rfl rfl rfl
def enc3 (r : Bool) : List TV := [.c (Cell.bool (r))]
def dec3 : AV → Option (Bool)
  | .c (Cell.bool q0) => some (q0)
  | _ => none
theorem de3 (v : AV) (r : Bool) (h : dec3 v = some r) : v = oneOf (enc3 r) := by
  unfold dec3 at h
  split at h
  · cases h; rfl
  · cases h
abbrev Ty3 := (Option Sl) → Int → Int → Int → Int → Int → Bool → Int → Int → Int → Int → Heap → Option (Bool × Heap)
def sem3 (f : Ty3) : List TV → Heap → Option (Bool × Heap)
  | [.c (Cell.slice l), .c (Cell.int .i64 k), .c (Cell.int .i64 t), .c (Cell.int .i64 u), .agg [Cell.int .i64 o0, Cell.int .i64 o1, Cell.bool o2, Cell.int .i64 o3, Cell.int .u64 o4, Cell.int .i64 o5, Cell.int .u64 o6]], H => f l k t u o0 o1 o2 o3 o4 o5 o6 H
  | _, _ => none
noncomputable def f3 : Ty3 := hide fun l k t u o0 o1 o2 o3 o4 o5 o6 H => fnA CC3 Try.f3.results.toList (bodyOf Try.f3) _ [.c (Cell.slice l), .c (Cell.int .i64 k), .c (Cell.int .i64 t), .c (Cell.int .i64 u), .agg [Cell.int .i64 o0, Cell.int .i64 o1, Cell.bool o2, Cell.int .i64 o3, Cell.int .u64 o4, Cell.int .i64 o5, Cell.int .u64 o6]] H (decF dec3)
theorem f3_eq (l : (Option Sl)) (k : Int) (t : Int) (u : Int) (o0 : Int) (o1 : Int) (o2 : Bool) (o3 : Int) (o4 : Int) (o5 : Int) (o6 : Int) (H : Heap) : f3 l k t u o0 o1 o2 o3 o4 o5 o6 H = fnA CC3 Try.f3.results.toList (bodyOf Try.f3) _ [.c (Cell.slice l), .c (Cell.int .i64 k), .c (Cell.int .i64 t), .c (Cell.int .i64 u), .agg [Cell.int .i64 o0, Cell.int .i64 o1, Cell.bool o2, Cell.int .i64 o3, Cell.int .u64 o4, Cell.int .i64 o5, Cell.int .u64 o6]] H (decF dec3) := by unfold f3; rw [hide_eq]
theorem f3_run (l : (Option Sl)) (k : Int) (t : Int) (u : Int) (o0 : Int) (o1 : Int) (o2 : Bool) (o3 : Int) (o4 : Int) (o5 : Int) (o6 : Int) (H : Heap) : f3 l k t u o0 o1 o2 o3 o4 o5 o6 H = fnL CC3 (lpD CC3) Try.f3.results.toList (bodyOf Try.f3) [.c (Cell.slice l), .c (Cell.int .i64 k), .c (Cell.int .i64 t), .c (Cell.int .i64 u), .agg [Cell.int .i64 o0, Cell.int .i64 o1, Cell.bool o2, Cell.int .i64 o3, Cell.int .u64 o4, Cell.int .i64 o5, Cell.int .u64 o6]] H (decF dec3) := (f3_eq ..).trans (fnA_lpD hN3 ..)
theorem q3 : ∀ (l : Option Sl) (k t u o0 o1 : Int) (o2 : Bool) (o3 o4 o5 o6 : Int) (H : Heap), f3 l k t u o0 o1 o2 o3 o4 o5 o6 H = (f8 l H).bind fun v15 => (f9 v15.fst v15.snd).bind fun v14 => (f10 v14.fst t k v14.snd).bind fun v13 => bif !v13.fst then some (true, v13.snd) else bif t == u then some (true, v13.snd) else v15.fst.bind fun v12 => bif inb k v12.len && v12.esz == 5 then (v13.snd.get v12.id (v12.off + k.toNat * 5 + 0)).bind fun v11 => (Cell.toInt IntKind.u64 v11).bind fun v10 => (f12 v14.fst t (IntKind.u64.wrap (v10 + o4.tmod 16)) o5 false v13.snd).bind fun v9 => bif !v9.fst then some (true, v9.snd) else (f13 v15.fst v9.snd).bind fun v8 => (f14 v8.fst (IntKind.u64.wrap (v10 + o4.tmod 16)) v8.snd).bind fun v7 => (f15 v14.fst u (IntKind.u64.wrap (v10 + o4.tmod 16)) o5 v7.snd).bind fun v6 => bif !v7.fst == k then (f10 v14.fst u k v6.snd).bind fun v1 => bif !v1.fst then (f10 v14.fst t k v1.snd).bind fun v0 => bif !v0.fst then some (true, v0.snd) else some (false, v0.snd) else some (false, v1.snd) else bif !v6.fst.snd then (f16 v14.fst u (IntKind.u64.wrap (v10 + o4.tmod 16)) o5 o6 v6.snd).bind fun v5 => bif !v5.fst then (f17 v14.fst u (IntKind.u64.wrap (v10 + o4.tmod 16)) o5 o6 v5.snd).bind fun v4 => bif !v4.fst then (f10 v14.fst u k v4.snd).bind fun v3 => bif !v3.fst then (f10 v14.fst t k v3.snd).bind fun v2 => bif !v2.fst then some (true, v2.snd) else some (false, v2.snd) else some (false, v3.snd) else some (false, v4.snd) else some (false, v5.snd) else some (false, v6.snd) else none := by intros; exact (f3_run ..).trans (by kernel_rfl)
theorem ok3 : FnOk Try.prog 3 (specF enc3 (sem3 f3)) := by
  refine spec_ok (C := CC3) good3 rfl rfl rfl (by kernel_rfl) Try.func3 (c := bodyOf Try.f3) (by kernel_rfl) (by kernel_rfl) (Nat.le_of_eq Try.ntmps3.symm) dec3 enc3 de3 _ ?_
  intro args H q h
  unfold sem3 at h
  split at h
  · rw [← f3_eq]; exact h
  · cases h
