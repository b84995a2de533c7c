/- Layer 9: memory: the functions that the laws reach. -/
import Derived.Test.YtdpmbfceadidkaaBa1
import Derived.KernelRfl
namespace Go.Proofs.Ytdpmbfceadidkaa
open Go Go.Proofs.Ytdpmbfceadidkaa.Ab
set_option linter.unusedVariables false
set_option linter.unusedSimpArgs false
set_option maxRecDepth 100000
noncomputable section
/-! 31: mem_Mem_thread -/
noncomputable def CC31 : Ctx := { P := Try.prog, own := [], fns := [], nt := 15, nums := [], live := [] }
theorem good31 : Callees Try.prog CC31.fns [] CC31.nums := Callees.nil Try.prog
theorem hN31 : CtxNat CC31 := good31.ctx rfl rfl rfl
def enc31 (r : Bool) : List TV := [.c (Cell.bool (r))]
def dec31 : AV → Option (Bool)
  | .c (Cell.bool q0) => some (q0)
  | _ => none
theorem de31 (v : AV) (r : Bool) (h : dec31 v = some r) : v = oneOf (enc31 r) := by
  unfold dec31 at h
  split at h
  · cases h; rfl
  · cases h
abbrev Ty31 := (Option (Nat × Nat)) → Int → Heap → Option (Bool × Heap)
def sem31 (f : Ty31) : List TV → Heap → Option (Bool × Heap)
  | [.c (Cell.ptr m), .c (Cell.int .i64 t)], H => f m t H
  | _, _ => none
noncomputable def f31 : Ty31 := hide fun m t H => fnA CC31 Try.f31.results.toList (bodyOf Try.f31) _ [.c (Cell.ptr m), .c (Cell.int .i64 t)] H (decF dec31)
theorem f31_eq (m : (Option (Nat × Nat))) (t : Int) (H : Heap) : f31 m t H = fnA CC31 Try.f31.results.toList (bodyOf Try.f31) _ [.c (Cell.ptr m), .c (Cell.int .i64 t)] H (decF dec31) := by unfold f31; rw [hide_eq]
theorem f31_run (m : (Option (Nat × Nat))) (t : Int) (H : Heap) : f31 m t H = fnL CC31 (lpD CC31) Try.f31.results.toList (bodyOf Try.f31) [.c (Cell.ptr m), .c (Cell.int .i64 t)] H (decF dec31) := (f31_eq ..).trans (fnA_lpD hN31 ..)
theorem q31 : ∀ (m : Option (Nat × Nat)) (t : Int) (H : Heap), f31 m t H = bif !m.isNone then bif decide (t ≥ 0) then some (decide (t < 8), H) else some (false, H) else some (false, H) := by intros; exact (f31_run ..).trans (by kernel_rfl)
theorem ok31 : FnOk Try.prog 31 (specF enc31 (sem31 f31)) := by
  refine spec_ok (C := CC31) good31 rfl rfl rfl (by kernel_rfl) Try.func31 (c := bodyOf Try.f31) (by kernel_rfl) (by kernel_rfl) (Nat.le_of_eq Try.ntmps31.symm) dec31 enc31 de31 _ ?_
  intro args H q h
  unfold sem31 at h
  split at h
  · rw [← f31_eq]; exact h
  · cases h
/-! 32: bits_Is -/
noncomputable def CC32 : Ctx := { P := Try.prog, own := [], fns := [], nt := 17, nums := [], live := [] }
theorem good32 : Callees Try.prog CC32.fns [] CC32.nums := Callees.nil Try.prog
theorem hN32 : CtxNat CC32 := good32.ctx rfl rfl rfl
def enc32 (r : Bool) : List TV := [.c (Cell.bool (r))]
def dec32 : AV → Option (Bool)
  | .c (Cell.bool q0) => some (q0)
  | _ => none
theorem de32 (v : AV) (r : Bool) (h : dec32 v = some r) : v = oneOf (enc32 r) := by
  unfold dec32 at h
  split at h
  · cases h; rfl
  · cases h
abbrev Ty32 := Int → Heap → Option (Bool × Heap)
def sem32 (f : Ty32) : List TV → Heap → Option (Bool × Heap)
  | [.c (Cell.int .i64 w)], H => f w H
  | _, _ => none
noncomputable def f32 : Ty32 := hide fun w H => fnA CC32 Try.f32.results.toList (bodyOf Try.f32) _ [.c (Cell.int .i64 w)] H (decF dec32)
theorem f32_eq (w : Int) (H : Heap) : f32 w H = fnA CC32 Try.f32.results.toList (bodyOf Try.f32) _ [.c (Cell.int .i64 w)] H (decF dec32) := by unfold f32; rw [hide_eq]
theorem f32_run (w : Int) (H : Heap) : f32 w H = fnL CC32 (lpD CC32) Try.f32.results.toList (bodyOf Try.f32) [.c (Cell.int .i64 w)] H (decF dec32) := (f32_eq ..).trans (fnA_lpD hN32 ..)
theorem q32 : ∀ (w : Int) (H : Heap), f32 w H = bif w == 1 then some (true, H) else bif w == 2 then some (true, H) else bif w == 4 then some (true, H) else some (w == 8, H) := by intros; exact (f32_run ..).trans (by kernel_rfl)
theorem ok32 : FnOk Try.prog 32 (specF enc32 (sem32 f32)) := by
  refine spec_ok (C := CC32) good32 rfl rfl rfl (by kernel_rfl) Try.func32 (c := bodyOf Try.f32) (by kernel_rfl) (by kernel_rfl) (Nat.le_of_eq Try.ntmps32.symm) dec32 enc32 de32 _ ?_
  intro args H q h
  unfold sem32 at h
  split at h
  · rw [← f32_eq]; exact h
  · cases h
/-! 60: mem_Area_has -/
noncomputable def CC60 : Ctx := { P := Try.prog, own := [2], fns := [], nt := 14, nums := [], live := [] }
theorem good60 : Callees Try.prog CC60.fns [] CC60.nums := Callees.nil Try.prog
theorem hN60 : CtxNat CC60 := good60.ctx rfl rfl rfl
def enc60 (r : Bool) : List TV := [.c (Cell.bool (r))]
def dec60 : AV → Option (Bool)
  | .c (Cell.bool q0) => some (q0)
  | _ => none
theorem de60 (v : AV) (r : Bool) (h : dec60 v = some r) : v = oneOf (enc60 r) := by
  unfold dec60 at h
  split at h
  · cases h; rfl
  · cases h
abbrev Ty60 := Int → (Option Sl) → Bool → Bool → Int → Heap → Option (Bool × Heap)
def sem60 (f : Ty60) : List TV → Heap → Option (Bool × Heap)
  | [.agg [Cell.int .u64 a0, Cell.slice a1, Cell.bool a2, Cell.bool a3], .c (Cell.int .u64 x1)], H => f a0 a1 a2 a3 x1 H
  | _, _ => none
noncomputable def f60 : Ty60 := hide fun a0 a1 a2 a3 x1 H => fnA CC60 Try.f60.results.toList (bodyOf Try.f60) _ [.agg [Cell.int .u64 a0, Cell.slice a1, Cell.bool a2, Cell.bool a3], .c (Cell.int .u64 x1)] H (decF dec60)
theorem f60_eq (a0 : Int) (a1 : (Option Sl)) (a2 : Bool) (a3 : Bool) (x1 : Int) (H : Heap) : f60 a0 a1 a2 a3 x1 H = fnA CC60 Try.f60.results.toList (bodyOf Try.f60) _ [.agg [Cell.int .u64 a0, Cell.slice a1, Cell.bool a2, Cell.bool a3], .c (Cell.int .u64 x1)] H (decF dec60) := by unfold f60; rw [hide_eq]
theorem f60_run (a0 : Int) (a1 : (Option Sl)) (a2 : Bool) (a3 : Bool) (x1 : Int) (H : Heap) : f60 a0 a1 a2 a3 x1 H = fnL CC60 (lpD CC60) Try.f60.results.toList (bodyOf Try.f60) [.agg [Cell.int .u64 a0, Cell.slice a1, Cell.bool a2, Cell.bool a3], .c (Cell.int .u64 x1)] H (decF dec60) := (f60_eq ..).trans (fnA_lpD hN60 ..)
theorem q60 : ∀ (a0 : Int) (a1 : Option Sl) (a2 a3 : Bool) (x1 : Int) (H : Heap), f60 a0 a1 a2 a3 x1 H = some (decide (IntKind.u64.wrap (x1 - a0) < IntKind.u64.wrap (slen a1)), H) := by intros; exact (f60_run ..).trans (by kernel_rfl)
theorem ok60 : FnOk Try.prog 60 (specF enc60 (sem60 f60)) := by
  refine spec_ok (C := CC60) good60 rfl rfl rfl (by kernel_rfl) Try.func60 (c := bodyOf Try.f60) (by kernel_rfl) (by kernel_rfl) (Nat.le_of_eq Try.ntmps60.symm) dec60 enc60 de60 _ ?_
  intro args H q h
  unfold sem60 at h
  split at h
  · rw [← f60_eq]; exact h
  · cases h
/-! 59: mem_Mem_find$1 -/
noncomputable def CC59 : Ctx := { P := Try.prog, own := [2], fns := [(60, specF enc60 (sem60 f60))], nt := 8, nums := [], live := [] }
theorem good59 : Callees Try.prog CC59.fns [] CC59.nums := (Callees.nil Try.prog).cons ok60 (specF_nat _ _)
theorem hN59 : CtxNat CC59 := good59.ctx rfl rfl rfl
def enc59 (r : Bool) : List TV := [.c (Cell.bool (r))]
def dec59 : AV → Option (Bool)
  | .c (Cell.bool q0) => some (q0)
  | _ => none
theorem de59 (v : AV) (r : Bool) (h : dec59 v = some r) : v = oneOf (enc59 r) := by
  unfold dec59 at h
  split at h
  · cases h; rfl
  · cases h
abbrev Ty59 := Int → (Option Sl) → Bool → Bool → Int → (Option (Nat × Nat)) → Heap → Option (Bool × Heap)
def sem59 (f : Ty59) : List TV → Heap → Option (Bool × Heap)
  | [.agg [Cell.int .u64 h0, Cell.slice h1, Cell.bool h2, Cell.bool h3, Cell.int .i64 h4], .c (Cell.ptr c0)], H => f h0 h1 h2 h3 h4 c0 H
  | _, _ => none
noncomputable def f59 : Ty59 := hide fun h0 h1 h2 h3 h4 c0 H => fnA CC59 Try.f59.results.toList (bodyOf Try.f59) _ [.agg [Cell.int .u64 h0, Cell.slice h1, Cell.bool h2, Cell.bool h3, Cell.int .i64 h4], .c (Cell.ptr c0)] H (decF dec59)
theorem f59_eq (h0 : Int) (h1 : (Option Sl)) (h2 : Bool) (h3 : Bool) (h4 : Int) (c0 : (Option (Nat × Nat))) (H : Heap) : f59 h0 h1 h2 h3 h4 c0 H = fnA CC59 Try.f59.results.toList (bodyOf Try.f59) _ [.agg [Cell.int .u64 h0, Cell.slice h1, Cell.bool h2, Cell.bool h3, Cell.int .i64 h4], .c (Cell.ptr c0)] H (decF dec59) := by unfold f59; rw [hide_eq]
theorem f59_run (h0 : Int) (h1 : (Option Sl)) (h2 : Bool) (h3 : Bool) (h4 : Int) (c0 : (Option (Nat × Nat))) (H : Heap) : f59 h0 h1 h2 h3 h4 c0 H = fnL CC59 (lpD CC59) Try.f59.results.toList (bodyOf Try.f59) [.agg [Cell.int .u64 h0, Cell.slice h1, Cell.bool h2, Cell.bool h3, Cell.int .i64 h4], .c (Cell.ptr c0)] H (decF dec59) := (f59_eq ..).trans (fnA_lpD hN59 ..)
theorem q59 : ∀ (h0 : Int) (h1 : Option Sl) (h2 h3 : Bool) (h4 : Int) (c0 : Option (Nat × Nat)) (H : Heap), f59 h0 h1 h2 h3 h4 c0 H = c0.bind fun v3 => (H.get v3.fst v3.snd).bind fun v2 => (Cell.toInt IntKind.u64 v2).bind fun v1 => (f60 h0 h1 h2 h3 v1 H).bind fun v0 => some (v0.fst, v0.snd) := by intros; exact (f59_run ..).trans (by kernel_rfl)
theorem ok59 : FnOk Try.prog 59 (specF enc59 (sem59 f59)) := by
  refine spec_ok (C := CC59) good59 rfl rfl rfl (by kernel_rfl) Try.func59 (c := bodyOf Try.f59) (by kernel_rfl) (by kernel_rfl) (Nat.le_of_eq Try.ntmps59.symm) dec59 enc59 de59 _ ?_
  intro args H q h
  unfold sem59 at h
  split at h
  · rw [← f59_eq]; exact h
  · cases h
/-! 58: slices_IndexFunc[[]mem_held,mem_held] -/
noncomputable def CC58 : Ctx := { P := Try.prog, own := [], fns := [(59, specF enc59 (sem59 f59))], nt := 19, nums := [], live := [(2, ⟨[0, 1, 7, 8], [], [4], []⟩)] }
theorem good58 : Callees Try.prog CC58.fns [] CC58.nums := (Callees.nil Try.prog).cons ok59 (specF_nat _ _)
theorem hN58 : CtxNat CC58 := good58.ctx rfl rfl rfl
def enc58 (r : Int) : List TV := [.c (Cell.int .i64 (r))]
def dec58 : AV → Option (Int)
  | .c (Cell.int .i64 q0) => some (q0)
  | _ => none
theorem de58 (v : AV) (r : Int) (h : dec58 v = some r) : v = oneOf (enc58 r) := by
  unfold dec58 at h
  split at h
  · cases h; rfl
  · cases h
abbrev Ty58a := (Option Sl) → (Option (Nat × Nat)) → Heap → Option (Int × Heap)
noncomputable def f58a : Ty58a := hide fun s q H => fnA CC58 Try.f58.results.toList (bodyOf Try.f58) _ [.c (Cell.slice s), .c (Cell.fn 59 [] [Cell.ptr q])] H (decF dec58)
theorem f58a_eq (s : (Option Sl)) (q : (Option (Nat × Nat))) (H : Heap) : f58a s q H = fnA CC58 Try.f58.results.toList (bodyOf Try.f58) _ [.c (Cell.slice s), .c (Cell.fn 59 [] [Cell.ptr q])] H (decF dec58) := by unfold f58a; rw [hide_eq]
theorem f58a_run (s : (Option Sl)) (q : (Option (Nat × Nat))) (H : Heap) : f58a s q H = fnL CC58 (lpD CC58) Try.f58.results.toList (bodyOf Try.f58) [.c (Cell.slice s), .c (Cell.fn 59 [] [Cell.ptr q])] H (decF dec58) := (f58a_eq ..).trans (fnA_lpD hN58 ..)
def S58a_2 (t0 : (Option Sl)) (q : (Option (Nat × Nat))) (t7 : Int) (t8 : Int) (H : Heap) : St := ⟨[(0, .c (Cell.slice t0)), (1, .c (Cell.fn 59 [] [Cell.ptr q])), (7, .c (Cell.int .i64 t7)), (8, .c (Cell.int .i64 t8))], [], H⟩
noncomputable def D58a_2 (n : Nat) (t0 : (Option Sl)) (q : (Option (Nat × Nat))) (t7 : Int) (t8 : Int) (H : Heap) : Option (AExit × St) := loopN (exec CC58 (Code.l (Code.l (Code.r (Code.l (Code.r (bodyOf Try.f58))))))) (keepOf CC58.live (Code.l (Code.l (Code.r (Code.l (Code.r (bodyOf Try.f58))))))) n (S58a_2 t0 q t7 t8 H) retD
noncomputable def LL58a_2 (t0 : (Option Sl)) (q : (Option (Nat × Nat))) (t7 : Int) (t8 : Int) (H : Heap) : Option (AExit × St) := loopsD CC58 (Code.l (Code.l (Code.r (Code.l (Code.r (bodyOf Try.f58)))))) (S58a_2 t0 q t7 t8 H)
theorem LL58a_2_of (m : Nat) (hm : m < 18446744073709551616) (t0 : (Option Sl)) (q : (Option (Nat × Nat))) (t7 : Int) (t8 : Int) (H : Heap) : ∃ n, LL58a_2 t0 q t7 t8 H = D58a_2 (n + m + 1) t0 q t7 t8 H := loopsD_of _ _ _ m hm
def X58a_2 (x0 : Int) (H : Heap) : St := { env := [(4, AV.c (Cell.int IntKind.i64 x0))], loc := [], heap := H }
def X58a_2a (H : Heap) : St := { env := [], loc := [], heap := H }
noncomputable def J58a_2 : AExit × St → Option (Int × Heap) := fun p => blockK 0 (seqK (execL CC58 (lpD CC58) (Code.r (Code.r (bodyOf Try.f58)))) (retA CC58 [ResultVar.tmp 4] (decF dec58))) p.fst p.snd
theorem D58a_2_s : ∀ (n : Nat) (t0 : Option Sl) (q : Option (Nat × Nat)) (t7 t8 : Int) (H : Heap), D58a_2 (n + 1) t0 q t7 t8 H = bif decide (t8 < t7) then t0.bind fun v11 => bif inb t8 v11.len && v11.esz == 5 then (H.get v11.id (v11.off + t8.toNat * 5)).bind fun v10 => (H.get v11.id (v11.off + t8.toNat * 5 + 1)).bind fun v9 => (H.get v11.id (v11.off + t8.toNat * 5 + 1 + 1)).bind fun v8 => (H.get v11.id (v11.off + t8.toNat * 5 + 1 + 1 + 1)).bind fun v7 => (H.get v11.id (v11.off + t8.toNat * 5 + 1 + 1 + 1 + 1)).bind fun v6 => (Cell.toInt IntKind.u64 v10).bind fun v5 => v9.toSlice.bind fun v4 => v8.toBool.bind fun v3 => v7.toBool.bind fun v2 => (Cell.toInt IntKind.i64 v6).bind fun v1 => (f59 v5 v4 v3 v2 v1 q H).bind fun v0 => bif v0.fst then some (AExit.ret, X58a_2 t8 v0.snd) else D58a_2 n t0 q t7 (IntKind.i64.wrap (t8 + 1)) v0.snd else none else some (AExit.exit 0, X58a_2a H) := by intros; exact (loopN_stepD hN58 _ _ _ _).trans (by kernel_rfl)
theorem q58a : ∀ (s : Option Sl) (q : Option (Nat × Nat)) (H : Heap), f58a s q H = (LL58a_2 s q (slen s) 0 H).bind J58a_2 := by intros; exact (f58a_run ..).trans (by kernel_rfl)
theorem J58a_2_0 : ∀ (x0 : Int) (H : Heap), J58a_2 (AExit.ret, X58a_2 x0 H) = some (x0, H) := by intros; kernel_rfl
theorem J58a_2_1 : ∀ (H : Heap), J58a_2 (AExit.exit 0, X58a_2a H) = some (-1, H) := by intros; kernel_rfl
noncomputable def sem58 (_ : Unit) : List TV → Heap → Option (Int × Heap)
  | [.c (Cell.slice s), .c (Cell.fn 59 [] [Cell.ptr q])], H => f58a s q H
  | _, _ => none
def f58 : Unit := ()
theorem ok58 : FnOk Try.prog 58 (specF enc58 (sem58 f58)) := by
  refine spec_ok (C := CC58) good58 rfl rfl rfl (by kernel_rfl) Try.func58 (c := bodyOf Try.f58) (by kernel_rfl) (by kernel_rfl) (Nat.le_of_eq Try.ntmps58.symm) dec58 enc58 de58 _ ?_
  intro args H q h
  unfold sem58 at h
  split at h
  · rw [← f58a_eq]; exact h
  · cases h
/-! 48: mem_Mem_find -/
noncomputable def CC48 : Ctx := { P := Try.prog, own := [], fns := [(58, specF enc58 (sem58 f58)), (59, specF enc59 (sem59 f59))], nt := 11, nums := [], live := [] }
theorem good48 : Callees Try.prog CC48.fns [] CC48.nums := ((Callees.nil Try.prog).cons ok59 (specF_nat _ _)).cons ok58 (specF_nat _ _)
theorem hN48 : CtxNat CC48 := good48.ctx rfl rfl rfl
def enc48 (r : Int) : List TV := [.c (Cell.int .i64 (r))]
def dec48 : AV → Option (Int)
  | .c (Cell.int .i64 q0) => some (q0)
  | _ => none
theorem de48 (v : AV) (r : Int) (h : dec48 v = some r) : v = oneOf (enc48 r) := by
  unfold dec48 at h
  split at h
  · cases h; rfl
  · cases h
abbrev Ty48 := (Option (Nat × Nat)) → Int → Heap → Option (Int × Heap)
def sem48 (f : Ty48) : List TV → Heap → Option (Int × Heap)
  | [.c (Cell.ptr m), .c (Cell.int .u64 x1)], H => f m x1 H
  | _, _ => none
noncomputable def f48 : Ty48 := hide fun m x1 H => fnA CC48 Try.f48.results.toList (bodyOf Try.f48) _ [.c (Cell.ptr m), .c (Cell.int .u64 x1)] H (decF dec48)
theorem f48_eq (m : (Option (Nat × Nat))) (x1 : Int) (H : Heap) : f48 m x1 H = fnA CC48 Try.f48.results.toList (bodyOf Try.f48) _ [.c (Cell.ptr m), .c (Cell.int .u64 x1)] H (decF dec48) := by unfold f48; rw [hide_eq]
theorem f48_run (m : (Option (Nat × Nat))) (x1 : Int) (H : Heap) : f48 m x1 H = fnL CC48 (lpD CC48) Try.f48.results.toList (bodyOf Try.f48) [.c (Cell.ptr m), .c (Cell.int .u64 x1)] H (decF dec48) := (f48_eq ..).trans (fnA_lpD hN48 ..)
theorem q48 : ∀ (m : Option (Nat × Nat)) (x1 : Int) (H : Heap), f48 m x1 H = m.bind fun v3 => ((H ++ [Blk.row [Cell.int IntKind.u64 x1] false]).get v3.fst (v3.snd + 0)).bind fun v2 => v2.toSlice.bind fun v1 => (f58a v1 (some (List.length H, 0)) (H ++ [Blk.row [Cell.int IntKind.u64 x1] false])).bind fun v0 => some (v0.fst, v0.snd) := by intros; exact (f48_run ..).trans (by kernel_rfl)
theorem ok48 : FnOk Try.prog 48 (specF enc48 (sem48 f48)) := by
  refine spec_ok (C := CC48) good48 rfl rfl rfl (by kernel_rfl) Try.func48 (c := bodyOf Try.f48) (by kernel_rfl) (by kernel_rfl) (Nat.le_of_eq Try.ntmps48.symm) dec48 enc48 de48 _ ?_
  intro args H q h
  unfold sem48 at h
  split at h
  · rw [← f48_eq]; exact h
  · cases h
/-! 33: mem_Mem_there -/
noncomputable def CC33 : Ctx := { P := Try.prog, own := [10], fns := [(48, specF enc48 (sem48 f48))], nt := 42, nums := [], live := [] }
theorem good33 : Callees Try.prog CC33.fns [] CC33.nums := (Callees.nil Try.prog).cons ok48 (specF_nat _ _)
theorem hN33 : CtxNat CC33 := good33.ctx rfl rfl rfl
def enc33 (r : Bool) : List TV := [.c (Cell.bool (r))]
def dec33 : AV → Option (Bool)
  | .c (Cell.bool q0) => some (q0)
  | _ => none
theorem de33 (v : AV) (r : Bool) (h : dec33 v = some r) : v = oneOf (enc33 r) := by
  unfold dec33 at h
  split at h
  · cases h; rfl
  · cases h
abbrev Ty33 := (Option (Nat × Nat)) → Int → Int → Bool → Heap → Option (Bool × Heap)
def sem33 (f : Ty33) : List TV → Heap → Option (Bool × Heap)
  | [.c (Cell.ptr m), .c (Cell.int .i64 t), .c (Cell.int .u64 x2), .c (Cell.bool write)], H => f m t x2 write H
  | _, _ => none
noncomputable def f33 : Ty33 := hide fun m t x2 write H => fnA CC33 Try.f33.results.toList (bodyOf Try.f33) _ [.c (Cell.ptr m), .c (Cell.int .i64 t), .c (Cell.int .u64 x2), .c (Cell.bool write)] H (decF dec33)
theorem f33_eq (m : (Option (Nat × Nat))) (t : Int) (x2 : Int) (write : Bool) (H : Heap) : f33 m t x2 write H = fnA CC33 Try.f33.results.toList (bodyOf Try.f33) _ [.c (Cell.ptr m), .c (Cell.int .i64 t), .c (Cell.int .u64 x2), .c (Cell.bool write)] H (decF dec33) := by unfold f33; rw [hide_eq]
theorem f33_run (m : (Option (Nat × Nat))) (t : Int) (x2 : Int) (write : Bool) (H : Heap) : f33 m t x2 write H = fnL CC33 (lpD CC33) Try.f33.results.toList (bodyOf Try.f33) [.c (Cell.ptr m), .c (Cell.int .i64 t), .c (Cell.int .u64 x2), .c (Cell.bool write)] H (decF dec33) := (f33_eq ..).trans (fnA_lpD hN33 ..)
theorem q33 : ∀ (m : Option (Nat × Nat)) (t x2 : Int) (write : Bool) (H : Heap), f33 m t x2 write H = (f48 m x2 H).bind fun v14 => bif decide (v14.fst < 0) then some (false, v14.snd) else m.bind fun v13 => (v14.snd.get v13.fst (v13.snd + 0)).bind fun v12 => v12.toSlice.bind fun v11 => v11.bind fun v10 => bif inb v14.fst v10.len && v10.esz == 5 then (v14.snd.get v10.id (v10.off + v14.fst.toNat * 5)).bind fun v9 => (v14.snd.get v10.id (v10.off + v14.fst.toNat * 5 + 1)).bind fun v8 => (v14.snd.get v10.id (v10.off + v14.fst.toNat * 5 + 1 + 1)).bind fun v7 => (v14.snd.get v10.id (v10.off + v14.fst.toNat * 5 + 1 + 1 + 1)).bind fun v6 => (v14.snd.get v10.id (v10.off + v14.fst.toNat * 5 + 1 + 1 + 1 + 1)).bind fun v5 => (Cell.toInt IntKind.u64 v9).bind fun v4 => v8.toSlice.bind fun v3 => v7.toBool.bind fun v2 => v6.toBool.bind fun v1 => (Cell.toInt IntKind.i64 v5).bind fun v0 => bif !v1 then bif v2 then some (true, v14.snd) else some (!write, v14.snd) else bif v0 == t then bif v2 then some (true, v14.snd) else some (!write, v14.snd) else some (false, v14.snd) else none := by intros; exact (f33_run ..).trans (by kernel_rfl)
theorem ok33 : FnOk Try.prog 33 (specF enc33 (sem33 f33)) := by
  refine spec_ok (C := CC33) good33 rfl rfl rfl (by kernel_rfl) Try.func33 (c := bodyOf Try.f33) (by kernel_rfl) (by kernel_rfl) (Nat.le_of_eq Try.ntmps33.symm) dec33 enc33 de33 _ ?_
  intro args H q h
  unfold sem33 at h
  split at h
  · rw [← f33_eq]; exact h
  · cases h
/-! 12: mem_Mem_May -/
noncomputable def CC12 : Ctx := { P := Try.prog, own := [], fns := [(33, specF enc33 (sem33 f33)), (32, specF enc32 (sem32 f32)), (31, specF enc31 (sem31 f31))], nt := 43, nums := [], live := [(4, ⟨[0, 1, 2, 4, 30, 31], [], [10], []⟩)] }
theorem good12 : Callees Try.prog CC12.fns [] CC12.nums := (((Callees.nil Try.prog).cons ok31 (specF_nat _ _)).cons ok32 (specF_nat _ _)).cons ok33 (specF_nat _ _)
theorem hN12 : CtxNat CC12 := good12.ctx rfl rfl rfl
def enc12 (r : Bool) : List TV := [.c (Cell.bool (r))]
def dec12 : AV → Option (Bool)
  | .c (Cell.bool q0) => some (q0)
  | _ => none
theorem de12 (v : AV) (r : Bool) (h : dec12 v = some r) : v = oneOf (enc12 r) := by
  unfold dec12 at h
  split at h
  · cases h; rfl
  · cases h
abbrev Ty12 := (Option (Nat × Nat)) → Int → Int → Int → Bool → Heap → Option (Bool × Heap)
def sem12 (f : Ty12) : List TV → Heap → Option (Bool × Heap)
  | [.c (Cell.ptr m), .c (Cell.int .i64 t), .c (Cell.int .u64 x2), .c (Cell.int .i64 w), .c (Cell.bool write)], H => f m t x2 w write H
  | _, _ => none
noncomputable def f12 : Ty12 := hide fun m t x2 w write H => fnA CC12 Try.f12.results.toList (bodyOf Try.f12) _ [.c (Cell.ptr m), .c (Cell.int .i64 t), .c (Cell.int .u64 x2), .c (Cell.int .i64 w), .c (Cell.bool write)] H (decF dec12)
theorem f12_eq (m : (Option (Nat × Nat))) (t : Int) (x2 : Int) (w : Int) (write : Bool) (H : Heap) : f12 m t x2 w write H = fnA CC12 Try.f12.results.toList (bodyOf Try.f12) _ [.c (Cell.ptr m), .c (Cell.int .i64 t), .c (Cell.int .u64 x2), .c (Cell.int .i64 w), .c (Cell.bool write)] H (decF dec12) := by unfold f12; rw [hide_eq]
theorem f12_run (m : (Option (Nat × Nat))) (t : Int) (x2 : Int) (w : Int) (write : Bool) (H : Heap) : f12 m t x2 w write H = fnL CC12 (lpD CC12) Try.f12.results.toList (bodyOf Try.f12) [.c (Cell.ptr m), .c (Cell.int .i64 t), .c (Cell.int .u64 x2), .c (Cell.int .i64 w), .c (Cell.bool write)] H (decF dec12) := (f12_eq ..).trans (fnA_lpD hN12 ..)
def S12_4 (t0 : (Option (Nat × Nat))) (t1 : Int) (t2 : Int) (t4 : Bool) (t30 : Int) (t31 : Int) (H : Heap) : St := ⟨[(0, .c (Cell.ptr t0)), (1, .c (Cell.int .i64 t1)), (2, .c (Cell.int .u64 t2)), (4, .c (Cell.bool t4)), (30, .c (Cell.int .u64 t30)), (31, .c (Cell.int .u64 t31))], [], H⟩
noncomputable def D12_4 (n : Nat) (t0 : (Option (Nat × Nat))) (t1 : Int) (t2 : Int) (t4 : Bool) (t30 : Int) (t31 : Int) (H : Heap) : Option (AExit × St) := loopN (exec CC12 (Code.l (Code.l (Code.r (Code.l (Code.r (Code.r (bodyOf Try.f12)))))))) (keepOf CC12.live (Code.l (Code.l (Code.r (Code.l (Code.r (Code.r (bodyOf Try.f12)))))))) n (S12_4 t0 t1 t2 t4 t30 t31 H) retD
noncomputable def LL12_4 (t0 : (Option (Nat × Nat))) (t1 : Int) (t2 : Int) (t4 : Bool) (t30 : Int) (t31 : Int) (H : Heap) : Option (AExit × St) := loopsD CC12 (Code.l (Code.l (Code.r (Code.l (Code.r (Code.r (bodyOf Try.f12))))))) (S12_4 t0 t1 t2 t4 t30 t31 H)
theorem LL12_4_of (m : Nat) (hm : m < 18446744073709551616) (t0 : (Option (Nat × Nat))) (t1 : Int) (t2 : Int) (t4 : Bool) (t30 : Int) (t31 : Int) (H : Heap) : ∃ n, LL12_4 t0 t1 t2 t4 t30 t31 H = D12_4 (n + m + 1) t0 t1 t2 t4 t30 t31 H := loopsD_of _ _ _ m hm
def X12_4 (x0 : Bool) (H : Heap) : St := { env := [(10, AV.c (Cell.bool x0))], loc := [], heap := H }
def X12_4a (H : Heap) : St := { env := [], loc := [], heap := H }
noncomputable def J12_4 : AExit × St → Option (Bool × Heap) := fun p => blockK 0 (seqK (execL CC12 (lpD CC12) (Code.r (Code.r (Code.r (bodyOf Try.f12))))) (retA CC12 [ResultVar.tmp 10] (decF dec12))) p.fst p.snd
theorem D12_4_s : ∀ (n : Nat) (t0 : Option (Nat × Nat)) (t1 t2 : Int) (t4 : Bool) (t30 t31 : Int) (H : Heap), D12_4 (n + 1) t0 t1 t2 t4 t30 t31 H = bif decide (t31 < t30) then (f33 t0 t1 (IntKind.u64.wrap (t2 + t31)) t4 H).bind fun v0 => bif !v0.fst then some (AExit.ret, X12_4 false v0.snd) else D12_4 n t0 t1 t2 t4 t30 (IntKind.u64.wrap (t31 + 1)) v0.snd else some (AExit.exit 0, X12_4a H) := by intros; exact (loopN_stepD hN12 _ _ _ _).trans (by kernel_rfl)
theorem q12 : ∀ (m : Option (Nat × Nat)) (t x2 w : Int) (write : Bool) (H : Heap), f12 m t x2 w write H = (f31 m t H).bind fun v2 => bif !v2.fst then some (false, v2.snd) else (f32 w v2.snd).bind fun v1 => bif !v1.fst then some (false, v1.snd) else bif decide (x2 > IntKind.u64.wrap (18446744073709551615 - IntKind.u64.wrap (IntKind.i64.wrap (w - 1)))) then some (false, v1.snd) else (LL12_4 m t x2 write (IntKind.u64.wrap w) 0 v1.snd).bind J12_4 := by intros; exact (f12_run ..).trans (by kernel_rfl)
theorem J12_4_0 : ∀ (x0 : Bool) (H : Heap), J12_4 (AExit.ret, X12_4 x0 H) = some (x0, H) := by intros; kernel_rfl
theorem J12_4_1 : ∀ (H : Heap), J12_4 (AExit.exit 0, X12_4a H) = some (true, H) := by intros; kernel_rfl
theorem ok12 : FnOk Try.prog 12 (specF enc12 (sem12 f12)) := by
  refine spec_ok (C := CC12) good12 rfl rfl rfl (by kernel_rfl) Try.func12 (c := bodyOf Try.f12) (by kernel_rfl) (by kernel_rfl) (Nat.le_of_eq Try.ntmps12.symm) dec12 enc12 de12 _ ?_
  intro args H q h
  unfold sem12 at h
  split at h
  · rw [← f12_eq]; exact h
  · cases h
/-! 50: slices_Backward[[]mem_store,mem_store] -/
noncomputable def CC50 : Ctx := { P := Try.prog, own := [], fns := [], nt := 4, nums := [], live := [] }
theorem good50 : Callees Try.prog CC50.fns [] CC50.nums := Callees.nil Try.prog
noncomputable def F50 : FnSem := natF (runS CC50 Try.f50.results.toList (bodyOf Try.f50))
theorem ok50 : FnOk Try.prog 50 F50 := own_ok (C := CC50) good50 rfl rfl rfl (by kernel_rfl) Try.func50 (c := bodyOf Try.f50) (by kernel_rfl) (by kernel_rfl) (Nat.le_of_eq Try.ntmps50.symm)
/-! 34: mem_Mem_sees -/
noncomputable def CC34 : Ctx := { P := Try.prog, own := [8, 10], fns := [(48, specF enc48 (sem48 f48)), (50, F50)], nt := 54, iters := [(61, (64, 78))], nums := [], live := [(2, ⟨[0, 5, 6, 17], [], [0, 5, 6], []⟩)] }
theorem good34 : Callees Try.prog CC34.fns [] CC34.nums := ((Callees.nil Try.prog).cons ok50 (natF_nat _)).cons ok48 (specF_nat _ _)
theorem hI34 : CtxNat CC34 := good34.ctxI rfl rfl rfl fun gf ty h => by
  have hi : CC34.iters = [(61, (64, 78))] := rfl
  rw [hi, look_cons] at h
  split at h
  · rename_i e
    subst e
    cases h
    exact it61
  · cases h
theorem hN34 : CtxNat CC34 := hI34
def enc34 (r : Int) : List TV := [.c (Cell.int .u8 (r))]
def dec34 : AV → Option (Int)
  | .c (Cell.int .u8 q0) => some (q0)
  | _ => none
theorem de34 (v : AV) (r : Int) (h : dec34 v = some r) : v = oneOf (enc34 r) := by
  unfold dec34 at h
  split at h
  · cases h; rfl
  · cases h
abbrev Ty34 := (Option (Nat × Nat)) → Int → Int → Heap → Option (Int × Heap)
def sem34 (f : Ty34) : List TV → Heap → Option (Int × Heap)
  | [.c (Cell.ptr m), .c (Cell.int .i64 t), .c (Cell.int .u64 x2)], H => f m t x2 H
  | _, _ => none
noncomputable def f34 : Ty34 := hide fun m t x2 H => fnA CC34 Try.f34.results.toList (bodyOf Try.f34) _ [.c (Cell.ptr m), .c (Cell.int .i64 t), .c (Cell.int .u64 x2)] H (decF dec34)
theorem f34_eq (m : (Option (Nat × Nat))) (t : Int) (x2 : Int) (H : Heap) : f34 m t x2 H = fnA CC34 Try.f34.results.toList (bodyOf Try.f34) _ [.c (Cell.ptr m), .c (Cell.int .i64 t), .c (Cell.int .u64 x2)] H (decF dec34) := by unfold f34; rw [hide_eq]
theorem f34_run (m : (Option (Nat × Nat))) (t : Int) (x2 : Int) (H : Heap) : f34 m t x2 H = fnL CC34 (lpD CC34) Try.f34.results.toList (bodyOf Try.f34) [.c (Cell.ptr m), .c (Cell.int .i64 t), .c (Cell.int .u64 x2)] H (decF dec34) := (f34_eq ..).trans (fnA_lpD hN34 ..)
def S34_2 (t0 : (Option (Nat × Nat))) (t5 : Nat) (t6 : Nat) (id17 : Nat) (off17 : Nat) (H : Heap) : St := ⟨[(0, .c (Cell.ptr t0)), (5, .c (Cell.ptr (some (t5, 0)))), (6, .c (Cell.ptr (some (t6, 0)))), (17, .c (Cell.fn 61 [] [Cell.ptr (some (id17, off17))]))], [], H⟩
noncomputable def D34_2 (n : Nat) (t0 : (Option (Nat × Nat))) (t5 : Nat) (t6 : Nat) (id17 : Nat) (off17 : Nat) (H : Heap) : Option (AExit × Heap) := rangeN CC34 64 78 id17 off17 18 19 (exec CC34 (Code.l (Code.l (Code.r (Code.l (Code.r (bodyOf Try.f34))))))) (exec CC34 (Code.r (Code.l (Code.r (Code.l (Code.r (bodyOf Try.f34))))))) (envOf (keepOf CC34.live (Code.l (Code.l (Code.r (Code.l (Code.r (bodyOf Try.f34))))))) (S34_2 t0 t5 t6 id17 off17 H).env) n H retH
noncomputable def DB34_2 (lp : Code → St → (AExit → St → Option (AExit × Heap)) → Option (AExit × Heap)) (f : Heap → Option (AExit × Heap)) (K : AExit → Heap → Option (AExit × Heap)) (n : Nat) (t0 : (Option (Nat × Nat))) (t5 : Nat) (t6 : Nat) (id17 : Nat) (off17 : Nat) (H : Heap) : Option (AExit × Heap) := caught CC34.P 64 id17 off17 H fun x => indexA CC34.P 64 (.c (.slice x)) ((n : Nat) : Int) fun y => loadA CC34.P ⟨[], [], H⟩ 78 y fun v => reAV CC34.P 78 v fun v => v.out.bind fun tv => execL CC34 lp (Code.l (Code.l (Code.r (Code.l (Code.r (bodyOf Try.f34)))))) ((St.set ⟨(envOf (keepOf CC34.live (Code.l (Code.l (Code.r (Code.l (Code.r (bodyOf Try.f34))))))) (S34_2 t0 t5 t6 id17 off17 H).env), [], H⟩ (some 18) (.c (.int .i64 ((n : Nat) : Int)))).set (some 19) tv.av) (roundA (execL CC34 lp (Code.r (Code.l (Code.r (Code.l (Code.r (bodyOf Try.f34))))))) (roundB f K))
noncomputable def XR34_2 (t0 : (Option (Nat × Nat))) (t5 : Nat) (t6 : Nat) (id17 : Nat) (off17 : Nat) (H : Heap) : St := tidy2 (keepOf CC34.live (Code.l (Code.l (Code.r (Code.l (Code.r (bodyOf Try.f34))))))) ((S34_2 t0 t5 t6 id17 off17 H).withHeap H)
noncomputable def LL34_2 (t0 : (Option (Nat × Nat))) (t5 : Nat) (t6 : Nat) (id17 : Nat) (off17 : Nat) (H : Heap) : Option (AExit × St) := loopsD CC34 (Code.l (Code.r (Code.l (Code.r (bodyOf Try.f34))))) (S34_2 t0 t5 t6 id17 off17 H)
theorem LL34_2_r (t0 : (Option (Nat × Nat))) (t5 : Nat) (t6 : Nat) (id17 : Nat) (off17 : Nat) (H : Heap) : LL34_2 t0 t5 t6 id17 off17 H = caught CC34.P 64 id17 off17 H fun x => bif decide (slen x ≤ 9223372036854775807) then (D34_2 (slen x).toNat t0 t5 t6 id17 off17 H).bind fun p => some (p.1, XR34_2 t0 t5 t6 id17 off17 p.2) else none :=
  loopsD_range hN34 _ _ _ _ (S34_2 t0 t5 t6 id17 off17 H) 64 78 id17 off17 18 19 61 (by kernel_rfl) (by kernel_rfl) (by kernel_rfl) (by kernel_rfl) (by kernel_rfl)
def X34_2 (x0 : Option (Nat × Nat)) (x1 : Nat) (x2 : Nat) (H : Heap) : St := { env := [(0, AV.c (Cell.ptr x0)), (5, AV.c (Cell.ptr (some (x1, 0)))), (6, AV.c (Cell.ptr (some (x2, 0))))], loc := [], heap := H }
noncomputable def J34_2 : AExit × St → Option (Int × Heap) := fun p => blockK 0 (seqK (execL CC34 (lpD CC34) (Code.r (Code.r (bodyOf Try.f34)))) (retA CC34 [ResultVar.cell 6 5] (decF dec34))) p.fst p.snd
theorem D34_2_s : ∀ (n : Nat) (t0 : Option (Nat × Nat)) (t5 t6 id17 off17 : Nat) (H : Heap), D34_2 (n + 1) t0 t5 t6 id17 off17 H = (H.get id17 off17).bind fun v11 => v11.toSlice.bind fun v10 => v10.bind fun v9 => bif inb (↑n : Int) v9.len && v9.esz == 3 then (H.get v9.id (v9.off + (↑n : Int).toNat * 3)).bind fun v8 => (H.get v9.id (v9.off + (↑n : Int).toNat * 3 + 1)).bind fun v7 => (H.get v9.id (v9.off + (↑n : Int).toNat * 3 + 1 + 1)).bind fun v6 => (Cell.toInt IntKind.u64 v8).bind fun v5 => (Cell.toInt IntKind.i64 v7).bind fun v4 => (Cell.toInt IntKind.u64 v6).bind fun v3 => (H.get t5 0).bind fun v2 => (Cell.toInt IntKind.u64 v2).bind fun v1 => bif decide (IntKind.u64.wrap (v1 - v5) < IntKind.u64.wrap v4) then bif decide (IntKind.u64.wrap (8 * IntKind.u64.wrap (v1 - v5)) < 0) then none else (H.put t6 0 [Cell.int IntKind.u8 (IntKind.u8.wrap (ishr IntKind.u64 v3 (IntKind.u64.wrap (8 * IntKind.u64.wrap (v1 - v5)))))]).bind fun v0 => some (AExit.ret, v0) else D34_2 n t0 t5 t6 id17 off17 H else none := by intros; exact (rangeN_stepD hN34 _ _ _ _ _ _ _ _ _ _ _ _).trans (by kernel_rfl)
theorem XR34_2_x : ∀ (t0 : Option (Nat × Nat)) (t5 t6 id17 off17 : Nat) (H : Heap), XR34_2 t0 t5 t6 id17 off17 H = X34_2 t0 t5 t6 H := by intros; kernel_rfl
theorem q34 : ∀ (m : Option (Nat × Nat)) (t x2 : Int) (H : Heap), f34 m t x2 H = m.bind fun v14 => bif inb t 8 then ((H ++ [Blk.row [Cell.int IntKind.u64 x2] false] ++ [Blk.row [Cell.int IntKind.u8 0] false]).get v14.fst (v14.snd + 1 + t.toNat * 1)).bind fun v13 => v13.toSlice.bind fun v12 => (LL34_2 m (List.length H) (List.length (H ++ [Blk.row [Cell.int IntKind.u64 x2] false])) (List.length (H ++ [Blk.row [Cell.int IntKind.u64 x2] false] ++ [Blk.row [Cell.int IntKind.u8 0] false])) 0 (H ++ [Blk.row [Cell.int IntKind.u64 x2] false] ++ [Blk.row [Cell.int IntKind.u8 0] false] ++ [Blk.row [Cell.slice v12] false])).bind J34_2 else none := by intros; exact (f34_run ..).trans (by kernel_rfl)
theorem J34_2_0 : ∀ (x0 : Option (Nat × Nat)) (x1 x2 : Nat) (H : Heap), J34_2 (AExit.normal, X34_2 x0 x1 x2 H) = x0.bind fun v39 => (H.get v39.fst (v39.snd + 0)).bind fun v38 => v38.toSlice.bind fun v37 => (H.get x1 0).bind fun v36 => (Cell.toInt IntKind.u64 v36).bind fun v35 => (f48 x0 v35 H).bind fun v34 => bif same v39.fst H v34.snd then v37.bind fun v33 => bif inb v34.fst v33.len && v33.esz == 5 then (v34.snd.get v33.id (v33.off + v34.fst.toNat * 5)).bind fun v32 => (v34.snd.get v33.id (v33.off + v34.fst.toNat * 5 + 1)).bind fun v31 => (v34.snd.get v33.id (v33.off + v34.fst.toNat * 5 + 1 + 1)).bind fun v30 => (v34.snd.get v33.id (v33.off + v34.fst.toNat * 5 + 1 + 1 + 1)).bind fun v29 => (v34.snd.get v33.id (v33.off + v34.fst.toNat * 5 + 1 + 1 + 1 + 1)).bind fun v28 => (Cell.toInt IntKind.u64 v32).bind fun v27 => v31.toSlice.bind fun v26 => v30.toBool.bind fun v25 => v29.toBool.bind fun v24 => (Cell.toInt IntKind.i64 v28).bind fun v23 => (v34.snd.get x1 0).bind fun v22 => (Cell.toInt IntKind.u64 v22).bind fun v21 => v26.bind fun v20 => bif inb (IntKind.u64.wrap (v21 - v27)) v20.len && v20.esz == 1 then (v34.snd.get v20.id (v20.off + (IntKind.u64.wrap (v21 - v27)).toNat * 1)).bind fun v19 => (Cell.toInt IntKind.u8 v19).bind fun v18 => (v34.snd.put x2 0 [Cell.int IntKind.u8 v18]).bind fun v17 => (v17.get x2 0).bind fun v16 => (Cell.toInt IntKind.u8 v16).bind fun v15 => some (v15, v17) else none else none else none := by intros; kernel_rfl
theorem J34_2_1 : ∀ (x0 : Option (Nat × Nat)) (x1 x2 : Nat) (H : Heap), J34_2 (AExit.ret, X34_2 x0 x1 x2 H) = (H.get x2 0).bind fun v41 => (Cell.toInt IntKind.u8 v41).bind fun v40 => some (v40, H) := by intros; kernel_rfl
theorem ok34 : FnOk Try.prog 34 (specF enc34 (sem34 f34)) := by
  refine spec_okN (C := CC34) (good34.env rfl) (hI34) (by kernel_rfl) Try.func34 (c := bodyOf Try.f34) (by kernel_rfl) (by kernel_rfl) (Nat.le_of_eq Try.ntmps34.symm) dec34 enc34 de34 _ ?_
  intro args H q h
  unfold sem34 at h
  split at h
  · rw [← f34_eq]; exact h
  · cases h
/-! 15: mem_Mem_Load -/
noncomputable def CC15 : Ctx := { P := Try.prog, own := [], fns := [(34, specF enc34 (sem34 f34)), (12, specF enc12 (sem12 f12))], nt := 37, nums := [], live := [(5, ⟨[0, 1, 2, 10, 19, 20], [], [10], []⟩)] }
theorem good15 : Callees Try.prog CC15.fns [] CC15.nums := ((Callees.nil Try.prog).cons ok12 (specF_nat _ _)).cons ok34 (specF_nat _ _)
theorem hN15 : CtxNat CC15 := good15.ctx rfl rfl rfl
def enc15 (r : Int × Bool) : List TV := [.c (Cell.int .u64 (r.1)), .c (Cell.bool (r.2))]
def dec15 : AV → Option (Int × Bool)
  | .tup [.c (Cell.int .u64 q0), .c (Cell.bool q1)] => some (q0, q1)
  | _ => none
theorem de15 (v : AV) (r : Int × Bool) (h : dec15 v = some r) : v = oneOf (enc15 r) := by
  unfold dec15 at h
  split at h
  · cases h; rfl
  · cases h
abbrev Ty15 := (Option (Nat × Nat)) → Int → Int → Int → Heap → Option ((Int × Bool) × Heap)
def sem15 (f : Ty15) : List TV → Heap → Option ((Int × Bool) × Heap)
  | [.c (Cell.ptr m), .c (Cell.int .i64 t), .c (Cell.int .u64 x2), .c (Cell.int .i64 w)], H => f m t x2 w H
  | _, _ => none
noncomputable def f15 : Ty15 := hide fun m t x2 w H => fnA CC15 Try.f15.results.toList (bodyOf Try.f15) _ [.c (Cell.ptr m), .c (Cell.int .i64 t), .c (Cell.int .u64 x2), .c (Cell.int .i64 w)] H (decF dec15)
theorem f15_eq (m : (Option (Nat × Nat))) (t : Int) (x2 : Int) (w : Int) (H : Heap) : f15 m t x2 w H = fnA CC15 Try.f15.results.toList (bodyOf Try.f15) _ [.c (Cell.ptr m), .c (Cell.int .i64 t), .c (Cell.int .u64 x2), .c (Cell.int .i64 w)] H (decF dec15) := by unfold f15; rw [hide_eq]
theorem f15_run (m : (Option (Nat × Nat))) (t : Int) (x2 : Int) (w : Int) (H : Heap) : f15 m t x2 w H = fnL CC15 (lpD CC15) Try.f15.results.toList (bodyOf Try.f15) [.c (Cell.ptr m), .c (Cell.int .i64 t), .c (Cell.int .u64 x2), .c (Cell.int .i64 w)] H (decF dec15) := (f15_eq ..).trans (fnA_lpD hN15 ..)
def S15_5 (t0 : (Option (Nat × Nat))) (t1 : Int) (t2 : Int) (t10 : Int) (t19 : Int) (t20 : Int) (H : Heap) : St := ⟨[(0, .c (Cell.ptr t0)), (1, .c (Cell.int .i64 t1)), (2, .c (Cell.int .u64 t2)), (10, .c (Cell.int .u64 t10)), (19, .c (Cell.int .u64 t19)), (20, .c (Cell.int .u64 t20))], [], H⟩
noncomputable def D15_5 (n : Nat) (t0 : (Option (Nat × Nat))) (t1 : Int) (t2 : Int) (t10 : Int) (t19 : Int) (t20 : Int) (H : Heap) : Option (AExit × St) := loopN (exec CC15 (Code.l (Code.l (Code.r (Code.l (Code.r (Code.r (Code.r (bodyOf Try.f15))))))))) (keepOf CC15.live (Code.l (Code.l (Code.r (Code.l (Code.r (Code.r (Code.r (bodyOf Try.f15))))))))) n (S15_5 t0 t1 t2 t10 t19 t20 H) retD
noncomputable def LL15_5 (t0 : (Option (Nat × Nat))) (t1 : Int) (t2 : Int) (t10 : Int) (t19 : Int) (t20 : Int) (H : Heap) : Option (AExit × St) := loopsD CC15 (Code.l (Code.l (Code.r (Code.l (Code.r (Code.r (Code.r (bodyOf Try.f15)))))))) (S15_5 t0 t1 t2 t10 t19 t20 H)
theorem LL15_5_of (m : Nat) (hm : m < 18446744073709551616) (t0 : (Option (Nat × Nat))) (t1 : Int) (t2 : Int) (t10 : Int) (t19 : Int) (t20 : Int) (H : Heap) : ∃ n, LL15_5 t0 t1 t2 t10 t19 t20 H = D15_5 (n + m + 1) t0 t1 t2 t10 t19 t20 H := loopsD_of _ _ _ m hm
def X15_5 (x0 : Int) (H : Heap) : St := { env := [(10, AV.c (Cell.int IntKind.u64 x0))], loc := [], heap := H }
noncomputable def J15_5 : AExit × St → Option ((Int × Bool) × Heap) := fun p => blockK 0 (seqK (execL CC15 (lpD CC15) (Code.r (Code.r (Code.r (Code.r (bodyOf Try.f15)))))) (retA CC15 [ResultVar.tmp 8, ResultVar.tmp 9] (decF dec15))) p.fst p.snd
theorem D15_5_s : ∀ (n : Nat) (t0 : Option (Nat × Nat)) (t1 t2 t10 t19 t20 : Int) (H : Heap), D15_5 (n + 1) t0 t1 t2 t10 t19 t20 H = bif decide (t20 < t19) then (f34 t0 t1 (IntKind.u64.wrap (t2 + t20)) H).bind fun v0 => bif decide (IntKind.u64.wrap (8 * t20) < 0) then none else D15_5 n t0 t1 t2 (bor IntKind.u64 t10 (ishl IntKind.u64 (IntKind.u64.wrap v0.fst) (IntKind.u64.wrap (8 * t20)))) t19 (IntKind.u64.wrap (t20 + 1)) v0.snd else some (AExit.exit 0, X15_5 t10 H) := by intros; exact (loopN_stepD hN15 _ _ _ _).trans (by kernel_rfl)
theorem q15 : ∀ (m : Option (Nat × Nat)) (t x2 w : Int) (H : Heap), f15 m t x2 w H = (f12 m t x2 w false H).bind fun v1 => bif !v1.fst then some ((0, false), v1.snd) else (LL15_5 m t x2 0 (IntKind.u64.wrap w) 0 v1.snd).bind J15_5 := by intros; exact (f15_run ..).trans (by kernel_rfl)
theorem J15_5_0 : ∀ (x0 : Int) (H : Heap), J15_5 (AExit.exit 0, X15_5 x0 H) = some ((x0, true), H) := by intros; kernel_rfl
theorem ok15 : FnOk Try.prog 15 (specF enc15 (sem15 f15)) := by
  refine spec_ok (C := CC15) good15 rfl rfl rfl (by kernel_rfl) Try.func15 (c := bodyOf Try.f15) (by kernel_rfl) (by kernel_rfl) (Nat.le_of_eq Try.ntmps15.symm) dec15 enc15 de15 _ ?_
  intro args H q h
  unfold sem15 at h
  split at h
  · rw [← f15_eq]; exact h
  · cases h
/-! 27: mem_Mem_Byte -/
noncomputable def CC27 : Ctx := { P := Try.prog, own := [], fns := [(48, specF enc48 (sem48 f48))], nt := 36, nums := [], live := [] }
theorem good27 : Callees Try.prog CC27.fns [] CC27.nums := (Callees.nil Try.prog).cons ok48 (specF_nat _ _)
theorem hN27 : CtxNat CC27 := good27.ctx rfl rfl rfl
def enc27 (r : Int × Bool) : List TV := [.c (Cell.int .u8 (r.1)), .c (Cell.bool (r.2))]
def dec27 : AV → Option (Int × Bool)
  | .tup [.c (Cell.int .u8 q0), .c (Cell.bool q1)] => some (q0, q1)
  | _ => none
theorem de27 (v : AV) (r : Int × Bool) (h : dec27 v = some r) : v = oneOf (enc27 r) := by
  unfold dec27 at h
  split at h
  · cases h; rfl
  · cases h
abbrev Ty27 := (Option (Nat × Nat)) → Int → Heap → Option ((Int × Bool) × Heap)
def sem27 (f : Ty27) : List TV → Heap → Option ((Int × Bool) × Heap)
  | [.c (Cell.ptr m), .c (Cell.int .u64 x1)], H => f m x1 H
  | _, _ => none
noncomputable def f27 : Ty27 := hide fun m x1 H => fnA CC27 Try.f27.results.toList (bodyOf Try.f27) _ [.c (Cell.ptr m), .c (Cell.int .u64 x1)] H (decF dec27)
theorem f27_eq (m : (Option (Nat × Nat))) (x1 : Int) (H : Heap) : f27 m x1 H = fnA CC27 Try.f27.results.toList (bodyOf Try.f27) _ [.c (Cell.ptr m), .c (Cell.int .u64 x1)] H (decF dec27) := by unfold f27; rw [hide_eq]
theorem f27_run (m : (Option (Nat × Nat))) (x1 : Int) (H : Heap) : f27 m x1 H = fnL CC27 (lpD CC27) Try.f27.results.toList (bodyOf Try.f27) [.c (Cell.ptr m), .c (Cell.int .u64 x1)] H (decF dec27) := (f27_eq ..).trans (fnA_lpD hN27 ..)
theorem q27 : ∀ (m : Option (Nat × Nat)) (x1 : Int) (H : Heap), f27 m x1 H = bif m.isNone then some ((0, false), H) else (f48 m x1 H).bind fun v15 => bif decide (v15.fst < 0) then some ((0, false), v15.snd) else m.bind fun v14 => (v15.snd.get v14.fst (v14.snd + 0)).bind fun v13 => v13.toSlice.bind fun v12 => v12.bind fun v11 => bif inb v15.fst v11.len && v11.esz == 5 then (v15.snd.get v11.id (v11.off + v15.fst.toNat * 5 + 0 + 1)).bind fun v10 => v10.toSlice.bind fun v9 => m.bind fun v8 => (v15.snd.get v8.fst (v8.snd + 0)).bind fun v7 => v7.toSlice.bind fun v6 => v6.bind fun v5 => bif inb v15.fst v5.len && v5.esz == 5 then (v15.snd.get v5.id (v5.off + v15.fst.toNat * 5 + 0 + 0)).bind fun v4 => (Cell.toInt IntKind.u64 v4).bind fun v3 => v9.bind fun v2 => bif inb (IntKind.u64.wrap (x1 - v3)) v2.len && v2.esz == 1 then (v15.snd.get v2.id (v2.off + (IntKind.u64.wrap (x1 - v3)).toNat * 1)).bind fun v1 => (Cell.toInt IntKind.u8 v1).bind fun v0 => some ((v0, true), v15.snd) else none else none else none := by intros; exact (f27_run ..).trans (by kernel_rfl)
theorem ok27 : FnOk Try.prog 27 (specF enc27 (sem27 f27)) := by
  refine spec_ok (C := CC27) good27 rfl rfl rfl (by kernel_rfl) Try.func27 (c := bodyOf Try.f27) (by kernel_rfl) (by kernel_rfl) (Nat.le_of_eq Try.ntmps27.symm) dec27 enc27 de27 _ ?_
  intro args H q h
  unfold sem27 at h
  split at h
  · rw [← f27_eq]; exact h
  · cases h
/-! 36: mem_Mem_write -/
noncomputable def CC36 : Ctx := { P := Try.prog, own := [3, 5], fns := [(48, specF enc48 (sem48 f48))], nt := 43, nums := [], live := [(2, ⟨[0, 3, 8, 9], [3], [], []⟩)] }
theorem good36 : Callees Try.prog CC36.fns [] CC36.nums := (Callees.nil Try.prog).cons ok48 (specF_nat _ _)
theorem hN36 : CtxNat CC36 := good36.ctx rfl rfl rfl
def enc36 (r : Unit) : List TV := []
def dec36 : AV → Option (Unit)
  | .tup [] => some ()
  | _ => none
theorem de36 (v : AV) (r : Unit) (h : dec36 v = some r) : v = oneOf (enc36 r) := by
  unfold dec36 at h
  split at h
  · cases h; rfl
  · cases h
abbrev Ty36 := (Option (Nat × Nat)) → Int → Int → Int → Heap → Option (Unit × Heap)
def sem36 (f : Ty36) : List TV → Heap → Option (Unit × Heap)
  | [.c (Cell.ptr m), .agg [Cell.int .u64 s0, Cell.int .i64 s1, Cell.int .u64 s2]], H => f m s0 s1 s2 H
  | _, _ => none
noncomputable def f36 : Ty36 := hide fun m s0 s1 s2 H => fnA CC36 Try.f36.results.toList (bodyOf Try.f36) _ [.c (Cell.ptr m), .agg [Cell.int .u64 s0, Cell.int .i64 s1, Cell.int .u64 s2]] H (decF dec36)
theorem f36_eq (m : (Option (Nat × Nat))) (s0 : Int) (s1 : Int) (s2 : Int) (H : Heap) : f36 m s0 s1 s2 H = fnA CC36 Try.f36.results.toList (bodyOf Try.f36) _ [.c (Cell.ptr m), .agg [Cell.int .u64 s0, Cell.int .i64 s1, Cell.int .u64 s2]] H (decF dec36) := by unfold f36; rw [hide_eq]
theorem f36_run (m : (Option (Nat × Nat))) (s0 : Int) (s1 : Int) (s2 : Int) (H : Heap) : f36 m s0 s1 s2 H = fnL CC36 (lpD CC36) Try.f36.results.toList (bodyOf Try.f36) [.c (Cell.ptr m), .agg [Cell.int .u64 s0, Cell.int .i64 s1, Cell.int .u64 s2]] H (decF dec36) := (f36_eq ..).trans (fnA_lpD hN36 ..)
def S36_2 (t0 : (Option (Nat × Nat))) (t8 : Int) (t9 : Int) (b3_0 : Int) (b3_1 : Int) (b3_2 : Int) (H : Heap) : St := ⟨[(0, .c (Cell.ptr t0)), (3, .lp 3 0), (8, .c (Cell.int .u64 t8)), (9, .c (Cell.int .u64 t9))], [(3, [Cell.int .u64 b3_0, Cell.int .i64 b3_1, Cell.int .u64 b3_2])], H⟩
noncomputable def D36_2 (n : Nat) (t0 : (Option (Nat × Nat))) (t8 : Int) (t9 : Int) (b3_0 : Int) (b3_1 : Int) (b3_2 : Int) (H : Heap) : Option (AExit × St) := loopN (exec CC36 (Code.l (Code.l (Code.r (Code.r (bodyOf Try.f36)))))) (keepOf CC36.live (Code.l (Code.l (Code.r (Code.r (bodyOf Try.f36)))))) n (S36_2 t0 t8 t9 b3_0 b3_1 b3_2 H) retD
noncomputable def LL36_2 (t0 : (Option (Nat × Nat))) (t8 : Int) (t9 : Int) (b3_0 : Int) (b3_1 : Int) (b3_2 : Int) (H : Heap) : Option (AExit × St) := loopsD CC36 (Code.l (Code.l (Code.r (Code.r (bodyOf Try.f36))))) (S36_2 t0 t8 t9 b3_0 b3_1 b3_2 H)
theorem LL36_2_of (m : Nat) (hm : m < 18446744073709551616) (t0 : (Option (Nat × Nat))) (t8 : Int) (t9 : Int) (b3_0 : Int) (b3_1 : Int) (b3_2 : Int) (H : Heap) : ∃ n, LL36_2 t0 t8 t9 b3_0 b3_1 b3_2 H = D36_2 (n + m + 1) t0 t8 t9 b3_0 b3_1 b3_2 H := loopsD_of _ _ _ m hm
def X36_2 (H : Heap) : St := { env := [], loc := [], heap := H }
noncomputable def J36_2 : AExit × St → Option (Unit × Heap) := fun p => blockK 0 (retA CC36 [] (decF dec36)) p.fst p.snd
theorem D36_2_s : ∀ (n : Nat) (t0 : Option (Nat × Nat)) (t8 t9 b3_0 b3_1 b3_2 : Int) (H : Heap), D36_2 (n + 1) t0 t8 t9 b3_0 b3_1 b3_2 H = bif decide (t9 < t8) then t0.bind fun v16 => (H.get v16.fst (v16.snd + 0)).bind fun v15 => v15.toSlice.bind fun v14 => (f48 t0 (IntKind.u64.wrap (b3_0 + t9)) H).bind fun v13 => bif same v16.fst H v13.snd then v14.bind fun v12 => bif inb v13.fst v12.len && v12.esz == 5 then (v13.snd.get v12.id (v12.off + v13.fst.toNat * 5)).bind fun v11 => (v13.snd.get v12.id (v12.off + v13.fst.toNat * 5 + 1)).bind fun v10 => (v13.snd.get v12.id (v12.off + v13.fst.toNat * 5 + 1 + 1)).bind fun v9 => (v13.snd.get v12.id (v12.off + v13.fst.toNat * 5 + 1 + 1 + 1)).bind fun v8 => (v13.snd.get v12.id (v12.off + v13.fst.toNat * 5 + 1 + 1 + 1 + 1)).bind fun v7 => (Cell.toInt IntKind.u64 v11).bind fun v6 => v10.toSlice.bind fun v5 => v9.toBool.bind fun v4 => v8.toBool.bind fun v3 => (Cell.toInt IntKind.i64 v7).bind fun v2 => bif decide (IntKind.u64.wrap (8 * t9) < 0) then none else v5.bind fun v1 => bif inb (IntKind.u64.wrap (IntKind.u64.wrap (b3_0 + t9) - v6)) v1.len && v1.esz == 1 then (v13.snd.put v1.id (v1.off + (IntKind.u64.wrap (IntKind.u64.wrap (b3_0 + t9) - v6)).toNat * 1) [Cell.int IntKind.u8 (IntKind.u8.wrap (ishr IntKind.u64 b3_2 (IntKind.u64.wrap (8 * t9))))]).bind fun v0 => D36_2 n t0 t8 (IntKind.u64.wrap (t9 + 1)) b3_0 b3_1 b3_2 v0 else none else none else none else some (AExit.exit 0, X36_2 H) := by intros; exact (loopN_stepD hN36 _ _ _ _).trans (by kernel_rfl)
theorem q36 : ∀ (m : Option (Nat × Nat)) (s0 s1 s2 : Int) (H : Heap), f36 m s0 s1 s2 H = (LL36_2 m (IntKind.u64.wrap s1) 0 s0 s1 s2 H).bind J36_2 := by intros; exact (f36_run ..).trans (by kernel_rfl)
theorem J36_2_0 : ∀ (H : Heap), J36_2 (AExit.exit 0, X36_2 H) = some ((), H) := by intros; kernel_rfl
theorem ok36 : FnOk Try.prog 36 (specF enc36 (sem36 f36)) := by
  refine spec_ok (C := CC36) good36 rfl rfl rfl (by kernel_rfl) Try.func36 (c := bodyOf Try.f36) (by kernel_rfl) (by kernel_rfl) (Nat.le_of_eq Try.ntmps36.symm) dec36 enc36 de36 _ ?_
  intro args H q h
  unfold sem36 at h
  split at h
  · rw [← f36_eq]; exact h
  · cases h
/-! 44: slices_Clone[[]mem_store,mem_store] -/
noncomputable def CC44 : Ctx := { P := Try.prog, own := [], fns := [], nt := 8, nums := [], live := [] }
theorem good44 : Callees Try.prog CC44.fns [] CC44.nums := Callees.nil Try.prog
theorem hN44 : CtxNat CC44 := good44.ctx rfl rfl rfl
def enc44 (r : (Option Sl)) : List TV := [.c (Cell.slice (r))]
def dec44 : AV → Option ((Option Sl))
  | .c (Cell.slice q0) => some (q0)
  | _ => none
theorem de44 (v : AV) (r : (Option Sl)) (h : dec44 v = some r) : v = oneOf (enc44 r) := by
  unfold dec44 at h
  split at h
  · cases h; rfl
  · cases h
abbrev Ty44 := (Option Sl) → Heap → Option ((Option Sl) × Heap)
def sem44 (f : Ty44) : List TV → Heap → Option ((Option Sl) × Heap)
  | [.c (Cell.slice s)], H => f s H
  | _, _ => none
noncomputable def f44 : Ty44 := hide fun s H => fnA CC44 Try.f44.results.toList (bodyOf Try.f44) _ [.c (Cell.slice s)] H (decF dec44)
theorem f44_eq (s : (Option Sl)) (H : Heap) : f44 s H = fnA CC44 Try.f44.results.toList (bodyOf Try.f44) _ [.c (Cell.slice s)] H (decF dec44) := by unfold f44; rw [hide_eq]
theorem f44_run (s : (Option Sl)) (H : Heap) : f44 s H = fnL CC44 (lpD CC44) Try.f44.results.toList (bodyOf Try.f44) [.c (Cell.slice s)] H (decF dec44) := (f44_eq ..).trans (fnA_lpD hN44 ..)
theorem q44 : ∀ (s : Option Sl) (H : Heap), f44 s H = bif s.isNone then some (none, H) else ((H ++ [Blk.row [] false]).append 3 24 (some { id := List.length H, off := 0, len := 0, cap := 0, esz := 3 }) s).bind fun v0 => some (v0.fst, v0.snd) := by intros; exact (f44_run ..).trans (by kernel_rfl)
theorem ok44 : FnOk Try.prog 44 (specF enc44 (sem44 f44)) := by
  refine spec_ok (C := CC44) good44 rfl rfl rfl (by kernel_rfl) Try.func44 (c := bodyOf Try.f44) (by kernel_rfl) (by kernel_rfl) (Nat.le_of_eq Try.ntmps44.symm) dec44 enc44 de44 _ ?_
  intro args H q h
  unfold sem44 at h
  split at h
  · rw [← f44_eq]; exact h
  · cases h
/-! 21: mem_Mem_Drain -/
noncomputable def CC21 : Ctx := { P := Try.prog, own := [], fns := [(44, specF enc44 (sem44 f44)), (36, specF enc36 (sem36 f36)), (31, specF enc31 (sem31 f31))], nt := 42, nums := [], live := [] }
theorem good21 : Callees Try.prog CC21.fns [] CC21.nums := (((Callees.nil Try.prog).cons ok31 (specF_nat _ _)).cons ok36 (specF_nat _ _)).cons ok44 (specF_nat _ _)
theorem hN21 : CtxNat CC21 := good21.ctx rfl rfl rfl
def enc21 (r : Bool) : List TV := [.c (Cell.bool (r))]
def dec21 : AV → Option (Bool)
  | .c (Cell.bool q0) => some (q0)
  | _ => none
theorem de21 (v : AV) (r : Bool) (h : dec21 v = some r) : v = oneOf (enc21 r) := by
  unfold dec21 at h
  split at h
  · cases h; rfl
  · cases h
abbrev Ty21 := (Option (Nat × Nat)) → Int → Heap → Option (Bool × Heap)
def sem21 (f : Ty21) : List TV → Heap → Option (Bool × Heap)
  | [.c (Cell.ptr m), .c (Cell.int .i64 t)], H => f m t H
  | _, _ => none
noncomputable def f21 : Ty21 := hide fun m t H => fnA CC21 Try.f21.results.toList (bodyOf Try.f21) _ [.c (Cell.ptr m), .c (Cell.int .i64 t)] H (decF dec21)
theorem f21_eq (m : (Option (Nat × Nat))) (t : Int) (H : Heap) : f21 m t H = fnA CC21 Try.f21.results.toList (bodyOf Try.f21) _ [.c (Cell.ptr m), .c (Cell.int .i64 t)] H (decF dec21) := by unfold f21; rw [hide_eq]
theorem f21_run (m : (Option (Nat × Nat))) (t : Int) (H : Heap) : f21 m t H = fnL CC21 (lpD CC21) Try.f21.results.toList (bodyOf Try.f21) [.c (Cell.ptr m), .c (Cell.int .i64 t)] H (decF dec21) := (f21_eq ..).trans (fnA_lpD hN21 ..)
theorem q21 : ∀ (m : Option (Nat × Nat)) (t : Int) (H : Heap), f21 m t H = (f31 m t H).bind fun v21 => bif !v21.fst then some (false, v21.snd) else m.bind fun v20 => bif inb t 8 then (v21.snd.get v20.fst (v20.snd + 1 + t.toNat * 1)).bind fun v19 => v19.toSlice.bind fun v18 => bif slen v18 == 0 then some (false, v21.snd) else m.bind fun v17 => bif inb t 8 then (v21.snd.get v17.fst (v17.snd + 1 + t.toNat * 1)).bind fun v16 => v16.toSlice.bind fun v15 => v15.bind fun v14 => bif inb 0 v14.len && v14.esz == 3 then (v21.snd.get v14.id (v14.off + 0)).bind fun v13 => (v21.snd.get v14.id (v14.off + 0 + 1)).bind fun v12 => (v21.snd.get v14.id (v14.off + 0 + 1 + 1)).bind fun v11 => (Cell.toInt IntKind.u64 v13).bind fun v10 => (Cell.toInt IntKind.i64 v12).bind fun v9 => (Cell.toInt IntKind.u64 v11).bind fun v8 => (f36 m v10 v9 v8 v21.snd).bind fun v7 => m.bind fun v6 => bif inb t 8 then (v7.snd.get v6.fst (v6.snd + 1 + t.toNat * 1)).bind fun v5 => v5.toSlice.bind fun v4 => (Sl.sub v4 1 none).bind fun v3 => bif esOk v4 3 then (f44 v3 v7.snd).bind fun v2 => m.bind fun v1 => bif inb t 8 then (v2.snd.put v1.fst (v1.snd + 1 + t.toNat * 1) [Cell.slice v2.fst]).bind fun v0 => some (true, v0) else none else none else none else none else none else none := by intros; exact (f21_run ..).trans (by kernel_rfl)
theorem ok21 : FnOk Try.prog 21 (specF enc21 (sem21 f21)) := by
  refine spec_ok (C := CC21) good21 rfl rfl rfl (by kernel_rfl) Try.func21 (c := bodyOf Try.f21) (by kernel_rfl) (by kernel_rfl) (Nat.le_of_eq Try.ntmps21.symm) dec21 enc21 de21 _ ?_
  intro args H q h
  unfold sem21 at h
  split at h
  · rw [← f21_eq]; exact h
  · cases h
/-! 51: bits_Mask -/
noncomputable def CC51 : Ctx := { P := Try.prog, own := [], fns := [(32, specF enc32 (sem32 f32))], nt := 10, nums := [], live := [] }
theorem good51 : Callees Try.prog CC51.fns [] CC51.nums := (Callees.nil Try.prog).cons ok32 (specF_nat _ _)
theorem hN51 : CtxNat CC51 := good51.ctx rfl rfl rfl
def enc51 (r : Int) : List TV := [.c (Cell.int .u64 (r))]
def dec51 : AV → Option (Int)
  | .c (Cell.int .u64 q0) => some (q0)
  | _ => none
theorem de51 (v : AV) (r : Int) (h : dec51 v = some r) : v = oneOf (enc51 r) := by
  unfold dec51 at h
  split at h
  · cases h; rfl
  · cases h
abbrev Ty51 := Int → Heap → Option (Int × Heap)
def sem51 (f : Ty51) : List TV → Heap → Option (Int × Heap)
  | [.c (Cell.int .i64 w)], H => f w H
  | _, _ => none
noncomputable def f51 : Ty51 := hide fun w H => fnA CC51 Try.f51.results.toList (bodyOf Try.f51) _ [.c (Cell.int .i64 w)] H (decF dec51)
theorem f51_eq (w : Int) (H : Heap) : f51 w H = fnA CC51 Try.f51.results.toList (bodyOf Try.f51) _ [.c (Cell.int .i64 w)] H (decF dec51) := by unfold f51; rw [hide_eq]
theorem f51_run (w : Int) (H : Heap) : f51 w H = fnL CC51 (lpD CC51) Try.f51.results.toList (bodyOf Try.f51) [.c (Cell.int .i64 w)] H (decF dec51) := (f51_eq ..).trans (fnA_lpD hN51 ..)
theorem q51 : ∀ (w : Int) (H : Heap), f51 w H = (f32 w H).bind fun v0 => bif !v0.fst then some (0, v0.snd) else bif decide (IntKind.i64.wrap (64 - IntKind.i64.wrap (8 * w)) < 0) then none else some (ishr IntKind.u64 18446744073709551615 (IntKind.i64.wrap (64 - IntKind.i64.wrap (8 * w))), v0.snd) := by intros; exact (f51_run ..).trans (by kernel_rfl)
theorem ok51 : FnOk Try.prog 51 (specF enc51 (sem51 f51)) := by
  refine spec_ok (C := CC51) good51 rfl rfl rfl (by kernel_rfl) Try.func51 (c := bodyOf Try.f51) (by kernel_rfl) (by kernel_rfl) (Nat.le_of_eq Try.ntmps51.symm) dec51 enc51 de51 _ ?_
  intro args H q h
  unfold sem51 at h
  split at h
  · rw [← f51_eq]; exact h
  · cases h
/-! 35: bits_Zx -/
noncomputable def CC35 : Ctx := { P := Try.prog, own := [], fns := [(51, specF enc51 (sem51 f51))], nt := 9, nums := [], live := [] }
theorem good35 : Callees Try.prog CC35.fns [] CC35.nums := (Callees.nil Try.prog).cons ok51 (specF_nat _ _)
theorem hN35 : CtxNat CC35 := good35.ctx rfl rfl rfl
def enc35 (r : Int) : List TV := [.c (Cell.int .u64 (r))]
def dec35 : AV → Option (Int)
  | .c (Cell.int .u64 q0) => some (q0)
  | _ => none
theorem de35 (v : AV) (r : Int) (h : dec35 v = some r) : v = oneOf (enc35 r) := by
  unfold dec35 at h
  split at h
  · cases h; rfl
  · cases h
abbrev Ty35 := Int → Int → Heap → Option (Int × Heap)
def sem35 (f : Ty35) : List TV → Heap → Option (Int × Heap)
  | [.c (Cell.int .u64 v), .c (Cell.int .i64 w)], H => f v w H
  | _, _ => none
noncomputable def f35 : Ty35 := hide fun v w H => fnA CC35 Try.f35.results.toList (bodyOf Try.f35) _ [.c (Cell.int .u64 v), .c (Cell.int .i64 w)] H (decF dec35)
theorem f35_eq (v : Int) (w : Int) (H : Heap) : f35 v w H = fnA CC35 Try.f35.results.toList (bodyOf Try.f35) _ [.c (Cell.int .u64 v), .c (Cell.int .i64 w)] H (decF dec35) := by unfold f35; rw [hide_eq]
theorem f35_run (v : Int) (w : Int) (H : Heap) : f35 v w H = fnL CC35 (lpD CC35) Try.f35.results.toList (bodyOf Try.f35) [.c (Cell.int .u64 v), .c (Cell.int .i64 w)] H (decF dec35) := (f35_eq ..).trans (fnA_lpD hN35 ..)
theorem q35 : ∀ (v w : Int) (H : Heap), f35 v w H = (f51 w H).bind fun v0 => some (band IntKind.u64 v v0.fst, v0.snd) := by intros; exact (f35_run ..).trans (by kernel_rfl)
theorem ok35 : FnOk Try.prog 35 (specF enc35 (sem35 f35)) := by
  refine spec_ok (C := CC35) good35 rfl rfl rfl (by kernel_rfl) Try.func35 (c := bodyOf Try.f35) (by kernel_rfl) (by kernel_rfl) (Nat.le_of_eq Try.ntmps35.symm) dec35 enc35 de35 _ ?_
  intro args H q h
  unfold sem35 at h
  split at h
  · rw [← f35_eq]; exact h
  · cases h
/-! 16: mem_Mem_Store -/
noncomputable def CC16 : Ctx := { P := Try.prog, own := [], fns := [(35, specF enc35 (sem35 f35)), (21, specF enc21 (sem21 f21)), (12, specF enc12 (sem12 f12))], nt := 47, nums := [], live := [] }
theorem good16 : Callees Try.prog CC16.fns [] CC16.nums := (((Callees.nil Try.prog).cons ok12 (specF_nat _ _)).cons ok21 (specF_nat _ _)).cons ok35 (specF_nat _ _)
theorem hN16 : CtxNat CC16 := good16.ctx rfl rfl rfl
def enc16 (r : Bool) : List TV := [.c (Cell.bool (r))]
def dec16 : AV → Option (Bool)
  | .c (Cell.bool q0) => some (q0)
  | _ => none
theorem de16 (v : AV) (r : Bool) (h : dec16 v = some r) : v = oneOf (enc16 r) := by
  unfold dec16 at h
  split at h
  · cases h; rfl
  · cases h
abbrev Ty16 := (Option (Nat × Nat)) → Int → Int → Int → Int → Heap → Option (Bool × Heap)
def sem16 (f : Ty16) : List TV → Heap → Option (Bool × Heap)
  | [.c (Cell.ptr m), .c (Cell.int .i64 t), .c (Cell.int .u64 x2), .c (Cell.int .i64 w), .c (Cell.int .u64 v)], H => f m t x2 w v H
  | _, _ => none
noncomputable def f16 : Ty16 := hide fun m t x2 w v H => fnA CC16 Try.f16.results.toList (bodyOf Try.f16) _ [.c (Cell.ptr m), .c (Cell.int .i64 t), .c (Cell.int .u64 x2), .c (Cell.int .i64 w), .c (Cell.int .u64 v)] H (decF dec16)
theorem f16_eq (m : (Option (Nat × Nat))) (t : Int) (x2 : Int) (w : Int) (v : Int) (H : Heap) : f16 m t x2 w v H = fnA CC16 Try.f16.results.toList (bodyOf Try.f16) _ [.c (Cell.ptr m), .c (Cell.int .i64 t), .c (Cell.int .u64 x2), .c (Cell.int .i64 w), .c (Cell.int .u64 v)] H (decF dec16) := by unfold f16; rw [hide_eq]
theorem f16_run (m : (Option (Nat × Nat))) (t : Int) (x2 : Int) (w : Int) (v : Int) (H : Heap) : f16 m t x2 w v H = fnL CC16 (lpD CC16) Try.f16.results.toList (bodyOf Try.f16) [.c (Cell.ptr m), .c (Cell.int .i64 t), .c (Cell.int .u64 x2), .c (Cell.int .i64 w), .c (Cell.int .u64 v)] H (decF dec16) := (f16_eq ..).trans (fnA_lpD hN16 ..)
theorem q16 : ∀ (m : Option (Nat × Nat)) (t x2 w v : Int) (H : Heap), f16 m t x2 w v H = (f12 m t x2 w true H).bind fun v18 => bif !v18.fst then some (false, v18.snd) else m.bind fun v17 => bif inb t 8 then (v18.snd.get v17.fst (v17.snd + 1 + t.toNat * 1)).bind fun v16 => v16.toSlice.bind fun v15 => bif decide (slen v15 ≥ 65536) then (f21 m t v18.snd).bind fun v7 => m.bind fun v6 => bif inb t 8 then (v7.snd.get v6.fst (v6.snd + 1 + t.toNat * 1)).bind fun v5 => v5.toSlice.bind fun v4 => (f35 v w v7.snd).bind fun v3 => bif same v6.fst v7.snd v3.snd then ((v3.snd ++ [Blk.row [Cell.int IntKind.u64 x2, Cell.int IntKind.i64 w, Cell.int IntKind.u64 v3.fst] false]).append 3 24 v4 (some { id := List.length v3.snd, off := 0, len := 1, cap := 1, esz := 3 })).bind fun v2 => m.bind fun v1 => bif inb t 8 then (v2.snd.put v1.fst (v1.snd + 1 + t.toNat * 1) [Cell.slice v2.fst]).bind fun v0 => some (true, v0) else none else none else none else m.bind fun v14 => bif inb t 8 then (v18.snd.get v14.fst (v14.snd + 1 + t.toNat * 1)).bind fun v13 => v13.toSlice.bind fun v12 => (f35 v w v18.snd).bind fun v11 => bif same v14.fst v18.snd v11.snd then ((v11.snd ++ [Blk.row [Cell.int IntKind.u64 x2, Cell.int IntKind.i64 w, Cell.int IntKind.u64 v11.fst] false]).append 3 24 v12 (some { id := List.length v11.snd, off := 0, len := 1, cap := 1, esz := 3 })).bind fun v10 => m.bind fun v9 => bif inb t 8 then (v10.snd.put v9.fst (v9.snd + 1 + t.toNat * 1) [Cell.slice v10.fst]).bind fun v8 => some (true, v8) else none else none else none else none := by intros; exact (f16_run ..).trans (by kernel_rfl)
theorem ok16 : FnOk Try.prog 16 (specF enc16 (sem16 f16)) := by
  refine spec_ok (C := CC16) good16 rfl rfl rfl (by kernel_rfl) Try.func16 (c := bodyOf Try.f16) (by kernel_rfl) (by kernel_rfl) (Nat.le_of_eq Try.ntmps16.symm) dec16 enc16 de16 _ ?_
  intro args H q h
  unfold sem16 at h
  split at h
  · rw [← f16_eq]; exact h
  · cases h
/-! 28: mem_Mem_Flush -/
noncomputable def CC28 : Ctx := { P := Try.prog, own := [], fns := [(21, specF enc21 (sem21 f21))], nt := 12, nums := [], live := [(2, ⟨[0, 1, 5], [], [5], []⟩)] }
theorem good28 : Callees Try.prog CC28.fns [] CC28.nums := (Callees.nil Try.prog).cons ok21 (specF_nat _ _)
theorem hN28 : CtxNat CC28 := good28.ctx rfl rfl rfl
def enc28 (r : Int) : List TV := [.c (Cell.int .i64 (r))]
def dec28 : AV → Option (Int)
  | .c (Cell.int .i64 q0) => some (q0)
  | _ => none
theorem de28 (v : AV) (r : Int) (h : dec28 v = some r) : v = oneOf (enc28 r) := by
  unfold dec28 at h
  split at h
  · cases h; rfl
  · cases h
abbrev Ty28 := (Option (Nat × Nat)) → Int → Heap → Option (Int × Heap)
def sem28 (f : Ty28) : List TV → Heap → Option (Int × Heap)
  | [.c (Cell.ptr m), .c (Cell.int .i64 t)], H => f m t H
  | _, _ => none
noncomputable def f28 : Ty28 := hide fun m t H => fnA CC28 Try.f28.results.toList (bodyOf Try.f28) _ [.c (Cell.ptr m), .c (Cell.int .i64 t)] H (decF dec28)
theorem f28_eq (m : (Option (Nat × Nat))) (t : Int) (H : Heap) : f28 m t H = fnA CC28 Try.f28.results.toList (bodyOf Try.f28) _ [.c (Cell.ptr m), .c (Cell.int .i64 t)] H (decF dec28) := by unfold f28; rw [hide_eq]
theorem f28_run (m : (Option (Nat × Nat))) (t : Int) (H : Heap) : f28 m t H = fnL CC28 (lpD CC28) Try.f28.results.toList (bodyOf Try.f28) [.c (Cell.ptr m), .c (Cell.int .i64 t)] H (decF dec28) := (f28_eq ..).trans (fnA_lpD hN28 ..)
def S28_2 (t0 : (Option (Nat × Nat))) (t1 : Int) (t5 : Int) (H : Heap) : St := ⟨[(0, .c (Cell.ptr t0)), (1, .c (Cell.int .i64 t1)), (5, .c (Cell.int .i64 t5))], [], H⟩
noncomputable def D28_2 (n : Nat) (t0 : (Option (Nat × Nat))) (t1 : Int) (t5 : Int) (H : Heap) : Option (AExit × St) := loopN (exec CC28 (Code.l (Code.l (Code.l (Code.r (Code.r (bodyOf Try.f28))))))) (keepOf CC28.live (Code.l (Code.l (Code.l (Code.r (Code.r (bodyOf Try.f28))))))) n (S28_2 t0 t1 t5 H) retD
noncomputable def LL28_2 (t0 : (Option (Nat × Nat))) (t1 : Int) (t5 : Int) (H : Heap) : Option (AExit × St) := loopsD CC28 (Code.l (Code.l (Code.l (Code.r (Code.r (bodyOf Try.f28)))))) (S28_2 t0 t1 t5 H)
theorem LL28_2_of (m : Nat) (hm : m < 18446744073709551616) (t0 : (Option (Nat × Nat))) (t1 : Int) (t5 : Int) (H : Heap) : ∃ n, LL28_2 t0 t1 t5 H = D28_2 (n + m + 1) t0 t1 t5 H := loopsD_of _ _ _ m hm
def X28_2 (x0 : Int) (H : Heap) : St := { env := [(5, AV.c (Cell.int IntKind.i64 x0))], loc := [], heap := H }
noncomputable def J28_2 : AExit × St → Option (Int × Heap) := fun p => blockK 0 (seqK (execL CC28 (lpD CC28) (Code.r (Code.r (Code.r (bodyOf Try.f28))))) (retA CC28 [ResultVar.tmp 4] (decF dec28))) p.fst p.snd
theorem D28_2_s : ∀ (n : Nat) (t0 : Option (Nat × Nat)) (t1 t5 : Int) (H : Heap), D28_2 (n + 1) t0 t1 t5 H = (f21 t0 t1 H).bind fun v0 => bif v0.fst then D28_2 n t0 t1 (IntKind.i64.wrap (t5 + 1)) v0.snd else some (AExit.exit 0, X28_2 t5 v0.snd) := by intros; exact (loopN_stepD hN28 _ _ _ _).trans (by kernel_rfl)
theorem q28 : ∀ (m : Option (Nat × Nat)) (t : Int) (H : Heap), f28 m t H = (LL28_2 m t 0 H).bind J28_2 := by intros; exact (f28_run ..).trans (by kernel_rfl)
theorem J28_2_0 : ∀ (x0 : Int) (H : Heap), J28_2 (AExit.exit 0, X28_2 x0 H) = some (x0, H) := by intros; kernel_rfl
theorem ok28 : FnOk Try.prog 28 (specF enc28 (sem28 f28)) := by
  refine spec_ok (C := CC28) good28 rfl rfl rfl (by kernel_rfl) Try.func28 (c := bodyOf Try.f28) (by kernel_rfl) (by kernel_rfl) (Nat.le_of_eq Try.ntmps28.symm) dec28 enc28 de28 _ ?_
  intro args H q h
  unfold sem28 at h
  split at h
  · rw [← f28_eq]; exact h
  · cases h
/-! 17: mem_Mem_Put -/
noncomputable def CC17 : Ctx := { P := Try.prog, own := [], fns := [(36, specF enc36 (sem36 f36)), (28, specF enc28 (sem28 f28)), (12, specF enc12 (sem12 f12))], nt := 26, nums := [], live := [] }
theorem good17 : Callees Try.prog CC17.fns [] CC17.nums := (((Callees.nil Try.prog).cons ok12 (specF_nat _ _)).cons ok28 (specF_nat _ _)).cons ok36 (specF_nat _ _)
theorem hN17 : CtxNat CC17 := good17.ctx rfl rfl rfl
def enc17 (r : Bool) : List TV := [.c (Cell.bool (r))]
def dec17 : AV → Option (Bool)
  | .c (Cell.bool q0) => some (q0)
  | _ => none
theorem de17 (v : AV) (r : Bool) (h : dec17 v = some r) : v = oneOf (enc17 r) := by
  unfold dec17 at h
  split at h
  · cases h; rfl
  · cases h
abbrev Ty17 := (Option (Nat × Nat)) → Int → Int → Int → Int → Heap → Option (Bool × Heap)
def sem17 (f : Ty17) : List TV → Heap → Option (Bool × Heap)
  | [.c (Cell.ptr m), .c (Cell.int .i64 t), .c (Cell.int .u64 x2), .c (Cell.int .i64 w), .c (Cell.int .u64 v)], H => f m t x2 w v H
  | _, _ => none
noncomputable def f17 : Ty17 := hide fun m t x2 w v H => fnA CC17 Try.f17.results.toList (bodyOf Try.f17) _ [.c (Cell.ptr m), .c (Cell.int .i64 t), .c (Cell.int .u64 x2), .c (Cell.int .i64 w), .c (Cell.int .u64 v)] H (decF dec17)
theorem f17_eq (m : (Option (Nat × Nat))) (t : Int) (x2 : Int) (w : Int) (v : Int) (H : Heap) : f17 m t x2 w v H = fnA CC17 Try.f17.results.toList (bodyOf Try.f17) _ [.c (Cell.ptr m), .c (Cell.int .i64 t), .c (Cell.int .u64 x2), .c (Cell.int .i64 w), .c (Cell.int .u64 v)] H (decF dec17) := by unfold f17; rw [hide_eq]
theorem f17_run (m : (Option (Nat × Nat))) (t : Int) (x2 : Int) (w : Int) (v : Int) (H : Heap) : f17 m t x2 w v H = fnL CC17 (lpD CC17) Try.f17.results.toList (bodyOf Try.f17) [.c (Cell.ptr m), .c (Cell.int .i64 t), .c (Cell.int .u64 x2), .c (Cell.int .i64 w), .c (Cell.int .u64 v)] H (decF dec17) := (f17_eq ..).trans (fnA_lpD hN17 ..)
theorem q17 : ∀ (m : Option (Nat × Nat)) (t x2 w v : Int) (H : Heap), f17 m t x2 w v H = (f12 m t x2 w true H).bind fun v2 => bif !v2.fst then some (false, v2.snd) else (f28 m t v2.snd).bind fun v1 => (f36 m x2 w v v1.snd).bind fun v0 => some (true, v0.snd) := by intros; exact (f17_run ..).trans (by kernel_rfl)
theorem ok17 : FnOk Try.prog 17 (specF enc17 (sem17 f17)) := by
  refine spec_ok (C := CC17) good17 rfl rfl rfl (by kernel_rfl) Try.func17 (c := bodyOf Try.f17) (by kernel_rfl) (by kernel_rfl) (Nat.le_of_eq Try.ntmps17.symm) dec17 enc17 de17 _ ?_
  intro args H q h
  unfold sem17 at h
  split at h
  · rw [← f17_eq]; exact h
  · cases h
/-! 10: mem_Mem_Own -/
noncomputable def CC10 : Ctx := { P := Try.prog, own := [], fns := [(31, specF enc31 (sem31 f31))], nt := 55, nums := [], live := [] }
theorem good10 : Callees Try.prog CC10.fns [] CC10.nums := (Callees.nil Try.prog).cons ok31 (specF_nat _ _)
theorem hN10 : CtxNat CC10 := good10.ctx rfl rfl rfl
def enc10 (r : Bool) : List TV := [.c (Cell.bool (r))]
def dec10 : AV → Option (Bool)
  | .c (Cell.bool q0) => some (q0)
  | _ => none
theorem de10 (v : AV) (r : Bool) (h : dec10 v = some r) : v = oneOf (enc10 r) := by
  unfold dec10 at h
  split at h
  · cases h; rfl
  · cases h
abbrev Ty10 := (Option (Nat × Nat)) → Int → Int → Heap → Option (Bool × Heap)
def sem10 (f : Ty10) : List TV → Heap → Option (Bool × Heap)
  | [.c (Cell.ptr m), .c (Cell.int .i64 t), .c (Cell.int .i64 k)], H => f m t k H
  | _, _ => none
noncomputable def f10 : Ty10 := hide fun m t k H => fnA CC10 Try.f10.results.toList (bodyOf Try.f10) _ [.c (Cell.ptr m), .c (Cell.int .i64 t), .c (Cell.int .i64 k)] H (decF dec10)
theorem f10_eq (m : (Option (Nat × Nat))) (t : Int) (k : Int) (H : Heap) : f10 m t k H = fnA CC10 Try.f10.results.toList (bodyOf Try.f10) _ [.c (Cell.ptr m), .c (Cell.int .i64 t), .c (Cell.int .i64 k)] H (decF dec10) := by unfold f10; rw [hide_eq]
theorem f10_run (m : (Option (Nat × Nat))) (t : Int) (k : Int) (H : Heap) : f10 m t k H = fnL CC10 (lpD CC10) Try.f10.results.toList (bodyOf Try.f10) [.c (Cell.ptr m), .c (Cell.int .i64 t), .c (Cell.int .i64 k)] H (decF dec10) := (f10_eq ..).trans (fnA_lpD hN10 ..)
theorem q10 : ∀ (m : Option (Nat × Nat)) (t k : Int) (H : Heap), f10 m t k H = (f31 m t H).bind fun v20 => bif !v20.fst then some (false, v20.snd) else bif decide (k < 0) then some (false, v20.snd) else m.bind fun v19 => (v20.snd.get v19.fst (v19.snd + 0)).bind fun v18 => v18.toSlice.bind fun v17 => bif decide (k ≥ slen v17) then some (false, v20.snd) else m.bind fun v16 => (v20.snd.get v16.fst (v16.snd + 0)).bind fun v15 => v15.toSlice.bind fun v14 => v14.bind fun v13 => bif inb k v13.len && v13.esz == 5 then (v20.snd.get v13.id (v13.off + k.toNat * 5 + 0 + 3)).bind fun v12 => v12.toBool.bind fun v11 => bif !v11 then some (false, v20.snd) else m.bind fun v10 => (v20.snd.get v10.fst (v10.snd + 0)).bind fun v9 => v9.toSlice.bind fun v8 => v8.bind fun v7 => bif inb k v7.len && v7.esz == 5 then (v20.snd.get v7.id (v7.off + k.toNat * 5 + 4)).bind fun v6 => (Cell.toInt IntKind.i64 v6).bind fun v5 => bif v5 != -1 then some (false, v20.snd) else m.bind fun v4 => (v20.snd.get v4.fst (v4.snd + 0)).bind fun v3 => v3.toSlice.bind fun v2 => v2.bind fun v1 => bif inb k v1.len && v1.esz == 5 then (v20.snd.put v1.id (v1.off + k.toNat * 5 + 4) [Cell.int IntKind.i64 t]).bind fun v0 => some (true, v0) else none else none else none := by intros; exact (f10_run ..).trans (by kernel_rfl)
theorem ok10 : FnOk Try.prog 10 (specF enc10 (sem10 f10)) := by
  refine spec_ok (C := CC10) good10 rfl rfl rfl (by kernel_rfl) Try.func10 (c := bodyOf Try.f10) (by kernel_rfl) (by kernel_rfl) (Nat.le_of_eq Try.ntmps10.symm) dec10 enc10 de10 _ ?_
  intro args H q h
  unfold sem10 at h
  split at h
  · rw [← f10_eq]; exact h
  · cases h
/-! 20: mem_Mem_Pending -/
noncomputable def CC20 : Ctx := { P := Try.prog, own := [], fns := [(31, specF enc31 (sem31 f31))], nt := 16, nums := [], live := [] }
theorem good20 : Callees Try.prog CC20.fns [] CC20.nums := (Callees.nil Try.prog).cons ok31 (specF_nat _ _)
theorem hN20 : CtxNat CC20 := good20.ctx rfl rfl rfl
def enc20 (r : Int) : List TV := [.c (Cell.int .i64 (r))]
def dec20 : AV → Option (Int)
  | .c (Cell.int .i64 q0) => some (q0)
  | _ => none
theorem de20 (v : AV) (r : Int) (h : dec20 v = some r) : v = oneOf (enc20 r) := by
  unfold dec20 at h
  split at h
  · cases h; rfl
  · cases h
abbrev Ty20 := (Option (Nat × Nat)) → Int → Heap → Option (Int × Heap)
def sem20 (f : Ty20) : List TV → Heap → Option (Int × Heap)
  | [.c (Cell.ptr m), .c (Cell.int .i64 t)], H => f m t H
  | _, _ => none
noncomputable def f20 : Ty20 := hide fun m t H => fnA CC20 Try.f20.results.toList (bodyOf Try.f20) _ [.c (Cell.ptr m), .c (Cell.int .i64 t)] H (decF dec20)
theorem f20_eq (m : (Option (Nat × Nat))) (t : Int) (H : Heap) : f20 m t H = fnA CC20 Try.f20.results.toList (bodyOf Try.f20) _ [.c (Cell.ptr m), .c (Cell.int .i64 t)] H (decF dec20) := by unfold f20; rw [hide_eq]
theorem f20_run (m : (Option (Nat × Nat))) (t : Int) (H : Heap) : f20 m t H = fnL CC20 (lpD CC20) Try.f20.results.toList (bodyOf Try.f20) [.c (Cell.ptr m), .c (Cell.int .i64 t)] H (decF dec20) := (f20_eq ..).trans (fnA_lpD hN20 ..)
theorem q20 : ∀ (m : Option (Nat × Nat)) (t : Int) (H : Heap), f20 m t H = (f31 m t H).bind fun v3 => bif !v3.fst then some (0, v3.snd) else m.bind fun v2 => bif inb t 8 then (v3.snd.get v2.fst (v2.snd + 1 + t.toNat * 1)).bind fun v1 => v1.toSlice.bind fun v0 => some (slen v0, v3.snd) else none := by intros; exact (f20_run ..).trans (by kernel_rfl)
theorem ok20 : FnOk Try.prog 20 (specF enc20 (sem20 f20)) := by
  refine spec_ok (C := CC20) good20 rfl rfl rfl (by kernel_rfl) Try.func20 (c := bodyOf Try.f20) (by kernel_rfl) (by kernel_rfl) (Nat.le_of_eq Try.ntmps20.symm) dec20 enc20 de20 _ ?_
  intro args H q h
  unfold sem20 at h
  split at h
  · rw [← f20_eq]; exact h
  · cases h
/-! 49: bytes_Clone -/
noncomputable def CC49 : Ctx := { P := Try.prog, own := [], fns := [], nt := 8, nums := [], live := [] }
theorem good49 : Callees Try.prog CC49.fns [] CC49.nums := Callees.nil Try.prog
theorem hN49 : CtxNat CC49 := good49.ctx rfl rfl rfl
def enc49 (r : (Option Sl)) : List TV := [.c (Cell.slice (r))]
def dec49 : AV → Option ((Option Sl))
  | .c (Cell.slice q0) => some (q0)
  | _ => none
theorem de49 (v : AV) (r : (Option Sl)) (h : dec49 v = some r) : v = oneOf (enc49 r) := by
  unfold dec49 at h
  split at h
  · cases h; rfl
  · cases h
abbrev Ty49 := (Option Sl) → Heap → Option ((Option Sl) × Heap)
def sem49 (f : Ty49) : List TV → Heap → Option ((Option Sl) × Heap)
  | [.c (Cell.slice b)], H => f b H
  | _, _ => none
noncomputable def f49 : Ty49 := hide fun b H => fnA CC49 Try.f49.results.toList (bodyOf Try.f49) _ [.c (Cell.slice b)] H (decF dec49)
theorem f49_eq (b : (Option Sl)) (H : Heap) : f49 b H = fnA CC49 Try.f49.results.toList (bodyOf Try.f49) _ [.c (Cell.slice b)] H (decF dec49) := by unfold f49; rw [hide_eq]
theorem f49_run (b : (Option Sl)) (H : Heap) : f49 b H = fnL CC49 (lpD CC49) Try.f49.results.toList (bodyOf Try.f49) [.c (Cell.slice b)] H (decF dec49) := (f49_eq ..).trans (fnA_lpD hN49 ..)
theorem q49 : ∀ (b : Option Sl) (H : Heap), f49 b H = bif b.isNone then some (none, H) else ((H ++ [Blk.row [] false]).append 1 1 (some { id := List.length H, off := 0, len := 0, cap := 0, esz := 1 }) b).bind fun v0 => some (v0.fst, v0.snd) := by intros; exact (f49_run ..).trans (by kernel_rfl)
theorem ok49 : FnOk Try.prog 49 (specF enc49 (sem49 f49)) := by
  refine spec_ok (C := CC49) good49 rfl rfl rfl (by kernel_rfl) Try.func49 (c := bodyOf Try.f49) (by kernel_rfl) (by kernel_rfl) (Nat.le_of_eq Try.ntmps49.symm) dec49 enc49 de49 _ ?_
  intro args H q h
  unfold sem49 at h
  split at h
  · rw [← f49_eq]; exact h
  · cases h
/-! 29: mem_Mem_Areas -/
noncomputable def CC29 : Ctx := { P := Try.prog, own := [5], fns := [(49, specF enc49 (sem49 f49))], nt := 30, nums := [], live := [(5, ⟨[3, 11, 12, 13], [], [3], []⟩)] }
theorem good29 : Callees Try.prog CC29.fns [] CC29.nums := (Callees.nil Try.prog).cons ok49 (specF_nat _ _)
theorem hN29 : CtxNat CC29 := good29.ctx rfl rfl rfl
def enc29 (r : (Option Sl)) : List TV := [.c (Cell.slice (r))]
def dec29 : AV → Option ((Option Sl))
  | .c (Cell.slice q0) => some (q0)
  | _ => none
theorem de29 (v : AV) (r : (Option Sl)) (h : dec29 v = some r) : v = oneOf (enc29 r) := by
  unfold dec29 at h
  split at h
  · cases h; rfl
  · cases h
abbrev Ty29 := (Option (Nat × Nat)) → Heap → Option ((Option Sl) × Heap)
def sem29 (f : Ty29) : List TV → Heap → Option ((Option Sl) × Heap)
  | [.c (Cell.ptr m)], H => f m H
  | _, _ => none
noncomputable def f29 : Ty29 := hide fun m H => fnA CC29 Try.f29.results.toList (bodyOf Try.f29) _ [.c (Cell.ptr m)] H (decF dec29)
theorem f29_eq (m : (Option (Nat × Nat))) (H : Heap) : f29 m H = fnA CC29 Try.f29.results.toList (bodyOf Try.f29) _ [.c (Cell.ptr m)] H (decF dec29) := by unfold f29; rw [hide_eq]
theorem f29_run (m : (Option (Nat × Nat))) (H : Heap) : f29 m H = fnL CC29 (lpD CC29) Try.f29.results.toList (bodyOf Try.f29) [.c (Cell.ptr m)] H (decF dec29) := (f29_eq ..).trans (fnA_lpD hN29 ..)
def S29_5 (t3 : (Option Sl)) (t11 : (Option Sl)) (t12 : Int) (t13 : Int) (H : Heap) : St := ⟨[(3, .c (Cell.slice t3)), (11, .c (Cell.slice t11)), (12, .c (Cell.int .i64 t12)), (13, .c (Cell.int .i64 t13))], [], H⟩
noncomputable def D29_5 (n : Nat) (t3 : (Option Sl)) (t11 : (Option Sl)) (t12 : Int) (t13 : Int) (H : Heap) : Option (AExit × St) := loopN (exec CC29 (Code.l (Code.l (Code.r (Code.l (Code.r (Code.r (Code.r (bodyOf Try.f29))))))))) (keepOf CC29.live (Code.l (Code.l (Code.r (Code.l (Code.r (Code.r (Code.r (bodyOf Try.f29))))))))) n (S29_5 t3 t11 t12 t13 H) retD
noncomputable def LL29_5 (t3 : (Option Sl)) (t11 : (Option Sl)) (t12 : Int) (t13 : Int) (H : Heap) : Option (AExit × St) := loopsD CC29 (Code.l (Code.l (Code.r (Code.l (Code.r (Code.r (Code.r (bodyOf Try.f29)))))))) (S29_5 t3 t11 t12 t13 H)
theorem LL29_5_of (m : Nat) (hm : m < 18446744073709551616) (t3 : (Option Sl)) (t11 : (Option Sl)) (t12 : Int) (t13 : Int) (H : Heap) : ∃ n, LL29_5 t3 t11 t12 t13 H = D29_5 (n + m + 1) t3 t11 t12 t13 H := loopsD_of _ _ _ m hm
def X29_5 (x0 : Option Sl) (H : Heap) : St := { env := [(3, AV.c (Cell.slice x0))], loc := [], heap := H }
noncomputable def J29_5 : AExit × St → Option (Option Sl × Heap) := fun p => blockK 0 (seqK (execL CC29 (lpD CC29) (Code.r (Code.r (Code.r (Code.r (bodyOf Try.f29)))))) (retA CC29 [ResultVar.tmp 2] (decF dec29))) p.fst p.snd
theorem D29_5_s : ∀ (n : Nat) (t3 t11 : Option Sl) (t12 t13 : Int) (H : Heap), D29_5 (n + 1) t3 t11 t12 t13 H = bif decide (t13 < t12) then t11.bind fun v12 => bif inb t13 v12.len && v12.esz == 5 then (H.get v12.id (v12.off + t13.toNat * 5)).bind fun v11 => (H.get v12.id (v12.off + t13.toNat * 5 + 1)).bind fun v10 => (H.get v12.id (v12.off + t13.toNat * 5 + 1 + 1)).bind fun v9 => (H.get v12.id (v12.off + t13.toNat * 5 + 1 + 1 + 1)).bind fun v8 => (H.get v12.id (v12.off + t13.toNat * 5 + 1 + 1 + 1 + 1)).bind fun v7 => (Cell.toInt IntKind.u64 v11).bind fun v6 => v10.toSlice.bind fun v5 => v9.toBool.bind fun v4 => v8.toBool.bind fun v3 => (Cell.toInt IntKind.i64 v7).bind fun v2 => (f49 v5 H).bind fun v1 => ((v1.snd ++ [Blk.row [Cell.int IntKind.u64 v6, Cell.slice v1.fst, Cell.bool v4, Cell.bool v3] false]).append 4 40 t3 (some { id := List.length v1.snd, off := 0, len := 1, cap := 1, esz := 4 })).bind fun v0 => D29_5 n v0.fst t11 t12 (IntKind.i64.wrap (t13 + 1)) v0.snd else none else some (AExit.exit 0, X29_5 t3 H) := by intros; exact (loopN_stepD hN29 _ _ _ _).trans (by kernel_rfl)
theorem q29 : ∀ (m : Option (Nat × Nat)) (H : Heap), f29 m H = bif m.isNone then some (none, H) else m.bind fun v15 => (H.get v15.fst (v15.snd + 0)).bind fun v14 => v14.toSlice.bind fun v13 => (LL29_5 none v13 (slen v13) 0 H).bind J29_5 := by intros; exact (f29_run ..).trans (by kernel_rfl)
theorem J29_5_0 : ∀ (x0 : Option Sl) (H : Heap), J29_5 (AExit.exit 0, X29_5 x0 H) = some (x0, H) := by intros; kernel_rfl
theorem ok29 : FnOk Try.prog 29 (specF enc29 (sem29 f29)) := by
  refine spec_ok (C := CC29) good29 rfl rfl rfl (by kernel_rfl) Try.func29 (c := bodyOf Try.f29) (by kernel_rfl) (by kernel_rfl) (Nat.le_of_eq Try.ntmps29.symm) dec29 enc29 de29 _ ?_
  intro args H q h
  unfold sem29 at h
  split at h
  · rw [← f29_eq]; exact h
  · cases h
/-! 57: bytes_Equal -/
noncomputable def CC57 : Ctx := { P := Try.prog, own := [], fns := [], nt := 10, nums := [], live := [] }
theorem good57 : Callees Try.prog CC57.fns [] CC57.nums := Callees.nil Try.prog
theorem hN57 : CtxNat CC57 := good57.ctx rfl rfl rfl
def enc57 (r : Bool) : List TV := [.c (Cell.bool (r))]
def dec57 : AV → Option (Bool)
  | .c (Cell.bool q0) => some (q0)
  | _ => none
theorem de57 (v : AV) (r : Bool) (h : dec57 v = some r) : v = oneOf (enc57 r) := by
  unfold dec57 at h
  split at h
  · cases h; rfl
  · cases h
abbrev Ty57 := (Option Sl) → (Option Sl) → Heap → Option (Bool × Heap)
def sem57 (f : Ty57) : List TV → Heap → Option (Bool × Heap)
  | [.c (Cell.slice a), .c (Cell.slice b)], H => f a b H
  | _, _ => none
noncomputable def f57 : Ty57 := hide fun a b H => fnA CC57 Try.f57.results.toList (bodyOf Try.f57) _ [.c (Cell.slice a), .c (Cell.slice b)] H (decF dec57)
theorem f57_eq (a : (Option Sl)) (b : (Option Sl)) (H : Heap) : f57 a b H = fnA CC57 Try.f57.results.toList (bodyOf Try.f57) _ [.c (Cell.slice a), .c (Cell.slice b)] H (decF dec57) := by unfold f57; rw [hide_eq]
theorem f57_run (a : (Option Sl)) (b : (Option Sl)) (H : Heap) : f57 a b H = fnL CC57 (lpD CC57) Try.f57.results.toList (bodyOf Try.f57) [.c (Cell.slice a), .c (Cell.slice b)] H (decF dec57) := (f57_eq ..).trans (fnA_lpD hN57 ..)
theorem q57 : ∀ (a b : Option Sl) (H : Heap), f57 a b H = (H.str a).bind fun v1 => (H.str b).bind fun v0 => some (strEq v1 v0, H) := by intros; exact (f57_run ..).trans (by kernel_rfl)
theorem ok57 : FnOk Try.prog 57 (specF enc57 (sem57 f57)) := by
  refine spec_ok (C := CC57) good57 rfl rfl rfl (by kernel_rfl) Try.func57 (c := bodyOf Try.f57) (by kernel_rfl) (by kernel_rfl) (Nat.le_of_eq Try.ntmps57.symm) dec57 enc57 de57 _ ?_
  intro args H q h
  unfold sem57 at h
  split at h
  · rw [← f57_eq]; exact h
  · cases h
/-! 47: mem_Area_same -/
noncomputable def CC47 : Ctx := { P := Try.prog, own := [2, 3], fns := [(57, specF enc57 (sem57 f57))], nt := 31, nums := [], live := [] }
theorem good47 : Callees Try.prog CC47.fns [] CC47.nums := (Callees.nil Try.prog).cons ok57 (specF_nat _ _)
theorem hN47 : CtxNat CC47 := good47.ctx rfl rfl rfl
def enc47 (r : Bool) : List TV := [.c (Cell.bool (r))]
def dec47 : AV → Option (Bool)
  | .c (Cell.bool q0) => some (q0)
  | _ => none
theorem de47 (v : AV) (r : Bool) (h : dec47 v = some r) : v = oneOf (enc47 r) := by
  unfold dec47 at h
  split at h
  · cases h; rfl
  · cases h
abbrev Ty47 := Int → (Option Sl) → Bool → Bool → Int → (Option Sl) → Bool → Bool → Heap → Option (Bool × Heap)
def sem47 (f : Ty47) : List TV → Heap → Option (Bool × Heap)
  | [.agg [Cell.int .u64 a0, Cell.slice a1, Cell.bool a2, Cell.bool a3], .agg [Cell.int .u64 b0, Cell.slice b1, Cell.bool b2, Cell.bool b3]], H => f a0 a1 a2 a3 b0 b1 b2 b3 H
  | _, _ => none
noncomputable def f47 : Ty47 := hide fun a0 a1 a2 a3 b0 b1 b2 b3 H => fnA CC47 Try.f47.results.toList (bodyOf Try.f47) _ [.agg [Cell.int .u64 a0, Cell.slice a1, Cell.bool a2, Cell.bool a3], .agg [Cell.int .u64 b0, Cell.slice b1, Cell.bool b2, Cell.bool b3]] H (decF dec47)
theorem f47_eq (a0 : Int) (a1 : (Option Sl)) (a2 : Bool) (a3 : Bool) (b0 : Int) (b1 : (Option Sl)) (b2 : Bool) (b3 : Bool) (H : Heap) : f47 a0 a1 a2 a3 b0 b1 b2 b3 H = fnA CC47 Try.f47.results.toList (bodyOf Try.f47) _ [.agg [Cell.int .u64 a0, Cell.slice a1, Cell.bool a2, Cell.bool a3], .agg [Cell.int .u64 b0, Cell.slice b1, Cell.bool b2, Cell.bool b3]] H (decF dec47) := by unfold f47; rw [hide_eq]
theorem f47_run (a0 : Int) (a1 : (Option Sl)) (a2 : Bool) (a3 : Bool) (b0 : Int) (b1 : (Option Sl)) (b2 : Bool) (b3 : Bool) (H : Heap) : f47 a0 a1 a2 a3 b0 b1 b2 b3 H = fnL CC47 (lpD CC47) Try.f47.results.toList (bodyOf Try.f47) [.agg [Cell.int .u64 a0, Cell.slice a1, Cell.bool a2, Cell.bool a3], .agg [Cell.int .u64 b0, Cell.slice b1, Cell.bool b2, Cell.bool b3]] H (decF dec47) := (f47_eq ..).trans (fnA_lpD hN47 ..)
theorem q47 : ∀ (a0 : Int) (a1 : Option Sl) (a2 a3 : Bool) (b0 : Int) (b1 : Option Sl) (b2 b3 : Bool) (H : Heap), f47 a0 a1 a2 a3 b0 b1 b2 b3 H = bif a0 == b0 then bif a2 == b2 then bif a3 == b3 then (f57 a1 b1 H).bind fun v0 => some (v0.fst, v0.snd) else some (false, H) else some (false, H) else some (false, H) := by intros; exact (f47_run ..).trans (by kernel_rfl)
theorem ok47 : FnOk Try.prog 47 (specF enc47 (sem47 f47)) := by
  refine spec_ok (C := CC47) good47 rfl rfl rfl (by kernel_rfl) Try.func47 (c := bodyOf Try.f47) (by kernel_rfl) (by kernel_rfl) (Nat.le_of_eq Try.ntmps47.symm) dec47 enc47 de47 _ ?_
  intro args H q h
  unfold sem47 at h
  split at h
  · rw [← f47_eq]; exact h
  · cases h
/-! 46: mem_Mem_Same$1 -/
noncomputable def CC46 : Ctx := { P := Try.prog, own := [2, 3], fns := [(47, specF enc47 (sem47 f47))], nt := 10, nums := [], live := [] }
theorem good46 : Callees Try.prog CC46.fns [] CC46.nums := (Callees.nil Try.prog).cons ok47 (specF_nat _ _)
theorem hN46 : CtxNat CC46 := good46.ctx rfl rfl rfl
def enc46 (r : Bool) : List TV := [.c (Cell.bool (r))]
def dec46 : AV → Option (Bool)
  | .c (Cell.bool q0) => some (q0)
  | _ => none
theorem de46 (v : AV) (r : Bool) (h : dec46 v = some r) : v = oneOf (enc46 r) := by
  unfold dec46 at h
  split at h
  · cases h; rfl
  · cases h
abbrev Ty46 := Int → (Option Sl) → Bool → Bool → Int → Int → (Option Sl) → Bool → Bool → Int → Heap → Option (Bool × Heap)
def sem46 (f : Ty46) : List TV → Heap → Option (Bool × Heap)
  | [.agg [Cell.int .u64 a0, Cell.slice a1, Cell.bool a2, Cell.bool a3, Cell.int .i64 a4], .agg [Cell.int .u64 b0, Cell.slice b1, Cell.bool b2, Cell.bool b3, Cell.int .i64 b4]], H => f a0 a1 a2 a3 a4 b0 b1 b2 b3 b4 H
  | _, _ => none
noncomputable def f46 : Ty46 := hide fun a0 a1 a2 a3 a4 b0 b1 b2 b3 b4 H => fnA CC46 Try.f46.results.toList (bodyOf Try.f46) _ [.agg [Cell.int .u64 a0, Cell.slice a1, Cell.bool a2, Cell.bool a3, Cell.int .i64 a4], .agg [Cell.int .u64 b0, Cell.slice b1, Cell.bool b2, Cell.bool b3, Cell.int .i64 b4]] H (decF dec46)
theorem f46_eq (a0 : Int) (a1 : (Option Sl)) (a2 : Bool) (a3 : Bool) (a4 : Int) (b0 : Int) (b1 : (Option Sl)) (b2 : Bool) (b3 : Bool) (b4 : Int) (H : Heap) : f46 a0 a1 a2 a3 a4 b0 b1 b2 b3 b4 H = fnA CC46 Try.f46.results.toList (bodyOf Try.f46) _ [.agg [Cell.int .u64 a0, Cell.slice a1, Cell.bool a2, Cell.bool a3, Cell.int .i64 a4], .agg [Cell.int .u64 b0, Cell.slice b1, Cell.bool b2, Cell.bool b3, Cell.int .i64 b4]] H (decF dec46) := by unfold f46; rw [hide_eq]
theorem f46_run (a0 : Int) (a1 : (Option Sl)) (a2 : Bool) (a3 : Bool) (a4 : Int) (b0 : Int) (b1 : (Option Sl)) (b2 : Bool) (b3 : Bool) (b4 : Int) (H : Heap) : f46 a0 a1 a2 a3 a4 b0 b1 b2 b3 b4 H = fnL CC46 (lpD CC46) Try.f46.results.toList (bodyOf Try.f46) [.agg [Cell.int .u64 a0, Cell.slice a1, Cell.bool a2, Cell.bool a3, Cell.int .i64 a4], .agg [Cell.int .u64 b0, Cell.slice b1, Cell.bool b2, Cell.bool b3, Cell.int .i64 b4]] H (decF dec46) := (f46_eq ..).trans (fnA_lpD hN46 ..)
theorem q46 : ∀ (a0 : Int) (a1 : Option Sl) (a2 a3 : Bool) (a4 b0 : Int) (b1 : Option Sl) (b2 b3 : Bool) (b4 : Int) (H : Heap), f46 a0 a1 a2 a3 a4 b0 b1 b2 b3 b4 H = (f47 a0 a1 a2 a3 b0 b1 b2 b3 H).bind fun v0 => some (v0.fst, v0.snd) := by intros; exact (f46_run ..).trans (by kernel_rfl)
theorem ok46 : FnOk Try.prog 46 (specF enc46 (sem46 f46)) := by
  refine spec_ok (C := CC46) good46 rfl rfl rfl (by kernel_rfl) Try.func46 (c := bodyOf Try.f46) (by kernel_rfl) (by kernel_rfl) (Nat.le_of_eq Try.ntmps46.symm) dec46 enc46 de46 _ ?_
  intro args H q h
  unfold sem46 at h
  split at h
  · rw [← f46_eq]; exact h
  · cases h
/-! 45: slices_EqualFunc[[]mem_held,[]mem_held,mem_held,mem_held] -/
noncomputable def CC45 : Ctx := { P := Try.prog, own := [8, 9], fns := [(46, specF enc46 (sem46 f46))], nt := 32, nums := [], live := [(4, ⟨[1, 2, 15, 16, 17], [], [6], []⟩)] }
theorem good45 : Callees Try.prog CC45.fns [] CC45.nums := (Callees.nil Try.prog).cons ok46 (specF_nat _ _)
theorem hN45 : CtxNat CC45 := good45.ctx rfl rfl rfl
def enc45 (r : Bool) : List TV := [.c (Cell.bool (r))]
def dec45 : AV → Option (Bool)
  | .c (Cell.bool q0) => some (q0)
  | _ => none
theorem de45 (v : AV) (r : Bool) (h : dec45 v = some r) : v = oneOf (enc45 r) := by
  unfold dec45 at h
  split at h
  · cases h; rfl
  · cases h
abbrev Ty45a := (Option Sl) → (Option Sl) → Heap → Option (Bool × Heap)
noncomputable def f45a : Ty45a := hide fun s1 s2 H => fnA CC45 Try.f45.results.toList (bodyOf Try.f45) _ [.c (Cell.slice s1), .c (Cell.slice s2), .c (Cell.fn 46 [] [])] H (decF dec45)
theorem f45a_eq (s1 : (Option Sl)) (s2 : (Option Sl)) (H : Heap) : f45a s1 s2 H = fnA CC45 Try.f45.results.toList (bodyOf Try.f45) _ [.c (Cell.slice s1), .c (Cell.slice s2), .c (Cell.fn 46 [] [])] H (decF dec45) := by unfold f45a; rw [hide_eq]
theorem f45a_run (s1 : (Option Sl)) (s2 : (Option Sl)) (H : Heap) : f45a s1 s2 H = fnL CC45 (lpD CC45) Try.f45.results.toList (bodyOf Try.f45) [.c (Cell.slice s1), .c (Cell.slice s2), .c (Cell.fn 46 [] [])] H (decF dec45) := (f45a_eq ..).trans (fnA_lpD hN45 ..)
def S45a_4 (t1 : (Option Sl)) (t15 : (Option Sl)) (t16 : Int) (t17 : Int) (H : Heap) : St := ⟨[(1, .c (Cell.slice t1)), (2, .c (Cell.fn 46 [] [])), (15, .c (Cell.slice t15)), (16, .c (Cell.int .i64 t16)), (17, .c (Cell.int .i64 t17))], [], H⟩
noncomputable def D45a_4 (n : Nat) (t1 : (Option Sl)) (t15 : (Option Sl)) (t16 : Int) (t17 : Int) (H : Heap) : Option (AExit × St) := loopN (exec CC45 (Code.l (Code.l (Code.r (Code.l (Code.r (Code.r (bodyOf Try.f45)))))))) (keepOf CC45.live (Code.l (Code.l (Code.r (Code.l (Code.r (Code.r (bodyOf Try.f45)))))))) n (S45a_4 t1 t15 t16 t17 H) retD
noncomputable def LL45a_4 (t1 : (Option Sl)) (t15 : (Option Sl)) (t16 : Int) (t17 : Int) (H : Heap) : Option (AExit × St) := loopsD CC45 (Code.l (Code.l (Code.r (Code.l (Code.r (Code.r (bodyOf Try.f45))))))) (S45a_4 t1 t15 t16 t17 H)
theorem LL45a_4_of (m : Nat) (hm : m < 18446744073709551616) (t1 : (Option Sl)) (t15 : (Option Sl)) (t16 : Int) (t17 : Int) (H : Heap) : ∃ n, LL45a_4 t1 t15 t16 t17 H = D45a_4 (n + m + 1) t1 t15 t16 t17 H := loopsD_of _ _ _ m hm
def X45a_4 (x0 : Bool) (H : Heap) : St := { env := [(6, AV.c (Cell.bool x0))], loc := [], heap := H }
def X45a_4a (H : Heap) : St := { env := [], loc := [], heap := H }
noncomputable def J45a_4 : AExit × St → Option (Bool × Heap) := fun p => blockK 0 (seqK (execL CC45 (lpD CC45) (Code.r (Code.r (Code.r (bodyOf Try.f45))))) (retA CC45 [ResultVar.tmp 6] (decF dec45))) p.fst p.snd
theorem D45a_4_s : ∀ (n : Nat) (t1 t15 : Option Sl) (t16 t17 : Int) (H : Heap), D45a_4 (n + 1) t1 t15 t16 t17 H = bif decide (t17 < t16) then t15.bind fun v22 => bif inb t17 v22.len && v22.esz == 5 then (H.get v22.id (v22.off + t17.toNat * 5)).bind fun v21 => (H.get v22.id (v22.off + t17.toNat * 5 + 1)).bind fun v20 => (H.get v22.id (v22.off + t17.toNat * 5 + 1 + 1)).bind fun v19 => (H.get v22.id (v22.off + t17.toNat * 5 + 1 + 1 + 1)).bind fun v18 => (H.get v22.id (v22.off + t17.toNat * 5 + 1 + 1 + 1 + 1)).bind fun v17 => (Cell.toInt IntKind.u64 v21).bind fun v16 => v20.toSlice.bind fun v15 => v19.toBool.bind fun v14 => v18.toBool.bind fun v13 => (Cell.toInt IntKind.i64 v17).bind fun v12 => t1.bind fun v11 => bif inb t17 v11.len && v11.esz == 5 then (H.get v11.id (v11.off + t17.toNat * 5)).bind fun v10 => (H.get v11.id (v11.off + t17.toNat * 5 + 1)).bind fun v9 => (H.get v11.id (v11.off + t17.toNat * 5 + 1 + 1)).bind fun v8 => (H.get v11.id (v11.off + t17.toNat * 5 + 1 + 1 + 1)).bind fun v7 => (H.get v11.id (v11.off + t17.toNat * 5 + 1 + 1 + 1 + 1)).bind fun v6 => (Cell.toInt IntKind.u64 v10).bind fun v5 => v9.toSlice.bind fun v4 => v8.toBool.bind fun v3 => v7.toBool.bind fun v2 => (Cell.toInt IntKind.i64 v6).bind fun v1 => (f46 v16 v15 v14 v13 v12 v5 v4 v3 v2 v1 H).bind fun v0 => bif !v0.fst then some (AExit.ret, X45a_4 false v0.snd) else D45a_4 n t1 t15 t16 (IntKind.i64.wrap (t17 + 1)) v0.snd else none else none else some (AExit.exit 0, X45a_4a H) := by intros; exact (loopN_stepD hN45 _ _ _ _).trans (by kernel_rfl)
theorem q45a : ∀ (s1 s2 : Option Sl) (H : Heap), f45a s1 s2 H = bif slen s1 != slen s2 then some (false, H) else (LL45a_4 s2 s1 (slen s1) 0 H).bind J45a_4 := by intros; exact (f45a_run ..).trans (by kernel_rfl)
theorem J45a_4_0 : ∀ (x0 : Bool) (H : Heap), J45a_4 (AExit.ret, X45a_4 x0 H) = some (x0, H) := by intros; kernel_rfl
theorem J45a_4_1 : ∀ (H : Heap), J45a_4 (AExit.exit 0, X45a_4a H) = some (true, H) := by intros; kernel_rfl
noncomputable def sem45 (_ : Unit) : List TV → Heap → Option (Bool × Heap)
  | [.c (Cell.slice s1), .c (Cell.slice s2), .c (Cell.fn 46 [] [])], H => f45a s1 s2 H
  | _, _ => none
def f45 : Unit := ()
theorem ok45 : FnOk Try.prog 45 (specF enc45 (sem45 f45)) := by
  refine spec_ok (C := CC45) good45 rfl rfl rfl (by kernel_rfl) Try.func45 (c := bodyOf Try.f45) (by kernel_rfl) (by kernel_rfl) (Nat.le_of_eq Try.ntmps45.symm) dec45 enc45 de45 _ ?_
  intro args H q h
  unfold sem45 at h
  split at h
  · rw [← f45a_eq]; exact h
  · cases h
/-! 22: mem_Mem_Same -/
noncomputable def CC22 : Ctx := { P := Try.prog, own := [], fns := [(45, specF enc45 (sem45 f45))], nt := 22, nums := [], live := [] }
theorem good22 : Callees Try.prog CC22.fns [] CC22.nums := (Callees.nil Try.prog).cons ok45 (specF_nat _ _)
theorem hN22 : CtxNat CC22 := good22.ctx rfl rfl rfl
def enc22 (r : Bool) : List TV := [.c (Cell.bool (r))]
def dec22 : AV → Option (Bool)
  | .c (Cell.bool q0) => some (q0)
  | _ => none
theorem de22 (v : AV) (r : Bool) (h : dec22 v = some r) : v = oneOf (enc22 r) := by
  unfold dec22 at h
  split at h
  · cases h; rfl
  · cases h
abbrev Ty22 := (Option (Nat × Nat)) → (Option (Nat × Nat)) → Heap → Option (Bool × Heap)
def sem22 (f : Ty22) : List TV → Heap → Option (Bool × Heap)
  | [.c (Cell.ptr m), .c (Cell.ptr n)], H => f m n H
  | _, _ => none
noncomputable def f22 : Ty22 := hide fun m n H => fnA CC22 Try.f22.results.toList (bodyOf Try.f22) _ [.c (Cell.ptr m), .c (Cell.ptr n)] H (decF dec22)
theorem f22_eq (m : (Option (Nat × Nat))) (n : (Option (Nat × Nat))) (H : Heap) : f22 m n H = fnA CC22 Try.f22.results.toList (bodyOf Try.f22) _ [.c (Cell.ptr m), .c (Cell.ptr n)] H (decF dec22) := by unfold f22; rw [hide_eq]
theorem f22_run (m : (Option (Nat × Nat))) (n : (Option (Nat × Nat))) (H : Heap) : f22 m n H = fnL CC22 (lpD CC22) Try.f22.results.toList (bodyOf Try.f22) [.c (Cell.ptr m), .c (Cell.ptr n)] H (decF dec22) := (f22_eq ..).trans (fnA_lpD hN22 ..)
theorem q22 : ∀ (m n : Option (Nat × Nat)) (H : Heap), f22 m n H = bif !m.isNone then bif !n.isNone then m.bind fun v6 => (H.get v6.fst (v6.snd + 0)).bind fun v5 => v5.toSlice.bind fun v4 => n.bind fun v3 => (H.get v3.fst (v3.snd + 0)).bind fun v2 => v2.toSlice.bind fun v1 => (f45a v4 v1 H).bind fun v0 => some (v0.fst, v0.snd) else some (false, H) else some (false, H) := by intros; exact (f22_run ..).trans (by kernel_rfl)
theorem ok22 : FnOk Try.prog 22 (specF enc22 (sem22 f22)) := by
  refine spec_ok (C := CC22) good22 rfl rfl rfl (by kernel_rfl) Try.func22 (c := bodyOf Try.f22) (by kernel_rfl) (by kernel_rfl) (Nat.le_of_eq Try.ntmps22.symm) dec22 enc22 de22 _ ?_
  intro args H q h
  unfold sem22 at h
  split at h
  · rw [← f22_eq]; exact h
  · cases h
/-! 30: mem_New -/
noncomputable def CC30 : Ctx := { P := Try.prog, own := [5], fns := [(49, specF enc49 (sem49 f49))], nt := 31, nums := [], live := [(3, ⟨[3, 8, 9, 10], [], [3], []⟩)] }
theorem good30 : Callees Try.prog CC30.fns [] CC30.nums := (Callees.nil Try.prog).cons ok49 (specF_nat _ _)
theorem hN30 : CtxNat CC30 := good30.ctx rfl rfl rfl
def enc30 (r : (Option (Nat × Nat))) : List TV := [.c (Cell.ptr (r))]
def dec30 : AV → Option ((Option (Nat × Nat)))
  | .c (Cell.ptr q0) => some (q0)
  | _ => none
theorem de30 (v : AV) (r : (Option (Nat × Nat))) (h : dec30 v = some r) : v = oneOf (enc30 r) := by
  unfold dec30 at h
  split at h
  · cases h; rfl
  · cases h
abbrev Ty30 := (Option Sl) → Heap → Option (((Option (Nat × Nat))) × Heap)
def sem30 (f : Ty30) : List TV → Heap → Option (((Option (Nat × Nat))) × Heap)
  | [.c (Cell.slice l)], H => f l H
  | _, _ => none
noncomputable def f30 : Ty30 := hide fun l H => fnA CC30 Try.f30.results.toList (bodyOf Try.f30) _ [.c (Cell.slice l)] H (decF dec30)
theorem f30_eq (l : (Option Sl)) (H : Heap) : f30 l H = fnA CC30 Try.f30.results.toList (bodyOf Try.f30) _ [.c (Cell.slice l)] H (decF dec30) := by unfold f30; rw [hide_eq]
theorem f30_run (l : (Option Sl)) (H : Heap) : f30 l H = fnL CC30 (lpD CC30) Try.f30.results.toList (bodyOf Try.f30) [.c (Cell.slice l)] H (decF dec30) := (f30_eq ..).trans (fnA_lpD hN30 ..)
def S30_3 (t3 : (Option (Nat × Nat))) (t8 : (Option Sl)) (t9 : Int) (t10 : Int) (H : Heap) : St := ⟨[(3, .c (Cell.ptr t3)), (8, .c (Cell.slice t8)), (9, .c (Cell.int .i64 t9)), (10, .c (Cell.int .i64 t10))], [], H⟩
noncomputable def D30_3 (n : Nat) (t3 : (Option (Nat × Nat))) (t8 : (Option Sl)) (t9 : Int) (t10 : Int) (H : Heap) : Option (AExit × St) := loopN (exec CC30 (Code.l (Code.l (Code.r (Code.l (Code.r (Code.r (bodyOf Try.f30)))))))) (keepOf CC30.live (Code.l (Code.l (Code.r (Code.l (Code.r (Code.r (bodyOf Try.f30)))))))) n (S30_3 t3 t8 t9 t10 H) retD
noncomputable def LL30_3 (t3 : (Option (Nat × Nat))) (t8 : (Option Sl)) (t9 : Int) (t10 : Int) (H : Heap) : Option (AExit × St) := loopsD CC30 (Code.l (Code.l (Code.r (Code.l (Code.r (Code.r (bodyOf Try.f30))))))) (S30_3 t3 t8 t9 t10 H)
theorem LL30_3_of (m : Nat) (hm : m < 18446744073709551616) (t3 : (Option (Nat × Nat))) (t8 : (Option Sl)) (t9 : Int) (t10 : Int) (H : Heap) : ∃ n, LL30_3 t3 t8 t9 t10 H = D30_3 (n + m + 1) t3 t8 t9 t10 H := loopsD_of _ _ _ m hm
def X30_3 (x0 : Option (Nat × Nat)) (H : Heap) : St := { env := [(3, AV.c (Cell.ptr x0))], loc := [], heap := H }
noncomputable def J30_3 : AExit × St → Option (Option (Nat × Nat) × Heap) := fun p => blockK 0 (seqK (execL CC30 (lpD CC30) (Code.r (Code.r (Code.r (bodyOf Try.f30))))) (retA CC30 [ResultVar.tmp 2] (decF dec30))) p.fst p.snd
theorem D30_3_s : ∀ (n : Nat) (t3 : Option (Nat × Nat)) (t8 : Option Sl) (t9 t10 : Int) (H : Heap), D30_3 (n + 1) t3 t8 t9 t10 H = bif decide (t10 < t9) then t8.bind fun v15 => bif inb t10 v15.len && v15.esz == 4 then (H.get v15.id (v15.off + t10.toNat * 4)).bind fun v14 => (H.get v15.id (v15.off + t10.toNat * 4 + 1)).bind fun v13 => (H.get v15.id (v15.off + t10.toNat * 4 + 1 + 1)).bind fun v12 => (H.get v15.id (v15.off + t10.toNat * 4 + 1 + 1 + 1)).bind fun v11 => (Cell.toInt IntKind.u64 v14).bind fun v10 => v13.toSlice.bind fun v9 => v12.toBool.bind fun v8 => v11.toBool.bind fun v7 => (f49 v9 H).bind fun v6 => t3.bind fun v5 => (v6.snd.get v5.fst (v5.snd + 0)).bind fun v4 => v4.toSlice.bind fun v3 => ((v6.snd ++ [Blk.row [Cell.int IntKind.u64 v10, Cell.slice v6.fst, Cell.bool v8, Cell.bool v7, Cell.int IntKind.i64 (-1)] false]).append 5 48 v3 (some { id := List.length v6.snd, off := 0, len := 1, cap := 1, esz := 5 })).bind fun v2 => t3.bind fun v1 => (v2.snd.put v1.fst (v1.snd + 0) [Cell.slice v2.fst]).bind fun v0 => D30_3 n t3 t8 t9 (IntKind.i64.wrap (t10 + 1)) v0 else none else some (AExit.exit 0, X30_3 t3 H) := by intros; exact (loopN_stepD hN30 _ _ _ _).trans (by kernel_rfl)
theorem q30 : ∀ (l : Option Sl) (H : Heap), f30 l H = (LL30_3 (some (List.length H, 0)) l (slen l) 0 (H ++ [Blk.row [Cell.slice none, Cell.slice none, Cell.slice none, Cell.slice none, Cell.slice none, Cell.slice none, Cell.slice none, Cell.slice none, Cell.slice none] false])).bind J30_3 := by intros; exact (f30_run ..).trans (by kernel_rfl)
theorem J30_3_0 : ∀ (x0 : Option (Nat × Nat)) (H : Heap), J30_3 (AExit.exit 0, X30_3 x0 H) = some (x0, H) := by intros; kernel_rfl
theorem ok30 : FnOk Try.prog 30 (specF enc30 (sem30 f30)) := by
  refine spec_ok (C := CC30) good30 rfl rfl rfl (by kernel_rfl) Try.func30 (c := bodyOf Try.f30) (by kernel_rfl) (by kernel_rfl) (Nat.le_of_eq Try.ntmps30.symm) dec30 enc30 de30 _ ?_
  intro args H q h
  unfold sem30 at h
  split at h
  · rw [← f30_eq]; exact h
  · cases h
/-! 24: mem_Mem_Copy -/
noncomputable def CC24 : Ctx := { P := Try.prog, own := [], fns := [(44, specF enc44 (sem44 f44)), (30, specF enc30 (sem30 f30)), (29, specF enc29 (sem29 f29))], nt := 52, nums := [], live := [(10, ⟨[0, 3, 35], [], [3], []⟩), (5, ⟨[0, 3, 15, 16], [], [0, 3], []⟩)] }
theorem good24 : Callees Try.prog CC24.fns [] CC24.nums := (((Callees.nil Try.prog).cons ok29 (specF_nat _ _)).cons ok30 (specF_nat _ _)).cons ok44 (specF_nat _ _)
theorem hN24 : CtxNat CC24 := good24.ctx rfl rfl rfl
def enc24 (r : (Option (Nat × Nat))) : List TV := [.c (Cell.ptr (r))]
def dec24 : AV → Option ((Option (Nat × Nat)))
  | .c (Cell.ptr q0) => some (q0)
  | _ => none
theorem de24 (v : AV) (r : (Option (Nat × Nat))) (h : dec24 v = some r) : v = oneOf (enc24 r) := by
  unfold dec24 at h
  split at h
  · cases h; rfl
  · cases h
abbrev Ty24 := (Option (Nat × Nat)) → Heap → Option (((Option (Nat × Nat))) × Heap)
def sem24 (f : Ty24) : List TV → Heap → Option (((Option (Nat × Nat))) × Heap)
  | [.c (Cell.ptr m)], H => f m H
  | _, _ => none
noncomputable def f24 : Ty24 := hide fun m H => fnA CC24 Try.f24.results.toList (bodyOf Try.f24) _ [.c (Cell.ptr m)] H (decF dec24)
theorem f24_eq (m : (Option (Nat × Nat))) (H : Heap) : f24 m H = fnA CC24 Try.f24.results.toList (bodyOf Try.f24) _ [.c (Cell.ptr m)] H (decF dec24) := by unfold f24; rw [hide_eq]
theorem f24_run (m : (Option (Nat × Nat))) (H : Heap) : f24 m H = fnL CC24 (lpD CC24) Try.f24.results.toList (bodyOf Try.f24) [.c (Cell.ptr m)] H (decF dec24) := (f24_eq ..).trans (fnA_lpD hN24 ..)
def S24_5 (t0 : (Option (Nat × Nat))) (t3 : (Option (Nat × Nat))) (t15 : Int) (t16 : Int) (H : Heap) : St := ⟨[(0, .c (Cell.ptr t0)), (3, .c (Cell.ptr t3)), (15, .c (Cell.int .i64 t15)), (16, .c (Cell.int .i64 t16))], [], H⟩
noncomputable def D24_5 (n : Nat) (t0 : (Option (Nat × Nat))) (t3 : (Option (Nat × Nat))) (t15 : Int) (t16 : Int) (H : Heap) : Option (AExit × St) := loopN (exec CC24 (Code.l (Code.l (Code.r (Code.l (Code.r (Code.r (Code.r (bodyOf Try.f24))))))))) (keepOf CC24.live (Code.l (Code.l (Code.r (Code.l (Code.r (Code.r (Code.r (bodyOf Try.f24))))))))) n (S24_5 t0 t3 t15 t16 H) retD
noncomputable def LL24_5 (t0 : (Option (Nat × Nat))) (t3 : (Option (Nat × Nat))) (t15 : Int) (t16 : Int) (H : Heap) : Option (AExit × St) := loopsD CC24 (Code.l (Code.l (Code.r (Code.l (Code.r (Code.r (Code.r (bodyOf Try.f24)))))))) (S24_5 t0 t3 t15 t16 H)
theorem LL24_5_of (m : Nat) (hm : m < 18446744073709551616) (t0 : (Option (Nat × Nat))) (t3 : (Option (Nat × Nat))) (t15 : Int) (t16 : Int) (H : Heap) : ∃ n, LL24_5 t0 t3 t15 t16 H = D24_5 (n + m + 1) t0 t3 t15 t16 H := loopsD_of _ _ _ m hm
def S24_10 (t0 : (Option (Nat × Nat))) (t3 : (Option (Nat × Nat))) (t35 : Int) (H : Heap) : St := ⟨[(0, .c (Cell.ptr t0)), (3, .c (Cell.ptr t3)), (35, .c (Cell.int .i64 t35))], [], H⟩
noncomputable def D24_10 (n : Nat) (t0 : (Option (Nat × Nat))) (t3 : (Option (Nat × Nat))) (t35 : Int) (H : Heap) : Option (AExit × St) := loopN (exec CC24 (Code.l (Code.l (Code.r (Code.l (Code.r (Code.r (Code.r (Code.r (bodyOf Try.f24)))))))))) (keepOf CC24.live (Code.l (Code.l (Code.r (Code.l (Code.r (Code.r (Code.r (Code.r (bodyOf Try.f24)))))))))) n (S24_10 t0 t3 t35 H) retD
noncomputable def LL24_10 (t0 : (Option (Nat × Nat))) (t3 : (Option (Nat × Nat))) (t35 : Int) (H : Heap) : Option (AExit × St) := loopsD CC24 (Code.l (Code.l (Code.r (Code.l (Code.r (Code.r (Code.r (Code.r (bodyOf Try.f24))))))))) (S24_10 t0 t3 t35 H)
theorem LL24_10_of (m : Nat) (hm : m < 18446744073709551616) (t0 : (Option (Nat × Nat))) (t3 : (Option (Nat × Nat))) (t35 : Int) (H : Heap) : ∃ n, LL24_10 t0 t3 t35 H = D24_10 (n + m + 1) t0 t3 t35 H := loopsD_of _ _ _ m hm
def X24_10 (x0 : Option (Nat × Nat)) (H : Heap) : St := { env := [(3, AV.c (Cell.ptr x0))], loc := [], heap := H }
def X24_5 (x0 : Option (Nat × Nat)) (x1 : Option (Nat × Nat)) (H : Heap) : St := { env := [(0, AV.c (Cell.ptr x0)), (3, AV.c (Cell.ptr x1))], loc := [], heap := H }
noncomputable def J24_5 : AExit × St → Option (Option (Nat × Nat) × Heap) := fun p => blockK 0 (seqK (execL CC24 (lpD CC24) (Code.r (Code.r (Code.r (Code.r (bodyOf Try.f24)))))) (retA CC24 [ResultVar.tmp 2] (decF dec24))) p.fst p.snd
noncomputable def J24_10 : AExit × St → Option (Option (Nat × Nat) × Heap) := fun p => blockK 2 (seqK (execL CC24 (lpD CC24) (Code.r (Code.r (Code.r (Code.r (Code.r (bodyOf Try.f24))))))) (retA CC24 [ResultVar.tmp 2] (decF dec24))) p.fst p.snd
theorem D24_10_s : ∀ (n : Nat) (t0 t3 : Option (Nat × Nat)) (t35 : Int) (H : Heap), D24_10 (n + 1) t0 t3 t35 H = bif decide (t35 < 8) then t0.bind fun v5 => bif inb t35 8 then (H.get v5.fst (v5.snd + 1 + t35.toNat * 1)).bind fun v4 => v4.toSlice.bind fun v3 => (f44 v3 H).bind fun v2 => t3.bind fun v1 => bif inb t35 8 then (v2.snd.put v1.fst (v1.snd + 1 + t35.toNat * 1) [Cell.slice v2.fst]).bind fun v0 => D24_10 n t0 t3 (IntKind.i64.wrap (t35 + 1)) v0 else none else none else some (AExit.exit 2, X24_10 t3 H) := by intros; exact (loopN_stepD hN24 _ _ _ _).trans (by kernel_rfl)
theorem D24_5_s : ∀ (n : Nat) (t0 t3 : Option (Nat × Nat)) (t15 t16 : Int) (H : Heap), D24_5 (n + 1) t0 t3 t15 t16 H = bif decide (t16 < t15) then t3.bind fun v16 => (H.get v16.fst (v16.snd + 0)).bind fun v15 => v15.toSlice.bind fun v14 => t0.bind fun v13 => (H.get v13.fst (v13.snd + 0)).bind fun v12 => v12.toSlice.bind fun v11 => v11.bind fun v10 => bif inb t16 v10.len && v10.esz == 5 then (H.get v10.id (v10.off + t16.toNat * 5 + 4)).bind fun v9 => (Cell.toInt IntKind.i64 v9).bind fun v8 => v14.bind fun v7 => bif inb t16 v7.len && v7.esz == 5 then (H.put v7.id (v7.off + t16.toNat * 5 + 4) [Cell.int IntKind.i64 v8]).bind fun v6 => D24_5 n t0 t3 t15 (IntKind.i64.wrap (t16 + 1)) v6 else none else none else some (AExit.exit 0, X24_5 t0 t3 H) := by intros; exact (loopN_stepD hN24 _ _ _ _).trans (by kernel_rfl)
theorem q24 : ∀ (m : Option (Nat × Nat)) (H : Heap), f24 m H = bif m.isNone then some (none, H) else (f29 m H).bind fun v21 => (f30 v21.fst v21.snd).bind fun v20 => m.bind fun v19 => (v20.snd.get v19.fst (v19.snd + 0)).bind fun v18 => v18.toSlice.bind fun v17 => (LL24_5 m v20.fst (slen v17) 0 v20.snd).bind J24_5 := by intros; exact (f24_run ..).trans (by kernel_rfl)
theorem J24_5_0 : ∀ (x0 x1 : Option (Nat × Nat)) (H : Heap), J24_5 (AExit.exit 0, X24_5 x0 x1 H) = (LL24_10 x0 x1 0 H).bind J24_10 := by intros; kernel_rfl
theorem J24_10_0 : ∀ (x0 : Option (Nat × Nat)) (H : Heap), J24_10 (AExit.exit 2, X24_10 x0 H) = some (x0, H) := by intros; kernel_rfl
theorem ok24 : FnOk Try.prog 24 (specF enc24 (sem24 f24)) := by
  refine spec_ok (C := CC24) good24 rfl rfl rfl (by kernel_rfl) Try.func24 (c := bodyOf Try.f24) (by kernel_rfl) (by kernel_rfl) (Nat.le_of_eq Try.ntmps24.symm) dec24 enc24 de24 _ ?_
  intro args H q h
  unfold sem24 at h
  split at h
  · rw [← f24_eq]; exact h
  · cases h
/-! 11: L09_awake -/
noncomputable def OC49 : Ctx := { P := Try.prog, own := [], fns := [], nt := 8, nums := [], live := [] }
theorem goodO49 : Callees Try.prog OC49.fns [] OC49.nums := Callees.nil Try.prog
noncomputable def OF49 : FnSem := natF (runS OC49 Try.f49.results.toList (bodyOf Try.f49))
theorem okO49 : FnOk Try.prog 49 OF49 := own_ok (C := OC49) goodO49 rfl rfl rfl (by kernel_rfl) Try.func49 (c := bodyOf Try.f49) (by kernel_rfl) (by kernel_rfl) (Nat.le_of_eq Try.ntmps49.symm)
noncomputable def OC30 : Ctx := { P := Try.prog, own := [5], fns := [(49, OF49)], nt := 31, nums := [], live := [(3, ⟨[3, 8, 9, 10], [], [3], []⟩)] }
theorem goodO30 : Callees Try.prog OC30.fns [] OC30.nums := (Callees.nil Try.prog).cons okO49 (natF_nat _)
noncomputable def OF30 : FnSem := natF (runS OC30 Try.f30.results.toList (bodyOf Try.f30))
theorem okO30 : FnOk Try.prog 30 OF30 := own_ok (C := OC30) goodO30 rfl rfl rfl (by kernel_rfl) Try.func30 (c := bodyOf Try.f30) (by kernel_rfl) (by kernel_rfl) (Nat.le_of_eq Try.ntmps30.symm)
noncomputable def OC31 : Ctx := { P := Try.prog, own := [], fns := [], nt := 15, nums := [], live := [] }
theorem goodO31 : Callees Try.prog OC31.fns [] OC31.nums := Callees.nil Try.prog
noncomputable def OF31 : FnSem := natF (runS OC31 Try.f31.results.toList (bodyOf Try.f31))
theorem okO31 : FnOk Try.prog 31 OF31 := own_ok (C := OC31) goodO31 rfl rfl rfl (by kernel_rfl) Try.func31 (c := bodyOf Try.f31) (by kernel_rfl) (by kernel_rfl) (Nat.le_of_eq Try.ntmps31.symm)
noncomputable def OC32 : Ctx := { P := Try.prog, own := [], fns := [], nt := 17, nums := [], live := [] }
theorem goodO32 : Callees Try.prog OC32.fns [] OC32.nums := Callees.nil Try.prog
noncomputable def OF32 : FnSem := natF (runS OC32 Try.f32.results.toList (bodyOf Try.f32))
theorem okO32 : FnOk Try.prog 32 OF32 := own_ok (C := OC32) goodO32 rfl rfl rfl (by kernel_rfl) Try.func32 (c := bodyOf Try.f32) (by kernel_rfl) (by kernel_rfl) (Nat.le_of_eq Try.ntmps32.symm)
noncomputable def OC60 : Ctx := { P := Try.prog, own := [2], fns := [], nt := 14, nums := [], live := [] }
theorem goodO60 : Callees Try.prog OC60.fns [] OC60.nums := Callees.nil Try.prog
noncomputable def OF60 : FnSem := natF (runS OC60 Try.f60.results.toList (bodyOf Try.f60))
theorem okO60 : FnOk Try.prog 60 OF60 := own_ok (C := OC60) goodO60 rfl rfl rfl (by kernel_rfl) Try.func60 (c := bodyOf Try.f60) (by kernel_rfl) (by kernel_rfl) (Nat.le_of_eq Try.ntmps60.symm)
noncomputable def OC59 : Ctx := { P := Try.prog, own := [2], fns := [(60, OF60)], nt := 8, nums := [], live := [] }
theorem goodO59 : Callees Try.prog OC59.fns [] OC59.nums := (Callees.nil Try.prog).cons okO60 (natF_nat _)
noncomputable def OF59 : FnSem := natF (runS OC59 Try.f59.results.toList (bodyOf Try.f59))
theorem okO59 : FnOk Try.prog 59 OF59 := own_ok (C := OC59) goodO59 rfl rfl rfl (by kernel_rfl) Try.func59 (c := bodyOf Try.f59) (by kernel_rfl) (by kernel_rfl) (Nat.le_of_eq Try.ntmps59.symm)
noncomputable def OC58 : Ctx := { P := Try.prog, own := [], fns := [(59, OF59)], nt := 19, nums := [], live := [(2, ⟨[0, 1, 7, 8], [], [4], []⟩)] }
theorem goodO58 : Callees Try.prog OC58.fns [] OC58.nums := (Callees.nil Try.prog).cons okO59 (natF_nat _)
noncomputable def OF58 : FnSem := natF (runS OC58 Try.f58.results.toList (bodyOf Try.f58))
theorem okO58 : FnOk Try.prog 58 OF58 := own_ok (C := OC58) goodO58 rfl rfl rfl (by kernel_rfl) Try.func58 (c := bodyOf Try.f58) (by kernel_rfl) (by kernel_rfl) (Nat.le_of_eq Try.ntmps58.symm)
noncomputable def OC48 : Ctx := { P := Try.prog, own := [], fns := [(58, OF58), (59, OF59)], nt := 11, nums := [], live := [] }
theorem goodO48 : Callees Try.prog OC48.fns [] OC48.nums := ((Callees.nil Try.prog).cons okO59 (natF_nat _)).cons okO58 (natF_nat _)
noncomputable def OF48 : FnSem := natF (runS OC48 Try.f48.results.toList (bodyOf Try.f48))
theorem okO48 : FnOk Try.prog 48 OF48 := own_ok (C := OC48) goodO48 rfl rfl rfl (by kernel_rfl) Try.func48 (c := bodyOf Try.f48) (by kernel_rfl) (by kernel_rfl) (Nat.le_of_eq Try.ntmps48.symm)
noncomputable def OC33 : Ctx := { P := Try.prog, own := [10], fns := [(48, OF48)], nt := 42, nums := [], live := [] }
theorem goodO33 : Callees Try.prog OC33.fns [] OC33.nums := (Callees.nil Try.prog).cons okO48 (natF_nat _)
noncomputable def OF33 : FnSem := natF (runS OC33 Try.f33.results.toList (bodyOf Try.f33))
theorem okO33 : FnOk Try.prog 33 OF33 := own_ok (C := OC33) goodO33 rfl rfl rfl (by kernel_rfl) Try.func33 (c := bodyOf Try.f33) (by kernel_rfl) (by kernel_rfl) (Nat.le_of_eq Try.ntmps33.symm)
noncomputable def OC12 : Ctx := { P := Try.prog, own := [], fns := [(33, OF33), (32, OF32), (31, OF31)], nt := 43, nums := [], live := [(4, ⟨[0, 1, 2, 4, 30, 31], [], [10], []⟩)] }
theorem goodO12 : Callees Try.prog OC12.fns [] OC12.nums := (((Callees.nil Try.prog).cons okO31 (natF_nat _)).cons okO32 (natF_nat _)).cons okO33 (natF_nat _)
noncomputable def OF12 : FnSem := natF (runS OC12 Try.f12.results.toList (bodyOf Try.f12))
theorem okO12 : FnOk Try.prog 12 OF12 := own_ok (C := OC12) goodO12 rfl rfl rfl (by kernel_rfl) Try.func12 (c := bodyOf Try.f12) (by kernel_rfl) (by kernel_rfl) (Nat.le_of_eq Try.ntmps12.symm)
noncomputable def OC36 : Ctx := { P := Try.prog, own := [3, 5], fns := [(48, OF48)], nt := 43, nums := [], live := [(2, ⟨[0, 3, 8, 9], [3], [], []⟩)] }
theorem goodO36 : Callees Try.prog OC36.fns [] OC36.nums := (Callees.nil Try.prog).cons okO48 (natF_nat _)
noncomputable def OF36 : FnSem := natF (runS OC36 Try.f36.results.toList (bodyOf Try.f36))
theorem okO36 : FnOk Try.prog 36 OF36 := own_ok (C := OC36) goodO36 rfl rfl rfl (by kernel_rfl) Try.func36 (c := bodyOf Try.f36) (by kernel_rfl) (by kernel_rfl) (Nat.le_of_eq Try.ntmps36.symm)
noncomputable def OC44 : Ctx := { P := Try.prog, own := [], fns := [], nt := 8, nums := [], live := [] }
theorem goodO44 : Callees Try.prog OC44.fns [] OC44.nums := Callees.nil Try.prog
noncomputable def OF44 : FnSem := natF (runS OC44 Try.f44.results.toList (bodyOf Try.f44))
theorem okO44 : FnOk Try.prog 44 OF44 := own_ok (C := OC44) goodO44 rfl rfl rfl (by kernel_rfl) Try.func44 (c := bodyOf Try.f44) (by kernel_rfl) (by kernel_rfl) (Nat.le_of_eq Try.ntmps44.symm)
noncomputable def OC21 : Ctx := { P := Try.prog, own := [], fns := [(44, OF44), (36, OF36), (31, OF31)], nt := 42, nums := [], live := [] }
theorem goodO21 : Callees Try.prog OC21.fns [] OC21.nums := (((Callees.nil Try.prog).cons okO31 (natF_nat _)).cons okO36 (natF_nat _)).cons okO44 (natF_nat _)
noncomputable def OF21 : FnSem := natF (runS OC21 Try.f21.results.toList (bodyOf Try.f21))
theorem okO21 : FnOk Try.prog 21 OF21 := own_ok (C := OC21) goodO21 rfl rfl rfl (by kernel_rfl) Try.func21 (c := bodyOf Try.f21) (by kernel_rfl) (by kernel_rfl) (Nat.le_of_eq Try.ntmps21.symm)
noncomputable def OC51 : Ctx := { P := Try.prog, own := [], fns := [(32, OF32)], nt := 10, nums := [], live := [] }
theorem goodO51 : Callees Try.prog OC51.fns [] OC51.nums := (Callees.nil Try.prog).cons okO32 (natF_nat _)
noncomputable def OF51 : FnSem := natF (runS OC51 Try.f51.results.toList (bodyOf Try.f51))
theorem okO51 : FnOk Try.prog 51 OF51 := own_ok (C := OC51) goodO51 rfl rfl rfl (by kernel_rfl) Try.func51 (c := bodyOf Try.f51) (by kernel_rfl) (by kernel_rfl) (Nat.le_of_eq Try.ntmps51.symm)
noncomputable def OC35 : Ctx := { P := Try.prog, own := [], fns := [(51, OF51)], nt := 9, nums := [], live := [] }
theorem goodO35 : Callees Try.prog OC35.fns [] OC35.nums := (Callees.nil Try.prog).cons okO51 (natF_nat _)
noncomputable def OF35 : FnSem := natF (runS OC35 Try.f35.results.toList (bodyOf Try.f35))
theorem okO35 : FnOk Try.prog 35 OF35 := own_ok (C := OC35) goodO35 rfl rfl rfl (by kernel_rfl) Try.func35 (c := bodyOf Try.f35) (by kernel_rfl) (by kernel_rfl) (Nat.le_of_eq Try.ntmps35.symm)
noncomputable def OC16 : Ctx := { P := Try.prog, own := [], fns := [(35, OF35), (21, OF21), (12, OF12)], nt := 47, nums := [], live := [] }
theorem goodO16 : Callees Try.prog OC16.fns [] OC16.nums := (((Callees.nil Try.prog).cons okO12 (natF_nat _)).cons okO21 (natF_nat _)).cons okO35 (natF_nat _)
noncomputable def OF16 : FnSem := natF (runS OC16 Try.f16.results.toList (bodyOf Try.f16))
theorem okO16 : FnOk Try.prog 16 OF16 := own_ok (C := OC16) goodO16 rfl rfl rfl (by kernel_rfl) Try.func16 (c := bodyOf Try.f16) (by kernel_rfl) (by kernel_rfl) (Nat.le_of_eq Try.ntmps16.symm)
noncomputable def OC61 : Ctx := { P := Try.prog, own := [], fns := [], nt := 19, nums := [], live := [(1, ⟨[0, 1, 3], [], [], []⟩)] }
theorem goodO61 : Callees Try.prog OC61.fns [] OC61.nums := Callees.nil Try.prog
noncomputable def OF61 : FnSem := natF (runS OC61 Try.f61.results.toList (bodyOf Try.f61))
theorem okO61 : FnOk Try.prog 61 OF61 := own_ok (C := OC61) goodO61 rfl rfl rfl (by kernel_rfl) Try.func61 (c := bodyOf Try.f61) (by kernel_rfl) (by kernel_rfl) (Nat.le_of_eq Try.ntmps61.symm)
noncomputable def OC50 : Ctx := { P := Try.prog, own := [], fns := [(61, OF61)], nt := 4, nums := [], live := [] }
theorem goodO50 : Callees Try.prog OC50.fns [] OC50.nums := (Callees.nil Try.prog).cons okO61 (natF_nat _)
noncomputable def OF50 : FnSem := natF (runS OC50 Try.f50.results.toList (bodyOf Try.f50))
theorem okO50 : FnOk Try.prog 50 OF50 := own_ok (C := OC50) goodO50 rfl rfl rfl (by kernel_rfl) Try.func50 (c := bodyOf Try.f50) (by kernel_rfl) (by kernel_rfl) (Nat.le_of_eq Try.ntmps50.symm)
noncomputable def OC34 : Ctx := { P := Try.prog, own := [8, 10], fns := [(48, OF48), (50, OF50)], nt := 54, iters := [(61, (64, 78))], nums := [], live := [(2, ⟨[0, 5, 6, 17], [], [0, 5, 6], []⟩)] }
theorem goodO34 : Callees Try.prog OC34.fns [] OC34.nums := ((Callees.nil Try.prog).cons okO50 (natF_nat _)).cons okO48 (natF_nat _)
theorem hIO34 : CtxNat OC34 := goodO34.ctxI rfl rfl rfl fun gf ty h => by
  have hi : OC34.iters = [(61, (64, 78))] := rfl
  rw [hi, look_cons] at h
  split at h
  · rename_i e
    subst e
    cases h
    exact it61
  · cases h
noncomputable def OF34 : FnSem := natF (runS OC34 Try.f34.results.toList (bodyOf Try.f34))
theorem okO34 : FnOk Try.prog 34 OF34 := runS_ok (C := OC34) (goodO34.env rfl) hIO34 (by kernel_rfl) Try.func34 (c := bodyOf Try.f34) (by kernel_rfl) (by kernel_rfl) (Nat.le_of_eq Try.ntmps34.symm)
noncomputable def OC15 : Ctx := { P := Try.prog, own := [], fns := [(34, OF34), (12, OF12)], nt := 37, nums := [], live := [(5, ⟨[0, 1, 2, 10, 19, 20], [], [10], []⟩)] }
theorem goodO15 : Callees Try.prog OC15.fns [] OC15.nums := ((Callees.nil Try.prog).cons okO12 (natF_nat _)).cons okO34 (natF_nat _)
noncomputable def OF15 : FnSem := natF (runS OC15 Try.f15.results.toList (bodyOf Try.f15))
theorem okO15 : FnOk Try.prog 15 OF15 := own_ok (C := OC15) goodO15 rfl rfl rfl (by kernel_rfl) Try.func15 (c := bodyOf Try.f15) (by kernel_rfl) (by kernel_rfl) (Nat.le_of_eq Try.ntmps15.symm)
noncomputable def OC11 : Ctx := { P := Try.prog, own := [], fns := [(21, OF21), (15, OF15), (16, OF16), (30, OF30)], nt := 60, nums := [], live := [] }
theorem goodO11 : Callees Try.prog OC11.fns [] OC11.nums := ((((Callees.nil Try.prog).cons okO30 (natF_nat _)).cons okO16 (natF_nat _)).cons okO15 (natF_nat _)).cons okO21 (natF_nat _)
abbrev F11 : FnSem := trueF
theorem F11_num : FnNum F11 := trueF_num
theorem ok11 : FnOk Try.prog 11 F11 := closed_ok (C := OC11) goodO11 rfl rfl rfl (by kernel_rfl) Try.func11 (c := bodyOf Try.f11) (by kernel_rfl) (by kernel_rfl) (Nat.le_of_eq Try.ntmps11.symm) (by kernel_rfl)
/-! 7: L09_MemNil -/
noncomputable def CC7 : Ctx := { P := Try.prog, own := [], fns := [(11, F11), (24, specF enc24 (sem24 f24)), (22, specF enc22 (sem22 f22)), (29, specF enc29 (sem29 f29)), (20, specF enc20 (sem20 f20)), (10, specF enc10 (sem10 f10)), (28, specF enc28 (sem28 f28)), (21, specF enc21 (sem21 f21)), (17, specF enc17 (sem17 f17)), (16, specF enc16 (sem16 f16)), (12, specF enc12 (sem12 f12)), (27, specF enc27 (sem27 f27)), (15, specF enc15 (sem15 f15))], nt := 103, nums := [11], live := [] }
theorem good7 : Callees Try.prog CC7.fns [] CC7.nums := (((((((((((((Callees.nil Try.prog).cons ok15 (specF_nat _ _)).cons ok27 (specF_nat _ _)).cons ok12 (specF_nat _ _)).cons ok16 (specF_nat _ _)).cons ok17 (specF_nat _ _)).cons ok21 (specF_nat _ _)).cons ok28 (specF_nat _ _)).cons ok10 (specF_nat _ _)).cons ok20 (specF_nat _ _)).cons ok29 (specF_nat _ _)).cons ok22 (specF_nat _ _)).cons ok24 (specF_nat _ _)).cons_num ok11 F11_num
theorem hN7 : CtxNat CC7 := good7.ctx rfl rfl rfl
def enc7 (r : Bool) : List TV := [.c (Cell.bool (r))]
def dec7 : AV → Option (Bool)
  | .c (Cell.bool q0) => some (q0)
  | _ => none
theorem de7 (v : AV) (r : Bool) (h : dec7 v = some r) : v = oneOf (enc7 r) := by
  unfold dec7 at h
  split at h
  · cases h; rfl
  · cases h
abbrev Ty7 := Int → Int → Int → Heap → Option (Bool × Heap)
def sem7 (f : Ty7) : List TV → Heap → Option (Bool × Heap)
  | [.c (Cell.int .i64 t), .c (Cell.int .u64 a), .c (Cell.int .i64 w)], H => f t a w H
  | _, _ => none
noncomputable def f7 : Ty7 := hide fun t a w H => fnA CC7 Try.f7.results.toList (bodyOf Try.f7) _ [.c (Cell.int .i64 t), .c (Cell.int .u64 a), .c (Cell.int .i64 w)] H (decF dec7)
theorem f7_eq (t : Int) (a : Int) (w : Int) (H : Heap) : f7 t a w H = fnA CC7 Try.f7.results.toList (bodyOf Try.f7) _ [.c (Cell.int .i64 t), .c (Cell.int .u64 a), .c (Cell.int .i64 w)] H (decF dec7) := by unfold f7; rw [hide_eq]
theorem f7_run (t : Int) (a : Int) (w : Int) (H : Heap) : f7 t a w H = fnL CC7 (lpD CC7) Try.f7.results.toList (bodyOf Try.f7) [.c (Cell.int .i64 t), .c (Cell.int .u64 a), .c (Cell.int .i64 w)] H (decF dec7) := (f7_eq ..).trans (fnA_lpD hN7 ..)
theorem q7 : ∀ (t a w : Int) (H : Heap), f7 t a w H = (f15 none t a w H).bind fun v11 => (f27 none a v11.snd).bind fun v10 => bif !v11.fst.snd then bif !v10.fst.snd then (f12 none t a w true v10.snd).bind fun v9 => bif !v9.fst then (f16 none t a w a v9.snd).bind fun v8 => bif !v8.fst then (f17 none t a w a v8.snd).bind fun v7 => bif !v7.fst then (f21 none t v7.snd).bind fun v6 => bif !v6.fst then (f28 none t v6.snd).bind fun v5 => bif v5.fst == 0 then (f10 none t w v5.snd).bind fun v4 => bif !v4.fst then (f20 none t v4.snd).bind fun v3 => bif v3.fst == 0 then (f29 none v3.snd).bind fun v2 => bif slen v2.fst == 0 then (f22 none none v2.snd).bind fun v1 => bif !v1.fst then (f24 none v1.snd).bind fun v0 => bif v0.fst.isNone then some (true, v0.snd) else some (false, v0.snd) else some (false, v1.snd) else some (false, v2.snd) else some (false, v3.snd) else some (false, v4.snd) else some (false, v5.snd) else some (false, v6.snd) else some (false, v7.snd) else some (false, v8.snd) else some (false, v9.snd) else some (false, v10.snd) else some (false, v10.snd) := by intros; exact (f7_run ..).trans (by kernel_rfl)
theorem ok7 : FnOk Try.prog 7 (specF enc7 (sem7 f7)) := by
  refine spec_ok (C := CC7) good7 rfl rfl rfl (by kernel_rfl) Try.func7 (c := bodyOf Try.f7) (by kernel_rfl) (by kernel_rfl) (Nat.le_of_eq Try.ntmps7.symm) dec7 enc7 de7 _ ?_
  intro args H q h
  unfold sem7 at h
  split at h
  · rw [← f7_eq]; exact h
  · cases h
