/- Layer 3: its functions, in direct style. -/
import Derived.Test.YtmjmhipfkbedaaaEl3b
namespace Go.Proofs.Ytmjmhipfkbedaaa
open Go Go.Proofs.Ytmjmhipfkbedaaa.Ab
set_option linter.unusedVariables false
set_option linter.unusedSimpArgs false
set_option maxRecDepth 100000
noncomputable section
/-! 64: elf_reader_fail -/
noncomputable def CC64 : Ctx := { P := Try.prog, own := [], fns := [], nt := 5, nums := [], live := [] }
theorem good64 : Callees Try.prog CC64.fns [] CC64.nums := Callees.nil Try.prog
theorem hN64 : CtxNat CC64 := good64.ctx rfl rfl rfl
def enc64 (r : Unit) : List TV := []
def dec64 : AV → Option (Unit)
  | .tup [] => some ()
  | _ => none
theorem de64 (v : AV) (r : Unit) (h : dec64 v = some r) : v = oneOf (enc64 r) := by
  unfold dec64 at h
  split at h
  · cases h; rfl
  · cases h
abbrev Ty64 := (Option (Nat × Nat)) → Heap → Option (Unit × Heap)
def sem64 (f : Ty64) : List TV → Heap → Option (Unit × Heap)
  | [.c (Cell.ptr r)], H => f r H
  | _, _ => none
noncomputable def f64 : Ty64 := hide fun r H => fnA CC64 Try.f64.results.toList (bodyOf Try.f64) _ [.c (Cell.ptr r)] H (decF dec64)
theorem f64_eq (r : (Option (Nat × Nat))) (H : Heap) : f64 r H = fnA CC64 Try.f64.results.toList (bodyOf Try.f64) _ [.c (Cell.ptr r)] H (decF dec64) := by unfold f64; rw [hide_eq]
theorem f64_run (r : (Option (Nat × Nat))) (H : Heap) : f64 r H = fnL CC64 (lpD CC64) Try.f64.results.toList (bodyOf Try.f64) [.c (Cell.ptr r)] H (decF dec64) := (f64_eq ..).trans (fnA_lpD hN64 ..)
theorem q64 : ∀ (r : Option (Nat × Nat)) (H : Heap), f64 r H = r.bind fun v1 => (H.put v1.fst (v1.snd + 6) [Cell.bool false]).bind fun v0 => some ((), v0) := by intros; exact (f64_run ..).trans (by kernel_rfl)
theorem ok64 : FnOk Try.prog 64 (specF enc64 (sem64 f64)) := by
  refine spec_ok (C := CC64) good64 rfl rfl rfl (by kernel_rfl) Try.func64 (c := bodyOf Try.f64) (by kernel_rfl) (by kernel_rfl) (Nat.le_of_eq Try.ntmps64.symm) dec64 enc64 de64 _ ?_
  intro args H q h
  unfold sem64 at h
  split at h
  · rw [← f64_eq]; exact h
  · cases h
/-! 63: elf_reader_cut -/
noncomputable def CC63 : Ctx := { P := Try.prog, own := [], fns := [(80, specF enc80 (sem80 f80)), (64, specF enc64 (sem64 f64))], nt := 34, nums := [], live := [] }
theorem good63 : Callees Try.prog CC63.fns [] CC63.nums := ((Callees.nil Try.prog).cons ok64 (specF_nat _ _)).cons ok80 (specF_nat _ _)
theorem hN63 : CtxNat CC63 := good63.ctx rfl rfl rfl
def enc63 (r : (Option Sl)) : List TV := [.c (Cell.slice (r))]
def dec63 : AV → Option ((Option Sl))
  | .c (Cell.slice q0) => some (q0)
  | _ => none
theorem de63 (v : AV) (r : (Option Sl)) (h : dec63 v = some r) : v = oneOf (enc63 r) := by
  unfold dec63 at h
  split at h
  · cases h; rfl
  · cases h
abbrev Ty63 := (Option (Nat × Nat)) → Int → Int → Heap → Option ((Option Sl) × Heap)
def sem63 (f : Ty63) : List TV → Heap → Option ((Option Sl) × Heap)
  | [.c (Cell.ptr r), .c (Cell.int .u64 x1), .c (Cell.int .u64 n)], H => f r x1 n H
  | _, _ => none
noncomputable def f63 : Ty63 := hide fun r x1 n H => fnA CC63 Try.f63.results.toList (bodyOf Try.f63) _ [.c (Cell.ptr r), .c (Cell.int .u64 x1), .c (Cell.int .u64 n)] H (decF dec63)
theorem f63_eq (r : (Option (Nat × Nat))) (x1 : Int) (n : Int) (H : Heap) : f63 r x1 n H = fnA CC63 Try.f63.results.toList (bodyOf Try.f63) _ [.c (Cell.ptr r), .c (Cell.int .u64 x1), .c (Cell.int .u64 n)] H (decF dec63) := by unfold f63; rw [hide_eq]
theorem f63_run (r : (Option (Nat × Nat))) (x1 : Int) (n : Int) (H : Heap) : f63 r x1 n H = fnL CC63 (lpD CC63) Try.f63.results.toList (bodyOf Try.f63) [.c (Cell.ptr r), .c (Cell.int .u64 x1), .c (Cell.int .u64 n)] H (decF dec63) := (f63_eq ..).trans (fnA_lpD hN63 ..)
theorem q63 : ∀ (r : Option (Nat × Nat)) (x1 n : Int) (H : Heap), f63 r x1 n H = bif decide (x1 > 1048576) then (f64 r H).bind fun v0 => some (none, v0.snd) else bif decide (n > 1048576) then (f64 r H).bind fun v1 => some (none, v1.snd) else r.bind fun v6 => (H.get v6.fst (v6.snd + 0)).bind fun v5 => v5.toPtr.bind fun v4 => (f80 v4 (IntKind.i64.wrap x1) (IntKind.i64.wrap n) H).bind fun v3 => bif v3.fst.snd != 0 then (f64 r v3.snd).bind fun v2 => some (v3.fst.fst, v2.snd) else some (v3.fst.fst, v3.snd) := by intros; exact (f63_run ..).trans (by kernel_rfl)
theorem ok63 : FnOk Try.prog 63 (specF enc63 (sem63 f63)) := by
  refine spec_ok (C := CC63) good63 rfl rfl rfl (by kernel_rfl) Try.func63 (c := bodyOf Try.f63) (by kernel_rfl) (by kernel_rfl) (Nat.le_of_eq Try.ntmps63.symm) dec63 enc63 de63 _ ?_
  intro args H q h
  unfold sem63 at h
  split at h
  · rw [← f63_eq]; exact h
  · cases h
/-! 62: bytes_Equal -/
noncomputable def CC62 : Ctx := { P := Try.prog, own := [], fns := [], nt := 10, nums := [], live := [] }
theorem good62 : Callees Try.prog CC62.fns [] CC62.nums := Callees.nil Try.prog
theorem hN62 : CtxNat CC62 := good62.ctx rfl rfl rfl
def enc62 (r : Bool) : List TV := [.c (Cell.bool (r))]
def dec62 : AV → Option (Bool)
  | .c (Cell.bool q0) => some (q0)
  | _ => none
theorem de62 (v : AV) (r : Bool) (h : dec62 v = some r) : v = oneOf (enc62 r) := by
  unfold dec62 at h
  split at h
  · cases h; rfl
  · cases h
abbrev Ty62 := (Option Sl) → (Option Sl) → Heap → Option (Bool × Heap)
def sem62 (f : Ty62) : List TV → Heap → Option (Bool × Heap)
  | [.c (Cell.slice a), .c (Cell.slice b)], H => f a b H
  | _, _ => none
noncomputable def f62 : Ty62 := hide fun a b H => fnA CC62 Try.f62.results.toList (bodyOf Try.f62) _ [.c (Cell.slice a), .c (Cell.slice b)] H (decF dec62)
theorem f62_eq (a : (Option Sl)) (b : (Option Sl)) (H : Heap) : f62 a b H = fnA CC62 Try.f62.results.toList (bodyOf Try.f62) _ [.c (Cell.slice a), .c (Cell.slice b)] H (decF dec62) := by unfold f62; rw [hide_eq]
theorem f62_run (a : (Option Sl)) (b : (Option Sl)) (H : Heap) : f62 a b H = fnL CC62 (lpD CC62) Try.f62.results.toList (bodyOf Try.f62) [.c (Cell.slice a), .c (Cell.slice b)] H (decF dec62) := (f62_eq ..).trans (fnA_lpD hN62 ..)
theorem q62 : ∀ (a b : Option Sl) (H : Heap), f62 a b H = (H.str a).bind fun v1 => (H.str b).bind fun v0 => some (strEq v1 v0, H) := by intros; exact (f62_run ..).trans (by kernel_rfl)
theorem ok62 : FnOk Try.prog 62 (specF enc62 (sem62 f62)) := by
  refine spec_ok (C := CC62) good62 rfl rfl rfl (by kernel_rfl) Try.func62 (c := bodyOf Try.f62) (by kernel_rfl) (by kernel_rfl) (Nat.le_of_eq Try.ntmps62.symm) dec62 enc62 de62 _ ?_
  intro args H q h
  unfold sem62 at h
  split at h
  · rw [← f62_eq]; exact h
  · cases h
/-! 66: elf_reader_num -/
noncomputable def CC66 : Ctx := { P := Try.prog, own := [], fns := [(81, specF enc81 (sem81 f81)), (64, specF enc64 (sem64 f64))], nt := 29, nums := [], live := [] }
theorem good66 : Callees Try.prog CC66.fns [] CC66.nums := ((Callees.nil Try.prog).cons ok64 (specF_nat _ _)).cons ok81 (specF_nat _ _)
theorem hN66 : CtxNat CC66 := good66.ctx rfl rfl rfl
def enc66 (r : Int) : List TV := [.c (Cell.int .u64 (r))]
def dec66 : AV → Option (Int)
  | .c (Cell.int .u64 q0) => some (q0)
  | _ => none
theorem de66 (v : AV) (r : Int) (h : dec66 v = some r) : v = oneOf (enc66 r) := by
  unfold dec66 at h
  split at h
  · cases h; rfl
  · cases h
abbrev Ty66 := (Option (Nat × Nat)) → Int → Int → Heap → Option (Int × Heap)
def sem66 (f : Ty66) : List TV → Heap → Option (Int × Heap)
  | [.c (Cell.ptr r), .c (Cell.int .u64 x1), .c (Cell.int .i64 w)], H => f r x1 w H
  | _, _ => none
noncomputable def f66 : Ty66 := hide fun r x1 w H => fnA CC66 Try.f66.results.toList (bodyOf Try.f66) _ [.c (Cell.ptr r), .c (Cell.int .u64 x1), .c (Cell.int .i64 w)] H (decF dec66)
theorem f66_eq (r : (Option (Nat × Nat))) (x1 : Int) (w : Int) (H : Heap) : f66 r x1 w H = fnA CC66 Try.f66.results.toList (bodyOf Try.f66) _ [.c (Cell.ptr r), .c (Cell.int .u64 x1), .c (Cell.int .i64 w)] H (decF dec66) := by unfold f66; rw [hide_eq]
theorem f66_run (r : (Option (Nat × Nat))) (x1 : Int) (w : Int) (H : Heap) : f66 r x1 w H = fnL CC66 (lpD CC66) Try.f66.results.toList (bodyOf Try.f66) [.c (Cell.ptr r), .c (Cell.int .u64 x1), .c (Cell.int .i64 w)] H (decF dec66) := (f66_eq ..).trans (fnA_lpD hN66 ..)
theorem q66 : ∀ (r : Option (Nat × Nat)) (x1 w : Int) (H : Heap), f66 r x1 w H = bif decide (x1 > 1048576) then (f64 r H).bind fun v0 => some (0, v0.snd) else r.bind fun v5 => (H.get v5.fst (v5.snd + 0)).bind fun v4 => v4.toPtr.bind fun v3 => (f81 v3 (IntKind.i64.wrap x1) w H).bind fun v2 => bif v2.fst.snd != 0 then (f64 r v2.snd).bind fun v1 => some (v2.fst.fst, v1.snd) else some (v2.fst.fst, v2.snd) := by intros; exact (f66_run ..).trans (by kernel_rfl)
theorem ok66 : FnOk Try.prog 66 (specF enc66 (sem66 f66)) := by
  refine spec_ok (C := CC66) good66 rfl rfl rfl (by kernel_rfl) Try.func66 (c := bodyOf Try.f66) (by kernel_rfl) (by kernel_rfl) (Nat.le_of_eq Try.ntmps66.symm) dec66 enc66 de66 _ ?_
  intro args H q h
  unfold sem66 at h
  split at h
  · rw [← f66_eq]; exact h
  · cases h
/-! 65: elf_reader_is -/
noncomputable def CC65 : Ctx := { P := Try.prog, own := [], fns := [(64, specF enc64 (sem64 f64)), (66, specF enc66 (sem66 f66))], nt := 16, nums := [], live := [] }
theorem good65 : Callees Try.prog CC65.fns [] CC65.nums := ((Callees.nil Try.prog).cons ok66 (specF_nat _ _)).cons ok64 (specF_nat _ _)
theorem hN65 : CtxNat CC65 := good65.ctx rfl rfl rfl
def enc65 (r : Unit) : List TV := []
def dec65 : AV → Option (Unit)
  | .tup [] => some ()
  | _ => none
theorem de65 (v : AV) (r : Unit) (h : dec65 v = some r) : v = oneOf (enc65 r) := by
  unfold dec65 at h
  split at h
  · cases h; rfl
  · cases h
abbrev Ty65 := (Option (Nat × Nat)) → Int → Int → Int → Heap → Option (Unit × Heap)
def sem65 (f : Ty65) : List TV → Heap → Option (Unit × Heap)
  | [.c (Cell.ptr r), .c (Cell.int .u64 x1), .c (Cell.int .i64 w), .c (Cell.int .u64 v)], H => f r x1 w v H
  | _, _ => none
noncomputable def f65 : Ty65 := hide fun r x1 w v H => fnA CC65 Try.f65.results.toList (bodyOf Try.f65) _ [.c (Cell.ptr r), .c (Cell.int .u64 x1), .c (Cell.int .i64 w), .c (Cell.int .u64 v)] H (decF dec65)
theorem f65_eq (r : (Option (Nat × Nat))) (x1 : Int) (w : Int) (v : Int) (H : Heap) : f65 r x1 w v H = fnA CC65 Try.f65.results.toList (bodyOf Try.f65) _ [.c (Cell.ptr r), .c (Cell.int .u64 x1), .c (Cell.int .i64 w), .c (Cell.int .u64 v)] H (decF dec65) := by unfold f65; rw [hide_eq]
theorem f65_run (r : (Option (Nat × Nat))) (x1 : Int) (w : Int) (v : Int) (H : Heap) : f65 r x1 w v H = fnL CC65 (lpD CC65) Try.f65.results.toList (bodyOf Try.f65) [.c (Cell.ptr r), .c (Cell.int .u64 x1), .c (Cell.int .i64 w), .c (Cell.int .u64 v)] H (decF dec65) := (f65_eq ..).trans (fnA_lpD hN65 ..)
theorem q65 : ∀ (r : Option (Nat × Nat)) (x1 w v : Int) (H : Heap), f65 r x1 w v H = (f66 r x1 w H).bind fun v1 => bif v1.fst != v then (f64 r v1.snd).bind fun v0 => some ((), v0.snd) else some ((), v1.snd) := by intros; exact (f65_run ..).trans (by kernel_rfl)
theorem ok65 : FnOk Try.prog 65 (specF enc65 (sem65 f65)) := by
  refine spec_ok (C := CC65) good65 rfl rfl rfl (by kernel_rfl) Try.func65 (c := bodyOf Try.f65) (by kernel_rfl) (by kernel_rfl) (Nat.le_of_eq Try.ntmps65.symm) dec65 enc65 de65 _ ?_
  intro args H q h
  unfold sem65 at h
  split at h
  · rw [← f65_eq]; exact h
  · cases h
/-! 39: elf_reader_head -/
noncomputable def CC39 : Ctx := { P := Try.prog, own := [], fns := [(66, specF enc66 (sem66 f66)), (65, specF enc65 (sem65 f65)), (64, specF enc64 (sem64 f64)), (62, specF enc62 (sem62 f62)), (63, specF enc63 (sem63 f63))], nt := 32, nums := [], live := [] }
theorem good39 : Callees Try.prog CC39.fns [] CC39.nums := (((((Callees.nil Try.prog).cons ok63 (specF_nat _ _)).cons ok62 (specF_nat _ _)).cons ok64 (specF_nat _ _)).cons ok65 (specF_nat _ _)).cons ok66 (specF_nat _ _)
theorem hN39 : CtxNat CC39 := good39.ctx rfl rfl rfl
def enc39 (r : Unit) : List TV := []
def dec39 : AV → Option (Unit)
  | .tup [] => some ()
  | _ => none
theorem de39 (v : AV) (r : Unit) (h : dec39 v = some r) : v = oneOf (enc39 r) := by
  unfold dec39 at h
  split at h
  · cases h; rfl
  · cases h
abbrev Ty39 := (Option (Nat × Nat)) → Heap → Option (Unit × Heap)
def sem39 (f : Ty39) : List TV → Heap → Option (Unit × Heap)
  | [.c (Cell.ptr r)], H => f r H
  | _, _ => none
noncomputable def f39 : Ty39 := hide fun r H => fnA CC39 Try.f39.results.toList (bodyOf Try.f39) _ [.c (Cell.ptr r)] H (decF dec39)
theorem f39_eq (r : (Option (Nat × Nat))) (H : Heap) : f39 r H = fnA CC39 Try.f39.results.toList (bodyOf Try.f39) _ [.c (Cell.ptr r)] H (decF dec39) := by unfold f39; rw [hide_eq]
theorem f39_run (r : (Option (Nat × Nat))) (H : Heap) : f39 r H = fnL CC39 (lpD CC39) Try.f39.results.toList (bodyOf Try.f39) [.c (Cell.ptr r)] H (decF dec39) := (f39_eq ..).trans (fnA_lpD hN39 ..)
theorem q39 : ∀ (r : Option (Nat × Nat)) (H : Heap), f39 r H = (f63 r 0 16 H).bind fun v24 => (f62 v24.fst (some { id := List.length v24.snd, off := 0, len := 16, cap := 16, esz := 1 }) (v24.snd ++ [Blk.row [Cell.int IntKind.u8 127, Cell.int IntKind.u8 69, Cell.int IntKind.u8 76, Cell.int IntKind.u8 70, Cell.int IntKind.u8 2, Cell.int IntKind.u8 1, Cell.int IntKind.u8 1, Cell.int IntKind.u8 0, Cell.int IntKind.u8 0, Cell.int IntKind.u8 0, Cell.int IntKind.u8 0, Cell.int IntKind.u8 0, Cell.int IntKind.u8 0, Cell.int IntKind.u8 0, Cell.int IntKind.u8 0, Cell.int IntKind.u8 0] false])).bind fun v23 => bif !v23.fst then (f64 r v23.snd).bind fun v11 => (f65 r 16 2 2 v11.snd).bind fun v10 => (f66 r 18 2 v10.snd).bind fun v9 => r.bind fun v8 => (v9.snd.put v8.fst (v8.snd + 1 + 0) [Cell.int IntKind.i64 (IntKind.i64.wrap v9.fst)]).bind fun v7 => (f65 r 20 4 1 v7).bind fun v6 => (f66 r 24 8 v6.snd).bind fun v5 => r.bind fun v4 => (v5.snd.put v4.fst (v4.snd + 1 + 1) [Cell.int IntKind.u64 v5.fst]).bind fun v3 => (f65 r 52 2 64 v3).bind fun v2 => (f65 r 54 2 56 v2.snd).bind fun v1 => (f65 r 58 2 64 v1.snd).bind fun v0 => some ((), v0.snd) else (f65 r 16 2 2 v23.snd).bind fun v22 => (f66 r 18 2 v22.snd).bind fun v21 => r.bind fun v20 => (v21.snd.put v20.fst (v20.snd + 1 + 0) [Cell.int IntKind.i64 (IntKind.i64.wrap v21.fst)]).bind fun v19 => (f65 r 20 4 1 v19).bind fun v18 => (f66 r 24 8 v18.snd).bind fun v17 => r.bind fun v16 => (v17.snd.put v16.fst (v16.snd + 1 + 1) [Cell.int IntKind.u64 v17.fst]).bind fun v15 => (f65 r 52 2 64 v15).bind fun v14 => (f65 r 54 2 56 v14.snd).bind fun v13 => (f65 r 58 2 64 v13.snd).bind fun v12 => some ((), v12.snd) := by intros; exact (f39_run ..).trans (by kernel_rfl)
theorem ok39 : FnOk Try.prog 39 (specF enc39 (sem39 f39)) := by
  refine spec_ok (C := CC39) good39 rfl rfl rfl (by kernel_rfl) Try.func39 (c := bodyOf Try.f39) (by kernel_rfl) (by kernel_rfl) (Nat.le_of_eq Try.ntmps39.symm) dec39 enc39 de39 _ ?_
  intro args H q h
  unfold sem39 at h
  split at h
  · rw [← f39_eq]; exact h
  · cases h
/-! 67: elf_reader_table -/
noncomputable def CC67 : Ctx := { P := Try.prog, own := [], fns := [(63, specF enc63 (sem63 f63)), (64, specF enc64 (sem64 f64))], nt := 31, nums := [], live := [] }
theorem good67 : Callees Try.prog CC67.fns [] CC67.nums := ((Callees.nil Try.prog).cons ok64 (specF_nat _ _)).cons ok63 (specF_nat _ _)
theorem hN67 : CtxNat CC67 := good67.ctx rfl rfl rfl
def enc67 (r : Int × Int) : List TV := [.c (Cell.int .u64 (r.1)), .c (Cell.int .i64 (r.2))]
def dec67 : AV → Option (Int × Int)
  | .tup [.c (Cell.int .u64 q0), .c (Cell.int .i64 q1)] => some (q0, q1)
  | _ => none
theorem de67 (v : AV) (r : Int × Int) (h : dec67 v = some r) : v = oneOf (enc67 r) := by
  unfold dec67 at h
  split at h
  · cases h; rfl
  · cases h
abbrev Ty67 := (Option (Nat × Nat)) → Int → Int → Int → Int → Heap → Option ((Int × Int) × Heap)
def sem67 (f : Ty67) : List TV → Heap → Option ((Int × Int) × Heap)
  | [.c (Cell.ptr r), .c (Cell.int .u64 x1), .c (Cell.int .u64 many), .c (Cell.int .u64 row), .c (Cell.int .u64 x4)], H => f r x1 many row x4 H
  | _, _ => none
noncomputable def f67 : Ty67 := hide fun r x1 many row x4 H => fnA CC67 Try.f67.results.toList (bodyOf Try.f67) _ [.c (Cell.ptr r), .c (Cell.int .u64 x1), .c (Cell.int .u64 many), .c (Cell.int .u64 row), .c (Cell.int .u64 x4)] H (decF dec67)
theorem f67_eq (r : (Option (Nat × Nat))) (x1 : Int) (many : Int) (row : Int) (x4 : Int) (H : Heap) : f67 r x1 many row x4 H = fnA CC67 Try.f67.results.toList (bodyOf Try.f67) _ [.c (Cell.ptr r), .c (Cell.int .u64 x1), .c (Cell.int .u64 many), .c (Cell.int .u64 row), .c (Cell.int .u64 x4)] H (decF dec67) := by unfold f67; rw [hide_eq]
theorem f67_run (r : (Option (Nat × Nat))) (x1 : Int) (many : Int) (row : Int) (x4 : Int) (H : Heap) : f67 r x1 many row x4 H = fnL CC67 (lpD CC67) Try.f67.results.toList (bodyOf Try.f67) [.c (Cell.ptr r), .c (Cell.int .u64 x1), .c (Cell.int .u64 many), .c (Cell.int .u64 row), .c (Cell.int .u64 x4)] H (decF dec67) := (f67_eq ..).trans (fnA_lpD hN67 ..)
theorem q67 : ∀ (r : Option (Nat × Nat)) (x1 many row x4 : Int) (H : Heap), f67 r x1 many row x4 H = bif decide (many > x4) then (f64 r H).bind fun v0 => some ((0, 0), v0.snd) else (f63 r x1 (IntKind.u64.wrap (many * row)) H).bind fun v4 => r.bind fun v3 => (v4.snd.get v3.fst (v3.snd + 6)).bind fun v2 => v2.toBool.bind fun v1 => bif !v1 then some ((0, 0), v4.snd) else some ((x1, IntKind.i64.wrap many), v4.snd) := by intros; exact (f67_run ..).trans (by kernel_rfl)
theorem ok67 : FnOk Try.prog 67 (specF enc67 (sem67 f67)) := by
  refine spec_ok (C := CC67) good67 rfl rfl rfl (by kernel_rfl) Try.func67 (c := bodyOf Try.f67) (by kernel_rfl) (by kernel_rfl) (Nat.le_of_eq Try.ntmps67.symm) dec67 enc67 de67 _ ?_
  intro args H q h
  unfold sem67 at h
  split at h
  · rw [← f67_eq]; exact h
  · cases h
/-! 40: elf_reader_segs -/
noncomputable def CC40 : Ctx := { P := Try.prog, own := [6], fns := [(63, specF enc63 (sem63 f63)), (67, specF enc67 (sem67 f67)), (66, specF enc66 (sem66 f66))], nt := 75, nums := [], live := [(2, ⟨[0, 2, 16, 17], [], [], []⟩)] }
theorem good40 : Callees Try.prog CC40.fns [] CC40.nums := (((Callees.nil Try.prog).cons ok66 (specF_nat _ _)).cons ok67 (specF_nat _ _)).cons ok63 (specF_nat _ _)
theorem hN40 : CtxNat CC40 := good40.ctx rfl rfl rfl
def enc40 (r : Unit) : List TV := []
def dec40 : AV → Option (Unit)
  | .tup [] => some ()
  | _ => none
theorem de40 (v : AV) (r : Unit) (h : dec40 v = some r) : v = oneOf (enc40 r) := by
  unfold dec40 at h
  split at h
  · cases h; rfl
  · cases h
abbrev Ty40 := (Option (Nat × Nat)) → Heap → Option (Unit × Heap)
def sem40 (f : Ty40) : List TV → Heap → Option (Unit × Heap)
  | [.c (Cell.ptr r)], H => f r H
  | _, _ => none
noncomputable def f40 : Ty40 := hide fun r H => fnA CC40 Try.f40.results.toList (bodyOf Try.f40) _ [.c (Cell.ptr r)] H (decF dec40)
theorem f40_eq (r : (Option (Nat × Nat))) (H : Heap) : f40 r H = fnA CC40 Try.f40.results.toList (bodyOf Try.f40) _ [.c (Cell.ptr r)] H (decF dec40) := by unfold f40; rw [hide_eq]
theorem f40_run (r : (Option (Nat × Nat))) (H : Heap) : f40 r H = fnL CC40 (lpD CC40) Try.f40.results.toList (bodyOf Try.f40) [.c (Cell.ptr r)] H (decF dec40) := (f40_eq ..).trans (fnA_lpD hN40 ..)
def S40_2 (t0 : (Option (Nat × Nat))) (t2 : Int) (t16 : Int) (t17 : Int) (H : Heap) : St := ⟨[(0, .c (Cell.ptr t0)), (2, .c (Cell.int .u64 t2)), (16, .c (Cell.int .i64 t16)), (17, .c (Cell.int .i64 t17))], [], H⟩
noncomputable def D40_2 (n : Nat) (t0 : (Option (Nat × Nat))) (t2 : Int) (t16 : Int) (t17 : Int) (H : Heap) : Option (AExit × St) := loopN (exec CC40 (Code.l (Code.l (Code.r (Code.r (bodyOf Try.f40)))))) (keepOf CC40.live (Code.l (Code.l (Code.r (Code.r (bodyOf Try.f40)))))) n (S40_2 t0 t2 t16 t17 H) retD
noncomputable def LL40_2 (t0 : (Option (Nat × Nat))) (t2 : Int) (t16 : Int) (t17 : Int) (H : Heap) : Option (AExit × St) := loopsD CC40 (Code.l (Code.l (Code.r (Code.r (bodyOf Try.f40))))) (S40_2 t0 t2 t16 t17 H)
theorem LL40_2_of (m : Nat) (hm : m < 18446744073709551616) (t0 : (Option (Nat × Nat))) (t2 : Int) (t16 : Int) (t17 : Int) (H : Heap) : ∃ n, LL40_2 t0 t2 t16 t17 H = D40_2 (n + m + 1) t0 t2 t16 t17 H := loopsD_of _ _ _ m hm
def X40_2 (H : Heap) : St := { env := [], loc := [], heap := H }
noncomputable def J40_2 : AExit × St → Option (Unit × Heap) := fun p => blockK 0 (retA CC40 [] (decF dec40)) p.fst p.snd
theorem D40_2_s : ∀ (n : Nat) (t0 : Option (Nat × Nat)) (t2 t16 t17 : Int) (H : Heap), D40_2 (n + 1) t0 t2 t16 t17 H = bif decide (t17 < t16) then (f66 t0 (IntKind.u64.wrap (t2 + IntKind.u64.wrap (IntKind.i64.wrap (56 * t17)))) 4 H).bind fun v21 => (f66 t0 (IntKind.u64.wrap (IntKind.u64.wrap (t2 + IntKind.u64.wrap (IntKind.i64.wrap (56 * t17))) + 4)) 4 v21.snd).bind fun v20 => (f66 t0 (IntKind.u64.wrap (IntKind.u64.wrap (t2 + IntKind.u64.wrap (IntKind.i64.wrap (56 * t17))) + 16)) 8 v20.snd).bind fun v19 => (f66 t0 (IntKind.u64.wrap (IntKind.u64.wrap (t2 + IntKind.u64.wrap (IntKind.i64.wrap (56 * t17))) + 40)) 8 v19.snd).bind fun v18 => bif IntKind.i64.wrap v21.fst != 1 then bif IntKind.i64.wrap v21.fst != 1610612737 then D40_2 n t0 t2 t16 (IntKind.i64.wrap (t17 + 1)) v18.snd else (f66 t0 (IntKind.u64.wrap (IntKind.u64.wrap (t2 + IntKind.u64.wrap (IntKind.i64.wrap (56 * t17))) + 8)) 8 v18.snd).bind fun v8 => (f66 t0 (IntKind.u64.wrap (IntKind.u64.wrap (t2 + IntKind.u64.wrap (IntKind.i64.wrap (56 * t17))) + 32)) 8 v8.snd).bind fun v7 => (f63 t0 v8.fst v7.fst v7.snd).bind fun v6 => t0.bind fun v5 => (v6.snd.get v5.fst (v5.snd + 1 + 2)).bind fun v4 => v4.toSlice.bind fun v3 => ((v6.snd ++ [Blk.row [Cell.int IntKind.i64 (IntKind.i64.wrap v21.fst), Cell.int IntKind.i64 (IntKind.i64.wrap v20.fst), Cell.int IntKind.u64 v19.fst, Cell.int IntKind.u64 v18.fst, Cell.slice v6.fst] false]).append 5 56 v3 (some { id := List.length v6.snd, off := 0, len := 1, cap := 1, esz := 5 })).bind fun v2 => t0.bind fun v1 => (v2.snd.put v1.fst (v1.snd + 1 + 2) [Cell.slice v2.fst]).bind fun v0 => D40_2 n t0 t2 t16 (IntKind.i64.wrap (t17 + 1)) v0 else (f66 t0 (IntKind.u64.wrap (IntKind.u64.wrap (t2 + IntKind.u64.wrap (IntKind.i64.wrap (56 * t17))) + 8)) 8 v18.snd).bind fun v17 => (f66 t0 (IntKind.u64.wrap (IntKind.u64.wrap (t2 + IntKind.u64.wrap (IntKind.i64.wrap (56 * t17))) + 32)) 8 v17.snd).bind fun v16 => (f63 t0 v17.fst v16.fst v16.snd).bind fun v15 => t0.bind fun v14 => (v15.snd.get v14.fst (v14.snd + 1 + 2)).bind fun v13 => v13.toSlice.bind fun v12 => ((v15.snd ++ [Blk.row [Cell.int IntKind.i64 (IntKind.i64.wrap v21.fst), Cell.int IntKind.i64 (IntKind.i64.wrap v20.fst), Cell.int IntKind.u64 v19.fst, Cell.int IntKind.u64 v18.fst, Cell.slice v15.fst] false]).append 5 56 v12 (some { id := List.length v15.snd, off := 0, len := 1, cap := 1, esz := 5 })).bind fun v11 => t0.bind fun v10 => (v11.snd.put v10.fst (v10.snd + 1 + 2) [Cell.slice v11.fst]).bind fun v9 => D40_2 n t0 t2 t16 (IntKind.i64.wrap (t17 + 1)) v9 else some (AExit.exit 0, X40_2 H) := by intros; exact (loopN_stepD hN40 _ _ _ _).trans (by kernel_rfl)
theorem q40 : ∀ (r : Option (Nat × Nat)) (H : Heap), f40 r H = (f66 r 32 8 H).bind fun v24 => (f66 r 56 2 v24.snd).bind fun v23 => (f67 r v24.fst v23.fst 56 24 v23.snd).bind fun v22 => (LL40_2 r v22.fst.fst v22.fst.snd 0 v22.snd).bind J40_2 := by intros; exact (f40_run ..).trans (by kernel_rfl)
theorem J40_2_0 : ∀ (H : Heap), J40_2 (AExit.exit 0, X40_2 H) = some ((), H) := by intros; kernel_rfl
theorem ok40 : FnOk Try.prog 40 (specF enc40 (sem40 f40)) := by
  refine spec_ok (C := CC40) good40 rfl rfl rfl (by kernel_rfl) Try.func40 (c := bodyOf Try.f40) (by kernel_rfl) (by kernel_rfl) (Nat.le_of_eq Try.ntmps40.symm) dec40 enc40 de40 _ ?_
  intro args H q h
  unfold sem40 at h
  split at h
  · rw [← f40_eq]; exact h
  · cases h
/-! 41: elf_reader_headers -/
noncomputable def CC41 : Ctx := { P := Try.prog, own := [], fns := [(67, specF enc67 (sem67 f67)), (66, specF enc66 (sem66 f66))], nt := 51, nums := [], live := [(2, ⟨[0, 2, 15, 16], [], [], []⟩)] }
theorem good41 : Callees Try.prog CC41.fns [] CC41.nums := ((Callees.nil Try.prog).cons ok66 (specF_nat _ _)).cons ok67 (specF_nat _ _)
theorem hN41 : CtxNat CC41 := good41.ctx rfl rfl rfl
def enc41 (r : Unit) : List TV := []
def dec41 : AV → Option (Unit)
  | .tup [] => some ()
  | _ => none
theorem de41 (v : AV) (r : Unit) (h : dec41 v = some r) : v = oneOf (enc41 r) := by
  unfold dec41 at h
  split at h
  · cases h; rfl
  · cases h
abbrev Ty41 := (Option (Nat × Nat)) → Heap → Option (Unit × Heap)
def sem41 (f : Ty41) : List TV → Heap → Option (Unit × Heap)
  | [.c (Cell.ptr r)], H => f r H
  | _, _ => none
noncomputable def f41 : Ty41 := hide fun r H => fnA CC41 Try.f41.results.toList (bodyOf Try.f41) _ [.c (Cell.ptr r)] H (decF dec41)
theorem f41_eq (r : (Option (Nat × Nat))) (H : Heap) : f41 r H = fnA CC41 Try.f41.results.toList (bodyOf Try.f41) _ [.c (Cell.ptr r)] H (decF dec41) := by unfold f41; rw [hide_eq]
theorem f41_run (r : (Option (Nat × Nat))) (H : Heap) : f41 r H = fnL CC41 (lpD CC41) Try.f41.results.toList (bodyOf Try.f41) [.c (Cell.ptr r)] H (decF dec41) := (f41_eq ..).trans (fnA_lpD hN41 ..)
def S41_2 (t0 : (Option (Nat × Nat))) (t2 : Int) (t15 : Int) (t16 : Int) (H : Heap) : St := ⟨[(0, .c (Cell.ptr t0)), (2, .c (Cell.int .u64 t2)), (15, .c (Cell.int .i64 t15)), (16, .c (Cell.int .i64 t16))], [], H⟩
noncomputable def D41_2 (n : Nat) (t0 : (Option (Nat × Nat))) (t2 : Int) (t15 : Int) (t16 : Int) (H : Heap) : Option (AExit × St) := loopN (exec CC41 (Code.l (Code.l (Code.r (Code.r (bodyOf Try.f41)))))) (keepOf CC41.live (Code.l (Code.l (Code.r (Code.r (bodyOf Try.f41)))))) n (S41_2 t0 t2 t15 t16 H) retD
noncomputable def LL41_2 (t0 : (Option (Nat × Nat))) (t2 : Int) (t15 : Int) (t16 : Int) (H : Heap) : Option (AExit × St) := loopsD CC41 (Code.l (Code.l (Code.r (Code.r (bodyOf Try.f41))))) (S41_2 t0 t2 t15 t16 H)
theorem LL41_2_of (m : Nat) (hm : m < 18446744073709551616) (t0 : (Option (Nat × Nat))) (t2 : Int) (t15 : Int) (t16 : Int) (H : Heap) : ∃ n, LL41_2 t0 t2 t15 t16 H = D41_2 (n + m + 1) t0 t2 t15 t16 H := loopsD_of _ _ _ m hm
def X41_2 (H : Heap) : St := { env := [], loc := [], heap := H }
noncomputable def J41_2 : AExit × St → Option (Unit × Heap) := fun p => blockK 0 (retA CC41 [] (decF dec41)) p.fst p.snd
theorem D41_2_s : ∀ (n : Nat) (t0 : Option (Nat × Nat)) (t2 t15 t16 : Int) (H : Heap), D41_2 (n + 1) t0 t2 t15 t16 H = bif decide (t16 < t15) then t0.bind fun v9 => (H.get v9.fst (v9.snd + 7)).bind fun v8 => v8.toSlice.bind fun v7 => (f66 t0 (IntKind.u64.wrap (IntKind.u64.wrap (t2 + IntKind.u64.wrap (IntKind.i64.wrap (64 * t16))) + 4)) 4 H).bind fun v6 => bif same v9.fst H v6.snd then (f66 t0 (IntKind.u64.wrap (IntKind.u64.wrap (t2 + IntKind.u64.wrap (IntKind.i64.wrap (64 * t16))) + 40)) 4 v6.snd).bind fun v5 => bif same v9.fst v6.snd v5.snd then (f66 t0 (IntKind.u64.wrap (IntKind.u64.wrap (t2 + IntKind.u64.wrap (IntKind.i64.wrap (64 * t16))) + 24)) 8 v5.snd).bind fun v4 => bif same v9.fst v5.snd v4.snd then (f66 t0 (IntKind.u64.wrap (IntKind.u64.wrap (t2 + IntKind.u64.wrap (IntKind.i64.wrap (64 * t16))) + 32)) 8 v4.snd).bind fun v3 => bif same v9.fst v4.snd v3.snd then ((v3.snd ++ [Blk.row [Cell.int IntKind.u64 v6.fst, Cell.int IntKind.u64 v5.fst, Cell.int IntKind.u64 v4.fst, Cell.int IntKind.u64 v3.fst] false]).append 4 32 v7 (some { id := List.length v3.snd, off := 0, len := 1, cap := 1, esz := 4 })).bind fun v2 => t0.bind fun v1 => (v2.snd.put v1.fst (v1.snd + 7) [Cell.slice v2.fst]).bind fun v0 => D41_2 n t0 t2 t15 (IntKind.i64.wrap (t16 + 1)) v0 else none else none else none else none else some (AExit.exit 0, X41_2 H) := by intros; exact (loopN_stepD hN41 _ _ _ _).trans (by kernel_rfl)
theorem q41 : ∀ (r : Option (Nat × Nat)) (H : Heap), f41 r H = (f66 r 40 8 H).bind fun v12 => (f66 r 60 2 v12.snd).bind fun v11 => (f67 r v12.fst v11.fst 64 16 v11.snd).bind fun v10 => (LL41_2 r v10.fst.fst v10.fst.snd 0 v10.snd).bind J41_2 := by intros; exact (f41_run ..).trans (by kernel_rfl)
theorem J41_2_0 : ∀ (H : Heap), J41_2 (AExit.exit 0, X41_2 H) = some ((), H) := by intros; kernel_rfl
theorem ok41 : FnOk Try.prog 41 (specF enc41 (sem41 f41)) := by
  refine spec_ok (C := CC41) good41 rfl rfl rfl (by kernel_rfl) Try.func41 (c := bodyOf Try.f41) (by kernel_rfl) (by kernel_rfl) (Nat.le_of_eq Try.ntmps41.symm) dec41 enc41 de41 _ ?_
  intro args H q h
  unfold sem41 at h
  split at h
  · rw [← f41_eq]; exact h
  · cases h
/-! 68: elf_reader_only -/
noncomputable def CC68 : Ctx := { P := Try.prog, own := [4, 6, 9], fns := [(64, specF enc64 (sem64 f64))], nt := 34, nums := [], live := [(4, ⟨[0, 1, 4, 6, 7, 13, 14, 15], [4, 6], [0, 4, 6, 7], [4, 6]⟩)] }
theorem good68 : Callees Try.prog CC68.fns [] CC68.nums := (Callees.nil Try.prog).cons ok64 (specF_nat _ _)
theorem hN68 : CtxNat CC68 := good68.ctx rfl rfl rfl
def enc68 (r : Int × Int × Int × Int × Bool) : List TV := [.agg [Cell.int .u64 (r.1), Cell.int .u64 (r.2.1), Cell.int .u64 (r.2.2.1), Cell.int .u64 (r.2.2.2.1)], .c (Cell.bool (r.2.2.2.2))]
def dec68 : AV → Option (Int × Int × Int × Int × Bool)
  | .tup [.agg [Cell.int .u64 q0, Cell.int .u64 q1, Cell.int .u64 q2, Cell.int .u64 q3], .c (Cell.bool q4)] => some (q0, q1, q2, q3, q4)
  | _ => none
theorem de68 (v : AV) (r : Int × Int × Int × Int × Bool) (h : dec68 v = some r) : v = oneOf (enc68 r) := by
  unfold dec68 at h
  split at h
  · cases h; rfl
  · cases h
abbrev Ty68 := (Option (Nat × Nat)) → Int → Heap → Option ((Int × Int × Int × Int × Bool) × Heap)
def sem68 (f : Ty68) : List TV → Heap → Option ((Int × Int × Int × Int × Bool) × Heap)
  | [.c (Cell.ptr r), .c (Cell.int .u64 kind)], H => f r kind H
  | _, _ => none
noncomputable def f68 : Ty68 := hide fun r kind H => fnA CC68 Try.f68.results.toList (bodyOf Try.f68) _ [.c (Cell.ptr r), .c (Cell.int .u64 kind)] H (decF dec68)
theorem f68_eq (r : (Option (Nat × Nat))) (kind : Int) (H : Heap) : f68 r kind H = fnA CC68 Try.f68.results.toList (bodyOf Try.f68) _ [.c (Cell.ptr r), .c (Cell.int .u64 kind)] H (decF dec68) := by unfold f68; rw [hide_eq]
theorem f68_run (r : (Option (Nat × Nat))) (kind : Int) (H : Heap) : f68 r kind H = fnL CC68 (lpD CC68) Try.f68.results.toList (bodyOf Try.f68) [.c (Cell.ptr r), .c (Cell.int .u64 kind)] H (decF dec68) := (f68_eq ..).trans (fnA_lpD hN68 ..)
def S68_4 (t0 : (Option (Nat × Nat))) (t1 : Int) (t7 : Int) (t13 : (Option Sl)) (t14 : Int) (t15 : Int) (b4_0 : Int) (b4_1 : Int) (b4_2 : Int) (b4_3 : Int) (b6_0 : Int) (b6_1 : Int) (b6_2 : Int) (b6_3 : Int) (H : Heap) : St := ⟨[(0, .c (Cell.ptr t0)), (1, .c (Cell.int .u64 t1)), (4, .lp 4 0), (6, .lp 6 0), (7, .c (Cell.int .i64 t7)), (13, .c (Cell.slice t13)), (14, .c (Cell.int .i64 t14)), (15, .c (Cell.int .i64 t15))], [(4, [Cell.int .u64 b4_0, Cell.int .u64 b4_1, Cell.int .u64 b4_2, Cell.int .u64 b4_3]), (6, [Cell.int .u64 b6_0, Cell.int .u64 b6_1, Cell.int .u64 b6_2, Cell.int .u64 b6_3])], H⟩
noncomputable def D68_4 (n : Nat) (t0 : (Option (Nat × Nat))) (t1 : Int) (t7 : Int) (t13 : (Option Sl)) (t14 : Int) (t15 : Int) (b4_0 : Int) (b4_1 : Int) (b4_2 : Int) (b4_3 : Int) (b6_0 : Int) (b6_1 : Int) (b6_2 : Int) (b6_3 : Int) (H : Heap) : Option (AExit × St) := loopN (exec CC68 (Code.l (Code.l (Code.r (Code.l (Code.r (Code.r (Code.r (bodyOf Try.f68))))))))) (keepOf CC68.live (Code.l (Code.l (Code.r (Code.l (Code.r (Code.r (Code.r (bodyOf Try.f68))))))))) n (S68_4 t0 t1 t7 t13 t14 t15 b4_0 b4_1 b4_2 b4_3 b6_0 b6_1 b6_2 b6_3 H) retD
noncomputable def LL68_4 (t0 : (Option (Nat × Nat))) (t1 : Int) (t7 : Int) (t13 : (Option Sl)) (t14 : Int) (t15 : Int) (b4_0 : Int) (b4_1 : Int) (b4_2 : Int) (b4_3 : Int) (b6_0 : Int) (b6_1 : Int) (b6_2 : Int) (b6_3 : Int) (H : Heap) : Option (AExit × St) := loopsD CC68 (Code.l (Code.l (Code.r (Code.l (Code.r (Code.r (Code.r (bodyOf Try.f68)))))))) (S68_4 t0 t1 t7 t13 t14 t15 b4_0 b4_1 b4_2 b4_3 b6_0 b6_1 b6_2 b6_3 H)
theorem LL68_4_of (m : Nat) (hm : m < 18446744073709551616) (t0 : (Option (Nat × Nat))) (t1 : Int) (t7 : Int) (t13 : (Option Sl)) (t14 : Int) (t15 : Int) (b4_0 : Int) (b4_1 : Int) (b4_2 : Int) (b4_3 : Int) (b6_0 : Int) (b6_1 : Int) (b6_2 : Int) (b6_3 : Int) (H : Heap) : ∃ n, LL68_4 t0 t1 t7 t13 t14 t15 b4_0 b4_1 b4_2 b4_3 b6_0 b6_1 b6_2 b6_3 H = D68_4 (n + m + 1) t0 t1 t7 t13 t14 t15 b4_0 b4_1 b4_2 b4_3 b6_0 b6_1 b6_2 b6_3 H := loopsD_of _ _ _ m hm
def X68_4 (x0 : Option (Nat × Nat)) (x1 : Int) (x2 : Int) (x3 : Int) (x4 : Int) (x5 : Int) (x6 : Int) (x7 : Int) (x8 : Int) (x9 : Int) (H : Heap) : St := { env := [(0, AV.c (Cell.ptr x0)), (4, AV.lp 4 0), (6, AV.lp 6 0), (7, AV.c (Cell.int IntKind.i64 x1))], loc := [(4, [Cell.int IntKind.u64 x2, Cell.int IntKind.u64 x3, Cell.int IntKind.u64 x4, Cell.int IntKind.u64 x5]), (6, [Cell.int IntKind.u64 x6, Cell.int IntKind.u64 x7, Cell.int IntKind.u64 x8, Cell.int IntKind.u64 x9])], heap := H }
noncomputable def J68_4 : AExit × St → Option ((Int × Int × Int × Int × Bool) × Heap) := fun p => blockK 0 (seqK (execL CC68 (lpD CC68) (Code.r (Code.r (Code.r (Code.r (bodyOf Try.f68)))))) (retA CC68 [ResultVar.cell 4 117, ResultVar.tmp 5] (decF dec68))) p.fst p.snd
theorem D68_4_s : ∀ (n : Nat) (t0 : Option (Nat × Nat)) (t1 t7 : Int) (t13 : Option Sl) (t14 t15 b4_0 b4_1 b4_2 b4_3 b6_0 b6_1 b6_2 b6_3 : Int) (H : Heap), D68_4 (n + 1) t0 t1 t7 t13 t14 t15 b4_0 b4_1 b4_2 b4_3 b6_0 b6_1 b6_2 b6_3 H = bif decide (t15 < t14) then t13.bind fun v8 => bif inb t15 v8.len && v8.esz == 4 then (H.get v8.id (v8.off + t15.toNat * 4)).bind fun v7 => (H.get v8.id (v8.off + t15.toNat * 4 + 1)).bind fun v6 => (H.get v8.id (v8.off + t15.toNat * 4 + 1 + 1)).bind fun v5 => (H.get v8.id (v8.off + t15.toNat * 4 + 1 + 1 + 1)).bind fun v4 => (Cell.toInt IntKind.u64 v7).bind fun v3 => (Cell.toInt IntKind.u64 v6).bind fun v2 => (Cell.toInt IntKind.u64 v5).bind fun v1 => (Cell.toInt IntKind.u64 v4).bind fun v0 => bif v3 == t1 then D68_4 n t0 t1 (IntKind.i64.wrap (t7 + 1)) t13 t14 (IntKind.i64.wrap (t15 + 1)) b4_0 b4_1 b4_2 b4_3 v3 v2 v1 v0 H else D68_4 n t0 t1 t7 t13 t14 (IntKind.i64.wrap (t15 + 1)) b4_0 b4_1 b4_2 b4_3 b6_0 b6_1 b6_2 b6_3 H else none else some (AExit.exit 0, X68_4 t0 t7 b4_0 b4_1 b4_2 b4_3 b6_0 b6_1 b6_2 b6_3 H) := by intros; exact (loopN_stepD hN68 _ _ _ _).trans (by kernel_rfl)
theorem q68 : ∀ (r : Option (Nat × Nat)) (kind : Int) (H : Heap), f68 r kind H = r.bind fun v11 => (H.get v11.fst (v11.snd + 7)).bind fun v10 => v10.toSlice.bind fun v9 => (LL68_4 r kind 0 v9 (slen v9) 0 0 0 0 0 0 0 0 0 H).bind J68_4 := by intros; exact (f68_run ..).trans (by kernel_rfl)
theorem J68_4_0 : ∀ (x0 : Option (Nat × Nat)) (x1 x2 x3 x4 x5 x6 x7 x8 x9 : Int) (H : Heap), J68_4 (AExit.exit 0, X68_4 x0 x1 x2 x3 x4 x5 x6 x7 x8 x9 H) = bif decide (x1 > 1) then (f64 x0 H).bind fun v12 => some ((x6, x7, x8, x9, x1 == 1), v12.snd) else some ((x6, x7, x8, x9, x1 == 1), H) := by intros; kernel_rfl
theorem ok68 : FnOk Try.prog 68 (specF enc68 (sem68 f68)) := by
  refine spec_ok (C := CC68) good68 rfl rfl rfl (by kernel_rfl) Try.func68 (c := bodyOf Try.f68) (by kernel_rfl) (by kernel_rfl) (Nat.le_of_eq Try.ntmps68.symm) dec68 enc68 de68 _ ?_
  intro args H q h
  unfold sem68 at h
  split at h
  · rw [← f68_eq]; exact h
  · cases h
/-! 42: elf_reader_syms -/
noncomputable def CC42 : Ctx := { P := Try.prog, own := [2], fns := [(51, readF enc51 (semR51 g51)), (72, specF enc72 (sem72 f72)), (71, specF enc71 (sem71 f71)), (70, specF enc70 (sem70 f70)), (69, specF enc69 (sem69 f69)), (18, specF enc18 (sem18 f18)), (63, specF enc63 (sem63 f63)), (64, specF enc64 (sem64 f64)), (68, specF enc68 (sem68 f68))], nt := 137, pures := [51], nums := [], live := [(7, ⟨[0, 4, 5, 6], [], [], []⟩)] }
theorem good42 : Callees Try.prog CC42.fns CC42.pures CC42.nums := (((((((((Callees.nil Try.prog).cons ok68 (specF_nat _ _)).cons ok64 (specF_nat _ _)).cons ok63 (specF_nat _ _)).cons ok18 (specF_nat _ _)).cons ok69 (specF_nat _ _)).cons ok70 (specF_nat _ _)).cons ok71 (specF_nat _ _)).cons ok72 (specF_nat _ _)).cons_pure okR51 (readF_pure _ _)
theorem hN42 : CtxNat CC42 := good42.ctx rfl rfl rfl
def enc42 (r : Unit) : List TV := []
def dec42 : AV → Option (Unit)
  | .tup [] => some ()
  | _ => none
theorem de42 (v : AV) (r : Unit) (h : dec42 v = some r) : v = oneOf (enc42 r) := by
  unfold dec42 at h
  split at h
  · cases h; rfl
  · cases h
abbrev Ty42 := (Option (Nat × Nat)) → Heap → Option (Unit × Heap)
def sem42 (f : Ty42) : List TV → Heap → Option (Unit × Heap)
  | [.c (Cell.ptr r)], H => f r H
  | _, _ => none
noncomputable def f42 : Ty42 := hide fun r H => fnA CC42 Try.f42.results.toList (bodyOf Try.f42) _ [.c (Cell.ptr r)] H (decF dec42)
theorem f42_eq (r : (Option (Nat × Nat))) (H : Heap) : f42 r H = fnA CC42 Try.f42.results.toList (bodyOf Try.f42) _ [.c (Cell.ptr r)] H (decF dec42) := by unfold f42; rw [hide_eq]
theorem f42_run (r : (Option (Nat × Nat))) (H : Heap) : f42 r H = fnL CC42 (lpD CC42) Try.f42.results.toList (bodyOf Try.f42) [.c (Cell.ptr r)] H (decF dec42) := (f42_eq ..).trans (fnA_lpD hN42 ..)
def S42_7 (t0 : (Option (Nat × Nat))) (t4 : (Option (Nat × Nat))) (t5 : (Option (Nat × Nat))) (t6 : Int) (H : Heap) : St := ⟨[(0, .c (Cell.ptr t0)), (4, .c (Cell.ptr t4)), (5, .c (Cell.ptr t5)), (6, .c (Cell.int .i64 t6))], [], H⟩
noncomputable def D42_7 (n : Nat) (t0 : (Option (Nat × Nat))) (t4 : (Option (Nat × Nat))) (t5 : (Option (Nat × Nat))) (t6 : Int) (H : Heap) : Option (AExit × St) := loopN (exec CC42 (Code.l (Code.l (Code.r (Code.r (Code.r (Code.r (Code.r (Code.r (bodyOf Try.f42)))))))))) (keepOf CC42.live (Code.l (Code.l (Code.r (Code.r (Code.r (Code.r (Code.r (Code.r (bodyOf Try.f42)))))))))) n (S42_7 t0 t4 t5 t6 H) retD
noncomputable def LL42_7 (t0 : (Option (Nat × Nat))) (t4 : (Option (Nat × Nat))) (t5 : (Option (Nat × Nat))) (t6 : Int) (H : Heap) : Option (AExit × St) := loopsD CC42 (Code.l (Code.l (Code.r (Code.r (Code.r (Code.r (Code.r (Code.r (bodyOf Try.f42))))))))) (S42_7 t0 t4 t5 t6 H)
theorem LL42_7_of (m : Nat) (hm : m < 18446744073709551616) (t0 : (Option (Nat × Nat))) (t4 : (Option (Nat × Nat))) (t5 : (Option (Nat × Nat))) (t6 : Int) (H : Heap) : ∃ n, LL42_7 t0 t4 t5 t6 H = D42_7 (n + m + 1) t0 t4 t5 t6 H := loopsD_of _ _ _ m hm
def X42_7 (H : Heap) : St := { env := [], loc := [], heap := H }
noncomputable def J42_7 : AExit × St → Option (Unit × Heap) := fun p => blockK 0 (retA CC42 [] (decF dec42)) p.fst p.snd
theorem D42_7_s : ∀ (n : Nat) (t0 t4 t5 : Option (Nat × Nat)) (t6 : Int) (H : Heap), D42_7 (n + 1) t0 t4 t5 t6 H = (g51 t5 H).bind fun v34 => bif decide (t6 < IntKind.i64.wrap (v34.tdiv 24)) then t0.bind fun v33 => (H.get v33.fst (v33.snd + 6)).bind fun v32 => v32.toBool.bind fun v31 => bif v31 then (f69 t5 (IntKind.i64.wrap (24 * t6)) H).bind fun v30 => (f70 v30.fst 4 v30.snd).bind fun v29 => (f70 v30.fst 1 v29.snd).bind fun v28 => (f71 v30.fst 3 v28.snd).bind fun v27 => (f72 t4 (IntKind.i64.wrap v29.fst) 32 v27.snd).bind fun v26 => bif v26.fst.snd != 0 then (f64 t0 v26.snd).bind fun v8 => t0.bind fun v7 => (v8.snd.get v7.fst (v7.snd + 1 + 3)).bind fun v6 => v6.toSlice.bind fun v5 => (f70 v30.fst 8 v8.snd).bind fun v4 => bif same v7.fst v8.snd v4.snd then (f70 v30.fst 8 v4.snd).bind fun v3 => bif same v7.fst v4.snd v3.snd then ((v3.snd ++ [Blk.row [Cell.str v26.fst.fst, Cell.int IntKind.i64 (IntKind.i64.wrap (band IntKind.u64 v28.fst 15)), Cell.int IntKind.u64 v4.fst, Cell.int IntKind.u64 v3.fst] false]).append 4 40 v5 (some { id := List.length v3.snd, off := 0, len := 1, cap := 1, esz := 4 })).bind fun v2 => t0.bind fun v1 => (v2.snd.put v1.fst (v1.snd + 1 + 3) [Cell.slice v2.fst]).bind fun v0 => D42_7 n t0 t4 t5 (IntKind.i64.wrap (t6 + 1)) v0 else none else none else bif decide (t6 > 64) then (f64 t0 v26.snd).bind fun v17 => t0.bind fun v16 => (v17.snd.get v16.fst (v16.snd + 1 + 3)).bind fun v15 => v15.toSlice.bind fun v14 => (f70 v30.fst 8 v17.snd).bind fun v13 => bif same v16.fst v17.snd v13.snd then (f70 v30.fst 8 v13.snd).bind fun v12 => bif same v16.fst v13.snd v12.snd then ((v12.snd ++ [Blk.row [Cell.str v26.fst.fst, Cell.int IntKind.i64 (IntKind.i64.wrap (band IntKind.u64 v28.fst 15)), Cell.int IntKind.u64 v13.fst, Cell.int IntKind.u64 v12.fst] false]).append 4 40 v14 (some { id := List.length v12.snd, off := 0, len := 1, cap := 1, esz := 4 })).bind fun v11 => t0.bind fun v10 => (v11.snd.put v10.fst (v10.snd + 1 + 3) [Cell.slice v11.fst]).bind fun v9 => D42_7 n t0 t4 t5 (IntKind.i64.wrap (t6 + 1)) v9 else none else none else t0.bind fun v25 => (v26.snd.get v25.fst (v25.snd + 1 + 3)).bind fun v24 => v24.toSlice.bind fun v23 => (f70 v30.fst 8 v26.snd).bind fun v22 => bif same v25.fst v26.snd v22.snd then (f70 v30.fst 8 v22.snd).bind fun v21 => bif same v25.fst v22.snd v21.snd then ((v21.snd ++ [Blk.row [Cell.str v26.fst.fst, Cell.int IntKind.i64 (IntKind.i64.wrap (band IntKind.u64 v28.fst 15)), Cell.int IntKind.u64 v22.fst, Cell.int IntKind.u64 v21.fst] false]).append 4 40 v23 (some { id := List.length v21.snd, off := 0, len := 1, cap := 1, esz := 4 })).bind fun v20 => t0.bind fun v19 => (v20.snd.put v19.fst (v19.snd + 1 + 3) [Cell.slice v20.fst]).bind fun v18 => D42_7 n t0 t4 t5 (IntKind.i64.wrap (t6 + 1)) v18 else none else none else some (AExit.exit 0, X42_7 H) else some (AExit.exit 0, X42_7 H) := by intros; exact (loopN_stepD hN42 _ _ _ _).trans (by kernel_rfl)
theorem q42 : ∀ (r : Option (Nat × Nat)) (H : Heap), f42 r H = (f68 r 2 H).bind fun v65 => bif !v65.fst.snd.snd.snd.snd then some ((), v65.snd) else r.bind fun v64 => (v65.snd.get v64.fst (v64.snd + 6)).bind fun v63 => v63.toBool.bind fun v62 => bif !v62 then some ((), v65.snd) else r.bind fun v61 => (v65.snd.get v61.fst (v61.snd + 7)).bind fun v60 => v60.toSlice.bind fun v59 => bif decide (v65.fst.snd.fst ≥ IntKind.u64.wrap (slen v59)) then (f64 r v65.snd).bind fun v35 => some ((), v35.snd) else r.bind fun v58 => (v65.snd.get v58.fst (v58.snd + 7)).bind fun v57 => v57.toSlice.bind fun v56 => v56.bind fun v55 => bif inb v65.fst.snd.fst v55.len && v55.esz == 4 then (v65.snd.get v55.id (v55.off + v65.fst.snd.fst.toNat * 4 + 0)).bind fun v54 => (Cell.toInt IntKind.u64 v54).bind fun v53 => bif v53 != 3 then (f64 r v65.snd).bind fun v36 => some ((), v36.snd) else r.bind fun v52 => (v65.snd.get v52.fst (v52.snd + 7)).bind fun v51 => v51.toSlice.bind fun v50 => v50.bind fun v49 => bif inb v65.fst.snd.fst v49.len && v49.esz == 4 then (v65.snd.get v49.id (v49.off + v65.fst.snd.fst.toNat * 4 + 2)).bind fun v48 => (Cell.toInt IntKind.u64 v48).bind fun v47 => r.bind fun v46 => (v65.snd.get v46.fst (v46.snd + 7)).bind fun v45 => v45.toSlice.bind fun v44 => v44.bind fun v43 => bif inb v65.fst.snd.fst v43.len && v43.esz == 4 then (v65.snd.get v43.id (v43.off + v65.fst.snd.fst.toNat * 4 + 3)).bind fun v42 => (Cell.toInt IntKind.u64 v42).bind fun v41 => (f63 r v47 v41 v65.snd).bind fun v40 => (f18 (some { id := List.length v40.snd, off := 0, len := 1, cap := 1, esz := 1 }) (v40.snd ++ [Blk.row [Cell.slice v40.fst] false])).bind fun v39 => (f63 r v65.fst.snd.snd.fst v65.fst.snd.snd.snd.fst v39.snd).bind fun v38 => (f18 (some { id := List.length v38.snd, off := 0, len := 1, cap := 1, esz := 1 }) (v38.snd ++ [Blk.row [Cell.slice v38.fst] false])).bind fun v37 => (LL42_7 r v39.fst v37.fst 1 v37.snd).bind J42_7 else none else none else none := by intros; exact (f42_run ..).trans (by kernel_rfl)
theorem J42_7_0 : ∀ (H : Heap), J42_7 (AExit.exit 0, X42_7 H) = some ((), H) := by intros; kernel_rfl
theorem ok42 : FnOk Try.prog 42 (specF enc42 (sem42 f42)) := by
  refine spec_ok (C := CC42) good42 rfl rfl rfl (by kernel_rfl) Try.func42 (c := bodyOf Try.f42) (by kernel_rfl) (by kernel_rfl) (Nat.le_of_eq Try.ntmps42.symm) dec42 enc42 de42 _ ?_
  intro args H q h
  unfold sem42 at h
  split at h
  · rw [← f42_eq]; exact h
  · cases h
/-! 43: elf_reader_rels -/
noncomputable def CC43 : Ctx := { P := Try.prog, own := [2], fns := [(51, readF enc51 (semR51 g51)), (64, specF enc64 (sem64 f64)), (70, specF enc70 (sem70 f70)), (69, specF enc69 (sem69 f69)), (18, specF enc18 (sem18 f18)), (63, specF enc63 (sem63 f63)), (68, specF enc68 (sem68 f68))], nt := 88, pures := [51], nums := [], live := [(4, ⟨[0, 4, 5], [], [], []⟩)] }
theorem good43 : Callees Try.prog CC43.fns CC43.pures CC43.nums := (((((((Callees.nil Try.prog).cons ok68 (specF_nat _ _)).cons ok63 (specF_nat _ _)).cons ok18 (specF_nat _ _)).cons ok69 (specF_nat _ _)).cons ok70 (specF_nat _ _)).cons ok64 (specF_nat _ _)).cons_pure okR51 (readF_pure _ _)
theorem hN43 : CtxNat CC43 := good43.ctx rfl rfl rfl
def enc43 (r : Unit) : List TV := []
def dec43 : AV → Option (Unit)
  | .tup [] => some ()
  | _ => none
theorem de43 (v : AV) (r : Unit) (h : dec43 v = some r) : v = oneOf (enc43 r) := by
  unfold dec43 at h
  split at h
  · cases h; rfl
  · cases h
abbrev Ty43 := (Option (Nat × Nat)) → Heap → Option (Unit × Heap)
def sem43 (f : Ty43) : List TV → Heap → Option (Unit × Heap)
  | [.c (Cell.ptr r)], H => f r H
  | _, _ => none
noncomputable def f43 : Ty43 := hide fun r H => fnA CC43 Try.f43.results.toList (bodyOf Try.f43) _ [.c (Cell.ptr r)] H (decF dec43)
theorem f43_eq (r : (Option (Nat × Nat))) (H : Heap) : f43 r H = fnA CC43 Try.f43.results.toList (bodyOf Try.f43) _ [.c (Cell.ptr r)] H (decF dec43) := by unfold f43; rw [hide_eq]
theorem f43_run (r : (Option (Nat × Nat))) (H : Heap) : f43 r H = fnL CC43 (lpD CC43) Try.f43.results.toList (bodyOf Try.f43) [.c (Cell.ptr r)] H (decF dec43) := (f43_eq ..).trans (fnA_lpD hN43 ..)
def S43_4 (t0 : (Option (Nat × Nat))) (t4 : (Option (Nat × Nat))) (t5 : Int) (H : Heap) : St := ⟨[(0, .c (Cell.ptr t0)), (4, .c (Cell.ptr t4)), (5, .c (Cell.int .i64 t5))], [], H⟩
noncomputable def D43_4 (n : Nat) (t0 : (Option (Nat × Nat))) (t4 : (Option (Nat × Nat))) (t5 : Int) (H : Heap) : Option (AExit × St) := loopN (exec CC43 (Code.l (Code.l (Code.r (Code.r (Code.r (Code.r (bodyOf Try.f43)))))))) (keepOf CC43.live (Code.l (Code.l (Code.r (Code.r (Code.r (Code.r (bodyOf Try.f43)))))))) n (S43_4 t0 t4 t5 H) retD
noncomputable def LL43_4 (t0 : (Option (Nat × Nat))) (t4 : (Option (Nat × Nat))) (t5 : Int) (H : Heap) : Option (AExit × St) := loopsD CC43 (Code.l (Code.l (Code.r (Code.r (Code.r (Code.r (bodyOf Try.f43))))))) (S43_4 t0 t4 t5 H)
theorem LL43_4_of (m : Nat) (hm : m < 18446744073709551616) (t0 : (Option (Nat × Nat))) (t4 : (Option (Nat × Nat))) (t5 : Int) (H : Heap) : ∃ n, LL43_4 t0 t4 t5 H = D43_4 (n + m + 1) t0 t4 t5 H := loopsD_of _ _ _ m hm
def X43_4 (H : Heap) : St := { env := [], loc := [], heap := H }
noncomputable def J43_4 : AExit × St → Option (Unit × Heap) := fun p => blockK 0 (retA CC43 [] (decF dec43)) p.fst p.snd
theorem D43_4_s : ∀ (n : Nat) (t0 t4 : Option (Nat × Nat)) (t5 : Int) (H : Heap), D43_4 (n + 1) t0 t4 t5 H = (g51 t4 H).bind fun v35 => bif decide (t5 < IntKind.i64.wrap (v35.tdiv 24)) then t0.bind fun v34 => (H.get v34.fst (v34.snd + 6)).bind fun v33 => v33.toBool.bind fun v32 => bif v32 then (f69 t4 (IntKind.i64.wrap (24 * t5)) H).bind fun v31 => (f70 v31.fst 8 v31.snd).bind fun v30 => (f70 v31.fst 4 v30.snd).bind fun v29 => (f70 v31.fst 4 v29.snd).bind fun v28 => (f70 v31.fst 8 v28.snd).bind fun v27 => bif v29.fst != 1 then (f64 t0 v27.snd).bind fun v6 => t0.bind fun v5 => (v6.snd.get v5.fst (v5.snd + 1 + 4)).bind fun v4 => v4.toSlice.bind fun v3 => ((v6.snd ++ [Blk.row [Cell.int IntKind.u64 v30.fst, Cell.int IntKind.i64 (IntKind.i64.wrap (IntKind.i64.wrap v28.fst - 1)), Cell.int IntKind.i64 (IntKind.i64.wrap v27.fst)] false]).append 3 24 v3 (some { id := List.length v6.snd, off := 0, len := 1, cap := 1, esz := 3 })).bind fun v2 => t0.bind fun v1 => (v2.snd.put v1.fst (v1.snd + 1 + 4) [Cell.slice v2.fst]).bind fun v0 => D43_4 n t0 t4 (IntKind.i64.wrap (t5 + 1)) v0 else bif decide (v28.fst < 1) then (f64 t0 v27.snd).bind fun v13 => t0.bind fun v12 => (v13.snd.get v12.fst (v12.snd + 1 + 4)).bind fun v11 => v11.toSlice.bind fun v10 => ((v13.snd ++ [Blk.row [Cell.int IntKind.u64 v30.fst, Cell.int IntKind.i64 (IntKind.i64.wrap (IntKind.i64.wrap v28.fst - 1)), Cell.int IntKind.i64 (IntKind.i64.wrap v27.fst)] false]).append 3 24 v10 (some { id := List.length v13.snd, off := 0, len := 1, cap := 1, esz := 3 })).bind fun v9 => t0.bind fun v8 => (v9.snd.put v8.fst (v8.snd + 1 + 4) [Cell.slice v9.fst]).bind fun v7 => D43_4 n t0 t4 (IntKind.i64.wrap (t5 + 1)) v7 else bif decide (t5 ≥ 64) then (f64 t0 v27.snd).bind fun v20 => t0.bind fun v19 => (v20.snd.get v19.fst (v19.snd + 1 + 4)).bind fun v18 => v18.toSlice.bind fun v17 => ((v20.snd ++ [Blk.row [Cell.int IntKind.u64 v30.fst, Cell.int IntKind.i64 (IntKind.i64.wrap (IntKind.i64.wrap v28.fst - 1)), Cell.int IntKind.i64 (IntKind.i64.wrap v27.fst)] false]).append 3 24 v17 (some { id := List.length v20.snd, off := 0, len := 1, cap := 1, esz := 3 })).bind fun v16 => t0.bind fun v15 => (v16.snd.put v15.fst (v15.snd + 1 + 4) [Cell.slice v16.fst]).bind fun v14 => D43_4 n t0 t4 (IntKind.i64.wrap (t5 + 1)) v14 else t0.bind fun v26 => (v27.snd.get v26.fst (v26.snd + 1 + 4)).bind fun v25 => v25.toSlice.bind fun v24 => ((v27.snd ++ [Blk.row [Cell.int IntKind.u64 v30.fst, Cell.int IntKind.i64 (IntKind.i64.wrap (IntKind.i64.wrap v28.fst - 1)), Cell.int IntKind.i64 (IntKind.i64.wrap v27.fst)] false]).append 3 24 v24 (some { id := List.length v27.snd, off := 0, len := 1, cap := 1, esz := 3 })).bind fun v23 => t0.bind fun v22 => (v23.snd.put v22.fst (v22.snd + 1 + 4) [Cell.slice v23.fst]).bind fun v21 => D43_4 n t0 t4 (IntKind.i64.wrap (t5 + 1)) v21 else some (AExit.exit 0, X43_4 H) else some (AExit.exit 0, X43_4 H) := by intros; exact (loopN_stepD hN43 _ _ _ _).trans (by kernel_rfl)
theorem q43 : ∀ (r : Option (Nat × Nat)) (H : Heap), f43 r H = (f68 r 4 H).bind fun v41 => bif !v41.fst.snd.snd.snd.snd then some ((), v41.snd) else r.bind fun v40 => (v41.snd.get v40.fst (v40.snd + 6)).bind fun v39 => v39.toBool.bind fun v38 => bif !v38 then some ((), v41.snd) else (f63 r v41.fst.snd.snd.fst v41.fst.snd.snd.snd.fst v41.snd).bind fun v37 => (f18 (some { id := List.length v37.snd, off := 0, len := 1, cap := 1, esz := 1 }) (v37.snd ++ [Blk.row [Cell.slice v37.fst] false])).bind fun v36 => (LL43_4 r v36.fst 0 v36.snd).bind J43_4 := by intros; exact (f43_run ..).trans (by kernel_rfl)
theorem J43_4_0 : ∀ (H : Heap), J43_4 (AExit.exit 0, X43_4 H) = some ((), H) := by intros; kernel_rfl
theorem ok43 : FnOk Try.prog 43 (specF enc43 (sem43 f43)) := by
  refine spec_ok (C := CC43) good43 rfl rfl rfl (by kernel_rfl) Try.func43 (c := bodyOf Try.f43) (by kernel_rfl) (by kernel_rfl) (Nat.le_of_eq Try.ntmps43.symm) dec43 enc43 de43 _ ?_
  intro args H q h
  unfold sem43 at h
  split at h
  · rw [← f43_eq]; exact h
  · cases h
/-! 14: elf_Parse -/
noncomputable def CC14 : Ctx := { P := Try.prog, own := [2], fns := [(12, specF enc12 (sem12 f12)), (43, specF enc43 (sem43 f43)), (42, specF enc42 (sem42 f42)), (41, specF enc41 (sem41 f41)), (40, specF enc40 (sem40 f40)), (39, specF enc39 (sem39 f39)), (18, specF enc18 (sem18 f18))], nt := 42, nums := [], live := [] }
theorem good14 : Callees Try.prog CC14.fns [] CC14.nums := (((((((Callees.nil Try.prog).cons ok18 (specF_nat _ _)).cons ok39 (specF_nat _ _)).cons ok40 (specF_nat _ _)).cons ok41 (specF_nat _ _)).cons ok42 (specF_nat _ _)).cons ok43 (specF_nat _ _)).cons ok12 (specF_nat _ _)
theorem hN14 : CtxNat CC14 := good14.ctx rfl rfl rfl
def enc14 (r : Int × Int × (Option Sl) × (Option Sl) × (Option Sl) × Int) : List TV := [.agg [Cell.int .i64 (r.1), Cell.int .u64 (r.2.1), Cell.slice (r.2.2.1), Cell.slice (r.2.2.2.1), Cell.slice (r.2.2.2.2.1)], .c (Cell.int .i64 (r.2.2.2.2.2))]
def dec14 : AV → Option (Int × Int × (Option Sl) × (Option Sl) × (Option Sl) × Int)
  | .tup [.agg [Cell.int .i64 q0, Cell.int .u64 q1, Cell.slice q2, Cell.slice q3, Cell.slice q4], .c (Cell.int .i64 q5)] => some (q0, q1, q2, q3, q4, q5)
  | _ => none
theorem de14 (v : AV) (r : Int × Int × (Option Sl) × (Option Sl) × (Option Sl) × Int) (h : dec14 v = some r) : v = oneOf (enc14 r) := by
  unfold dec14 at h
  split at h
  · cases h; rfl
  · cases h
abbrev Ty14 := (Option Sl) → Heap → Option ((Int × Int × (Option Sl) × (Option Sl) × (Option Sl) × Int) × Heap)
def sem14 (f : Ty14) : List TV → Heap → Option ((Int × Int × (Option Sl) × (Option Sl) × (Option Sl) × Int) × Heap)
  | [.c (Cell.slice b)], H => f b H
  | _, _ => none
noncomputable def f14 : Ty14 := hide fun b H => fnA CC14 Try.f14.results.toList (bodyOf Try.f14) _ [.c (Cell.slice b)] H (decF dec14)
theorem f14_eq (b : (Option Sl)) (H : Heap) : f14 b H = fnA CC14 Try.f14.results.toList (bodyOf Try.f14) _ [.c (Cell.slice b)] H (decF dec14) := by unfold f14; rw [hide_eq]
theorem f14_run (b : (Option Sl)) (H : Heap) : f14 b H = fnL CC14 (lpD CC14) Try.f14.results.toList (bodyOf Try.f14) [.c (Cell.slice b)] H (decF dec14) := (f14_eq ..).trans (fnA_lpD hN14 ..)
theorem q14 : ∀ (b : Option Sl) (H : Heap), f14 b H = bif decide (slen b > 1048576) then some ((0, 0, none, none, none, 20), H) else (f18 (some { id := List.length H, off := 0, len := 1, cap := 1, esz := 1 }) (H ++ [Blk.row [Cell.slice b] false])).bind fun v28 => (f39 (some (List.length v28.snd, 0)) (v28.snd ++ [Blk.row [Cell.ptr v28.fst, Cell.int IntKind.i64 0, Cell.int IntKind.u64 0, Cell.slice none, Cell.slice none, Cell.slice none, Cell.bool true, Cell.slice none] false])).bind fun v27 => (f40 (some (List.length v28.snd, 0)) v27.snd).bind fun v26 => (f41 (some (List.length v28.snd, 0)) v26.snd).bind fun v25 => (f42 (some (List.length v28.snd, 0)) v25.snd).bind fun v24 => (f43 (some (List.length v28.snd, 0)) v24.snd).bind fun v23 => (v23.snd.get (List.length v28.snd) 6).bind fun v22 => v22.toBool.bind fun v21 => bif !v21 then some ((0, 0, none, none, none, 20), v23.snd) else (v23.snd.get (List.length v28.snd) 1).bind fun v20 => (v23.snd.get (List.length v28.snd) 2).bind fun v19 => (v23.snd.get (List.length v28.snd) 3).bind fun v18 => (v23.snd.get (List.length v28.snd) 4).bind fun v17 => (v23.snd.get (List.length v28.snd) 5).bind fun v16 => (Cell.toInt IntKind.i64 v20).bind fun v15 => (Cell.toInt IntKind.u64 v19).bind fun v14 => v18.toSlice.bind fun v13 => v17.toSlice.bind fun v12 => v16.toSlice.bind fun v11 => (f12 v15 v14 v13 v12 v11 v23.snd).bind fun v10 => bif !v10.fst then some ((0, 0, none, none, none, 20), v10.snd) else (v10.snd.get (List.length v28.snd) 1).bind fun v9 => (v10.snd.get (List.length v28.snd) 2).bind fun v8 => (v10.snd.get (List.length v28.snd) 3).bind fun v7 => (v10.snd.get (List.length v28.snd) 4).bind fun v6 => (v10.snd.get (List.length v28.snd) 5).bind fun v5 => (Cell.toInt IntKind.i64 v9).bind fun v4 => (Cell.toInt IntKind.u64 v8).bind fun v3 => v7.toSlice.bind fun v2 => v6.toSlice.bind fun v1 => v5.toSlice.bind fun v0 => some ((v4, v3, v2, v1, v0, 0), v10.snd) := by intros; exact (f14_run ..).trans (by kernel_rfl)
theorem ok14 : FnOk Try.prog 14 (specF enc14 (sem14 f14)) := by
  refine spec_ok (C := CC14) good14 rfl rfl rfl (by kernel_rfl) Try.func14 (c := bodyOf Try.f14) (by kernel_rfl) (by kernel_rfl) (Nat.le_of_eq Try.ntmps14.symm) dec14 enc14 de14 _ ?_
  intro args H q h
  unfold sem14 at h
  split at h
  · rw [← f14_eq]; exact h
  · cases h
/-! 29: elf_Seg_Has -/
noncomputable def CC29 : Ctx := { P := Try.prog, own := [3], fns := [], nt := 31, nums := [], live := [] }
theorem good29 : Callees Try.prog CC29.fns [] CC29.nums := Callees.nil Try.prog
theorem hN29 : CtxNat CC29 := good29.ctx rfl rfl rfl
def enc29 (r : Bool) : List TV := [.c (Cell.bool (r))]
def dec29 : AV → Option (Bool)
  | .c (Cell.bool q0) => some (q0)
  | _ => none
theorem de29 (v : AV) (r : Bool) (h : dec29 v = some r) : v = oneOf (enc29 r) := by
  unfold dec29 at h
  split at h
  · cases h; rfl
  · cases h
abbrev Ty29 := Int → Int → Int → Int → (Option Sl) → Int → Int → Heap → Option (Bool × Heap)
def sem29 (f : Ty29) : List TV → Heap → Option (Bool × Heap)
  | [.agg [Cell.int .i64 s0, Cell.int .i64 s1, Cell.int .u64 s2, Cell.int .u64 s3, Cell.slice s4], .c (Cell.int .u64 x1), .c (Cell.int .u64 n)], H => f s0 s1 s2 s3 s4 x1 n H
  | _, _ => none
noncomputable def f29 : Ty29 := hide fun s0 s1 s2 s3 s4 x1 n H => fnA CC29 Try.f29.results.toList (bodyOf Try.f29) _ [.agg [Cell.int .i64 s0, Cell.int .i64 s1, Cell.int .u64 s2, Cell.int .u64 s3, Cell.slice s4], .c (Cell.int .u64 x1), .c (Cell.int .u64 n)] H (decF dec29)
theorem f29_eq (s0 : Int) (s1 : Int) (s2 : Int) (s3 : Int) (s4 : (Option Sl)) (x1 : Int) (n : Int) (H : Heap) : f29 s0 s1 s2 s3 s4 x1 n H = fnA CC29 Try.f29.results.toList (bodyOf Try.f29) _ [.agg [Cell.int .i64 s0, Cell.int .i64 s1, Cell.int .u64 s2, Cell.int .u64 s3, Cell.slice s4], .c (Cell.int .u64 x1), .c (Cell.int .u64 n)] H (decF dec29) := by unfold f29; rw [hide_eq]
theorem f29_run (s0 : Int) (s1 : Int) (s2 : Int) (s3 : Int) (s4 : (Option Sl)) (x1 : Int) (n : Int) (H : Heap) : f29 s0 s1 s2 s3 s4 x1 n H = fnL CC29 (lpD CC29) Try.f29.results.toList (bodyOf Try.f29) [.agg [Cell.int .i64 s0, Cell.int .i64 s1, Cell.int .u64 s2, Cell.int .u64 s3, Cell.slice s4], .c (Cell.int .u64 x1), .c (Cell.int .u64 n)] H (decF dec29) := (f29_eq ..).trans (fnA_lpD hN29 ..)
theorem q29 : ∀ (s0 s1 s2 s3 : Int) (s4 : Option Sl) (x1 n : Int) (H : Heap), f29 s0 s1 s2 s3 s4 x1 n H = bif decide (x1 ≥ s2) then bif decide (IntKind.u64.wrap (x1 - s2) ≤ s3) then some (decide (n ≤ IntKind.u64.wrap (s3 - IntKind.u64.wrap (x1 - s2))), H) else some (false, H) else some (false, H) := by intros; exact (f29_run ..).trans (by kernel_rfl)
theorem ok29 : FnOk Try.prog 29 (specF enc29 (sem29 f29)) := by
  refine spec_ok (C := CC29) good29 rfl rfl rfl (by kernel_rfl) Try.func29 (c := bodyOf Try.f29) (by kernel_rfl) (by kernel_rfl) (Nat.le_of_eq Try.ntmps29.symm) dec29 enc29 de29 _ ?_
  intro args H q h
  unfold sem29 at h
  split at h
  · rw [← f29_eq]; exact h
  · cases h
