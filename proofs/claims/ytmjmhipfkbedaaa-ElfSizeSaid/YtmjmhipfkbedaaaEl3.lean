/- Layer 3: its functions, in direct style. -/
import Derived.Test.YtmjmhipfkbedaaaEl2
import Derived.KernelRfl
namespace Go.Proofs.Ytmjmhipfkbedaaa
open Go Go.Proofs.Ytmjmhipfkbedaaa.Ab
set_option linter.unusedVariables false
set_option linter.unusedSimpArgs false
set_option maxRecDepth 100000
noncomputable section
/-! 32: elf_Seg_may -/
noncomputable def CC32 : Ctx := { P := Try.prog, own := [1], fns := [], nt := 49, nums := [], live := [] }
theorem good32 : Callees Try.prog CC32.fns [] CC32.nums := Callees.nil Try.prog
theorem hN32 : CtxNat CC32 := good32.ctx rfl rfl rfl
def enc32 (r : Bool) : List TV := [.c (Cell.bool (r))]
def dec32 : AV → Option (Bool)
  | .c (Cell.bool q0) => some (q0)
  | _ => none
theorem de32 (v : AV) (r : Bool) (h : dec32 v = some r) : v = oneOf (enc32 r) := by
  unfold dec32 at h
  split at h
  · cases h; rfl
  · cases h
abbrev Ty32 := Int → Int → Int → Int → (Option Sl) → Heap → Option (Bool × Heap)
def sem32 (f : Ty32) : List TV → Heap → Option (Bool × Heap)
  | [.agg [Cell.int .i64 s0, Cell.int .i64 s1, Cell.int .u64 s2, Cell.int .u64 s3, Cell.slice s4]], H => f s0 s1 s2 s3 s4 H
  | _, _ => none
noncomputable def f32 : Ty32 := hide fun s0 s1 s2 s3 s4 H => fnA CC32 Try.f32.results.toList (bodyOf Try.f32) _ [.agg [Cell.int .i64 s0, Cell.int .i64 s1, Cell.int .u64 s2, Cell.int .u64 s3, Cell.slice s4]] H (decF dec32)
theorem f32_eq (s0 : Int) (s1 : Int) (s2 : Int) (s3 : Int) (s4 : (Option Sl)) (H : Heap) : f32 s0 s1 s2 s3 s4 H = fnA CC32 Try.f32.results.toList (bodyOf Try.f32) _ [.agg [Cell.int .i64 s0, Cell.int .i64 s1, Cell.int .u64 s2, Cell.int .u64 s3, Cell.slice s4]] H (decF dec32) := by unfold f32; rw [hide_eq]
theorem f32_run (s0 : Int) (s1 : Int) (s2 : Int) (s3 : Int) (s4 : (Option Sl)) (H : Heap) : f32 s0 s1 s2 s3 s4 H = fnL CC32 (lpD CC32) Try.f32.results.toList (bodyOf Try.f32) [.agg [Cell.int .i64 s0, Cell.int .i64 s1, Cell.int .u64 s2, Cell.int .u64 s3, Cell.slice s4]] H (decF dec32) := (f32_eq ..).trans (fnA_lpD hN32 ..)
theorem q32 : ∀ (s0 s1 s2 s3 : Int) (s4 : Option Sl) (H : Heap), f32 s0 s1 s2 s3 s4 H = bif s0 != 1 then bif s0 != 1610612737 then some (false, H) else bif decide (s1 < 0) then some (false, H) else bif decide (s1 > 7) then some (false, H) else bif decide (s3 > 4294967296) then some (false, H) else bif decide (s2 > 9223372036854775808) then some (false, H) else bif decide (IntKind.u64.wrap (slen s4) ≤ s3) then bif s0 == 1 then some (true, H) else some (slen s4 == 0, H) else some (false, H) else bif decide (s1 < 0) then some (false, H) else bif decide (s1 > 7) then some (false, H) else bif decide (s3 > 4294967296) then some (false, H) else bif decide (s2 > 9223372036854775808) then some (false, H) else bif decide (IntKind.u64.wrap (slen s4) ≤ s3) then bif s0 == 1 then some (true, H) else some (slen s4 == 0, H) else some (false, H) := by intros; exact (f32_run ..).trans (by kernel_rfl)
theorem ok32 : FnOk Try.prog 32 (specF enc32 (sem32 f32)) := by
  refine spec_ok (C := CC32) good32 rfl rfl rfl (by kernel_rfl) Try.func32 (c := bodyOf Try.f32) (by kernel_rfl) (by kernel_rfl) (Nat.le_of_eq Try.ntmps32.symm) dec32 enc32 de32 _ ?_
  intro args H q h
  unfold sem32 at h
  split at h
  · rw [← f32_eq]; exact h
  · cases h
/-! 31: elf_May$1 -/
noncomputable def CC31 : Ctx := { P := Try.prog, own := [1], fns := [(32, specF enc32 (sem32 f32))], nt := 6, nums := [], live := [] }
theorem good31 : Callees Try.prog CC31.fns [] CC31.nums := (Callees.nil Try.prog).cons ok32 (specF_nat _ _)
theorem hN31 : CtxNat CC31 := good31.ctx rfl rfl rfl
def enc31 (r : Bool) : List TV := [.c (Cell.bool (r))]
def dec31 : AV → Option (Bool)
  | .c (Cell.bool q0) => some (q0)
  | _ => none
theorem de31 (v : AV) (r : Bool) (h : dec31 v = some r) : v = oneOf (enc31 r) := by
  unfold dec31 at h
  split at h
  · cases h; rfl
  · cases h
abbrev Ty31 := Int → Int → Int → Int → (Option Sl) → Heap → Option (Bool × Heap)
def sem31 (f : Ty31) : List TV → Heap → Option (Bool × Heap)
  | [.agg [Cell.int .i64 s0, Cell.int .i64 s1, Cell.int .u64 s2, Cell.int .u64 s3, Cell.slice s4]], H => f s0 s1 s2 s3 s4 H
  | _, _ => none
noncomputable def f31 : Ty31 := hide fun s0 s1 s2 s3 s4 H => fnA CC31 Try.f31.results.toList (bodyOf Try.f31) _ [.agg [Cell.int .i64 s0, Cell.int .i64 s1, Cell.int .u64 s2, Cell.int .u64 s3, Cell.slice s4]] H (decF dec31)
theorem f31_eq (s0 : Int) (s1 : Int) (s2 : Int) (s3 : Int) (s4 : (Option Sl)) (H : Heap) : f31 s0 s1 s2 s3 s4 H = fnA CC31 Try.f31.results.toList (bodyOf Try.f31) _ [.agg [Cell.int .i64 s0, Cell.int .i64 s1, Cell.int .u64 s2, Cell.int .u64 s3, Cell.slice s4]] H (decF dec31) := by unfold f31; rw [hide_eq]
theorem f31_run (s0 : Int) (s1 : Int) (s2 : Int) (s3 : Int) (s4 : (Option Sl)) (H : Heap) : f31 s0 s1 s2 s3 s4 H = fnL CC31 (lpD CC31) Try.f31.results.toList (bodyOf Try.f31) [.agg [Cell.int .i64 s0, Cell.int .i64 s1, Cell.int .u64 s2, Cell.int .u64 s3, Cell.slice s4]] H (decF dec31) := (f31_eq ..).trans (fnA_lpD hN31 ..)
theorem q31 : ∀ (s0 s1 s2 s3 : Int) (s4 : Option Sl) (H : Heap), f31 s0 s1 s2 s3 s4 H = (f32 s0 s1 s2 s3 s4 H).bind fun v0 => some (!v0.fst, v0.snd) := by intros; exact (f31_run ..).trans (by kernel_rfl)
theorem ok31 : FnOk Try.prog 31 (specF enc31 (sem31 f31)) := by
  refine spec_ok (C := CC31) good31 rfl rfl rfl (by kernel_rfl) Try.func31 (c := bodyOf Try.f31) (by kernel_rfl) (by kernel_rfl) (Nat.le_of_eq Try.ntmps31.symm) dec31 enc31 de31 _ ?_
  intro args H q h
  unfold sem31 at h
  split at h
  · rw [← f31_eq]; exact h
  · cases h
/-! 58: slices_IndexFunc[[]elf_Seg,elf_Seg] -/
noncomputable def CC58 : Ctx := { P := Try.prog, own := [], fns := [(31, specF enc31 (sem31 f31))], nt := 19, nums := [], live := [(2, ⟨[0, 1, 7, 8], [], [4], []⟩)] }
theorem good58 : Callees Try.prog CC58.fns [] CC58.nums := (Callees.nil Try.prog).cons ok31 (specF_nat _ _)
theorem hN58 : CtxNat CC58 := good58.ctx rfl rfl rfl
def enc58 (r : Int) : List TV := [.c (Cell.int .i64 (r))]
def dec58 : AV → Option (Int)
  | .c (Cell.int .i64 q0) => some (q0)
  | _ => none
theorem de58 (v : AV) (r : Int) (h : dec58 v = some r) : v = oneOf (enc58 r) := by
  unfold dec58 at h
  split at h
  · cases h; rfl
  · cases h
abbrev Ty58a := (Option Sl) → Heap → Option (Int × Heap)
noncomputable def f58a : Ty58a := hide fun s H => fnA CC58 Try.f58.results.toList (bodyOf Try.f58) _ [.c (Cell.slice s), .c (Cell.fn 31 [] [])] H (decF dec58)
theorem f58a_eq (s : (Option Sl)) (H : Heap) : f58a s H = fnA CC58 Try.f58.results.toList (bodyOf Try.f58) _ [.c (Cell.slice s), .c (Cell.fn 31 [] [])] H (decF dec58) := by unfold f58a; rw [hide_eq]
theorem f58a_run (s : (Option Sl)) (H : Heap) : f58a s H = fnL CC58 (lpD CC58) Try.f58.results.toList (bodyOf Try.f58) [.c (Cell.slice s), .c (Cell.fn 31 [] [])] H (decF dec58) := (f58a_eq ..).trans (fnA_lpD hN58 ..)
def S58a_2 (t0 : (Option Sl)) (t7 : Int) (t8 : Int) (H : Heap) : St := ⟨[(0, .c (Cell.slice t0)), (1, .c (Cell.fn 31 [] [])), (7, .c (Cell.int .i64 t7)), (8, .c (Cell.int .i64 t8))], [], H⟩
noncomputable def D58a_2 (n : Nat) (t0 : (Option Sl)) (t7 : Int) (t8 : Int) (H : Heap) : Option (AExit × St) := loopN (exec CC58 (Code.l (Code.l (Code.r (Code.l (Code.r (bodyOf Try.f58))))))) (keepOf CC58.live (Code.l (Code.l (Code.r (Code.l (Code.r (bodyOf Try.f58))))))) n (S58a_2 t0 t7 t8 H) retD
noncomputable def LL58a_2 (t0 : (Option Sl)) (t7 : Int) (t8 : Int) (H : Heap) : Option (AExit × St) := loopsD CC58 (Code.l (Code.l (Code.r (Code.l (Code.r (bodyOf Try.f58)))))) (S58a_2 t0 t7 t8 H)
theorem LL58a_2_of (m : Nat) (hm : m < 18446744073709551616) (t0 : (Option Sl)) (t7 : Int) (t8 : Int) (H : Heap) : ∃ n, LL58a_2 t0 t7 t8 H = D58a_2 (n + m + 1) t0 t7 t8 H := loopsD_of _ _ _ m hm
def X58a_2 (x0 : Int) (H : Heap) : St := { env := [(4, AV.c (Cell.int IntKind.i64 x0))], loc := [], heap := H }
def X58a_2a (H : Heap) : St := { env := [], loc := [], heap := H }
noncomputable def J58a_2 : AExit × St → Option (Int × Heap) := fun p => blockK 0 (seqK (execL CC58 (lpD CC58) (Code.r (Code.r (bodyOf Try.f58)))) (retA CC58 [ResultVar.tmp 4] (decF dec58))) p.fst p.snd
theorem D58a_2_s : ∀ (n : Nat) (t0 : Option Sl) (t7 t8 : Int) (H : Heap), D58a_2 (n + 1) t0 t7 t8 H = bif decide (t8 < t7) then t0.bind fun v11 => bif inb t8 v11.len && v11.esz == 5 then (H.get v11.id (v11.off + t8.toNat * 5)).bind fun v10 => (H.get v11.id (v11.off + t8.toNat * 5 + 1)).bind fun v9 => (H.get v11.id (v11.off + t8.toNat * 5 + 1 + 1)).bind fun v8 => (H.get v11.id (v11.off + t8.toNat * 5 + 1 + 1 + 1)).bind fun v7 => (H.get v11.id (v11.off + t8.toNat * 5 + 1 + 1 + 1 + 1)).bind fun v6 => (Cell.toInt IntKind.i64 v10).bind fun v5 => (Cell.toInt IntKind.i64 v9).bind fun v4 => (Cell.toInt IntKind.u64 v8).bind fun v3 => (Cell.toInt IntKind.u64 v7).bind fun v2 => v6.toSlice.bind fun v1 => (f31 v5 v4 v3 v2 v1 H).bind fun v0 => bif v0.fst then some (AExit.ret, X58a_2 t8 v0.snd) else D58a_2 n t0 t7 (IntKind.i64.wrap (t8 + 1)) v0.snd else none else some (AExit.exit 0, X58a_2a H) := by intros; exact (loopN_stepD hN58 _ _ _ _).trans (by kernel_rfl)
theorem q58a : ∀ (s : Option Sl) (H : Heap), f58a s H = (LL58a_2 s (slen s) 0 H).bind J58a_2 := by intros; exact (f58a_run ..).trans (by kernel_rfl)
theorem J58a_2_0 : ∀ (x0 : Int) (H : Heap), J58a_2 (AExit.ret, X58a_2 x0 H) = some (x0, H) := by intros; kernel_rfl
theorem J58a_2_1 : ∀ (H : Heap), J58a_2 (AExit.exit 0, X58a_2a H) = some (-1, H) := by intros; kernel_rfl
noncomputable def sem58 (_ : Unit) : List TV → Heap → Option (Int × Heap)
  | [.c (Cell.slice s), .c (Cell.fn 31 [] [])], H => f58a s H
  | _, _ => none
def f58 : Unit := ()
theorem ok58 : FnOk Try.prog 58 (specF enc58 (sem58 f58)) := by
  refine spec_ok (C := CC58) good58 rfl rfl rfl (by kernel_rfl) Try.func58 (c := bodyOf Try.f58) (by kernel_rfl) (by kernel_rfl) (Nat.le_of_eq Try.ntmps58.symm) dec58 enc58 de58 _ ?_
  intro args H q h
  unfold sem58 at h
  split at h
  · rw [← f58a_eq]; exact h
  · cases h
/-! 30: slices_ContainsFunc[[]elf_Seg,elf_Seg] -/
noncomputable def CC30 : Ctx := { P := Try.prog, own := [], fns := [(31, specF enc31 (sem31 f31)), (58, specF enc58 (sem58 f58))], nt := 9, nums := [], live := [] }
theorem good30 : Callees Try.prog CC30.fns [] CC30.nums := ((Callees.nil Try.prog).cons ok58 (specF_nat _ _)).cons ok31 (specF_nat _ _)
theorem hN30 : CtxNat CC30 := good30.ctx rfl rfl rfl
def enc30 (r : Bool) : List TV := [.c (Cell.bool (r))]
def dec30 : AV → Option (Bool)
  | .c (Cell.bool q0) => some (q0)
  | _ => none
theorem de30 (v : AV) (r : Bool) (h : dec30 v = some r) : v = oneOf (enc30 r) := by
  unfold dec30 at h
  split at h
  · cases h; rfl
  · cases h
abbrev Ty30a := (Option Sl) → Heap → Option (Bool × Heap)
noncomputable def f30a : Ty30a := hide fun s H => fnA CC30 Try.f30.results.toList (bodyOf Try.f30) _ [.c (Cell.slice s), .c (Cell.fn 31 [] [])] H (decF dec30)
theorem f30a_eq (s : (Option Sl)) (H : Heap) : f30a s H = fnA CC30 Try.f30.results.toList (bodyOf Try.f30) _ [.c (Cell.slice s), .c (Cell.fn 31 [] [])] H (decF dec30) := by unfold f30a; rw [hide_eq]
theorem f30a_run (s : (Option Sl)) (H : Heap) : f30a s H = fnL CC30 (lpD CC30) Try.f30.results.toList (bodyOf Try.f30) [.c (Cell.slice s), .c (Cell.fn 31 [] [])] H (decF dec30) := (f30a_eq ..).trans (fnA_lpD hN30 ..)
theorem q30a : ∀ (s : Option Sl) (H : Heap), f30a s H = (f58a s H).bind fun v0 => some (decide (v0.fst ≥ 0), v0.snd) := by intros; exact (f30a_run ..).trans (by kernel_rfl)
noncomputable def sem30 (_ : Unit) : List TV → Heap → Option (Bool × Heap)
  | [.c (Cell.slice s), .c (Cell.fn 31 [] [])], H => f30a s H
  | _, _ => none
def f30 : Unit := ()
theorem ok30 : FnOk Try.prog 30 (specF enc30 (sem30 f30)) := by
  refine spec_ok (C := CC30) good30 rfl rfl rfl (by kernel_rfl) Try.func30 (c := bodyOf Try.f30) (by kernel_rfl) (by kernel_rfl) (Nat.le_of_eq Try.ntmps30.symm) dec30 enc30 de30 _ ?_
  intro args H q h
  unfold sem30 at h
  split at h
  · rw [← f30a_eq]; exact h
  · cases h
/-! 35: elf_Sym_may -/
noncomputable def CC35 : Ctx := { P := Try.prog, own := [1], fns := [(60, F60)], nt := 23, nums := [60], live := [] }
theorem good35 : Callees Try.prog CC35.fns [] CC35.nums := (Callees.nil Try.prog).cons_num ok60 F60_num
theorem hN35 : CtxNat CC35 := good35.ctx rfl rfl rfl
def enc35 (r : Bool) : List TV := [.c (Cell.bool (r))]
def dec35 : AV → Option (Bool)
  | .c (Cell.bool q0) => some (q0)
  | _ => none
theorem de35 (v : AV) (r : Bool) (h : dec35 v = some r) : v = oneOf (enc35 r) := by
  unfold dec35 at h
  split at h
  · cases h; rfl
  · cases h
abbrev Ty35 := ByteArray → Int → Int → Int → Heap → Option (Bool × Heap)
def sem35 (f : Ty35) : List TV → Heap → Option (Bool × Heap)
  | [.agg [Cell.str s0, Cell.int .i64 s1, Cell.int .u64 s2, Cell.int .u64 s3]], H => f s0 s1 s2 s3 H
  | _, _ => none
noncomputable def f35 : Ty35 := hide fun s0 s1 s2 s3 H => fnA CC35 Try.f35.results.toList (bodyOf Try.f35) _ [.agg [Cell.str s0, Cell.int .i64 s1, Cell.int .u64 s2, Cell.int .u64 s3]] H (decF dec35)
theorem f35_eq (s0 : ByteArray) (s1 : Int) (s2 : Int) (s3 : Int) (H : Heap) : f35 s0 s1 s2 s3 H = fnA CC35 Try.f35.results.toList (bodyOf Try.f35) _ [.agg [Cell.str s0, Cell.int .i64 s1, Cell.int .u64 s2, Cell.int .u64 s3]] H (decF dec35) := by unfold f35; rw [hide_eq]
theorem f35_run (s0 : ByteArray) (s1 : Int) (s2 : Int) (s3 : Int) (H : Heap) : f35 s0 s1 s2 s3 H = fnL CC35 (lpD CC35) Try.f35.results.toList (bodyOf Try.f35) [.agg [Cell.str s0, Cell.int .i64 s1, Cell.int .u64 s2, Cell.int .u64 s3]] H (decF dec35) := (f35_eq ..).trans (fnA_lpD hN35 ..)
theorem q35 : ∀ (s0 : ByteArray) (s1 s2 s3 : Int) (H : Heap), f35 s0 s1 s2 s3 H = bif decide ((↑s0.size : Int) ≤ 32) then bif decide (strings_IndexByte s0 0 < 0) then bif decide (s1 ≥ 0) then some (decide (s1 ≤ 2), H) else some (false, H) else some (false, H) else some (false, H) := by intros; exact (f35_run ..).trans (by kernel_rfl)
theorem ok35 : FnOk Try.prog 35 (specF enc35 (sem35 f35)) := by
  refine spec_ok (C := CC35) good35 rfl rfl rfl (by kernel_rfl) Try.func35 (c := bodyOf Try.f35) (by kernel_rfl) (by kernel_rfl) (Nat.le_of_eq Try.ntmps35.symm) dec35 enc35 de35 _ ?_
  intro args H q h
  unfold sem35 at h
  split at h
  · rw [← f35_eq]; exact h
  · cases h
/-! 34: elf_May$2 -/
noncomputable def CC34 : Ctx := { P := Try.prog, own := [1], fns := [(35, specF enc35 (sem35 f35))], nt := 6, nums := [], live := [] }
theorem good34 : Callees Try.prog CC34.fns [] CC34.nums := (Callees.nil Try.prog).cons ok35 (specF_nat _ _)
theorem hN34 : CtxNat CC34 := good34.ctx rfl rfl rfl
def enc34 (r : Bool) : List TV := [.c (Cell.bool (r))]
def dec34 : AV → Option (Bool)
  | .c (Cell.bool q0) => some (q0)
  | _ => none
theorem de34 (v : AV) (r : Bool) (h : dec34 v = some r) : v = oneOf (enc34 r) := by
  unfold dec34 at h
  split at h
  · cases h; rfl
  · cases h
abbrev Ty34 := ByteArray → Int → Int → Int → Heap → Option (Bool × Heap)
def sem34 (f : Ty34) : List TV → Heap → Option (Bool × Heap)
  | [.agg [Cell.str s0, Cell.int .i64 s1, Cell.int .u64 s2, Cell.int .u64 s3]], H => f s0 s1 s2 s3 H
  | _, _ => none
noncomputable def f34 : Ty34 := hide fun s0 s1 s2 s3 H => fnA CC34 Try.f34.results.toList (bodyOf Try.f34) _ [.agg [Cell.str s0, Cell.int .i64 s1, Cell.int .u64 s2, Cell.int .u64 s3]] H (decF dec34)
theorem f34_eq (s0 : ByteArray) (s1 : Int) (s2 : Int) (s3 : Int) (H : Heap) : f34 s0 s1 s2 s3 H = fnA CC34 Try.f34.results.toList (bodyOf Try.f34) _ [.agg [Cell.str s0, Cell.int .i64 s1, Cell.int .u64 s2, Cell.int .u64 s3]] H (decF dec34) := by unfold f34; rw [hide_eq]
theorem f34_run (s0 : ByteArray) (s1 : Int) (s2 : Int) (s3 : Int) (H : Heap) : f34 s0 s1 s2 s3 H = fnL CC34 (lpD CC34) Try.f34.results.toList (bodyOf Try.f34) [.agg [Cell.str s0, Cell.int .i64 s1, Cell.int .u64 s2, Cell.int .u64 s3]] H (decF dec34) := (f34_eq ..).trans (fnA_lpD hN34 ..)
theorem q34 : ∀ (s0 : ByteArray) (s1 s2 s3 : Int) (H : Heap), f34 s0 s1 s2 s3 H = (f35 s0 s1 s2 s3 H).bind fun v0 => some (!v0.fst, v0.snd) := by intros; exact (f34_run ..).trans (by kernel_rfl)
theorem ok34 : FnOk Try.prog 34 (specF enc34 (sem34 f34)) := by
  refine spec_ok (C := CC34) good34 rfl rfl rfl (by kernel_rfl) Try.func34 (c := bodyOf Try.f34) (by kernel_rfl) (by kernel_rfl) (Nat.le_of_eq Try.ntmps34.symm) dec34 enc34 de34 _ ?_
  intro args H q h
  unfold sem34 at h
  split at h
  · rw [← f34_eq]; exact h
  · cases h
/-! 59: slices_IndexFunc[[]elf_Sym,elf_Sym] -/
noncomputable def CC59 : Ctx := { P := Try.prog, own := [], fns := [(34, specF enc34 (sem34 f34))], nt := 19, nums := [], live := [(2, ⟨[0, 1, 7, 8], [], [4], []⟩)] }
theorem good59 : Callees Try.prog CC59.fns [] CC59.nums := (Callees.nil Try.prog).cons ok34 (specF_nat _ _)
theorem hN59 : CtxNat CC59 := good59.ctx rfl rfl rfl
def enc59 (r : Int) : List TV := [.c (Cell.int .i64 (r))]
def dec59 : AV → Option (Int)
  | .c (Cell.int .i64 q0) => some (q0)
  | _ => none
theorem de59 (v : AV) (r : Int) (h : dec59 v = some r) : v = oneOf (enc59 r) := by
  unfold dec59 at h
  split at h
  · cases h; rfl
  · cases h
abbrev Ty59a := (Option Sl) → Heap → Option (Int × Heap)
noncomputable def f59a : Ty59a := hide fun s H => fnA CC59 Try.f59.results.toList (bodyOf Try.f59) _ [.c (Cell.slice s), .c (Cell.fn 34 [] [])] H (decF dec59)
theorem f59a_eq (s : (Option Sl)) (H : Heap) : f59a s H = fnA CC59 Try.f59.results.toList (bodyOf Try.f59) _ [.c (Cell.slice s), .c (Cell.fn 34 [] [])] H (decF dec59) := by unfold f59a; rw [hide_eq]
theorem f59a_run (s : (Option Sl)) (H : Heap) : f59a s H = fnL CC59 (lpD CC59) Try.f59.results.toList (bodyOf Try.f59) [.c (Cell.slice s), .c (Cell.fn 34 [] [])] H (decF dec59) := (f59a_eq ..).trans (fnA_lpD hN59 ..)
def S59a_2 (t0 : (Option Sl)) (t7 : Int) (t8 : Int) (H : Heap) : St := ⟨[(0, .c (Cell.slice t0)), (1, .c (Cell.fn 34 [] [])), (7, .c (Cell.int .i64 t7)), (8, .c (Cell.int .i64 t8))], [], H⟩
noncomputable def D59a_2 (n : Nat) (t0 : (Option Sl)) (t7 : Int) (t8 : Int) (H : Heap) : Option (AExit × St) := loopN (exec CC59 (Code.l (Code.l (Code.r (Code.l (Code.r (bodyOf Try.f59))))))) (keepOf CC59.live (Code.l (Code.l (Code.r (Code.l (Code.r (bodyOf Try.f59))))))) n (S59a_2 t0 t7 t8 H) retD
noncomputable def LL59a_2 (t0 : (Option Sl)) (t7 : Int) (t8 : Int) (H : Heap) : Option (AExit × St) := loopsD CC59 (Code.l (Code.l (Code.r (Code.l (Code.r (bodyOf Try.f59)))))) (S59a_2 t0 t7 t8 H)
theorem LL59a_2_of (m : Nat) (hm : m < 18446744073709551616) (t0 : (Option Sl)) (t7 : Int) (t8 : Int) (H : Heap) : ∃ n, LL59a_2 t0 t7 t8 H = D59a_2 (n + m + 1) t0 t7 t8 H := loopsD_of _ _ _ m hm
def X59a_2 (x0 : Int) (H : Heap) : St := { env := [(4, AV.c (Cell.int IntKind.i64 x0))], loc := [], heap := H }
def X59a_2a (H : Heap) : St := { env := [], loc := [], heap := H }
noncomputable def J59a_2 : AExit × St → Option (Int × Heap) := fun p => blockK 0 (seqK (execL CC59 (lpD CC59) (Code.r (Code.r (bodyOf Try.f59)))) (retA CC59 [ResultVar.tmp 4] (decF dec59))) p.fst p.snd
theorem D59a_2_s : ∀ (n : Nat) (t0 : Option Sl) (t7 t8 : Int) (H : Heap), D59a_2 (n + 1) t0 t7 t8 H = bif decide (t8 < t7) then t0.bind fun v9 => bif inb t8 v9.len && v9.esz == 4 then (H.get v9.id (v9.off + t8.toNat * 4)).bind fun v8 => (H.get v9.id (v9.off + t8.toNat * 4 + 1)).bind fun v7 => (H.get v9.id (v9.off + t8.toNat * 4 + 1 + 1)).bind fun v6 => (H.get v9.id (v9.off + t8.toNat * 4 + 1 + 1 + 1)).bind fun v5 => v8.toStr.bind fun v4 => (Cell.toInt IntKind.i64 v7).bind fun v3 => (Cell.toInt IntKind.u64 v6).bind fun v2 => (Cell.toInt IntKind.u64 v5).bind fun v1 => (f34 v4 v3 v2 v1 H).bind fun v0 => bif v0.fst then some (AExit.ret, X59a_2 t8 v0.snd) else D59a_2 n t0 t7 (IntKind.i64.wrap (t8 + 1)) v0.snd else none else some (AExit.exit 0, X59a_2a H) := by intros; exact (loopN_stepD hN59 _ _ _ _).trans (by kernel_rfl)
theorem q59a : ∀ (s : Option Sl) (H : Heap), f59a s H = (LL59a_2 s (slen s) 0 H).bind J59a_2 := by intros; exact (f59a_run ..).trans (by kernel_rfl)
theorem J59a_2_0 : ∀ (x0 : Int) (H : Heap), J59a_2 (AExit.ret, X59a_2 x0 H) = some (x0, H) := by intros; kernel_rfl
theorem J59a_2_1 : ∀ (H : Heap), J59a_2 (AExit.exit 0, X59a_2a H) = some (-1, H) := by intros; kernel_rfl
noncomputable def sem59 (_ : Unit) : List TV → Heap → Option (Int × Heap)
  | [.c (Cell.slice s), .c (Cell.fn 34 [] [])], H => f59a s H
  | _, _ => none
def f59 : Unit := ()
theorem ok59 : FnOk Try.prog 59 (specF enc59 (sem59 f59)) := by
  refine spec_ok (C := CC59) good59 rfl rfl rfl (by kernel_rfl) Try.func59 (c := bodyOf Try.f59) (by kernel_rfl) (by kernel_rfl) (Nat.le_of_eq Try.ntmps59.symm) dec59 enc59 de59 _ ?_
  intro args H q h
  unfold sem59 at h
  split at h
  · rw [← f59a_eq]; exact h
  · cases h
/-! 33: slices_ContainsFunc[[]elf_Sym,elf_Sym] -/
noncomputable def CC33 : Ctx := { P := Try.prog, own := [], fns := [(34, specF enc34 (sem34 f34)), (59, specF enc59 (sem59 f59))], nt := 9, nums := [], live := [] }
theorem good33 : Callees Try.prog CC33.fns [] CC33.nums := ((Callees.nil Try.prog).cons ok59 (specF_nat _ _)).cons ok34 (specF_nat _ _)
theorem hN33 : CtxNat CC33 := good33.ctx rfl rfl rfl
def enc33 (r : Bool) : List TV := [.c (Cell.bool (r))]
def dec33 : AV → Option (Bool)
  | .c (Cell.bool q0) => some (q0)
  | _ => none
theorem de33 (v : AV) (r : Bool) (h : dec33 v = some r) : v = oneOf (enc33 r) := by
  unfold dec33 at h
  split at h
  · cases h; rfl
  · cases h
abbrev Ty33a := (Option Sl) → Heap → Option (Bool × Heap)
noncomputable def f33a : Ty33a := hide fun s H => fnA CC33 Try.f33.results.toList (bodyOf Try.f33) _ [.c (Cell.slice s), .c (Cell.fn 34 [] [])] H (decF dec33)
theorem f33a_eq (s : (Option Sl)) (H : Heap) : f33a s H = fnA CC33 Try.f33.results.toList (bodyOf Try.f33) _ [.c (Cell.slice s), .c (Cell.fn 34 [] [])] H (decF dec33) := by unfold f33a; rw [hide_eq]
theorem f33a_run (s : (Option Sl)) (H : Heap) : f33a s H = fnL CC33 (lpD CC33) Try.f33.results.toList (bodyOf Try.f33) [.c (Cell.slice s), .c (Cell.fn 34 [] [])] H (decF dec33) := (f33a_eq ..).trans (fnA_lpD hN33 ..)
theorem q33a : ∀ (s : Option Sl) (H : Heap), f33a s H = (f59a s H).bind fun v0 => some (decide (v0.fst ≥ 0), v0.snd) := by intros; exact (f33a_run ..).trans (by kernel_rfl)
noncomputable def sem33 (_ : Unit) : List TV → Heap → Option (Bool × Heap)
  | [.c (Cell.slice s), .c (Cell.fn 34 [] [])], H => f33a s H
  | _, _ => none
def f33 : Unit := ()
theorem ok33 : FnOk Try.prog 33 (specF enc33 (sem33 f33)) := by
  refine spec_ok (C := CC33) good33 rfl rfl rfl (by kernel_rfl) Try.func33 (c := bodyOf Try.f33) (by kernel_rfl) (by kernel_rfl) (Nat.le_of_eq Try.ntmps33.symm) dec33 enc33 de33 _ ?_
  intro args H q h
  unfold sem33 at h
  split at h
  · rw [← f33a_eq]; exact h
  · cases h
/-! 37: elf_May$3 -/
noncomputable def CC37 : Ctx := { P := Try.prog, own := [2], fns := [], nt := 15, nums := [], live := [] }
theorem good37 : Callees Try.prog CC37.fns [] CC37.nums := Callees.nil Try.prog
theorem hN37 : CtxNat CC37 := good37.ctx rfl rfl rfl
def enc37 (r : Bool) : List TV := [.c (Cell.bool (r))]
def dec37 : AV → Option (Bool)
  | .c (Cell.bool q0) => some (q0)
  | _ => none
theorem de37 (v : AV) (r : Bool) (h : dec37 v = some r) : v = oneOf (enc37 r) := by
  unfold dec37 at h
  split at h
  · cases h; rfl
  · cases h
abbrev Ty37 := Int → Int → Int → (Option (Nat × Nat)) → Heap → Option (Bool × Heap)
def sem37 (f : Ty37) : List TV → Heap → Option (Bool × Heap)
  | [.agg [Cell.int .u64 r0, Cell.int .i64 r1, Cell.int .i64 r2], .c (Cell.ptr c0)], H => f r0 r1 r2 c0 H
  | _, _ => none
noncomputable def f37 : Ty37 := hide fun r0 r1 r2 c0 H => fnA CC37 Try.f37.results.toList (bodyOf Try.f37) _ [.agg [Cell.int .u64 r0, Cell.int .i64 r1, Cell.int .i64 r2], .c (Cell.ptr c0)] H (decF dec37)
theorem f37_eq (r0 : Int) (r1 : Int) (r2 : Int) (c0 : (Option (Nat × Nat))) (H : Heap) : f37 r0 r1 r2 c0 H = fnA CC37 Try.f37.results.toList (bodyOf Try.f37) _ [.agg [Cell.int .u64 r0, Cell.int .i64 r1, Cell.int .i64 r2], .c (Cell.ptr c0)] H (decF dec37) := by unfold f37; rw [hide_eq]
theorem f37_run (r0 : Int) (r1 : Int) (r2 : Int) (c0 : (Option (Nat × Nat))) (H : Heap) : f37 r0 r1 r2 c0 H = fnL CC37 (lpD CC37) Try.f37.results.toList (bodyOf Try.f37) [.agg [Cell.int .u64 r0, Cell.int .i64 r1, Cell.int .i64 r2], .c (Cell.ptr c0)] H (decF dec37) := (f37_eq ..).trans (fnA_lpD hN37 ..)
theorem q37 : ∀ (r0 r1 r2 : Int) (c0 : Option (Nat × Nat)) (H : Heap), f37 r0 r1 r2 c0 H = bif decide (r1 < 0) then some (true, H) else c0.bind fun v2 => (H.get v2.fst (v2.snd + 3)).bind fun v1 => v1.toSlice.bind fun v0 => some (decide (r1 ≥ slen v0), H) := by intros; exact (f37_run ..).trans (by kernel_rfl)
theorem ok37 : FnOk Try.prog 37 (specF enc37 (sem37 f37)) := by
  refine spec_ok (C := CC37) good37 rfl rfl rfl (by kernel_rfl) Try.func37 (c := bodyOf Try.f37) (by kernel_rfl) (by kernel_rfl) (Nat.le_of_eq Try.ntmps37.symm) dec37 enc37 de37 _ ?_
  intro args H q h
  unfold sem37 at h
  split at h
  · rw [← f37_eq]; exact h
  · cases h
/-! 61: slices_IndexFunc[[]elf_Rel,elf_Rel] -/
noncomputable def CC61 : Ctx := { P := Try.prog, own := [], fns := [(37, specF enc37 (sem37 f37))], nt := 19, nums := [], live := [(2, ⟨[0, 1, 7, 8], [], [4], []⟩)] }
theorem good61 : Callees Try.prog CC61.fns [] CC61.nums := (Callees.nil Try.prog).cons ok37 (specF_nat _ _)
theorem hN61 : CtxNat CC61 := good61.ctx rfl rfl rfl
def enc61 (r : Int) : List TV := [.c (Cell.int .i64 (r))]
def dec61 : AV → Option (Int)
  | .c (Cell.int .i64 q0) => some (q0)
  | _ => none
theorem de61 (v : AV) (r : Int) (h : dec61 v = some r) : v = oneOf (enc61 r) := by
  unfold dec61 at h
  split at h
  · cases h; rfl
  · cases h
abbrev Ty61a := (Option Sl) → (Option (Nat × Nat)) → Heap → Option (Int × Heap)
noncomputable def f61a : Ty61a := hide fun s q H => fnA CC61 Try.f61.results.toList (bodyOf Try.f61) _ [.c (Cell.slice s), .c (Cell.fn 37 [] [Cell.ptr q])] H (decF dec61)
theorem f61a_eq (s : (Option Sl)) (q : (Option (Nat × Nat))) (H : Heap) : f61a s q H = fnA CC61 Try.f61.results.toList (bodyOf Try.f61) _ [.c (Cell.slice s), .c (Cell.fn 37 [] [Cell.ptr q])] H (decF dec61) := by unfold f61a; rw [hide_eq]
theorem f61a_run (s : (Option Sl)) (q : (Option (Nat × Nat))) (H : Heap) : f61a s q H = fnL CC61 (lpD CC61) Try.f61.results.toList (bodyOf Try.f61) [.c (Cell.slice s), .c (Cell.fn 37 [] [Cell.ptr q])] H (decF dec61) := (f61a_eq ..).trans (fnA_lpD hN61 ..)
def S61a_2 (t0 : (Option Sl)) (q : (Option (Nat × Nat))) (t7 : Int) (t8 : Int) (H : Heap) : St := ⟨[(0, .c (Cell.slice t0)), (1, .c (Cell.fn 37 [] [Cell.ptr q])), (7, .c (Cell.int .i64 t7)), (8, .c (Cell.int .i64 t8))], [], H⟩
noncomputable def D61a_2 (n : Nat) (t0 : (Option Sl)) (q : (Option (Nat × Nat))) (t7 : Int) (t8 : Int) (H : Heap) : Option (AExit × St) := loopN (exec CC61 (Code.l (Code.l (Code.r (Code.l (Code.r (bodyOf Try.f61))))))) (keepOf CC61.live (Code.l (Code.l (Code.r (Code.l (Code.r (bodyOf Try.f61))))))) n (S61a_2 t0 q t7 t8 H) retD
noncomputable def LL61a_2 (t0 : (Option Sl)) (q : (Option (Nat × Nat))) (t7 : Int) (t8 : Int) (H : Heap) : Option (AExit × St) := loopsD CC61 (Code.l (Code.l (Code.r (Code.l (Code.r (bodyOf Try.f61)))))) (S61a_2 t0 q t7 t8 H)
theorem LL61a_2_of (m : Nat) (hm : m < 18446744073709551616) (t0 : (Option Sl)) (q : (Option (Nat × Nat))) (t7 : Int) (t8 : Int) (H : Heap) : ∃ n, LL61a_2 t0 q t7 t8 H = D61a_2 (n + m + 1) t0 q t7 t8 H := loopsD_of _ _ _ m hm
def X61a_2 (x0 : Int) (H : Heap) : St := { env := [(4, AV.c (Cell.int IntKind.i64 x0))], loc := [], heap := H }
def X61a_2a (H : Heap) : St := { env := [], loc := [], heap := H }
noncomputable def J61a_2 : AExit × St → Option (Int × Heap) := fun p => blockK 0 (seqK (execL CC61 (lpD CC61) (Code.r (Code.r (bodyOf Try.f61)))) (retA CC61 [ResultVar.tmp 4] (decF dec61))) p.fst p.snd
theorem D61a_2_s : ∀ (n : Nat) (t0 : Option Sl) (q : Option (Nat × Nat)) (t7 t8 : Int) (H : Heap), D61a_2 (n + 1) t0 q t7 t8 H = bif decide (t8 < t7) then t0.bind fun v7 => bif inb t8 v7.len && v7.esz == 3 then (H.get v7.id (v7.off + t8.toNat * 3)).bind fun v6 => (H.get v7.id (v7.off + t8.toNat * 3 + 1)).bind fun v5 => (H.get v7.id (v7.off + t8.toNat * 3 + 1 + 1)).bind fun v4 => (Cell.toInt IntKind.u64 v6).bind fun v3 => (Cell.toInt IntKind.i64 v5).bind fun v2 => (Cell.toInt IntKind.i64 v4).bind fun v1 => (f37 v3 v2 v1 q H).bind fun v0 => bif v0.fst then some (AExit.ret, X61a_2 t8 v0.snd) else D61a_2 n t0 q t7 (IntKind.i64.wrap (t8 + 1)) v0.snd else none else some (AExit.exit 0, X61a_2a H) := by intros; exact (loopN_stepD hN61 _ _ _ _).trans (by kernel_rfl)
theorem q61a : ∀ (s : Option Sl) (q : Option (Nat × Nat)) (H : Heap), f61a s q H = (LL61a_2 s q (slen s) 0 H).bind J61a_2 := by intros; exact (f61a_run ..).trans (by kernel_rfl)
theorem J61a_2_0 : ∀ (x0 : Int) (H : Heap), J61a_2 (AExit.ret, X61a_2 x0 H) = some (x0, H) := by intros; kernel_rfl
theorem J61a_2_1 : ∀ (H : Heap), J61a_2 (AExit.exit 0, X61a_2a H) = some (-1, H) := by intros; kernel_rfl
noncomputable def sem61 (_ : Unit) : List TV → Heap → Option (Int × Heap)
  | [.c (Cell.slice s), .c (Cell.fn 37 [] [Cell.ptr q])], H => f61a s q H
  | _, _ => none
def f61 : Unit := ()
theorem ok61 : FnOk Try.prog 61 (specF enc61 (sem61 f61)) := by
  refine spec_ok (C := CC61) good61 rfl rfl rfl (by kernel_rfl) Try.func61 (c := bodyOf Try.f61) (by kernel_rfl) (by kernel_rfl) (Nat.le_of_eq Try.ntmps61.symm) dec61 enc61 de61 _ ?_
  intro args H q h
  unfold sem61 at h
  split at h
  · rw [← f61a_eq]; exact h
  · cases h
/-! 36: slices_ContainsFunc[[]elf_Rel,elf_Rel] -/
noncomputable def CC36 : Ctx := { P := Try.prog, own := [], fns := [(37, specF enc37 (sem37 f37)), (61, specF enc61 (sem61 f61))], nt := 9, nums := [], live := [] }
theorem good36 : Callees Try.prog CC36.fns [] CC36.nums := ((Callees.nil Try.prog).cons ok61 (specF_nat _ _)).cons ok37 (specF_nat _ _)
theorem hN36 : CtxNat CC36 := good36.ctx rfl rfl rfl
def enc36 (r : Bool) : List TV := [.c (Cell.bool (r))]
def dec36 : AV → Option (Bool)
  | .c (Cell.bool q0) => some (q0)
  | _ => none
theorem de36 (v : AV) (r : Bool) (h : dec36 v = some r) : v = oneOf (enc36 r) := by
  unfold dec36 at h
  split at h
  · cases h; rfl
  · cases h
abbrev Ty36a := (Option Sl) → (Option (Nat × Nat)) → Heap → Option (Bool × Heap)
noncomputable def f36a : Ty36a := hide fun s q H => fnA CC36 Try.f36.results.toList (bodyOf Try.f36) _ [.c (Cell.slice s), .c (Cell.fn 37 [] [Cell.ptr q])] H (decF dec36)
theorem f36a_eq (s : (Option Sl)) (q : (Option (Nat × Nat))) (H : Heap) : f36a s q H = fnA CC36 Try.f36.results.toList (bodyOf Try.f36) _ [.c (Cell.slice s), .c (Cell.fn 37 [] [Cell.ptr q])] H (decF dec36) := by unfold f36a; rw [hide_eq]
theorem f36a_run (s : (Option Sl)) (q : (Option (Nat × Nat))) (H : Heap) : f36a s q H = fnL CC36 (lpD CC36) Try.f36.results.toList (bodyOf Try.f36) [.c (Cell.slice s), .c (Cell.fn 37 [] [Cell.ptr q])] H (decF dec36) := (f36a_eq ..).trans (fnA_lpD hN36 ..)
theorem q36a : ∀ (s : Option Sl) (q : Option (Nat × Nat)) (H : Heap), f36a s q H = (f61a s q H).bind fun v0 => some (decide (v0.fst ≥ 0), v0.snd) := by intros; exact (f36a_run ..).trans (by kernel_rfl)
noncomputable def sem36 (_ : Unit) : List TV → Heap → Option (Bool × Heap)
  | [.c (Cell.slice s), .c (Cell.fn 37 [] [Cell.ptr q])], H => f36a s q H
  | _, _ => none
def f36 : Unit := ()
theorem ok36 : FnOk Try.prog 36 (specF enc36 (sem36 f36)) := by
  refine spec_ok (C := CC36) good36 rfl rfl rfl (by kernel_rfl) Try.func36 (c := bodyOf Try.f36) (by kernel_rfl) (by kernel_rfl) (Nat.le_of_eq Try.ntmps36.symm) dec36 enc36 de36 _ ?_
  intro args H q h
  unfold sem36 at h
  split at h
  · rw [← f36a_eq]; exact h
  · cases h
/-! 12: elf_May -/
noncomputable def CC12 : Ctx := { P := Try.prog, own := [], fns := [(36, specF enc36 (sem36 f36)), (37, specF enc37 (sem37 f37)), (33, specF enc33 (sem33 f33)), (30, specF enc30 (sem30 f30))], nt := 46, nums := [], live := [] }
theorem good12 : Callees Try.prog CC12.fns [] CC12.nums := ((((Callees.nil Try.prog).cons ok30 (specF_nat _ _)).cons ok33 (specF_nat _ _)).cons ok37 (specF_nat _ _)).cons ok36 (specF_nat _ _)
theorem hN12 : CtxNat CC12 := good12.ctx rfl rfl rfl
def enc12 (r : Bool) : List TV := [.c (Cell.bool (r))]
def dec12 : AV → Option (Bool)
  | .c (Cell.bool q0) => some (q0)
  | _ => none
theorem de12 (v : AV) (r : Bool) (h : dec12 v = some r) : v = oneOf (enc12 r) := by
  unfold dec12 at h
  split at h
  · cases h; rfl
  · cases h
abbrev Ty12 := Int → Int → (Option Sl) → (Option Sl) → (Option Sl) → Heap → Option (Bool × Heap)
def sem12 (f : Ty12) : List TV → Heap → Option (Bool × Heap)
  | [.agg [Cell.int .i64 x00, Cell.int .u64 x01, Cell.slice x02, Cell.slice x03, Cell.slice x04]], H => f x00 x01 x02 x03 x04 H
  | _, _ => none
noncomputable def f12 : Ty12 := hide fun x00 x01 x02 x03 x04 H => fnA CC12 Try.f12.results.toList (bodyOf Try.f12) _ [.agg [Cell.int .i64 x00, Cell.int .u64 x01, Cell.slice x02, Cell.slice x03, Cell.slice x04]] H (decF dec12)
theorem f12_eq (x00 : Int) (x01 : Int) (x02 : (Option Sl)) (x03 : (Option Sl)) (x04 : (Option Sl)) (H : Heap) : f12 x00 x01 x02 x03 x04 H = fnA CC12 Try.f12.results.toList (bodyOf Try.f12) _ [.agg [Cell.int .i64 x00, Cell.int .u64 x01, Cell.slice x02, Cell.slice x03, Cell.slice x04]] H (decF dec12) := by unfold f12; rw [hide_eq]
theorem f12_run (x00 : Int) (x01 : Int) (x02 : (Option Sl)) (x03 : (Option Sl)) (x04 : (Option Sl)) (H : Heap) : f12 x00 x01 x02 x03 x04 H = fnL CC12 (lpD CC12) Try.f12.results.toList (bodyOf Try.f12) [.agg [Cell.int .i64 x00, Cell.int .u64 x01, Cell.slice x02, Cell.slice x03, Cell.slice x04]] H (decF dec12) := (f12_eq ..).trans (fnA_lpD hN12 ..)
theorem q12 : ∀ (x00 x01 : Int) (x02 x03 x04 : Option Sl) (H : Heap), f12 x00 x01 x02 x03 x04 H = ((H ++ [Blk.row [Cell.int IntKind.i64 x00, Cell.int IntKind.u64 x01, Cell.slice x02, Cell.slice x03, Cell.slice x04] false]).get (List.length H) 0).bind fun v33 => (Cell.toInt IntKind.i64 v33).bind fun v32 => bif v32 != 62 then ((H ++ [Blk.row [Cell.int IntKind.i64 x00, Cell.int IntKind.u64 x01, Cell.slice x02, Cell.slice x03, Cell.slice x04] false]).get (List.length H) 0).bind fun v16 => (Cell.toInt IntKind.i64 v16).bind fun v15 => bif v15 != 183 then some (false, H ++ [Blk.row [Cell.int IntKind.i64 x00, Cell.int IntKind.u64 x01, Cell.slice x02, Cell.slice x03, Cell.slice x04] false]) else ((H ++ [Blk.row [Cell.int IntKind.i64 x00, Cell.int IntKind.u64 x01, Cell.slice x02, Cell.slice x03, Cell.slice x04] false]).get (List.length H) 2).bind fun v14 => v14.toSlice.bind fun v13 => bif decide (slen v13 > 24) then some (false, H ++ [Blk.row [Cell.int IntKind.i64 x00, Cell.int IntKind.u64 x01, Cell.slice x02, Cell.slice x03, Cell.slice x04] false]) else ((H ++ [Blk.row [Cell.int IntKind.i64 x00, Cell.int IntKind.u64 x01, Cell.slice x02, Cell.slice x03, Cell.slice x04] false]).get (List.length H) 3).bind fun v12 => v12.toSlice.bind fun v11 => bif decide (slen v11 > 64) then some (false, H ++ [Blk.row [Cell.int IntKind.i64 x00, Cell.int IntKind.u64 x01, Cell.slice x02, Cell.slice x03, Cell.slice x04] false]) else ((H ++ [Blk.row [Cell.int IntKind.i64 x00, Cell.int IntKind.u64 x01, Cell.slice x02, Cell.slice x03, Cell.slice x04] false]).get (List.length H) 4).bind fun v10 => v10.toSlice.bind fun v9 => bif decide (slen v9 > 64) then some (false, H ++ [Blk.row [Cell.int IntKind.i64 x00, Cell.int IntKind.u64 x01, Cell.slice x02, Cell.slice x03, Cell.slice x04] false]) else ((H ++ [Blk.row [Cell.int IntKind.i64 x00, Cell.int IntKind.u64 x01, Cell.slice x02, Cell.slice x03, Cell.slice x04] false]).get (List.length H) 2).bind fun v8 => v8.toSlice.bind fun v7 => (f30a v7 (H ++ [Blk.row [Cell.int IntKind.i64 x00, Cell.int IntKind.u64 x01, Cell.slice x02, Cell.slice x03, Cell.slice x04] false])).bind fun v6 => bif !v6.fst then (v6.snd.get (List.length H) 3).bind fun v5 => v5.toSlice.bind fun v4 => (f33a v4 v6.snd).bind fun v3 => bif !v3.fst then (v3.snd.get (List.length H) 4).bind fun v2 => v2.toSlice.bind fun v1 => (f36a v1 (some (List.length H, 0)) v3.snd).bind fun v0 => some (!v0.fst, v0.snd) else some (false, v3.snd) else some (false, v6.snd) else ((H ++ [Blk.row [Cell.int IntKind.i64 x00, Cell.int IntKind.u64 x01, Cell.slice x02, Cell.slice x03, Cell.slice x04] false]).get (List.length H) 2).bind fun v31 => v31.toSlice.bind fun v30 => bif decide (slen v30 > 24) then some (false, H ++ [Blk.row [Cell.int IntKind.i64 x00, Cell.int IntKind.u64 x01, Cell.slice x02, Cell.slice x03, Cell.slice x04] false]) else ((H ++ [Blk.row [Cell.int IntKind.i64 x00, Cell.int IntKind.u64 x01, Cell.slice x02, Cell.slice x03, Cell.slice x04] false]).get (List.length H) 3).bind fun v29 => v29.toSlice.bind fun v28 => bif decide (slen v28 > 64) then some (false, H ++ [Blk.row [Cell.int IntKind.i64 x00, Cell.int IntKind.u64 x01, Cell.slice x02, Cell.slice x03, Cell.slice x04] false]) else ((H ++ [Blk.row [Cell.int IntKind.i64 x00, Cell.int IntKind.u64 x01, Cell.slice x02, Cell.slice x03, Cell.slice x04] false]).get (List.length H) 4).bind fun v27 => v27.toSlice.bind fun v26 => bif decide (slen v26 > 64) then some (false, H ++ [Blk.row [Cell.int IntKind.i64 x00, Cell.int IntKind.u64 x01, Cell.slice x02, Cell.slice x03, Cell.slice x04] false]) else ((H ++ [Blk.row [Cell.int IntKind.i64 x00, Cell.int IntKind.u64 x01, Cell.slice x02, Cell.slice x03, Cell.slice x04] false]).get (List.length H) 2).bind fun v25 => v25.toSlice.bind fun v24 => (f30a v24 (H ++ [Blk.row [Cell.int IntKind.i64 x00, Cell.int IntKind.u64 x01, Cell.slice x02, Cell.slice x03, Cell.slice x04] false])).bind fun v23 => bif !v23.fst then (v23.snd.get (List.length H) 3).bind fun v22 => v22.toSlice.bind fun v21 => (f33a v21 v23.snd).bind fun v20 => bif !v20.fst then (v20.snd.get (List.length H) 4).bind fun v19 => v19.toSlice.bind fun v18 => (f36a v18 (some (List.length H, 0)) v20.snd).bind fun v17 => some (!v17.fst, v17.snd) else some (false, v20.snd) else some (false, v23.snd) := by intros; exact (f12_run ..).trans (by kernel_rfl)
theorem ok12 : FnOk Try.prog 12 (specF enc12 (sem12 f12)) := by
  refine spec_ok (C := CC12) good12 rfl rfl rfl (by kernel_rfl) Try.func12 (c := bodyOf Try.f12) (by kernel_rfl) (by kernel_rfl) (Nat.le_of_eq Try.ntmps12.symm) dec12 enc12 de12 _ ?_
  intro args H q h
  unfold sem12 at h
  split at h
  · rw [← f12_eq]; exact h
  · cases h
/-! 48: elf_upto -/
noncomputable def CC48 : Ctx := { P := Try.prog, own := [], fns := [], nt := 8, nums := [], live := [] }
theorem good48 : Callees Try.prog CC48.fns [] CC48.nums := Callees.nil Try.prog
theorem hN48 : CtxNat CC48 := good48.ctx rfl rfl rfl
def enc48 (r : Int) : List TV := [.c (Cell.int .i64 (r))]
def dec48 : AV → Option (Int)
  | .c (Cell.int .i64 q0) => some (q0)
  | _ => none
theorem de48 (v : AV) (r : Int) (h : dec48 v = some r) : v = oneOf (enc48 r) := by
  unfold dec48 at h
  split at h
  · cases h; rfl
  · cases h
abbrev Ty48 := Int → Heap → Option (Int × Heap)
def sem48 (f : Ty48) : List TV → Heap → Option (Int × Heap)
  | [.c (Cell.int .i64 n)], H => f n H
  | _, _ => none
noncomputable def f48 : Ty48 := hide fun n H => fnA CC48 Try.f48.results.toList (bodyOf Try.f48) _ [.c (Cell.int .i64 n)] H (decF dec48)
theorem f48_eq (n : Int) (H : Heap) : f48 n H = fnA CC48 Try.f48.results.toList (bodyOf Try.f48) _ [.c (Cell.int .i64 n)] H (decF dec48) := by unfold f48; rw [hide_eq]
theorem f48_run (n : Int) (H : Heap) : f48 n H = fnL CC48 (lpD CC48) Try.f48.results.toList (bodyOf Try.f48) [.c (Cell.int .i64 n)] H (decF dec48) := (f48_eq ..).trans (fnA_lpD hN48 ..)
theorem q48 : ∀ (n : Int) (H : Heap), f48 n H = some (IntKind.i64.wrap (IntKind.i64.wrap ((IntKind.i64.wrap (IntKind.i64.wrap (n + 16) - 1)).tdiv 16) * 16), H) := by intros; exact (f48_run ..).trans (by kernel_rfl)
theorem ok48 : FnOk Try.prog 48 (specF enc48 (sem48 f48)) := by
  refine spec_ok (C := CC48) good48 rfl rfl rfl (by kernel_rfl) Try.func48 (c := bodyOf Try.f48) (by kernel_rfl) (by kernel_rfl) (Nat.le_of_eq Try.ntmps48.symm) dec48 enc48 de48 _ ?_
  intro args H q h
  unfold sem48 at h
  split at h
  · rw [← f48_eq]; exact h
  · cases h
/-! 17: elf_size -/
noncomputable def CC17 : Ctx := { P := Try.prog, own := [1, 5, 7], fns := [(48, specF enc48 (sem48 f48))], nt := 65, nums := [], live := [(11, ⟨[1, 3, 42, 43, 44], [1], [1, 3], [1]⟩), (3, ⟨[1, 3, 14, 15, 16], [1], [1, 2, 3], [1]⟩)] }
theorem good17 : Callees Try.prog CC17.fns [] CC17.nums := (Callees.nil Try.prog).cons ok48 (specF_nat _ _)
theorem hN17 : CtxNat CC17 := good17.ctx rfl rfl rfl
def enc17 (r : Int) : List TV := [.c (Cell.int .i64 (r))]
def dec17 : AV → Option (Int)
  | .c (Cell.int .i64 q0) => some (q0)
  | _ => none
theorem de17 (v : AV) (r : Int) (h : dec17 v = some r) : v = oneOf (enc17 r) := by
  unfold dec17 at h
  split at h
  · cases h; rfl
  · cases h
abbrev Ty17 := Int → Int → (Option Sl) → (Option Sl) → (Option Sl) → Heap → Option (Int × Heap)
def sem17 (f : Ty17) : List TV → Heap → Option (Int × Heap)
  | [.agg [Cell.int .i64 x00, Cell.int .u64 x01, Cell.slice x02, Cell.slice x03, Cell.slice x04]], H => f x00 x01 x02 x03 x04 H
  | _, _ => none
noncomputable def f17 : Ty17 := hide fun x00 x01 x02 x03 x04 H => fnA CC17 Try.f17.results.toList (bodyOf Try.f17) _ [.agg [Cell.int .i64 x00, Cell.int .u64 x01, Cell.slice x02, Cell.slice x03, Cell.slice x04]] H (decF dec17)
theorem f17_eq (x00 : Int) (x01 : Int) (x02 : (Option Sl)) (x03 : (Option Sl)) (x04 : (Option Sl)) (H : Heap) : f17 x00 x01 x02 x03 x04 H = fnA CC17 Try.f17.results.toList (bodyOf Try.f17) _ [.agg [Cell.int .i64 x00, Cell.int .u64 x01, Cell.slice x02, Cell.slice x03, Cell.slice x04]] H (decF dec17) := by unfold f17; rw [hide_eq]
theorem f17_run (x00 : Int) (x01 : Int) (x02 : (Option Sl)) (x03 : (Option Sl)) (x04 : (Option Sl)) (H : Heap) : f17 x00 x01 x02 x03 x04 H = fnL CC17 (lpD CC17) Try.f17.results.toList (bodyOf Try.f17) [.agg [Cell.int .i64 x00, Cell.int .u64 x01, Cell.slice x02, Cell.slice x03, Cell.slice x04]] H (decF dec17) := (f17_eq ..).trans (fnA_lpD hN17 ..)
def S17_3 (t3 : Int) (t14 : (Option Sl)) (t15 : Int) (t16 : Int) (b1_0 : Int) (b1_1 : Int) (b1_2 : (Option Sl)) (b1_3 : (Option Sl)) (b1_4 : (Option Sl)) (H : Heap) : St := ⟨[(1, .lp 1 0), (3, .c (Cell.int .i64 t3)), (14, .c (Cell.slice t14)), (15, .c (Cell.int .i64 t15)), (16, .c (Cell.int .i64 t16))], [(1, [Cell.int .i64 b1_0, Cell.int .u64 b1_1, Cell.slice b1_2, Cell.slice b1_3, Cell.slice b1_4])], H⟩
noncomputable def D17_3 (n : Nat) (t3 : Int) (t14 : (Option Sl)) (t15 : Int) (t16 : Int) (b1_0 : Int) (b1_1 : Int) (b1_2 : (Option Sl)) (b1_3 : (Option Sl)) (b1_4 : (Option Sl)) (H : Heap) : Option (AExit × St) := loopN (exec CC17 (Code.l (Code.l (Code.r (Code.l (Code.r (Code.r (bodyOf Try.f17)))))))) (keepOf CC17.live (Code.l (Code.l (Code.r (Code.l (Code.r (Code.r (bodyOf Try.f17)))))))) n (S17_3 t3 t14 t15 t16 b1_0 b1_1 b1_2 b1_3 b1_4 H) retD
noncomputable def LL17_3 (t3 : Int) (t14 : (Option Sl)) (t15 : Int) (t16 : Int) (b1_0 : Int) (b1_1 : Int) (b1_2 : (Option Sl)) (b1_3 : (Option Sl)) (b1_4 : (Option Sl)) (H : Heap) : Option (AExit × St) := loopsD CC17 (Code.l (Code.l (Code.r (Code.l (Code.r (Code.r (bodyOf Try.f17))))))) (S17_3 t3 t14 t15 t16 b1_0 b1_1 b1_2 b1_3 b1_4 H)
theorem LL17_3_of (m : Nat) (hm : m < 18446744073709551616) (t3 : Int) (t14 : (Option Sl)) (t15 : Int) (t16 : Int) (b1_0 : Int) (b1_1 : Int) (b1_2 : (Option Sl)) (b1_3 : (Option Sl)) (b1_4 : (Option Sl)) (H : Heap) : ∃ n, LL17_3 t3 t14 t15 t16 b1_0 b1_1 b1_2 b1_3 b1_4 H = D17_3 (n + m + 1) t3 t14 t15 t16 b1_0 b1_1 b1_2 b1_3 b1_4 H := loopsD_of _ _ _ m hm
def S17_11 (t3 : Int) (t42 : (Option Sl)) (t43 : Int) (t44 : Int) (b1_0 : Int) (b1_1 : Int) (b1_2 : (Option Sl)) (b1_3 : (Option Sl)) (b1_4 : (Option Sl)) (H : Heap) : St := ⟨[(1, .lp 1 0), (3, .c (Cell.int .i64 t3)), (42, .c (Cell.slice t42)), (43, .c (Cell.int .i64 t43)), (44, .c (Cell.int .i64 t44))], [(1, [Cell.int .i64 b1_0, Cell.int .u64 b1_1, Cell.slice b1_2, Cell.slice b1_3, Cell.slice b1_4])], H⟩
noncomputable def D17_11 (n : Nat) (t3 : Int) (t42 : (Option Sl)) (t43 : Int) (t44 : Int) (b1_0 : Int) (b1_1 : Int) (b1_2 : (Option Sl)) (b1_3 : (Option Sl)) (b1_4 : (Option Sl)) (H : Heap) : Option (AExit × St) := loopN (exec CC17 (Code.l (Code.l (Code.r (Code.l (Code.r (Code.r (Code.r (Code.r (bodyOf Try.f17)))))))))) (keepOf CC17.live (Code.l (Code.l (Code.r (Code.l (Code.r (Code.r (Code.r (Code.r (bodyOf Try.f17)))))))))) n (S17_11 t3 t42 t43 t44 b1_0 b1_1 b1_2 b1_3 b1_4 H) retD
noncomputable def LL17_11 (t3 : Int) (t42 : (Option Sl)) (t43 : Int) (t44 : Int) (b1_0 : Int) (b1_1 : Int) (b1_2 : (Option Sl)) (b1_3 : (Option Sl)) (b1_4 : (Option Sl)) (H : Heap) : Option (AExit × St) := loopsD CC17 (Code.l (Code.l (Code.r (Code.l (Code.r (Code.r (Code.r (Code.r (bodyOf Try.f17))))))))) (S17_11 t3 t42 t43 t44 b1_0 b1_1 b1_2 b1_3 b1_4 H)
theorem LL17_11_of (m : Nat) (hm : m < 18446744073709551616) (t3 : Int) (t42 : (Option Sl)) (t43 : Int) (t44 : Int) (b1_0 : Int) (b1_1 : Int) (b1_2 : (Option Sl)) (b1_3 : (Option Sl)) (b1_4 : (Option Sl)) (H : Heap) : ∃ n, LL17_11 t3 t42 t43 t44 b1_0 b1_1 b1_2 b1_3 b1_4 H = D17_11 (n + m + 1) t3 t42 t43 t44 b1_0 b1_1 b1_2 b1_3 b1_4 H := loopsD_of _ _ _ m hm
def X17_11 (x0 : Int) (x1 : Int) (x2 : Int) (x3 : Option Sl) (x4 : Option Sl) (x5 : Option Sl) (H : Heap) : St := { env := [(1, AV.lp 1 0), (3, AV.c (Cell.int IntKind.i64 x0))], loc := [(1, [Cell.int IntKind.i64 x1, Cell.int IntKind.u64 x2, Cell.slice x3, Cell.slice x4, Cell.slice x5])], heap := H }
def X17_3 (x0 : Int) (x1 : Int) (x2 : Int) (x3 : Int) (x4 : Option Sl) (x5 : Option Sl) (x6 : Option Sl) (H : Heap) : St := { env := [(1, AV.lp 1 0), (2, AV.c (Cell.int IntKind.i64 x0)), (3, AV.c (Cell.int IntKind.i64 x1))], loc := [(1, [Cell.int IntKind.i64 x2, Cell.int IntKind.u64 x3, Cell.slice x4, Cell.slice x5, Cell.slice x6])], heap := H }
def X17_3a (x0 : Int) (x1 : Int) (x2 : Int) (x3 : Option Sl) (x4 : Option Sl) (x5 : Option Sl) (H : Heap) : St := { env := [(1, AV.lp 1 0), (3, AV.c (Cell.int IntKind.i64 x0))], loc := [(1, [Cell.int IntKind.i64 x1, Cell.int IntKind.u64 x2, Cell.slice x3, Cell.slice x4, Cell.slice x5])], heap := H }
noncomputable def J17_3 : AExit × St → Option (Int × Heap) := fun p => blockK 0 (seqK (execL CC17 (lpD CC17) (Code.r (Code.r (Code.r (bodyOf Try.f17))))) (retA CC17 [ResultVar.tmp 2] (decF dec17))) p.fst p.snd
noncomputable def J17_11 : AExit × St → Option (Int × Heap) := fun p => blockK 2 (seqK (execL CC17 (lpD CC17) (Code.r (Code.r (Code.r (Code.r (Code.r (bodyOf Try.f17))))))) (retA CC17 [ResultVar.tmp 2] (decF dec17))) p.fst p.snd
theorem D17_11_s : ∀ (n : Nat) (t3 : Int) (t42 : Option Sl) (t43 t44 b1_0 b1_1 : Int) (b1_2 b1_3 b1_4 : Option Sl) (H : Heap), D17_11 (n + 1) t3 t42 t43 t44 b1_0 b1_1 b1_2 b1_3 b1_4 H = bif decide (t44 < t43) then t42.bind fun v8 => bif inb t44 v8.len && v8.esz == 4 then (H.get v8.id (v8.off + t44.toNat * 4)).bind fun v7 => (H.get v8.id (v8.off + t44.toNat * 4 + 1)).bind fun v6 => (H.get v8.id (v8.off + t44.toNat * 4 + 1 + 1)).bind fun v5 => (H.get v8.id (v8.off + t44.toNat * 4 + 1 + 1 + 1)).bind fun v4 => v7.toStr.bind fun v3 => (Cell.toInt IntKind.i64 v6).bind fun v2 => (Cell.toInt IntKind.u64 v5).bind fun v1 => (Cell.toInt IntKind.u64 v4).bind fun v0 => D17_11 n (IntKind.i64.wrap (t3 + IntKind.i64.wrap ((↑v3.size : Int) + 1))) t42 t43 (IntKind.i64.wrap (t44 + 1)) b1_0 b1_1 b1_2 b1_3 b1_4 H else none else some (AExit.exit 2, X17_11 t3 b1_0 b1_1 b1_2 b1_3 b1_4 H) := by intros; exact (loopN_stepD hN17 _ _ _ _).trans (by kernel_rfl)
theorem D17_3_s : ∀ (n : Nat) (t3 : Int) (t14 : Option Sl) (t15 t16 b1_0 b1_1 : Int) (b1_2 b1_3 b1_4 : Option Sl) (H : Heap), D17_3 (n + 1) t3 t14 t15 t16 b1_0 b1_1 b1_2 b1_3 b1_4 H = bif decide (t16 < t15) then t14.bind fun v20 => bif inb t16 v20.len && v20.esz == 5 then (H.get v20.id (v20.off + t16.toNat * 5)).bind fun v19 => (H.get v20.id (v20.off + t16.toNat * 5 + 1)).bind fun v18 => (H.get v20.id (v20.off + t16.toNat * 5 + 1 + 1)).bind fun v17 => (H.get v20.id (v20.off + t16.toNat * 5 + 1 + 1 + 1)).bind fun v16 => (H.get v20.id (v20.off + t16.toNat * 5 + 1 + 1 + 1 + 1)).bind fun v15 => (Cell.toInt IntKind.i64 v19).bind fun v14 => (Cell.toInt IntKind.i64 v18).bind fun v13 => (Cell.toInt IntKind.u64 v17).bind fun v12 => (Cell.toInt IntKind.u64 v16).bind fun v11 => v15.toSlice.bind fun v10 => bif decide (slen v10 > 1048576) then some (AExit.ret, X17_3 1048577 t3 b1_0 b1_1 b1_2 b1_3 b1_4 H) else (f48 t3 H).bind fun v9 => D17_3 n (mm Builtin.min (IntKind.i64.wrap (v9.fst + slen v10)) 1048577) t14 t15 (IntKind.i64.wrap (t16 + 1)) b1_0 b1_1 b1_2 b1_3 b1_4 v9.snd else none else some (AExit.exit 0, X17_3a t3 b1_0 b1_1 b1_2 b1_3 b1_4 H) := by intros; exact (loopN_stepD hN17 _ _ _ _).trans (by kernel_rfl)
theorem q17 : ∀ (x00 x01 : Int) (x02 x03 x04 : Option Sl) (H : Heap), f17 x00 x01 x02 x03 x04 H = (LL17_3 (IntKind.i64.wrap (64 + IntKind.i64.wrap (56 * slen x02))) x02 (slen x02) 0 x00 x01 x02 x03 x04 H).bind J17_3 := by intros; exact (f17_run ..).trans (by kernel_rfl)
theorem J17_3_0 : ∀ (x0 x1 x2 x3 : Int) (x4 x5 x6 : Option Sl) (H : Heap), J17_3 (AExit.ret, X17_3 x0 x1 x2 x3 x4 x5 x6 H) = some (x0, H) := by intros; kernel_rfl
theorem J17_3_1 : ∀ (x0 x1 x2 : Int) (x3 x4 x5 : Option Sl) (H : Heap), J17_3 (AExit.exit 0, X17_3a x0 x1 x2 x3 x4 x5 H) = (f48 x0 H).bind fun v21 => (LL17_11 (IntKind.i64.wrap (IntKind.i64.wrap (v21.fst + IntKind.i64.wrap (24 * IntKind.i64.wrap (slen x4 + 1))) + 1)) x4 (slen x4) 0 x1 x2 x3 x4 x5 v21.snd).bind J17_11 := by intros; kernel_rfl
theorem J17_11_0 : ∀ (x0 x1 x2 : Int) (x3 x4 x5 : Option Sl) (H : Heap), J17_11 (AExit.exit 2, X17_11 x0 x1 x2 x3 x4 x5 H) = (f48 x0 H).bind fun v23 => (f48 (IntKind.i64.wrap (IntKind.i64.wrap (v23.fst + IntKind.i64.wrap (24 * slen x5)) + 33)) v23.snd).bind fun v22 => some (IntKind.i64.wrap (v22.fst + 320), v22.snd) := by intros; kernel_rfl
theorem ok17 : FnOk Try.prog 17 (specF enc17 (sem17 f17)) := by
  refine spec_ok (C := CC17) good17 rfl rfl rfl (by kernel_rfl) Try.func17 (c := bodyOf Try.f17) (by kernel_rfl) (by kernel_rfl) (Nat.le_of_eq Try.ntmps17.symm) dec17 enc17 de17 _ ?_
  intro args H q h
  unfold sem17 at h
  split at h
  · rw [← f17_eq]; exact h
  · cases h
/-! 19: elf_writer_head -/
noncomputable def CC19 : Ctx := { P := Try.prog, own := [], fns := [(50, specF enc50 (sem50 f50)), (49, specF enc49 (sem49 f49))], nt := 58, nums := [], live := [] }
theorem good19 : Callees Try.prog CC19.fns [] CC19.nums := ((Callees.nil Try.prog).cons ok49 (specF_nat _ _)).cons ok50 (specF_nat _ _)
theorem hN19 : CtxNat CC19 := good19.ctx rfl rfl rfl
def enc19 (r : Unit) : List TV := []
def dec19 : AV → Option (Unit)
  | .tup [] => some ()
  | _ => none
theorem de19 (v : AV) (r : Unit) (h : dec19 v = some r) : v = oneOf (enc19 r) := by
  unfold dec19 at h
  split at h
  · cases h; rfl
  · cases h
abbrev Ty19 := (Option (Nat × Nat)) → Heap → Option (Unit × Heap)
def sem19 (f : Ty19) : List TV → Heap → Option (Unit × Heap)
  | [.c (Cell.ptr w)], H => f w H
  | _, _ => none
noncomputable def f19 : Ty19 := hide fun w H => fnA CC19 Try.f19.results.toList (bodyOf Try.f19) _ [.c (Cell.ptr w)] H (decF dec19)
theorem f19_eq (w : (Option (Nat × Nat))) (H : Heap) : f19 w H = fnA CC19 Try.f19.results.toList (bodyOf Try.f19) _ [.c (Cell.ptr w)] H (decF dec19) := by unfold f19; rw [hide_eq]
theorem f19_run (w : (Option (Nat × Nat))) (H : Heap) : f19 w H = fnL CC19 (lpD CC19) Try.f19.results.toList (bodyOf Try.f19) [.c (Cell.ptr w)] H (decF dec19) := (f19_eq ..).trans (fnA_lpD hN19 ..)
theorem q19 : ∀ (w : Option (Nat × Nat)) (H : Heap), f19 w H = w.bind fun v35 => ((H ++ [Blk.hole, Blk.hole, Blk.hole]).get v35.fst (v35.snd + 0)).bind fun v34 => v34.toPtr.bind fun v33 => ((H ++ [Blk.hole, Blk.hole, Blk.hole]).fill (List.length H + 0) (Blk.row [Cell.int IntKind.u8 127, Cell.int IntKind.u8 69, Cell.int IntKind.u8 76, Cell.int IntKind.u8 70, Cell.int IntKind.u8 2, Cell.int IntKind.u8 1, Cell.int IntKind.u8 1] false)).bind fun v32 => (v32.fill (List.length H + 1) (Blk.row [Cell.int IntKind.u8 0, Cell.int IntKind.u8 0, Cell.int IntKind.u8 0, Cell.int IntKind.u8 0, Cell.int IntKind.u8 0, Cell.int IntKind.u8 0, Cell.int IntKind.u8 0, Cell.int IntKind.u8 0, Cell.int IntKind.u8 0] false)).bind fun v31 => (v31.fill (List.length H + 2) (Blk.row [Cell.slice (some { id := List.length H + 0, off := 0, len := 7, cap := 7, esz := 1 }), Cell.slice (some { id := List.length H + 1, off := 0, len := 9, cap := 9, esz := 1 })] false)).bind fun v30 => (f49 v33 (some { id := List.length H + 2, off := 0, len := 2, cap := 2, esz := 1 }) v30).bind fun v29 => w.bind fun v28 => (v29.snd.get v28.fst (v28.snd + 0)).bind fun v27 => v27.toPtr.bind fun v26 => w.bind fun v25 => (v29.snd.get v25.fst (v25.snd + 1 + 0)).bind fun v24 => (Cell.toInt IntKind.i64 v24).bind fun v23 => (f50 v26 2 (some { id := List.length v29.snd, off := 0, len := 2, cap := 2, esz := 1 }) (v29.snd ++ [Blk.row [Cell.int IntKind.u64 2, Cell.int IntKind.u64 (IntKind.u64.wrap v23)] false])).bind fun v22 => w.bind fun v21 => (v22.snd.get v21.fst (v21.snd + 0)).bind fun v20 => v20.toPtr.bind fun v19 => (f50 v19 4 (some { id := List.length v22.snd, off := 0, len := 1, cap := 1, esz := 1 }) (v22.snd ++ [Blk.row [Cell.int IntKind.u64 1] false])).bind fun v18 => w.bind fun v17 => (v18.snd.get v17.fst (v17.snd + 0)).bind fun v16 => v16.toPtr.bind fun v15 => w.bind fun v14 => (v18.snd.get v14.fst (v14.snd + 1 + 1)).bind fun v13 => (Cell.toInt IntKind.u64 v13).bind fun v12 => (f50 v15 8 (some { id := List.length v18.snd, off := 0, len := 3, cap := 3, esz := 1 }) (v18.snd ++ [Blk.row [Cell.int IntKind.u64 v12, Cell.int IntKind.u64 64, Cell.int IntKind.u64 0] false])).bind fun v11 => w.bind fun v10 => (v11.snd.get v10.fst (v10.snd + 0)).bind fun v9 => v9.toPtr.bind fun v8 => (f50 v8 4 (some { id := List.length v11.snd, off := 0, len := 1, cap := 1, esz := 1 }) (v11.snd ++ [Blk.row [Cell.int IntKind.u64 0] false])).bind fun v7 => w.bind fun v6 => (v7.snd.get v6.fst (v6.snd + 0)).bind fun v5 => v5.toPtr.bind fun v4 => w.bind fun v3 => (v7.snd.get v3.fst (v3.snd + 1 + 2)).bind fun v2 => v2.toSlice.bind fun v1 => (f50 v4 2 (some { id := List.length v7.snd, off := 0, len := 6, cap := 6, esz := 1 }) (v7.snd ++ [Blk.row [Cell.int IntKind.u64 64, Cell.int IntKind.u64 56, Cell.int IntKind.u64 (IntKind.u64.wrap (slen v1)), Cell.int IntKind.u64 64, Cell.int IntKind.u64 5, Cell.int IntKind.u64 4] false])).bind fun v0 => some ((), v0.snd) := by intros; exact (f19_run ..).trans (by kernel_rfl)
theorem ok19 : FnOk Try.prog 19 (specF enc19 (sem19 f19)) := by
  refine spec_ok (C := CC19) good19 rfl rfl rfl (by kernel_rfl) Try.func19 (c := bodyOf Try.f19) (by kernel_rfl) (by kernel_rfl) (Nat.le_of_eq Try.ntmps19.symm) dec19 enc19 de19 _ ?_
  intro args H q h
  unfold sem19 at h
  split at h
  · rw [← f19_eq]; exact h
  · cases h
/-! 20: elf_writer_segs -/
noncomputable def CC20 : Ctx := { P := Try.prog, own := [4], fns := [(51, readF enc51 (semR51 g51)), (53, specF enc53 (sem53 f53)), (52, specF enc52 (sem52 f52)), (49, specF enc49 (sem49 f49))], nt := 110, pures := [51], nums := [], live := [(10, ⟨[0, 2, 4, 5, 31, 32, 33, 82, 83, 84], [4], [0, 2, 4, 31, 32, 33], [4]⟩), (3, ⟨[0, 2, 31, 32, 33], [], [], []⟩)] }
theorem good20 : Callees Try.prog CC20.fns CC20.pures CC20.nums := ((((Callees.nil Try.prog).cons ok49 (specF_nat _ _)).cons ok52 (specF_nat _ _)).cons ok53 (specF_nat _ _)).cons_pure okR51 (readF_pure _ _)
theorem hN20 : CtxNat CC20 := good20.ctx rfl rfl rfl
def enc20 (r : Unit) : List TV := []
def dec20 : AV → Option (Unit)
  | .tup [] => some ()
  | _ => none
theorem de20 (v : AV) (r : Unit) (h : dec20 v = some r) : v = oneOf (enc20 r) := by
  unfold dec20 at h
  split at h
  · cases h; rfl
  · cases h
abbrev Ty20 := (Option (Nat × Nat)) → Heap → Option (Unit × Heap)
def sem20 (f : Ty20) : List TV → Heap → Option (Unit × Heap)
  | [.c (Cell.ptr w)], H => f w H
  | _, _ => none
noncomputable def f20 : Ty20 := hide fun w H => fnA CC20 Try.f20.results.toList (bodyOf Try.f20) _ [.c (Cell.ptr w)] H (decF dec20)
theorem f20_eq (w : (Option (Nat × Nat))) (H : Heap) : f20 w H = fnA CC20 Try.f20.results.toList (bodyOf Try.f20) _ [.c (Cell.ptr w)] H (decF dec20) := by unfold f20; rw [hide_eq]
theorem f20_run (w : (Option (Nat × Nat))) (H : Heap) : f20 w H = fnL CC20 (lpD CC20) Try.f20.results.toList (bodyOf Try.f20) [.c (Cell.ptr w)] H (decF dec20) := (f20_eq ..).trans (fnA_lpD hN20 ..)
def S20_3 (t0 : (Option (Nat × Nat))) (t2 : Int) (t31 : (Option Sl)) (t32 : Int) (t33 : Int) (H : Heap) : St := ⟨[(0, .c (Cell.ptr t0)), (2, .c (Cell.int .i64 t2)), (31, .c (Cell.slice t31)), (32, .c (Cell.int .i64 t32)), (33, .c (Cell.int .i64 t33))], [], H⟩
noncomputable def D20_3 (n : Nat) (t0 : (Option (Nat × Nat))) (t2 : Int) (t31 : (Option Sl)) (t32 : Int) (t33 : Int) (H : Heap) : Option (AExit × St) := loopN (exec CC20 (Code.l (Code.l (Code.r (Code.r (Code.r (bodyOf Try.f20))))))) (keepOf CC20.live (Code.l (Code.l (Code.r (Code.r (Code.r (bodyOf Try.f20))))))) n (S20_3 t0 t2 t31 t32 t33 H) retD
noncomputable def LL20_3 (t0 : (Option (Nat × Nat))) (t2 : Int) (t31 : (Option Sl)) (t32 : Int) (t33 : Int) (H : Heap) : Option (AExit × St) := loopsD CC20 (Code.l (Code.l (Code.r (Code.r (Code.r (bodyOf Try.f20)))))) (S20_3 t0 t2 t31 t32 t33 H)
theorem LL20_3_of (m : Nat) (hm : m < 18446744073709551616) (t0 : (Option (Nat × Nat))) (t2 : Int) (t31 : (Option Sl)) (t32 : Int) (t33 : Int) (H : Heap) : ∃ n, LL20_3 t0 t2 t31 t32 t33 H = D20_3 (n + m + 1) t0 t2 t31 t32 t33 H := loopsD_of _ _ _ m hm
def S20_10 (t0 : (Option (Nat × Nat))) (t2 : Int) (t5 : Int) (t31 : (Option Sl)) (t32 : Int) (t33 : Int) (t82 : (Option Sl)) (t83 : Int) (t84 : Int) (b4_0 : Int) (b4_1 : Int) (b4_2 : Int) (b4_3 : Int) (b4_4 : (Option Sl)) (H : Heap) : St := ⟨[(0, .c (Cell.ptr t0)), (2, .c (Cell.int .i64 t2)), (4, .lp 4 0), (5, .c (Cell.int .i64 t5)), (31, .c (Cell.slice t31)), (32, .c (Cell.int .i64 t32)), (33, .c (Cell.int .i64 t33)), (82, .c (Cell.slice t82)), (83, .c (Cell.int .i64 t83)), (84, .c (Cell.int .i64 t84))], [(4, [Cell.int .i64 b4_0, Cell.int .i64 b4_1, Cell.int .u64 b4_2, Cell.int .u64 b4_3, Cell.slice b4_4])], H⟩
noncomputable def D20_10 (n : Nat) (t0 : (Option (Nat × Nat))) (t2 : Int) (t5 : Int) (t31 : (Option Sl)) (t32 : Int) (t33 : Int) (t82 : (Option Sl)) (t83 : Int) (t84 : Int) (b4_0 : Int) (b4_1 : Int) (b4_2 : Int) (b4_3 : Int) (b4_4 : (Option Sl)) (H : Heap) : Option (AExit × St) := loopN (exec CC20 (Code.l (Code.l (Code.r (Code.l (Code.r (Code.r (Code.r (Code.r (Code.r (Code.l (Code.l (Code.r (Code.r (Code.l (Code.l (Code.r (Code.r (Code.r (bodyOf Try.f20)))))))))))))))))))) (keepOf CC20.live (Code.l (Code.l (Code.r (Code.l (Code.r (Code.r (Code.r (Code.r (Code.r (Code.l (Code.l (Code.r (Code.r (Code.l (Code.l (Code.r (Code.r (Code.r (bodyOf Try.f20)))))))))))))))))))) n (S20_10 t0 t2 t5 t31 t32 t33 t82 t83 t84 b4_0 b4_1 b4_2 b4_3 b4_4 H) retD
noncomputable def LL20_10 (t0 : (Option (Nat × Nat))) (t2 : Int) (t5 : Int) (t31 : (Option Sl)) (t32 : Int) (t33 : Int) (t82 : (Option Sl)) (t83 : Int) (t84 : Int) (b4_0 : Int) (b4_1 : Int) (b4_2 : Int) (b4_3 : Int) (b4_4 : (Option Sl)) (H : Heap) : Option (AExit × St) := loopsD CC20 (Code.l (Code.l (Code.r (Code.l (Code.r (Code.r (Code.r (Code.r (Code.r (Code.l (Code.l (Code.r (Code.r (Code.l (Code.l (Code.r (Code.r (Code.r (bodyOf Try.f20))))))))))))))))))) (S20_10 t0 t2 t5 t31 t32 t33 t82 t83 t84 b4_0 b4_1 b4_2 b4_3 b4_4 H)
theorem LL20_10_of (m : Nat) (hm : m < 18446744073709551616) (t0 : (Option (Nat × Nat))) (t2 : Int) (t5 : Int) (t31 : (Option Sl)) (t32 : Int) (t33 : Int) (t82 : (Option Sl)) (t83 : Int) (t84 : Int) (b4_0 : Int) (b4_1 : Int) (b4_2 : Int) (b4_3 : Int) (b4_4 : (Option Sl)) (H : Heap) : ∃ n, LL20_10 t0 t2 t5 t31 t32 t33 t82 t83 t84 b4_0 b4_1 b4_2 b4_3 b4_4 H = D20_10 (n + m + 1) t0 t2 t5 t31 t32 t33 t82 t83 t84 b4_0 b4_1 b4_2 b4_3 b4_4 H := loopsD_of _ _ _ m hm
def X20_10 (x0 : Option (Nat × Nat)) (x1 : Int) (x2 : Option Sl) (x3 : Int) (x4 : Int) (x5 : Int) (x6 : Int) (x7 : Int) (x8 : Int) (x9 : Option Sl) (H : Heap) : St := { env := [(0, AV.c (Cell.ptr x0)), (2, AV.c (Cell.int IntKind.i64 x1)), (4, AV.lp 4 0), (31, AV.c (Cell.slice x2)), (32, AV.c (Cell.int IntKind.i64 x3)), (33, AV.c (Cell.int IntKind.i64 x4))], loc := [(4, [Cell.int IntKind.i64 x5, Cell.int IntKind.i64 x6, Cell.int IntKind.u64 x7, Cell.int IntKind.u64 x8, Cell.slice x9])], heap := H }
def X20_3 (H : Heap) : St := { env := [], loc := [], heap := H }
noncomputable def J20_10 : Nat → AExit × St → Option (AExit × St) := fun n p => blockK 2 (seqK (execL CC20 (lpD CC20) (Code.r (Code.r (Code.r (Code.r (Code.r (Code.r (Code.l (Code.l (Code.r (Code.r (Code.l (Code.l (Code.r (Code.r (Code.r (bodyOf Try.f20))))))))))))))))) (blockK 1 (seqK (execL CC20 (lpD CC20) (Code.r (Code.r (Code.r (Code.l (Code.l (Code.r (Code.r (Code.r (bodyOf Try.f20)))))))))) (loopK (some { t1 := [0, 2, 31, 32, 33], l1 := [], t2 := [], l2 := [] }) (loopN (exec CC20 (Code.l (Code.l (Code.r (Code.r (Code.r (bodyOf Try.f20))))))) (keepOf CC20.live (Code.l (Code.l (Code.r (Code.r (Code.r (bodyOf Try.f20))))))) n) retD)))) p.fst p.snd
noncomputable def J20_3 : AExit × St → Option (Unit × Heap) := fun p => blockK 0 (retA CC20 [] (decF dec20)) p.fst p.snd
theorem D20_10_s : ∀ (n : Nat) (t0 : Option (Nat × Nat)) (t2 t5 : Int) (t31 : Option Sl) (t32 t33 : Int) (t82 : Option Sl) (t83 t84 b4_0 b4_1 b4_2 b4_3 : Int) (b4_4 : Option Sl) (H : Heap), D20_10 (n + 1) t0 t2 t5 t31 t32 t33 t82 t83 t84 b4_0 b4_1 b4_2 b4_3 b4_4 H = bif decide (t84 < t83) then t82.bind fun v6 => bif inb t84 v6.len && v6.esz == 1 then (H.get v6.id (v6.off + t84.toNat * 1)).bind fun v5 => (Cell.toInt IntKind.u64 v5).bind fun v4 => t0.bind fun v3 => (H.get v3.fst (v3.snd + 0)).bind fun v2 => v2.toPtr.bind fun v1 => (f53 v1 (IntKind.i64.wrap (IntKind.i64.wrap (t5 + 8) + IntKind.i64.wrap (8 * t84))) 8 v4 H).bind fun v0 => D20_10 n t0 t2 t5 t31 t32 t33 t82 t83 (IntKind.i64.wrap (t84 + 1)) b4_0 b4_1 b4_2 b4_3 b4_4 v0.snd else none else some (AExit.exit 2, X20_10 t0 t2 t31 t32 t33 b4_0 b4_1 b4_2 b4_3 b4_4 H) := by intros; exact (loopN_stepD hN20 _ _ _ _).trans (by kernel_rfl)
theorem D20_3_s : ∀ (n : Nat) (t0 : Option (Nat × Nat)) (t2 : Int) (t31 : Option Sl) (t32 t33 : Int) (H : Heap), D20_3 (n + 1) t0 t2 t31 t32 t33 H = bif decide (t33 < t32) then t31.bind fun v33 => bif inb t33 v33.len && v33.esz == 5 then (H.get v33.id (v33.off + t33.toNat * 5)).bind fun v32 => (H.get v33.id (v33.off + t33.toNat * 5 + 1)).bind fun v31 => (H.get v33.id (v33.off + t33.toNat * 5 + 1 + 1)).bind fun v30 => (H.get v33.id (v33.off + t33.toNat * 5 + 1 + 1 + 1)).bind fun v29 => (H.get v33.id (v33.off + t33.toNat * 5 + 1 + 1 + 1 + 1)).bind fun v28 => (Cell.toInt IntKind.i64 v32).bind fun v27 => (Cell.toInt IntKind.i64 v31).bind fun v26 => (Cell.toInt IntKind.u64 v30).bind fun v25 => (Cell.toInt IntKind.u64 v29).bind fun v24 => v28.toSlice.bind fun v23 => t0.bind fun v22 => (H.get v22.fst (v22.snd + 0)).bind fun v21 => v21.toPtr.bind fun v20 => (f52 v20 16 H).bind fun v19 => t0.bind fun v18 => (v19.snd.get v18.fst (v18.snd + 0)).bind fun v17 => v17.toPtr.bind fun v16 => (f53 v16 (IntKind.i64.wrap (t2 + IntKind.i64.wrap (56 * t33))) 4 (IntKind.u64.wrap v27) v19.snd).bind fun v15 => t0.bind fun v14 => (v15.snd.get v14.fst (v14.snd + 0)).bind fun v13 => v13.toPtr.bind fun v12 => (f53 v12 (IntKind.i64.wrap (IntKind.i64.wrap (t2 + IntKind.i64.wrap (56 * t33)) + 4)) 4 (IntKind.u64.wrap v26) v15.snd).bind fun v11 => t0.bind fun v10 => (v11.snd.get v10.fst (v10.snd + 0)).bind fun v9 => v9.toPtr.bind fun v8 => (g51 v8 v11.snd).bind fun v7 => (LL20_10 t0 t2 (IntKind.i64.wrap (t2 + IntKind.i64.wrap (56 * t33))) t31 t32 t33 (some { id := List.length v11.snd, off := 0, len := 6, cap := 6, esz := 1 }) (slen (some { id := List.length v11.snd, off := 0, len := 6, cap := 6, esz := 1 })) 0 v27 v26 v25 v24 v23 (v11.snd ++ [Blk.row [Cell.int IntKind.u64 (IntKind.u64.wrap v7), Cell.int IntKind.u64 v25, Cell.int IntKind.u64 v25, Cell.int IntKind.u64 (IntKind.u64.wrap (slen v23)), Cell.int IntKind.u64 v24, Cell.int IntKind.u64 16] false])).bind (J20_10 n) else none else some (AExit.exit 0, X20_3 H) := by intros; exact (loopN_stepD hN20 _ _ _ _).trans (by kernel_rfl)
theorem J20_10_0 : ∀ (n : Nat) (x0 : Option (Nat × Nat)) (x1 : Int) (x2 : Option Sl) (x3 x4 x5 x6 x7 x8 : Int) (x9 : Option Sl) (H : Heap), J20_10 n (AExit.exit 2, X20_10 x0 x1 x2 x3 x4 x5 x6 x7 x8 x9 H) = x0.bind fun v37 => (H.get v37.fst (v37.snd + 0)).bind fun v36 => v36.toPtr.bind fun v35 => (f49 v35 (some { id := List.length H, off := 0, len := 1, cap := 1, esz := 1 }) (H ++ [Blk.row [Cell.slice x9] false])).bind fun v34 => D20_3 n x0 x1 x2 x3 (IntKind.i64.wrap (x4 + 1)) v34.snd := by intros; kernel_rfl
theorem q20 : ∀ (w : Option (Nat × Nat)) (H : Heap), f20 w H = w.bind fun v52 => (H.get v52.fst (v52.snd + 0)).bind fun v51 => v51.toPtr.bind fun v50 => (g51 v50 H).bind fun v49 => w.bind fun v48 => (H.get v48.fst (v48.snd + 0)).bind fun v47 => v47.toPtr.bind fun v46 => w.bind fun v45 => (H.get v45.fst (v45.snd + 1 + 2)).bind fun v44 => v44.toSlice.bind fun v43 => (H.make 1 1 [Cell.int IntKind.u8 0] (IntKind.i64.wrap (56 * slen v43)) (IntKind.i64.wrap (56 * slen v43))).bind fun v42 => (f49 v46 (some { id := List.length v42.snd, off := 0, len := 1, cap := 1, esz := 1 }) (v42.snd ++ [Blk.row [Cell.slice v42.fst] false])).bind fun v41 => w.bind fun v40 => (v41.snd.get v40.fst (v40.snd + 1 + 2)).bind fun v39 => v39.toSlice.bind fun v38 => (LL20_3 w v49 v38 (slen v38) 0 v41.snd).bind J20_3 := by intros; exact (f20_run ..).trans (by kernel_rfl)
theorem J20_3_0 : ∀ (H : Heap), J20_3 (AExit.exit 0, X20_3 H) = some ((), H) := by intros; kernel_rfl
theorem ok20 : FnOk Try.prog 20 (specF enc20 (sem20 f20)) := by
  refine spec_ok (C := CC20) good20 rfl rfl rfl (by kernel_rfl) Try.func20 (c := bodyOf Try.f20) (by kernel_rfl) (by kernel_rfl) (Nat.le_of_eq Try.ntmps20.symm) dec20 enc20 de20 _ ?_
  intro args H q h
  unfold sem20 at h
  split at h
  · rw [← f20_eq]; exact h
  · cases h
/-! 54: elf_writer_ends -/
noncomputable def CC54 : Ctx := { P := Try.prog, own := [], fns := [(51, readF enc51 (semR51 g51))], nt := 22, pures := [51], nums := [], live := [] }
theorem good54 : Callees Try.prog CC54.fns CC54.pures CC54.nums := (Callees.nil Try.prog).cons_pure okR51 (readF_pure _ _)
theorem hN54 : CtxNat CC54 := good54.ctx rfl rfl rfl
def enc54 (r : Unit) : List TV := []
def dec54 : AV → Option (Unit)
  | .tup [] => some ()
  | _ => none
theorem de54 (v : AV) (r : Unit) (h : dec54 v = some r) : v = oneOf (enc54 r) := by
  unfold dec54 at h
  split at h
  · cases h; rfl
  · cases h
abbrev Ty54 := (Option (Nat × Nat)) → Int → Heap → Option (Unit × Heap)
def sem54 (f : Ty54) : List TV → Heap → Option (Unit × Heap)
  | [.c (Cell.ptr w), .c (Cell.int .i64 x1)], H => f w x1 H
  | _, _ => none
noncomputable def f54 : Ty54 := hide fun w x1 H => fnA CC54 Try.f54.results.toList (bodyOf Try.f54) _ [.c (Cell.ptr w), .c (Cell.int .i64 x1)] H (decF dec54)
theorem f54_eq (w : (Option (Nat × Nat))) (x1 : Int) (H : Heap) : f54 w x1 H = fnA CC54 Try.f54.results.toList (bodyOf Try.f54) _ [.c (Cell.ptr w), .c (Cell.int .i64 x1)] H (decF dec54) := by unfold f54; rw [hide_eq]
theorem f54_run (w : (Option (Nat × Nat))) (x1 : Int) (H : Heap) : f54 w x1 H = fnL CC54 (lpD CC54) Try.f54.results.toList (bodyOf Try.f54) [.c (Cell.ptr w), .c (Cell.int .i64 x1)] H (decF dec54) := (f54_eq ..).trans (fnA_lpD hN54 ..)
theorem q54 : ∀ (w : Option (Nat × Nat)) (x1 : Int) (H : Heap), f54 w x1 H = w.bind fun v9 => (H.get v9.fst (v9.snd + 6)).bind fun v8 => v8.toSlice.bind fun v7 => w.bind fun v6 => (H.get v6.fst (v6.snd + 0)).bind fun v5 => v5.toPtr.bind fun v4 => (g51 v4 H).bind fun v3 => ((H ++ [Blk.row [Cell.int IntKind.i64 x1, Cell.int IntKind.i64 (IntKind.i64.wrap (v3 - x1))] false]).append 2 16 v7 (some { id := List.length H, off := 0, len := 1, cap := 1, esz := 2 })).bind fun v2 => w.bind fun v1 => (v2.snd.put v1.fst (v1.snd + 6) [Cell.slice v2.fst]).bind fun v0 => some ((), v0) := by intros; exact (f54_run ..).trans (by kernel_rfl)
theorem ok54 : FnOk Try.prog 54 (specF enc54 (sem54 f54)) := by
  refine spec_ok (C := CC54) good54 rfl rfl rfl (by kernel_rfl) Try.func54 (c := bodyOf Try.f54) (by kernel_rfl) (by kernel_rfl) (Nat.le_of_eq Try.ntmps54.symm) dec54 enc54 de54 _ ?_
  intro args H q h
  unfold sem54 at h
  split at h
  · rw [← f54_eq]; exact h
  · cases h
/-! 21: elf_writer_syms -/
noncomputable def CC21 : Ctx := { P := Try.prog, own := [5, 7], fns := [(51, readF enc51 (semR51 g51)), (55, specF enc55 (sem55 f55)), (54, specF enc54 (sem54 f54)), (50, specF enc50 (sem50 f50)), (49, specF enc49 (sem49 f49)), (52, specF enc52 (sem52 f52))], nt := 112, pures := [51], nums := [], live := [(16, ⟨[0, 2, 94, 95, 96], [], [0, 2], []⟩), (4, ⟨[0, 2, 3, 29, 30, 31], [], [0, 2], []⟩)] }
theorem good21 : Callees Try.prog CC21.fns CC21.pures CC21.nums := ((((((Callees.nil Try.prog).cons ok52 (specF_nat _ _)).cons ok49 (specF_nat _ _)).cons ok50 (specF_nat _ _)).cons ok54 (specF_nat _ _)).cons ok55 (specF_nat _ _)).cons_pure okR51 (readF_pure _ _)
theorem hN21 : CtxNat CC21 := good21.ctx rfl rfl rfl
def enc21 (r : Unit) : List TV := []
def dec21 : AV → Option (Unit)
  | .tup [] => some ()
  | _ => none
theorem de21 (v : AV) (r : Unit) (h : dec21 v = some r) : v = oneOf (enc21 r) := by
  unfold dec21 at h
  split at h
  · cases h; rfl
  · cases h
abbrev Ty21 := (Option (Nat × Nat)) → Heap → Option (Unit × Heap)
def sem21 (f : Ty21) : List TV → Heap → Option (Unit × Heap)
  | [.c (Cell.ptr w)], H => f w H
  | _, _ => none
noncomputable def f21 : Ty21 := hide fun w H => fnA CC21 Try.f21.results.toList (bodyOf Try.f21) _ [.c (Cell.ptr w)] H (decF dec21)
theorem f21_eq (w : (Option (Nat × Nat))) (H : Heap) : f21 w H = fnA CC21 Try.f21.results.toList (bodyOf Try.f21) _ [.c (Cell.ptr w)] H (decF dec21) := by unfold f21; rw [hide_eq]
theorem f21_run (w : (Option (Nat × Nat))) (H : Heap) : f21 w H = fnL CC21 (lpD CC21) Try.f21.results.toList (bodyOf Try.f21) [.c (Cell.ptr w)] H (decF dec21) := (f21_eq ..).trans (fnA_lpD hN21 ..)
def S21_4 (t0 : (Option (Nat × Nat))) (t2 : Int) (t3 : Int) (t29 : (Option Sl)) (t30 : Int) (t31 : Int) (H : Heap) : St := ⟨[(0, .c (Cell.ptr t0)), (2, .c (Cell.int .i64 t2)), (3, .c (Cell.int .i64 t3)), (29, .c (Cell.slice t29)), (30, .c (Cell.int .i64 t30)), (31, .c (Cell.int .i64 t31))], [], H⟩
noncomputable def D21_4 (n : Nat) (t0 : (Option (Nat × Nat))) (t2 : Int) (t3 : Int) (t29 : (Option Sl)) (t30 : Int) (t31 : Int) (H : Heap) : Option (AExit × St) := loopN (exec CC21 (Code.l (Code.l (Code.r (Code.l (Code.r (Code.r (Code.r (bodyOf Try.f21))))))))) (keepOf CC21.live (Code.l (Code.l (Code.r (Code.l (Code.r (Code.r (Code.r (bodyOf Try.f21))))))))) n (S21_4 t0 t2 t3 t29 t30 t31 H) retD
noncomputable def LL21_4 (t0 : (Option (Nat × Nat))) (t2 : Int) (t3 : Int) (t29 : (Option Sl)) (t30 : Int) (t31 : Int) (H : Heap) : Option (AExit × St) := loopsD CC21 (Code.l (Code.l (Code.r (Code.l (Code.r (Code.r (Code.r (bodyOf Try.f21)))))))) (S21_4 t0 t2 t3 t29 t30 t31 H)
theorem LL21_4_of (m : Nat) (hm : m < 18446744073709551616) (t0 : (Option (Nat × Nat))) (t2 : Int) (t3 : Int) (t29 : (Option Sl)) (t30 : Int) (t31 : Int) (H : Heap) : ∃ n, LL21_4 t0 t2 t3 t29 t30 t31 H = D21_4 (n + m + 1) t0 t2 t3 t29 t30 t31 H := loopsD_of _ _ _ m hm
def S21_16 (t0 : (Option (Nat × Nat))) (t2 : Int) (t94 : (Option Sl)) (t95 : Int) (t96 : Int) (H : Heap) : St := ⟨[(0, .c (Cell.ptr t0)), (2, .c (Cell.int .i64 t2)), (94, .c (Cell.slice t94)), (95, .c (Cell.int .i64 t95)), (96, .c (Cell.int .i64 t96))], [], H⟩
noncomputable def D21_16 (n : Nat) (t0 : (Option (Nat × Nat))) (t2 : Int) (t94 : (Option Sl)) (t95 : Int) (t96 : Int) (H : Heap) : Option (AExit × St) := loopN (exec CC21 (Code.l (Code.l (Code.r (Code.l (Code.r (Code.r (Code.r (Code.r (Code.r (Code.r (Code.r (bodyOf Try.f21))))))))))))) (keepOf CC21.live (Code.l (Code.l (Code.r (Code.l (Code.r (Code.r (Code.r (Code.r (Code.r (Code.r (Code.r (bodyOf Try.f21))))))))))))) n (S21_16 t0 t2 t94 t95 t96 H) retD
noncomputable def LL21_16 (t0 : (Option (Nat × Nat))) (t2 : Int) (t94 : (Option Sl)) (t95 : Int) (t96 : Int) (H : Heap) : Option (AExit × St) := loopsD CC21 (Code.l (Code.l (Code.r (Code.l (Code.r (Code.r (Code.r (Code.r (Code.r (Code.r (Code.r (bodyOf Try.f21)))))))))))) (S21_16 t0 t2 t94 t95 t96 H)
theorem LL21_16_of (m : Nat) (hm : m < 18446744073709551616) (t0 : (Option (Nat × Nat))) (t2 : Int) (t94 : (Option Sl)) (t95 : Int) (t96 : Int) (H : Heap) : ∃ n, LL21_16 t0 t2 t94 t95 t96 H = D21_16 (n + m + 1) t0 t2 t94 t95 t96 H := loopsD_of _ _ _ m hm
def X21_16 (x0 : Option (Nat × Nat)) (x1 : Int) (H : Heap) : St := { env := [(0, AV.c (Cell.ptr x0)), (2, AV.c (Cell.int IntKind.i64 x1))], loc := [], heap := H }
def X21_4 (x0 : Option (Nat × Nat)) (x1 : Int) (H : Heap) : St := { env := [(0, AV.c (Cell.ptr x0)), (2, AV.c (Cell.int IntKind.i64 x1))], loc := [], heap := H }
noncomputable def J21_4 : AExit × St → Option (Unit × Heap) := fun p => blockK 0 (seqK (execL CC21 (lpD CC21) (Code.r (Code.r (Code.r (Code.r (bodyOf Try.f21)))))) (retA CC21 [] (decF dec21))) p.fst p.snd
noncomputable def J21_16 : AExit × St → Option (Unit × Heap) := fun p => blockK 2 (seqK (execL CC21 (lpD CC21) (Code.r (Code.r (Code.r (Code.r (Code.r (Code.r (Code.r (Code.r (bodyOf Try.f21)))))))))) (retA CC21 [] (decF dec21))) p.fst p.snd
theorem D21_16_s : ∀ (n : Nat) (t0 : Option (Nat × Nat)) (t2 : Int) (t94 : Option Sl) (t95 t96 : Int) (H : Heap), D21_16 (n + 1) t0 t2 t94 t95 t96 H = bif decide (t96 < t95) then t94.bind fun v12 => bif inb t96 v12.len && v12.esz == 4 then (H.get v12.id (v12.off + t96.toNat * 4)).bind fun v11 => (H.get v12.id (v12.off + t96.toNat * 4 + 1)).bind fun v10 => (H.get v12.id (v12.off + t96.toNat * 4 + 1 + 1)).bind fun v9 => (H.get v12.id (v12.off + t96.toNat * 4 + 1 + 1 + 1)).bind fun v8 => v11.toStr.bind fun v7 => (Cell.toInt IntKind.i64 v10).bind fun v6 => (Cell.toInt IntKind.u64 v9).bind fun v5 => (Cell.toInt IntKind.u64 v8).bind fun v4 => t0.bind fun v3 => (H.get v3.fst (v3.snd + 0)).bind fun v2 => v2.toPtr.bind fun v1 => (f55 v1 (some { id := List.length H, off := 0, len := 1, cap := 1, esz := 1 }) (H ++ [Blk.row [Cell.str v7] false])).bind fun v0 => D21_16 n t0 t2 t94 t95 (IntKind.i64.wrap (t96 + 1)) v0.snd else none else some (AExit.exit 2, X21_16 t0 t2 H) := by intros; exact (loopN_stepD hN21 _ _ _ _).trans (by kernel_rfl)
theorem D21_4_s : ∀ (n : Nat) (t0 : Option (Nat × Nat)) (t2 t3 : Int) (t29 : Option Sl) (t30 t31 : Int) (H : Heap), D21_4 (n + 1) t0 t2 t3 t29 t30 t31 H = bif decide (t31 < t30) then t29.bind fun v37 => bif inb t31 v37.len && v37.esz == 4 then (H.get v37.id (v37.off + t31.toNat * 4)).bind fun v36 => (H.get v37.id (v37.off + t31.toNat * 4 + 1)).bind fun v35 => (H.get v37.id (v37.off + t31.toNat * 4 + 1 + 1)).bind fun v34 => (H.get v37.id (v37.off + t31.toNat * 4 + 1 + 1 + 1)).bind fun v33 => v36.toStr.bind fun v32 => (Cell.toInt IntKind.i64 v35).bind fun v31 => (Cell.toInt IntKind.u64 v34).bind fun v30 => (Cell.toInt IntKind.u64 v33).bind fun v29 => t0.bind fun v28 => (H.get v28.fst (v28.snd + 0)).bind fun v27 => v27.toPtr.bind fun v26 => (f50 v26 4 (some { id := List.length H, off := 0, len := 1, cap := 1, esz := 1 }) (H ++ [Blk.row [Cell.int IntKind.u64 (IntKind.u64.wrap t3)] false])).bind fun v25 => t0.bind fun v24 => (v25.snd.get v24.fst (v24.snd + 0)).bind fun v23 => v23.toPtr.bind fun v22 => (f50 v22 1 (some { id := List.length v25.snd, off := 0, len := 2, cap := 2, esz := 1 }) (v25.snd ++ [Blk.row [Cell.int IntKind.u64 (IntKind.u64.wrap (bor IntKind.i64 v31 16)), Cell.int IntKind.u64 0] false])).bind fun v21 => t0.bind fun v20 => (v21.snd.get v20.fst (v20.snd + 0)).bind fun v19 => v19.toPtr.bind fun v18 => (f50 v18 2 (some { id := List.length v21.snd, off := 0, len := 1, cap := 1, esz := 1 }) (v21.snd ++ [Blk.row [Cell.int IntKind.u64 1] false])).bind fun v17 => t0.bind fun v16 => (v17.snd.get v16.fst (v16.snd + 0)).bind fun v15 => v15.toPtr.bind fun v14 => (f50 v14 8 (some { id := List.length v17.snd, off := 0, len := 2, cap := 2, esz := 1 }) (v17.snd ++ [Blk.row [Cell.int IntKind.u64 v30, Cell.int IntKind.u64 v29] false])).bind fun v13 => D21_4 n t0 t2 (IntKind.i64.wrap (t3 + IntKind.i64.wrap ((↑v32.size : Int) + 1))) t29 t30 (IntKind.i64.wrap (t31 + 1)) v13.snd else none else some (AExit.exit 0, X21_4 t0 t2 H) := by intros; exact (loopN_stepD hN21 _ _ _ _).trans (by kernel_rfl)
theorem q21 : ∀ (w : Option (Nat × Nat)) (H : Heap), f21 w H = w.bind fun v52 => (H.get v52.fst (v52.snd + 0)).bind fun v51 => v51.toPtr.bind fun v50 => (f52 v50 16 H).bind fun v49 => w.bind fun v48 => (v49.snd.get v48.fst (v48.snd + 0)).bind fun v47 => v47.toPtr.bind fun v46 => (g51 v46 v49.snd).bind fun v45 => w.bind fun v44 => (v49.snd.get v44.fst (v44.snd + 0)).bind fun v43 => v43.toPtr.bind fun v42 => (f49 v42 (some { id := List.length (v49.snd ++ [Blk.row [Cell.int IntKind.u8 0, Cell.int IntKind.u8 0, Cell.int IntKind.u8 0, Cell.int IntKind.u8 0, Cell.int IntKind.u8 0, Cell.int IntKind.u8 0, Cell.int IntKind.u8 0, Cell.int IntKind.u8 0, Cell.int IntKind.u8 0, Cell.int IntKind.u8 0, Cell.int IntKind.u8 0, Cell.int IntKind.u8 0, Cell.int IntKind.u8 0, Cell.int IntKind.u8 0, Cell.int IntKind.u8 0, Cell.int IntKind.u8 0, Cell.int IntKind.u8 0, Cell.int IntKind.u8 0, Cell.int IntKind.u8 0, Cell.int IntKind.u8 0, Cell.int IntKind.u8 0, Cell.int IntKind.u8 0, Cell.int IntKind.u8 0, Cell.int IntKind.u8 0] false]), off := 0, len := 1, cap := 1, esz := 1 }) (v49.snd ++ [Blk.row [Cell.int IntKind.u8 0, Cell.int IntKind.u8 0, Cell.int IntKind.u8 0, Cell.int IntKind.u8 0, Cell.int IntKind.u8 0, Cell.int IntKind.u8 0, Cell.int IntKind.u8 0, Cell.int IntKind.u8 0, Cell.int IntKind.u8 0, Cell.int IntKind.u8 0, Cell.int IntKind.u8 0, Cell.int IntKind.u8 0, Cell.int IntKind.u8 0, Cell.int IntKind.u8 0, Cell.int IntKind.u8 0, Cell.int IntKind.u8 0, Cell.int IntKind.u8 0, Cell.int IntKind.u8 0, Cell.int IntKind.u8 0, Cell.int IntKind.u8 0, Cell.int IntKind.u8 0, Cell.int IntKind.u8 0, Cell.int IntKind.u8 0, Cell.int IntKind.u8 0] false] ++ [Blk.row [Cell.slice (some { id := List.length v49.snd, off := 0, len := 24, cap := 24, esz := 1 })] false])).bind fun v41 => w.bind fun v40 => (v41.snd.get v40.fst (v40.snd + 1 + 3)).bind fun v39 => v39.toSlice.bind fun v38 => (LL21_4 w v45 1 v38 (slen v38) 0 v41.snd).bind J21_4 := by intros; exact (f21_run ..).trans (by kernel_rfl)
theorem J21_4_0 : ∀ (x0 : Option (Nat × Nat)) (x1 : Int) (H : Heap), J21_4 (AExit.exit 0, X21_4 x0 x1 H) = (f54 x0 x1 H).bind fun v64 => x0.bind fun v63 => (v64.snd.get v63.fst (v63.snd + 0)).bind fun v62 => v62.toPtr.bind fun v61 => (g51 v61 v64.snd).bind fun v60 => x0.bind fun v59 => (v64.snd.get v59.fst (v59.snd + 0)).bind fun v58 => v58.toPtr.bind fun v57 => (f55 v57 (some { id := List.length v64.snd, off := 0, len := 1, cap := 1, esz := 1 }) (v64.snd ++ [Blk.row [Cell.str { data := #[] }] false])).bind fun v56 => x0.bind fun v55 => (v56.snd.get v55.fst (v55.snd + 1 + 3)).bind fun v54 => v54.toSlice.bind fun v53 => (LL21_16 x0 v60 v53 (slen v53) 0 v56.snd).bind J21_16 := by intros; kernel_rfl
theorem J21_16_0 : ∀ (x0 : Option (Nat × Nat)) (x1 : Int) (H : Heap), J21_16 (AExit.exit 2, X21_16 x0 x1 H) = (f54 x0 x1 H).bind fun v65 => some ((), v65.snd) := by intros; kernel_rfl
theorem ok21 : FnOk Try.prog 21 (specF enc21 (sem21 f21)) := by
  refine spec_ok (C := CC21) good21 rfl rfl rfl (by kernel_rfl) Try.func21 (c := bodyOf Try.f21) (by kernel_rfl) (by kernel_rfl) (Nat.le_of_eq Try.ntmps21.symm) dec21 enc21 de21 _ ?_
  intro args H q h
  unfold sem21 at h
  split at h
  · rw [← f21_eq]; exact h
  · cases h
/-! 22: elf_writer_rels -/
noncomputable def CC22 : Ctx := { P := Try.prog, own := [4], fns := [(51, readF enc51 (semR51 g51)), (55, specF enc55 (sem55 f55)), (54, specF enc54 (sem54 f54)), (50, specF enc50 (sem50 f50)), (52, specF enc52 (sem52 f52))], nt := 60, pures := [51], nums := [], live := [(3, ⟨[0, 2, 19, 20, 21], [], [0, 2], []⟩)] }
theorem good22 : Callees Try.prog CC22.fns CC22.pures CC22.nums := (((((Callees.nil Try.prog).cons ok52 (specF_nat _ _)).cons ok50 (specF_nat _ _)).cons ok54 (specF_nat _ _)).cons ok55 (specF_nat _ _)).cons_pure okR51 (readF_pure _ _)
theorem hN22 : CtxNat CC22 := good22.ctx rfl rfl rfl
def enc22 (r : Unit) : List TV := []
def dec22 : AV → Option (Unit)
  | .tup [] => some ()
  | _ => none
theorem de22 (v : AV) (r : Unit) (h : dec22 v = some r) : v = oneOf (enc22 r) := by
  unfold dec22 at h
  split at h
  · cases h; rfl
  · cases h
abbrev Ty22 := (Option (Nat × Nat)) → Heap → Option (Unit × Heap)
def sem22 (f : Ty22) : List TV → Heap → Option (Unit × Heap)
  | [.c (Cell.ptr w)], H => f w H
  | _, _ => none
noncomputable def f22 : Ty22 := hide fun w H => fnA CC22 Try.f22.results.toList (bodyOf Try.f22) _ [.c (Cell.ptr w)] H (decF dec22)
theorem f22_eq (w : (Option (Nat × Nat))) (H : Heap) : f22 w H = fnA CC22 Try.f22.results.toList (bodyOf Try.f22) _ [.c (Cell.ptr w)] H (decF dec22) := by unfold f22; rw [hide_eq]
theorem f22_run (w : (Option (Nat × Nat))) (H : Heap) : f22 w H = fnL CC22 (lpD CC22) Try.f22.results.toList (bodyOf Try.f22) [.c (Cell.ptr w)] H (decF dec22) := (f22_eq ..).trans (fnA_lpD hN22 ..)
def S22_3 (t0 : (Option (Nat × Nat))) (t2 : Int) (t19 : (Option Sl)) (t20 : Int) (t21 : Int) (H : Heap) : St := ⟨[(0, .c (Cell.ptr t0)), (2, .c (Cell.int .i64 t2)), (19, .c (Cell.slice t19)), (20, .c (Cell.int .i64 t20)), (21, .c (Cell.int .i64 t21))], [], H⟩
noncomputable def D22_3 (n : Nat) (t0 : (Option (Nat × Nat))) (t2 : Int) (t19 : (Option Sl)) (t20 : Int) (t21 : Int) (H : Heap) : Option (AExit × St) := loopN (exec CC22 (Code.l (Code.l (Code.r (Code.l (Code.r (Code.r (bodyOf Try.f22)))))))) (keepOf CC22.live (Code.l (Code.l (Code.r (Code.l (Code.r (Code.r (bodyOf Try.f22)))))))) n (S22_3 t0 t2 t19 t20 t21 H) retD
noncomputable def LL22_3 (t0 : (Option (Nat × Nat))) (t2 : Int) (t19 : (Option Sl)) (t20 : Int) (t21 : Int) (H : Heap) : Option (AExit × St) := loopsD CC22 (Code.l (Code.l (Code.r (Code.l (Code.r (Code.r (bodyOf Try.f22))))))) (S22_3 t0 t2 t19 t20 t21 H)
theorem LL22_3_of (m : Nat) (hm : m < 18446744073709551616) (t0 : (Option (Nat × Nat))) (t2 : Int) (t19 : (Option Sl)) (t20 : Int) (t21 : Int) (H : Heap) : ∃ n, LL22_3 t0 t2 t19 t20 t21 H = D22_3 (n + m + 1) t0 t2 t19 t20 t21 H := loopsD_of _ _ _ m hm
def X22_3 (x0 : Option (Nat × Nat)) (x1 : Int) (H : Heap) : St := { env := [(0, AV.c (Cell.ptr x0)), (2, AV.c (Cell.int IntKind.i64 x1))], loc := [], heap := H }
noncomputable def J22_3 : AExit × St → Option (Unit × Heap) := fun p => blockK 0 (seqK (execL CC22 (lpD CC22) (Code.r (Code.r (Code.r (bodyOf Try.f22))))) (retA CC22 [] (decF dec22))) p.fst p.snd
theorem D22_3_s : ∀ (n : Nat) (t0 : Option (Nat × Nat)) (t2 : Int) (t19 : Option Sl) (t20 t21 : Int) (H : Heap), D22_3 (n + 1) t0 t2 t19 t20 t21 H = bif decide (t21 < t20) then t19.bind fun v10 => bif inb t21 v10.len && v10.esz == 3 then (H.get v10.id (v10.off + t21.toNat * 3)).bind fun v9 => (H.get v10.id (v10.off + t21.toNat * 3 + 1)).bind fun v8 => (H.get v10.id (v10.off + t21.toNat * 3 + 1 + 1)).bind fun v7 => (Cell.toInt IntKind.u64 v9).bind fun v6 => (Cell.toInt IntKind.i64 v8).bind fun v5 => (Cell.toInt IntKind.i64 v7).bind fun v4 => t0.bind fun v3 => (H.get v3.fst (v3.snd + 0)).bind fun v2 => v2.toPtr.bind fun v1 => (f50 v1 8 (some { id := List.length H, off := 0, len := 3, cap := 3, esz := 1 }) (H ++ [Blk.row [Cell.int IntKind.u64 v6, Cell.int IntKind.u64 (bor IntKind.u64 1 (ishl IntKind.u64 (IntKind.u64.wrap (IntKind.i64.wrap (v5 + 1))) 32)), Cell.int IntKind.u64 (IntKind.u64.wrap v4)] false])).bind fun v0 => D22_3 n t0 t2 t19 t20 (IntKind.i64.wrap (t21 + 1)) v0.snd else none else some (AExit.exit 0, X22_3 t0 t2 H) := by intros; exact (loopN_stepD hN22 _ _ _ _).trans (by kernel_rfl)
theorem q22 : ∀ (w : Option (Nat × Nat)) (H : Heap), f22 w H = w.bind fun v21 => (H.get v21.fst (v21.snd + 0)).bind fun v20 => v20.toPtr.bind fun v19 => (f52 v19 16 H).bind fun v18 => w.bind fun v17 => (v18.snd.get v17.fst (v17.snd + 0)).bind fun v16 => v16.toPtr.bind fun v15 => (g51 v15 v18.snd).bind fun v14 => w.bind fun v13 => (v18.snd.get v13.fst (v13.snd + 1 + 4)).bind fun v12 => v12.toSlice.bind fun v11 => (LL22_3 w v14 v11 (slen v11) 0 v18.snd).bind J22_3 := by intros; exact (f22_run ..).trans (by kernel_rfl)
theorem J22_3_0 : ∀ (x0 : Option (Nat × Nat)) (x1 : Int) (H : Heap), J22_3 (AExit.exit 0, X22_3 x0 x1 H) = (f54 x0 x1 H).bind fun v31 => x0.bind fun v30 => (v31.snd.get v30.fst (v30.snd + 0)).bind fun v29 => v29.toPtr.bind fun v28 => (g51 v28 v31.snd).bind fun v27 => x0.bind fun v26 => (v31.snd.get v26.fst (v26.snd + 0)).bind fun v25 => v25.toPtr.bind fun v24 => (f55 v24 (some { id := List.length v31.snd, off := 0, len := 5, cap := 5, esz := 1 }) (v31.snd ++ [Blk.row [Cell.str { data := #[] }, Cell.str { data := #[UInt8.ofNat 46, UInt8.ofNat 115, UInt8.ofNat 121, UInt8.ofNat 109, UInt8.ofNat 116, UInt8.ofNat 97, UInt8.ofNat 98] }, Cell.str { data := #[UInt8.ofNat 46, UInt8.ofNat 115, UInt8.ofNat 116, UInt8.ofNat 114, UInt8.ofNat 116, UInt8.ofNat 97, UInt8.ofNat 98] }, Cell.str { data := #[UInt8.ofNat 46, UInt8.ofNat 114, UInt8.ofNat 101, UInt8.ofNat 108, UInt8.ofNat 97] }, Cell.str { data := #[UInt8.ofNat 46, UInt8.ofNat 115, UInt8.ofNat 104, UInt8.ofNat 115, UInt8.ofNat 116, UInt8.ofNat 114, UInt8.ofNat 116, UInt8.ofNat 97, UInt8.ofNat 98] }] false])).bind fun v23 => (f54 x0 v27 v23.snd).bind fun v22 => some ((), v22.snd) := by intros; kernel_rfl
theorem ok22 : FnOk Try.prog 22 (specF enc22 (sem22 f22)) := by
  refine spec_ok (C := CC22) good22 rfl rfl rfl (by kernel_rfl) Try.func22 (c := bodyOf Try.f22) (by kernel_rfl) (by kernel_rfl) (Nat.le_of_eq Try.ntmps22.symm) dec22 enc22 de22 _ ?_
  intro args H q h
  unfold sem22 at h
  split at h
  · rw [← f22_eq]; exact h
  · cases h
/-! 23: elf_writer_headers -/
noncomputable def CC23 : Ctx := { P := Try.prog, own := [7], fns := [(51, readF enc51 (semR51 g51)), (50, specF enc50 (sem50 f50)), (49, specF enc49 (sem49 f49)), (53, specF enc53 (sem53 f53)), (52, specF enc52 (sem52 f52))], nt := 96, pures := [51], nums := [], live := [(8, ⟨[0, 2, 3, 4, 5, 39, 40, 41], [], [], []⟩)] }
theorem good23 : Callees Try.prog CC23.fns CC23.pures CC23.nums := (((((Callees.nil Try.prog).cons ok52 (specF_nat _ _)).cons ok53 (specF_nat _ _)).cons ok49 (specF_nat _ _)).cons ok50 (specF_nat _ _)).cons_pure okR51 (readF_pure _ _)
theorem hN23 : CtxNat CC23 := good23.ctx rfl rfl rfl
def enc23 (r : Unit) : List TV := []
def dec23 : AV → Option (Unit)
  | .tup [] => some ()
  | _ => none
theorem de23 (v : AV) (r : Unit) (h : dec23 v = some r) : v = oneOf (enc23 r) := by
  unfold dec23 at h
  split at h
  · cases h; rfl
  · cases h
abbrev Ty23 := (Option (Nat × Nat)) → Heap → Option (Unit × Heap)
def sem23 (f : Ty23) : List TV → Heap → Option (Unit × Heap)
  | [.c (Cell.ptr w)], H => f w H
  | _, _ => none
noncomputable def f23 : Ty23 := hide fun w H => fnA CC23 Try.f23.results.toList (bodyOf Try.f23) _ [.c (Cell.ptr w)] H (decF dec23)
theorem f23_eq (w : (Option (Nat × Nat))) (H : Heap) : f23 w H = fnA CC23 Try.f23.results.toList (bodyOf Try.f23) _ [.c (Cell.ptr w)] H (decF dec23) := by unfold f23; rw [hide_eq]
theorem f23_run (w : (Option (Nat × Nat))) (H : Heap) : f23 w H = fnL CC23 (lpD CC23) Try.f23.results.toList (bodyOf Try.f23) [.c (Cell.ptr w)] H (decF dec23) := (f23_eq ..).trans (fnA_lpD hN23 ..)
def S23_8 (t0 : (Option (Nat × Nat))) (t2 : (Option Sl)) (t3 : (Option Sl)) (t4 : (Option Sl)) (t5 : (Option Sl)) (t39 : (Option Sl)) (t40 : Int) (t41 : Int) (H : Heap) : St := ⟨[(0, .c (Cell.ptr t0)), (2, .c (Cell.slice t2)), (3, .c (Cell.slice t3)), (4, .c (Cell.slice t4)), (5, .c (Cell.slice t5)), (39, .c (Cell.slice t39)), (40, .c (Cell.int .i64 t40)), (41, .c (Cell.int .i64 t41))], [], H⟩
noncomputable def D23_8 (n : Nat) (t0 : (Option (Nat × Nat))) (t2 : (Option Sl)) (t3 : (Option Sl)) (t4 : (Option Sl)) (t5 : (Option Sl)) (t39 : (Option Sl)) (t40 : Int) (t41 : Int) (H : Heap) : Option (AExit × St) := loopN (exec CC23 (Code.l (Code.l (Code.r (Code.r (Code.r (Code.r (Code.r (Code.r (Code.r (Code.r (bodyOf Try.f23)))))))))))) (keepOf CC23.live (Code.l (Code.l (Code.r (Code.r (Code.r (Code.r (Code.r (Code.r (Code.r (Code.r (bodyOf Try.f23)))))))))))) n (S23_8 t0 t2 t3 t4 t5 t39 t40 t41 H) retD
noncomputable def LL23_8 (t0 : (Option (Nat × Nat))) (t2 : (Option Sl)) (t3 : (Option Sl)) (t4 : (Option Sl)) (t5 : (Option Sl)) (t39 : (Option Sl)) (t40 : Int) (t41 : Int) (H : Heap) : Option (AExit × St) := loopsD CC23 (Code.l (Code.l (Code.r (Code.r (Code.r (Code.r (Code.r (Code.r (Code.r (Code.r (bodyOf Try.f23))))))))))) (S23_8 t0 t2 t3 t4 t5 t39 t40 t41 H)
theorem LL23_8_of (m : Nat) (hm : m < 18446744073709551616) (t0 : (Option (Nat × Nat))) (t2 : (Option Sl)) (t3 : (Option Sl)) (t4 : (Option Sl)) (t5 : (Option Sl)) (t39 : (Option Sl)) (t40 : Int) (t41 : Int) (H : Heap) : ∃ n, LL23_8 t0 t2 t3 t4 t5 t39 t40 t41 H = D23_8 (n + m + 1) t0 t2 t3 t4 t5 t39 t40 t41 H := loopsD_of _ _ _ m hm
def X23_8 (H : Heap) : St := { env := [], loc := [], heap := H }
noncomputable def J23_8 : AExit × St → Option (Unit × Heap) := fun p => blockK 0 (retA CC23 [] (decF dec23)) p.fst p.snd
theorem D23_8_s : ∀ (n : Nat) (t0 : Option (Nat × Nat)) (t2 t3 t4 t5 t39 : Option Sl) (t40 t41 : Int) (H : Heap), D23_8 (n + 1) t0 t2 t3 t4 t5 t39 t40 t41 H = bif decide (t41 < t40) then t39.bind fun v60 => bif inb t41 v60.len && v60.esz == 2 then (H.get v60.id (v60.off + t41.toNat * 2)).bind fun v59 => (H.get v60.id (v60.off + t41.toNat * 2 + 1)).bind fun v58 => (Cell.toInt IntKind.i64 v59).bind fun v57 => (Cell.toInt IntKind.i64 v58).bind fun v56 => bif t41 == 0 then t0.bind fun v27 => (H.get v27.fst (v27.snd + 0)).bind fun v26 => v26.toPtr.bind fun v25 => t2.bind fun v24 => bif inb t41 v24.len && v24.esz == 1 then (H.get v24.id (v24.off + t41.toNat * 1)).bind fun v23 => (Cell.toInt IntKind.u64 v23).bind fun v22 => t3.bind fun v21 => bif inb t41 v21.len && v21.esz == 1 then (H.get v21.id (v21.off + t41.toNat * 1)).bind fun v20 => (Cell.toInt IntKind.u64 v20).bind fun v19 => (f50 v25 4 (some { id := List.length H, off := 0, len := 2, cap := 2, esz := 1 }) (H ++ [Blk.row [Cell.int IntKind.u64 v22, Cell.int IntKind.u64 v19] false])).bind fun v18 => t0.bind fun v17 => (v18.snd.get v17.fst (v17.snd + 0)).bind fun v16 => v16.toPtr.bind fun v15 => (f50 v15 8 (some { id := List.length v18.snd, off := 0, len := 4, cap := 4, esz := 1 }) (v18.snd ++ [Blk.row [Cell.int IntKind.u64 0, Cell.int IntKind.u64 0, Cell.int IntKind.u64 (IntKind.u64.wrap v57), Cell.int IntKind.u64 (IntKind.u64.wrap v56)] false])).bind fun v14 => t0.bind fun v13 => (v14.snd.get v13.fst (v13.snd + 0)).bind fun v12 => v12.toPtr.bind fun v11 => t4.bind fun v10 => bif inb t41 v10.len && v10.esz == 1 then (v14.snd.get v10.id (v10.off + t41.toNat * 1)).bind fun v9 => (Cell.toInt IntKind.u64 v9).bind fun v8 => (f50 v11 4 (some { id := List.length v14.snd, off := 0, len := 2, cap := 2, esz := 1 }) (v14.snd ++ [Blk.row [Cell.int IntKind.u64 v8, Cell.int IntKind.u64 1] false])).bind fun v7 => t0.bind fun v6 => (v7.snd.get v6.fst (v6.snd + 0)).bind fun v5 => v5.toPtr.bind fun v4 => t5.bind fun v3 => bif inb t41 v3.len && v3.esz == 1 then (v7.snd.get v3.id (v3.off + t41.toNat * 1)).bind fun v2 => (Cell.toInt IntKind.u64 v2).bind fun v1 => (f50 v4 8 (some { id := List.length v7.snd, off := 0, len := 2, cap := 2, esz := 1 }) (v7.snd ++ [Blk.row [Cell.int IntKind.u64 8, Cell.int IntKind.u64 v1] false])).bind fun v0 => D23_8 n t0 t2 t3 t4 t5 t39 t40 (IntKind.i64.wrap (t41 + 1)) v0.snd else none else none else none else none else t0.bind fun v55 => (H.get v55.fst (v55.snd + 0)).bind fun v54 => v54.toPtr.bind fun v53 => t2.bind fun v52 => bif inb t41 v52.len && v52.esz == 1 then (H.get v52.id (v52.off + t41.toNat * 1)).bind fun v51 => (Cell.toInt IntKind.u64 v51).bind fun v50 => t3.bind fun v49 => bif inb t41 v49.len && v49.esz == 1 then (H.get v49.id (v49.off + t41.toNat * 1)).bind fun v48 => (Cell.toInt IntKind.u64 v48).bind fun v47 => (f50 v53 4 (some { id := List.length H, off := 0, len := 2, cap := 2, esz := 1 }) (H ++ [Blk.row [Cell.int IntKind.u64 v50, Cell.int IntKind.u64 v47] false])).bind fun v46 => t0.bind fun v45 => (v46.snd.get v45.fst (v45.snd + 0)).bind fun v44 => v44.toPtr.bind fun v43 => (f50 v43 8 (some { id := List.length v46.snd, off := 0, len := 4, cap := 4, esz := 1 }) (v46.snd ++ [Blk.row [Cell.int IntKind.u64 0, Cell.int IntKind.u64 0, Cell.int IntKind.u64 (IntKind.u64.wrap v57), Cell.int IntKind.u64 (IntKind.u64.wrap v56)] false])).bind fun v42 => t0.bind fun v41 => (v42.snd.get v41.fst (v41.snd + 0)).bind fun v40 => v40.toPtr.bind fun v39 => t4.bind fun v38 => bif inb t41 v38.len && v38.esz == 1 then (v42.snd.get v38.id (v38.off + t41.toNat * 1)).bind fun v37 => (Cell.toInt IntKind.u64 v37).bind fun v36 => (f50 v39 4 (some { id := List.length v42.snd, off := 0, len := 2, cap := 2, esz := 1 }) (v42.snd ++ [Blk.row [Cell.int IntKind.u64 v36, Cell.int IntKind.u64 0] false])).bind fun v35 => t0.bind fun v34 => (v35.snd.get v34.fst (v34.snd + 0)).bind fun v33 => v33.toPtr.bind fun v32 => t5.bind fun v31 => bif inb t41 v31.len && v31.esz == 1 then (v35.snd.get v31.id (v31.off + t41.toNat * 1)).bind fun v30 => (Cell.toInt IntKind.u64 v30).bind fun v29 => (f50 v32 8 (some { id := List.length v35.snd, off := 0, len := 2, cap := 2, esz := 1 }) (v35.snd ++ [Blk.row [Cell.int IntKind.u64 8, Cell.int IntKind.u64 v29] false])).bind fun v28 => D23_8 n t0 t2 t3 t4 t5 t39 t40 (IntKind.i64.wrap (t41 + 1)) v28.snd else none else none else none else none else none else some (AExit.exit 0, X23_8 H) := by intros; exact (loopN_stepD hN23 _ _ _ _).trans (by kernel_rfl)
theorem q23 : ∀ (w : Option (Nat × Nat)) (H : Heap), f23 w H = w.bind fun v79 => (H.get v79.fst (v79.snd + 0)).bind fun v78 => v78.toPtr.bind fun v77 => (f52 v77 16 H).bind fun v76 => w.bind fun v75 => (v76.snd.get v75.fst (v75.snd + 0)).bind fun v74 => v74.toPtr.bind fun v73 => w.bind fun v72 => (v76.snd.get v72.fst (v72.snd + 0)).bind fun v71 => v71.toPtr.bind fun v70 => (g51 v70 v76.snd).bind fun v69 => (f53 v73 40 8 (IntKind.u64.wrap v69) v76.snd).bind fun v68 => w.bind fun v67 => (v68.snd.get v67.fst (v67.snd + 0)).bind fun v66 => v66.toPtr.bind fun v65 => (f49 v65 (some { id := List.length (v68.snd ++ [Blk.row [Cell.int IntKind.u8 0, Cell.int IntKind.u8 0, Cell.int IntKind.u8 0, Cell.int IntKind.u8 0, Cell.int IntKind.u8 0, Cell.int IntKind.u8 0, Cell.int IntKind.u8 0, Cell.int IntKind.u8 0, Cell.int IntKind.u8 0, Cell.int IntKind.u8 0, Cell.int IntKind.u8 0, Cell.int IntKind.u8 0, Cell.int IntKind.u8 0, Cell.int IntKind.u8 0, Cell.int IntKind.u8 0, Cell.int IntKind.u8 0, Cell.int IntKind.u8 0, Cell.int IntKind.u8 0, Cell.int IntKind.u8 0, Cell.int IntKind.u8 0, Cell.int IntKind.u8 0, Cell.int IntKind.u8 0, Cell.int IntKind.u8 0, Cell.int IntKind.u8 0, Cell.int IntKind.u8 0, Cell.int IntKind.u8 0, Cell.int IntKind.u8 0, Cell.int IntKind.u8 0, Cell.int IntKind.u8 0, Cell.int IntKind.u8 0, Cell.int IntKind.u8 0, Cell.int IntKind.u8 0, Cell.int IntKind.u8 0, Cell.int IntKind.u8 0, Cell.int IntKind.u8 0, Cell.int IntKind.u8 0, Cell.int IntKind.u8 0, Cell.int IntKind.u8 0, Cell.int IntKind.u8 0, Cell.int IntKind.u8 0, Cell.int IntKind.u8 0, Cell.int IntKind.u8 0, Cell.int IntKind.u8 0, Cell.int IntKind.u8 0, Cell.int IntKind.u8 0, Cell.int IntKind.u8 0, Cell.int IntKind.u8 0, Cell.int IntKind.u8 0, Cell.int IntKind.u8 0, Cell.int IntKind.u8 0, Cell.int IntKind.u8 0, Cell.int IntKind.u8 0, Cell.int IntKind.u8 0, Cell.int IntKind.u8 0, Cell.int IntKind.u8 0, Cell.int IntKind.u8 0, Cell.int IntKind.u8 0, Cell.int IntKind.u8 0, Cell.int IntKind.u8 0, Cell.int IntKind.u8 0, Cell.int IntKind.u8 0, Cell.int IntKind.u8 0, Cell.int IntKind.u8 0, Cell.int IntKind.u8 0] false]), off := 0, len := 1, cap := 1, esz := 1 }) (v68.snd ++ [Blk.row [Cell.int IntKind.u8 0, Cell.int IntKind.u8 0, Cell.int IntKind.u8 0, Cell.int IntKind.u8 0, Cell.int IntKind.u8 0, Cell.int IntKind.u8 0, Cell.int IntKind.u8 0, Cell.int IntKind.u8 0, Cell.int IntKind.u8 0, Cell.int IntKind.u8 0, Cell.int IntKind.u8 0, Cell.int IntKind.u8 0, Cell.int IntKind.u8 0, Cell.int IntKind.u8 0, Cell.int IntKind.u8 0, Cell.int IntKind.u8 0, Cell.int IntKind.u8 0, Cell.int IntKind.u8 0, Cell.int IntKind.u8 0, Cell.int IntKind.u8 0, Cell.int IntKind.u8 0, Cell.int IntKind.u8 0, Cell.int IntKind.u8 0, Cell.int IntKind.u8 0, Cell.int IntKind.u8 0, Cell.int IntKind.u8 0, Cell.int IntKind.u8 0, Cell.int IntKind.u8 0, Cell.int IntKind.u8 0, Cell.int IntKind.u8 0, Cell.int IntKind.u8 0, Cell.int IntKind.u8 0, Cell.int IntKind.u8 0, Cell.int IntKind.u8 0, Cell.int IntKind.u8 0, Cell.int IntKind.u8 0, Cell.int IntKind.u8 0, Cell.int IntKind.u8 0, Cell.int IntKind.u8 0, Cell.int IntKind.u8 0, Cell.int IntKind.u8 0, Cell.int IntKind.u8 0, Cell.int IntKind.u8 0, Cell.int IntKind.u8 0, Cell.int IntKind.u8 0, Cell.int IntKind.u8 0, Cell.int IntKind.u8 0, Cell.int IntKind.u8 0, Cell.int IntKind.u8 0, Cell.int IntKind.u8 0, Cell.int IntKind.u8 0, Cell.int IntKind.u8 0, Cell.int IntKind.u8 0, Cell.int IntKind.u8 0, Cell.int IntKind.u8 0, Cell.int IntKind.u8 0, Cell.int IntKind.u8 0, Cell.int IntKind.u8 0, Cell.int IntKind.u8 0, Cell.int IntKind.u8 0, Cell.int IntKind.u8 0, Cell.int IntKind.u8 0, Cell.int IntKind.u8 0, Cell.int IntKind.u8 0] false] ++ [Blk.row [Cell.slice (some { id := List.length v68.snd, off := 0, len := 64, cap := 64, esz := 1 })] false])).bind fun v64 => w.bind fun v63 => ((v64.snd ++ [Blk.row [Cell.int IntKind.u64 1, Cell.int IntKind.u64 9, Cell.int IntKind.u64 17, Cell.int IntKind.u64 23] false] ++ [Blk.row [Cell.int IntKind.u64 2, Cell.int IntKind.u64 3, Cell.int IntKind.u64 4, Cell.int IntKind.u64 3] false] ++ [Blk.row [Cell.int IntKind.u64 2, Cell.int IntKind.u64 0, Cell.int IntKind.u64 1, Cell.int IntKind.u64 0] false] ++ [Blk.row [Cell.int IntKind.u64 24, Cell.int IntKind.u64 0, Cell.int IntKind.u64 24, Cell.int IntKind.u64 0] false]).get v63.fst (v63.snd + 6)).bind fun v62 => v62.toSlice.bind fun v61 => (LL23_8 w (some { id := List.length v64.snd, off := 0, len := 4, cap := 4, esz := 1 }) (some { id := List.length (v64.snd ++ [Blk.row [Cell.int IntKind.u64 1, Cell.int IntKind.u64 9, Cell.int IntKind.u64 17, Cell.int IntKind.u64 23] false]), off := 0, len := 4, cap := 4, esz := 1 }) (some { id := List.length (v64.snd ++ [Blk.row [Cell.int IntKind.u64 1, Cell.int IntKind.u64 9, Cell.int IntKind.u64 17, Cell.int IntKind.u64 23] false] ++ [Blk.row [Cell.int IntKind.u64 2, Cell.int IntKind.u64 3, Cell.int IntKind.u64 4, Cell.int IntKind.u64 3] false]), off := 0, len := 4, cap := 4, esz := 1 }) (some { id := List.length (v64.snd ++ [Blk.row [Cell.int IntKind.u64 1, Cell.int IntKind.u64 9, Cell.int IntKind.u64 17, Cell.int IntKind.u64 23] false] ++ [Blk.row [Cell.int IntKind.u64 2, Cell.int IntKind.u64 3, Cell.int IntKind.u64 4, Cell.int IntKind.u64 3] false] ++ [Blk.row [Cell.int IntKind.u64 2, Cell.int IntKind.u64 0, Cell.int IntKind.u64 1, Cell.int IntKind.u64 0] false]), off := 0, len := 4, cap := 4, esz := 1 }) v61 (slen v61) 0 (v64.snd ++ [Blk.row [Cell.int IntKind.u64 1, Cell.int IntKind.u64 9, Cell.int IntKind.u64 17, Cell.int IntKind.u64 23] false] ++ [Blk.row [Cell.int IntKind.u64 2, Cell.int IntKind.u64 3, Cell.int IntKind.u64 4, Cell.int IntKind.u64 3] false] ++ [Blk.row [Cell.int IntKind.u64 2, Cell.int IntKind.u64 0, Cell.int IntKind.u64 1, Cell.int IntKind.u64 0] false] ++ [Blk.row [Cell.int IntKind.u64 24, Cell.int IntKind.u64 0, Cell.int IntKind.u64 24, Cell.int IntKind.u64 0] false])).bind J23_8 := by intros; exact (f23_run ..).trans (by kernel_rfl)
theorem J23_8_0 : ∀ (H : Heap), J23_8 (AExit.exit 0, X23_8 H) = some ((), H) := by intros; kernel_rfl
theorem ok23 : FnOk Try.prog 23 (specF enc23 (sem23 f23)) := by
  refine spec_ok (C := CC23) good23 rfl rfl rfl (by kernel_rfl) Try.func23 (c := bodyOf Try.f23) (by kernel_rfl) (by kernel_rfl) (Nat.le_of_eq Try.ntmps23.symm) dec23 enc23 de23 _ ?_
  intro args H q h
  unfold sem23 at h
  split at h
  · rw [← f23_eq]; exact h
  · cases h
