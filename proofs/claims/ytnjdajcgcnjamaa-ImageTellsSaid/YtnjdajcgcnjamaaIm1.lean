/- Layer 4: sorting numbers. -/
import Derived.Test.YtnjdajcgcnjamaaProg
import Derived.Test.YtnjdajcgcnjamaaAb33
import Derived.KernelRfl
namespace Go.Proofs.Ytnjdajcgcnjamaa
open Go Go.Proofs.Ytnjdajcgcnjamaa.Ab
set_option linter.unusedVariables false
set_option linter.unusedSimpArgs false
set_option maxRecDepth 100000
noncomputable section
abbrev SO := Option Sl
abbrev PO := Option (Nat × Nat)
def tab8 : List UInt8 := [UInt8.ofNat 0, UInt8.ofNat 1, UInt8.ofNat 2, UInt8.ofNat 2, UInt8.ofNat 3, UInt8.ofNat 3, UInt8.ofNat 3, UInt8.ofNat 3, UInt8.ofNat 4, UInt8.ofNat 4, UInt8.ofNat 4, UInt8.ofNat 4, UInt8.ofNat 4, UInt8.ofNat 4, UInt8.ofNat 4, UInt8.ofNat 4, UInt8.ofNat 5, UInt8.ofNat 5, UInt8.ofNat 5, UInt8.ofNat 5, UInt8.ofNat 5, UInt8.ofNat 5, UInt8.ofNat 5, UInt8.ofNat 5, UInt8.ofNat 5, UInt8.ofNat 5, UInt8.ofNat 5, UInt8.ofNat 5, UInt8.ofNat 5, UInt8.ofNat 5, UInt8.ofNat 5, UInt8.ofNat 5, UInt8.ofNat 6, UInt8.ofNat 6, UInt8.ofNat 6, UInt8.ofNat 6, UInt8.ofNat 6, UInt8.ofNat 6, UInt8.ofNat 6, UInt8.ofNat 6, UInt8.ofNat 6, UInt8.ofNat 6, UInt8.ofNat 6, UInt8.ofNat 6, UInt8.ofNat 6, UInt8.ofNat 6, UInt8.ofNat 6, UInt8.ofNat 6, UInt8.ofNat 6, UInt8.ofNat 6, UInt8.ofNat 6, UInt8.ofNat 6, UInt8.ofNat 6, UInt8.ofNat 6, UInt8.ofNat 6, UInt8.ofNat 6, UInt8.ofNat 6, UInt8.ofNat 6, UInt8.ofNat 6, UInt8.ofNat 6, UInt8.ofNat 6, UInt8.ofNat 6, UInt8.ofNat 6, UInt8.ofNat 6, UInt8.ofNat 7, UInt8.ofNat 7, UInt8.ofNat 7, UInt8.ofNat 7, UInt8.ofNat 7, UInt8.ofNat 7, UInt8.ofNat 7, UInt8.ofNat 7, UInt8.ofNat 7, UInt8.ofNat 7, UInt8.ofNat 7, UInt8.ofNat 7, UInt8.ofNat 7, UInt8.ofNat 7, UInt8.ofNat 7, UInt8.ofNat 7, UInt8.ofNat 7, UInt8.ofNat 7, UInt8.ofNat 7, UInt8.ofNat 7, UInt8.ofNat 7, UInt8.ofNat 7, UInt8.ofNat 7, UInt8.ofNat 7, UInt8.ofNat 7, UInt8.ofNat 7, UInt8.ofNat 7, UInt8.ofNat 7, UInt8.ofNat 7, UInt8.ofNat 7, UInt8.ofNat 7, UInt8.ofNat 7, UInt8.ofNat 7, UInt8.ofNat 7, UInt8.ofNat 7, UInt8.ofNat 7, UInt8.ofNat 7, UInt8.ofNat 7, UInt8.ofNat 7, UInt8.ofNat 7, UInt8.ofNat 7, UInt8.ofNat 7, UInt8.ofNat 7, UInt8.ofNat 7, UInt8.ofNat 7, UInt8.ofNat 7, UInt8.ofNat 7, UInt8.ofNat 7, UInt8.ofNat 7, UInt8.ofNat 7, UInt8.ofNat 7, UInt8.ofNat 7, UInt8.ofNat 7, UInt8.ofNat 7, UInt8.ofNat 7, UInt8.ofNat 7, UInt8.ofNat 7, UInt8.ofNat 7, UInt8.ofNat 7, UInt8.ofNat 7, UInt8.ofNat 7, UInt8.ofNat 7, UInt8.ofNat 7, UInt8.ofNat 7, UInt8.ofNat 8, UInt8.ofNat 8, UInt8.ofNat 8, UInt8.ofNat 8, UInt8.ofNat 8, UInt8.ofNat 8, UInt8.ofNat 8, UInt8.ofNat 8, UInt8.ofNat 8, UInt8.ofNat 8, UInt8.ofNat 8, UInt8.ofNat 8, UInt8.ofNat 8, UInt8.ofNat 8, UInt8.ofNat 8, UInt8.ofNat 8, UInt8.ofNat 8, UInt8.ofNat 8, UInt8.ofNat 8, UInt8.ofNat 8, UInt8.ofNat 8, UInt8.ofNat 8, UInt8.ofNat 8, UInt8.ofNat 8, UInt8.ofNat 8, UInt8.ofNat 8, UInt8.ofNat 8, UInt8.ofNat 8, UInt8.ofNat 8, UInt8.ofNat 8, UInt8.ofNat 8, UInt8.ofNat 8, UInt8.ofNat 8, UInt8.ofNat 8, UInt8.ofNat 8, UInt8.ofNat 8, UInt8.ofNat 8, UInt8.ofNat 8, UInt8.ofNat 8, UInt8.ofNat 8, UInt8.ofNat 8, UInt8.ofNat 8, UInt8.ofNat 8, UInt8.ofNat 8, UInt8.ofNat 8, UInt8.ofNat 8, UInt8.ofNat 8, UInt8.ofNat 8, UInt8.ofNat 8, UInt8.ofNat 8, UInt8.ofNat 8, UInt8.ofNat 8, UInt8.ofNat 8, UInt8.ofNat 8, UInt8.ofNat 8, UInt8.ofNat 8, UInt8.ofNat 8, UInt8.ofNat 8, UInt8.ofNat 8, UInt8.ofNat 8, UInt8.ofNat 8, UInt8.ofNat 8, UInt8.ofNat 8, UInt8.ofNat 8, UInt8.ofNat 8, UInt8.ofNat 8, UInt8.ofNat 8, UInt8.ofNat 8, UInt8.ofNat 8, UInt8.ofNat 8, UInt8.ofNat 8, UInt8.ofNat 8, UInt8.ofNat 8, UInt8.ofNat 8, UInt8.ofNat 8, UInt8.ofNat 8, UInt8.ofNat 8, UInt8.ofNat 8, UInt8.ofNat 8, UInt8.ofNat 8, UInt8.ofNat 8, UInt8.ofNat 8, UInt8.ofNat 8, UInt8.ofNat 8, UInt8.ofNat 8, UInt8.ofNat 8, UInt8.ofNat 8, UInt8.ofNat 8, UInt8.ofNat 8, UInt8.ofNat 8, UInt8.ofNat 8, UInt8.ofNat 8, UInt8.ofNat 8, UInt8.ofNat 8, UInt8.ofNat 8, UInt8.ofNat 8, UInt8.ofNat 8, UInt8.ofNat 8, UInt8.ofNat 8, UInt8.ofNat 8, UInt8.ofNat 8, UInt8.ofNat 8, UInt8.ofNat 8, UInt8.ofNat 8, UInt8.ofNat 8, UInt8.ofNat 8, UInt8.ofNat 8, UInt8.ofNat 8, UInt8.ofNat 8, UInt8.ofNat 8, UInt8.ofNat 8, UInt8.ofNat 8, UInt8.ofNat 8, UInt8.ofNat 8, UInt8.ofNat 8, UInt8.ofNat 8, UInt8.ofNat 8, UInt8.ofNat 8, UInt8.ofNat 8, UInt8.ofNat 8, UInt8.ofNat 8, UInt8.ofNat 8, UInt8.ofNat 8, UInt8.ofNat 8, UInt8.ofNat 8, UInt8.ofNat 8, UInt8.ofNat 8, UInt8.ofNat 8]
/-! 93: mbits_Len64 -/
noncomputable def CC93 : Ctx := { P := Try.prog, own := [], fns := [], nt := 25, nums := [], live := [] }
theorem good93 : Callees Try.prog CC93.fns [] CC93.nums := Callees.nil Try.prog
theorem hN93 : CtxNat CC93 := good93.ctx rfl rfl rfl
def enc93 (r : Int) : List TV := [.c (Cell.int .i64 (r))]
def dec93 : AV → Option (Int)
  | .c (Cell.int .i64 q0) => some (q0)
  | _ => none
theorem de93 (v : AV) (r : Int) (h : dec93 v = some r) : v = oneOf (enc93 r) := by
  unfold dec93 at h
  split at h
  · cases h; rfl
  · cases h
abbrev Ty93 := Int → Heap → Option (Int × Heap)
def sem93 (f : Ty93) : List TV → Heap → Option (Int × Heap)
  | [.c (Cell.int .u64 x0)], H => f x0 H
  | _, _ => none
noncomputable def F093 : Ty93 := fun x0 H => fnA CC93 Try.f93.results.toList (bodyOf Try.f93) _ [.c (Cell.int .u64 x0)] H (decF dec93)
noncomputable def f93 : Ty93 := hide F093
theorem f93_eq : f93 = F093 := hide_eq _
theorem q93 : ∀ (x0 : Int) (H : Heap), f93 x0 H = bif decide (x0 ≥ 4294967296) then bif decide (ishr IntKind.u64 x0 32 ≥ 65536) then bif decide (ishr IntKind.u64 (ishr IntKind.u64 x0 32) 16 ≥ 256) then bif inb (IntKind.u8.wrap (ishr IntKind.u64 (ishr IntKind.u64 (ishr IntKind.u64 x0 32) 16) 8)) 256 then tab8[(IntKind.u8.wrap (ishr IntKind.u64 (ishr IntKind.u64 (ishr IntKind.u64 x0 32) 16) 8)).toNat]?.bind fun v0 => some (IntKind.i64.wrap (56 + IntKind.i64.wrap (↑v0.toNat : Int)), H) else none else bif inb (IntKind.u8.wrap (ishr IntKind.u64 (ishr IntKind.u64 x0 32) 16)) 256 then tab8[(IntKind.u8.wrap (ishr IntKind.u64 (ishr IntKind.u64 x0 32) 16)).toNat]?.bind fun v1 => some (IntKind.i64.wrap (48 + IntKind.i64.wrap (↑v1.toNat : Int)), H) else none else bif decide (ishr IntKind.u64 x0 32 ≥ 256) then bif inb (IntKind.u8.wrap (ishr IntKind.u64 (ishr IntKind.u64 x0 32) 8)) 256 then tab8[(IntKind.u8.wrap (ishr IntKind.u64 (ishr IntKind.u64 x0 32) 8)).toNat]?.bind fun v2 => some (IntKind.i64.wrap (40 + IntKind.i64.wrap (↑v2.toNat : Int)), H) else none else bif inb (IntKind.u8.wrap (ishr IntKind.u64 x0 32)) 256 then tab8[(IntKind.u8.wrap (ishr IntKind.u64 x0 32)).toNat]?.bind fun v3 => some (IntKind.i64.wrap (32 + IntKind.i64.wrap (↑v3.toNat : Int)), H) else none else bif decide (x0 ≥ 65536) then bif decide (ishr IntKind.u64 x0 16 ≥ 256) then bif inb (IntKind.u8.wrap (ishr IntKind.u64 (ishr IntKind.u64 x0 16) 8)) 256 then tab8[(IntKind.u8.wrap (ishr IntKind.u64 (ishr IntKind.u64 x0 16) 8)).toNat]?.bind fun v4 => some (IntKind.i64.wrap (24 + IntKind.i64.wrap (↑v4.toNat : Int)), H) else none else bif inb (IntKind.u8.wrap (ishr IntKind.u64 x0 16)) 256 then tab8[(IntKind.u8.wrap (ishr IntKind.u64 x0 16)).toNat]?.bind fun v5 => some (IntKind.i64.wrap (16 + IntKind.i64.wrap (↑v5.toNat : Int)), H) else none else bif decide (x0 ≥ 256) then bif inb (IntKind.u8.wrap (ishr IntKind.u64 x0 8)) 256 then tab8[(IntKind.u8.wrap (ishr IntKind.u64 x0 8)).toNat]?.bind fun v6 => some (IntKind.i64.wrap (8 + IntKind.i64.wrap (↑v6.toNat : Int)), H) else none else bif inb (IntKind.u8.wrap x0) 256 then tab8[(IntKind.u8.wrap x0).toNat]?.bind fun v7 => some (IntKind.i64.wrap (0 + IntKind.i64.wrap (↑v7.toNat : Int)), H) else none := by intros; rw [f93_eq]; exact (fnA_lpD hN93 ..).trans (by kernel_rfl)
theorem ok93 : FnOk Try.prog 93 (specF enc93 (sem93 f93)) := by
  refine spec_ok (C := CC93) good93 rfl rfl rfl (by kernel_rfl) Try.func93 (c := bodyOf Try.f93) (by kernel_rfl) (by kernel_rfl) (Nat.le_of_eq Try.ntmps93.symm) dec93 enc93 de93 _ ?_
  intro args H q h
  unfold sem93 at h
  split at h
  · rw [f93_eq] at h; exact h
  · cases h
/-! 77: mbits_Len -/
noncomputable def CC77 : Ctx := { P := Try.prog, own := [], fns := [(93, specF enc93 (sem93 f93))], nt := 8, nums := [], live := [] }
theorem good77 : Callees Try.prog CC77.fns [] CC77.nums := (Callees.nil Try.prog).cons ok93 (specF_nat _ _)
theorem hN77 : CtxNat CC77 := good77.ctx rfl rfl rfl
def enc77 (r : Int) : List TV := [.c (Cell.int .i64 (r))]
def dec77 : AV → Option (Int)
  | .c (Cell.int .i64 q0) => some (q0)
  | _ => none
theorem de77 (v : AV) (r : Int) (h : dec77 v = some r) : v = oneOf (enc77 r) := by
  unfold dec77 at h
  split at h
  · cases h; rfl
  · cases h
abbrev Ty77 := Int → Heap → Option (Int × Heap)
def sem77 (f : Ty77) : List TV → Heap → Option (Int × Heap)
  | [.c (Cell.int .u64 x0)], H => f x0 H
  | _, _ => none
noncomputable def F077 : Ty77 := fun x0 H => fnA CC77 Try.f77.results.toList (bodyOf Try.f77) _ [.c (Cell.int .u64 x0)] H (decF dec77)
noncomputable def f77 : Ty77 := hide F077
theorem f77_eq : f77 = F077 := hide_eq _
theorem q77 : ∀ (x0 : Int) (H : Heap), f77 x0 H = (f93 x0 H).bind fun v0 => some (v0.1, v0.2) := by intros; rw [f77_eq]; exact (fnA_lpD hN77 ..).trans (by kernel_rfl)
theorem ok77 : FnOk Try.prog 77 (specF enc77 (sem77 f77)) := by
  refine spec_ok (C := CC77) good77 rfl rfl rfl (by kernel_rfl) Try.func77 (c := bodyOf Try.f77) (by kernel_rfl) (by kernel_rfl) (Nat.le_of_eq Try.ntmps77.symm) dec77 enc77 de77 _ ?_
  intro args H q h
  unfold sem77 at h
  split at h
  · rw [f77_eq] at h; exact h
  · cases h
/-! 59: cmp_isNaN_uint64 -/
noncomputable def CC59 : Ctx := { P := Try.prog, own := [], fns := [], nt := 6, nums := [], live := [] }
theorem good59 : Callees Try.prog CC59.fns [] CC59.nums := Callees.nil Try.prog
def cmp_isNaN_uint64 (x : Int) : Bool := x != x
noncomputable def G59 : List TV → Option (List TV)
  | [.c (Cell.int .u64 x0)] => some [.c (Cell.bool ((cmp_isNaN_uint64 x0)))]
  | _ => none
noncomputable def F59 : FnSem := numF G59
theorem F59_num : FnNum F59 := numF_num _
theorem e59 : ∀ (R : Type) (x0 : Int) (H : Heap) (K : AV → Heap → Option R) (lp : Code → St → (AExit → St → Option R) → Option R), fnL CC59 lp Try.f59.results.toList (bodyOf Try.f59) [TV.c (Cell.int .u64 x0)] H K = K (AV.c (Cell.bool (x0 != x0))) H := by intros; kernel_rfl
theorem s59 (R : Type) (x0 : Int) (H : Heap) (K : AV → Heap → Option R) (lp : Code → St → (AExit → St → Option R) → Option R) : fnL CC59 lp Try.f59.results.toList (bodyOf Try.f59) [.c (Cell.int .u64 x0)] H K = K (oneOf [.c (Cell.bool ((cmp_isNaN_uint64 x0)))]) H := by
  rw [e59]
  rfl
theorem ok59 : FnOk Try.prog 59 F59 := by
  refine fn_ok (C := CC59) (good59.env rfl) (good59.ctx rfl rfl rfl) (by kernel_rfl) Try.func59 (c := bodyOf Try.f59) (by kernel_rfl) (by kernel_rfl) (Nat.le_of_eq Try.ntmps59.symm) ?_
  intro R args H K r h
  unfold F59 numF G59 at h
  split at h
  · rw [fnA_eq, s59]; exact h
  · cases h
/-! 89: cmp_Less_uint64 -/
noncomputable def CC89 : Ctx := { P := Try.prog, own := [], fns := [(59, F59)], nt := 17, nums := [59], live := [] }
theorem good89 : Callees Try.prog CC89.fns [] CC89.nums := (Callees.nil Try.prog).cons_num ok59 F59_num
def cmp_Less_uint64 (x y : Int) : Bool := decide (x < y)
noncomputable def G89 : List TV → Option (List TV)
  | [.c (Cell.int .u64 x0), .c (Cell.int .u64 y)] => some [.c (Cell.bool ((cmp_Less_uint64 x0 y)))]
  | _ => none
noncomputable def F89 : FnSem := numF G89
theorem F89_num : FnNum F89 := numF_num _
theorem e89 : ∀ (R : Type) (x0 y : Int) (H : Heap) (K : AV → Heap → Option R) (lp : Code → St → (AExit → St → Option R) → Option R), fnL CC89 lp Try.f89.results.toList (bodyOf Try.f89) [TV.c (Cell.int .u64 x0), TV.c (Cell.int .u64 y)] H K = bif cmp_isNaN_uint64 x0 then bif !cmp_isNaN_uint64 y then K (AV.c (Cell.bool true)) H else K (AV.c (Cell.bool (decide (x0 < y)))) H else K (AV.c (Cell.bool (decide (x0 < y)))) H := by intros; kernel_rfl
theorem s89 (R : Type) (x0 y : Int) (H : Heap) (K : AV → Heap → Option R) (lp : Code → St → (AExit → St → Option R) → Option R) : fnL CC89 lp Try.f89.results.toList (bodyOf Try.f89) [.c (Cell.int .u64 x0), .c (Cell.int .u64 y)] H K = K (oneOf [.c (Cell.bool ((cmp_Less_uint64 x0 y)))]) H := by
  rw [e89]
  unfold cmp_Less_uint64 cmp_isNaN_uint64
  simp
  rfl
theorem ok89 : FnOk Try.prog 89 F89 := by
  refine fn_ok (C := CC89) (good89.env rfl) (good89.ctx rfl rfl rfl) (by kernel_rfl) Try.func89 (c := bodyOf Try.f89) (by kernel_rfl) (by kernel_rfl) (Nat.le_of_eq Try.ntmps89.symm) ?_
  intro R args H K r h
  unfold F89 numF G89 at h
  split at h
  · rw [fnA_eq, s89]; exact h
  · cases h
/-! 83: slices_insertionSortOrdered_uint64 -/
noncomputable def CC83 : Ctx := { P := Try.prog, own := [], fns := [(89, F89)], nt := 49, nums := [89], live := [(4, ⟨[0, 1, 2, 6, 7], [], [0, 1, 2, 6], []⟩), (1, ⟨[0, 1, 2, 6], [], [], []⟩)] }
theorem good83 : Callees Try.prog CC83.fns [] CC83.nums := (Callees.nil Try.prog).cons_num ok89 F89_num
theorem hN83 : CtxNat CC83 := good83.ctx rfl rfl rfl
def enc83 (r : Unit) : List TV := []
def dec83 : AV → Option (Unit)
  | .tup [] => some ()
  | _ => none
theorem de83 (v : AV) (r : Unit) (h : dec83 v = some r) : v = oneOf (enc83 r) := by
  unfold dec83 at h
  split at h
  · cases h; rfl
  · cases h
abbrev Ty83 := SO → Int → Int → Heap → Option (Unit × Heap)
def sem83 (f : Ty83) : List TV → Heap → Option (Unit × Heap)
  | [.c (Cell.slice data), .c (Cell.int .i64 a), .c (Cell.int .i64 b)], H => f data a b H
  | _, _ => none
noncomputable def F083 : Ty83 := fun data a b H => fnA CC83 Try.f83.results.toList (bodyOf Try.f83) _ [.c (Cell.slice data), .c (Cell.int .i64 a), .c (Cell.int .i64 b)] H (decF dec83)
noncomputable def f83 : Ty83 := hide F083
theorem f83_eq : f83 = F083 := hide_eq _
noncomputable def P83_1 : Code := (Code.l (Code.l (Code.r (bodyOf Try.f83))))
noncomputable def P83_4 : Code := (Code.l (Code.l (Code.r (Code.l (Code.l (Code.r (Code.l (Code.l (Code.r (bodyOf Try.f83))))))))))
def S83_1 (t0 : SO) (t1 t2 t6 : Int) (H : Heap) : St := ⟨[(0, .c (Cell.slice t0)), (1, .c (Cell.int .i64 t1)), (2, .c (Cell.int .i64 t2)), (6, .c (Cell.int .i64 t6))], [], H⟩
noncomputable def D83_1 (n : Nat) (t0 : SO) (t1 t2 t6 : Int) (H : Heap) : Option (AExit × St) := loopN (exec CC83 P83_1) (keepOf CC83.live P83_1) n (S83_1 t0 t1 t2 t6 H) retD
noncomputable def LL83_1 (t0 : SO) (t1 t2 t6 : Int) (H : Heap) : Option (AExit × St) := loopsD CC83 P83_1 (S83_1 t0 t1 t2 t6 H)
theorem LL83_1_of (m : Nat) (hm : m < 18446744073709551616) (t0 : SO) (t1 t2 t6 : Int) (H : Heap) : ∃ n, LL83_1 t0 t1 t2 t6 H = D83_1 (n + m + 1) t0 t1 t2 t6 H := loopsD_of _ _ _ m hm
def S83_4 (t0 : SO) (t1 t2 t6 t7 : Int) (H : Heap) : St := ⟨[(0, .c (Cell.slice t0)), (1, .c (Cell.int .i64 t1)), (2, .c (Cell.int .i64 t2)), (6, .c (Cell.int .i64 t6)), (7, .c (Cell.int .i64 t7))], [], H⟩
noncomputable def D83_4 (n : Nat) (t0 : SO) (t1 t2 t6 t7 : Int) (H : Heap) : Option (AExit × St) := loopN (exec CC83 P83_4) (keepOf CC83.live P83_4) n (S83_4 t0 t1 t2 t6 t7 H) retD
noncomputable def LL83_4 (t0 : SO) (t1 t2 t6 t7 : Int) (H : Heap) : Option (AExit × St) := loopsD CC83 P83_4 (S83_4 t0 t1 t2 t6 t7 H)
theorem LL83_4_of (m : Nat) (hm : m < 18446744073709551616) (t0 : SO) (t1 t2 t6 t7 : Int) (H : Heap) : ∃ n, LL83_4 t0 t1 t2 t6 t7 H = D83_4 (n + m + 1) t0 t1 t2 t6 t7 H := loopsD_of _ _ _ m hm
def X83_4 (x0 : SO) (x1 : Int) (x2 : Int) (x3 : Int) (H : Heap) : St := { env := [(0, AV.c (Cell.slice x0)), (1, AV.c (Cell.int .i64 x1)), (2, AV.c (Cell.int .i64 x2)), (6, AV.c (Cell.int .i64 x3))], loc := [], heap := H }
def X83_1 (H : Heap) : St := { env := [], loc := [], heap := H }
noncomputable def J83_4 : Nat → AExit × St → Option (AExit × St) := fun n p => blockK 2 (blockK 1 (seqK (execL CC83 (lpD CC83) (Code.r (Code.r P83_1))) (loopK (some { t1 := [0, 1, 2, 6], l1 := [], t2 := [], l2 := [] }) (loopN (exec CC83 P83_1) (keepOf CC83.live P83_1) n) retD))) p.1 p.2
noncomputable def J83_1 : AExit × St → Option (Unit × Heap) := fun p => blockK 0 (retA CC83 [] (decF dec83)) p.1 p.2
theorem D83_4_s : ∀ (n : Nat) (t0 : SO) (t1 t2 t6 t7 : Int) (H : Heap), D83_4 (n + 1) t0 t1 t2 t6 t7 H = bif decide (t7 > t1) then t0.bind fun v15 => bif inb t7 v15.len && v15.esz == 1 then (H.get v15.id (v15.off + t7.toNat * 1)).bind fun v14 => (Cell.toInt .u64 v14).bind fun v13 => t0.bind fun v12 => bif inb (IntKind.i64.wrap (t7 - 1)) v12.len && v12.esz == 1 then (H.get v12.id (v12.off + (IntKind.i64.wrap (t7 - 1)).toNat * 1)).bind fun v11 => (Cell.toInt .u64 v11).bind fun v10 => bif cmp_Less_uint64 v13 v10 then t0.bind fun v9 => bif inb (IntKind.i64.wrap (t7 - 1)) v9.len && v9.esz == 1 then (H.get v9.id (v9.off + (IntKind.i64.wrap (t7 - 1)).toNat * 1)).bind fun v8 => (Cell.toInt .u64 v8).bind fun v7 => t0.bind fun v6 => bif inb t7 v6.len && v6.esz == 1 then (H.get v6.id (v6.off + t7.toNat * 1)).bind fun v5 => (Cell.toInt .u64 v5).bind fun v4 => t0.bind fun v3 => bif inb t7 v3.len && v3.esz == 1 then (H.put v3.id (v3.off + t7.toNat * 1) [Cell.int .u64 v7]).bind fun v2 => t0.bind fun v1 => bif inb (IntKind.i64.wrap (t7 - 1)) v1.len && v1.esz == 1 then (v2.put v1.id (v1.off + (IntKind.i64.wrap (t7 - 1)).toNat * 1) [Cell.int .u64 v4]).bind fun v0 => D83_4 n t0 t1 t2 t6 (IntKind.i64.wrap (t7 - 1)) v0 else none else none else none else none else some (AExit.exit 2, X83_4 t0 t1 t2 t6 H) else none else none else some (AExit.exit 2, X83_4 t0 t1 t2 t6 H) := by intros; exact (loopN_stepD hN83 _ _ _ _).trans (by kernel_rfl)
theorem D83_1_s : ∀ (n : Nat) (t0 : SO) (t1 t2 t6 : Int) (H : Heap), D83_1 (n + 1) t0 t1 t2 t6 H = bif decide (t6 < t2) then (LL83_4 t0 t1 t2 t6 t6 H).bind (J83_4 n) else some (AExit.exit 0, X83_1 H) := by intros; exact (loopN_stepD hN83 _ _ _ _).trans (by kernel_rfl)
theorem J83_4_0 : ∀ (n : Nat) (x0 : SO) (x1 x2 x3 : Int) (H : Heap), J83_4 n (AExit.exit 2, X83_4 x0 x1 x2 x3 H) = D83_1 n x0 x1 x2 (IntKind.i64.wrap (x3 + 1)) H := by intros; kernel_rfl
theorem q83 : ∀ (data : SO) (a b : Int) (H : Heap), f83 data a b H = (LL83_1 data a b (IntKind.i64.wrap (a + 1)) H).bind J83_1 := by intros; rw [f83_eq]; exact (fnA_lpD hN83 ..).trans (by kernel_rfl)
theorem J83_1_0 : ∀ (H : Heap), J83_1 (AExit.exit 0, X83_1 H) = some ((), H) := by intros; kernel_rfl
theorem ok83 : FnOk Try.prog 83 (specF enc83 (sem83 f83)) := by
  refine spec_ok (C := CC83) good83 rfl rfl rfl (by kernel_rfl) Try.func83 (c := bodyOf Try.f83) (by kernel_rfl) (by kernel_rfl) (Nat.le_of_eq Try.ntmps83.symm) dec83 enc83 de83 _ ?_
  intro args H q h
  unfold sem83 at h
  split at h
  · rw [f83_eq] at h; exact h
  · cases h
/-! 96: slices_siftDownOrdered_uint64 -/
noncomputable def CC96 : Ctx := { P := Try.prog, own := [], fns := [(89, F89)], nt := 76, nums := [89], live := [(1, ⟨[0, 2, 3, 8], [], [], []⟩)] }
theorem good96 : Callees Try.prog CC96.fns [] CC96.nums := (Callees.nil Try.prog).cons_num ok89 F89_num
theorem hN96 : CtxNat CC96 := good96.ctx rfl rfl rfl
def enc96 (r : Unit) : List TV := []
def dec96 : AV → Option (Unit)
  | .tup [] => some ()
  | _ => none
theorem de96 (v : AV) (r : Unit) (h : dec96 v = some r) : v = oneOf (enc96 r) := by
  unfold dec96 at h
  split at h
  · cases h; rfl
  · cases h
abbrev Ty96 := SO → Int → Int → Int → Heap → Option (Unit × Heap)
def sem96 (f : Ty96) : List TV → Heap → Option (Unit × Heap)
  | [.c (Cell.slice data), .c (Cell.int .i64 lo), .c (Cell.int .i64 hi), .c (Cell.int .i64 first)], H => f data lo hi first H
  | _, _ => none
noncomputable def F096 : Ty96 := fun data lo hi first H => fnA CC96 Try.f96.results.toList (bodyOf Try.f96) _ [.c (Cell.slice data), .c (Cell.int .i64 lo), .c (Cell.int .i64 hi), .c (Cell.int .i64 first)] H (decF dec96)
noncomputable def f96 : Ty96 := hide F096
theorem f96_eq : f96 = F096 := hide_eq _
noncomputable def P96_1 : Code := (Code.l (Code.l (Code.r (bodyOf Try.f96))))
def S96_1 (t0 : SO) (t2 t3 t8 : Int) (H : Heap) : St := ⟨[(0, .c (Cell.slice t0)), (2, .c (Cell.int .i64 t2)), (3, .c (Cell.int .i64 t3)), (8, .c (Cell.int .i64 t8))], [], H⟩
noncomputable def D96_1 (n : Nat) (t0 : SO) (t2 t3 t8 : Int) (H : Heap) : Option (AExit × St) := loopN (exec CC96 P96_1) (keepOf CC96.live P96_1) n (S96_1 t0 t2 t3 t8 H) retD
noncomputable def LL96_1 (t0 : SO) (t2 t3 t8 : Int) (H : Heap) : Option (AExit × St) := loopsD CC96 P96_1 (S96_1 t0 t2 t3 t8 H)
theorem LL96_1_of (m : Nat) (hm : m < 18446744073709551616) (t0 : SO) (t2 t3 t8 : Int) (H : Heap) : ∃ n, LL96_1 t0 t2 t3 t8 H = D96_1 (n + m + 1) t0 t2 t3 t8 H := loopsD_of _ _ _ m hm
def X96_1 (H : Heap) : St := { env := [], loc := [], heap := H }
def X96_1a (H : Heap) : St := { env := [], loc := [], heap := H }
noncomputable def J96_1 : AExit × St → Option (Unit × Heap) := fun p => blockK 0 (retA CC96 [] (decF dec96)) p.1 p.2
theorem D96_1_s : ∀ (n : Nat) (t0 : SO) (t2 t3 t8 : Int) (H : Heap), D96_1 (n + 1) t0 t2 t3 t8 H = bif decide (IntKind.i64.wrap (IntKind.i64.wrap (2 * t8) + 1) ≥ t2) then some (AExit.exit 0, X96_1 H) else bif decide (IntKind.i64.wrap (IntKind.i64.wrap (IntKind.i64.wrap (2 * t8) + 1) + 1) < t2) then t0.bind fun v37 => bif inb (IntKind.i64.wrap (t3 + IntKind.i64.wrap (IntKind.i64.wrap (2 * t8) + 1))) v37.len && v37.esz == 1 then (H.get v37.id (v37.off + (IntKind.i64.wrap (t3 + IntKind.i64.wrap (IntKind.i64.wrap (2 * t8) + 1))).toNat * 1)).bind fun v36 => (Cell.toInt .u64 v36).bind fun v35 => t0.bind fun v34 => bif inb (IntKind.i64.wrap (IntKind.i64.wrap (t3 + IntKind.i64.wrap (IntKind.i64.wrap (2 * t8) + 1)) + 1)) v34.len && v34.esz == 1 then (H.get v34.id (v34.off + (IntKind.i64.wrap (IntKind.i64.wrap (t3 + IntKind.i64.wrap (IntKind.i64.wrap (2 * t8) + 1)) + 1)).toNat * 1)).bind fun v33 => (Cell.toInt .u64 v33).bind fun v32 => bif cmp_Less_uint64 v35 v32 then t0.bind fun v15 => bif inb (IntKind.i64.wrap (t3 + t8)) v15.len && v15.esz == 1 then (H.get v15.id (v15.off + (IntKind.i64.wrap (t3 + t8)).toNat * 1)).bind fun v14 => (Cell.toInt .u64 v14).bind fun v13 => t0.bind fun v12 => bif inb (IntKind.i64.wrap (t3 + IntKind.i64.wrap (IntKind.i64.wrap (IntKind.i64.wrap (2 * t8) + 1) + 1))) v12.len && v12.esz == 1 then (H.get v12.id (v12.off + (IntKind.i64.wrap (t3 + IntKind.i64.wrap (IntKind.i64.wrap (IntKind.i64.wrap (2 * t8) + 1) + 1))).toNat * 1)).bind fun v11 => (Cell.toInt .u64 v11).bind fun v10 => bif !cmp_Less_uint64 v13 v10 then some (AExit.ret, X96_1a H) else t0.bind fun v9 => bif inb (IntKind.i64.wrap (t3 + IntKind.i64.wrap (IntKind.i64.wrap (IntKind.i64.wrap (2 * t8) + 1) + 1))) v9.len && v9.esz == 1 then (H.get v9.id (v9.off + (IntKind.i64.wrap (t3 + IntKind.i64.wrap (IntKind.i64.wrap (IntKind.i64.wrap (2 * t8) + 1) + 1))).toNat * 1)).bind fun v8 => (Cell.toInt .u64 v8).bind fun v7 => t0.bind fun v6 => bif inb (IntKind.i64.wrap (t3 + t8)) v6.len && v6.esz == 1 then (H.get v6.id (v6.off + (IntKind.i64.wrap (t3 + t8)).toNat * 1)).bind fun v5 => (Cell.toInt .u64 v5).bind fun v4 => t0.bind fun v3 => bif inb (IntKind.i64.wrap (t3 + t8)) v3.len && v3.esz == 1 then (H.put v3.id (v3.off + (IntKind.i64.wrap (t3 + t8)).toNat * 1) [Cell.int .u64 v7]).bind fun v2 => t0.bind fun v1 => bif inb (IntKind.i64.wrap (t3 + IntKind.i64.wrap (IntKind.i64.wrap (IntKind.i64.wrap (2 * t8) + 1) + 1))) v1.len && v1.esz == 1 then (v2.put v1.id (v1.off + (IntKind.i64.wrap (t3 + IntKind.i64.wrap (IntKind.i64.wrap (IntKind.i64.wrap (2 * t8) + 1) + 1))).toNat * 1) [Cell.int .u64 v4]).bind fun v0 => D96_1 n t0 t2 t3 (IntKind.i64.wrap (IntKind.i64.wrap (IntKind.i64.wrap (2 * t8) + 1) + 1)) v0 else none else none else none else none else none else none else t0.bind fun v31 => bif inb (IntKind.i64.wrap (t3 + t8)) v31.len && v31.esz == 1 then (H.get v31.id (v31.off + (IntKind.i64.wrap (t3 + t8)).toNat * 1)).bind fun v30 => (Cell.toInt .u64 v30).bind fun v29 => t0.bind fun v28 => bif inb (IntKind.i64.wrap (t3 + IntKind.i64.wrap (IntKind.i64.wrap (2 * t8) + 1))) v28.len && v28.esz == 1 then (H.get v28.id (v28.off + (IntKind.i64.wrap (t3 + IntKind.i64.wrap (IntKind.i64.wrap (2 * t8) + 1))).toNat * 1)).bind fun v27 => (Cell.toInt .u64 v27).bind fun v26 => bif !cmp_Less_uint64 v29 v26 then some (AExit.ret, X96_1a H) else t0.bind fun v25 => bif inb (IntKind.i64.wrap (t3 + IntKind.i64.wrap (IntKind.i64.wrap (2 * t8) + 1))) v25.len && v25.esz == 1 then (H.get v25.id (v25.off + (IntKind.i64.wrap (t3 + IntKind.i64.wrap (IntKind.i64.wrap (2 * t8) + 1))).toNat * 1)).bind fun v24 => (Cell.toInt .u64 v24).bind fun v23 => t0.bind fun v22 => bif inb (IntKind.i64.wrap (t3 + t8)) v22.len && v22.esz == 1 then (H.get v22.id (v22.off + (IntKind.i64.wrap (t3 + t8)).toNat * 1)).bind fun v21 => (Cell.toInt .u64 v21).bind fun v20 => t0.bind fun v19 => bif inb (IntKind.i64.wrap (t3 + t8)) v19.len && v19.esz == 1 then (H.put v19.id (v19.off + (IntKind.i64.wrap (t3 + t8)).toNat * 1) [Cell.int .u64 v23]).bind fun v18 => t0.bind fun v17 => bif inb (IntKind.i64.wrap (t3 + IntKind.i64.wrap (IntKind.i64.wrap (2 * t8) + 1))) v17.len && v17.esz == 1 then (v18.put v17.id (v17.off + (IntKind.i64.wrap (t3 + IntKind.i64.wrap (IntKind.i64.wrap (2 * t8) + 1))).toNat * 1) [Cell.int .u64 v20]).bind fun v16 => D96_1 n t0 t2 t3 (IntKind.i64.wrap (IntKind.i64.wrap (2 * t8) + 1)) v16 else none else none else none else none else none else none else none else none else t0.bind fun v53 => bif inb (IntKind.i64.wrap (t3 + t8)) v53.len && v53.esz == 1 then (H.get v53.id (v53.off + (IntKind.i64.wrap (t3 + t8)).toNat * 1)).bind fun v52 => (Cell.toInt .u64 v52).bind fun v51 => t0.bind fun v50 => bif inb (IntKind.i64.wrap (t3 + IntKind.i64.wrap (IntKind.i64.wrap (2 * t8) + 1))) v50.len && v50.esz == 1 then (H.get v50.id (v50.off + (IntKind.i64.wrap (t3 + IntKind.i64.wrap (IntKind.i64.wrap (2 * t8) + 1))).toNat * 1)).bind fun v49 => (Cell.toInt .u64 v49).bind fun v48 => bif !cmp_Less_uint64 v51 v48 then some (AExit.ret, X96_1a H) else t0.bind fun v47 => bif inb (IntKind.i64.wrap (t3 + IntKind.i64.wrap (IntKind.i64.wrap (2 * t8) + 1))) v47.len && v47.esz == 1 then (H.get v47.id (v47.off + (IntKind.i64.wrap (t3 + IntKind.i64.wrap (IntKind.i64.wrap (2 * t8) + 1))).toNat * 1)).bind fun v46 => (Cell.toInt .u64 v46).bind fun v45 => t0.bind fun v44 => bif inb (IntKind.i64.wrap (t3 + t8)) v44.len && v44.esz == 1 then (H.get v44.id (v44.off + (IntKind.i64.wrap (t3 + t8)).toNat * 1)).bind fun v43 => (Cell.toInt .u64 v43).bind fun v42 => t0.bind fun v41 => bif inb (IntKind.i64.wrap (t3 + t8)) v41.len && v41.esz == 1 then (H.put v41.id (v41.off + (IntKind.i64.wrap (t3 + t8)).toNat * 1) [Cell.int .u64 v45]).bind fun v40 => t0.bind fun v39 => bif inb (IntKind.i64.wrap (t3 + IntKind.i64.wrap (IntKind.i64.wrap (2 * t8) + 1))) v39.len && v39.esz == 1 then (v40.put v39.id (v39.off + (IntKind.i64.wrap (t3 + IntKind.i64.wrap (IntKind.i64.wrap (2 * t8) + 1))).toNat * 1) [Cell.int .u64 v42]).bind fun v38 => D96_1 n t0 t2 t3 (IntKind.i64.wrap (IntKind.i64.wrap (2 * t8) + 1)) v38 else none else none else none else none else none else none := by intros; exact (loopN_stepD hN96 _ _ _ _).trans (by kernel_rfl)
theorem q96 : ∀ (data : SO) (lo hi first : Int) (H : Heap), f96 data lo hi first H = (LL96_1 data hi first lo H).bind J96_1 := by intros; rw [f96_eq]; exact (fnA_lpD hN96 ..).trans (by kernel_rfl)
theorem J96_1_0 : ∀ (H : Heap), J96_1 (AExit.exit 0, X96_1 H) = some ((), H) := by intros; kernel_rfl
theorem J96_1_1 : ∀ (H : Heap), J96_1 (AExit.ret, X96_1a H) = some ((), H) := by intros; kernel_rfl
theorem ok96 : FnOk Try.prog 96 (specF enc96 (sem96 f96)) := by
  refine spec_ok (C := CC96) good96 rfl rfl rfl (by kernel_rfl) Try.func96 (c := bodyOf Try.f96) (by kernel_rfl) (by kernel_rfl) (Nat.le_of_eq Try.ntmps96.symm) dec96 enc96 de96 _ ?_
  intro args H q h
  unfold sem96 at h
  split at h
  · rw [f96_eq] at h; exact h
  · cases h
/-! 84: slices_heapSortOrdered_uint64 -/
noncomputable def CC84 : Ctx := { P := Try.prog, own := [], fns := [(96, specF enc96 (sem96 f96))], nt := 56, nums := [], live := [(8, ⟨[0, 6, 7, 10], [], [], []⟩), (4, ⟨[0, 6, 7, 8, 9], [], [0, 6, 7, 8], []⟩)] }
theorem good84 : Callees Try.prog CC84.fns [] CC84.nums := (Callees.nil Try.prog).cons ok96 (specF_nat _ _)
theorem hN84 : CtxNat CC84 := good84.ctx rfl rfl rfl
def enc84 (r : Unit) : List TV := []
def dec84 : AV → Option (Unit)
  | .tup [] => some ()
  | _ => none
theorem de84 (v : AV) (r : Unit) (h : dec84 v = some r) : v = oneOf (enc84 r) := by
  unfold dec84 at h
  split at h
  · cases h; rfl
  · cases h
abbrev Ty84 := SO → Int → Int → Heap → Option (Unit × Heap)
def sem84 (f : Ty84) : List TV → Heap → Option (Unit × Heap)
  | [.c (Cell.slice data), .c (Cell.int .i64 a), .c (Cell.int .i64 b)], H => f data a b H
  | _, _ => none
noncomputable def F084 : Ty84 := fun data a b H => fnA CC84 Try.f84.results.toList (bodyOf Try.f84) _ [.c (Cell.slice data), .c (Cell.int .i64 a), .c (Cell.int .i64 b)] H (decF dec84)
noncomputable def f84 : Ty84 := hide F084
theorem f84_eq : f84 = F084 := hide_eq _
noncomputable def P84_4 : Code := (Code.l (Code.l (Code.r (Code.l (Code.r (Code.r (Code.r (bodyOf Try.f84))))))))
noncomputable def P84_8 : Code := (Code.l (Code.l (Code.r (Code.r (Code.r (Code.r (Code.r (bodyOf Try.f84))))))))
def S84_4 (t0 : SO) (t6 t7 t8 t9 : Int) (H : Heap) : St := ⟨[(0, .c (Cell.slice t0)), (6, .c (Cell.int .i64 t6)), (7, .c (Cell.int .i64 t7)), (8, .c (Cell.int .i64 t8)), (9, .c (Cell.int .i64 t9))], [], H⟩
noncomputable def D84_4 (n : Nat) (t0 : SO) (t6 t7 t8 t9 : Int) (H : Heap) : Option (AExit × St) := loopN (exec CC84 P84_4) (keepOf CC84.live P84_4) n (S84_4 t0 t6 t7 t8 t9 H) retD
noncomputable def LL84_4 (t0 : SO) (t6 t7 t8 t9 : Int) (H : Heap) : Option (AExit × St) := loopsD CC84 P84_4 (S84_4 t0 t6 t7 t8 t9 H)
theorem LL84_4_of (m : Nat) (hm : m < 18446744073709551616) (t0 : SO) (t6 t7 t8 t9 : Int) (H : Heap) : ∃ n, LL84_4 t0 t6 t7 t8 t9 H = D84_4 (n + m + 1) t0 t6 t7 t8 t9 H := loopsD_of _ _ _ m hm
def S84_8 (t0 : SO) (t6 t7 t10 : Int) (H : Heap) : St := ⟨[(0, .c (Cell.slice t0)), (6, .c (Cell.int .i64 t6)), (7, .c (Cell.int .i64 t7)), (10, .c (Cell.int .i64 t10))], [], H⟩
noncomputable def D84_8 (n : Nat) (t0 : SO) (t6 t7 t10 : Int) (H : Heap) : Option (AExit × St) := loopN (exec CC84 P84_8) (keepOf CC84.live P84_8) n (S84_8 t0 t6 t7 t10 H) retD
noncomputable def LL84_8 (t0 : SO) (t6 t7 t10 : Int) (H : Heap) : Option (AExit × St) := loopsD CC84 P84_8 (S84_8 t0 t6 t7 t10 H)
theorem LL84_8_of (m : Nat) (hm : m < 18446744073709551616) (t0 : SO) (t6 t7 t10 : Int) (H : Heap) : ∃ n, LL84_8 t0 t6 t7 t10 H = D84_8 (n + m + 1) t0 t6 t7 t10 H := loopsD_of _ _ _ m hm
def X84_8 (H : Heap) : St := { env := [], loc := [], heap := H }
def X84_4 (x0 : SO) (x1 : Int) (x2 : Int) (x3 : Int) (H : Heap) : St := { env := [(0, AV.c (Cell.slice x0)), (6, AV.c (Cell.int .i64 x1)), (7, AV.c (Cell.int .i64 x2)), (8, AV.c (Cell.int .i64 x3))], loc := [], heap := H }
noncomputable def J84_4 : AExit × St → Option (Unit × Heap) := fun p => blockK 0 (seqK (execL CC84 (lpD CC84) (Code.r (Code.r (Code.r (Code.r (bodyOf Try.f84)))))) (retA CC84 [] (decF dec84))) p.1 p.2
noncomputable def J84_8 : AExit × St → Option (Unit × Heap) := fun p => blockK 2 (retA CC84 [] (decF dec84)) p.1 p.2
theorem D84_8_s : ∀ (n : Nat) (t0 : SO) (t6 t7 t10 : Int) (H : Heap), D84_8 (n + 1) t0 t6 t7 t10 H = bif decide (t10 ≥ 0) then t0.bind fun v10 => bif inb (IntKind.i64.wrap (t6 + t10)) v10.len && v10.esz == 1 then (H.get v10.id (v10.off + (IntKind.i64.wrap (t6 + t10)).toNat * 1)).bind fun v9 => (Cell.toInt .u64 v9).bind fun v8 => t0.bind fun v7 => bif inb t6 v7.len && v7.esz == 1 then (H.get v7.id (v7.off + t6.toNat * 1)).bind fun v6 => (Cell.toInt .u64 v6).bind fun v5 => t0.bind fun v4 => bif inb t6 v4.len && v4.esz == 1 then (H.put v4.id (v4.off + t6.toNat * 1) [Cell.int .u64 v8]).bind fun v3 => t0.bind fun v2 => bif inb (IntKind.i64.wrap (t6 + t10)) v2.len && v2.esz == 1 then (v3.put v2.id (v2.off + (IntKind.i64.wrap (t6 + t10)).toNat * 1) [Cell.int .u64 v5]).bind fun v1 => (f96 t0 t7 t10 t6 v1).bind fun v0 => D84_8 n t0 t6 t7 (IntKind.i64.wrap (t10 - 1)) v0.2 else none else none else none else none else some (AExit.exit 2, X84_8 H) := by intros; exact (loopN_stepD hN84 _ _ _ _).trans (by kernel_rfl)
theorem D84_4_s : ∀ (n : Nat) (t0 : SO) (t6 t7 t8 t9 : Int) (H : Heap), D84_4 (n + 1) t0 t6 t7 t8 t9 H = bif decide (t9 ≥ 0) then (f96 t0 t9 t8 t6 H).bind fun v11 => D84_4 n t0 t6 t7 t8 (IntKind.i64.wrap (t9 - 1)) v11.2 else some (AExit.exit 0, X84_4 t0 t6 t7 t8 H) := by intros; exact (loopN_stepD hN84 _ _ _ _).trans (by kernel_rfl)
theorem q84 : ∀ (data : SO) (a b : Int) (H : Heap), f84 data a b H = (LL84_4 data a 0 (IntKind.i64.wrap (b - a)) (IntKind.i64.wrap ((IntKind.i64.wrap (IntKind.i64.wrap (b - a) - 1)).tdiv 2)) H).bind J84_4 := by intros; rw [f84_eq]; exact (fnA_lpD hN84 ..).trans (by kernel_rfl)
theorem J84_4_0 : ∀ (x0 : SO) (x1 x2 x3 : Int) (H : Heap), J84_4 (AExit.exit 0, X84_4 x0 x1 x2 x3 H) = (LL84_8 x0 x1 x2 (IntKind.i64.wrap (x3 - 1)) H).bind J84_8 := by intros; kernel_rfl
theorem J84_8_0 : ∀ (H : Heap), J84_8 (AExit.exit 2, X84_8 H) = some ((), H) := by intros; kernel_rfl
theorem ok84 : FnOk Try.prog 84 (specF enc84 (sem84 f84)) := by
  refine spec_ok (C := CC84) good84 rfl rfl rfl (by kernel_rfl) Try.func84 (c := bodyOf Try.f84) (by kernel_rfl) (by kernel_rfl) (Nat.le_of_eq Try.ntmps84.symm) dec84 enc84 de84 _ ?_
  intro args H q h
  unfold sem84 at h
  split at h
  · rw [f84_eq] at h; exact h
  · cases h
/-! 97: slices_nextPowerOfTwo -/
noncomputable def CC97 : Ctx := { P := Try.prog, own := [], fns := [(77, specF enc77 (sem77 f77))], nt := 7, nums := [], live := [] }
theorem good97 : Callees Try.prog CC97.fns [] CC97.nums := (Callees.nil Try.prog).cons ok77 (specF_nat _ _)
theorem hN97 : CtxNat CC97 := good97.ctx rfl rfl rfl
def enc97 (r : Int) : List TV := [.c (Cell.int .u64 (r))]
def dec97 : AV → Option (Int)
  | .c (Cell.int .u64 q0) => some (q0)
  | _ => none
theorem de97 (v : AV) (r : Int) (h : dec97 v = some r) : v = oneOf (enc97 r) := by
  unfold dec97 at h
  split at h
  · cases h; rfl
  · cases h
abbrev Ty97 := Int → Heap → Option (Int × Heap)
def sem97 (f : Ty97) : List TV → Heap → Option (Int × Heap)
  | [.c (Cell.int .i64 length)], H => f length H
  | _, _ => none
noncomputable def F097 : Ty97 := fun length H => fnA CC97 Try.f97.results.toList (bodyOf Try.f97) _ [.c (Cell.int .i64 length)] H (decF dec97)
noncomputable def f97 : Ty97 := hide F097
theorem f97_eq : f97 = F097 := hide_eq _
theorem q97 : ∀ (length : Int) (H : Heap), f97 length H = (f77 (IntKind.u64.wrap length) H).bind fun v0 => bif decide (v0.1 < 0) then none else some (ishl IntKind.u64 1 v0.1, v0.2) := by intros; rw [f97_eq]; exact (fnA_lpD hN97 ..).trans (by kernel_rfl)
theorem ok97 : FnOk Try.prog 97 (specF enc97 (sem97 f97)) := by
  refine spec_ok (C := CC97) good97 rfl rfl rfl (by kernel_rfl) Try.func97 (c := bodyOf Try.f97) (by kernel_rfl) (by kernel_rfl) (Nat.le_of_eq Try.ntmps97.symm) dec97 enc97 de97 _ ?_
  intro args H q h
  unfold sem97 at h
  split at h
  · rw [f97_eq] at h; exact h
  · cases h
/-! 98: slices_xorshift_Next -/
noncomputable def CC98 : Ctx := { P := Try.prog, own := [], fns := [], nt := 33, nums := [], live := [] }
theorem good98 : Callees Try.prog CC98.fns [] CC98.nums := Callees.nil Try.prog
theorem hN98 : CtxNat CC98 := good98.ctx rfl rfl rfl
def enc98 (r : Int) : List TV := [.c (Cell.int .u64 (r))]
def dec98 : AV → Option (Int)
  | .c (Cell.int .u64 q0) => some (q0)
  | _ => none
theorem de98 (v : AV) (r : Int) (h : dec98 v = some r) : v = oneOf (enc98 r) := by
  unfold dec98 at h
  split at h
  · cases h; rfl
  · cases h
abbrev Ty98 := PO → Heap → Option (Int × Heap)
def sem98 (f : Ty98) : List TV → Heap → Option (Int × Heap)
  | [.c (Cell.ptr r)], H => f r H
  | _, _ => none
noncomputable def F098 : Ty98 := fun r H => fnA CC98 Try.f98.results.toList (bodyOf Try.f98) _ [.c (Cell.ptr r)] H (decF dec98)
noncomputable def f98 : Ty98 := hide F098
theorem f98_eq : f98 = F098 := hide_eq _
theorem q98 : ∀ (r : PO) (H : Heap), f98 r H = r.bind fun v26 => (H.get v26.1 v26.2).bind fun v25 => (Cell.toInt .u64 v25).bind fun v24 => r.bind fun v23 => (H.get v23.1 v23.2).bind fun v22 => (Cell.toInt .u64 v22).bind fun v21 => r.bind fun v20 => (H.put v20.1 v20.2 [Cell.int .u64 (bxor IntKind.u64 v24 (ishl IntKind.u64 v21 13))]).bind fun v19 => r.bind fun v18 => (v19.get v18.1 v18.2).bind fun v17 => (Cell.toInt .u64 v17).bind fun v16 => r.bind fun v15 => (v19.get v15.1 v15.2).bind fun v14 => (Cell.toInt .u64 v14).bind fun v13 => r.bind fun v12 => (v19.put v12.1 v12.2 [Cell.int .u64 (bxor IntKind.u64 v16 (ishr IntKind.u64 v13 7))]).bind fun v11 => r.bind fun v10 => (v11.get v10.1 v10.2).bind fun v9 => (Cell.toInt .u64 v9).bind fun v8 => r.bind fun v7 => (v11.get v7.1 v7.2).bind fun v6 => (Cell.toInt .u64 v6).bind fun v5 => r.bind fun v4 => (v11.put v4.1 v4.2 [Cell.int .u64 (bxor IntKind.u64 v8 (ishl IntKind.u64 v5 17))]).bind fun v3 => r.bind fun v2 => (v3.get v2.1 v2.2).bind fun v1 => (Cell.toInt .u64 v1).bind fun v0 => some (v0, v3) := by intros; rw [f98_eq]; exact (fnA_lpD hN98 ..).trans (by kernel_rfl)
theorem ok98 : FnOk Try.prog 98 (specF enc98 (sem98 f98)) := by
  refine spec_ok (C := CC98) good98 rfl rfl rfl (by kernel_rfl) Try.func98 (c := bodyOf Try.f98) (by kernel_rfl) (by kernel_rfl) (Nat.le_of_eq Try.ntmps98.symm) dec98 enc98 de98 _ ?_
  intro args H q h
  unfold sem98 at h
  split at h
  · rw [f98_eq] at h; exact h
  · cases h
/-! 85: slices_breakPatternsOrdered_uint64 -/
noncomputable def CC85 : Ctx := { P := Try.prog, own := [], fns := [(98, specF enc98 (sem98 f98)), (97, specF enc97 (sem97 f97))], nt := 65, nums := [], live := [(5, ⟨[0, 1, 6, 7, 8, 9], [], [], []⟩)] }
theorem good85 : Callees Try.prog CC85.fns [] CC85.nums := ((Callees.nil Try.prog).cons ok97 (specF_nat _ _)).cons ok98 (specF_nat _ _)
theorem hN85 : CtxNat CC85 := good85.ctx rfl rfl rfl
def enc85 (r : Unit) : List TV := []
def dec85 : AV → Option (Unit)
  | .tup [] => some ()
  | _ => none
theorem de85 (v : AV) (r : Unit) (h : dec85 v = some r) : v = oneOf (enc85 r) := by
  unfold dec85 at h
  split at h
  · cases h; rfl
  · cases h
abbrev Ty85 := SO → Int → Int → Heap → Option (Unit × Heap)
def sem85 (f : Ty85) : List TV → Heap → Option (Unit × Heap)
  | [.c (Cell.slice data), .c (Cell.int .i64 a), .c (Cell.int .i64 b)], H => f data a b H
  | _, _ => none
noncomputable def F085 : Ty85 := fun data a b H => fnA CC85 Try.f85.results.toList (bodyOf Try.f85) _ [.c (Cell.slice data), .c (Cell.int .i64 a), .c (Cell.int .i64 b)] H (decF dec85)
noncomputable def f85 : Ty85 := hide F085
theorem f85_eq : f85 = F085 := hide_eq _
noncomputable def P85_5 : Code := (Code.l (Code.l (Code.r (Code.r (Code.r (Code.l (Code.r (Code.r (bodyOf Try.f85)))))))))
def S85_5 (t0 : SO) (t1 t6 : Int) (t7 : Nat) (t8 t9 : Int) (H : Heap) : St := ⟨[(0, .c (Cell.slice t0)), (1, .c (Cell.int .i64 t1)), (6, .c (Cell.int .i64 t6)), (7, .c (Cell.ptr (some (t7, 0)))), (8, .c (Cell.int .u64 t8)), (9, .c (Cell.int .i64 t9))], [], H⟩
noncomputable def D85_5 (n : Nat) (t0 : SO) (t1 t6 : Int) (t7 : Nat) (t8 t9 : Int) (H : Heap) : Option (AExit × St) := loopN (exec CC85 P85_5) (keepOf CC85.live P85_5) n (S85_5 t0 t1 t6 t7 t8 t9 H) retD
noncomputable def LL85_5 (t0 : SO) (t1 t6 : Int) (t7 : Nat) (t8 t9 : Int) (H : Heap) : Option (AExit × St) := loopsD CC85 P85_5 (S85_5 t0 t1 t6 t7 t8 t9 H)
theorem LL85_5_of (m : Nat) (hm : m < 18446744073709551616) (t0 : SO) (t1 t6 : Int) (t7 : Nat) (t8 t9 : Int) (H : Heap) : ∃ n, LL85_5 t0 t1 t6 t7 t8 t9 H = D85_5 (n + m + 1) t0 t1 t6 t7 t8 t9 H := loopsD_of _ _ _ m hm
def X85_5 (H : Heap) : St := { env := [], loc := [], heap := H }
noncomputable def J85_5 : AExit × St → Option (Unit × Heap) := fun p => blockK 0 (retA CC85 [] (decF dec85)) p.1 p.2
theorem D85_5_s : ∀ (n : Nat) (t0 : SO) (t1 t6 : Int) (t7 : Nat) (t8 t9 : Int) (H : Heap), D85_5 (n + 1) t0 t1 t6 t7 t8 t9 H = bif decide (t9 ≤ IntKind.i64.wrap (IntKind.i64.wrap (t1 + IntKind.i64.wrap (IntKind.i64.wrap (t6.tdiv 4) * 2)) + 1)) then (f98 (some (t7, 0)) H).bind fun v20 => bif decide (IntKind.i64.wrap (band IntKind.u64 v20.1 (IntKind.u64.wrap (t8 - 1))) ≥ t6) then t0.bind fun v9 => bif inb (IntKind.i64.wrap (t1 + IntKind.i64.wrap (IntKind.i64.wrap (band IntKind.u64 v20.1 (IntKind.u64.wrap (t8 - 1))) - t6))) v9.len && v9.esz == 1 then (v20.2.get v9.id (v9.off + (IntKind.i64.wrap (t1 + IntKind.i64.wrap (IntKind.i64.wrap (band IntKind.u64 v20.1 (IntKind.u64.wrap (t8 - 1))) - t6))).toNat * 1)).bind fun v8 => (Cell.toInt .u64 v8).bind fun v7 => t0.bind fun v6 => bif inb t9 v6.len && v6.esz == 1 then (v20.2.get v6.id (v6.off + t9.toNat * 1)).bind fun v5 => (Cell.toInt .u64 v5).bind fun v4 => t0.bind fun v3 => bif inb t9 v3.len && v3.esz == 1 then (v20.2.put v3.id (v3.off + t9.toNat * 1) [Cell.int .u64 v7]).bind fun v2 => t0.bind fun v1 => bif inb (IntKind.i64.wrap (t1 + IntKind.i64.wrap (IntKind.i64.wrap (band IntKind.u64 v20.1 (IntKind.u64.wrap (t8 - 1))) - t6))) v1.len && v1.esz == 1 then (v2.put v1.id (v1.off + (IntKind.i64.wrap (t1 + IntKind.i64.wrap (IntKind.i64.wrap (band IntKind.u64 v20.1 (IntKind.u64.wrap (t8 - 1))) - t6))).toNat * 1) [Cell.int .u64 v4]).bind fun v0 => D85_5 n t0 t1 t6 t7 t8 (IntKind.i64.wrap (t9 + 1)) v0 else none else none else none else none else t0.bind fun v19 => bif inb (IntKind.i64.wrap (t1 + IntKind.i64.wrap (band IntKind.u64 v20.1 (IntKind.u64.wrap (t8 - 1))))) v19.len && v19.esz == 1 then (v20.2.get v19.id (v19.off + (IntKind.i64.wrap (t1 + IntKind.i64.wrap (band IntKind.u64 v20.1 (IntKind.u64.wrap (t8 - 1))))).toNat * 1)).bind fun v18 => (Cell.toInt .u64 v18).bind fun v17 => t0.bind fun v16 => bif inb t9 v16.len && v16.esz == 1 then (v20.2.get v16.id (v16.off + t9.toNat * 1)).bind fun v15 => (Cell.toInt .u64 v15).bind fun v14 => t0.bind fun v13 => bif inb t9 v13.len && v13.esz == 1 then (v20.2.put v13.id (v13.off + t9.toNat * 1) [Cell.int .u64 v17]).bind fun v12 => t0.bind fun v11 => bif inb (IntKind.i64.wrap (t1 + IntKind.i64.wrap (band IntKind.u64 v20.1 (IntKind.u64.wrap (t8 - 1))))) v11.len && v11.esz == 1 then (v12.put v11.id (v11.off + (IntKind.i64.wrap (t1 + IntKind.i64.wrap (band IntKind.u64 v20.1 (IntKind.u64.wrap (t8 - 1))))).toNat * 1) [Cell.int .u64 v14]).bind fun v10 => D85_5 n t0 t1 t6 t7 t8 (IntKind.i64.wrap (t9 + 1)) v10 else none else none else none else none else some (AExit.exit 0, X85_5 H) := by intros; exact (loopN_stepD hN85 _ _ _ _).trans (by kernel_rfl)
theorem q85 : ∀ (data : SO) (a b : Int) (H : Heap), f85 data a b H = bif decide (IntKind.i64.wrap (b - a) ≥ 8) then ((H ++ [Blk.row [Cell.int .u64 0] false]).put (List.length H) 0 [Cell.int .u64 (IntKind.u64.wrap (IntKind.i64.wrap (b - a)))]).bind fun v22 => (f97 (IntKind.i64.wrap (b - a)) v22).bind fun v21 => (LL85_5 data a (IntKind.i64.wrap (b - a)) (List.length H) v21.1 (IntKind.i64.wrap (IntKind.i64.wrap (a + IntKind.i64.wrap (IntKind.i64.wrap ((IntKind.i64.wrap (b - a)).tdiv 4) * 2)) - 1)) v21.2).bind J85_5 else some ((), H) := by intros; rw [f85_eq]; exact (fnA_lpD hN85 ..).trans (by kernel_rfl)
theorem J85_5_0 : ∀ (H : Heap), J85_5 (AExit.exit 0, X85_5 H) = some ((), H) := by intros; kernel_rfl
theorem ok85 : FnOk Try.prog 85 (specF enc85 (sem85 f85)) := by
  refine spec_ok (C := CC85) good85 rfl rfl rfl (by kernel_rfl) Try.func85 (c := bodyOf Try.f85) (by kernel_rfl) (by kernel_rfl) (Nat.le_of_eq Try.ntmps85.symm) dec85 enc85 de85 _ ?_
  intro args H q h
  unfold sem85 at h
  split at h
  · rw [f85_eq] at h; exact h
  · cases h
/-! 101: slices_order2Ordered_uint64 -/
noncomputable def CC101 : Ctx := { P := Try.prog, own := [], fns := [(89, F89)], nt := 28, nums := [89], live := [] }
theorem good101 : Callees Try.prog CC101.fns [] CC101.nums := (Callees.nil Try.prog).cons_num ok89 F89_num
theorem hN101 : CtxNat CC101 := good101.ctx rfl rfl rfl
def enc101 (r : Int × Int) : List TV := [.c (Cell.int .i64 (r.1)), .c (Cell.int .i64 (r.2))]
def dec101 : AV → Option (Int × Int)
  | .tup [.c (Cell.int .i64 q0), .c (Cell.int .i64 q1)] => some (q0, q1)
  | _ => none
theorem de101 (v : AV) (r : Int × Int) (h : dec101 v = some r) : v = oneOf (enc101 r) := by
  unfold dec101 at h
  split at h
  · cases h; rfl
  · cases h
abbrev Ty101 := SO → Int → Int → PO → Heap → Option ((Int × Int) × Heap)
def sem101 (f : Ty101) : List TV → Heap → Option ((Int × Int) × Heap)
  | [.c (Cell.slice data), .c (Cell.int .i64 a), .c (Cell.int .i64 b), .c (Cell.ptr swaps)], H => f data a b swaps H
  | _, _ => none
noncomputable def F0101 : Ty101 := fun data a b swaps H => fnA CC101 Try.f101.results.toList (bodyOf Try.f101) _ [.c (Cell.slice data), .c (Cell.int .i64 a), .c (Cell.int .i64 b), .c (Cell.ptr swaps)] H (decF dec101)
noncomputable def f101 : Ty101 := hide F0101
theorem f101_eq : f101 = F0101 := hide_eq _
theorem q101 : ∀ (data : SO) (a b : Int) (swaps : PO) (H : Heap), f101 data a b swaps H = data.bind fun v10 => bif inb b v10.len && v10.esz == 1 then (H.get v10.id (v10.off + b.toNat * 1)).bind fun v9 => (Cell.toInt .u64 v9).bind fun v8 => data.bind fun v7 => bif inb a v7.len && v7.esz == 1 then (H.get v7.id (v7.off + a.toNat * 1)).bind fun v6 => (Cell.toInt .u64 v6).bind fun v5 => bif cmp_Less_uint64 v8 v5 then swaps.bind fun v4 => (H.get v4.1 v4.2).bind fun v3 => (Cell.toInt .i64 v3).bind fun v2 => swaps.bind fun v1 => (H.put v1.1 v1.2 [Cell.int .i64 (IntKind.i64.wrap (v2 + 1))]).bind fun v0 => some ((b, a), v0) else some ((a, b), H) else none else none := by intros; rw [f101_eq]; exact (fnA_lpD hN101 ..).trans (by kernel_rfl)
theorem ok101 : FnOk Try.prog 101 (specF enc101 (sem101 f101)) := by
  refine spec_ok (C := CC101) good101 rfl rfl rfl (by kernel_rfl) Try.func101 (c := bodyOf Try.f101) (by kernel_rfl) (by kernel_rfl) (Nat.le_of_eq Try.ntmps101.symm) dec101 enc101 de101 _ ?_
  intro args H q h
  unfold sem101 at h
  split at h
  · rw [f101_eq] at h; exact h
  · cases h
/-! 100: slices_medianOrdered_uint64 -/
noncomputable def CC100 : Ctx := { P := Try.prog, own := [], fns := [(101, specF enc101 (sem101 f101))], nt := 36, nums := [], live := [] }
theorem good100 : Callees Try.prog CC100.fns [] CC100.nums := (Callees.nil Try.prog).cons ok101 (specF_nat _ _)
theorem hN100 : CtxNat CC100 := good100.ctx rfl rfl rfl
def enc100 (r : Int) : List TV := [.c (Cell.int .i64 (r))]
def dec100 : AV → Option (Int)
  | .c (Cell.int .i64 q0) => some (q0)
  | _ => none
theorem de100 (v : AV) (r : Int) (h : dec100 v = some r) : v = oneOf (enc100 r) := by
  unfold dec100 at h
  split at h
  · cases h; rfl
  · cases h
abbrev Ty100 := SO → Int → Int → Int → PO → Heap → Option (Int × Heap)
def sem100 (f : Ty100) : List TV → Heap → Option (Int × Heap)
  | [.c (Cell.slice data), .c (Cell.int .i64 a), .c (Cell.int .i64 b), .c (Cell.int .i64 c), .c (Cell.ptr swaps)], H => f data a b c swaps H
  | _, _ => none
noncomputable def F0100 : Ty100 := fun data a b c swaps H => fnA CC100 Try.f100.results.toList (bodyOf Try.f100) _ [.c (Cell.slice data), .c (Cell.int .i64 a), .c (Cell.int .i64 b), .c (Cell.int .i64 c), .c (Cell.ptr swaps)] H (decF dec100)
noncomputable def f100 : Ty100 := hide F0100
theorem f100_eq : f100 = F0100 := hide_eq _
theorem q100 : ∀ (data : SO) (a b c : Int) (swaps : PO) (H : Heap), f100 data a b c swaps H = (f101 data a b swaps H).bind fun v2 => (f101 data v2.1.2 c swaps v2.2).bind fun v1 => (f101 data v2.1.1 v1.1.1 swaps v1.2).bind fun v0 => some (v0.1.2, v0.2) := by intros; rw [f100_eq]; exact (fnA_lpD hN100 ..).trans (by kernel_rfl)
theorem ok100 : FnOk Try.prog 100 (specF enc100 (sem100 f100)) := by
  refine spec_ok (C := CC100) good100 rfl rfl rfl (by kernel_rfl) Try.func100 (c := bodyOf Try.f100) (by kernel_rfl) (by kernel_rfl) (Nat.le_of_eq Try.ntmps100.symm) dec100 enc100 de100 _ ?_
  intro args H q h
  unfold sem100 at h
  split at h
  · rw [f100_eq] at h; exact h
  · cases h
/-! 99: slices_medianAdjacentOrdered_uint64 -/
noncomputable def CC99 : Ctx := { P := Try.prog, own := [], fns := [(100, specF enc100 (sem100 f100))], nt := 15, nums := [], live := [] }
theorem good99 : Callees Try.prog CC99.fns [] CC99.nums := (Callees.nil Try.prog).cons ok100 (specF_nat _ _)
theorem hN99 : CtxNat CC99 := good99.ctx rfl rfl rfl
def enc99 (r : Int) : List TV := [.c (Cell.int .i64 (r))]
def dec99 : AV → Option (Int)
  | .c (Cell.int .i64 q0) => some (q0)
  | _ => none
theorem de99 (v : AV) (r : Int) (h : dec99 v = some r) : v = oneOf (enc99 r) := by
  unfold dec99 at h
  split at h
  · cases h; rfl
  · cases h
abbrev Ty99 := SO → Int → PO → Heap → Option (Int × Heap)
def sem99 (f : Ty99) : List TV → Heap → Option (Int × Heap)
  | [.c (Cell.slice data), .c (Cell.int .i64 a), .c (Cell.ptr swaps)], H => f data a swaps H
  | _, _ => none
noncomputable def F099 : Ty99 := fun data a swaps H => fnA CC99 Try.f99.results.toList (bodyOf Try.f99) _ [.c (Cell.slice data), .c (Cell.int .i64 a), .c (Cell.ptr swaps)] H (decF dec99)
noncomputable def f99 : Ty99 := hide F099
theorem f99_eq : f99 = F099 := hide_eq _
theorem q99 : ∀ (data : SO) (a : Int) (swaps : PO) (H : Heap), f99 data a swaps H = (f100 data (IntKind.i64.wrap (a - 1)) a (IntKind.i64.wrap (a + 1)) swaps H).bind fun v0 => some (v0.1, v0.2) := by intros; rw [f99_eq]; exact (fnA_lpD hN99 ..).trans (by kernel_rfl)
theorem ok99 : FnOk Try.prog 99 (specF enc99 (sem99 f99)) := by
  refine spec_ok (C := CC99) good99 rfl rfl rfl (by kernel_rfl) Try.func99 (c := bodyOf Try.f99) (by kernel_rfl) (by kernel_rfl) (Nat.le_of_eq Try.ntmps99.symm) dec99 enc99 de99 _ ?_
  intro args H q h
  unfold sem99 at h
  split at h
  · rw [f99_eq] at h; exact h
  · cases h
/-! 86: slices_choosePivotOrdered_uint64 -/
noncomputable def CC86 : Ctx := { P := Try.prog, own := [], fns := [(100, specF enc100 (sem100 f100)), (99, specF enc99 (sem99 f99))], nt := 57, nums := [], live := [] }
theorem good86 : Callees Try.prog CC86.fns [] CC86.nums := ((Callees.nil Try.prog).cons ok99 (specF_nat _ _)).cons ok100 (specF_nat _ _)
theorem hN86 : CtxNat CC86 := good86.ctx rfl rfl rfl
def enc86 (r : Int × Int) : List TV := [.c (Cell.int .i64 (r.1)), .c (Cell.int .i64 (r.2))]
def dec86 : AV → Option (Int × Int)
  | .tup [.c (Cell.int .i64 q0), .c (Cell.int .i64 q1)] => some (q0, q1)
  | _ => none
theorem de86 (v : AV) (r : Int × Int) (h : dec86 v = some r) : v = oneOf (enc86 r) := by
  unfold dec86 at h
  split at h
  · cases h; rfl
  · cases h
abbrev Ty86 := SO → Int → Int → Heap → Option ((Int × Int) × Heap)
def sem86 (f : Ty86) : List TV → Heap → Option ((Int × Int) × Heap)
  | [.c (Cell.slice data), .c (Cell.int .i64 a), .c (Cell.int .i64 b)], H => f data a b H
  | _, _ => none
noncomputable def F086 : Ty86 := fun data a b H => fnA CC86 Try.f86.results.toList (bodyOf Try.f86) _ [.c (Cell.slice data), .c (Cell.int .i64 a), .c (Cell.int .i64 b)] H (decF dec86)
noncomputable def f86 : Ty86 := hide F086
theorem f86_eq : f86 = F086 := hide_eq _
theorem q86 : ∀ (data : SO) (a b : Int) (H : Heap), f86 data a b H = bif decide (IntKind.i64.wrap (b - a) ≥ 8) then bif decide (IntKind.i64.wrap (b - a) ≥ 50) then (f99 data (IntKind.i64.wrap (a + IntKind.i64.wrap (IntKind.i64.wrap ((IntKind.i64.wrap (b - a)).tdiv 4) * 1))) (some (List.length H, 0)) (H ++ [Blk.row [Cell.int .i64 0] false])).bind fun v5 => (f99 data (IntKind.i64.wrap (a + IntKind.i64.wrap (IntKind.i64.wrap ((IntKind.i64.wrap (b - a)).tdiv 4) * 2))) (some (List.length H, 0)) v5.2).bind fun v4 => (f99 data (IntKind.i64.wrap (a + IntKind.i64.wrap (IntKind.i64.wrap ((IntKind.i64.wrap (b - a)).tdiv 4) * 3))) (some (List.length H, 0)) v4.2).bind fun v3 => (f100 data v5.1 v4.1 v3.1 (some (List.length H, 0)) v3.2).bind fun v2 => (v2.2.get (List.length H) 0).bind fun v1 => (Cell.toInt .i64 v1).bind fun v0 => bif v0 == 0 then some ((v2.1, 1), v2.2) else bif v0 == 12 then some ((v2.1, 2), v2.2) else some ((v2.1, 0), v2.2) else (f100 data (IntKind.i64.wrap (a + IntKind.i64.wrap (IntKind.i64.wrap ((IntKind.i64.wrap (b - a)).tdiv 4) * 1))) (IntKind.i64.wrap (a + IntKind.i64.wrap (IntKind.i64.wrap ((IntKind.i64.wrap (b - a)).tdiv 4) * 2))) (IntKind.i64.wrap (a + IntKind.i64.wrap (IntKind.i64.wrap ((IntKind.i64.wrap (b - a)).tdiv 4) * 3))) (some (List.length H, 0)) (H ++ [Blk.row [Cell.int .i64 0] false])).bind fun v8 => (v8.2.get (List.length H) 0).bind fun v7 => (Cell.toInt .i64 v7).bind fun v6 => bif v6 == 0 then some ((v8.1, 1), v8.2) else bif v6 == 12 then some ((v8.1, 2), v8.2) else some ((v8.1, 0), v8.2) else ((H ++ [Blk.row [Cell.int .i64 0] false]).get (List.length H) 0).bind fun v10 => (Cell.toInt .i64 v10).bind fun v9 => bif v9 == 0 then some ((IntKind.i64.wrap (a + IntKind.i64.wrap (IntKind.i64.wrap ((IntKind.i64.wrap (b - a)).tdiv 4) * 2)), 1), H ++ [Blk.row [Cell.int .i64 0] false]) else bif v9 == 12 then some ((IntKind.i64.wrap (a + IntKind.i64.wrap (IntKind.i64.wrap ((IntKind.i64.wrap (b - a)).tdiv 4) * 2)), 2), H ++ [Blk.row [Cell.int .i64 0] false]) else some ((IntKind.i64.wrap (a + IntKind.i64.wrap (IntKind.i64.wrap ((IntKind.i64.wrap (b - a)).tdiv 4) * 2)), 0), H ++ [Blk.row [Cell.int .i64 0] false]) := by intros; rw [f86_eq]; exact (fnA_lpD hN86 ..).trans (by kernel_rfl)
theorem ok86 : FnOk Try.prog 86 (specF enc86 (sem86 f86)) := by
  refine spec_ok (C := CC86) good86 rfl rfl rfl (by kernel_rfl) Try.func86 (c := bodyOf Try.f86) (by kernel_rfl) (by kernel_rfl) (Nat.le_of_eq Try.ntmps86.symm) dec86 enc86 de86 _ ?_
  intro args H q h
  unfold sem86 at h
  split at h
  · rw [f86_eq] at h; exact h
  · cases h
/-! 87: slices_reverseRangeOrdered_uint64 -/
noncomputable def CC87 : Ctx := { P := Try.prog, own := [], fns := [], nt := 32, nums := [], live := [(2, ⟨[0, 6, 7], [], [], []⟩)] }
theorem good87 : Callees Try.prog CC87.fns [] CC87.nums := Callees.nil Try.prog
theorem hN87 : CtxNat CC87 := good87.ctx rfl rfl rfl
def enc87 (r : Unit) : List TV := []
def dec87 : AV → Option (Unit)
  | .tup [] => some ()
  | _ => none
theorem de87 (v : AV) (r : Unit) (h : dec87 v = some r) : v = oneOf (enc87 r) := by
  unfold dec87 at h
  split at h
  · cases h; rfl
  · cases h
abbrev Ty87 := SO → Int → Int → Heap → Option (Unit × Heap)
def sem87 (f : Ty87) : List TV → Heap → Option (Unit × Heap)
  | [.c (Cell.slice data), .c (Cell.int .i64 a), .c (Cell.int .i64 b)], H => f data a b H
  | _, _ => none
noncomputable def F087 : Ty87 := fun data a b H => fnA CC87 Try.f87.results.toList (bodyOf Try.f87) _ [.c (Cell.slice data), .c (Cell.int .i64 a), .c (Cell.int .i64 b)] H (decF dec87)
noncomputable def f87 : Ty87 := hide F087
theorem f87_eq : f87 = F087 := hide_eq _
noncomputable def P87_2 : Code := (Code.l (Code.l (Code.r (Code.r (bodyOf Try.f87)))))
def S87_2 (t0 : SO) (t6 t7 : Int) (H : Heap) : St := ⟨[(0, .c (Cell.slice t0)), (6, .c (Cell.int .i64 t6)), (7, .c (Cell.int .i64 t7))], [], H⟩
noncomputable def D87_2 (n : Nat) (t0 : SO) (t6 t7 : Int) (H : Heap) : Option (AExit × St) := loopN (exec CC87 P87_2) (keepOf CC87.live P87_2) n (S87_2 t0 t6 t7 H) retD
noncomputable def LL87_2 (t0 : SO) (t6 t7 : Int) (H : Heap) : Option (AExit × St) := loopsD CC87 P87_2 (S87_2 t0 t6 t7 H)
theorem LL87_2_of (m : Nat) (hm : m < 18446744073709551616) (t0 : SO) (t6 t7 : Int) (H : Heap) : ∃ n, LL87_2 t0 t6 t7 H = D87_2 (n + m + 1) t0 t6 t7 H := loopsD_of _ _ _ m hm
def X87_2 (H : Heap) : St := { env := [], loc := [], heap := H }
noncomputable def J87_2 : AExit × St → Option (Unit × Heap) := fun p => blockK 0 (retA CC87 [] (decF dec87)) p.1 p.2
theorem D87_2_s : ∀ (n : Nat) (t0 : SO) (t6 t7 : Int) (H : Heap), D87_2 (n + 1) t0 t6 t7 H = bif decide (t6 < t7) then t0.bind fun v9 => bif inb t7 v9.len && v9.esz == 1 then (H.get v9.id (v9.off + t7.toNat * 1)).bind fun v8 => (Cell.toInt .u64 v8).bind fun v7 => t0.bind fun v6 => bif inb t6 v6.len && v6.esz == 1 then (H.get v6.id (v6.off + t6.toNat * 1)).bind fun v5 => (Cell.toInt .u64 v5).bind fun v4 => t0.bind fun v3 => bif inb t6 v3.len && v3.esz == 1 then (H.put v3.id (v3.off + t6.toNat * 1) [Cell.int .u64 v7]).bind fun v2 => t0.bind fun v1 => bif inb t7 v1.len && v1.esz == 1 then (v2.put v1.id (v1.off + t7.toNat * 1) [Cell.int .u64 v4]).bind fun v0 => D87_2 n t0 (IntKind.i64.wrap (t6 + 1)) (IntKind.i64.wrap (t7 - 1)) v0 else none else none else none else none else some (AExit.exit 0, X87_2 H) := by intros; exact (loopN_stepD hN87 _ _ _ _).trans (by kernel_rfl)
theorem q87 : ∀ (data : SO) (a b : Int) (H : Heap), f87 data a b H = (LL87_2 data a (IntKind.i64.wrap (b - 1)) H).bind J87_2 := by intros; rw [f87_eq]; exact (fnA_lpD hN87 ..).trans (by kernel_rfl)
theorem J87_2_0 : ∀ (H : Heap), J87_2 (AExit.exit 0, X87_2 H) = some ((), H) := by intros; kernel_rfl
theorem ok87 : FnOk Try.prog 87 (specF enc87 (sem87 f87)) := by
  refine spec_ok (C := CC87) good87 rfl rfl rfl (by kernel_rfl) Try.func87 (c := bodyOf Try.f87) (by kernel_rfl) (by kernel_rfl) (Nat.le_of_eq Try.ntmps87.symm) dec87 enc87 de87 _ ?_
  intro args H q h
  unfold sem87 at h
  split at h
  · rw [f87_eq] at h; exact h
  · cases h
/-! 88: slices_partialInsertionSortOrdered_uint64 -/
noncomputable def CC88 : Ctx := { P := Try.prog, own := [], fns := [(89, F89)], nt := 133, nums := [89], live := [(20, ⟨[0, 1, 2, 7, 8, 10], [], [0, 1, 2, 7, 8], []⟩), (14, ⟨[0, 1, 2, 7, 8, 9], [], [0, 1, 2, 7, 8], []⟩), (5, ⟨[0, 1, 2, 7, 8], [], [0, 1, 2, 7, 8], []⟩), (3, ⟨[0, 1, 2, 7, 8], [], [6], []⟩)] }
theorem good88 : Callees Try.prog CC88.fns [] CC88.nums := (Callees.nil Try.prog).cons_num ok89 F89_num
theorem hN88 : CtxNat CC88 := good88.ctx rfl rfl rfl
def enc88 (r : Bool) : List TV := [.c (Cell.bool (r))]
def dec88 : AV → Option (Bool)
  | .c (Cell.bool q0) => some (q0)
  | _ => none
theorem de88 (v : AV) (r : Bool) (h : dec88 v = some r) : v = oneOf (enc88 r) := by
  unfold dec88 at h
  split at h
  · cases h; rfl
  · cases h
abbrev Ty88 := SO → Int → Int → Heap → Option (Bool × Heap)
def sem88 (f : Ty88) : List TV → Heap → Option (Bool × Heap)
  | [.c (Cell.slice data), .c (Cell.int .i64 a), .c (Cell.int .i64 b)], H => f data a b H
  | _, _ => none
noncomputable def F088 : Ty88 := fun data a b H => fnA CC88 Try.f88.results.toList (bodyOf Try.f88) _ [.c (Cell.slice data), .c (Cell.int .i64 a), .c (Cell.int .i64 b)] H (decF dec88)
noncomputable def f88 : Ty88 := hide F088
theorem f88_eq : f88 = F088 := hide_eq _
noncomputable def P88_3 : Code := (Code.l (Code.l (Code.r (Code.l (Code.r (Code.r (bodyOf Try.f88)))))))
noncomputable def P88_5 : Code := (Code.l (Code.l (Code.l (Code.l (Code.l (Code.r (Code.l (Code.l (Code.r (Code.l (Code.r (Code.r (bodyOf Try.f88)))))))))))))
noncomputable def P88_14 : Code := (Code.l (Code.l (Code.r (Code.l (Code.r (Code.l (Code.r (Code.r (Code.r (Code.r (Code.l (Code.l (Code.r (Code.l (Code.l (Code.r (Code.l (Code.r (Code.r (bodyOf Try.f88))))))))))))))))))))
noncomputable def P88_20 : Code := (Code.l (Code.l (Code.r (Code.l (Code.r (Code.r (Code.r (Code.r (Code.r (Code.r (Code.l (Code.l (Code.r (Code.l (Code.l (Code.r (Code.l (Code.r (Code.r (bodyOf Try.f88))))))))))))))))))))
def S88_3 (t0 : SO) (t1 t2 t7 t8 : Int) (H : Heap) : St := ⟨[(0, .c (Cell.slice t0)), (1, .c (Cell.int .i64 t1)), (2, .c (Cell.int .i64 t2)), (7, .c (Cell.int .i64 t7)), (8, .c (Cell.int .i64 t8))], [], H⟩
noncomputable def D88_3 (n : Nat) (t0 : SO) (t1 t2 t7 t8 : Int) (H : Heap) : Option (AExit × St) := loopN (exec CC88 P88_3) (keepOf CC88.live P88_3) n (S88_3 t0 t1 t2 t7 t8 H) retD
noncomputable def LL88_3 (t0 : SO) (t1 t2 t7 t8 : Int) (H : Heap) : Option (AExit × St) := loopsD CC88 P88_3 (S88_3 t0 t1 t2 t7 t8 H)
theorem LL88_3_of (m : Nat) (hm : m < 18446744073709551616) (t0 : SO) (t1 t2 t7 t8 : Int) (H : Heap) : ∃ n, LL88_3 t0 t1 t2 t7 t8 H = D88_3 (n + m + 1) t0 t1 t2 t7 t8 H := loopsD_of _ _ _ m hm
def S88_5 (t0 : SO) (t1 t2 t7 t8 : Int) (H : Heap) : St := ⟨[(0, .c (Cell.slice t0)), (1, .c (Cell.int .i64 t1)), (2, .c (Cell.int .i64 t2)), (7, .c (Cell.int .i64 t7)), (8, .c (Cell.int .i64 t8))], [], H⟩
noncomputable def D88_5 (n : Nat) (t0 : SO) (t1 t2 t7 t8 : Int) (H : Heap) : Option (AExit × St) := loopN (exec CC88 P88_5) (keepOf CC88.live P88_5) n (S88_5 t0 t1 t2 t7 t8 H) retD
noncomputable def LL88_5 (t0 : SO) (t1 t2 t7 t8 : Int) (H : Heap) : Option (AExit × St) := loopsD CC88 P88_5 (S88_5 t0 t1 t2 t7 t8 H)
theorem LL88_5_of (m : Nat) (hm : m < 18446744073709551616) (t0 : SO) (t1 t2 t7 t8 : Int) (H : Heap) : ∃ n, LL88_5 t0 t1 t2 t7 t8 H = D88_5 (n + m + 1) t0 t1 t2 t7 t8 H := loopsD_of _ _ _ m hm
def S88_14 (t0 : SO) (t1 t2 t7 t8 t9 : Int) (H : Heap) : St := ⟨[(0, .c (Cell.slice t0)), (1, .c (Cell.int .i64 t1)), (2, .c (Cell.int .i64 t2)), (7, .c (Cell.int .i64 t7)), (8, .c (Cell.int .i64 t8)), (9, .c (Cell.int .i64 t9))], [], H⟩
noncomputable def D88_14 (n : Nat) (t0 : SO) (t1 t2 t7 t8 t9 : Int) (H : Heap) : Option (AExit × St) := loopN (exec CC88 P88_14) (keepOf CC88.live P88_14) n (S88_14 t0 t1 t2 t7 t8 t9 H) retD
noncomputable def LL88_14 (t0 : SO) (t1 t2 t7 t8 t9 : Int) (H : Heap) : Option (AExit × St) := loopsD CC88 P88_14 (S88_14 t0 t1 t2 t7 t8 t9 H)
theorem LL88_14_of (m : Nat) (hm : m < 18446744073709551616) (t0 : SO) (t1 t2 t7 t8 t9 : Int) (H : Heap) : ∃ n, LL88_14 t0 t1 t2 t7 t8 t9 H = D88_14 (n + m + 1) t0 t1 t2 t7 t8 t9 H := loopsD_of _ _ _ m hm
def S88_20 (t0 : SO) (t1 t2 t7 t8 t10 : Int) (H : Heap) : St := ⟨[(0, .c (Cell.slice t0)), (1, .c (Cell.int .i64 t1)), (2, .c (Cell.int .i64 t2)), (7, .c (Cell.int .i64 t7)), (8, .c (Cell.int .i64 t8)), (10, .c (Cell.int .i64 t10))], [], H⟩
noncomputable def D88_20 (n : Nat) (t0 : SO) (t1 t2 t7 t8 t10 : Int) (H : Heap) : Option (AExit × St) := loopN (exec CC88 P88_20) (keepOf CC88.live P88_20) n (S88_20 t0 t1 t2 t7 t8 t10 H) retD
noncomputable def LL88_20 (t0 : SO) (t1 t2 t7 t8 t10 : Int) (H : Heap) : Option (AExit × St) := loopsD CC88 P88_20 (S88_20 t0 t1 t2 t7 t8 t10 H)
theorem LL88_20_of (m : Nat) (hm : m < 18446744073709551616) (t0 : SO) (t1 t2 t7 t8 t10 : Int) (H : Heap) : ∃ n, LL88_20 t0 t1 t2 t7 t8 t10 H = D88_20 (n + m + 1) t0 t1 t2 t7 t8 t10 H := loopsD_of _ _ _ m hm
def X88_20 (x0 : SO) (x1 : Int) (x2 : Int) (x3 : Int) (x4 : Int) (H : Heap) : St := { env := [(0, AV.c (Cell.slice x0)), (1, AV.c (Cell.int .i64 x1)), (2, AV.c (Cell.int .i64 x2)), (7, AV.c (Cell.int .i64 x3)), (8, AV.c (Cell.int .i64 x4))], loc := [], heap := H }
def X88_14 (x0 : SO) (x1 : Int) (x2 : Int) (x3 : Int) (x4 : Int) (H : Heap) : St := { env := [(0, AV.c (Cell.slice x0)), (1, AV.c (Cell.int .i64 x1)), (2, AV.c (Cell.int .i64 x2)), (7, AV.c (Cell.int .i64 x3)), (8, AV.c (Cell.int .i64 x4))], loc := [], heap := H }
def X88_5 (x0 : SO) (x1 : Int) (x2 : Int) (x3 : Int) (x4 : Int) (H : Heap) : St := { env := [(0, AV.c (Cell.slice x0)), (1, AV.c (Cell.int .i64 x1)), (2, AV.c (Cell.int .i64 x2)), (7, AV.c (Cell.int .i64 x3)), (8, AV.c (Cell.int .i64 x4))], loc := [], heap := H }
def X88_3 (H : Heap) : St := { env := [], loc := [], heap := H }
def X88_3a (x0 : Bool) (H : Heap) : St := { env := [(6, AV.c (Cell.bool x0))], loc := [], heap := H }
noncomputable def J88_5 : Nat → AExit × St → Option (AExit × St) := fun n p => blockK 2 (seqK (execL CC88 (lpD CC88) (Code.r (Code.l (Code.l (Code.r P88_3))))) (blockK 1 (seqK (execL CC88 (lpD CC88) (Code.r (Code.r P88_3))) (loopK (some { t1 := [0, 1, 2, 7, 8], l1 := [], t2 := [6], l2 := [] }) (loopN (exec CC88 P88_3) (keepOf CC88.live P88_3) n) retD)))) p.1 p.2
noncomputable def J88_14 : Nat → AExit × St → Option (AExit × St) := fun n p => blockK 4 (seqK (execL CC88 (lpD CC88) (Code.r (Code.r (Code.r (Code.r (Code.r (Code.l (Code.l (Code.r P88_3))))))))) (blockK 1 (seqK (execL CC88 (lpD CC88) (Code.r (Code.r P88_3))) (loopK (some { t1 := [0, 1, 2, 7, 8], l1 := [], t2 := [6], l2 := [] }) (loopN (exec CC88 P88_3) (keepOf CC88.live P88_3) n) retD)))) p.1 p.2
noncomputable def J88_20 : Nat → AExit × St → Option (AExit × St) := fun n p => blockK 6 (blockK 1 (seqK (execL CC88 (lpD CC88) (Code.r (Code.r P88_3))) (loopK (some { t1 := [0, 1, 2, 7, 8], l1 := [], t2 := [6], l2 := [] }) (loopN (exec CC88 P88_3) (keepOf CC88.live P88_3) n) retD))) p.1 p.2
noncomputable def J88_3 : AExit × St → Option (Bool × Heap) := fun p => blockK 0 (seqK (execL CC88 (lpD CC88) (Code.r (Code.r (Code.r (bodyOf Try.f88))))) (retA CC88 [ResultVar.tmp 6] (decF dec88))) p.1 p.2
theorem D88_20_s : ∀ (n : Nat) (t0 : SO) (t1 t2 t7 t8 t10 : Int) (H : Heap), D88_20 (n + 1) t0 t1 t2 t7 t8 t10 H = bif decide (t10 < t2) then t0.bind fun v15 => bif inb t10 v15.len && v15.esz == 1 then (H.get v15.id (v15.off + t10.toNat * 1)).bind fun v14 => (Cell.toInt .u64 v14).bind fun v13 => t0.bind fun v12 => bif inb (IntKind.i64.wrap (t10 - 1)) v12.len && v12.esz == 1 then (H.get v12.id (v12.off + (IntKind.i64.wrap (t10 - 1)).toNat * 1)).bind fun v11 => (Cell.toInt .u64 v11).bind fun v10 => bif !cmp_Less_uint64 v13 v10 then some (AExit.exit 6, X88_20 t0 t1 t2 t7 t8 H) else t0.bind fun v9 => bif inb (IntKind.i64.wrap (t10 - 1)) v9.len && v9.esz == 1 then (H.get v9.id (v9.off + (IntKind.i64.wrap (t10 - 1)).toNat * 1)).bind fun v8 => (Cell.toInt .u64 v8).bind fun v7 => t0.bind fun v6 => bif inb t10 v6.len && v6.esz == 1 then (H.get v6.id (v6.off + t10.toNat * 1)).bind fun v5 => (Cell.toInt .u64 v5).bind fun v4 => t0.bind fun v3 => bif inb t10 v3.len && v3.esz == 1 then (H.put v3.id (v3.off + t10.toNat * 1) [Cell.int .u64 v7]).bind fun v2 => t0.bind fun v1 => bif inb (IntKind.i64.wrap (t10 - 1)) v1.len && v1.esz == 1 then (v2.put v1.id (v1.off + (IntKind.i64.wrap (t10 - 1)).toNat * 1) [Cell.int .u64 v4]).bind fun v0 => D88_20 n t0 t1 t2 t7 t8 (IntKind.i64.wrap (t10 + 1)) v0 else none else none else none else none else none else none else some (AExit.exit 6, X88_20 t0 t1 t2 t7 t8 H) := by intros; exact (loopN_stepD hN88 _ _ _ _).trans (by kernel_rfl)
theorem D88_14_s : ∀ (n : Nat) (t0 : SO) (t1 t2 t7 t8 t9 : Int) (H : Heap), D88_14 (n + 1) t0 t1 t2 t7 t8 t9 H = bif decide (t9 ≥ 1) then t0.bind fun v31 => bif inb t9 v31.len && v31.esz == 1 then (H.get v31.id (v31.off + t9.toNat * 1)).bind fun v30 => (Cell.toInt .u64 v30).bind fun v29 => t0.bind fun v28 => bif inb (IntKind.i64.wrap (t9 - 1)) v28.len && v28.esz == 1 then (H.get v28.id (v28.off + (IntKind.i64.wrap (t9 - 1)).toNat * 1)).bind fun v27 => (Cell.toInt .u64 v27).bind fun v26 => bif !cmp_Less_uint64 v29 v26 then some (AExit.exit 4, X88_14 t0 t1 t2 t7 t8 H) else t0.bind fun v25 => bif inb (IntKind.i64.wrap (t9 - 1)) v25.len && v25.esz == 1 then (H.get v25.id (v25.off + (IntKind.i64.wrap (t9 - 1)).toNat * 1)).bind fun v24 => (Cell.toInt .u64 v24).bind fun v23 => t0.bind fun v22 => bif inb t9 v22.len && v22.esz == 1 then (H.get v22.id (v22.off + t9.toNat * 1)).bind fun v21 => (Cell.toInt .u64 v21).bind fun v20 => t0.bind fun v19 => bif inb t9 v19.len && v19.esz == 1 then (H.put v19.id (v19.off + t9.toNat * 1) [Cell.int .u64 v23]).bind fun v18 => t0.bind fun v17 => bif inb (IntKind.i64.wrap (t9 - 1)) v17.len && v17.esz == 1 then (v18.put v17.id (v17.off + (IntKind.i64.wrap (t9 - 1)).toNat * 1) [Cell.int .u64 v20]).bind fun v16 => D88_14 n t0 t1 t2 t7 t8 (IntKind.i64.wrap (t9 - 1)) v16 else none else none else none else none else none else none else some (AExit.exit 4, X88_14 t0 t1 t2 t7 t8 H) := by intros; exact (loopN_stepD hN88 _ _ _ _).trans (by kernel_rfl)
theorem D88_5_s : ∀ (n : Nat) (t0 : SO) (t1 t2 t7 t8 : Int) (H : Heap), D88_5 (n + 1) t0 t1 t2 t7 t8 H = bif decide (t7 < t2) then t0.bind fun v37 => bif inb t7 v37.len && v37.esz == 1 then (H.get v37.id (v37.off + t7.toNat * 1)).bind fun v36 => (Cell.toInt .u64 v36).bind fun v35 => t0.bind fun v34 => bif inb (IntKind.i64.wrap (t7 - 1)) v34.len && v34.esz == 1 then (H.get v34.id (v34.off + (IntKind.i64.wrap (t7 - 1)).toNat * 1)).bind fun v33 => (Cell.toInt .u64 v33).bind fun v32 => bif !cmp_Less_uint64 v35 v32 then D88_5 n t0 t1 t2 (IntKind.i64.wrap (t7 + 1)) t8 H else some (AExit.exit 2, X88_5 t0 t1 t2 t7 t8 H) else none else none else some (AExit.exit 2, X88_5 t0 t1 t2 t7 t8 H) := by intros; exact (loopN_stepD hN88 _ _ _ _).trans (by kernel_rfl)
theorem D88_3_s : ∀ (n : Nat) (t0 : SO) (t1 t2 t7 t8 : Int) (H : Heap), D88_3 (n + 1) t0 t1 t2 t7 t8 H = bif decide (t8 < 5) then (LL88_5 t0 t1 t2 t7 t8 H).bind (J88_5 n) else some (AExit.exit 0, X88_3 H) := by intros; exact (loopN_stepD hN88 _ _ _ _).trans (by kernel_rfl)
theorem J88_5_0 : ∀ (n : Nat) (x0 : SO) (x1 x2 x3 x4 : Int) (H : Heap), J88_5 n (AExit.exit 2, X88_5 x0 x1 x2 x3 x4 H) = bif x3 == x2 then some (AExit.ret, X88_3a true H) else bif decide (IntKind.i64.wrap (x2 - x1) < 50) then some (AExit.ret, X88_3a false H) else x0.bind fun v47 => bif inb (IntKind.i64.wrap (x3 - 1)) v47.len && v47.esz == 1 then (H.get v47.id (v47.off + (IntKind.i64.wrap (x3 - 1)).toNat * 1)).bind fun v46 => (Cell.toInt .u64 v46).bind fun v45 => x0.bind fun v44 => bif inb x3 v44.len && v44.esz == 1 then (H.get v44.id (v44.off + x3.toNat * 1)).bind fun v43 => (Cell.toInt .u64 v43).bind fun v42 => x0.bind fun v41 => bif inb x3 v41.len && v41.esz == 1 then (H.put v41.id (v41.off + x3.toNat * 1) [Cell.int .u64 v45]).bind fun v40 => x0.bind fun v39 => bif inb (IntKind.i64.wrap (x3 - 1)) v39.len && v39.esz == 1 then (v40.put v39.id (v39.off + (IntKind.i64.wrap (x3 - 1)).toNat * 1) [Cell.int .u64 v42]).bind fun v38 => bif decide (IntKind.i64.wrap (x3 - x1) ≥ 2) then (LL88_14 x0 x1 x2 x3 x4 (IntKind.i64.wrap (x3 - 1)) v38).bind (J88_14 n) else bif decide (IntKind.i64.wrap (x2 - x3) ≥ 2) then (LL88_20 x0 x1 x2 x3 x4 (IntKind.i64.wrap (x3 + 1)) v38).bind (J88_20 n) else D88_3 n x0 x1 x2 x3 (IntKind.i64.wrap (x4 + 1)) v38 else none else none else none else none := by intros; kernel_rfl
theorem J88_14_0 : ∀ (n : Nat) (x0 : SO) (x1 x2 x3 x4 : Int) (H : Heap), J88_14 n (AExit.exit 4, X88_14 x0 x1 x2 x3 x4 H) = bif decide (IntKind.i64.wrap (x2 - x3) ≥ 2) then (LL88_20 x0 x1 x2 x3 x4 (IntKind.i64.wrap (x3 + 1)) H).bind (J88_20 n) else D88_3 n x0 x1 x2 x3 (IntKind.i64.wrap (x4 + 1)) H := by intros; kernel_rfl
theorem J88_20_0 : ∀ (n : Nat) (x0 : SO) (x1 x2 x3 x4 : Int) (H : Heap), J88_20 n (AExit.exit 6, X88_20 x0 x1 x2 x3 x4 H) = D88_3 n x0 x1 x2 x3 (IntKind.i64.wrap (x4 + 1)) H := by intros; kernel_rfl
theorem q88 : ∀ (data : SO) (a b : Int) (H : Heap), f88 data a b H = (LL88_3 data a b (IntKind.i64.wrap (a + 1)) 0 H).bind J88_3 := by intros; rw [f88_eq]; exact (fnA_lpD hN88 ..).trans (by kernel_rfl)
theorem J88_3_0 : ∀ (H : Heap), J88_3 (AExit.exit 0, X88_3 H) = some (false, H) := by intros; kernel_rfl
theorem J88_3_1 : ∀ (x0 : Bool) (H : Heap), J88_3 (AExit.ret, X88_3a x0 H) = some (x0, H) := by intros; kernel_rfl
theorem ok88 : FnOk Try.prog 88 (specF enc88 (sem88 f88)) := by
  refine spec_ok (C := CC88) good88 rfl rfl rfl (by kernel_rfl) Try.func88 (c := bodyOf Try.f88) (by kernel_rfl) (by kernel_rfl) (Nat.le_of_eq Try.ntmps88.symm) dec88 enc88 de88 _ ?_
  intro args H q h
  unfold sem88 at h
  split at h
  · rw [f88_eq] at h; exact h
  · cases h
/-! 90: slices_partitionEqualOrdered_uint64 -/
noncomputable def CC90 : Ctx := { P := Try.prog, own := [], fns := [(89, F89)], nt := 84, nums := [89], live := [(5, ⟨[0, 1, 9, 10], [], [0, 1, 9, 10], []⟩), (3, ⟨[0, 1, 9, 10], [], [0, 1, 9, 10], []⟩), (10003, ⟨[0, 1, 9, 10], [], [9], []⟩)] }
theorem good90 : Callees Try.prog CC90.fns [] CC90.nums := (Callees.nil Try.prog).cons_num ok89 F89_num
theorem hN90 : CtxNat CC90 := good90.ctx rfl rfl rfl
def enc90 (r : Int) : List TV := [.c (Cell.int .i64 (r))]
def dec90 : AV → Option (Int)
  | .c (Cell.int .i64 q0) => some (q0)
  | _ => none
theorem de90 (v : AV) (r : Int) (h : dec90 v = some r) : v = oneOf (enc90 r) := by
  unfold dec90 at h
  split at h
  · cases h; rfl
  · cases h
abbrev Ty90 := SO → Int → Int → Int → Heap → Option (Int × Heap)
def sem90 (f : Ty90) : List TV → Heap → Option (Int × Heap)
  | [.c (Cell.slice data), .c (Cell.int .i64 a), .c (Cell.int .i64 b), .c (Cell.int .i64 pivot)], H => f data a b pivot H
  | _, _ => none
noncomputable def F090 : Ty90 := fun data a b pivot H => fnA CC90 Try.f90.results.toList (bodyOf Try.f90) _ [.c (Cell.slice data), .c (Cell.int .i64 a), .c (Cell.int .i64 b), .c (Cell.int .i64 pivot)] H (decF dec90)
noncomputable def f90 : Ty90 := hide F090
theorem f90_eq : f90 = F090 := hide_eq _
noncomputable def P90_10003 : Code := (Code.l (Code.l (Code.l (Code.r (Code.r (Code.r (bodyOf Try.f90)))))))
noncomputable def P90_3 : Code := (Code.l (Code.l (Code.l (Code.l (Code.l (Code.l (Code.l (Code.r (Code.r (Code.r (bodyOf Try.f90)))))))))))
noncomputable def P90_5 : Code := (Code.l (Code.l (Code.l (Code.r (Code.l (Code.l (Code.l (Code.l (Code.r (Code.r (Code.r (bodyOf Try.f90))))))))))))
def S90_10003 (t0 : SO) (t1 t9 t10 : Int) (H : Heap) : St := ⟨[(0, .c (Cell.slice t0)), (1, .c (Cell.int .i64 t1)), (9, .c (Cell.int .i64 t9)), (10, .c (Cell.int .i64 t10))], [], H⟩
noncomputable def D90_10003 (n : Nat) (t0 : SO) (t1 t9 t10 : Int) (H : Heap) : Option (AExit × St) := loopN (exec CC90 P90_10003) (keepOf CC90.live P90_10003) n (S90_10003 t0 t1 t9 t10 H) retD
noncomputable def LL90_10003 (t0 : SO) (t1 t9 t10 : Int) (H : Heap) : Option (AExit × St) := loopsD CC90 P90_10003 (S90_10003 t0 t1 t9 t10 H)
theorem LL90_10003_of (m : Nat) (hm : m < 18446744073709551616) (t0 : SO) (t1 t9 t10 : Int) (H : Heap) : ∃ n, LL90_10003 t0 t1 t9 t10 H = D90_10003 (n + m + 1) t0 t1 t9 t10 H := loopsD_of _ _ _ m hm
def S90_3 (t0 : SO) (t1 t9 t10 : Int) (H : Heap) : St := ⟨[(0, .c (Cell.slice t0)), (1, .c (Cell.int .i64 t1)), (9, .c (Cell.int .i64 t9)), (10, .c (Cell.int .i64 t10))], [], H⟩
noncomputable def D90_3 (n : Nat) (t0 : SO) (t1 t9 t10 : Int) (H : Heap) : Option (AExit × St) := loopN (exec CC90 P90_3) (keepOf CC90.live P90_3) n (S90_3 t0 t1 t9 t10 H) retD
noncomputable def LL90_3 (t0 : SO) (t1 t9 t10 : Int) (H : Heap) : Option (AExit × St) := loopsD CC90 P90_3 (S90_3 t0 t1 t9 t10 H)
theorem LL90_3_of (m : Nat) (hm : m < 18446744073709551616) (t0 : SO) (t1 t9 t10 : Int) (H : Heap) : ∃ n, LL90_3 t0 t1 t9 t10 H = D90_3 (n + m + 1) t0 t1 t9 t10 H := loopsD_of _ _ _ m hm
def S90_5 (t0 : SO) (t1 t9 t10 : Int) (H : Heap) : St := ⟨[(0, .c (Cell.slice t0)), (1, .c (Cell.int .i64 t1)), (9, .c (Cell.int .i64 t9)), (10, .c (Cell.int .i64 t10))], [], H⟩
noncomputable def D90_5 (n : Nat) (t0 : SO) (t1 t9 t10 : Int) (H : Heap) : Option (AExit × St) := loopN (exec CC90 P90_5) (keepOf CC90.live P90_5) n (S90_5 t0 t1 t9 t10 H) retD
noncomputable def LL90_5 (t0 : SO) (t1 t9 t10 : Int) (H : Heap) : Option (AExit × St) := loopsD CC90 P90_5 (S90_5 t0 t1 t9 t10 H)
theorem LL90_5_of (m : Nat) (hm : m < 18446744073709551616) (t0 : SO) (t1 t9 t10 : Int) (H : Heap) : ∃ n, LL90_5 t0 t1 t9 t10 H = D90_5 (n + m + 1) t0 t1 t9 t10 H := loopsD_of _ _ _ m hm
def X90_5 (x0 : SO) (x1 : Int) (x2 : Int) (x3 : Int) (H : Heap) : St := { env := [(0, AV.c (Cell.slice x0)), (1, AV.c (Cell.int .i64 x1)), (9, AV.c (Cell.int .i64 x2)), (10, AV.c (Cell.int .i64 x3))], loc := [], heap := H }
def X90_3 (x0 : SO) (x1 : Int) (x2 : Int) (x3 : Int) (H : Heap) : St := { env := [(0, AV.c (Cell.slice x0)), (1, AV.c (Cell.int .i64 x1)), (9, AV.c (Cell.int .i64 x2)), (10, AV.c (Cell.int .i64 x3))], loc := [], heap := H }
def X90_10003 (x0 : Int) (H : Heap) : St := { env := [(9, AV.c (Cell.int .i64 x0))], loc := [], heap := H }
noncomputable def J90_3 : Nat → AExit × St → Option (AExit × St) := fun n p => blockK 2 (seqK (execL CC90 (lpD CC90) (Code.r (Code.l P90_10003))) (blockK 1 (loopK (some { t1 := [0, 1, 9, 10], l1 := [], t2 := [9], l2 := [] }) (loopN (exec CC90 P90_10003) (keepOf CC90.live P90_10003) n) retD))) p.1 p.2
noncomputable def J90_5 : Nat → AExit × St → Option (AExit × St) := fun n p => blockK 4 (seqK (execL CC90 (lpD CC90) (Code.r (Code.r (Code.l P90_10003)))) (blockK 1 (loopK (some { t1 := [0, 1, 9, 10], l1 := [], t2 := [9], l2 := [] }) (loopN (exec CC90 P90_10003) (keepOf CC90.live P90_10003) n) retD))) p.1 p.2
noncomputable def J90_10003 : AExit × St → Option (Int × Heap) := fun p => blockK 0 (seqK (execL CC90 (lpD CC90) (Code.r (Code.r (Code.r (Code.r (bodyOf Try.f90)))))) (retA CC90 [ResultVar.tmp 8] (decF dec90))) p.1 p.2
theorem D90_5_s : ∀ (n : Nat) (t0 : SO) (t1 t9 t10 : Int) (H : Heap), D90_5 (n + 1) t0 t1 t9 t10 H = bif decide (t9 ≤ t10) then t0.bind fun v5 => bif inb t1 v5.len && v5.esz == 1 then (H.get v5.id (v5.off + t1.toNat * 1)).bind fun v4 => (Cell.toInt .u64 v4).bind fun v3 => t0.bind fun v2 => bif inb t10 v2.len && v2.esz == 1 then (H.get v2.id (v2.off + t10.toNat * 1)).bind fun v1 => (Cell.toInt .u64 v1).bind fun v0 => bif cmp_Less_uint64 v3 v0 then D90_5 n t0 t1 t9 (IntKind.i64.wrap (t10 - 1)) H else some (AExit.exit 4, X90_5 t0 t1 t9 t10 H) else none else none else some (AExit.exit 4, X90_5 t0 t1 t9 t10 H) := by intros; exact (loopN_stepD hN90 _ _ _ _).trans (by kernel_rfl)
theorem D90_3_s : ∀ (n : Nat) (t0 : SO) (t1 t9 t10 : Int) (H : Heap), D90_3 (n + 1) t0 t1 t9 t10 H = bif decide (t9 ≤ t10) then t0.bind fun v11 => bif inb t1 v11.len && v11.esz == 1 then (H.get v11.id (v11.off + t1.toNat * 1)).bind fun v10 => (Cell.toInt .u64 v10).bind fun v9 => t0.bind fun v8 => bif inb t9 v8.len && v8.esz == 1 then (H.get v8.id (v8.off + t9.toNat * 1)).bind fun v7 => (Cell.toInt .u64 v7).bind fun v6 => bif !cmp_Less_uint64 v9 v6 then D90_3 n t0 t1 (IntKind.i64.wrap (t9 + 1)) t10 H else some (AExit.exit 2, X90_3 t0 t1 t9 t10 H) else none else none else some (AExit.exit 2, X90_3 t0 t1 t9 t10 H) := by intros; exact (loopN_stepD hN90 _ _ _ _).trans (by kernel_rfl)
theorem D90_10003_s : ∀ (n : Nat) (t0 : SO) (t1 t9 t10 : Int) (H : Heap), D90_10003 (n + 1) t0 t1 t9 t10 H = (LL90_3 t0 t1 t9 t10 H).bind (J90_3 n) := by intros; exact (loopN_stepD hN90 _ _ _ _).trans (by kernel_rfl)
theorem J90_3_0 : ∀ (n : Nat) (x0 : SO) (x1 x2 x3 : Int) (H : Heap), J90_3 n (AExit.exit 2, X90_3 x0 x1 x2 x3 H) = (LL90_5 x0 x1 x2 x3 H).bind (J90_5 n) := by intros; kernel_rfl
theorem J90_5_0 : ∀ (n : Nat) (x0 : SO) (x1 x2 x3 : Int) (H : Heap), J90_5 n (AExit.exit 4, X90_5 x0 x1 x2 x3 H) = bif decide (x2 > x3) then some (AExit.exit 0, X90_10003 x2 H) else x0.bind fun v21 => bif inb x3 v21.len && v21.esz == 1 then (H.get v21.id (v21.off + x3.toNat * 1)).bind fun v20 => (Cell.toInt .u64 v20).bind fun v19 => x0.bind fun v18 => bif inb x2 v18.len && v18.esz == 1 then (H.get v18.id (v18.off + x2.toNat * 1)).bind fun v17 => (Cell.toInt .u64 v17).bind fun v16 => x0.bind fun v15 => bif inb x2 v15.len && v15.esz == 1 then (H.put v15.id (v15.off + x2.toNat * 1) [Cell.int .u64 v19]).bind fun v14 => x0.bind fun v13 => bif inb x3 v13.len && v13.esz == 1 then (v14.put v13.id (v13.off + x3.toNat * 1) [Cell.int .u64 v16]).bind fun v12 => D90_10003 n x0 x1 (IntKind.i64.wrap (x2 + 1)) (IntKind.i64.wrap (x3 - 1)) v12 else none else none else none else none := by intros; kernel_rfl
theorem q90 : ∀ (data : SO) (a b pivot : Int) (H : Heap), f90 data a b pivot H = data.bind fun v31 => bif inb pivot v31.len && v31.esz == 1 then (H.get v31.id (v31.off + pivot.toNat * 1)).bind fun v30 => (Cell.toInt .u64 v30).bind fun v29 => data.bind fun v28 => bif inb a v28.len && v28.esz == 1 then (H.get v28.id (v28.off + a.toNat * 1)).bind fun v27 => (Cell.toInt .u64 v27).bind fun v26 => data.bind fun v25 => bif inb a v25.len && v25.esz == 1 then (H.put v25.id (v25.off + a.toNat * 1) [Cell.int .u64 v29]).bind fun v24 => data.bind fun v23 => bif inb pivot v23.len && v23.esz == 1 then (v24.put v23.id (v23.off + pivot.toNat * 1) [Cell.int .u64 v26]).bind fun v22 => (LL90_10003 data a (IntKind.i64.wrap (a + 1)) (IntKind.i64.wrap (b - 1)) v22).bind J90_10003 else none else none else none else none := by intros; rw [f90_eq]; exact (fnA_lpD hN90 ..).trans (by kernel_rfl)
theorem J90_10003_0 : ∀ (x0 : Int) (H : Heap), J90_10003 (AExit.exit 0, X90_10003 x0 H) = some (x0, H) := by intros; kernel_rfl
theorem ok90 : FnOk Try.prog 90 (specF enc90 (sem90 f90)) := by
  refine spec_ok (C := CC90) good90 rfl rfl rfl (by kernel_rfl) Try.func90 (c := bodyOf Try.f90) (by kernel_rfl) (by kernel_rfl) (Nat.le_of_eq Try.ntmps90.symm) dec90 enc90 de90 _ ?_
  intro args H q h
  unfold sem90 at h
  split at h
  · rw [f90_eq] at h; exact h
  · cases h
/-! 91: slices_partitionOrdered_uint64 -/
noncomputable def CC91 : Ctx := { P := Try.prog, own := [], fns := [(89, F89)], nt := 168, nums := [89], live := [(15, ⟨[0, 1, 10, 11], [], [0, 1, 10, 11], []⟩), (13, ⟨[0, 1, 10, 11], [], [0, 1, 10, 11], []⟩), (10013, ⟨[0, 1, 10, 11], [], [0, 1, 11], []⟩), (5, ⟨[0, 1, 10, 11], [], [0, 1, 10, 11], []⟩), (3, ⟨[0, 1, 10, 11], [], [0, 1, 10, 11], []⟩)] }
theorem good91 : Callees Try.prog CC91.fns [] CC91.nums := (Callees.nil Try.prog).cons_num ok89 F89_num
theorem hN91 : CtxNat CC91 := good91.ctx rfl rfl rfl
def enc91 (r : Int × Bool) : List TV := [.c (Cell.int .i64 (r.1)), .c (Cell.bool (r.2))]
def dec91 : AV → Option (Int × Bool)
  | .tup [.c (Cell.int .i64 q0), .c (Cell.bool q1)] => some (q0, q1)
  | _ => none
theorem de91 (v : AV) (r : Int × Bool) (h : dec91 v = some r) : v = oneOf (enc91 r) := by
  unfold dec91 at h
  split at h
  · cases h; rfl
  · cases h
abbrev Ty91 := SO → Int → Int → Int → Heap → Option ((Int × Bool) × Heap)
def sem91 (f : Ty91) : List TV → Heap → Option ((Int × Bool) × Heap)
  | [.c (Cell.slice data), .c (Cell.int .i64 a), .c (Cell.int .i64 b), .c (Cell.int .i64 pivot)], H => f data a b pivot H
  | _, _ => none
noncomputable def F091 : Ty91 := fun data a b pivot H => fnA CC91 Try.f91.results.toList (bodyOf Try.f91) _ [.c (Cell.slice data), .c (Cell.int .i64 a), .c (Cell.int .i64 b), .c (Cell.int .i64 pivot)] H (decF dec91)
noncomputable def f91 : Ty91 := hide F091
theorem f91_eq : f91 = F091 := hide_eq _
noncomputable def P91_3 : Code := (Code.l (Code.l (Code.l (Code.r (Code.r (Code.r (bodyOf Try.f91)))))))
noncomputable def P91_5 : Code := (Code.l (Code.l (Code.l (Code.r (Code.r (Code.r (Code.r (bodyOf Try.f91))))))))
noncomputable def P91_10013 : Code := (Code.l (Code.l (Code.l (Code.r (Code.r (Code.r (Code.r (Code.r (Code.r (Code.r (Code.r (Code.r (bodyOf Try.f91)))))))))))))
noncomputable def P91_13 : Code := (Code.l (Code.l (Code.l (Code.l (Code.l (Code.l (Code.l (Code.r (Code.r (Code.r (Code.r (Code.r (Code.r (Code.r (Code.r (Code.r (bodyOf Try.f91)))))))))))))))))
noncomputable def P91_15 : Code := (Code.l (Code.l (Code.l (Code.r (Code.l (Code.l (Code.l (Code.l (Code.r (Code.r (Code.r (Code.r (Code.r (Code.r (Code.r (Code.r (Code.r (bodyOf Try.f91))))))))))))))))))
def S91_3 (t0 : SO) (t1 t10 t11 : Int) (H : Heap) : St := ⟨[(0, .c (Cell.slice t0)), (1, .c (Cell.int .i64 t1)), (10, .c (Cell.int .i64 t10)), (11, .c (Cell.int .i64 t11))], [], H⟩
noncomputable def D91_3 (n : Nat) (t0 : SO) (t1 t10 t11 : Int) (H : Heap) : Option (AExit × St) := loopN (exec CC91 P91_3) (keepOf CC91.live P91_3) n (S91_3 t0 t1 t10 t11 H) retD
noncomputable def LL91_3 (t0 : SO) (t1 t10 t11 : Int) (H : Heap) : Option (AExit × St) := loopsD CC91 P91_3 (S91_3 t0 t1 t10 t11 H)
theorem LL91_3_of (m : Nat) (hm : m < 18446744073709551616) (t0 : SO) (t1 t10 t11 : Int) (H : Heap) : ∃ n, LL91_3 t0 t1 t10 t11 H = D91_3 (n + m + 1) t0 t1 t10 t11 H := loopsD_of _ _ _ m hm
def S91_5 (t0 : SO) (t1 t10 t11 : Int) (H : Heap) : St := ⟨[(0, .c (Cell.slice t0)), (1, .c (Cell.int .i64 t1)), (10, .c (Cell.int .i64 t10)), (11, .c (Cell.int .i64 t11))], [], H⟩
noncomputable def D91_5 (n : Nat) (t0 : SO) (t1 t10 t11 : Int) (H : Heap) : Option (AExit × St) := loopN (exec CC91 P91_5) (keepOf CC91.live P91_5) n (S91_5 t0 t1 t10 t11 H) retD
noncomputable def LL91_5 (t0 : SO) (t1 t10 t11 : Int) (H : Heap) : Option (AExit × St) := loopsD CC91 P91_5 (S91_5 t0 t1 t10 t11 H)
theorem LL91_5_of (m : Nat) (hm : m < 18446744073709551616) (t0 : SO) (t1 t10 t11 : Int) (H : Heap) : ∃ n, LL91_5 t0 t1 t10 t11 H = D91_5 (n + m + 1) t0 t1 t10 t11 H := loopsD_of _ _ _ m hm
def S91_10013 (t0 : SO) (t1 t10 t11 : Int) (H : Heap) : St := ⟨[(0, .c (Cell.slice t0)), (1, .c (Cell.int .i64 t1)), (10, .c (Cell.int .i64 t10)), (11, .c (Cell.int .i64 t11))], [], H⟩
noncomputable def D91_10013 (n : Nat) (t0 : SO) (t1 t10 t11 : Int) (H : Heap) : Option (AExit × St) := loopN (exec CC91 P91_10013) (keepOf CC91.live P91_10013) n (S91_10013 t0 t1 t10 t11 H) retD
noncomputable def LL91_10013 (t0 : SO) (t1 t10 t11 : Int) (H : Heap) : Option (AExit × St) := loopsD CC91 P91_10013 (S91_10013 t0 t1 t10 t11 H)
theorem LL91_10013_of (m : Nat) (hm : m < 18446744073709551616) (t0 : SO) (t1 t10 t11 : Int) (H : Heap) : ∃ n, LL91_10013 t0 t1 t10 t11 H = D91_10013 (n + m + 1) t0 t1 t10 t11 H := loopsD_of _ _ _ m hm
def S91_13 (t0 : SO) (t1 t10 t11 : Int) (H : Heap) : St := ⟨[(0, .c (Cell.slice t0)), (1, .c (Cell.int .i64 t1)), (10, .c (Cell.int .i64 t10)), (11, .c (Cell.int .i64 t11))], [], H⟩
noncomputable def D91_13 (n : Nat) (t0 : SO) (t1 t10 t11 : Int) (H : Heap) : Option (AExit × St) := loopN (exec CC91 P91_13) (keepOf CC91.live P91_13) n (S91_13 t0 t1 t10 t11 H) retD
noncomputable def LL91_13 (t0 : SO) (t1 t10 t11 : Int) (H : Heap) : Option (AExit × St) := loopsD CC91 P91_13 (S91_13 t0 t1 t10 t11 H)
theorem LL91_13_of (m : Nat) (hm : m < 18446744073709551616) (t0 : SO) (t1 t10 t11 : Int) (H : Heap) : ∃ n, LL91_13 t0 t1 t10 t11 H = D91_13 (n + m + 1) t0 t1 t10 t11 H := loopsD_of _ _ _ m hm
def S91_15 (t0 : SO) (t1 t10 t11 : Int) (H : Heap) : St := ⟨[(0, .c (Cell.slice t0)), (1, .c (Cell.int .i64 t1)), (10, .c (Cell.int .i64 t10)), (11, .c (Cell.int .i64 t11))], [], H⟩
noncomputable def D91_15 (n : Nat) (t0 : SO) (t1 t10 t11 : Int) (H : Heap) : Option (AExit × St) := loopN (exec CC91 P91_15) (keepOf CC91.live P91_15) n (S91_15 t0 t1 t10 t11 H) retD
noncomputable def LL91_15 (t0 : SO) (t1 t10 t11 : Int) (H : Heap) : Option (AExit × St) := loopsD CC91 P91_15 (S91_15 t0 t1 t10 t11 H)
theorem LL91_15_of (m : Nat) (hm : m < 18446744073709551616) (t0 : SO) (t1 t10 t11 : Int) (H : Heap) : ∃ n, LL91_15 t0 t1 t10 t11 H = D91_15 (n + m + 1) t0 t1 t10 t11 H := loopsD_of _ _ _ m hm
def X91_15 (x0 : SO) (x1 : Int) (x2 : Int) (x3 : Int) (H : Heap) : St := { env := [(0, AV.c (Cell.slice x0)), (1, AV.c (Cell.int .i64 x1)), (10, AV.c (Cell.int .i64 x2)), (11, AV.c (Cell.int .i64 x3))], loc := [], heap := H }
def X91_13 (x0 : SO) (x1 : Int) (x2 : Int) (x3 : Int) (H : Heap) : St := { env := [(0, AV.c (Cell.slice x0)), (1, AV.c (Cell.int .i64 x1)), (10, AV.c (Cell.int .i64 x2)), (11, AV.c (Cell.int .i64 x3))], loc := [], heap := H }
def X91_10013 (x0 : SO) (x1 : Int) (x2 : Int) (H : Heap) : St := { env := [(0, AV.c (Cell.slice x0)), (1, AV.c (Cell.int .i64 x1)), (11, AV.c (Cell.int .i64 x2))], loc := [], heap := H }
def X91_5 (x0 : SO) (x1 : Int) (x2 : Int) (x3 : Int) (H : Heap) : St := { env := [(0, AV.c (Cell.slice x0)), (1, AV.c (Cell.int .i64 x1)), (10, AV.c (Cell.int .i64 x2)), (11, AV.c (Cell.int .i64 x3))], loc := [], heap := H }
def X91_3 (x0 : SO) (x1 : Int) (x2 : Int) (x3 : Int) (H : Heap) : St := { env := [(0, AV.c (Cell.slice x0)), (1, AV.c (Cell.int .i64 x1)), (10, AV.c (Cell.int .i64 x2)), (11, AV.c (Cell.int .i64 x3))], loc := [], heap := H }
noncomputable def J91_13 : Nat → AExit × St → Option (AExit × St) := fun n p => blockK 6 (seqK (execL CC91 (lpD CC91) (Code.r (Code.l P91_10013))) (blockK 5 (loopK (some { t1 := [0, 1, 10, 11], l1 := [], t2 := [0, 1, 11], l2 := [] }) (loopN (exec CC91 P91_10013) (keepOf CC91.live P91_10013) n) retD))) p.1 p.2
noncomputable def J91_15 : Nat → AExit × St → Option (AExit × St) := fun n p => blockK 8 (seqK (execL CC91 (lpD CC91) (Code.r (Code.r (Code.l P91_10013)))) (blockK 5 (loopK (some { t1 := [0, 1, 10, 11], l1 := [], t2 := [0, 1, 11], l2 := [] }) (loopN (exec CC91 P91_10013) (keepOf CC91.live P91_10013) n) retD))) p.1 p.2
noncomputable def J91_3 : AExit × St → Option ((Int × Bool) × Heap) := fun p => blockK 0 (seqK (execL CC91 (lpD CC91) (Code.r (Code.r (Code.r (Code.r (bodyOf Try.f91)))))) (retA CC91 [ResultVar.tmp 8, ResultVar.tmp 9] (decF dec91))) p.1 p.2
noncomputable def J91_5 : AExit × St → Option ((Int × Bool) × Heap) := fun p => blockK 2 (seqK (execL CC91 (lpD CC91) (Code.r (Code.r (Code.r (Code.r (Code.r (bodyOf Try.f91))))))) (retA CC91 [ResultVar.tmp 8, ResultVar.tmp 9] (decF dec91))) p.1 p.2
noncomputable def J91_10013 : AExit × St → Option ((Int × Bool) × Heap) := fun p => blockK 4 (seqK (execL CC91 (lpD CC91) (Code.r (Code.r (Code.r (Code.r (Code.r (Code.r (Code.r (Code.r (Code.r (Code.r (bodyOf Try.f91)))))))))))) (retA CC91 [ResultVar.tmp 8, ResultVar.tmp 9] (decF dec91))) p.1 p.2
theorem D91_15_s : ∀ (n : Nat) (t0 : SO) (t1 t10 t11 : Int) (H : Heap), D91_15 (n + 1) t0 t1 t10 t11 H = bif decide (t10 ≤ t11) then t0.bind fun v5 => bif inb t11 v5.len && v5.esz == 1 then (H.get v5.id (v5.off + t11.toNat * 1)).bind fun v4 => (Cell.toInt .u64 v4).bind fun v3 => t0.bind fun v2 => bif inb t1 v2.len && v2.esz == 1 then (H.get v2.id (v2.off + t1.toNat * 1)).bind fun v1 => (Cell.toInt .u64 v1).bind fun v0 => bif !cmp_Less_uint64 v3 v0 then D91_15 n t0 t1 t10 (IntKind.i64.wrap (t11 - 1)) H else some (AExit.exit 8, X91_15 t0 t1 t10 t11 H) else none else none else some (AExit.exit 8, X91_15 t0 t1 t10 t11 H) := by intros; exact (loopN_stepD hN91 _ _ _ _).trans (by kernel_rfl)
theorem D91_13_s : ∀ (n : Nat) (t0 : SO) (t1 t10 t11 : Int) (H : Heap), D91_13 (n + 1) t0 t1 t10 t11 H = bif decide (t10 ≤ t11) then t0.bind fun v11 => bif inb t10 v11.len && v11.esz == 1 then (H.get v11.id (v11.off + t10.toNat * 1)).bind fun v10 => (Cell.toInt .u64 v10).bind fun v9 => t0.bind fun v8 => bif inb t1 v8.len && v8.esz == 1 then (H.get v8.id (v8.off + t1.toNat * 1)).bind fun v7 => (Cell.toInt .u64 v7).bind fun v6 => bif cmp_Less_uint64 v9 v6 then D91_13 n t0 t1 (IntKind.i64.wrap (t10 + 1)) t11 H else some (AExit.exit 6, X91_13 t0 t1 t10 t11 H) else none else none else some (AExit.exit 6, X91_13 t0 t1 t10 t11 H) := by intros; exact (loopN_stepD hN91 _ _ _ _).trans (by kernel_rfl)
theorem D91_10013_s : ∀ (n : Nat) (t0 : SO) (t1 t10 t11 : Int) (H : Heap), D91_10013 (n + 1) t0 t1 t10 t11 H = (LL91_13 t0 t1 t10 t11 H).bind (J91_13 n) := by intros; exact (loopN_stepD hN91 _ _ _ _).trans (by kernel_rfl)
theorem J91_13_0 : ∀ (n : Nat) (x0 : SO) (x1 x2 x3 : Int) (H : Heap), J91_13 n (AExit.exit 6, X91_13 x0 x1 x2 x3 H) = (LL91_15 x0 x1 x2 x3 H).bind (J91_15 n) := by intros; kernel_rfl
theorem J91_15_0 : ∀ (n : Nat) (x0 : SO) (x1 x2 x3 : Int) (H : Heap), J91_15 n (AExit.exit 8, X91_15 x0 x1 x2 x3 H) = bif decide (x2 > x3) then some (AExit.exit 4, X91_10013 x0 x1 x3 H) else x0.bind fun v21 => bif inb x3 v21.len && v21.esz == 1 then (H.get v21.id (v21.off + x3.toNat * 1)).bind fun v20 => (Cell.toInt .u64 v20).bind fun v19 => x0.bind fun v18 => bif inb x2 v18.len && v18.esz == 1 then (H.get v18.id (v18.off + x2.toNat * 1)).bind fun v17 => (Cell.toInt .u64 v17).bind fun v16 => x0.bind fun v15 => bif inb x2 v15.len && v15.esz == 1 then (H.put v15.id (v15.off + x2.toNat * 1) [Cell.int .u64 v19]).bind fun v14 => x0.bind fun v13 => bif inb x3 v13.len && v13.esz == 1 then (v14.put v13.id (v13.off + x3.toNat * 1) [Cell.int .u64 v16]).bind fun v12 => D91_10013 n x0 x1 (IntKind.i64.wrap (x2 + 1)) (IntKind.i64.wrap (x3 - 1)) v12 else none else none else none else none := by intros; kernel_rfl
theorem D91_5_s : ∀ (n : Nat) (t0 : SO) (t1 t10 t11 : Int) (H : Heap), D91_5 (n + 1) t0 t1 t10 t11 H = bif decide (t10 ≤ t11) then t0.bind fun v27 => bif inb t11 v27.len && v27.esz == 1 then (H.get v27.id (v27.off + t11.toNat * 1)).bind fun v26 => (Cell.toInt .u64 v26).bind fun v25 => t0.bind fun v24 => bif inb t1 v24.len && v24.esz == 1 then (H.get v24.id (v24.off + t1.toNat * 1)).bind fun v23 => (Cell.toInt .u64 v23).bind fun v22 => bif !cmp_Less_uint64 v25 v22 then D91_5 n t0 t1 t10 (IntKind.i64.wrap (t11 - 1)) H else some (AExit.exit 2, X91_5 t0 t1 t10 t11 H) else none else none else some (AExit.exit 2, X91_5 t0 t1 t10 t11 H) := by intros; exact (loopN_stepD hN91 _ _ _ _).trans (by kernel_rfl)
theorem D91_3_s : ∀ (n : Nat) (t0 : SO) (t1 t10 t11 : Int) (H : Heap), D91_3 (n + 1) t0 t1 t10 t11 H = bif decide (t10 ≤ t11) then t0.bind fun v33 => bif inb t10 v33.len && v33.esz == 1 then (H.get v33.id (v33.off + t10.toNat * 1)).bind fun v32 => (Cell.toInt .u64 v32).bind fun v31 => t0.bind fun v30 => bif inb t1 v30.len && v30.esz == 1 then (H.get v30.id (v30.off + t1.toNat * 1)).bind fun v29 => (Cell.toInt .u64 v29).bind fun v28 => bif cmp_Less_uint64 v31 v28 then D91_3 n t0 t1 (IntKind.i64.wrap (t10 + 1)) t11 H else some (AExit.exit 0, X91_3 t0 t1 t10 t11 H) else none else none else some (AExit.exit 0, X91_3 t0 t1 t10 t11 H) := by intros; exact (loopN_stepD hN91 _ _ _ _).trans (by kernel_rfl)
theorem q91 : ∀ (data : SO) (a b pivot : Int) (H : Heap), f91 data a b pivot H = data.bind fun v43 => bif inb pivot v43.len && v43.esz == 1 then (H.get v43.id (v43.off + pivot.toNat * 1)).bind fun v42 => (Cell.toInt .u64 v42).bind fun v41 => data.bind fun v40 => bif inb a v40.len && v40.esz == 1 then (H.get v40.id (v40.off + a.toNat * 1)).bind fun v39 => (Cell.toInt .u64 v39).bind fun v38 => data.bind fun v37 => bif inb a v37.len && v37.esz == 1 then (H.put v37.id (v37.off + a.toNat * 1) [Cell.int .u64 v41]).bind fun v36 => data.bind fun v35 => bif inb pivot v35.len && v35.esz == 1 then (v36.put v35.id (v35.off + pivot.toNat * 1) [Cell.int .u64 v38]).bind fun v34 => (LL91_3 data a (IntKind.i64.wrap (a + 1)) (IntKind.i64.wrap (b - 1)) v34).bind J91_3 else none else none else none else none := by intros; rw [f91_eq]; exact (fnA_lpD hN91 ..).trans (by kernel_rfl)
theorem J91_3_0 : ∀ (x0 : SO) (x1 x2 x3 : Int) (H : Heap), J91_3 (AExit.exit 0, X91_3 x0 x1 x2 x3 H) = (LL91_5 x0 x1 x2 x3 H).bind J91_5 := by intros; kernel_rfl
theorem J91_5_0 : ∀ (x0 : SO) (x1 x2 x3 : Int) (H : Heap), J91_5 (AExit.exit 2, X91_5 x0 x1 x2 x3 H) = bif decide (x2 > x3) then x0.bind fun v53 => bif inb x1 v53.len && v53.esz == 1 then (H.get v53.id (v53.off + x1.toNat * 1)).bind fun v52 => (Cell.toInt .u64 v52).bind fun v51 => x0.bind fun v50 => bif inb x3 v50.len && v50.esz == 1 then (H.get v50.id (v50.off + x3.toNat * 1)).bind fun v49 => (Cell.toInt .u64 v49).bind fun v48 => x0.bind fun v47 => bif inb x3 v47.len && v47.esz == 1 then (H.put v47.id (v47.off + x3.toNat * 1) [Cell.int .u64 v51]).bind fun v46 => x0.bind fun v45 => bif inb x1 v45.len && v45.esz == 1 then (v46.put v45.id (v45.off + x1.toNat * 1) [Cell.int .u64 v48]).bind fun v44 => some ((x3, true), v44) else none else none else none else none else x0.bind fun v63 => bif inb x3 v63.len && v63.esz == 1 then (H.get v63.id (v63.off + x3.toNat * 1)).bind fun v62 => (Cell.toInt .u64 v62).bind fun v61 => x0.bind fun v60 => bif inb x2 v60.len && v60.esz == 1 then (H.get v60.id (v60.off + x2.toNat * 1)).bind fun v59 => (Cell.toInt .u64 v59).bind fun v58 => x0.bind fun v57 => bif inb x2 v57.len && v57.esz == 1 then (H.put v57.id (v57.off + x2.toNat * 1) [Cell.int .u64 v61]).bind fun v56 => x0.bind fun v55 => bif inb x3 v55.len && v55.esz == 1 then (v56.put v55.id (v55.off + x3.toNat * 1) [Cell.int .u64 v58]).bind fun v54 => (LL91_10013 x0 x1 (IntKind.i64.wrap (x2 + 1)) (IntKind.i64.wrap (x3 - 1)) v54).bind J91_10013 else none else none else none else none := by intros; kernel_rfl
theorem J91_10013_0 : ∀ (x0 : SO) (x1 x2 : Int) (H : Heap), J91_10013 (AExit.exit 4, X91_10013 x0 x1 x2 H) = x0.bind fun v73 => bif inb x1 v73.len && v73.esz == 1 then (H.get v73.id (v73.off + x1.toNat * 1)).bind fun v72 => (Cell.toInt .u64 v72).bind fun v71 => x0.bind fun v70 => bif inb x2 v70.len && v70.esz == 1 then (H.get v70.id (v70.off + x2.toNat * 1)).bind fun v69 => (Cell.toInt .u64 v69).bind fun v68 => x0.bind fun v67 => bif inb x2 v67.len && v67.esz == 1 then (H.put v67.id (v67.off + x2.toNat * 1) [Cell.int .u64 v71]).bind fun v66 => x0.bind fun v65 => bif inb x1 v65.len && v65.esz == 1 then (v66.put v65.id (v65.off + x1.toNat * 1) [Cell.int .u64 v68]).bind fun v64 => some ((x2, false), v64) else none else none else none else none := by intros; kernel_rfl
theorem ok91 : FnOk Try.prog 91 (specF enc91 (sem91 f91)) := by
  refine spec_ok (C := CC91) good91 rfl rfl rfl (by kernel_rfl) Try.func91 (c := bodyOf Try.f91) (by kernel_rfl) (by kernel_rfl) (Nat.le_of_eq Try.ntmps91.symm) dec91 enc91 de91 _ ?_
  intro args H q h
  unfold sem91 at h
  split at h
  · rw [f91_eq] at h; exact h
  · cases h
/-! 76: slices_pdqsortOrdered_uint64 -/
def enc76 (r : Unit) : List TV := []
abbrev Ty76 := SO → Int → Int → Int → Heap → Option (Unit × Heap)
def sem76 (f : Ty76) : List TV → Heap → Option (Unit × Heap)
  | [.c (Cell.slice data), .c (Cell.int .i64 a), .c (Cell.int .i64 b), .c (Cell.int .i64 limit)], H => f data a b limit H
  | _, _ => none
/-- Itself, as deep as it may call. -/
structure RC76 where
  f : Ty76
  ok : FnOk Try.prog 76 (specF enc76 (sem76 f))
section
variable (rc76 : RC76)
noncomputable def CC76 : Ctx := { P := Try.prog, own := [], fns := [(76, specF enc76 (sem76 rc76.f)), (89, F89), (91, specF enc91 (sem91 f91)), (90, specF enc90 (sem90 f90)), (88, specF enc88 (sem88 f88)), (87, specF enc87 (sem87 f87)), (86, specF enc86 (sem86 f86)), (85, specF enc85 (sem85 f85)), (84, specF enc84 (sem84 f84)), (83, specF enc83 (sem83 f83))], nt := 134, nums := [89], live := [(2, ⟨[0, 1, 2, 3, 8, 9], [], [], []⟩)] }
theorem good76 : Callees Try.prog (CC76 rc76).fns [] (CC76 rc76).nums := ((((((((((Callees.nil Try.prog).cons ok83 (specF_nat _ _)).cons ok84 (specF_nat _ _)).cons ok85 (specF_nat _ _)).cons ok86 (specF_nat _ _)).cons ok87 (specF_nat _ _)).cons ok88 (specF_nat _ _)).cons ok90 (specF_nat _ _)).cons ok91 (specF_nat _ _)).cons_num ok89 F89_num).cons rc76.ok (specF_nat _ _)
theorem hN76 : CtxNat (CC76 rc76) := (good76 rc76).ctx rfl rfl rfl
def dec76 : AV → Option (Unit)
  | .tup [] => some ()
  | _ => none
theorem de76 (v : AV) (r : Unit) (h : dec76 v = some r) : v = oneOf (enc76 r) := by
  unfold dec76 at h
  split at h
  · cases h; rfl
  · cases h
abbrev Ty76r := SO → Int → Int → Int → Heap → Option (Unit × Heap)
noncomputable def F076r : Ty76r := fun data a b limit H => fnA (CC76 rc76) Try.f76.results.toList (bodyOf Try.f76) _ [.c (Cell.slice data), .c (Cell.int .i64 a), .c (Cell.int .i64 b), .c (Cell.int .i64 limit)] H (decF dec76)
noncomputable def f76r : Ty76r := hide (F076r rc76)
theorem f76r_eq : (f76r rc76) = (F076r rc76) := hide_eq _
noncomputable def P76r_2 : Code := (Code.l (Code.l (Code.r (Code.r (bodyOf Try.f76)))))
def S76r_2 (t0 : SO) (t1 t2 t3 : Int) (t8 t9 : Bool) (H : Heap) : St := ⟨[(0, .c (Cell.slice t0)), (1, .c (Cell.int .i64 t1)), (2, .c (Cell.int .i64 t2)), (3, .c (Cell.int .i64 t3)), (8, .c (Cell.bool t8)), (9, .c (Cell.bool t9))], [], H⟩
noncomputable def D76r_2 (n : Nat) (t0 : SO) (t1 t2 t3 : Int) (t8 t9 : Bool) (H : Heap) : Option (AExit × St) := loopN (exec (CC76 rc76) P76r_2) (keepOf (CC76 rc76).live P76r_2) n (S76r_2 t0 t1 t2 t3 t8 t9 H) retD
noncomputable def LL76r_2 (t0 : SO) (t1 t2 t3 : Int) (t8 t9 : Bool) (H : Heap) : Option (AExit × St) := loopsD (CC76 rc76) P76r_2 (S76r_2 t0 t1 t2 t3 t8 t9 H)
theorem LL76r_2_of (m : Nat) (hm : m < 18446744073709551616) (t0 : SO) (t1 t2 t3 : Int) (t8 t9 : Bool) (H : Heap) : ∃ n, (LL76r_2 rc76) t0 t1 t2 t3 t8 t9 H = (D76r_2 rc76) (n + m + 1) t0 t1 t2 t3 t8 t9 H := loopsD_of _ _ _ m hm
def X76r_2 (H : Heap) : St := { env := [], loc := [], heap := H }
noncomputable def J76r_2 : AExit × St → Option (Unit × Heap) := fun p => blockK 0 (retA (CC76 rc76) [] (decF dec76)) p.1 p.2
theorem D76r_2_s : ∀ (n : Nat) (t0 : SO) (t1 t2 t3 : Int) (t8 t9 : Bool) (H : Heap), (D76r_2 rc76) (n + 1) t0 t1 t2 t3 t8 t9 H = bif decide (IntKind.i64.wrap (t2 - t1) ≤ 12) then (f83 t0 t1 t2 H).bind fun v0 => some (AExit.ret, X76r_2 v0.2) else bif t3 == 0 then (f84 t0 t1 t2 H).bind fun v1 => some (AExit.ret, X76r_2 v1.2) else bif !t8 then (f85 t0 t1 t2 H).bind fun v97 => (f86 t0 t1 t2 v97.2).bind fun v96 => bif v96.1.2 == 2 then (f87 t0 t1 t2 v96.2).bind fun v42 => bif t8 then bif t9 then (f88 t0 t1 t2 v42.2).bind fun v15 => bif v15.1 then some (AExit.ret, X76r_2 v15.2) else bif decide (t1 > 0) then t0.bind fun v11 => bif inb (IntKind.i64.wrap (t1 - 1)) v11.len && v11.esz == 1 then (v15.2.get v11.id (v11.off + (IntKind.i64.wrap (t1 - 1)).toNat * 1)).bind fun v10 => (Cell.toInt .u64 v10).bind fun v9 => t0.bind fun v8 => bif inb (IntKind.i64.wrap (IntKind.i64.wrap (t2 - 1) - IntKind.i64.wrap (v96.1.1 - t1))) v8.len && v8.esz == 1 then (v15.2.get v8.id (v8.off + (IntKind.i64.wrap (IntKind.i64.wrap (t2 - 1) - IntKind.i64.wrap (v96.1.1 - t1))).toNat * 1)).bind fun v7 => (Cell.toInt .u64 v7).bind fun v6 => bif !cmp_Less_uint64 v9 v6 then (f90 t0 t1 t2 (IntKind.i64.wrap (IntKind.i64.wrap (t2 - 1) - IntKind.i64.wrap (v96.1.1 - t1))) v15.2).bind fun v2 => (D76r_2 rc76) n t0 v2.1 t2 (IntKind.i64.wrap (t3 - 1)) t8 t9 v2.2 else (f91 t0 t1 t2 (IntKind.i64.wrap (IntKind.i64.wrap (t2 - 1) - IntKind.i64.wrap (v96.1.1 - t1))) v15.2).bind fun v5 => bif decide (IntKind.i64.wrap (v5.1.1 - t1) < IntKind.i64.wrap (t2 - v5.1.1)) then (rc76.f t0 t1 v5.1.1 (IntKind.i64.wrap (t3 - 1)) v5.2).bind fun v3 => (D76r_2 rc76) n t0 (IntKind.i64.wrap (v5.1.1 + 1)) t2 (IntKind.i64.wrap (t3 - 1)) (decide (IntKind.i64.wrap (v5.1.1 - t1) ≥ IntKind.i64.wrap ((IntKind.i64.wrap (t2 - t1)).tdiv 8))) v5.1.2 v3.2 else (rc76.f t0 (IntKind.i64.wrap (v5.1.1 + 1)) t2 (IntKind.i64.wrap (t3 - 1)) v5.2).bind fun v4 => (D76r_2 rc76) n t0 t1 v5.1.1 (IntKind.i64.wrap (t3 - 1)) (decide (IntKind.i64.wrap (t2 - v5.1.1) ≥ IntKind.i64.wrap ((IntKind.i64.wrap (t2 - t1)).tdiv 8))) v5.1.2 v4.2 else none else none else (f91 t0 t1 t2 (IntKind.i64.wrap (IntKind.i64.wrap (t2 - 1) - IntKind.i64.wrap (v96.1.1 - t1))) v15.2).bind fun v14 => bif decide (IntKind.i64.wrap (v14.1.1 - t1) < IntKind.i64.wrap (t2 - v14.1.1)) then (rc76.f t0 t1 v14.1.1 (IntKind.i64.wrap (t3 - 1)) v14.2).bind fun v12 => (D76r_2 rc76) n t0 (IntKind.i64.wrap (v14.1.1 + 1)) t2 (IntKind.i64.wrap (t3 - 1)) (decide (IntKind.i64.wrap (v14.1.1 - t1) ≥ IntKind.i64.wrap ((IntKind.i64.wrap (t2 - t1)).tdiv 8))) v14.1.2 v12.2 else (rc76.f t0 (IntKind.i64.wrap (v14.1.1 + 1)) t2 (IntKind.i64.wrap (t3 - 1)) v14.2).bind fun v13 => (D76r_2 rc76) n t0 t1 v14.1.1 (IntKind.i64.wrap (t3 - 1)) (decide (IntKind.i64.wrap (t2 - v14.1.1) ≥ IntKind.i64.wrap ((IntKind.i64.wrap (t2 - t1)).tdiv 8))) v14.1.2 v13.2 else bif decide (t1 > 0) then t0.bind fun v25 => bif inb (IntKind.i64.wrap (t1 - 1)) v25.len && v25.esz == 1 then (v42.2.get v25.id (v25.off + (IntKind.i64.wrap (t1 - 1)).toNat * 1)).bind fun v24 => (Cell.toInt .u64 v24).bind fun v23 => t0.bind fun v22 => bif inb (IntKind.i64.wrap (IntKind.i64.wrap (t2 - 1) - IntKind.i64.wrap (v96.1.1 - t1))) v22.len && v22.esz == 1 then (v42.2.get v22.id (v22.off + (IntKind.i64.wrap (IntKind.i64.wrap (t2 - 1) - IntKind.i64.wrap (v96.1.1 - t1))).toNat * 1)).bind fun v21 => (Cell.toInt .u64 v21).bind fun v20 => bif !cmp_Less_uint64 v23 v20 then (f90 t0 t1 t2 (IntKind.i64.wrap (IntKind.i64.wrap (t2 - 1) - IntKind.i64.wrap (v96.1.1 - t1))) v42.2).bind fun v16 => (D76r_2 rc76) n t0 v16.1 t2 (IntKind.i64.wrap (t3 - 1)) t8 t9 v16.2 else (f91 t0 t1 t2 (IntKind.i64.wrap (IntKind.i64.wrap (t2 - 1) - IntKind.i64.wrap (v96.1.1 - t1))) v42.2).bind fun v19 => bif decide (IntKind.i64.wrap (v19.1.1 - t1) < IntKind.i64.wrap (t2 - v19.1.1)) then (rc76.f t0 t1 v19.1.1 (IntKind.i64.wrap (t3 - 1)) v19.2).bind fun v17 => (D76r_2 rc76) n t0 (IntKind.i64.wrap (v19.1.1 + 1)) t2 (IntKind.i64.wrap (t3 - 1)) (decide (IntKind.i64.wrap (v19.1.1 - t1) ≥ IntKind.i64.wrap ((IntKind.i64.wrap (t2 - t1)).tdiv 8))) v19.1.2 v17.2 else (rc76.f t0 (IntKind.i64.wrap (v19.1.1 + 1)) t2 (IntKind.i64.wrap (t3 - 1)) v19.2).bind fun v18 => (D76r_2 rc76) n t0 t1 v19.1.1 (IntKind.i64.wrap (t3 - 1)) (decide (IntKind.i64.wrap (t2 - v19.1.1) ≥ IntKind.i64.wrap ((IntKind.i64.wrap (t2 - t1)).tdiv 8))) v19.1.2 v18.2 else none else none else (f91 t0 t1 t2 (IntKind.i64.wrap (IntKind.i64.wrap (t2 - 1) - IntKind.i64.wrap (v96.1.1 - t1))) v42.2).bind fun v28 => bif decide (IntKind.i64.wrap (v28.1.1 - t1) < IntKind.i64.wrap (t2 - v28.1.1)) then (rc76.f t0 t1 v28.1.1 (IntKind.i64.wrap (t3 - 1)) v28.2).bind fun v26 => (D76r_2 rc76) n t0 (IntKind.i64.wrap (v28.1.1 + 1)) t2 (IntKind.i64.wrap (t3 - 1)) (decide (IntKind.i64.wrap (v28.1.1 - t1) ≥ IntKind.i64.wrap ((IntKind.i64.wrap (t2 - t1)).tdiv 8))) v28.1.2 v26.2 else (rc76.f t0 (IntKind.i64.wrap (v28.1.1 + 1)) t2 (IntKind.i64.wrap (t3 - 1)) v28.2).bind fun v27 => (D76r_2 rc76) n t0 t1 v28.1.1 (IntKind.i64.wrap (t3 - 1)) (decide (IntKind.i64.wrap (t2 - v28.1.1) ≥ IntKind.i64.wrap ((IntKind.i64.wrap (t2 - t1)).tdiv 8))) v28.1.2 v27.2 else bif decide (t1 > 0) then t0.bind fun v38 => bif inb (IntKind.i64.wrap (t1 - 1)) v38.len && v38.esz == 1 then (v42.2.get v38.id (v38.off + (IntKind.i64.wrap (t1 - 1)).toNat * 1)).bind fun v37 => (Cell.toInt .u64 v37).bind fun v36 => t0.bind fun v35 => bif inb (IntKind.i64.wrap (IntKind.i64.wrap (t2 - 1) - IntKind.i64.wrap (v96.1.1 - t1))) v35.len && v35.esz == 1 then (v42.2.get v35.id (v35.off + (IntKind.i64.wrap (IntKind.i64.wrap (t2 - 1) - IntKind.i64.wrap (v96.1.1 - t1))).toNat * 1)).bind fun v34 => (Cell.toInt .u64 v34).bind fun v33 => bif !cmp_Less_uint64 v36 v33 then (f90 t0 t1 t2 (IntKind.i64.wrap (IntKind.i64.wrap (t2 - 1) - IntKind.i64.wrap (v96.1.1 - t1))) v42.2).bind fun v29 => (D76r_2 rc76) n t0 v29.1 t2 (IntKind.i64.wrap (t3 - 1)) t8 t9 v29.2 else (f91 t0 t1 t2 (IntKind.i64.wrap (IntKind.i64.wrap (t2 - 1) - IntKind.i64.wrap (v96.1.1 - t1))) v42.2).bind fun v32 => bif decide (IntKind.i64.wrap (v32.1.1 - t1) < IntKind.i64.wrap (t2 - v32.1.1)) then (rc76.f t0 t1 v32.1.1 (IntKind.i64.wrap (t3 - 1)) v32.2).bind fun v30 => (D76r_2 rc76) n t0 (IntKind.i64.wrap (v32.1.1 + 1)) t2 (IntKind.i64.wrap (t3 - 1)) (decide (IntKind.i64.wrap (v32.1.1 - t1) ≥ IntKind.i64.wrap ((IntKind.i64.wrap (t2 - t1)).tdiv 8))) v32.1.2 v30.2 else (rc76.f t0 (IntKind.i64.wrap (v32.1.1 + 1)) t2 (IntKind.i64.wrap (t3 - 1)) v32.2).bind fun v31 => (D76r_2 rc76) n t0 t1 v32.1.1 (IntKind.i64.wrap (t3 - 1)) (decide (IntKind.i64.wrap (t2 - v32.1.1) ≥ IntKind.i64.wrap ((IntKind.i64.wrap (t2 - t1)).tdiv 8))) v32.1.2 v31.2 else none else none else (f91 t0 t1 t2 (IntKind.i64.wrap (IntKind.i64.wrap (t2 - 1) - IntKind.i64.wrap (v96.1.1 - t1))) v42.2).bind fun v41 => bif decide (IntKind.i64.wrap (v41.1.1 - t1) < IntKind.i64.wrap (t2 - v41.1.1)) then (rc76.f t0 t1 v41.1.1 (IntKind.i64.wrap (t3 - 1)) v41.2).bind fun v39 => (D76r_2 rc76) n t0 (IntKind.i64.wrap (v41.1.1 + 1)) t2 (IntKind.i64.wrap (t3 - 1)) (decide (IntKind.i64.wrap (v41.1.1 - t1) ≥ IntKind.i64.wrap ((IntKind.i64.wrap (t2 - t1)).tdiv 8))) v41.1.2 v39.2 else (rc76.f t0 (IntKind.i64.wrap (v41.1.1 + 1)) t2 (IntKind.i64.wrap (t3 - 1)) v41.2).bind fun v40 => (D76r_2 rc76) n t0 t1 v41.1.1 (IntKind.i64.wrap (t3 - 1)) (decide (IntKind.i64.wrap (t2 - v41.1.1) ≥ IntKind.i64.wrap ((IntKind.i64.wrap (t2 - t1)).tdiv 8))) v41.1.2 v40.2 else bif t8 then bif t9 then bif v96.1.2 == 1 then (f88 t0 t1 t2 v96.2).bind fun v56 => bif v56.1 then some (AExit.ret, X76r_2 v56.2) else bif decide (t1 > 0) then t0.bind fun v52 => bif inb (IntKind.i64.wrap (t1 - 1)) v52.len && v52.esz == 1 then (v56.2.get v52.id (v52.off + (IntKind.i64.wrap (t1 - 1)).toNat * 1)).bind fun v51 => (Cell.toInt .u64 v51).bind fun v50 => t0.bind fun v49 => bif inb v96.1.1 v49.len && v49.esz == 1 then (v56.2.get v49.id (v49.off + v96.1.1.toNat * 1)).bind fun v48 => (Cell.toInt .u64 v48).bind fun v47 => bif !cmp_Less_uint64 v50 v47 then (f90 t0 t1 t2 v96.1.1 v56.2).bind fun v43 => (D76r_2 rc76) n t0 v43.1 t2 (IntKind.i64.wrap (t3 - 1)) t8 t9 v43.2 else (f91 t0 t1 t2 v96.1.1 v56.2).bind fun v46 => bif decide (IntKind.i64.wrap (v46.1.1 - t1) < IntKind.i64.wrap (t2 - v46.1.1)) then (rc76.f t0 t1 v46.1.1 (IntKind.i64.wrap (t3 - 1)) v46.2).bind fun v44 => (D76r_2 rc76) n t0 (IntKind.i64.wrap (v46.1.1 + 1)) t2 (IntKind.i64.wrap (t3 - 1)) (decide (IntKind.i64.wrap (v46.1.1 - t1) ≥ IntKind.i64.wrap ((IntKind.i64.wrap (t2 - t1)).tdiv 8))) v46.1.2 v44.2 else (rc76.f t0 (IntKind.i64.wrap (v46.1.1 + 1)) t2 (IntKind.i64.wrap (t3 - 1)) v46.2).bind fun v45 => (D76r_2 rc76) n t0 t1 v46.1.1 (IntKind.i64.wrap (t3 - 1)) (decide (IntKind.i64.wrap (t2 - v46.1.1) ≥ IntKind.i64.wrap ((IntKind.i64.wrap (t2 - t1)).tdiv 8))) v46.1.2 v45.2 else none else none else (f91 t0 t1 t2 v96.1.1 v56.2).bind fun v55 => bif decide (IntKind.i64.wrap (v55.1.1 - t1) < IntKind.i64.wrap (t2 - v55.1.1)) then (rc76.f t0 t1 v55.1.1 (IntKind.i64.wrap (t3 - 1)) v55.2).bind fun v53 => (D76r_2 rc76) n t0 (IntKind.i64.wrap (v55.1.1 + 1)) t2 (IntKind.i64.wrap (t3 - 1)) (decide (IntKind.i64.wrap (v55.1.1 - t1) ≥ IntKind.i64.wrap ((IntKind.i64.wrap (t2 - t1)).tdiv 8))) v55.1.2 v53.2 else (rc76.f t0 (IntKind.i64.wrap (v55.1.1 + 1)) t2 (IntKind.i64.wrap (t3 - 1)) v55.2).bind fun v54 => (D76r_2 rc76) n t0 t1 v55.1.1 (IntKind.i64.wrap (t3 - 1)) (decide (IntKind.i64.wrap (t2 - v55.1.1) ≥ IntKind.i64.wrap ((IntKind.i64.wrap (t2 - t1)).tdiv 8))) v55.1.2 v54.2 else bif decide (t1 > 0) then t0.bind fun v66 => bif inb (IntKind.i64.wrap (t1 - 1)) v66.len && v66.esz == 1 then (v96.2.get v66.id (v66.off + (IntKind.i64.wrap (t1 - 1)).toNat * 1)).bind fun v65 => (Cell.toInt .u64 v65).bind fun v64 => t0.bind fun v63 => bif inb v96.1.1 v63.len && v63.esz == 1 then (v96.2.get v63.id (v63.off + v96.1.1.toNat * 1)).bind fun v62 => (Cell.toInt .u64 v62).bind fun v61 => bif !cmp_Less_uint64 v64 v61 then (f90 t0 t1 t2 v96.1.1 v96.2).bind fun v57 => (D76r_2 rc76) n t0 v57.1 t2 (IntKind.i64.wrap (t3 - 1)) t8 t9 v57.2 else (f91 t0 t1 t2 v96.1.1 v96.2).bind fun v60 => bif decide (IntKind.i64.wrap (v60.1.1 - t1) < IntKind.i64.wrap (t2 - v60.1.1)) then (rc76.f t0 t1 v60.1.1 (IntKind.i64.wrap (t3 - 1)) v60.2).bind fun v58 => (D76r_2 rc76) n t0 (IntKind.i64.wrap (v60.1.1 + 1)) t2 (IntKind.i64.wrap (t3 - 1)) (decide (IntKind.i64.wrap (v60.1.1 - t1) ≥ IntKind.i64.wrap ((IntKind.i64.wrap (t2 - t1)).tdiv 8))) v60.1.2 v58.2 else (rc76.f t0 (IntKind.i64.wrap (v60.1.1 + 1)) t2 (IntKind.i64.wrap (t3 - 1)) v60.2).bind fun v59 => (D76r_2 rc76) n t0 t1 v60.1.1 (IntKind.i64.wrap (t3 - 1)) (decide (IntKind.i64.wrap (t2 - v60.1.1) ≥ IntKind.i64.wrap ((IntKind.i64.wrap (t2 - t1)).tdiv 8))) v60.1.2 v59.2 else none else none else (f91 t0 t1 t2 v96.1.1 v96.2).bind fun v69 => bif decide (IntKind.i64.wrap (v69.1.1 - t1) < IntKind.i64.wrap (t2 - v69.1.1)) then (rc76.f t0 t1 v69.1.1 (IntKind.i64.wrap (t3 - 1)) v69.2).bind fun v67 => (D76r_2 rc76) n t0 (IntKind.i64.wrap (v69.1.1 + 1)) t2 (IntKind.i64.wrap (t3 - 1)) (decide (IntKind.i64.wrap (v69.1.1 - t1) ≥ IntKind.i64.wrap ((IntKind.i64.wrap (t2 - t1)).tdiv 8))) v69.1.2 v67.2 else (rc76.f t0 (IntKind.i64.wrap (v69.1.1 + 1)) t2 (IntKind.i64.wrap (t3 - 1)) v69.2).bind fun v68 => (D76r_2 rc76) n t0 t1 v69.1.1 (IntKind.i64.wrap (t3 - 1)) (decide (IntKind.i64.wrap (t2 - v69.1.1) ≥ IntKind.i64.wrap ((IntKind.i64.wrap (t2 - t1)).tdiv 8))) v69.1.2 v68.2 else bif decide (t1 > 0) then t0.bind fun v79 => bif inb (IntKind.i64.wrap (t1 - 1)) v79.len && v79.esz == 1 then (v96.2.get v79.id (v79.off + (IntKind.i64.wrap (t1 - 1)).toNat * 1)).bind fun v78 => (Cell.toInt .u64 v78).bind fun v77 => t0.bind fun v76 => bif inb v96.1.1 v76.len && v76.esz == 1 then (v96.2.get v76.id (v76.off + v96.1.1.toNat * 1)).bind fun v75 => (Cell.toInt .u64 v75).bind fun v74 => bif !cmp_Less_uint64 v77 v74 then (f90 t0 t1 t2 v96.1.1 v96.2).bind fun v70 => (D76r_2 rc76) n t0 v70.1 t2 (IntKind.i64.wrap (t3 - 1)) t8 t9 v70.2 else (f91 t0 t1 t2 v96.1.1 v96.2).bind fun v73 => bif decide (IntKind.i64.wrap (v73.1.1 - t1) < IntKind.i64.wrap (t2 - v73.1.1)) then (rc76.f t0 t1 v73.1.1 (IntKind.i64.wrap (t3 - 1)) v73.2).bind fun v71 => (D76r_2 rc76) n t0 (IntKind.i64.wrap (v73.1.1 + 1)) t2 (IntKind.i64.wrap (t3 - 1)) (decide (IntKind.i64.wrap (v73.1.1 - t1) ≥ IntKind.i64.wrap ((IntKind.i64.wrap (t2 - t1)).tdiv 8))) v73.1.2 v71.2 else (rc76.f t0 (IntKind.i64.wrap (v73.1.1 + 1)) t2 (IntKind.i64.wrap (t3 - 1)) v73.2).bind fun v72 => (D76r_2 rc76) n t0 t1 v73.1.1 (IntKind.i64.wrap (t3 - 1)) (decide (IntKind.i64.wrap (t2 - v73.1.1) ≥ IntKind.i64.wrap ((IntKind.i64.wrap (t2 - t1)).tdiv 8))) v73.1.2 v72.2 else none else none else (f91 t0 t1 t2 v96.1.1 v96.2).bind fun v82 => bif decide (IntKind.i64.wrap (v82.1.1 - t1) < IntKind.i64.wrap (t2 - v82.1.1)) then (rc76.f t0 t1 v82.1.1 (IntKind.i64.wrap (t3 - 1)) v82.2).bind fun v80 => (D76r_2 rc76) n t0 (IntKind.i64.wrap (v82.1.1 + 1)) t2 (IntKind.i64.wrap (t3 - 1)) (decide (IntKind.i64.wrap (v82.1.1 - t1) ≥ IntKind.i64.wrap ((IntKind.i64.wrap (t2 - t1)).tdiv 8))) v82.1.2 v80.2 else (rc76.f t0 (IntKind.i64.wrap (v82.1.1 + 1)) t2 (IntKind.i64.wrap (t3 - 1)) v82.2).bind fun v81 => (D76r_2 rc76) n t0 t1 v82.1.1 (IntKind.i64.wrap (t3 - 1)) (decide (IntKind.i64.wrap (t2 - v82.1.1) ≥ IntKind.i64.wrap ((IntKind.i64.wrap (t2 - t1)).tdiv 8))) v82.1.2 v81.2 else bif decide (t1 > 0) then t0.bind fun v92 => bif inb (IntKind.i64.wrap (t1 - 1)) v92.len && v92.esz == 1 then (v96.2.get v92.id (v92.off + (IntKind.i64.wrap (t1 - 1)).toNat * 1)).bind fun v91 => (Cell.toInt .u64 v91).bind fun v90 => t0.bind fun v89 => bif inb v96.1.1 v89.len && v89.esz == 1 then (v96.2.get v89.id (v89.off + v96.1.1.toNat * 1)).bind fun v88 => (Cell.toInt .u64 v88).bind fun v87 => bif !cmp_Less_uint64 v90 v87 then (f90 t0 t1 t2 v96.1.1 v96.2).bind fun v83 => (D76r_2 rc76) n t0 v83.1 t2 (IntKind.i64.wrap (t3 - 1)) t8 t9 v83.2 else (f91 t0 t1 t2 v96.1.1 v96.2).bind fun v86 => bif decide (IntKind.i64.wrap (v86.1.1 - t1) < IntKind.i64.wrap (t2 - v86.1.1)) then (rc76.f t0 t1 v86.1.1 (IntKind.i64.wrap (t3 - 1)) v86.2).bind fun v84 => (D76r_2 rc76) n t0 (IntKind.i64.wrap (v86.1.1 + 1)) t2 (IntKind.i64.wrap (t3 - 1)) (decide (IntKind.i64.wrap (v86.1.1 - t1) ≥ IntKind.i64.wrap ((IntKind.i64.wrap (t2 - t1)).tdiv 8))) v86.1.2 v84.2 else (rc76.f t0 (IntKind.i64.wrap (v86.1.1 + 1)) t2 (IntKind.i64.wrap (t3 - 1)) v86.2).bind fun v85 => (D76r_2 rc76) n t0 t1 v86.1.1 (IntKind.i64.wrap (t3 - 1)) (decide (IntKind.i64.wrap (t2 - v86.1.1) ≥ IntKind.i64.wrap ((IntKind.i64.wrap (t2 - t1)).tdiv 8))) v86.1.2 v85.2 else none else none else (f91 t0 t1 t2 v96.1.1 v96.2).bind fun v95 => bif decide (IntKind.i64.wrap (v95.1.1 - t1) < IntKind.i64.wrap (t2 - v95.1.1)) then (rc76.f t0 t1 v95.1.1 (IntKind.i64.wrap (t3 - 1)) v95.2).bind fun v93 => (D76r_2 rc76) n t0 (IntKind.i64.wrap (v95.1.1 + 1)) t2 (IntKind.i64.wrap (t3 - 1)) (decide (IntKind.i64.wrap (v95.1.1 - t1) ≥ IntKind.i64.wrap ((IntKind.i64.wrap (t2 - t1)).tdiv 8))) v95.1.2 v93.2 else (rc76.f t0 (IntKind.i64.wrap (v95.1.1 + 1)) t2 (IntKind.i64.wrap (t3 - 1)) v95.2).bind fun v94 => (D76r_2 rc76) n t0 t1 v95.1.1 (IntKind.i64.wrap (t3 - 1)) (decide (IntKind.i64.wrap (t2 - v95.1.1) ≥ IntKind.i64.wrap ((IntKind.i64.wrap (t2 - t1)).tdiv 8))) v95.1.2 v94.2 else (f86 t0 t1 t2 H).bind fun v192 => bif v192.1.2 == 2 then (f87 t0 t1 t2 v192.2).bind fun v138 => bif t8 then bif t9 then (f88 t0 t1 t2 v138.2).bind fun v111 => bif v111.1 then some (AExit.ret, X76r_2 v111.2) else bif decide (t1 > 0) then t0.bind fun v107 => bif inb (IntKind.i64.wrap (t1 - 1)) v107.len && v107.esz == 1 then (v111.2.get v107.id (v107.off + (IntKind.i64.wrap (t1 - 1)).toNat * 1)).bind fun v106 => (Cell.toInt .u64 v106).bind fun v105 => t0.bind fun v104 => bif inb (IntKind.i64.wrap (IntKind.i64.wrap (t2 - 1) - IntKind.i64.wrap (v192.1.1 - t1))) v104.len && v104.esz == 1 then (v111.2.get v104.id (v104.off + (IntKind.i64.wrap (IntKind.i64.wrap (t2 - 1) - IntKind.i64.wrap (v192.1.1 - t1))).toNat * 1)).bind fun v103 => (Cell.toInt .u64 v103).bind fun v102 => bif !cmp_Less_uint64 v105 v102 then (f90 t0 t1 t2 (IntKind.i64.wrap (IntKind.i64.wrap (t2 - 1) - IntKind.i64.wrap (v192.1.1 - t1))) v111.2).bind fun v98 => (D76r_2 rc76) n t0 v98.1 t2 t3 t8 t9 v98.2 else (f91 t0 t1 t2 (IntKind.i64.wrap (IntKind.i64.wrap (t2 - 1) - IntKind.i64.wrap (v192.1.1 - t1))) v111.2).bind fun v101 => bif decide (IntKind.i64.wrap (v101.1.1 - t1) < IntKind.i64.wrap (t2 - v101.1.1)) then (rc76.f t0 t1 v101.1.1 t3 v101.2).bind fun v99 => (D76r_2 rc76) n t0 (IntKind.i64.wrap (v101.1.1 + 1)) t2 t3 (decide (IntKind.i64.wrap (v101.1.1 - t1) ≥ IntKind.i64.wrap ((IntKind.i64.wrap (t2 - t1)).tdiv 8))) v101.1.2 v99.2 else (rc76.f t0 (IntKind.i64.wrap (v101.1.1 + 1)) t2 t3 v101.2).bind fun v100 => (D76r_2 rc76) n t0 t1 v101.1.1 t3 (decide (IntKind.i64.wrap (t2 - v101.1.1) ≥ IntKind.i64.wrap ((IntKind.i64.wrap (t2 - t1)).tdiv 8))) v101.1.2 v100.2 else none else none else (f91 t0 t1 t2 (IntKind.i64.wrap (IntKind.i64.wrap (t2 - 1) - IntKind.i64.wrap (v192.1.1 - t1))) v111.2).bind fun v110 => bif decide (IntKind.i64.wrap (v110.1.1 - t1) < IntKind.i64.wrap (t2 - v110.1.1)) then (rc76.f t0 t1 v110.1.1 t3 v110.2).bind fun v108 => (D76r_2 rc76) n t0 (IntKind.i64.wrap (v110.1.1 + 1)) t2 t3 (decide (IntKind.i64.wrap (v110.1.1 - t1) ≥ IntKind.i64.wrap ((IntKind.i64.wrap (t2 - t1)).tdiv 8))) v110.1.2 v108.2 else (rc76.f t0 (IntKind.i64.wrap (v110.1.1 + 1)) t2 t3 v110.2).bind fun v109 => (D76r_2 rc76) n t0 t1 v110.1.1 t3 (decide (IntKind.i64.wrap (t2 - v110.1.1) ≥ IntKind.i64.wrap ((IntKind.i64.wrap (t2 - t1)).tdiv 8))) v110.1.2 v109.2 else bif decide (t1 > 0) then t0.bind fun v121 => bif inb (IntKind.i64.wrap (t1 - 1)) v121.len && v121.esz == 1 then (v138.2.get v121.id (v121.off + (IntKind.i64.wrap (t1 - 1)).toNat * 1)).bind fun v120 => (Cell.toInt .u64 v120).bind fun v119 => t0.bind fun v118 => bif inb (IntKind.i64.wrap (IntKind.i64.wrap (t2 - 1) - IntKind.i64.wrap (v192.1.1 - t1))) v118.len && v118.esz == 1 then (v138.2.get v118.id (v118.off + (IntKind.i64.wrap (IntKind.i64.wrap (t2 - 1) - IntKind.i64.wrap (v192.1.1 - t1))).toNat * 1)).bind fun v117 => (Cell.toInt .u64 v117).bind fun v116 => bif !cmp_Less_uint64 v119 v116 then (f90 t0 t1 t2 (IntKind.i64.wrap (IntKind.i64.wrap (t2 - 1) - IntKind.i64.wrap (v192.1.1 - t1))) v138.2).bind fun v112 => (D76r_2 rc76) n t0 v112.1 t2 t3 t8 t9 v112.2 else (f91 t0 t1 t2 (IntKind.i64.wrap (IntKind.i64.wrap (t2 - 1) - IntKind.i64.wrap (v192.1.1 - t1))) v138.2).bind fun v115 => bif decide (IntKind.i64.wrap (v115.1.1 - t1) < IntKind.i64.wrap (t2 - v115.1.1)) then (rc76.f t0 t1 v115.1.1 t3 v115.2).bind fun v113 => (D76r_2 rc76) n t0 (IntKind.i64.wrap (v115.1.1 + 1)) t2 t3 (decide (IntKind.i64.wrap (v115.1.1 - t1) ≥ IntKind.i64.wrap ((IntKind.i64.wrap (t2 - t1)).tdiv 8))) v115.1.2 v113.2 else (rc76.f t0 (IntKind.i64.wrap (v115.1.1 + 1)) t2 t3 v115.2).bind fun v114 => (D76r_2 rc76) n t0 t1 v115.1.1 t3 (decide (IntKind.i64.wrap (t2 - v115.1.1) ≥ IntKind.i64.wrap ((IntKind.i64.wrap (t2 - t1)).tdiv 8))) v115.1.2 v114.2 else none else none else (f91 t0 t1 t2 (IntKind.i64.wrap (IntKind.i64.wrap (t2 - 1) - IntKind.i64.wrap (v192.1.1 - t1))) v138.2).bind fun v124 => bif decide (IntKind.i64.wrap (v124.1.1 - t1) < IntKind.i64.wrap (t2 - v124.1.1)) then (rc76.f t0 t1 v124.1.1 t3 v124.2).bind fun v122 => (D76r_2 rc76) n t0 (IntKind.i64.wrap (v124.1.1 + 1)) t2 t3 (decide (IntKind.i64.wrap (v124.1.1 - t1) ≥ IntKind.i64.wrap ((IntKind.i64.wrap (t2 - t1)).tdiv 8))) v124.1.2 v122.2 else (rc76.f t0 (IntKind.i64.wrap (v124.1.1 + 1)) t2 t3 v124.2).bind fun v123 => (D76r_2 rc76) n t0 t1 v124.1.1 t3 (decide (IntKind.i64.wrap (t2 - v124.1.1) ≥ IntKind.i64.wrap ((IntKind.i64.wrap (t2 - t1)).tdiv 8))) v124.1.2 v123.2 else bif decide (t1 > 0) then t0.bind fun v134 => bif inb (IntKind.i64.wrap (t1 - 1)) v134.len && v134.esz == 1 then (v138.2.get v134.id (v134.off + (IntKind.i64.wrap (t1 - 1)).toNat * 1)).bind fun v133 => (Cell.toInt .u64 v133).bind fun v132 => t0.bind fun v131 => bif inb (IntKind.i64.wrap (IntKind.i64.wrap (t2 - 1) - IntKind.i64.wrap (v192.1.1 - t1))) v131.len && v131.esz == 1 then (v138.2.get v131.id (v131.off + (IntKind.i64.wrap (IntKind.i64.wrap (t2 - 1) - IntKind.i64.wrap (v192.1.1 - t1))).toNat * 1)).bind fun v130 => (Cell.toInt .u64 v130).bind fun v129 => bif !cmp_Less_uint64 v132 v129 then (f90 t0 t1 t2 (IntKind.i64.wrap (IntKind.i64.wrap (t2 - 1) - IntKind.i64.wrap (v192.1.1 - t1))) v138.2).bind fun v125 => (D76r_2 rc76) n t0 v125.1 t2 t3 t8 t9 v125.2 else (f91 t0 t1 t2 (IntKind.i64.wrap (IntKind.i64.wrap (t2 - 1) - IntKind.i64.wrap (v192.1.1 - t1))) v138.2).bind fun v128 => bif decide (IntKind.i64.wrap (v128.1.1 - t1) < IntKind.i64.wrap (t2 - v128.1.1)) then (rc76.f t0 t1 v128.1.1 t3 v128.2).bind fun v126 => (D76r_2 rc76) n t0 (IntKind.i64.wrap (v128.1.1 + 1)) t2 t3 (decide (IntKind.i64.wrap (v128.1.1 - t1) ≥ IntKind.i64.wrap ((IntKind.i64.wrap (t2 - t1)).tdiv 8))) v128.1.2 v126.2 else (rc76.f t0 (IntKind.i64.wrap (v128.1.1 + 1)) t2 t3 v128.2).bind fun v127 => (D76r_2 rc76) n t0 t1 v128.1.1 t3 (decide (IntKind.i64.wrap (t2 - v128.1.1) ≥ IntKind.i64.wrap ((IntKind.i64.wrap (t2 - t1)).tdiv 8))) v128.1.2 v127.2 else none else none else (f91 t0 t1 t2 (IntKind.i64.wrap (IntKind.i64.wrap (t2 - 1) - IntKind.i64.wrap (v192.1.1 - t1))) v138.2).bind fun v137 => bif decide (IntKind.i64.wrap (v137.1.1 - t1) < IntKind.i64.wrap (t2 - v137.1.1)) then (rc76.f t0 t1 v137.1.1 t3 v137.2).bind fun v135 => (D76r_2 rc76) n t0 (IntKind.i64.wrap (v137.1.1 + 1)) t2 t3 (decide (IntKind.i64.wrap (v137.1.1 - t1) ≥ IntKind.i64.wrap ((IntKind.i64.wrap (t2 - t1)).tdiv 8))) v137.1.2 v135.2 else (rc76.f t0 (IntKind.i64.wrap (v137.1.1 + 1)) t2 t3 v137.2).bind fun v136 => (D76r_2 rc76) n t0 t1 v137.1.1 t3 (decide (IntKind.i64.wrap (t2 - v137.1.1) ≥ IntKind.i64.wrap ((IntKind.i64.wrap (t2 - t1)).tdiv 8))) v137.1.2 v136.2 else bif t8 then bif t9 then bif v192.1.2 == 1 then (f88 t0 t1 t2 v192.2).bind fun v152 => bif v152.1 then some (AExit.ret, X76r_2 v152.2) else bif decide (t1 > 0) then t0.bind fun v148 => bif inb (IntKind.i64.wrap (t1 - 1)) v148.len && v148.esz == 1 then (v152.2.get v148.id (v148.off + (IntKind.i64.wrap (t1 - 1)).toNat * 1)).bind fun v147 => (Cell.toInt .u64 v147).bind fun v146 => t0.bind fun v145 => bif inb v192.1.1 v145.len && v145.esz == 1 then (v152.2.get v145.id (v145.off + v192.1.1.toNat * 1)).bind fun v144 => (Cell.toInt .u64 v144).bind fun v143 => bif !cmp_Less_uint64 v146 v143 then (f90 t0 t1 t2 v192.1.1 v152.2).bind fun v139 => (D76r_2 rc76) n t0 v139.1 t2 t3 t8 t9 v139.2 else (f91 t0 t1 t2 v192.1.1 v152.2).bind fun v142 => bif decide (IntKind.i64.wrap (v142.1.1 - t1) < IntKind.i64.wrap (t2 - v142.1.1)) then (rc76.f t0 t1 v142.1.1 t3 v142.2).bind fun v140 => (D76r_2 rc76) n t0 (IntKind.i64.wrap (v142.1.1 + 1)) t2 t3 (decide (IntKind.i64.wrap (v142.1.1 - t1) ≥ IntKind.i64.wrap ((IntKind.i64.wrap (t2 - t1)).tdiv 8))) v142.1.2 v140.2 else (rc76.f t0 (IntKind.i64.wrap (v142.1.1 + 1)) t2 t3 v142.2).bind fun v141 => (D76r_2 rc76) n t0 t1 v142.1.1 t3 (decide (IntKind.i64.wrap (t2 - v142.1.1) ≥ IntKind.i64.wrap ((IntKind.i64.wrap (t2 - t1)).tdiv 8))) v142.1.2 v141.2 else none else none else (f91 t0 t1 t2 v192.1.1 v152.2).bind fun v151 => bif decide (IntKind.i64.wrap (v151.1.1 - t1) < IntKind.i64.wrap (t2 - v151.1.1)) then (rc76.f t0 t1 v151.1.1 t3 v151.2).bind fun v149 => (D76r_2 rc76) n t0 (IntKind.i64.wrap (v151.1.1 + 1)) t2 t3 (decide (IntKind.i64.wrap (v151.1.1 - t1) ≥ IntKind.i64.wrap ((IntKind.i64.wrap (t2 - t1)).tdiv 8))) v151.1.2 v149.2 else (rc76.f t0 (IntKind.i64.wrap (v151.1.1 + 1)) t2 t3 v151.2).bind fun v150 => (D76r_2 rc76) n t0 t1 v151.1.1 t3 (decide (IntKind.i64.wrap (t2 - v151.1.1) ≥ IntKind.i64.wrap ((IntKind.i64.wrap (t2 - t1)).tdiv 8))) v151.1.2 v150.2 else bif decide (t1 > 0) then t0.bind fun v162 => bif inb (IntKind.i64.wrap (t1 - 1)) v162.len && v162.esz == 1 then (v192.2.get v162.id (v162.off + (IntKind.i64.wrap (t1 - 1)).toNat * 1)).bind fun v161 => (Cell.toInt .u64 v161).bind fun v160 => t0.bind fun v159 => bif inb v192.1.1 v159.len && v159.esz == 1 then (v192.2.get v159.id (v159.off + v192.1.1.toNat * 1)).bind fun v158 => (Cell.toInt .u64 v158).bind fun v157 => bif !cmp_Less_uint64 v160 v157 then (f90 t0 t1 t2 v192.1.1 v192.2).bind fun v153 => (D76r_2 rc76) n t0 v153.1 t2 t3 t8 t9 v153.2 else (f91 t0 t1 t2 v192.1.1 v192.2).bind fun v156 => bif decide (IntKind.i64.wrap (v156.1.1 - t1) < IntKind.i64.wrap (t2 - v156.1.1)) then (rc76.f t0 t1 v156.1.1 t3 v156.2).bind fun v154 => (D76r_2 rc76) n t0 (IntKind.i64.wrap (v156.1.1 + 1)) t2 t3 (decide (IntKind.i64.wrap (v156.1.1 - t1) ≥ IntKind.i64.wrap ((IntKind.i64.wrap (t2 - t1)).tdiv 8))) v156.1.2 v154.2 else (rc76.f t0 (IntKind.i64.wrap (v156.1.1 + 1)) t2 t3 v156.2).bind fun v155 => (D76r_2 rc76) n t0 t1 v156.1.1 t3 (decide (IntKind.i64.wrap (t2 - v156.1.1) ≥ IntKind.i64.wrap ((IntKind.i64.wrap (t2 - t1)).tdiv 8))) v156.1.2 v155.2 else none else none else (f91 t0 t1 t2 v192.1.1 v192.2).bind fun v165 => bif decide (IntKind.i64.wrap (v165.1.1 - t1) < IntKind.i64.wrap (t2 - v165.1.1)) then (rc76.f t0 t1 v165.1.1 t3 v165.2).bind fun v163 => (D76r_2 rc76) n t0 (IntKind.i64.wrap (v165.1.1 + 1)) t2 t3 (decide (IntKind.i64.wrap (v165.1.1 - t1) ≥ IntKind.i64.wrap ((IntKind.i64.wrap (t2 - t1)).tdiv 8))) v165.1.2 v163.2 else (rc76.f t0 (IntKind.i64.wrap (v165.1.1 + 1)) t2 t3 v165.2).bind fun v164 => (D76r_2 rc76) n t0 t1 v165.1.1 t3 (decide (IntKind.i64.wrap (t2 - v165.1.1) ≥ IntKind.i64.wrap ((IntKind.i64.wrap (t2 - t1)).tdiv 8))) v165.1.2 v164.2 else bif decide (t1 > 0) then t0.bind fun v175 => bif inb (IntKind.i64.wrap (t1 - 1)) v175.len && v175.esz == 1 then (v192.2.get v175.id (v175.off + (IntKind.i64.wrap (t1 - 1)).toNat * 1)).bind fun v174 => (Cell.toInt .u64 v174).bind fun v173 => t0.bind fun v172 => bif inb v192.1.1 v172.len && v172.esz == 1 then (v192.2.get v172.id (v172.off + v192.1.1.toNat * 1)).bind fun v171 => (Cell.toInt .u64 v171).bind fun v170 => bif !cmp_Less_uint64 v173 v170 then (f90 t0 t1 t2 v192.1.1 v192.2).bind fun v166 => (D76r_2 rc76) n t0 v166.1 t2 t3 t8 t9 v166.2 else (f91 t0 t1 t2 v192.1.1 v192.2).bind fun v169 => bif decide (IntKind.i64.wrap (v169.1.1 - t1) < IntKind.i64.wrap (t2 - v169.1.1)) then (rc76.f t0 t1 v169.1.1 t3 v169.2).bind fun v167 => (D76r_2 rc76) n t0 (IntKind.i64.wrap (v169.1.1 + 1)) t2 t3 (decide (IntKind.i64.wrap (v169.1.1 - t1) ≥ IntKind.i64.wrap ((IntKind.i64.wrap (t2 - t1)).tdiv 8))) v169.1.2 v167.2 else (rc76.f t0 (IntKind.i64.wrap (v169.1.1 + 1)) t2 t3 v169.2).bind fun v168 => (D76r_2 rc76) n t0 t1 v169.1.1 t3 (decide (IntKind.i64.wrap (t2 - v169.1.1) ≥ IntKind.i64.wrap ((IntKind.i64.wrap (t2 - t1)).tdiv 8))) v169.1.2 v168.2 else none else none else (f91 t0 t1 t2 v192.1.1 v192.2).bind fun v178 => bif decide (IntKind.i64.wrap (v178.1.1 - t1) < IntKind.i64.wrap (t2 - v178.1.1)) then (rc76.f t0 t1 v178.1.1 t3 v178.2).bind fun v176 => (D76r_2 rc76) n t0 (IntKind.i64.wrap (v178.1.1 + 1)) t2 t3 (decide (IntKind.i64.wrap (v178.1.1 - t1) ≥ IntKind.i64.wrap ((IntKind.i64.wrap (t2 - t1)).tdiv 8))) v178.1.2 v176.2 else (rc76.f t0 (IntKind.i64.wrap (v178.1.1 + 1)) t2 t3 v178.2).bind fun v177 => (D76r_2 rc76) n t0 t1 v178.1.1 t3 (decide (IntKind.i64.wrap (t2 - v178.1.1) ≥ IntKind.i64.wrap ((IntKind.i64.wrap (t2 - t1)).tdiv 8))) v178.1.2 v177.2 else bif decide (t1 > 0) then t0.bind fun v188 => bif inb (IntKind.i64.wrap (t1 - 1)) v188.len && v188.esz == 1 then (v192.2.get v188.id (v188.off + (IntKind.i64.wrap (t1 - 1)).toNat * 1)).bind fun v187 => (Cell.toInt .u64 v187).bind fun v186 => t0.bind fun v185 => bif inb v192.1.1 v185.len && v185.esz == 1 then (v192.2.get v185.id (v185.off + v192.1.1.toNat * 1)).bind fun v184 => (Cell.toInt .u64 v184).bind fun v183 => bif !cmp_Less_uint64 v186 v183 then (f90 t0 t1 t2 v192.1.1 v192.2).bind fun v179 => (D76r_2 rc76) n t0 v179.1 t2 t3 t8 t9 v179.2 else (f91 t0 t1 t2 v192.1.1 v192.2).bind fun v182 => bif decide (IntKind.i64.wrap (v182.1.1 - t1) < IntKind.i64.wrap (t2 - v182.1.1)) then (rc76.f t0 t1 v182.1.1 t3 v182.2).bind fun v180 => (D76r_2 rc76) n t0 (IntKind.i64.wrap (v182.1.1 + 1)) t2 t3 (decide (IntKind.i64.wrap (v182.1.1 - t1) ≥ IntKind.i64.wrap ((IntKind.i64.wrap (t2 - t1)).tdiv 8))) v182.1.2 v180.2 else (rc76.f t0 (IntKind.i64.wrap (v182.1.1 + 1)) t2 t3 v182.2).bind fun v181 => (D76r_2 rc76) n t0 t1 v182.1.1 t3 (decide (IntKind.i64.wrap (t2 - v182.1.1) ≥ IntKind.i64.wrap ((IntKind.i64.wrap (t2 - t1)).tdiv 8))) v182.1.2 v181.2 else none else none else (f91 t0 t1 t2 v192.1.1 v192.2).bind fun v191 => bif decide (IntKind.i64.wrap (v191.1.1 - t1) < IntKind.i64.wrap (t2 - v191.1.1)) then (rc76.f t0 t1 v191.1.1 t3 v191.2).bind fun v189 => (D76r_2 rc76) n t0 (IntKind.i64.wrap (v191.1.1 + 1)) t2 t3 (decide (IntKind.i64.wrap (v191.1.1 - t1) ≥ IntKind.i64.wrap ((IntKind.i64.wrap (t2 - t1)).tdiv 8))) v191.1.2 v189.2 else (rc76.f t0 (IntKind.i64.wrap (v191.1.1 + 1)) t2 t3 v191.2).bind fun v190 => (D76r_2 rc76) n t0 t1 v191.1.1 t3 (decide (IntKind.i64.wrap (t2 - v191.1.1) ≥ IntKind.i64.wrap ((IntKind.i64.wrap (t2 - t1)).tdiv 8))) v191.1.2 v190.2 := by intros; exact (loopN_stepD (hN76 rc76) _ _ _ _).trans (by kernel_rfl)
theorem q76r : ∀ (data : SO) (a b limit : Int) (H : Heap), (f76r rc76) data a b limit H = ((LL76r_2 rc76) data a b limit true true H).bind (J76r_2 rc76) := by intros; rw [(f76r_eq rc76)]; exact (fnA_lpD (hN76 rc76) ..).trans (by kernel_rfl)
theorem J76r_2_0 : ∀ (H : Heap), (J76r_2 rc76) (AExit.ret, X76r_2 H) = some ((), H) := by intros; kernel_rfl
theorem ok76r : FnOk Try.prog 76 (specF enc76 (sem76 (f76r rc76))) := by
  refine spec_ok (C := (CC76 rc76)) (good76 rc76) rfl rfl rfl (by kernel_rfl) Try.func76 (c := bodyOf Try.f76) (by kernel_rfl) (by kernel_rfl) (Nat.le_of_eq Try.ntmps76.symm) dec76 enc76 de76 _ ?_
  intro args H q h
  unfold sem76 at h
  split at h
  · rw [(f76r_eq rc76)] at h; exact h
  · cases h
end
/-- So often. -/
noncomputable def lv76 : Nat → RC76
  | 0 => ⟨fun _ _ _ _ _ => none, fun R args H K r h => by
    unfold specF sem76 at h
    split at h <;> cases h⟩
  | n + 1 => ⟨f76r (lv76 n), ok76r (lv76 n)⟩
noncomputable def f76 : Ty76 := hide (lv76 1048576).f
theorem f76_lv : f76 = (lv76 1048576).f := by unfold f76; rw [hide_eq]
theorem ok76 : FnOk Try.prog 76 (specF enc76 (sem76 f76)) := by rw [f76_lv]; exact (lv76 1048576).ok
/-! 61: slices_Sort_uint64_uint64 -/
noncomputable def CC61 : Ctx := { P := Try.prog, own := [], fns := [(76, specF enc76 (sem76 f76)), (77, specF enc77 (sem77 f77))], nt := 11, nums := [], live := [] }
theorem good61 : Callees Try.prog CC61.fns [] CC61.nums := ((Callees.nil Try.prog).cons ok77 (specF_nat _ _)).cons ok76 (specF_nat _ _)
theorem hN61 : CtxNat CC61 := good61.ctx rfl rfl rfl
def enc61 (r : Unit) : List TV := []
def dec61 : AV → Option (Unit)
  | .tup [] => some ()
  | _ => none
theorem de61 (v : AV) (r : Unit) (h : dec61 v = some r) : v = oneOf (enc61 r) := by
  unfold dec61 at h
  split at h
  · cases h; rfl
  · cases h
abbrev Ty61 := SO → Heap → Option (Unit × Heap)
def sem61 (f : Ty61) : List TV → Heap → Option (Unit × Heap)
  | [.c (Cell.slice x0)], H => f x0 H
  | _, _ => none
noncomputable def F061 : Ty61 := fun x0 H => fnA CC61 Try.f61.results.toList (bodyOf Try.f61) _ [.c (Cell.slice x0)] H (decF dec61)
noncomputable def f61 : Ty61 := hide F061
theorem f61_eq : f61 = F061 := hide_eq _
theorem q61 : ∀ (x0 : SO) (H : Heap), f61 x0 H = (f77 (IntKind.u64.wrap (slen x0)) H).bind fun v1 => (f76 x0 0 (slen x0) v1.1 v1.2).bind fun v0 => some ((), v0.2) := by intros; rw [f61_eq]; exact (fnA_lpD hN61 ..).trans (by kernel_rfl)
theorem ok61 : FnOk Try.prog 61 (specF enc61 (sem61 f61)) := by
  refine spec_ok (C := CC61) good61 rfl rfl rfl (by kernel_rfl) Try.func61 (c := bodyOf Try.f61) (by kernel_rfl) (by kernel_rfl) (Nat.le_of_eq Try.ntmps61.symm) dec61 enc61 de61 _ ?_
  intro args H q h
  unfold sem61 at h
  split at h
  · rw [f61_eq] at h; exact h
  · cases h
/-! 62: slices_Compact_uint64_uint64 -/
noncomputable def CC62 : Ctx := { P := Try.prog, own := [], fns := [], nt := 61, nums := [], live := [(9, ⟨[0, 3, 4, 5], [], [0, 3], []⟩), (4, ⟨[0, 3], [], [0, 2], []⟩)] }
theorem good62 : Callees Try.prog CC62.fns [] CC62.nums := Callees.nil Try.prog
theorem hN62 : CtxNat CC62 := good62.ctx rfl rfl rfl
def enc62 (r : SO) : List TV := [.c (Cell.slice (r))]
def dec62 : AV → Option (SO)
  | .c (Cell.slice q0) => some (q0)
  | _ => none
theorem de62 (v : AV) (r : SO) (h : dec62 v = some r) : v = oneOf (enc62 r) := by
  unfold dec62 at h
  split at h
  · cases h; rfl
  · cases h
abbrev Ty62 := SO → Heap → Option (SO × Heap)
def sem62 (f : Ty62) : List TV → Heap → Option (SO × Heap)
  | [.c (Cell.slice s)], H => f s H
  | _, _ => none
noncomputable def F062 : Ty62 := fun s H => fnA CC62 Try.f62.results.toList (bodyOf Try.f62) _ [.c (Cell.slice s)] H (decF dec62)
noncomputable def f62 : Ty62 := hide F062
theorem f62_eq : f62 = F062 := hide_eq _
noncomputable def P62_4 : Code := (Code.l (Code.l (Code.r (Code.l (Code.r (Code.r (bodyOf Try.f62)))))))
noncomputable def P62_9 : Code := (Code.l (Code.l (Code.r (Code.l (Code.r (Code.l (Code.r (Code.l (Code.l (Code.r (Code.l (Code.l (Code.r (Code.l (Code.r (Code.r (bodyOf Try.f62)))))))))))))))))
def S62_4 (t0 : SO) (t3 : Int) (H : Heap) : St := ⟨[(0, .c (Cell.slice t0)), (3, .c (Cell.int .i64 t3))], [], H⟩
noncomputable def D62_4 (n : Nat) (t0 : SO) (t3 : Int) (H : Heap) : Option (AExit × St) := loopN (exec CC62 P62_4) (keepOf CC62.live P62_4) n (S62_4 t0 t3 H) retD
noncomputable def LL62_4 (t0 : SO) (t3 : Int) (H : Heap) : Option (AExit × St) := loopsD CC62 P62_4 (S62_4 t0 t3 H)
theorem LL62_4_of (m : Nat) (hm : m < 18446744073709551616) (t0 : SO) (t3 : Int) (H : Heap) : ∃ n, LL62_4 t0 t3 H = D62_4 (n + m + 1) t0 t3 H := loopsD_of _ _ _ m hm
def S62_9 (t0 : SO) (t3 : Int) (t4 : SO) (t5 : Int) (H : Heap) : St := ⟨[(0, .c (Cell.slice t0)), (3, .c (Cell.int .i64 t3)), (4, .c (Cell.slice t4)), (5, .c (Cell.int .i64 t5))], [], H⟩
noncomputable def D62_9 (n : Nat) (t0 : SO) (t3 : Int) (t4 : SO) (t5 : Int) (H : Heap) : Option (AExit × St) := loopN (exec CC62 P62_9) (keepOf CC62.live P62_9) n (S62_9 t0 t3 t4 t5 H) retD
noncomputable def LL62_9 (t0 : SO) (t3 : Int) (t4 : SO) (t5 : Int) (H : Heap) : Option (AExit × St) := loopsD CC62 P62_9 (S62_9 t0 t3 t4 t5 H)
theorem LL62_9_of (m : Nat) (hm : m < 18446744073709551616) (t0 : SO) (t3 : Int) (t4 : SO) (t5 : Int) (H : Heap) : ∃ n, LL62_9 t0 t3 t4 t5 H = D62_9 (n + m + 1) t0 t3 t4 t5 H := loopsD_of _ _ _ m hm
def X62_9 (x0 : SO) (x1 : Int) (H : Heap) : St := { env := [(0, AV.c (Cell.slice x0)), (3, AV.c (Cell.int .i64 x1))], loc := [], heap := H }
def X62_4 (x0 : SO) (H : Heap) : St := { env := [(0, AV.c (Cell.slice x0))], loc := [], heap := H }
def X62_4a (x0 : SO) (x1 : SO) (H : Heap) : St := { env := [(0, AV.c (Cell.slice x0)), (2, AV.c (Cell.slice x1))], loc := [], heap := H }
noncomputable def J62_9 : Nat → AExit × St → Option (AExit × St) := fun n p => blockK 2 (seqK (execL CC62 (lpD CC62) (Code.r (Code.r (Code.l (Code.r (Code.l (Code.l (Code.r P62_4)))))))) (blockK 1 (seqK (execL CC62 (lpD CC62) (Code.r (Code.r P62_4))) (loopK (some { t1 := [0, 3], l1 := [], t2 := [0, 2], l2 := [] }) (loopN (exec CC62 P62_4) (keepOf CC62.live P62_4) n) retD)))) p.1 p.2
noncomputable def J62_4 : AExit × St → Option (Option Sl × Heap) := fun p => blockK 0 (seqK (execL CC62 (lpD CC62) (Code.r (Code.r (Code.r (bodyOf Try.f62))))) (retA CC62 [ResultVar.tmp 2] (decF dec62))) p.1 p.2
theorem D62_9_s : ∀ (n : Nat) (t0 : SO) (t3 : Int) (t4 : SO) (t5 : Int) (H : Heap), D62_9 (n + 1) t0 t3 t4 t5 H = bif decide (t5 < slen t4) then t4.bind fun v10 => bif inb t5 v10.len && v10.esz == 1 then (H.get v10.id (v10.off + t5.toNat * 1)).bind fun v9 => (Cell.toInt .u64 v9).bind fun v8 => t4.bind fun v7 => bif inb (IntKind.i64.wrap (t5 - 1)) v7.len && v7.esz == 1 then (H.get v7.id (v7.off + (IntKind.i64.wrap (t5 - 1)).toNat * 1)).bind fun v6 => (Cell.toInt .u64 v6).bind fun v5 => bif v8 != v5 then t4.bind fun v4 => bif inb t5 v4.len && v4.esz == 1 then (H.get v4.id (v4.off + t5.toNat * 1)).bind fun v3 => (Cell.toInt .u64 v3).bind fun v2 => t0.bind fun v1 => bif inb t3 v1.len && v1.esz == 1 then (H.put v1.id (v1.off + t3.toNat * 1) [Cell.int .u64 v2]).bind fun v0 => D62_9 n t0 (IntKind.i64.wrap (t3 + 1)) t4 (IntKind.i64.wrap (t5 + 1)) v0 else none else none else D62_9 n t0 t3 t4 (IntKind.i64.wrap (t5 + 1)) H else none else none else some (AExit.exit 2, X62_9 t0 t3 H) := by intros; exact (loopN_stepD hN62 _ _ _ _).trans (by kernel_rfl)
theorem D62_4_s : ∀ (n : Nat) (t0 : SO) (t3 : Int) (H : Heap), D62_4 (n + 1) t0 t3 H = bif decide (t3 < slen t0) then t0.bind fun v17 => bif inb t3 v17.len && v17.esz == 1 then (H.get v17.id (v17.off + t3.toNat * 1)).bind fun v16 => (Cell.toInt .u64 v16).bind fun v15 => t0.bind fun v14 => bif inb (IntKind.i64.wrap (t3 - 1)) v14.len && v14.esz == 1 then (H.get v14.id (v14.off + (IntKind.i64.wrap (t3 - 1)).toNat * 1)).bind fun v13 => (Cell.toInt .u64 v13).bind fun v12 => bif v15 == v12 then (Sl.sub t0 t3 none).bind fun v11 => bif esOk t0 1 then (LL62_9 t0 t3 v11 1 H).bind (J62_9 n) else none else D62_4 n t0 (IntKind.i64.wrap (t3 + 1)) H else none else none else some (AExit.exit 0, X62_4 t0 H) := by intros; exact (loopN_stepD hN62 _ _ _ _).trans (by kernel_rfl)
theorem J62_9_0 : ∀ (n : Nat) (x0 : SO) (x1 : Int) (H : Heap), J62_9 n (AExit.exit 2, X62_9 x0 x1 H) = (Sl.sub x0 x1 none).bind fun v20 => bif esOk x0 1 then (H.clear 1 [Cell.int .u64 0] v20).bind fun v19 => (Sl.sub x0 0 (some x1)).bind fun v18 => bif esOk x0 1 then some (AExit.ret, X62_4a x0 v18 v19) else none else none := by intros; kernel_rfl
theorem q62 : ∀ (s : SO) (H : Heap), f62 s H = bif decide (slen s < 2) then some (s, H) else (LL62_4 s 1 H).bind J62_4 := by intros; rw [f62_eq]; exact (fnA_lpD hN62 ..).trans (by kernel_rfl)
theorem J62_4_0 : ∀ (x0 : SO) (H : Heap), J62_4 (AExit.exit 0, X62_4 x0 H) = some (x0, H) := by intros; kernel_rfl
theorem J62_4_1 : ∀ (x0 x1 : SO) (H : Heap), J62_4 (AExit.ret, X62_4a x0 x1 H) = some (x1, H) := by intros; kernel_rfl
theorem ok62 : FnOk Try.prog 62 (specF enc62 (sem62 f62)) := by
  refine spec_ok (C := CC62) good62 rfl rfl rfl (by kernel_rfl) Try.func62 (c := bodyOf Try.f62) (by kernel_rfl) (by kernel_rfl) (Nat.le_of_eq Try.ntmps62.symm) dec62 enc62 de62 _ ?_
  intro args H q h
  unfold sem62 at h
  split at h
  · rw [f62_eq] at h; exact h
  · cases h
/-! 34: image_rising -/
noncomputable def CC34 : Ctx := { P := Try.prog, own := [], fns := [(62, specF enc62 (sem62 f62)), (61, specF enc61 (sem61 f61))], nt := 7, nums := [], live := [] }
theorem good34 : Callees Try.prog CC34.fns [] CC34.nums := ((Callees.nil Try.prog).cons ok61 (specF_nat _ _)).cons ok62 (specF_nat _ _)
theorem hN34 : CtxNat CC34 := good34.ctx rfl rfl rfl
def enc34 (r : SO) : List TV := [.c (Cell.slice (r))]
def dec34 : AV → Option (SO)
  | .c (Cell.slice q0) => some (q0)
  | _ => none
theorem de34 (v : AV) (r : SO) (h : dec34 v = some r) : v = oneOf (enc34 r) := by
  unfold dec34 at h
  split at h
  · cases h; rfl
  · cases h
abbrev Ty34 := SO → Heap → Option (SO × Heap)
def sem34 (f : Ty34) : List TV → Heap → Option (SO × Heap)
  | [.c (Cell.slice l)], H => f l H
  | _, _ => none
noncomputable def F034 : Ty34 := fun l H => fnA CC34 Try.f34.results.toList (bodyOf Try.f34) _ [.c (Cell.slice l)] H (decF dec34)
noncomputable def f34 : Ty34 := hide F034
theorem f34_eq : f34 = F034 := hide_eq _
theorem q34 : ∀ (l : SO) (H : Heap), f34 l H = (f61 l H).bind fun v1 => (f62 l v1.2).bind fun v0 => some (v0.1, v0.2) := by intros; rw [f34_eq]; exact (fnA_lpD hN34 ..).trans (by kernel_rfl)
theorem ok34 : FnOk Try.prog 34 (specF enc34 (sem34 f34)) := by
  refine spec_ok (C := CC34) good34 rfl rfl rfl (by kernel_rfl) Try.func34 (c := bodyOf Try.f34) (by kernel_rfl) (by kernel_rfl) (Nat.le_of_eq Try.ntmps34.symm) dec34 enc34 de34 _ ?_
  intro args H q h
  unfold sem34 at h
  split at h
  · rw [f34_eq] at h; exact h
  · cases h
/-! 63: slices_Grow_uint64_uint64 -/
noncomputable def CC63 : Ctx := { P := Try.prog, own := [], fns := [], nt := 27, nums := [], live := [] }
theorem good63 : Callees Try.prog CC63.fns [] CC63.nums := Callees.nil Try.prog
theorem hN63 : CtxNat CC63 := good63.ctx rfl rfl rfl
def enc63 (r : SO) : List TV := [.c (Cell.slice (r))]
def dec63 : AV → Option (SO)
  | .c (Cell.slice q0) => some (q0)
  | _ => none
theorem de63 (v : AV) (r : SO) (h : dec63 v = some r) : v = oneOf (enc63 r) := by
  unfold dec63 at h
  split at h
  · cases h; rfl
  · cases h
abbrev Ty63 := SO → Int → Heap → Option (SO × Heap)
def sem63 (f : Ty63) : List TV → Heap → Option (SO × Heap)
  | [.c (Cell.slice s), .c (Cell.int .i64 n)], H => f s n H
  | _, _ => none
noncomputable def F063 : Ty63 := fun s n H => fnA CC63 Try.f63.results.toList (bodyOf Try.f63) _ [.c (Cell.slice s), .c (Cell.int .i64 n)] H (decF dec63)
noncomputable def f63 : Ty63 := hide F063
theorem f63_eq : f63 = F063 := hide_eq _
theorem q63 : ∀ (s : SO) (n : Int) (H : Heap), f63 s n H = bif decide (n < 0) then none else (capNil s).bind fun v4 => bif decide (IntKind.i64.wrap (n - IntKind.i64.wrap (v4 - slen s)) > 0) then (capNil s).bind fun v3 => (Sl.sub s 0 (some v3)).bind fun v2 => bif esOk s 1 then (H.appendZ 1 8 v2 [Cell.int .u64 0] (IntKind.i64.wrap (n - IntKind.i64.wrap (v4 - slen s)))).bind fun v1 => (Sl.sub v1.1 0 (some (slen s))).bind fun v0 => bif esOk v1.1 1 then some (v0, v1.2) else none else none else some (s, H) := by intros; rw [f63_eq]; exact (fnA_lpD hN63 ..).trans (by kernel_rfl)
theorem ok63 : FnOk Try.prog 63 (specF enc63 (sem63 f63)) := by
  refine spec_ok (C := CC63) good63 rfl rfl rfl (by kernel_rfl) Try.func63 (c := bodyOf Try.f63) (by kernel_rfl) (by kernel_rfl) (Nat.le_of_eq Try.ntmps63.symm) dec63 enc63 de63 _ ?_
  intro args H q h
  unfold sem63 at h
  split at h
  · rw [f63_eq] at h; exact h
  · cases h
/-! 35: slices_Concat_uint64_uint64 -/
noncomputable def CC35 : Ctx := { P := Try.prog, own := [], fns := [(63, specF enc63 (sem63 f63))], nt := 36, nums := [], live := [(11, ⟨[6, 25, 26, 27], [], [6], []⟩), (3, ⟨[0, 3, 9, 10, 11], [], [0, 3], []⟩)] }
theorem good35 : Callees Try.prog CC35.fns [] CC35.nums := (Callees.nil Try.prog).cons ok63 (specF_nat _ _)
theorem hN35 : CtxNat CC35 := good35.ctx rfl rfl rfl
def enc35 (r : SO) : List TV := [.c (Cell.slice (r))]
def dec35 : AV → Option (SO)
  | .c (Cell.slice q0) => some (q0)
  | _ => none
theorem de35 (v : AV) (r : SO) (h : dec35 v = some r) : v = oneOf (enc35 r) := by
  unfold dec35 at h
  split at h
  · cases h; rfl
  · cases h
abbrev Ty35 := SO → Heap → Option (SO × Heap)
def sem35 (f : Ty35) : List TV → Heap → Option (SO × Heap)
  | [.c (Cell.slice slices)], H => f slices H
  | _, _ => none
noncomputable def F035 : Ty35 := fun slices H => fnA CC35 Try.f35.results.toList (bodyOf Try.f35) _ [.c (Cell.slice slices)] H (decF dec35)
noncomputable def f35 : Ty35 := hide F035
theorem f35_eq : f35 = F035 := hide_eq _
noncomputable def P35_3 : Code := (Code.l (Code.l (Code.r (Code.l (Code.r (Code.r (bodyOf Try.f35)))))))
noncomputable def P35_11 : Code := (Code.l (Code.l (Code.r (Code.l (Code.r (Code.r (Code.r (Code.r (bodyOf Try.f35)))))))))
def S35_3 (t0 : SO) (t3 : Int) (t9 : SO) (t10 t11 : Int) (H : Heap) : St := ⟨[(0, .c (Cell.slice t0)), (3, .c (Cell.int .i64 t3)), (9, .c (Cell.slice t9)), (10, .c (Cell.int .i64 t10)), (11, .c (Cell.int .i64 t11))], [], H⟩
noncomputable def D35_3 (n : Nat) (t0 : SO) (t3 : Int) (t9 : SO) (t10 t11 : Int) (H : Heap) : Option (AExit × St) := loopN (exec CC35 P35_3) (keepOf CC35.live P35_3) n (S35_3 t0 t3 t9 t10 t11 H) retD
noncomputable def LL35_3 (t0 : SO) (t3 : Int) (t9 : SO) (t10 t11 : Int) (H : Heap) : Option (AExit × St) := loopsD CC35 P35_3 (S35_3 t0 t3 t9 t10 t11 H)
theorem LL35_3_of (m : Nat) (hm : m < 18446744073709551616) (t0 : SO) (t3 : Int) (t9 : SO) (t10 t11 : Int) (H : Heap) : ∃ n, LL35_3 t0 t3 t9 t10 t11 H = D35_3 (n + m + 1) t0 t3 t9 t10 t11 H := loopsD_of _ _ _ m hm
def S35_11 (t6 t25 : SO) (t26 t27 : Int) (H : Heap) : St := ⟨[(6, .c (Cell.slice t6)), (25, .c (Cell.slice t25)), (26, .c (Cell.int .i64 t26)), (27, .c (Cell.int .i64 t27))], [], H⟩
noncomputable def D35_11 (n : Nat) (t6 t25 : SO) (t26 t27 : Int) (H : Heap) : Option (AExit × St) := loopN (exec CC35 P35_11) (keepOf CC35.live P35_11) n (S35_11 t6 t25 t26 t27 H) retD
noncomputable def LL35_11 (t6 t25 : SO) (t26 t27 : Int) (H : Heap) : Option (AExit × St) := loopsD CC35 P35_11 (S35_11 t6 t25 t26 t27 H)
theorem LL35_11_of (m : Nat) (hm : m < 18446744073709551616) (t6 t25 : SO) (t26 t27 : Int) (H : Heap) : ∃ n, LL35_11 t6 t25 t26 t27 H = D35_11 (n + m + 1) t6 t25 t26 t27 H := loopsD_of _ _ _ m hm
def X35_11 (x0 : SO) (H : Heap) : St := { env := [(6, AV.c (Cell.slice x0))], loc := [], heap := H }
def X35_3 (x0 : SO) (x1 : Int) (H : Heap) : St := { env := [(0, AV.c (Cell.slice x0)), (3, AV.c (Cell.int .i64 x1))], loc := [], heap := H }
noncomputable def J35_3 : AExit × St → Option (Option Sl × Heap) := fun p => blockK 0 (seqK (execL CC35 (lpD CC35) (Code.r (Code.r (Code.r (bodyOf Try.f35))))) (retA CC35 [ResultVar.tmp 2] (decF dec35))) p.1 p.2
noncomputable def J35_11 : AExit × St → Option (Option Sl × Heap) := fun p => blockK 2 (seqK (execL CC35 (lpD CC35) (Code.r (Code.r (Code.r (Code.r (Code.r (bodyOf Try.f35))))))) (retA CC35 [ResultVar.tmp 2] (decF dec35))) p.1 p.2
theorem D35_11_s : ∀ (n : Nat) (t6 t25 : SO) (t26 t27 : Int) (H : Heap), D35_11 (n + 1) t6 t25 t26 t27 H = bif decide (t27 < t26) then t25.bind fun v3 => bif inb t27 v3.len && v3.esz == 1 then (H.get v3.id (v3.off + t27.toNat * 1)).bind fun v2 => v2.toSlice.bind fun v1 => (H.append 1 8 t6 v1).bind fun v0 => D35_11 n v0.1 t25 t26 (IntKind.i64.wrap (t27 + 1)) v0.2 else none else some (AExit.exit 2, X35_11 t6 H) := by intros; exact (loopN_stepD hN35 _ _ _ _).trans (by kernel_rfl)
theorem D35_3_s : ∀ (n : Nat) (t0 : SO) (t3 : Int) (t9 : SO) (t10 t11 : Int) (H : Heap), D35_3 (n + 1) t0 t3 t9 t10 t11 H = bif decide (t11 < t10) then t9.bind fun v6 => bif inb t11 v6.len && v6.esz == 1 then (H.get v6.id (v6.off + t11.toNat * 1)).bind fun v5 => v5.toSlice.bind fun v4 => bif decide (IntKind.i64.wrap (t3 + slen v4) < 0) then none else D35_3 n t0 (IntKind.i64.wrap (t3 + slen v4)) t9 t10 (IntKind.i64.wrap (t11 + 1)) H else none else some (AExit.exit 0, X35_3 t0 t3 H) := by intros; exact (loopN_stepD hN35 _ _ _ _).trans (by kernel_rfl)
theorem q35 : ∀ (slices : SO) (H : Heap), f35 slices H = (LL35_3 slices 0 slices (slen slices) 0 H).bind J35_3 := by intros; rw [f35_eq]; exact (fnA_lpD hN35 ..).trans (by kernel_rfl)
theorem J35_3_0 : ∀ (x0 : SO) (x1 : Int) (H : Heap), J35_3 (AExit.exit 0, X35_3 x0 x1 H) = (f63 none x1 H).bind fun v7 => (LL35_11 v7.1 x0 (slen x0) 0 v7.2).bind J35_11 := by intros; kernel_rfl
theorem J35_11_0 : ∀ (x0 : SO) (H : Heap), J35_11 (AExit.exit 2, X35_11 x0 H) = some (x0, H) := by intros; kernel_rfl
theorem ok35 : FnOk Try.prog 35 (specF enc35 (sem35 f35)) := by
  refine spec_ok (C := CC35) good35 rfl rfl rfl (by kernel_rfl) Try.func35 (c := bodyOf Try.f35) (by kernel_rfl) (by kernel_rfl) (Nat.le_of_eq Try.ntmps35.symm) dec35 enc35 de35 _ ?_
  intro args H q h
  unfold sem35 at h
  split at h
  · rw [f35_eq] at h; exact h
  · cases h
