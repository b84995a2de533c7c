/- Layer 4: its functions, in direct style. -/
import Derived.Test.YtnjdajcgcnjamaaIm2
namespace Go.Proofs.Ytnjdajcgcnjamaa
open Go Go.Proofs.Ytnjdajcgcnjamaa.Ab
set_option linter.unusedVariables false
set_option linter.unusedSimpArgs false
set_option maxRecDepth 100000
noncomputable section
/-! 12: R4_Nums -/
noncomputable def CC12 : Ctx := { P := Try.prog, own := [], fns := [], nt := 26, nums := [], live := [(4, ⟨[0, 1, 12, 13], [], [4], []⟩)] }
theorem good12 : Callees Try.prog CC12.fns [] CC12.nums := Callees.nil Try.prog
theorem hN12 : CtxNat CC12 := good12.ctx rfl rfl rfl
def enc12 (r : Bool) : List TV := [.c (Cell.bool (r))]
def dec12 : AV → Option (Bool)
  | .c (Cell.bool q0) => some (q0)
  | _ => none
theorem de12 (v : AV) (r : Bool) (h : dec12 v = some r) : v = oneOf (enc12 r) := by
  unfold dec12 at h
  split at h
  · cases h; rfl
  · cases h
abbrev Ty12 := SO → SO → Heap → Option (Bool × Heap)
def sem12 (f : Ty12) : List TV → Heap → Option (Bool × Heap)
  | [.c (Cell.slice a), .c (Cell.slice b)], H => f a b H
  | _, _ => none
noncomputable def F012 : Ty12 := fun a b H => fnA CC12 Try.f12.results.toList (bodyOf Try.f12) _ [.c (Cell.slice a), .c (Cell.slice b)] H (decF dec12)
noncomputable def f12 : Ty12 := hide F012
theorem f12_eq : f12 = F012 := hide_eq _
noncomputable def P12_4 : Code := (Code.l (Code.l (Code.r (Code.l (Code.r (Code.r (bodyOf Try.f12)))))))
def S12_4 (t0 t1 : SO) (t12 t13 : Int) (H : Heap) : St := ⟨[(0, .c (Cell.slice t0)), (1, .c (Cell.slice t1)), (12, .c (Cell.int .i64 t12)), (13, .c (Cell.int .i64 t13))], [], H⟩
noncomputable def D12_4 (n : Nat) (t0 t1 : SO) (t12 t13 : Int) (H : Heap) : Option (AExit × St) := loopN (exec CC12 P12_4) (keepOf CC12.live P12_4) n (S12_4 t0 t1 t12 t13 H) retD
noncomputable def LL12_4 (t0 t1 : SO) (t12 t13 : Int) (H : Heap) : Option (AExit × St) := loopsD CC12 P12_4 (S12_4 t0 t1 t12 t13 H)
theorem LL12_4_of (m : Nat) (hm : m < 18446744073709551616) (t0 t1 : SO) (t12 t13 : Int) (H : Heap) : ∃ n, LL12_4 t0 t1 t12 t13 H = D12_4 (n + m + 1) t0 t1 t12 t13 H := loopsD_of _ _ _ m hm
def X12_4 (x0 : Bool) (H : Heap) : St := { env := [(4, AV.c (Cell.bool x0))], loc := [], heap := H }
def X12_4a (H : Heap) : St := { env := [], loc := [], heap := H }
noncomputable def J12_4 : AExit × St → Option (Bool × Heap) := fun p => blockK 0 (seqK (execL CC12 (lpD CC12) (Code.r (Code.r (Code.r (bodyOf Try.f12))))) (retA CC12 [ResultVar.tmp 4] (decF dec12))) p.1 p.2
theorem D12_4_s : ∀ (n : Nat) (t0 t1 : SO) (t12 t13 : Int) (H : Heap), D12_4 (n + 1) t0 t1 t12 t13 H = bif decide (t13 < t12) then t0.bind fun v5 => bif inb t13 v5.len && v5.esz == 1 then (H.get v5.id (v5.off + t13.toNat * 1)).bind fun v4 => (Cell.toInt .u64 v4).bind fun v3 => t1.bind fun v2 => bif inb t13 v2.len && v2.esz == 1 then (H.get v2.id (v2.off + t13.toNat * 1)).bind fun v1 => (Cell.toInt .u64 v1).bind fun v0 => bif v3 != v0 then some (AExit.ret, X12_4 false H) else D12_4 n t0 t1 t12 (IntKind.i64.wrap (t13 + 1)) H else none else none else some (AExit.exit 0, X12_4a H) := by intros; exact (loopN_stepD hN12 _ _ _ _).trans (by kernel_rfl)
theorem q12 : ∀ (a b : SO) (H : Heap), f12 a b H = bif slen a != slen b then some (false, H) else (LL12_4 a b (slen a) 0 H).bind J12_4 := by intros; rw [f12_eq]; exact (fnA_lpD hN12 ..).trans (by kernel_rfl)
theorem J12_4_1 : ∀ (H : Heap), J12_4 (AExit.exit 0, X12_4a H) = some (true, H) := by intros; kernel_rfl
theorem ok12 : FnOk Try.prog 12 (specF enc12 (sem12 f12)) := by
  refine spec_ok (C := CC12) good12 rfl rfl rfl (by kernel_rfl) Try.func12 (c := bodyOf Try.f12) (by kernel_rfl) (by kernel_rfl) (Nat.le_of_eq Try.ntmps12.symm) dec12 enc12 de12 _ ?_
  intro args H q h
  unfold sem12 at h
  split at h
  · rw [f12_eq] at h; exact h
  · cases h
