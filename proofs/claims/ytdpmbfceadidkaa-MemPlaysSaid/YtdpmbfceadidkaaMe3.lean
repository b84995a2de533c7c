/- Layer 9: memory: what MemOwn and MemOrder reach. -/
import Derived.Test.YtdpmbfceadidkaaMe2
import Derived.KernelRfl
namespace Go.Proofs.Ytdpmbfceadidkaa
open Go Go.Proofs.Ytdpmbfceadidkaa.Ab
set_option linter.unusedVariables false
set_option linter.unusedSimpArgs false
set_option maxRecDepth 100000
noncomputable section
/-! 18: L09_at -/
noncomputable def CC18 : Ctx := { P := Try.prog, own := [2], fns := [], nt := 35, nums := [], live := [] }
theorem good18 : Callees Try.prog CC18.fns [] CC18.nums := Callees.nil Try.prog
theorem hN18 : CtxNat CC18 := good18.ctx rfl rfl rfl
def enc18 (r : Int) : List TV := [.c (Cell.int .u64 (r))]
def dec18 : AV → Option (Int)
  | .c (Cell.int .u64 q0) => some (q0)
  | _ => none
theorem de18 (v : AV) (r : Int) (h : dec18 v = some r) : v = oneOf (enc18 r) := by
  unfold dec18 at h
  split at h
  · cases h; rfl
  · cases h
abbrev Ty18 := Int → Int → Bool → Int → Int → Int → Int → (Option Sl) → Heap → Option (Int × Heap)
def sem18 (f : Ty18) : List TV → Heap → Option (Int × Heap)
  | [.agg [Cell.int .i64 o0, Cell.int .i64 o1, Cell.bool o2, Cell.int .i64 o3, Cell.int .u64 o4, Cell.int .i64 o5, Cell.int .u64 o6], .c (Cell.slice l)], H => f o0 o1 o2 o3 o4 o5 o6 l H
  | _, _ => none
noncomputable def f18 : Ty18 := hide fun o0 o1 o2 o3 o4 o5 o6 l H => fnA CC18 Try.f18.results.toList (bodyOf Try.f18) _ [.agg [Cell.int .i64 o0, Cell.int .i64 o1, Cell.bool o2, Cell.int .i64 o3, Cell.int .u64 o4, Cell.int .i64 o5, Cell.int .u64 o6], .c (Cell.slice l)] H (decF dec18)
theorem f18_eq (o0 : Int) (o1 : Int) (o2 : Bool) (o3 : Int) (o4 : Int) (o5 : Int) (o6 : Int) (l : (Option Sl)) (H : Heap) : f18 o0 o1 o2 o3 o4 o5 o6 l H = fnA CC18 Try.f18.results.toList (bodyOf Try.f18) _ [.agg [Cell.int .i64 o0, Cell.int .i64 o1, Cell.bool o2, Cell.int .i64 o3, Cell.int .u64 o4, Cell.int .i64 o5, Cell.int .u64 o6], .c (Cell.slice l)] H (decF dec18) := by unfold f18; rw [hide_eq]
theorem f18_run (o0 : Int) (o1 : Int) (o2 : Bool) (o3 : Int) (o4 : Int) (o5 : Int) (o6 : Int) (l : (Option Sl)) (H : Heap) : f18 o0 o1 o2 o3 o4 o5 o6 l H = fnL CC18 (lpD CC18) Try.f18.results.toList (bodyOf Try.f18) [.agg [Cell.int .i64 o0, Cell.int .i64 o1, Cell.bool o2, Cell.int .i64 o3, Cell.int .u64 o4, Cell.int .i64 o5, Cell.int .u64 o6], .c (Cell.slice l)] H (decF dec18) := (f18_eq ..).trans (fnA_lpD hN18 ..)
theorem q18 : ∀ (o0 o1 : Int) (o2 : Bool) (o3 o4 o5 o6 : Int) (l : Option Sl) (H : Heap), f18 o0 o1 o2 o3 o4 o5 o6 l H = bif !o2 then some (o4, H) else bif slen l == 0 then some (o4, H) else bif slen l == 0 then none else bif decide (o3.tmod (slen l) < 0) then l.bind fun v2 => bif inb (IntKind.i64.wrap (0 - o3.tmod (slen l))) v2.len && v2.esz == 5 then (H.get v2.id (v2.off + (IntKind.i64.wrap (0 - o3.tmod (slen l))).toNat * 5 + 0)).bind fun v1 => (Cell.toInt IntKind.u64 v1).bind fun v0 => some (IntKind.u64.wrap (IntKind.u64.wrap (v0 + o4.tmod 72) - 4), H) else none else l.bind fun v5 => bif inb (o3.tmod (slen l)) v5.len && v5.esz == 5 then (H.get v5.id (v5.off + (o3.tmod (slen l)).toNat * 5 + 0)).bind fun v4 => (Cell.toInt IntKind.u64 v4).bind fun v3 => some (IntKind.u64.wrap (IntKind.u64.wrap (v3 + o4.tmod 72) - 4), H) else none := by intros; exact (f18_run ..).trans (by kernel_rfl)
theorem ok18 : FnOk Try.prog 18 (specF enc18 (sem18 f18)) := by
  refine spec_ok (C := CC18) good18 rfl rfl rfl (by kernel_rfl) Try.func18 (c := bodyOf Try.f18) (by kernel_rfl) (by kernel_rfl) (Nat.le_of_eq Try.ntmps18.symm) dec18 enc18 de18 _ ?_
  intro args H q h
  unfold sem18 at h
  split at h
  · rw [← f18_eq]; exact h
  · cases h
/-! 56: R2_Is -/
noncomputable def CC56 : Ctx := { P := Try.prog, own := [], fns := [], nt := 17, nums := [], live := [] }
theorem good56 : Callees Try.prog CC56.fns [] CC56.nums := Callees.nil Try.prog
theorem hN56 : CtxNat CC56 := good56.ctx rfl rfl rfl
def enc56 (r : Bool) : List TV := [.c (Cell.bool (r))]
def dec56 : AV → Option (Bool)
  | .c (Cell.bool q0) => some (q0)
  | _ => none
theorem de56 (v : AV) (r : Bool) (h : dec56 v = some r) : v = oneOf (enc56 r) := by
  unfold dec56 at h
  split at h
  · cases h; rfl
  · cases h
abbrev Ty56 := Int → Heap → Option (Bool × Heap)
def sem56 (f : Ty56) : List TV → Heap → Option (Bool × Heap)
  | [.c (Cell.int .i64 w)], H => f w H
  | _, _ => none
noncomputable def f56 : Ty56 := hide fun w H => fnA CC56 Try.f56.results.toList (bodyOf Try.f56) _ [.c (Cell.int .i64 w)] H (decF dec56)
theorem f56_eq (w : Int) (H : Heap) : f56 w H = fnA CC56 Try.f56.results.toList (bodyOf Try.f56) _ [.c (Cell.int .i64 w)] H (decF dec56) := by unfold f56; rw [hide_eq]
theorem f56_run (w : Int) (H : Heap) : f56 w H = fnL CC56 (lpD CC56) Try.f56.results.toList (bodyOf Try.f56) [.c (Cell.int .i64 w)] H (decF dec56) := (f56_eq ..).trans (fnA_lpD hN56 ..)
theorem q56 : ∀ (w : Int) (H : Heap), f56 w H = bif w == 1 then some (true, H) else bif w == 2 then some (true, H) else bif w == 4 then some (true, H) else some (w == 8, H) := by intros; exact (f56_run ..).trans (by kernel_rfl)
theorem ok56 : FnOk Try.prog 56 (specF enc56 (sem56 f56)) := by
  refine spec_ok (C := CC56) good56 rfl rfl rfl (by kernel_rfl) Try.func56 (c := bodyOf Try.f56) (by kernel_rfl) (by kernel_rfl) (Nat.le_of_eq Try.ntmps56.symm) dec56 enc56 de56 _ ?_
  intro args H q h
  unfold sem56 at h
  split at h
  · rw [← f56_eq]; exact h
  · cases h
/-! 43: R9_Mem_May -/
noncomputable def CC43 : Ctx := { P := Try.prog, own := [], fns := [(14, specF enc14 (sem14 f14)), (56, specF enc56 (sem56 f56))], nt := 82, nums := [], live := [(4, ⟨[0, 1, 2, 3, 4, 11], [], [10], []⟩)] }
theorem good43 : Callees Try.prog CC43.fns [] CC43.nums := ((Callees.nil Try.prog).cons ok56 (specF_nat _ _)).cons ok14 (specF_nat _ _)
theorem hN43 : CtxNat CC43 := good43.ctx rfl rfl rfl
def enc43 (r : Bool) : List TV := [.c (Cell.bool (r))]
def dec43 : AV → Option (Bool)
  | .c (Cell.bool q0) => some (q0)
  | _ => none
theorem de43 (v : AV) (r : Bool) (h : dec43 v = some r) : v = oneOf (enc43 r) := by
  unfold dec43 at h
  split at h
  · cases h; rfl
  · cases h
abbrev Ty43 := (Option (Nat × Nat)) → Int → Int → Int → Bool → Heap → Option (Bool × Heap)
def sem43 (f : Ty43) : List TV → Heap → Option (Bool × Heap)
  | [.c (Cell.ptr m), .c (Cell.int .i64 t), .c (Cell.int .u64 x2), .c (Cell.int .i64 w), .c (Cell.bool write)], H => f m t x2 w write H
  | _, _ => none
noncomputable def f43 : Ty43 := hide fun m t x2 w write H => fnA CC43 Try.f43.results.toList (bodyOf Try.f43) _ [.c (Cell.ptr m), .c (Cell.int .i64 t), .c (Cell.int .u64 x2), .c (Cell.int .i64 w), .c (Cell.bool write)] H (decF dec43)
theorem f43_eq (m : (Option (Nat × Nat))) (t : Int) (x2 : Int) (w : Int) (write : Bool) (H : Heap) : f43 m t x2 w write H = fnA CC43 Try.f43.results.toList (bodyOf Try.f43) _ [.c (Cell.ptr m), .c (Cell.int .i64 t), .c (Cell.int .u64 x2), .c (Cell.int .i64 w), .c (Cell.bool write)] H (decF dec43) := by unfold f43; rw [hide_eq]
theorem f43_run (m : (Option (Nat × Nat))) (t : Int) (x2 : Int) (w : Int) (write : Bool) (H : Heap) : f43 m t x2 w write H = fnL CC43 (lpD CC43) Try.f43.results.toList (bodyOf Try.f43) [.c (Cell.ptr m), .c (Cell.int .i64 t), .c (Cell.int .u64 x2), .c (Cell.int .i64 w), .c (Cell.bool write)] H (decF dec43) := (f43_eq ..).trans (fnA_lpD hN43 ..)
def S43_4 (t0 : (Option (Nat × Nat))) (t1 : Int) (t2 : Int) (t3 : Int) (t4 : Bool) (t11 : Int) (H : Heap) : St := ⟨[(0, .c (Cell.ptr t0)), (1, .c (Cell.int .i64 t1)), (2, .c (Cell.int .u64 t2)), (3, .c (Cell.int .i64 t3)), (4, .c (Cell.bool t4)), (11, .c (Cell.int .i64 t11))], [], H⟩
noncomputable def D43_4 (n : Nat) (t0 : (Option (Nat × Nat))) (t1 : Int) (t2 : Int) (t3 : Int) (t4 : Bool) (t11 : Int) (H : Heap) : Option (AExit × St) := loopN (exec CC43 (Code.l (Code.l (Code.r (Code.l (Code.r (Code.r (bodyOf Try.f43)))))))) (keepOf CC43.live (Code.l (Code.l (Code.r (Code.l (Code.r (Code.r (bodyOf Try.f43)))))))) n (S43_4 t0 t1 t2 t3 t4 t11 H) retD
noncomputable def LL43_4 (t0 : (Option (Nat × Nat))) (t1 : Int) (t2 : Int) (t3 : Int) (t4 : Bool) (t11 : Int) (H : Heap) : Option (AExit × St) := loopsD CC43 (Code.l (Code.l (Code.r (Code.l (Code.r (Code.r (bodyOf Try.f43))))))) (S43_4 t0 t1 t2 t3 t4 t11 H)
theorem LL43_4_of (m : Nat) (hm : m < 18446744073709551616) (t0 : (Option (Nat × Nat))) (t1 : Int) (t2 : Int) (t3 : Int) (t4 : Bool) (t11 : Int) (H : Heap) : ∃ n, LL43_4 t0 t1 t2 t3 t4 t11 H = D43_4 (n + m + 1) t0 t1 t2 t3 t4 t11 H := loopsD_of _ _ _ m hm
def X43_4 (x0 : Bool) (H : Heap) : St := { env := [(10, AV.c (Cell.bool x0))], loc := [], heap := H }
def X43_4a (H : Heap) : St := { env := [], loc := [], heap := H }
noncomputable def J43_4 : AExit × St → Option (Bool × Heap) := fun p => blockK 0 (seqK (execL CC43 (lpD CC43) (Code.r (Code.r (Code.r (bodyOf Try.f43))))) (retA CC43 [ResultVar.tmp 10] (decF dec43))) p.fst p.snd
theorem D43_4_s : ∀ (n : Nat) (t0 : Option (Nat × Nat)) (t1 t2 t3 : Int) (t4 : Bool) (t11 : Int) (H : Heap), D43_4 (n + 1) t0 t1 t2 t3 t4 t11 H = bif decide (t11 < t3) then (f14 t0 (IntKind.u64.wrap (t2 + IntKind.u64.wrap t11)) H).bind fun v24 => bif decide (v24.fst < 0) then some (AExit.ret, X43_4 false v24.snd) else t0.bind fun v23 => (v24.snd.get v23.fst (v23.snd + 0)).bind fun v22 => v22.toSlice.bind fun v21 => v21.bind fun v20 => bif inb v24.fst v20.len && v20.esz == 5 then (v24.snd.get v20.id (v20.off + v24.fst.toNat * 5 + 3)).bind fun v19 => v19.toBool.bind fun v18 => bif v18 then t0.bind fun v11 => (v24.snd.get v11.fst (v11.snd + 0)).bind fun v10 => v10.toSlice.bind fun v9 => v9.bind fun v8 => bif inb v24.fst v8.len && v8.esz == 5 then (v24.snd.get v8.id (v8.off + v24.fst.toNat * 5 + 4)).bind fun v7 => (Cell.toInt IntKind.i64 v7).bind fun v6 => bif v6 != t1 then some (AExit.ret, X43_4 false v24.snd) else bif t4 then t0.bind fun v5 => (v24.snd.get v5.fst (v5.snd + 0)).bind fun v4 => v4.toSlice.bind fun v3 => v3.bind fun v2 => bif inb v24.fst v2.len && v2.esz == 5 then (v24.snd.get v2.id (v2.off + v24.fst.toNat * 5 + 2)).bind fun v1 => v1.toBool.bind fun v0 => bif !v0 then some (AExit.ret, X43_4 false v24.snd) else D43_4 n t0 t1 t2 t3 t4 (IntKind.i64.wrap (t11 + 1)) v24.snd else none else D43_4 n t0 t1 t2 t3 t4 (IntKind.i64.wrap (t11 + 1)) v24.snd else none else bif t4 then t0.bind fun v17 => (v24.snd.get v17.fst (v17.snd + 0)).bind fun v16 => v16.toSlice.bind fun v15 => v15.bind fun v14 => bif inb v24.fst v14.len && v14.esz == 5 then (v24.snd.get v14.id (v14.off + v24.fst.toNat * 5 + 2)).bind fun v13 => v13.toBool.bind fun v12 => bif !v12 then some (AExit.ret, X43_4 false v24.snd) else D43_4 n t0 t1 t2 t3 t4 (IntKind.i64.wrap (t11 + 1)) v24.snd else none else D43_4 n t0 t1 t2 t3 t4 (IntKind.i64.wrap (t11 + 1)) v24.snd else none else some (AExit.exit 0, X43_4a H) := by intros; exact (loopN_stepD hN43 _ _ _ _).trans (by kernel_rfl)
theorem q43 : ∀ (m : Option (Nat × Nat)) (t x2 w : Int) (write : Bool) (H : Heap), f43 m t x2 w write H = bif decide (t < 0) then some (false, H) else bif decide (t > 7) then some (false, H) else (f56 w H).bind fun v25 => bif !v25.fst then some (false, v25.snd) else bif decide (IntKind.u64.wrap (x2 + IntKind.u64.wrap (IntKind.i64.wrap (w - 1))) < x2) then some (false, v25.snd) else (LL43_4 m t x2 w write 0 v25.snd).bind J43_4 := by intros; exact (f43_run ..).trans (by kernel_rfl)
theorem J43_4_0 : ∀ (x0 : Bool) (H : Heap), J43_4 (AExit.ret, X43_4 x0 H) = some (x0, H) := by intros; kernel_rfl
theorem J43_4_1 : ∀ (H : Heap), J43_4 (AExit.exit 0, X43_4a H) = some (true, H) := by intros; kernel_rfl
theorem ok43 : FnOk Try.prog 43 (specF enc43 (sem43 f43)) := by
  refine spec_ok (C := CC43) good43 rfl rfl rfl (by kernel_rfl) Try.func43 (c := bodyOf Try.f43) (by kernel_rfl) (by kernel_rfl) (Nat.le_of_eq Try.ntmps43.symm) dec43 enc43 de43 _ ?_
  intro args H q h
  unfold sem43 at h
  split at h
  · rw [← f43_eq]; exact h
  · cases h
/-! 52: R9_Mem_byteOf -/
noncomputable def CC52 : Ctx := { P := Try.prog, own := [10], fns := [(14, specF enc14 (sem14 f14))], nt := 66, nums := [], live := [(7, ⟨[2, 8, 10, 41, 42, 43, 48, 49, 50], [10], [2, 8, 41, 42, 43], []⟩), (4, ⟨[2, 8, 41, 42, 43], [], [8], []⟩)] }
theorem good52 : Callees Try.prog CC52.fns [] CC52.nums := (Callees.nil Try.prog).cons ok14 (specF_nat _ _)
theorem hN52 : CtxNat CC52 := good52.ctx rfl rfl rfl
def enc52 (r : Int) : List TV := [.c (Cell.int .u8 (r))]
def dec52 : AV → Option (Int)
  | .c (Cell.int .u8 q0) => some (q0)
  | _ => none
theorem de52 (v : AV) (r : Int) (h : dec52 v = some r) : v = oneOf (enc52 r) := by
  unfold dec52 at h
  split at h
  · cases h; rfl
  · cases h
abbrev Ty52 := (Option (Nat × Nat)) → Int → Int → Heap → Option (Int × Heap)
def sem52 (f : Ty52) : List TV → Heap → Option (Int × Heap)
  | [.c (Cell.ptr m), .c (Cell.int .i64 t), .c (Cell.int .u64 x2)], H => f m t x2 H
  | _, _ => none
noncomputable def f52 : Ty52 := hide fun m t x2 H => fnA CC52 Try.f52.results.toList (bodyOf Try.f52) _ [.c (Cell.ptr m), .c (Cell.int .i64 t), .c (Cell.int .u64 x2)] H (decF dec52)
theorem f52_eq (m : (Option (Nat × Nat))) (t : Int) (x2 : Int) (H : Heap) : f52 m t x2 H = fnA CC52 Try.f52.results.toList (bodyOf Try.f52) _ [.c (Cell.ptr m), .c (Cell.int .i64 t), .c (Cell.int .u64 x2)] H (decF dec52) := by unfold f52; rw [hide_eq]
theorem f52_run (m : (Option (Nat × Nat))) (t : Int) (x2 : Int) (H : Heap) : f52 m t x2 H = fnL CC52 (lpD CC52) Try.f52.results.toList (bodyOf Try.f52) [.c (Cell.ptr m), .c (Cell.int .i64 t), .c (Cell.int .u64 x2)] H (decF dec52) := (f52_eq ..).trans (fnA_lpD hN52 ..)
def S52_4 (t2 : Int) (t8 : Int) (t41 : (Option Sl)) (t42 : Int) (t43 : Int) (H : Heap) : St := ⟨[(2, .c (Cell.int .u64 t2)), (8, .c (Cell.int .u8 t8)), (41, .c (Cell.slice t41)), (42, .c (Cell.int .i64 t42)), (43, .c (Cell.int .i64 t43))], [], H⟩
noncomputable def D52_4 (n : Nat) (t2 : Int) (t8 : Int) (t41 : (Option Sl)) (t42 : Int) (t43 : Int) (H : Heap) : Option (AExit × St) := loopN (exec CC52 (Code.l (Code.l (Code.r (Code.l (Code.r (Code.r (Code.r (bodyOf Try.f52))))))))) (keepOf CC52.live (Code.l (Code.l (Code.r (Code.l (Code.r (Code.r (Code.r (bodyOf Try.f52))))))))) n (S52_4 t2 t8 t41 t42 t43 H) retD
noncomputable def LL52_4 (t2 : Int) (t8 : Int) (t41 : (Option Sl)) (t42 : Int) (t43 : Int) (H : Heap) : Option (AExit × St) := loopsD CC52 (Code.l (Code.l (Code.r (Code.l (Code.r (Code.r (Code.r (bodyOf Try.f52)))))))) (S52_4 t2 t8 t41 t42 t43 H)
theorem LL52_4_of (m : Nat) (hm : m < 18446744073709551616) (t2 : Int) (t8 : Int) (t41 : (Option Sl)) (t42 : Int) (t43 : Int) (H : Heap) : ∃ n, LL52_4 t2 t8 t41 t42 t43 H = D52_4 (n + m + 1) t2 t8 t41 t42 t43 H := loopsD_of _ _ _ m hm
def S52_7 (t2 : Int) (t8 : Int) (t41 : (Option Sl)) (t42 : Int) (t43 : Int) (t48 : (Option Sl)) (t49 : Int) (t50 : Int) (b10_0 : Int) (b10_1 : (Option Sl)) (H : Heap) : St := ⟨[(2, .c (Cell.int .u64 t2)), (8, .c (Cell.int .u8 t8)), (10, .lp 10 0), (41, .c (Cell.slice t41)), (42, .c (Cell.int .i64 t42)), (43, .c (Cell.int .i64 t43)), (48, .c (Cell.slice t48)), (49, .c (Cell.int .i64 t49)), (50, .c (Cell.int .i64 t50))], [(10, [Cell.int .u64 b10_0, Cell.slice b10_1])], H⟩
noncomputable def D52_7 (n : Nat) (t2 : Int) (t8 : Int) (t41 : (Option Sl)) (t42 : Int) (t43 : Int) (t48 : (Option Sl)) (t49 : Int) (t50 : Int) (b10_0 : Int) (b10_1 : (Option Sl)) (H : Heap) : Option (AExit × St) := loopN (exec CC52 (Code.l (Code.l (Code.r (Code.r (Code.l (Code.l (Code.r (Code.r (Code.l (Code.l (Code.r (Code.l (Code.r (Code.r (Code.r (bodyOf Try.f52))))))))))))))))) (keepOf CC52.live (Code.l (Code.l (Code.r (Code.r (Code.l (Code.l (Code.r (Code.r (Code.l (Code.l (Code.r (Code.l (Code.r (Code.r (Code.r (bodyOf Try.f52))))))))))))))))) n (S52_7 t2 t8 t41 t42 t43 t48 t49 t50 b10_0 b10_1 H) retD
noncomputable def LL52_7 (t2 : Int) (t8 : Int) (t41 : (Option Sl)) (t42 : Int) (t43 : Int) (t48 : (Option Sl)) (t49 : Int) (t50 : Int) (b10_0 : Int) (b10_1 : (Option Sl)) (H : Heap) : Option (AExit × St) := loopsD CC52 (Code.l (Code.l (Code.r (Code.r (Code.l (Code.l (Code.r (Code.r (Code.l (Code.l (Code.r (Code.l (Code.r (Code.r (Code.r (bodyOf Try.f52)))))))))))))))) (S52_7 t2 t8 t41 t42 t43 t48 t49 t50 b10_0 b10_1 H)
theorem LL52_7_of (m : Nat) (hm : m < 18446744073709551616) (t2 : Int) (t8 : Int) (t41 : (Option Sl)) (t42 : Int) (t43 : Int) (t48 : (Option Sl)) (t49 : Int) (t50 : Int) (b10_0 : Int) (b10_1 : (Option Sl)) (H : Heap) : ∃ n, LL52_7 t2 t8 t41 t42 t43 t48 t49 t50 b10_0 b10_1 H = D52_7 (n + m + 1) t2 t8 t41 t42 t43 t48 t49 t50 b10_0 b10_1 H := loopsD_of _ _ _ m hm
def X52_7 (x0 : Int) (x1 : Int) (x2 : Option Sl) (x3 : Int) (x4 : Int) (H : Heap) : St := { env := [(2, AV.c (Cell.int IntKind.u64 x0)), (8, AV.c (Cell.int IntKind.u8 x1)), (41, AV.c (Cell.slice x2)), (42, AV.c (Cell.int IntKind.i64 x3)), (43, AV.c (Cell.int IntKind.i64 x4))], loc := [], heap := H }
def X52_4 (x0 : Int) (H : Heap) : St := { env := [(8, AV.c (Cell.int IntKind.u8 x0))], loc := [], heap := H }
noncomputable def J52_7 : Nat → AExit × St → Option (AExit × St) := fun n p => blockK 2 (blockK 1 (seqK (execL CC52 (lpD CC52) (Code.r (Code.r (Code.r (Code.l (Code.l (Code.r (Code.l (Code.r (Code.r (Code.r (bodyOf Try.f52)))))))))))) (loopK (some { t1 := [2, 8, 41, 42, 43], l1 := [], t2 := [8], l2 := [] }) (loopN (exec CC52 (Code.l (Code.l (Code.r (Code.l (Code.r (Code.r (Code.r (bodyOf Try.f52))))))))) (keepOf CC52.live (Code.l (Code.l (Code.r (Code.l (Code.r (Code.r (Code.r (bodyOf Try.f52))))))))) n) retD))) p.fst p.snd
noncomputable def J52_4 : AExit × St → Option (Int × Heap) := fun p => blockK 0 (seqK (execL CC52 (lpD CC52) (Code.r (Code.r (Code.r (Code.r (bodyOf Try.f52)))))) (retA CC52 [ResultVar.tmp 6] (decF dec52))) p.fst p.snd
theorem D52_7_s : ∀ (n : Nat) (t2 t8 : Int) (t41 : Option Sl) (t42 t43 : Int) (t48 : Option Sl) (t49 t50 b10_0 : Int) (b10_1 : Option Sl) (H : Heap), D52_7 (n + 1) t2 t8 t41 t42 t43 t48 t49 t50 b10_0 b10_1 H = bif decide (t50 < t49) then t48.bind fun v2 => bif inb t50 v2.len && v2.esz == 1 then (H.get v2.id (v2.off + t50.toNat * 1)).bind fun v1 => (Cell.toInt IntKind.u8 v1).bind fun v0 => bif IntKind.u64.wrap (b10_0 + IntKind.u64.wrap t50) == t2 then D52_7 n t2 v0 t41 t42 t43 t48 t49 (IntKind.i64.wrap (t50 + 1)) b10_0 b10_1 H else D52_7 n t2 t8 t41 t42 t43 t48 t49 (IntKind.i64.wrap (t50 + 1)) b10_0 b10_1 H else none else some (AExit.exit 2, X52_7 t2 t8 t41 t42 t43 H) := by intros; exact (loopN_stepD hN52 _ _ _ _).trans (by kernel_rfl)
theorem D52_4_s : ∀ (n : Nat) (t2 t8 : Int) (t41 : Option Sl) (t42 t43 : Int) (H : Heap), D52_4 (n + 1) t2 t8 t41 t42 t43 H = bif decide (t43 < t42) then t41.bind fun v7 => bif inb t43 v7.len && v7.esz == 2 then (H.get v7.id (v7.off + t43.toNat * 2)).bind fun v6 => (H.get v7.id (v7.off + t43.toNat * 2 + 1)).bind fun v5 => (Cell.toInt IntKind.u64 v6).bind fun v4 => v5.toSlice.bind fun v3 => (LL52_7 t2 t8 t41 t42 t43 v3 (slen v3) 0 v4 v3 H).bind (J52_7 n) else none else some (AExit.exit 0, X52_4 t8 H) := by intros; exact (loopN_stepD hN52 _ _ _ _).trans (by kernel_rfl)
theorem J52_7_0 : ∀ (n : Nat) (x0 x1 : Int) (x2 : Option Sl) (x3 x4 : Int) (H : Heap), J52_7 n (AExit.exit 2, X52_7 x0 x1 x2 x3 x4 H) = D52_4 n x0 x1 x2 x3 (IntKind.i64.wrap (x4 + 1)) H := by intros; kernel_rfl
theorem q52 : ∀ (m : Option (Nat × Nat)) (t x2 : Int) (H : Heap), f52 m t x2 H = (f14 m x2 H).bind fun v26 => m.bind fun v25 => (v26.snd.get v25.fst (v25.snd + 0)).bind fun v24 => v24.toSlice.bind fun v23 => v23.bind fun v22 => bif inb v26.fst v22.len && v22.esz == 5 then (v26.snd.get v22.id (v22.off + v26.fst.toNat * 5 + 1)).bind fun v21 => v21.toSlice.bind fun v20 => m.bind fun v19 => (v26.snd.get v19.fst (v19.snd + 0)).bind fun v18 => v18.toSlice.bind fun v17 => v17.bind fun v16 => bif inb v26.fst v16.len && v16.esz == 5 then (v26.snd.get v16.id (v16.off + v26.fst.toNat * 5 + 0)).bind fun v15 => (Cell.toInt IntKind.u64 v15).bind fun v14 => v20.bind fun v13 => bif inb (IntKind.u64.wrap (x2 - v14)) v13.len && v13.esz == 1 then (v26.snd.get v13.id (v13.off + (IntKind.u64.wrap (x2 - v14)).toNat * 1)).bind fun v12 => (Cell.toInt IntKind.u8 v12).bind fun v11 => m.bind fun v10 => bif inb t 8 then (v26.snd.get v10.fst (v10.snd + 1 + t.toNat * 1)).bind fun v9 => v9.toSlice.bind fun v8 => (LL52_4 x2 v11 v8 (slen v8) 0 v26.snd).bind J52_4 else none else none else none else none := by intros; exact (f52_run ..).trans (by kernel_rfl)
theorem J52_4_0 : ∀ (x0 : Int) (H : Heap), J52_4 (AExit.exit 0, X52_4 x0 H) = some (x0, H) := by intros; kernel_rfl
theorem ok52 : FnOk Try.prog 52 (specF enc52 (sem52 f52)) := by
  refine spec_ok (C := CC52) good52 rfl rfl rfl (by kernel_rfl) Try.func52 (c := bodyOf Try.f52) (by kernel_rfl) (by kernel_rfl) (Nat.le_of_eq Try.ntmps52.symm) dec52 enc52 de52 _ ?_
  intro args H q h
  unfold sem52 at h
  split at h
  · rw [← f52_eq]; exact h
  · cases h
/-! 53: R2_Num -/
noncomputable def CC53 : Ctx := { P := Try.prog, own := [], fns := [], nt := 21, nums := [], live := [(3, ⟨[0, 3, 4], [], [3], []⟩)] }
theorem good53 : Callees Try.prog CC53.fns [] CC53.nums := Callees.nil Try.prog
theorem hN53 : CtxNat CC53 := good53.ctx rfl rfl rfl
def enc53 (r : Int) : List TV := [.c (Cell.int .u64 (r))]
def dec53 : AV → Option (Int)
  | .c (Cell.int .u64 q0) => some (q0)
  | _ => none
theorem de53 (v : AV) (r : Int) (h : dec53 v = some r) : v = oneOf (enc53 r) := by
  unfold dec53 at h
  split at h
  · cases h; rfl
  · cases h
abbrev Ty53 := (Option Sl) → Heap → Option (Int × Heap)
def sem53 (f : Ty53) : List TV → Heap → Option (Int × Heap)
  | [.c (Cell.slice b)], H => f b H
  | _, _ => none
noncomputable def f53 : Ty53 := hide fun b H => fnA CC53 Try.f53.results.toList (bodyOf Try.f53) _ [.c (Cell.slice b)] H (decF dec53)
theorem f53_eq (b : (Option Sl)) (H : Heap) : f53 b H = fnA CC53 Try.f53.results.toList (bodyOf Try.f53) _ [.c (Cell.slice b)] H (decF dec53) := by unfold f53; rw [hide_eq]
theorem f53_run (b : (Option Sl)) (H : Heap) : f53 b H = fnL CC53 (lpD CC53) Try.f53.results.toList (bodyOf Try.f53) [.c (Cell.slice b)] H (decF dec53) := (f53_eq ..).trans (fnA_lpD hN53 ..)
def S53_3 (t0 : (Option Sl)) (t3 : Int) (t4 : Int) (H : Heap) : St := ⟨[(0, .c (Cell.slice t0)), (3, .c (Cell.int .u64 t3)), (4, .c (Cell.int .i64 t4))], [], H⟩
noncomputable def D53_3 (n : Nat) (t0 : (Option Sl)) (t3 : Int) (t4 : Int) (H : Heap) : Option (AExit × St) := loopN (exec CC53 (Code.l (Code.l (Code.r (Code.l (Code.r (Code.r (bodyOf Try.f53)))))))) (keepOf CC53.live (Code.l (Code.l (Code.r (Code.l (Code.r (Code.r (bodyOf Try.f53)))))))) n (S53_3 t0 t3 t4 H) retD
noncomputable def LL53_3 (t0 : (Option Sl)) (t3 : Int) (t4 : Int) (H : Heap) : Option (AExit × St) := loopsD CC53 (Code.l (Code.l (Code.r (Code.l (Code.r (Code.r (bodyOf Try.f53))))))) (S53_3 t0 t3 t4 H)
theorem LL53_3_of (m : Nat) (hm : m < 18446744073709551616) (t0 : (Option Sl)) (t3 : Int) (t4 : Int) (H : Heap) : ∃ n, LL53_3 t0 t3 t4 H = D53_3 (n + m + 1) t0 t3 t4 H := loopsD_of _ _ _ m hm
def X53_3 (x0 : Int) (H : Heap) : St := { env := [(3, AV.c (Cell.int IntKind.u64 x0))], loc := [], heap := H }
noncomputable def J53_3 : AExit × St → Option (Int × Heap) := fun p => blockK 0 (seqK (execL CC53 (lpD CC53) (Code.r (Code.r (Code.r (bodyOf Try.f53))))) (retA CC53 [ResultVar.tmp 2] (decF dec53))) p.fst p.snd
theorem D53_3_s : ∀ (n : Nat) (t0 : Option Sl) (t3 t4 : Int) (H : Heap), D53_3 (n + 1) t0 t3 t4 H = bif decide (t4 ≥ 0) then t0.bind fun v2 => bif inb t4 v2.len && v2.esz == 1 then (H.get v2.id (v2.off + t4.toNat * 1)).bind fun v1 => (Cell.toInt IntKind.u8 v1).bind fun v0 => D53_3 n t0 (IntKind.u64.wrap (IntKind.u64.wrap (t3 * 256) + IntKind.u64.wrap v0)) (IntKind.i64.wrap (t4 - 1)) H else none else some (AExit.exit 0, X53_3 t3 H) := by intros; exact (loopN_stepD hN53 _ _ _ _).trans (by kernel_rfl)
theorem q53 : ∀ (b : Option Sl) (H : Heap), f53 b H = (LL53_3 b 0 (IntKind.i64.wrap (slen b - 1)) H).bind J53_3 := by intros; exact (f53_run ..).trans (by kernel_rfl)
theorem J53_3_0 : ∀ (x0 : Int) (H : Heap), J53_3 (AExit.exit 0, X53_3 x0 H) = some (x0, H) := by intros; kernel_rfl
theorem ok53 : FnOk Try.prog 53 (specF enc53 (sem53 f53)) := by
  refine spec_ok (C := CC53) good53 rfl rfl rfl (by kernel_rfl) Try.func53 (c := bodyOf Try.f53) (by kernel_rfl) (by kernel_rfl) (Nat.le_of_eq Try.ntmps53.symm) dec53 enc53 de53 _ ?_
  intro args H q h
  unfold sem53 at h
  split at h
  · rw [← f53_eq]; exact h
  · cases h
/-! 37: R9_Mem_Load -/
noncomputable def CC37 : Ctx := { P := Try.prog, own := [], fns := [(53, specF enc53 (sem53 f53)), (52, specF enc52 (sem52 f52)), (43, specF enc43 (sem43 f43))], nt := 35, nums := [], live := [(5, ⟨[0, 1, 2, 3, 10, 11], [], [10], []⟩)] }
theorem good37 : Callees Try.prog CC37.fns [] CC37.nums := (((Callees.nil Try.prog).cons ok43 (specF_nat _ _)).cons ok52 (specF_nat _ _)).cons ok53 (specF_nat _ _)
theorem hN37 : CtxNat CC37 := good37.ctx rfl rfl rfl
def enc37 (r : Int × Bool) : List TV := [.c (Cell.int .u64 (r.1)), .c (Cell.bool (r.2))]
def dec37 : AV → Option (Int × Bool)
  | .tup [.c (Cell.int .u64 q0), .c (Cell.bool q1)] => some (q0, q1)
  | _ => none
theorem de37 (v : AV) (r : Int × Bool) (h : dec37 v = some r) : v = oneOf (enc37 r) := by
  unfold dec37 at h
  split at h
  · cases h; rfl
  · cases h
abbrev Ty37 := (Option (Nat × Nat)) → Int → Int → Int → Heap → Option ((Int × Bool) × Heap)
def sem37 (f : Ty37) : List TV → Heap → Option ((Int × Bool) × Heap)
  | [.c (Cell.ptr m), .c (Cell.int .i64 t), .c (Cell.int .u64 x2), .c (Cell.int .i64 w)], H => f m t x2 w H
  | _, _ => none
noncomputable def f37 : Ty37 := hide fun m t x2 w H => fnA CC37 Try.f37.results.toList (bodyOf Try.f37) _ [.c (Cell.ptr m), .c (Cell.int .i64 t), .c (Cell.int .u64 x2), .c (Cell.int .i64 w)] H (decF dec37)
theorem f37_eq (m : (Option (Nat × Nat))) (t : Int) (x2 : Int) (w : Int) (H : Heap) : f37 m t x2 w H = fnA CC37 Try.f37.results.toList (bodyOf Try.f37) _ [.c (Cell.ptr m), .c (Cell.int .i64 t), .c (Cell.int .u64 x2), .c (Cell.int .i64 w)] H (decF dec37) := by unfold f37; rw [hide_eq]
theorem f37_run (m : (Option (Nat × Nat))) (t : Int) (x2 : Int) (w : Int) (H : Heap) : f37 m t x2 w H = fnL CC37 (lpD CC37) Try.f37.results.toList (bodyOf Try.f37) [.c (Cell.ptr m), .c (Cell.int .i64 t), .c (Cell.int .u64 x2), .c (Cell.int .i64 w)] H (decF dec37) := (f37_eq ..).trans (fnA_lpD hN37 ..)
def S37_5 (t0 : (Option (Nat × Nat))) (t1 : Int) (t2 : Int) (t3 : Int) (t10 : (Option Sl)) (t11 : Int) (H : Heap) : St := ⟨[(0, .c (Cell.ptr t0)), (1, .c (Cell.int .i64 t1)), (2, .c (Cell.int .u64 t2)), (3, .c (Cell.int .i64 t3)), (10, .c (Cell.slice t10)), (11, .c (Cell.int .i64 t11))], [], H⟩
noncomputable def D37_5 (n : Nat) (t0 : (Option (Nat × Nat))) (t1 : Int) (t2 : Int) (t3 : Int) (t10 : (Option Sl)) (t11 : Int) (H : Heap) : Option (AExit × St) := loopN (exec CC37 (Code.l (Code.l (Code.r (Code.l (Code.r (Code.r (Code.r (bodyOf Try.f37))))))))) (keepOf CC37.live (Code.l (Code.l (Code.r (Code.l (Code.r (Code.r (Code.r (bodyOf Try.f37))))))))) n (S37_5 t0 t1 t2 t3 t10 t11 H) retD
noncomputable def LL37_5 (t0 : (Option (Nat × Nat))) (t1 : Int) (t2 : Int) (t3 : Int) (t10 : (Option Sl)) (t11 : Int) (H : Heap) : Option (AExit × St) := loopsD CC37 (Code.l (Code.l (Code.r (Code.l (Code.r (Code.r (Code.r (bodyOf Try.f37)))))))) (S37_5 t0 t1 t2 t3 t10 t11 H)
theorem LL37_5_of (m : Nat) (hm : m < 18446744073709551616) (t0 : (Option (Nat × Nat))) (t1 : Int) (t2 : Int) (t3 : Int) (t10 : (Option Sl)) (t11 : Int) (H : Heap) : ∃ n, LL37_5 t0 t1 t2 t3 t10 t11 H = D37_5 (n + m + 1) t0 t1 t2 t3 t10 t11 H := loopsD_of _ _ _ m hm
def X37_5 (x0 : Option Sl) (H : Heap) : St := { env := [(10, AV.c (Cell.slice x0))], loc := [], heap := H }
noncomputable def J37_5 : AExit × St → Option ((Int × Bool) × Heap) := fun p => blockK 0 (seqK (execL CC37 (lpD CC37) (Code.r (Code.r (Code.r (Code.r (bodyOf Try.f37)))))) (retA CC37 [ResultVar.tmp 8, ResultVar.tmp 9] (decF dec37))) p.fst p.snd
theorem D37_5_s : ∀ (n : Nat) (t0 : Option (Nat × Nat)) (t1 t2 t3 : Int) (t10 : Option Sl) (t11 : Int) (H : Heap), D37_5 (n + 1) t0 t1 t2 t3 t10 t11 H = bif decide (t11 < t3) then (f52 t0 t1 (IntKind.u64.wrap (t2 + IntKind.u64.wrap t11)) H).bind fun v1 => ((v1.snd ++ [Blk.row [Cell.int IntKind.u8 v1.fst] false]).append 1 1 t10 (some { id := List.length v1.snd, off := 0, len := 1, cap := 1, esz := 1 })).bind fun v0 => D37_5 n t0 t1 t2 t3 v0.fst (IntKind.i64.wrap (t11 + 1)) v0.snd else some (AExit.exit 0, X37_5 t10 H) := by intros; exact (loopN_stepD hN37 _ _ _ _).trans (by kernel_rfl)
theorem q37 : ∀ (m : Option (Nat × Nat)) (t x2 w : Int) (H : Heap), f37 m t x2 w H = (f43 m t x2 w false H).bind fun v2 => bif !v2.fst then some ((0, false), v2.snd) else (LL37_5 m t x2 w none 0 v2.snd).bind J37_5 := by intros; exact (f37_run ..).trans (by kernel_rfl)
theorem J37_5_0 : ∀ (x0 : Option Sl) (H : Heap), J37_5 (AExit.exit 0, X37_5 x0 H) = (f53 x0 H).bind fun v3 => some ((v3.fst, true), v3.snd) := by intros; kernel_rfl
theorem ok37 : FnOk Try.prog 37 (specF enc37 (sem37 f37)) := by
  refine spec_ok (C := CC37) good37 rfl rfl rfl (by kernel_rfl) Try.func37 (c := bodyOf Try.f37) (by kernel_rfl) (by kernel_rfl) (Nat.le_of_eq Try.ntmps37.symm) dec37 enc37 de37 _ ?_
  intro args H q h
  unfold sem37 at h
  split at h
  · rw [← f37_eq]; exact h
  · cases h
/-! 55: R9_Mem_write -/
noncomputable def CC55 : Ctx := { P := Try.prog, own := [3], fns := [(14, specF enc14 (sem14 f14))], nt := 47, nums := [], live := [(2, ⟨[0, 3, 8, 9, 10], [3], [], []⟩)] }
theorem good55 : Callees Try.prog CC55.fns [] CC55.nums := (Callees.nil Try.prog).cons ok14 (specF_nat _ _)
theorem hN55 : CtxNat CC55 := good55.ctx rfl rfl rfl
def enc55 (r : Unit) : List TV := []
def dec55 : AV → Option (Unit)
  | .tup [] => some ()
  | _ => none
theorem de55 (v : AV) (r : Unit) (h : dec55 v = some r) : v = oneOf (enc55 r) := by
  unfold dec55 at h
  split at h
  · cases h; rfl
  · cases h
abbrev Ty55 := (Option (Nat × Nat)) → Int → (Option Sl) → Heap → Option (Unit × Heap)
def sem55 (f : Ty55) : List TV → Heap → Option (Unit × Heap)
  | [.c (Cell.ptr m), .agg [Cell.int .u64 s0, Cell.slice s1]], H => f m s0 s1 H
  | _, _ => none
noncomputable def f55 : Ty55 := hide fun m s0 s1 H => fnA CC55 Try.f55.results.toList (bodyOf Try.f55) _ [.c (Cell.ptr m), .agg [Cell.int .u64 s0, Cell.slice s1]] H (decF dec55)
theorem f55_eq (m : (Option (Nat × Nat))) (s0 : Int) (s1 : (Option Sl)) (H : Heap) : f55 m s0 s1 H = fnA CC55 Try.f55.results.toList (bodyOf Try.f55) _ [.c (Cell.ptr m), .agg [Cell.int .u64 s0, Cell.slice s1]] H (decF dec55) := by unfold f55; rw [hide_eq]
theorem f55_run (m : (Option (Nat × Nat))) (s0 : Int) (s1 : (Option Sl)) (H : Heap) : f55 m s0 s1 H = fnL CC55 (lpD CC55) Try.f55.results.toList (bodyOf Try.f55) [.c (Cell.ptr m), .agg [Cell.int .u64 s0, Cell.slice s1]] H (decF dec55) := (f55_eq ..).trans (fnA_lpD hN55 ..)
def S55_2 (t0 : (Option (Nat × Nat))) (t8 : (Option Sl)) (t9 : Int) (t10 : Int) (b3_0 : Int) (b3_1 : (Option Sl)) (H : Heap) : St := ⟨[(0, .c (Cell.ptr t0)), (3, .lp 3 0), (8, .c (Cell.slice t8)), (9, .c (Cell.int .i64 t9)), (10, .c (Cell.int .i64 t10))], [(3, [Cell.int .u64 b3_0, Cell.slice b3_1])], H⟩
noncomputable def D55_2 (n : Nat) (t0 : (Option (Nat × Nat))) (t8 : (Option Sl)) (t9 : Int) (t10 : Int) (b3_0 : Int) (b3_1 : (Option Sl)) (H : Heap) : Option (AExit × St) := loopN (exec CC55 (Code.l (Code.l (Code.r (Code.r (bodyOf Try.f55)))))) (keepOf CC55.live (Code.l (Code.l (Code.r (Code.r (bodyOf Try.f55)))))) n (S55_2 t0 t8 t9 t10 b3_0 b3_1 H) retD
noncomputable def LL55_2 (t0 : (Option (Nat × Nat))) (t8 : (Option Sl)) (t9 : Int) (t10 : Int) (b3_0 : Int) (b3_1 : (Option Sl)) (H : Heap) : Option (AExit × St) := loopsD CC55 (Code.l (Code.l (Code.r (Code.r (bodyOf Try.f55))))) (S55_2 t0 t8 t9 t10 b3_0 b3_1 H)
theorem LL55_2_of (m : Nat) (hm : m < 18446744073709551616) (t0 : (Option (Nat × Nat))) (t8 : (Option Sl)) (t9 : Int) (t10 : Int) (b3_0 : Int) (b3_1 : (Option Sl)) (H : Heap) : ∃ n, LL55_2 t0 t8 t9 t10 b3_0 b3_1 H = D55_2 (n + m + 1) t0 t8 t9 t10 b3_0 b3_1 H := loopsD_of _ _ _ m hm
def X55_2 (H : Heap) : St := { env := [], loc := [], heap := H }
noncomputable def J55_2 : AExit × St → Option (Unit × Heap) := fun p => blockK 0 (retA CC55 [] (decF dec55)) p.fst p.snd
theorem D55_2_s : ∀ (n : Nat) (t0 : Option (Nat × Nat)) (t8 : Option Sl) (t9 t10 b3_0 : Int) (b3_1 : Option Sl) (H : Heap), D55_2 (n + 1) t0 t8 t9 t10 b3_0 b3_1 H = bif decide (t10 < t9) then t8.bind fun v17 => bif inb t10 v17.len && v17.esz == 1 then (H.get v17.id (v17.off + t10.toNat * 1)).bind fun v16 => (Cell.toInt IntKind.u8 v16).bind fun v15 => (f14 t0 (IntKind.u64.wrap (b3_0 + IntKind.u64.wrap t10)) H).bind fun v14 => t0.bind fun v13 => (v14.snd.get v13.fst (v13.snd + 0)).bind fun v12 => v12.toSlice.bind fun v11 => v11.bind fun v10 => bif inb v14.fst v10.len && v10.esz == 5 then (v14.snd.get v10.id (v10.off + v14.fst.toNat * 5 + 1)).bind fun v9 => v9.toSlice.bind fun v8 => t0.bind fun v7 => (v14.snd.get v7.fst (v7.snd + 0)).bind fun v6 => v6.toSlice.bind fun v5 => v5.bind fun v4 => bif inb v14.fst v4.len && v4.esz == 5 then (v14.snd.get v4.id (v4.off + v14.fst.toNat * 5 + 0)).bind fun v3 => (Cell.toInt IntKind.u64 v3).bind fun v2 => v8.bind fun v1 => bif inb (IntKind.u64.wrap (IntKind.u64.wrap (b3_0 + IntKind.u64.wrap t10) - v2)) v1.len && v1.esz == 1 then (v14.snd.put v1.id (v1.off + (IntKind.u64.wrap (IntKind.u64.wrap (b3_0 + IntKind.u64.wrap t10) - v2)).toNat * 1) [Cell.int IntKind.u8 v15]).bind fun v0 => D55_2 n t0 t8 t9 (IntKind.i64.wrap (t10 + 1)) b3_0 b3_1 v0 else none else none else none else none else some (AExit.exit 0, X55_2 H) := by intros; exact (loopN_stepD hN55 _ _ _ _).trans (by kernel_rfl)
theorem q55 : ∀ (m : Option (Nat × Nat)) (s0 : Int) (s1 : Option Sl) (H : Heap), f55 m s0 s1 H = (LL55_2 m s1 (slen s1) 0 s0 s1 H).bind J55_2 := by intros; exact (f55_run ..).trans (by kernel_rfl)
theorem J55_2_0 : ∀ (H : Heap), J55_2 (AExit.exit 0, X55_2 H) = some ((), H) := by intros; kernel_rfl
theorem ok55 : FnOk Try.prog 55 (specF enc55 (sem55 f55)) := by
  refine spec_ok (C := CC55) good55 rfl rfl rfl (by kernel_rfl) Try.func55 (c := bodyOf Try.f55) (by kernel_rfl) (by kernel_rfl) (Nat.le_of_eq Try.ntmps55.symm) dec55 enc55 de55 _ ?_
  intro args H q h
  unfold sem55 at h
  split at h
  · rw [← f55_eq]; exact h
  · cases h
/-! 40: R9_Mem_Drain -/
noncomputable def CC40 : Ctx := { P := Try.prog, own := [], fns := [(55, specF enc55 (sem55 f55))], nt := 46, nums := [], live := [] }
theorem good40 : Callees Try.prog CC40.fns [] CC40.nums := (Callees.nil Try.prog).cons ok55 (specF_nat _ _)
theorem hN40 : CtxNat CC40 := good40.ctx rfl rfl rfl
def enc40 (r : Bool) : List TV := [.c (Cell.bool (r))]
def dec40 : AV → Option (Bool)
  | .c (Cell.bool q0) => some (q0)
  | _ => none
theorem de40 (v : AV) (r : Bool) (h : dec40 v = some r) : v = oneOf (enc40 r) := by
  unfold dec40 at h
  split at h
  · cases h; rfl
  · cases h
abbrev Ty40 := (Option (Nat × Nat)) → Int → Heap → Option (Bool × Heap)
def sem40 (f : Ty40) : List TV → Heap → Option (Bool × Heap)
  | [.c (Cell.ptr m), .c (Cell.int .i64 t)], H => f m t H
  | _, _ => none
noncomputable def f40 : Ty40 := hide fun m t H => fnA CC40 Try.f40.results.toList (bodyOf Try.f40) _ [.c (Cell.ptr m), .c (Cell.int .i64 t)] H (decF dec40)
theorem f40_eq (m : (Option (Nat × Nat))) (t : Int) (H : Heap) : f40 m t H = fnA CC40 Try.f40.results.toList (bodyOf Try.f40) _ [.c (Cell.ptr m), .c (Cell.int .i64 t)] H (decF dec40) := by unfold f40; rw [hide_eq]
theorem f40_run (m : (Option (Nat × Nat))) (t : Int) (H : Heap) : f40 m t H = fnL CC40 (lpD CC40) Try.f40.results.toList (bodyOf Try.f40) [.c (Cell.ptr m), .c (Cell.int .i64 t)] H (decF dec40) := (f40_eq ..).trans (fnA_lpD hN40 ..)
theorem q40 : ∀ (m : Option (Nat × Nat)) (t : Int) (H : Heap), f40 m t H = bif decide (t < 0) then some (false, H) else bif decide (t > 7) then some (false, H) else m.bind fun v18 => bif inb t 8 then (H.get v18.fst (v18.snd + 1 + t.toNat * 1)).bind fun v17 => v17.toSlice.bind fun v16 => bif slen v16 == 0 then some (false, H) else m.bind fun v15 => bif inb t 8 then (H.get v15.fst (v15.snd + 1 + t.toNat * 1)).bind fun v14 => v14.toSlice.bind fun v13 => v13.bind fun v12 => bif inb 0 v12.len && v12.esz == 2 then (H.get v12.id (v12.off + 0)).bind fun v11 => (H.get v12.id (v12.off + 0 + 1)).bind fun v10 => (Cell.toInt IntKind.u64 v11).bind fun v9 => v10.toSlice.bind fun v8 => (f55 m v9 v8 H).bind fun v7 => m.bind fun v6 => bif inb t 8 then (v7.snd.get v6.fst (v6.snd + 1 + t.toNat * 1)).bind fun v5 => v5.toSlice.bind fun v4 => (Sl.sub v4 1 none).bind fun v3 => bif esOk v4 2 then (v7.snd.append 2 32 none v3).bind fun v2 => m.bind fun v1 => bif inb t 8 then (v2.snd.put v1.fst (v1.snd + 1 + t.toNat * 1) [Cell.slice v2.fst]).bind fun v0 => some (true, v0) else none else none else none else none else none else none := by intros; exact (f40_run ..).trans (by kernel_rfl)
theorem ok40 : FnOk Try.prog 40 (specF enc40 (sem40 f40)) := by
  refine spec_ok (C := CC40) good40 rfl rfl rfl (by kernel_rfl) Try.func40 (c := bodyOf Try.f40) (by kernel_rfl) (by kernel_rfl) (Nat.le_of_eq Try.ntmps40.symm) dec40 enc40 de40 _ ?_
  intro args H q h
  unfold sem40 at h
  split at h
  · rw [← f40_eq]; exact h
  · cases h
/-! 54: R2_Bytes -/
noncomputable def CC54 : Ctx := { P := Try.prog, own := [], fns := [], nt := 21, nums := [], live := [(3, ⟨[0, 1, 5, 6], [], [5], []⟩)] }
theorem good54 : Callees Try.prog CC54.fns [] CC54.nums := Callees.nil Try.prog
theorem hN54 : CtxNat CC54 := good54.ctx rfl rfl rfl
def enc54 (r : (Option Sl)) : List TV := [.c (Cell.slice (r))]
def dec54 : AV → Option ((Option Sl))
  | .c (Cell.slice q0) => some (q0)
  | _ => none
theorem de54 (v : AV) (r : (Option Sl)) (h : dec54 v = some r) : v = oneOf (enc54 r) := by
  unfold dec54 at h
  split at h
  · cases h; rfl
  · cases h
abbrev Ty54 := Int → Int → Heap → Option ((Option Sl) × Heap)
def sem54 (f : Ty54) : List TV → Heap → Option ((Option Sl) × Heap)
  | [.c (Cell.int .i64 w), .c (Cell.int .u64 v)], H => f w v H
  | _, _ => none
noncomputable def f54 : Ty54 := hide fun w v H => fnA CC54 Try.f54.results.toList (bodyOf Try.f54) _ [.c (Cell.int .i64 w), .c (Cell.int .u64 v)] H (decF dec54)
theorem f54_eq (w : Int) (v : Int) (H : Heap) : f54 w v H = fnA CC54 Try.f54.results.toList (bodyOf Try.f54) _ [.c (Cell.int .i64 w), .c (Cell.int .u64 v)] H (decF dec54) := by unfold f54; rw [hide_eq]
theorem f54_run (w : Int) (v : Int) (H : Heap) : f54 w v H = fnL CC54 (lpD CC54) Try.f54.results.toList (bodyOf Try.f54) [.c (Cell.int .i64 w), .c (Cell.int .u64 v)] H (decF dec54) := (f54_eq ..).trans (fnA_lpD hN54 ..)
def S54_3 (t0 : Int) (t1 : Int) (t5 : (Option Sl)) (t6 : Int) (H : Heap) : St := ⟨[(0, .c (Cell.int .i64 t0)), (1, .c (Cell.int .u64 t1)), (5, .c (Cell.slice t5)), (6, .c (Cell.int .i64 t6))], [], H⟩
noncomputable def D54_3 (n : Nat) (t0 : Int) (t1 : Int) (t5 : (Option Sl)) (t6 : Int) (H : Heap) : Option (AExit × St) := loopN (exec CC54 (Code.l (Code.l (Code.r (Code.l (Code.r (Code.r (bodyOf Try.f54)))))))) (keepOf CC54.live (Code.l (Code.l (Code.r (Code.l (Code.r (Code.r (bodyOf Try.f54)))))))) n (S54_3 t0 t1 t5 t6 H) retD
noncomputable def LL54_3 (t0 : Int) (t1 : Int) (t5 : (Option Sl)) (t6 : Int) (H : Heap) : Option (AExit × St) := loopsD CC54 (Code.l (Code.l (Code.r (Code.l (Code.r (Code.r (bodyOf Try.f54))))))) (S54_3 t0 t1 t5 t6 H)
theorem LL54_3_of (m : Nat) (hm : m < 18446744073709551616) (t0 : Int) (t1 : Int) (t5 : (Option Sl)) (t6 : Int) (H : Heap) : ∃ n, LL54_3 t0 t1 t5 t6 H = D54_3 (n + m + 1) t0 t1 t5 t6 H := loopsD_of _ _ _ m hm
def X54_3 (x0 : Option Sl) (H : Heap) : St := { env := [(5, AV.c (Cell.slice x0))], loc := [], heap := H }
noncomputable def J54_3 : AExit × St → Option (Option Sl × Heap) := fun p => blockK 0 (seqK (execL CC54 (lpD CC54) (Code.r (Code.r (Code.r (bodyOf Try.f54))))) (retA CC54 [ResultVar.tmp 4] (decF dec54))) p.fst p.snd
theorem D54_3_s : ∀ (n : Nat) (t0 t1 : Int) (t5 : Option Sl) (t6 : Int) (H : Heap), D54_3 (n + 1) t0 t1 t5 t6 H = bif decide (t6 < t0) then ((H ++ [Blk.row [Cell.int IntKind.u8 (IntKind.u8.wrap (t1.tmod 256))] false]).append 1 1 t5 (some { id := List.length H, off := 0, len := 1, cap := 1, esz := 1 })).bind fun v0 => D54_3 n t0 (IntKind.u64.wrap (t1.tdiv 256)) v0.fst (IntKind.i64.wrap (t6 + 1)) v0.snd else some (AExit.exit 0, X54_3 t5 H) := by intros; exact (loopN_stepD hN54 _ _ _ _).trans (by kernel_rfl)
theorem q54 : ∀ (w v : Int) (H : Heap), f54 w v H = (LL54_3 w v none 0 H).bind J54_3 := by intros; exact (f54_run ..).trans (by kernel_rfl)
theorem J54_3_0 : ∀ (x0 : Option Sl) (H : Heap), J54_3 (AExit.exit 0, X54_3 x0 H) = some (x0, H) := by intros; kernel_rfl
theorem ok54 : FnOk Try.prog 54 (specF enc54 (sem54 f54)) := by
  refine spec_ok (C := CC54) good54 rfl rfl rfl (by kernel_rfl) Try.func54 (c := bodyOf Try.f54) (by kernel_rfl) (by kernel_rfl) (Nat.le_of_eq Try.ntmps54.symm) dec54 enc54 de54 _ ?_
  intro args H q h
  unfold sem54 at h
  split at h
  · rw [← f54_eq]; exact h
  · cases h
/-! 38: R9_Mem_Store -/
noncomputable def CC38 : Ctx := { P := Try.prog, own := [], fns := [(54, specF enc54 (sem54 f54)), (40, specF enc40 (sem40 f40)), (43, specF enc43 (sem43 f43))], nt := 46, nums := [], live := [] }
theorem good38 : Callees Try.prog CC38.fns [] CC38.nums := (((Callees.nil Try.prog).cons ok43 (specF_nat _ _)).cons ok40 (specF_nat _ _)).cons ok54 (specF_nat _ _)
theorem hN38 : CtxNat CC38 := good38.ctx rfl rfl rfl
def enc38 (r : Bool) : List TV := [.c (Cell.bool (r))]
def dec38 : AV → Option (Bool)
  | .c (Cell.bool q0) => some (q0)
  | _ => none
theorem de38 (v : AV) (r : Bool) (h : dec38 v = some r) : v = oneOf (enc38 r) := by
  unfold dec38 at h
  split at h
  · cases h; rfl
  · cases h
abbrev Ty38 := (Option (Nat × Nat)) → Int → Int → Int → Int → Heap → Option (Bool × Heap)
def sem38 (f : Ty38) : List TV → Heap → Option (Bool × Heap)
  | [.c (Cell.ptr m), .c (Cell.int .i64 t), .c (Cell.int .u64 x2), .c (Cell.int .i64 w), .c (Cell.int .u64 v)], H => f m t x2 w v H
  | _, _ => none
noncomputable def f38 : Ty38 := hide fun m t x2 w v H => fnA CC38 Try.f38.results.toList (bodyOf Try.f38) _ [.c (Cell.ptr m), .c (Cell.int .i64 t), .c (Cell.int .u64 x2), .c (Cell.int .i64 w), .c (Cell.int .u64 v)] H (decF dec38)
theorem f38_eq (m : (Option (Nat × Nat))) (t : Int) (x2 : Int) (w : Int) (v : Int) (H : Heap) : f38 m t x2 w v H = fnA CC38 Try.f38.results.toList (bodyOf Try.f38) _ [.c (Cell.ptr m), .c (Cell.int .i64 t), .c (Cell.int .u64 x2), .c (Cell.int .i64 w), .c (Cell.int .u64 v)] H (decF dec38) := by unfold f38; rw [hide_eq]
theorem f38_run (m : (Option (Nat × Nat))) (t : Int) (x2 : Int) (w : Int) (v : Int) (H : Heap) : f38 m t x2 w v H = fnL CC38 (lpD CC38) Try.f38.results.toList (bodyOf Try.f38) [.c (Cell.ptr m), .c (Cell.int .i64 t), .c (Cell.int .u64 x2), .c (Cell.int .i64 w), .c (Cell.int .u64 v)] H (decF dec38) := (f38_eq ..).trans (fnA_lpD hN38 ..)
theorem q38 : ∀ (m : Option (Nat × Nat)) (t x2 w v : Int) (H : Heap), f38 m t x2 w v H = (f43 m t x2 w true H).bind fun v18 => bif !v18.fst then some (false, v18.snd) else m.bind fun v17 => bif inb t 8 then (v18.snd.get v17.fst (v17.snd + 1 + t.toNat * 1)).bind fun v16 => v16.toSlice.bind fun v15 => bif decide (slen v15 ≥ 65536) then (f40 m t v18.snd).bind fun v7 => m.bind fun v6 => bif inb t 8 then (v7.snd.get v6.fst (v6.snd + 1 + t.toNat * 1)).bind fun v5 => v5.toSlice.bind fun v4 => (f54 w v v7.snd).bind fun v3 => bif same v6.fst v7.snd v3.snd then ((v3.snd ++ [Blk.row [Cell.int IntKind.u64 x2, Cell.slice v3.fst] false]).append 2 32 v4 (some { id := List.length v3.snd, off := 0, len := 1, cap := 1, esz := 2 })).bind fun v2 => m.bind fun v1 => bif inb t 8 then (v2.snd.put v1.fst (v1.snd + 1 + t.toNat * 1) [Cell.slice v2.fst]).bind fun v0 => some (true, v0) else none else none else none else m.bind fun v14 => bif inb t 8 then (v18.snd.get v14.fst (v14.snd + 1 + t.toNat * 1)).bind fun v13 => v13.toSlice.bind fun v12 => (f54 w v v18.snd).bind fun v11 => bif same v14.fst v18.snd v11.snd then ((v11.snd ++ [Blk.row [Cell.int IntKind.u64 x2, Cell.slice v11.fst] false]).append 2 32 v12 (some { id := List.length v11.snd, off := 0, len := 1, cap := 1, esz := 2 })).bind fun v10 => m.bind fun v9 => bif inb t 8 then (v10.snd.put v9.fst (v9.snd + 1 + t.toNat * 1) [Cell.slice v10.fst]).bind fun v8 => some (true, v8) else none else none else none else none := by intros; exact (f38_run ..).trans (by kernel_rfl)
theorem ok38 : FnOk Try.prog 38 (specF enc38 (sem38 f38)) := by
  refine spec_ok (C := CC38) good38 rfl rfl rfl (by kernel_rfl) Try.func38 (c := bodyOf Try.f38) (by kernel_rfl) (by kernel_rfl) (Nat.le_of_eq Try.ntmps38.symm) dec38 enc38 de38 _ ?_
  intro args H q h
  unfold sem38 at h
  split at h
  · rw [← f38_eq]; exact h
  · cases h
/-! 41: R9_Mem_Flush -/
noncomputable def CC41 : Ctx := { P := Try.prog, own := [], fns := [(40, specF enc40 (sem40 f40))], nt := 12, nums := [], live := [(2, ⟨[0, 1, 5], [], [5], []⟩)] }
theorem good41 : Callees Try.prog CC41.fns [] CC41.nums := (Callees.nil Try.prog).cons ok40 (specF_nat _ _)
theorem hN41 : CtxNat CC41 := good41.ctx rfl rfl rfl
def enc41 (r : Int) : List TV := [.c (Cell.int .i64 (r))]
def dec41 : AV → Option (Int)
  | .c (Cell.int .i64 q0) => some (q0)
  | _ => none
theorem de41 (v : AV) (r : Int) (h : dec41 v = some r) : v = oneOf (enc41 r) := by
  unfold dec41 at h
  split at h
  · cases h; rfl
  · cases h
abbrev Ty41 := (Option (Nat × Nat)) → Int → Heap → Option (Int × Heap)
def sem41 (f : Ty41) : List TV → Heap → Option (Int × Heap)
  | [.c (Cell.ptr m), .c (Cell.int .i64 t)], H => f m t H
  | _, _ => none
noncomputable def f41 : Ty41 := hide fun m t H => fnA CC41 Try.f41.results.toList (bodyOf Try.f41) _ [.c (Cell.ptr m), .c (Cell.int .i64 t)] H (decF dec41)
theorem f41_eq (m : (Option (Nat × Nat))) (t : Int) (H : Heap) : f41 m t H = fnA CC41 Try.f41.results.toList (bodyOf Try.f41) _ [.c (Cell.ptr m), .c (Cell.int .i64 t)] H (decF dec41) := by unfold f41; rw [hide_eq]
theorem f41_run (m : (Option (Nat × Nat))) (t : Int) (H : Heap) : f41 m t H = fnL CC41 (lpD CC41) Try.f41.results.toList (bodyOf Try.f41) [.c (Cell.ptr m), .c (Cell.int .i64 t)] H (decF dec41) := (f41_eq ..).trans (fnA_lpD hN41 ..)
def S41_2 (t0 : (Option (Nat × Nat))) (t1 : Int) (t5 : Int) (H : Heap) : St := ⟨[(0, .c (Cell.ptr t0)), (1, .c (Cell.int .i64 t1)), (5, .c (Cell.int .i64 t5))], [], H⟩
noncomputable def D41_2 (n : Nat) (t0 : (Option (Nat × Nat))) (t1 : Int) (t5 : Int) (H : Heap) : Option (AExit × St) := loopN (exec CC41 (Code.l (Code.l (Code.l (Code.r (Code.r (bodyOf Try.f41))))))) (keepOf CC41.live (Code.l (Code.l (Code.l (Code.r (Code.r (bodyOf Try.f41))))))) n (S41_2 t0 t1 t5 H) retD
noncomputable def LL41_2 (t0 : (Option (Nat × Nat))) (t1 : Int) (t5 : Int) (H : Heap) : Option (AExit × St) := loopsD CC41 (Code.l (Code.l (Code.l (Code.r (Code.r (bodyOf Try.f41)))))) (S41_2 t0 t1 t5 H)
theorem LL41_2_of (m : Nat) (hm : m < 18446744073709551616) (t0 : (Option (Nat × Nat))) (t1 : Int) (t5 : Int) (H : Heap) : ∃ n, LL41_2 t0 t1 t5 H = D41_2 (n + m + 1) t0 t1 t5 H := loopsD_of _ _ _ m hm
def X41_2 (x0 : Int) (H : Heap) : St := { env := [(5, AV.c (Cell.int IntKind.i64 x0))], loc := [], heap := H }
noncomputable def J41_2 : AExit × St → Option (Int × Heap) := fun p => blockK 0 (seqK (execL CC41 (lpD CC41) (Code.r (Code.r (Code.r (bodyOf Try.f41))))) (retA CC41 [ResultVar.tmp 4] (decF dec41))) p.fst p.snd
theorem D41_2_s : ∀ (n : Nat) (t0 : Option (Nat × Nat)) (t1 t5 : Int) (H : Heap), D41_2 (n + 1) t0 t1 t5 H = (f40 t0 t1 H).bind fun v0 => bif v0.fst then D41_2 n t0 t1 (IntKind.i64.wrap (t5 + 1)) v0.snd else some (AExit.exit 0, X41_2 t5 v0.snd) := by intros; exact (loopN_stepD hN41 _ _ _ _).trans (by kernel_rfl)
theorem q41 : ∀ (m : Option (Nat × Nat)) (t : Int) (H : Heap), f41 m t H = (LL41_2 m t 0 H).bind J41_2 := by intros; exact (f41_run ..).trans (by kernel_rfl)
theorem J41_2_0 : ∀ (x0 : Int) (H : Heap), J41_2 (AExit.exit 0, X41_2 x0 H) = some (x0, H) := by intros; kernel_rfl
theorem ok41 : FnOk Try.prog 41 (specF enc41 (sem41 f41)) := by
  refine spec_ok (C := CC41) good41 rfl rfl rfl (by kernel_rfl) Try.func41 (c := bodyOf Try.f41) (by kernel_rfl) (by kernel_rfl) (Nat.le_of_eq Try.ntmps41.symm) dec41 enc41 de41 _ ?_
  intro args H q h
  unfold sem41 at h
  split at h
  · rw [← f41_eq]; exact h
  · cases h
/-! 39: R9_Mem_Put -/
noncomputable def CC39 : Ctx := { P := Try.prog, own := [], fns := [(55, specF enc55 (sem55 f55)), (54, specF enc54 (sem54 f54)), (41, specF enc41 (sem41 f41)), (43, specF enc43 (sem43 f43))], nt := 27, nums := [], live := [] }
theorem good39 : Callees Try.prog CC39.fns [] CC39.nums := ((((Callees.nil Try.prog).cons ok43 (specF_nat _ _)).cons ok41 (specF_nat _ _)).cons ok54 (specF_nat _ _)).cons ok55 (specF_nat _ _)
theorem hN39 : CtxNat CC39 := good39.ctx rfl rfl rfl
def enc39 (r : Bool) : List TV := [.c (Cell.bool (r))]
def dec39 : AV → Option (Bool)
  | .c (Cell.bool q0) => some (q0)
  | _ => none
theorem de39 (v : AV) (r : Bool) (h : dec39 v = some r) : v = oneOf (enc39 r) := by
  unfold dec39 at h
  split at h
  · cases h; rfl
  · cases h
abbrev Ty39 := (Option (Nat × Nat)) → Int → Int → Int → Int → Heap → Option (Bool × Heap)
def sem39 (f : Ty39) : List TV → Heap → Option (Bool × Heap)
  | [.c (Cell.ptr m), .c (Cell.int .i64 t), .c (Cell.int .u64 x2), .c (Cell.int .i64 w), .c (Cell.int .u64 v)], H => f m t x2 w v H
  | _, _ => none
noncomputable def f39 : Ty39 := hide fun m t x2 w v H => fnA CC39 Try.f39.results.toList (bodyOf Try.f39) _ [.c (Cell.ptr m), .c (Cell.int .i64 t), .c (Cell.int .u64 x2), .c (Cell.int .i64 w), .c (Cell.int .u64 v)] H (decF dec39)
theorem f39_eq (m : (Option (Nat × Nat))) (t : Int) (x2 : Int) (w : Int) (v : Int) (H : Heap) : f39 m t x2 w v H = fnA CC39 Try.f39.results.toList (bodyOf Try.f39) _ [.c (Cell.ptr m), .c (Cell.int .i64 t), .c (Cell.int .u64 x2), .c (Cell.int .i64 w), .c (Cell.int .u64 v)] H (decF dec39) := by unfold f39; rw [hide_eq]
theorem f39_run (m : (Option (Nat × Nat))) (t : Int) (x2 : Int) (w : Int) (v : Int) (H : Heap) : f39 m t x2 w v H = fnL CC39 (lpD CC39) Try.f39.results.toList (bodyOf Try.f39) [.c (Cell.ptr m), .c (Cell.int .i64 t), .c (Cell.int .u64 x2), .c (Cell.int .i64 w), .c (Cell.int .u64 v)] H (decF dec39) := (f39_eq ..).trans (fnA_lpD hN39 ..)
theorem q39 : ∀ (m : Option (Nat × Nat)) (t x2 w v : Int) (H : Heap), f39 m t x2 w v H = (f43 m t x2 w true H).bind fun v3 => bif !v3.fst then some (false, v3.snd) else (f41 m t v3.snd).bind fun v2 => (f54 w v v2.snd).bind fun v1 => (f55 m x2 v1.fst v1.snd).bind fun v0 => some (true, v0.snd) := by intros; exact (f39_run ..).trans (by kernel_rfl)
theorem ok39 : FnOk Try.prog 39 (specF enc39 (sem39 f39)) := by
  refine spec_ok (C := CC39) good39 rfl rfl rfl (by kernel_rfl) Try.func39 (c := bodyOf Try.f39) (by kernel_rfl) (by kernel_rfl) (Nat.le_of_eq Try.ntmps39.symm) dec39 enc39 de39 _ ?_
  intro args H q h
  unfold sem39 at h
  split at h
  · rw [← f39_eq]; exact h
  · cases h
/-! 42: R9_Mem_Own -/
noncomputable def CC42 : Ctx := { P := Try.prog, own := [], fns := [], nt := 56, nums := [], live := [] }
theorem good42 : Callees Try.prog CC42.fns [] CC42.nums := Callees.nil Try.prog
theorem hN42 : CtxNat CC42 := good42.ctx rfl rfl rfl
def enc42 (r : Bool) : List TV := [.c (Cell.bool (r))]
def dec42 : AV → Option (Bool)
  | .c (Cell.bool q0) => some (q0)
  | _ => none
theorem de42 (v : AV) (r : Bool) (h : dec42 v = some r) : v = oneOf (enc42 r) := by
  unfold dec42 at h
  split at h
  · cases h; rfl
  · cases h
abbrev Ty42 := (Option (Nat × Nat)) → Int → Int → Heap → Option (Bool × Heap)
def sem42 (f : Ty42) : List TV → Heap → Option (Bool × Heap)
  | [.c (Cell.ptr m), .c (Cell.int .i64 t), .c (Cell.int .i64 k)], H => f m t k H
  | _, _ => none
noncomputable def f42 : Ty42 := hide fun m t k H => fnA CC42 Try.f42.results.toList (bodyOf Try.f42) _ [.c (Cell.ptr m), .c (Cell.int .i64 t), .c (Cell.int .i64 k)] H (decF dec42)
theorem f42_eq (m : (Option (Nat × Nat))) (t : Int) (k : Int) (H : Heap) : f42 m t k H = fnA CC42 Try.f42.results.toList (bodyOf Try.f42) _ [.c (Cell.ptr m), .c (Cell.int .i64 t), .c (Cell.int .i64 k)] H (decF dec42) := by unfold f42; rw [hide_eq]
theorem f42_run (m : (Option (Nat × Nat))) (t : Int) (k : Int) (H : Heap) : f42 m t k H = fnL CC42 (lpD CC42) Try.f42.results.toList (bodyOf Try.f42) [.c (Cell.ptr m), .c (Cell.int .i64 t), .c (Cell.int .i64 k)] H (decF dec42) := (f42_eq ..).trans (fnA_lpD hN42 ..)
theorem q42 : ∀ (m : Option (Nat × Nat)) (t k : Int) (H : Heap), f42 m t k H = bif decide (t < 0) then some (false, H) else bif decide (t > 7) then some (false, H) else bif decide (k < 0) then some (false, H) else m.bind fun v19 => (H.get v19.fst (v19.snd + 0)).bind fun v18 => v18.toSlice.bind fun v17 => bif decide (k ≥ slen v17) then some (false, H) else m.bind fun v16 => (H.get v16.fst (v16.snd + 0)).bind fun v15 => v15.toSlice.bind fun v14 => v14.bind fun v13 => bif inb k v13.len && v13.esz == 5 then (H.get v13.id (v13.off + k.toNat * 5 + 3)).bind fun v12 => v12.toBool.bind fun v11 => bif !v11 then some (false, H) else m.bind fun v10 => (H.get v10.fst (v10.snd + 0)).bind fun v9 => v9.toSlice.bind fun v8 => v8.bind fun v7 => bif inb k v7.len && v7.esz == 5 then (H.get v7.id (v7.off + k.toNat * 5 + 4)).bind fun v6 => (Cell.toInt IntKind.i64 v6).bind fun v5 => bif v5 != -1 then some (false, H) else m.bind fun v4 => (H.get v4.fst (v4.snd + 0)).bind fun v3 => v3.toSlice.bind fun v2 => v2.bind fun v1 => bif inb k v1.len && v1.esz == 5 then (H.put v1.id (v1.off + k.toNat * 5 + 4) [Cell.int IntKind.i64 t]).bind fun v0 => some (true, v0) else none else none else none := by intros; exact (f42_run ..).trans (by kernel_rfl)
theorem ok42 : FnOk Try.prog 42 (specF enc42 (sem42 f42)) := by
  refine spec_ok (C := CC42) good42 rfl rfl rfl (by kernel_rfl) Try.func42 (c := bodyOf Try.f42) (by kernel_rfl) (by kernel_rfl) (Nat.le_of_eq Try.ntmps42.symm) dec42 enc42 de42 _ ?_
  intro args H q h
  unfold sem42 at h
  split at h
  · rw [← f42_eq]; exact h
  · cases h
/-! 19: L09_step -/
noncomputable def CC19 : Ctx := { P := Try.prog, own := [5], fns := [(14, specF enc14 (sem14 f14)), (27, specF enc27 (sem27 f27)), (43, specF enc43 (sem43 f43)), (12, specF enc12 (sem12 f12)), (42, specF enc42 (sem42 f42)), (10, specF enc10 (sem10 f10)), (41, specF enc41 (sem41 f41)), (28, specF enc28 (sem28 f28)), (40, specF enc40 (sem40 f40)), (21, specF enc21 (sem21 f21)), (39, specF enc39 (sem39 f39)), (17, specF enc17 (sem17 f17)), (38, specF enc38 (sem38 f38)), (16, specF enc16 (sem16 f16)), (37, specF enc37 (sem37 f37)), (15, specF enc15 (sem15 f15)), (18, specF enc18 (sem18 f18))], nt := 203, nums := [], live := [] }
theorem good19 : Callees Try.prog CC19.fns [] CC19.nums := (((((((((((((((((Callees.nil Try.prog).cons ok18 (specF_nat _ _)).cons ok15 (specF_nat _ _)).cons ok37 (specF_nat _ _)).cons ok16 (specF_nat _ _)).cons ok38 (specF_nat _ _)).cons ok17 (specF_nat _ _)).cons ok39 (specF_nat _ _)).cons ok21 (specF_nat _ _)).cons ok40 (specF_nat _ _)).cons ok28 (specF_nat _ _)).cons ok41 (specF_nat _ _)).cons ok10 (specF_nat _ _)).cons ok42 (specF_nat _ _)).cons ok12 (specF_nat _ _)).cons ok43 (specF_nat _ _)).cons ok27 (specF_nat _ _)).cons ok14 (specF_nat _ _)
theorem hN19 : CtxNat CC19 := good19.ctx rfl rfl rfl
def enc19 (r : Bool) : List TV := [.c (Cell.bool (r))]
def dec19 : AV → Option (Bool)
  | .c (Cell.bool q0) => some (q0)
  | _ => none
theorem de19 (v : AV) (r : Bool) (h : dec19 v = some r) : v = oneOf (enc19 r) := by
  unfold dec19 at h
  split at h
  · cases h; rfl
  · cases h
abbrev Ty19 := (Option (Nat × Nat)) → (Option (Nat × Nat)) → Int → Int → Bool → Int → Int → Int → Int → Heap → Option (Bool × Heap)
def sem19 (f : Ty19) : List TV → Heap → Option (Bool × Heap)
  | [.c (Cell.ptr m), .c (Cell.ptr r), .agg [Cell.int .i64 o0, Cell.int .i64 o1, Cell.bool o2, Cell.int .i64 o3, Cell.int .u64 o4, Cell.int .i64 o5, Cell.int .u64 o6]], H => f m r o0 o1 o2 o3 o4 o5 o6 H
  | _, _ => none
noncomputable def f19 : Ty19 := hide fun m r o0 o1 o2 o3 o4 o5 o6 H => fnA CC19 Try.f19.results.toList (bodyOf Try.f19) _ [.c (Cell.ptr m), .c (Cell.ptr r), .agg [Cell.int .i64 o0, Cell.int .i64 o1, Cell.bool o2, Cell.int .i64 o3, Cell.int .u64 o4, Cell.int .i64 o5, Cell.int .u64 o6]] H (decF dec19)
theorem f19_eq (m : (Option (Nat × Nat))) (r : (Option (Nat × Nat))) (o0 : Int) (o1 : Int) (o2 : Bool) (o3 : Int) (o4 : Int) (o5 : Int) (o6 : Int) (H : Heap) : f19 m r o0 o1 o2 o3 o4 o5 o6 H = fnA CC19 Try.f19.results.toList (bodyOf Try.f19) _ [.c (Cell.ptr m), .c (Cell.ptr r), .agg [Cell.int .i64 o0, Cell.int .i64 o1, Cell.bool o2, Cell.int .i64 o3, Cell.int .u64 o4, Cell.int .i64 o5, Cell.int .u64 o6]] H (decF dec19) := by unfold f19; rw [hide_eq]
theorem f19_run (m : (Option (Nat × Nat))) (r : (Option (Nat × Nat))) (o0 : Int) (o1 : Int) (o2 : Bool) (o3 : Int) (o4 : Int) (o5 : Int) (o6 : Int) (H : Heap) : f19 m r o0 o1 o2 o3 o4 o5 o6 H = fnL CC19 (lpD CC19) Try.f19.results.toList (bodyOf Try.f19) [.c (Cell.ptr m), .c (Cell.ptr r), .agg [Cell.int .i64 o0, Cell.int .i64 o1, Cell.bool o2, Cell.int .i64 o3, Cell.int .u64 o4, Cell.int .i64 o5, Cell.int .u64 o6]] H (decF dec19) := (f19_eq ..).trans (fnA_lpD hN19 ..)
theorem q19 : ∀ (m r : Option (Nat × Nat)) (o0 o1 : Int) (o2 : Bool) (o3 o4 o5 o6 : Int) (H : Heap), f19 m r o0 o1 o2 o3 o4 o5 o6 H = r.bind fun v123 => (H.get v123.fst (v123.snd + 0)).bind fun v122 => v122.toSlice.bind fun v121 => (f18 o0 o1 o2 o3 o4 o5 o6 v121 H).bind fun v120 => bif o0 == 0 then bif o0 == 0 then (f15 m o1 v120.fst o5 v120.snd).bind fun v1 => (f37 r o1 v120.fst o5 v1.snd).bind fun v0 => bif v1.fst.fst == v0.fst.fst then some (v1.fst.snd == v0.fst.snd, v0.snd) else some (false, v0.snd) else bif o0 == 2 then bif o0 == 2 then (f16 m o1 v120.fst o5 o6 v120.snd).bind fun v3 => (f38 r o1 v120.fst o5 o6 v3.snd).bind fun v2 => some (v3.fst == v2.fst, v2.snd) else bif o0 == 4 then (f17 m o1 v120.fst o5 o6 v120.snd).bind fun v5 => (f39 r o1 v120.fst o5 o6 v5.snd).bind fun v4 => some (v5.fst == v4.fst, v4.snd) else bif o0 == 5 then (f21 m o1 v120.snd).bind fun v7 => (f40 r o1 v7.snd).bind fun v6 => some (v7.fst == v6.fst, v6.snd) else bif o0 == 6 then (f28 m o1 v120.snd).bind fun v9 => (f41 r o1 v9.snd).bind fun v8 => some (v9.fst == v8.fst, v8.snd) else bif o0 == 7 then (f10 m o1 o5 v120.snd).bind fun v11 => (f42 r o1 o5 v11.snd).bind fun v10 => some (v11.fst == v10.fst, v10.snd) else bif o0 == 8 then (f12 m o1 v120.fst o5 (o6.tmod 2 == 1) v120.snd).bind fun v13 => (f43 r o1 v120.fst o5 (o6.tmod 2 == 1) v13.snd).bind fun v12 => some (v13.fst == v12.fst, v12.snd) else bif o0 == 9 then (f27 m v120.fst v120.snd).bind fun v30 => (f14 r v120.fst v30.snd).bind fun v29 => bif decide (v29.fst < 0) then bif !v30.fst.snd then some (v30.fst.fst == 0, v29.snd) else some (false, v29.snd) else bif v30.fst.snd then r.bind fun v28 => (v29.snd.get v28.fst (v28.snd + 0)).bind fun v27 => v27.toSlice.bind fun v26 => v26.bind fun v25 => bif inb v29.fst v25.len && v25.esz == 5 then (v29.snd.get v25.id (v25.off + v29.fst.toNat * 5 + 1)).bind fun v24 => v24.toSlice.bind fun v23 => r.bind fun v22 => (v29.snd.get v22.fst (v22.snd + 0)).bind fun v21 => v21.toSlice.bind fun v20 => v20.bind fun v19 => bif inb v29.fst v19.len && v19.esz == 5 then (v29.snd.get v19.id (v19.off + v29.fst.toNat * 5 + 0)).bind fun v18 => (Cell.toInt IntKind.u64 v18).bind fun v17 => v23.bind fun v16 => bif inb (IntKind.u64.wrap (v120.fst - v17)) v16.len && v16.esz == 1 then (v29.snd.get v16.id (v16.off + (IntKind.u64.wrap (v120.fst - v17)).toNat * 1)).bind fun v15 => (Cell.toInt IntKind.u8 v15).bind fun v14 => some (v30.fst.fst == v14, v29.snd) else none else none else none else some (false, v29.snd) else some (true, v120.snd) else bif o0 == 3 then (f16 m o1 v120.fst o5 o6 v120.snd).bind fun v32 => (f38 r o1 v120.fst o5 o6 v32.snd).bind fun v31 => some (v32.fst == v31.fst, v31.snd) else bif o0 == 4 then (f17 m o1 v120.fst o5 o6 v120.snd).bind fun v34 => (f39 r o1 v120.fst o5 o6 v34.snd).bind fun v33 => some (v34.fst == v33.fst, v33.snd) else bif o0 == 5 then (f21 m o1 v120.snd).bind fun v36 => (f40 r o1 v36.snd).bind fun v35 => some (v36.fst == v35.fst, v35.snd) else bif o0 == 6 then (f28 m o1 v120.snd).bind fun v38 => (f41 r o1 v38.snd).bind fun v37 => some (v38.fst == v37.fst, v37.snd) else bif o0 == 7 then (f10 m o1 o5 v120.snd).bind fun v40 => (f42 r o1 o5 v40.snd).bind fun v39 => some (v40.fst == v39.fst, v39.snd) else bif o0 == 8 then (f12 m o1 v120.fst o5 (o6.tmod 2 == 1) v120.snd).bind fun v42 => (f43 r o1 v120.fst o5 (o6.tmod 2 == 1) v42.snd).bind fun v41 => some (v42.fst == v41.fst, v41.snd) else bif o0 == 9 then (f27 m v120.fst v120.snd).bind fun v59 => (f14 r v120.fst v59.snd).bind fun v58 => bif decide (v58.fst < 0) then bif !v59.fst.snd then some (v59.fst.fst == 0, v58.snd) else some (false, v58.snd) else bif v59.fst.snd then r.bind fun v57 => (v58.snd.get v57.fst (v57.snd + 0)).bind fun v56 => v56.toSlice.bind fun v55 => v55.bind fun v54 => bif inb v58.fst v54.len && v54.esz == 5 then (v58.snd.get v54.id (v54.off + v58.fst.toNat * 5 + 1)).bind fun v53 => v53.toSlice.bind fun v52 => r.bind fun v51 => (v58.snd.get v51.fst (v51.snd + 0)).bind fun v50 => v50.toSlice.bind fun v49 => v49.bind fun v48 => bif inb v58.fst v48.len && v48.esz == 5 then (v58.snd.get v48.id (v48.off + v58.fst.toNat * 5 + 0)).bind fun v47 => (Cell.toInt IntKind.u64 v47).bind fun v46 => v52.bind fun v45 => bif inb (IntKind.u64.wrap (v120.fst - v46)) v45.len && v45.esz == 1 then (v58.snd.get v45.id (v45.off + (IntKind.u64.wrap (v120.fst - v46)).toNat * 1)).bind fun v44 => (Cell.toInt IntKind.u8 v44).bind fun v43 => some (v59.fst.fst == v43, v58.snd) else none else none else none else some (false, v58.snd) else some (true, v120.snd) else bif o0 == 1 then (f15 m o1 v120.fst o5 v120.snd).bind fun v61 => (f37 r o1 v120.fst o5 v61.snd).bind fun v60 => bif v61.fst.fst == v60.fst.fst then some (v61.fst.snd == v60.fst.snd, v60.snd) else some (false, v60.snd) else bif o0 == 2 then bif o0 == 2 then (f16 m o1 v120.fst o5 o6 v120.snd).bind fun v63 => (f38 r o1 v120.fst o5 o6 v63.snd).bind fun v62 => some (v63.fst == v62.fst, v62.snd) else bif o0 == 4 then (f17 m o1 v120.fst o5 o6 v120.snd).bind fun v65 => (f39 r o1 v120.fst o5 o6 v65.snd).bind fun v64 => some (v65.fst == v64.fst, v64.snd) else bif o0 == 5 then (f21 m o1 v120.snd).bind fun v67 => (f40 r o1 v67.snd).bind fun v66 => some (v67.fst == v66.fst, v66.snd) else bif o0 == 6 then (f28 m o1 v120.snd).bind fun v69 => (f41 r o1 v69.snd).bind fun v68 => some (v69.fst == v68.fst, v68.snd) else bif o0 == 7 then (f10 m o1 o5 v120.snd).bind fun v71 => (f42 r o1 o5 v71.snd).bind fun v70 => some (v71.fst == v70.fst, v70.snd) else bif o0 == 8 then (f12 m o1 v120.fst o5 (o6.tmod 2 == 1) v120.snd).bind fun v73 => (f43 r o1 v120.fst o5 (o6.tmod 2 == 1) v73.snd).bind fun v72 => some (v73.fst == v72.fst, v72.snd) else bif o0 == 9 then (f27 m v120.fst v120.snd).bind fun v90 => (f14 r v120.fst v90.snd).bind fun v89 => bif decide (v89.fst < 0) then bif !v90.fst.snd then some (v90.fst.fst == 0, v89.snd) else some (false, v89.snd) else bif v90.fst.snd then r.bind fun v88 => (v89.snd.get v88.fst (v88.snd + 0)).bind fun v87 => v87.toSlice.bind fun v86 => v86.bind fun v85 => bif inb v89.fst v85.len && v85.esz == 5 then (v89.snd.get v85.id (v85.off + v89.fst.toNat * 5 + 1)).bind fun v84 => v84.toSlice.bind fun v83 => r.bind fun v82 => (v89.snd.get v82.fst (v82.snd + 0)).bind fun v81 => v81.toSlice.bind fun v80 => v80.bind fun v79 => bif inb v89.fst v79.len && v79.esz == 5 then (v89.snd.get v79.id (v79.off + v89.fst.toNat * 5 + 0)).bind fun v78 => (Cell.toInt IntKind.u64 v78).bind fun v77 => v83.bind fun v76 => bif inb (IntKind.u64.wrap (v120.fst - v77)) v76.len && v76.esz == 1 then (v89.snd.get v76.id (v76.off + (IntKind.u64.wrap (v120.fst - v77)).toNat * 1)).bind fun v75 => (Cell.toInt IntKind.u8 v75).bind fun v74 => some (v90.fst.fst == v74, v89.snd) else none else none else none else some (false, v89.snd) else some (true, v120.snd) else bif o0 == 3 then (f16 m o1 v120.fst o5 o6 v120.snd).bind fun v92 => (f38 r o1 v120.fst o5 o6 v92.snd).bind fun v91 => some (v92.fst == v91.fst, v91.snd) else bif o0 == 4 then (f17 m o1 v120.fst o5 o6 v120.snd).bind fun v94 => (f39 r o1 v120.fst o5 o6 v94.snd).bind fun v93 => some (v94.fst == v93.fst, v93.snd) else bif o0 == 5 then (f21 m o1 v120.snd).bind fun v96 => (f40 r o1 v96.snd).bind fun v95 => some (v96.fst == v95.fst, v95.snd) else bif o0 == 6 then (f28 m o1 v120.snd).bind fun v98 => (f41 r o1 v98.snd).bind fun v97 => some (v98.fst == v97.fst, v97.snd) else bif o0 == 7 then (f10 m o1 o5 v120.snd).bind fun v100 => (f42 r o1 o5 v100.snd).bind fun v99 => some (v100.fst == v99.fst, v99.snd) else bif o0 == 8 then (f12 m o1 v120.fst o5 (o6.tmod 2 == 1) v120.snd).bind fun v102 => (f43 r o1 v120.fst o5 (o6.tmod 2 == 1) v102.snd).bind fun v101 => some (v102.fst == v101.fst, v101.snd) else bif o0 == 9 then (f27 m v120.fst v120.snd).bind fun v119 => (f14 r v120.fst v119.snd).bind fun v118 => bif decide (v118.fst < 0) then bif !v119.fst.snd then some (v119.fst.fst == 0, v118.snd) else some (false, v118.snd) else bif v119.fst.snd then r.bind fun v117 => (v118.snd.get v117.fst (v117.snd + 0)).bind fun v116 => v116.toSlice.bind fun v115 => v115.bind fun v114 => bif inb v118.fst v114.len && v114.esz == 5 then (v118.snd.get v114.id (v114.off + v118.fst.toNat * 5 + 1)).bind fun v113 => v113.toSlice.bind fun v112 => r.bind fun v111 => (v118.snd.get v111.fst (v111.snd + 0)).bind fun v110 => v110.toSlice.bind fun v109 => v109.bind fun v108 => bif inb v118.fst v108.len && v108.esz == 5 then (v118.snd.get v108.id (v108.off + v118.fst.toNat * 5 + 0)).bind fun v107 => (Cell.toInt IntKind.u64 v107).bind fun v106 => v112.bind fun v105 => bif inb (IntKind.u64.wrap (v120.fst - v106)) v105.len && v105.esz == 1 then (v118.snd.get v105.id (v105.off + (IntKind.u64.wrap (v120.fst - v106)).toNat * 1)).bind fun v104 => (Cell.toInt IntKind.u8 v104).bind fun v103 => some (v119.fst.fst == v103, v118.snd) else none else none else none else some (false, v118.snd) else some (true, v120.snd) := by intros; exact (f19_run ..).trans (by kernel_rfl)
theorem ok19 : FnOk Try.prog 19 (specF enc19 (sem19 f19)) := by
  refine spec_ok (C := CC19) good19 rfl rfl rfl (by kernel_rfl) Try.func19 (c := bodyOf Try.f19) (by kernel_rfl) (by kernel_rfl) (Nat.le_of_eq Try.ntmps19.symm) dec19 enc19 de19 _ ?_
  intro args H q h
  unfold sem19 at h
  split at h
  · rw [← f19_eq]; exact h
  · cases h
/-! 4: L09_MemOwn -/
noncomputable def CC4 : Ctx := { P := Try.prog, own := [7, 14], fns := [(11, F11), (21, specF enc21 (sem21 f21)), (20, specF enc20 (sem20 f20)), (19, specF enc19 (sem19 f19)), (13, specF enc13 (sem13 f13)), (15, specF enc15 (sem15 f15)), (16, specF enc16 (sem16 f16)), (18, specF enc18 (sem18 f18)), (9, specF enc9 (sem9 f9)), (8, specF enc8 (sem8 f8))], nt := 99, nums := [11], live := [(8, ⟨[0, 2, 7, 9, 10, 11, 12, 43, 44, 45], [7], [2, 8, 9, 12], []⟩)] }
theorem good4 : Callees Try.prog CC4.fns [] CC4.nums := ((((((((((Callees.nil Try.prog).cons ok8 (specF_nat _ _)).cons ok9 (specF_nat _ _)).cons ok18 (specF_nat _ _)).cons ok16 (specF_nat _ _)).cons ok15 (specF_nat _ _)).cons ok13 (specF_nat _ _)).cons ok19 (specF_nat _ _)).cons ok20 (specF_nat _ _)).cons ok21 (specF_nat _ _)).cons_num ok11 F11_num
theorem hN4 : CtxNat CC4 := good4.ctx rfl rfl rfl
def enc4 (r : Bool) : List TV := [.c (Cell.bool (r))]
def dec4 : AV → Option (Bool)
  | .c (Cell.bool q0) => some (q0)
  | _ => none
theorem de4 (v : AV) (r : Bool) (h : dec4 v = some r) : v = oneOf (enc4 r) := by
  unfold dec4 at h
  split at h
  · cases h; rfl
  · cases h
abbrev Ty4 := (Option Sl) → (Option Sl) → Int → Int → Int → Bool → Int → Int → Int → Int → Heap → Option (Bool × Heap)
def sem4 (f : Ty4) : List TV → Heap → Option (Bool × Heap)
  | [.c (Cell.slice l), .c (Cell.slice calls), .c (Cell.int .i64 t), .agg [Cell.int .i64 o0, Cell.int .i64 o1, Cell.bool o2, Cell.int .i64 o3, Cell.int .u64 o4, Cell.int .i64 o5, Cell.int .u64 o6]], H => f l calls t o0 o1 o2 o3 o4 o5 o6 H
  | _, _ => none
noncomputable def f4 : Ty4 := hide fun l calls t o0 o1 o2 o3 o4 o5 o6 H => fnA CC4 Try.f4.results.toList (bodyOf Try.f4) _ [.c (Cell.slice l), .c (Cell.slice calls), .c (Cell.int .i64 t), .agg [Cell.int .i64 o0, Cell.int .i64 o1, Cell.bool o2, Cell.int .i64 o3, Cell.int .u64 o4, Cell.int .i64 o5, Cell.int .u64 o6]] H (decF dec4)
theorem f4_eq (l : (Option Sl)) (calls : (Option Sl)) (t : Int) (o0 : Int) (o1 : Int) (o2 : Bool) (o3 : Int) (o4 : Int) (o5 : Int) (o6 : Int) (H : Heap) : f4 l calls t o0 o1 o2 o3 o4 o5 o6 H = fnA CC4 Try.f4.results.toList (bodyOf Try.f4) _ [.c (Cell.slice l), .c (Cell.slice calls), .c (Cell.int .i64 t), .agg [Cell.int .i64 o0, Cell.int .i64 o1, Cell.bool o2, Cell.int .i64 o3, Cell.int .u64 o4, Cell.int .i64 o5, Cell.int .u64 o6]] H (decF dec4) := by unfold f4; rw [hide_eq]
theorem f4_run (l : (Option Sl)) (calls : (Option Sl)) (t : Int) (o0 : Int) (o1 : Int) (o2 : Bool) (o3 : Int) (o4 : Int) (o5 : Int) (o6 : Int) (H : Heap) : f4 l calls t o0 o1 o2 o3 o4 o5 o6 H = fnL CC4 (lpD CC4) Try.f4.results.toList (bodyOf Try.f4) [.c (Cell.slice l), .c (Cell.slice calls), .c (Cell.int .i64 t), .agg [Cell.int .i64 o0, Cell.int .i64 o1, Cell.bool o2, Cell.int .i64 o3, Cell.int .u64 o4, Cell.int .i64 o5, Cell.int .u64 o6]] H (decF dec4) := (f4_eq ..).trans (fnA_lpD hN4 ..)
def S4_8 (t0 : (Option Sl)) (t2 : Int) (t9 : (Option (Nat × Nat))) (t10 : Int) (t11 : Int) (t12 : Bool) (t43 : (Option Sl)) (t44 : Int) (t45 : Int) (b7_0 : Int) (b7_1 : Int) (b7_2 : Bool) (b7_3 : Int) (b7_4 : Int) (b7_5 : Int) (b7_6 : Int) (H : Heap) : St := ⟨[(0, .c (Cell.slice t0)), (2, .c (Cell.int .i64 t2)), (7, .lp 7 0), (9, .c (Cell.ptr t9)), (10, .c (Cell.int .u64 t10)), (11, .c (Cell.int .u64 t11)), (12, .c (Cell.bool t12)), (43, .c (Cell.slice t43)), (44, .c (Cell.int .i64 t44)), (45, .c (Cell.int .i64 t45))], [(7, [Cell.int .i64 b7_0, Cell.int .i64 b7_1, Cell.bool b7_2, Cell.int .i64 b7_3, Cell.int .u64 b7_4, Cell.int .i64 b7_5, Cell.int .u64 b7_6])], H⟩
noncomputable def D4_8 (n : Nat) (t0 : (Option Sl)) (t2 : Int) (t9 : (Option (Nat × Nat))) (t10 : Int) (t11 : Int) (t12 : Bool) (t43 : (Option Sl)) (t44 : Int) (t45 : Int) (b7_0 : Int) (b7_1 : Int) (b7_2 : Bool) (b7_3 : Int) (b7_4 : Int) (b7_5 : Int) (b7_6 : Int) (H : Heap) : Option (AExit × St) := loopN (exec CC4 (Code.l (Code.l (Code.r (Code.l (Code.r (Code.r (Code.r (Code.r (Code.r (Code.r (bodyOf Try.f4)))))))))))) (keepOf CC4.live (Code.l (Code.l (Code.r (Code.l (Code.r (Code.r (Code.r (Code.r (Code.r (Code.r (bodyOf Try.f4)))))))))))) n (S4_8 t0 t2 t9 t10 t11 t12 t43 t44 t45 b7_0 b7_1 b7_2 b7_3 b7_4 b7_5 b7_6 H) retD
noncomputable def LL4_8 (t0 : (Option Sl)) (t2 : Int) (t9 : (Option (Nat × Nat))) (t10 : Int) (t11 : Int) (t12 : Bool) (t43 : (Option Sl)) (t44 : Int) (t45 : Int) (b7_0 : Int) (b7_1 : Int) (b7_2 : Bool) (b7_3 : Int) (b7_4 : Int) (b7_5 : Int) (b7_6 : Int) (H : Heap) : Option (AExit × St) := loopsD CC4 (Code.l (Code.l (Code.r (Code.l (Code.r (Code.r (Code.r (Code.r (Code.r (Code.r (bodyOf Try.f4))))))))))) (S4_8 t0 t2 t9 t10 t11 t12 t43 t44 t45 b7_0 b7_1 b7_2 b7_3 b7_4 b7_5 b7_6 H)
theorem LL4_8_of (m : Nat) (hm : m < 18446744073709551616) (t0 : (Option Sl)) (t2 : Int) (t9 : (Option (Nat × Nat))) (t10 : Int) (t11 : Int) (t12 : Bool) (t43 : (Option Sl)) (t44 : Int) (t45 : Int) (b7_0 : Int) (b7_1 : Int) (b7_2 : Bool) (b7_3 : Int) (b7_4 : Int) (b7_5 : Int) (b7_6 : Int) (H : Heap) : ∃ n, LL4_8 t0 t2 t9 t10 t11 t12 t43 t44 t45 b7_0 b7_1 b7_2 b7_3 b7_4 b7_5 b7_6 H = D4_8 (n + m + 1) t0 t2 t9 t10 t11 t12 t43 t44 t45 b7_0 b7_1 b7_2 b7_3 b7_4 b7_5 b7_6 H := loopsD_of _ _ _ m hm
def X4_8 (x0 : Int) (x1 : Option (Nat × Nat)) (x2 : Bool) (H : Heap) : St := { env := [(2, AV.c (Cell.int IntKind.i64 x0)), (9, AV.c (Cell.ptr x1)), (12, AV.c (Cell.bool x2))], loc := [], heap := H }
def X4_8a (x0 : Int) (x1 : Bool) (x2 : Option (Nat × Nat)) (x3 : Bool) (H : Heap) : St := { env := [(2, AV.c (Cell.int IntKind.i64 x0)), (8, AV.c (Cell.bool x1)), (9, AV.c (Cell.ptr x2)), (12, AV.c (Cell.bool x3))], loc := [], heap := H }
noncomputable def J4_8 : AExit × St → Option (Bool × Heap) := fun p => blockK 0 (seqK (execL CC4 (lpD CC4) (Code.r (Code.r (Code.r (Code.r (Code.r (Code.r (Code.r (bodyOf Try.f4))))))))) (retA CC4 [ResultVar.tmp 8] (decF dec4))) p.fst p.snd
theorem D4_8_s : ∀ (n : Nat) (t0 : Option Sl) (t2 : Int) (t9 : Option (Nat × Nat)) (t10 t11 : Int) (t12 : Bool) (t43 : Option Sl) (t44 t45 b7_0 b7_1 : Int) (b7_2 : Bool) (b7_3 b7_4 b7_5 b7_6 : Int) (H : Heap), D4_8 (n + 1) t0 t2 t9 t10 t11 t12 t43 t44 t45 b7_0 b7_1 b7_2 b7_3 b7_4 b7_5 b7_6 H = bif decide (t45 < t44) then t43.bind fun v18 => bif inb t45 v18.len && v18.esz == 7 then (H.get v18.id (v18.off + t45.toNat * 7)).bind fun v17 => (H.get v18.id (v18.off + t45.toNat * 7 + 1)).bind fun v16 => (H.get v18.id (v18.off + t45.toNat * 7 + 1 + 1)).bind fun v15 => (H.get v18.id (v18.off + t45.toNat * 7 + 1 + 1 + 1)).bind fun v14 => (H.get v18.id (v18.off + t45.toNat * 7 + 1 + 1 + 1 + 1)).bind fun v13 => (H.get v18.id (v18.off + t45.toNat * 7 + 1 + 1 + 1 + 1 + 1)).bind fun v12 => (H.get v18.id (v18.off + t45.toNat * 7 + 1 + 1 + 1 + 1 + 1 + 1)).bind fun v11 => (Cell.toInt IntKind.i64 v17).bind fun v10 => (Cell.toInt IntKind.i64 v16).bind fun v9 => v15.toBool.bind fun v8 => (Cell.toInt IntKind.i64 v14).bind fun v7 => (Cell.toInt IntKind.u64 v13).bind fun v6 => (Cell.toInt IntKind.i64 v12).bind fun v5 => (Cell.toInt IntKind.u64 v11).bind fun v4 => bif decide (t45 ≥ 40) then some (AExit.exit 0, X4_8 t2 t9 t12 H) else bif v9 != t2 then (f13 t0 H).bind fun v2 => (f19 t9 v2.fst v10 v9 v8 v7 v6 v5 v4 v2.snd).bind fun v1 => (f15 t9 t2 t10 b7_5 v1.snd).bind fun v0 => bif v0.fst.fst != t11 then some (AExit.ret, X4_8a t2 false t9 t12 v0.snd) else bif !v0.fst.snd then some (AExit.ret, X4_8a t2 false t9 t12 v0.snd) else D4_8 n t0 t2 t9 t10 t11 t12 t43 t44 (IntKind.i64.wrap (t45 + 1)) b7_0 b7_1 b7_2 b7_3 b7_4 b7_5 b7_6 v0.snd else (f15 t9 t2 t10 b7_5 H).bind fun v3 => bif v3.fst.fst != t11 then some (AExit.ret, X4_8a t2 false t9 t12 v3.snd) else bif !v3.fst.snd then some (AExit.ret, X4_8a t2 false t9 t12 v3.snd) else D4_8 n t0 t2 t9 t10 t11 t12 t43 t44 (IntKind.i64.wrap (t45 + 1)) b7_0 b7_1 b7_2 b7_3 b7_4 b7_5 b7_6 v3.snd else none else some (AExit.exit 0, X4_8 t2 t9 t12 H) := by intros; exact (loopN_stepD hN4 _ _ _ _).trans (by kernel_rfl)
theorem q4 : ∀ (l calls : Option Sl) (t o0 o1 : Int) (o2 : Bool) (o3 o4 o5 o6 : Int) (H : Heap), f4 l calls t o0 o1 o2 o3 o4 o5 o6 H = (f8 l H).bind fun v23 => (f9 v23.fst v23.snd).bind fun v22 => (f18 o0 o1 o2 o3 o4 o5 o6 v23.fst v22.snd).bind fun v21 => (f16 v22.fst t v21.fst o5 o6 v21.snd).bind fun v20 => bif !v20.fst then some (true, v20.snd) else (f15 v22.fst t v21.fst o5 v20.snd).bind fun v19 => (LL4_8 v23.fst t v22.fst v21.fst v19.fst.fst v19.fst.snd calls (slen calls) 0 o0 o1 o2 o3 o4 o5 o6 v19.snd).bind J4_8 := by intros; exact (f4_run ..).trans (by kernel_rfl)
theorem J4_8_0 : ∀ (x0 : Int) (x1 : Option (Nat × Nat)) (x2 : Bool) (H : Heap), J4_8 (AExit.exit 0, X4_8 x0 x1 x2 H) = bif x2 then (f20 x1 x0 H).bind fun v26 => bif v26.fst == 1 then (f21 x1 x0 v26.snd).bind fun v25 => bif v25.fst then (f21 x1 x0 v25.snd).bind fun v24 => bif !v24.fst then some (true, v24.snd) else some (false, v24.snd) else some (false, v25.snd) else some (false, v26.snd) else some (false, H) := by intros; kernel_rfl
theorem J4_8_1 : ∀ (x0 : Int) (x1 : Bool) (x2 : Option (Nat × Nat)) (x3 : Bool) (H : Heap), J4_8 (AExit.ret, X4_8a x0 x1 x2 x3 H) = some (x1, H) := by intros; kernel_rfl
theorem ok4 : FnOk Try.prog 4 (specF enc4 (sem4 f4)) := by
  refine spec_ok (C := CC4) good4 rfl rfl rfl (by kernel_rfl) Try.func4 (c := bodyOf Try.f4) (by kernel_rfl) (by kernel_rfl) (Nat.le_of_eq Try.ntmps4.symm) dec4 enc4 de4 _ ?_
  intro args H q h
  unfold sem4 at h
  split at h
  · rw [← f4_eq]; exact h
  · cases h
/-! 5: L09_MemOrder -/
noncomputable def CC5 : Ctx := { P := Try.prog, own := [9, 11], fns := [(11, F11), (17, specF enc17 (sem17 f17)), (21, specF enc21 (sem21 f21)), (20, specF enc20 (sem20 f20)), (22, specF enc22 (sem22 f22)), (16, specF enc16 (sem16 f16)), (18, specF enc18 (sem18 f18)), (9, specF enc9 (sem9 f9)), (8, specF enc8 (sem8 f8))], nt := 88, nums := [11], live := [(15, ⟨[5, 6, 55, 56, 57], [], [4, 5], []⟩), (5, ⟨[0, 5, 6, 7, 18, 19, 20], [], [5, 6, 7], []⟩)] }
theorem good5 : Callees Try.prog CC5.fns [] CC5.nums := (((((((((Callees.nil Try.prog).cons ok8 (specF_nat _ _)).cons ok9 (specF_nat _ _)).cons ok18 (specF_nat _ _)).cons ok16 (specF_nat _ _)).cons ok22 (specF_nat _ _)).cons ok20 (specF_nat _ _)).cons ok21 (specF_nat _ _)).cons ok17 (specF_nat _ _)).cons_num ok11 F11_num
theorem hN5 : CtxNat CC5 := good5.ctx rfl rfl rfl
def enc5 (r : Bool) : List TV := [.c (Cell.bool (r))]
def dec5 : AV → Option (Bool)
  | .c (Cell.bool q0) => some (q0)
  | _ => none
theorem de5 (v : AV) (r : Bool) (h : dec5 v = some r) : v = oneOf (enc5 r) := by
  unfold dec5 at h
  split at h
  · cases h; rfl
  · cases h
abbrev Ty5 := (Option Sl) → (Option Sl) → Heap → Option (Bool × Heap)
def sem5 (f : Ty5) : List TV → Heap → Option (Bool × Heap)
  | [.c (Cell.slice l), .c (Cell.slice stores)], H => f l stores H
  | _, _ => none
noncomputable def f5 : Ty5 := hide fun l stores H => fnA CC5 Try.f5.results.toList (bodyOf Try.f5) _ [.c (Cell.slice l), .c (Cell.slice stores)] H (decF dec5)
theorem f5_eq (l : (Option Sl)) (stores : (Option Sl)) (H : Heap) : f5 l stores H = fnA CC5 Try.f5.results.toList (bodyOf Try.f5) _ [.c (Cell.slice l), .c (Cell.slice stores)] H (decF dec5) := by unfold f5; rw [hide_eq]
theorem f5_run (l : (Option Sl)) (stores : (Option Sl)) (H : Heap) : f5 l stores H = fnL CC5 (lpD CC5) Try.f5.results.toList (bodyOf Try.f5) [.c (Cell.slice l), .c (Cell.slice stores)] H (decF dec5) := (f5_eq ..).trans (fnA_lpD hN5 ..)
def S5_5 (t0 : (Option Sl)) (t5 : (Option (Nat × Nat))) (t6 : (Option (Nat × Nat))) (t7 : (Option Sl)) (t18 : (Option Sl)) (t19 : Int) (t20 : Int) (H : Heap) : St := ⟨[(0, .c (Cell.slice t0)), (5, .c (Cell.ptr t5)), (6, .c (Cell.ptr t6)), (7, .c (Cell.slice t7)), (18, .c (Cell.slice t18)), (19, .c (Cell.int .i64 t19)), (20, .c (Cell.int .i64 t20))], [], H⟩
noncomputable def D5_5 (n : Nat) (t0 : (Option Sl)) (t5 : (Option (Nat × Nat))) (t6 : (Option (Nat × Nat))) (t7 : (Option Sl)) (t18 : (Option Sl)) (t19 : Int) (t20 : Int) (H : Heap) : Option (AExit × St) := loopN (exec CC5 (Code.l (Code.l (Code.r (Code.l (Code.r (Code.r (Code.r (Code.r (bodyOf Try.f5)))))))))) (keepOf CC5.live (Code.l (Code.l (Code.r (Code.l (Code.r (Code.r (Code.r (Code.r (bodyOf Try.f5)))))))))) n (S5_5 t0 t5 t6 t7 t18 t19 t20 H) retD
noncomputable def LL5_5 (t0 : (Option Sl)) (t5 : (Option (Nat × Nat))) (t6 : (Option (Nat × Nat))) (t7 : (Option Sl)) (t18 : (Option Sl)) (t19 : Int) (t20 : Int) (H : Heap) : Option (AExit × St) := loopsD CC5 (Code.l (Code.l (Code.r (Code.l (Code.r (Code.r (Code.r (Code.r (bodyOf Try.f5))))))))) (S5_5 t0 t5 t6 t7 t18 t19 t20 H)
theorem LL5_5_of (m : Nat) (hm : m < 18446744073709551616) (t0 : (Option Sl)) (t5 : (Option (Nat × Nat))) (t6 : (Option (Nat × Nat))) (t7 : (Option Sl)) (t18 : (Option Sl)) (t19 : Int) (t20 : Int) (H : Heap) : ∃ n, LL5_5 t0 t5 t6 t7 t18 t19 t20 H = D5_5 (n + m + 1) t0 t5 t6 t7 t18 t19 t20 H := loopsD_of _ _ _ m hm
def S5_15 (t5 : (Option (Nat × Nat))) (t6 : (Option (Nat × Nat))) (t55 : (Option Sl)) (t56 : Int) (t57 : Int) (H : Heap) : St := ⟨[(5, .c (Cell.ptr t5)), (6, .c (Cell.ptr t6)), (55, .c (Cell.slice t55)), (56, .c (Cell.int .i64 t56)), (57, .c (Cell.int .i64 t57))], [], H⟩
noncomputable def D5_15 (n : Nat) (t5 : (Option (Nat × Nat))) (t6 : (Option (Nat × Nat))) (t55 : (Option Sl)) (t56 : Int) (t57 : Int) (H : Heap) : Option (AExit × St) := loopN (exec CC5 (Code.l (Code.l (Code.r (Code.l (Code.r (Code.r (Code.r (Code.r (Code.r (Code.r (bodyOf Try.f5)))))))))))) (keepOf CC5.live (Code.l (Code.l (Code.r (Code.l (Code.r (Code.r (Code.r (Code.r (Code.r (Code.r (bodyOf Try.f5)))))))))))) n (S5_15 t5 t6 t55 t56 t57 H) retD
noncomputable def LL5_15 (t5 : (Option (Nat × Nat))) (t6 : (Option (Nat × Nat))) (t55 : (Option Sl)) (t56 : Int) (t57 : Int) (H : Heap) : Option (AExit × St) := loopsD CC5 (Code.l (Code.l (Code.r (Code.l (Code.r (Code.r (Code.r (Code.r (Code.r (Code.r (bodyOf Try.f5))))))))))) (S5_15 t5 t6 t55 t56 t57 H)
theorem LL5_15_of (m : Nat) (hm : m < 18446744073709551616) (t5 : (Option (Nat × Nat))) (t6 : (Option (Nat × Nat))) (t55 : (Option Sl)) (t56 : Int) (t57 : Int) (H : Heap) : ∃ n, LL5_15 t5 t6 t55 t56 t57 H = D5_15 (n + m + 1) t5 t6 t55 t56 t57 H := loopsD_of _ _ _ m hm
def X5_15 (x0 : Bool) (x1 : Option (Nat × Nat)) (H : Heap) : St := { env := [(4, AV.c (Cell.bool x0)), (5, AV.c (Cell.ptr x1))], loc := [], heap := H }
def X5_15a (x0 : Option (Nat × Nat)) (H : Heap) : St := { env := [(5, AV.c (Cell.ptr x0))], loc := [], heap := H }
def X5_5 (x0 : Option (Nat × Nat)) (x1 : Option (Nat × Nat)) (x2 : Option Sl) (H : Heap) : St := { env := [(5, AV.c (Cell.ptr x0)), (6, AV.c (Cell.ptr x1)), (7, AV.c (Cell.slice x2))], loc := [], heap := H }
noncomputable def J5_5 : AExit × St → Option (Bool × Heap) := fun p => blockK 0 (seqK (execL CC5 (lpD CC5) (Code.r (Code.r (Code.r (Code.r (Code.r (bodyOf Try.f5))))))) (retA CC5 [ResultVar.tmp 4] (decF dec5))) p.fst p.snd
noncomputable def J5_15 : AExit × St → Option (Bool × Heap) := fun p => blockK 2 (seqK (execL CC5 (lpD CC5) (Code.r (Code.r (Code.r (Code.r (Code.r (Code.r (Code.r (bodyOf Try.f5))))))))) (retA CC5 [ResultVar.tmp 4] (decF dec5))) p.fst p.snd
theorem D5_15_s : ∀ (n : Nat) (t5 t6 : Option (Nat × Nat)) (t55 : Option Sl) (t56 t57 : Int) (H : Heap), D5_15 (n + 1) t5 t6 t55 t56 t57 H = bif decide (t57 < t56) then t55.bind fun v17 => bif inb t57 v17.len && v17.esz == 7 then (H.get v17.id (v17.off + t57.toNat * 7)).bind fun v16 => (H.get v17.id (v17.off + t57.toNat * 7 + 1)).bind fun v15 => (H.get v17.id (v17.off + t57.toNat * 7 + 1 + 1)).bind fun v14 => (H.get v17.id (v17.off + t57.toNat * 7 + 1 + 1 + 1)).bind fun v13 => (H.get v17.id (v17.off + t57.toNat * 7 + 1 + 1 + 1 + 1)).bind fun v12 => (H.get v17.id (v17.off + t57.toNat * 7 + 1 + 1 + 1 + 1 + 1)).bind fun v11 => (H.get v17.id (v17.off + t57.toNat * 7 + 1 + 1 + 1 + 1 + 1 + 1)).bind fun v10 => (Cell.toInt IntKind.i64 v16).bind fun v9 => (Cell.toInt IntKind.i64 v15).bind fun v8 => v14.toBool.bind fun v7 => (Cell.toInt IntKind.i64 v13).bind fun v6 => (Cell.toInt IntKind.u64 v12).bind fun v5 => (Cell.toInt IntKind.i64 v11).bind fun v4 => (Cell.toInt IntKind.u64 v10).bind fun v3 => (f21 t5 0 H).bind fun v2 => bif !v2.fst then some (AExit.ret, X5_15 false t5 v2.snd) else (f17 t6 0 v5 v4 v3 v2.snd).bind fun v1 => bif !v1.fst then some (AExit.ret, X5_15 false t5 v1.snd) else (f22 t5 t6 v1.snd).bind fun v0 => bif !v0.fst then some (AExit.ret, X5_15 false t5 v0.snd) else D5_15 n t5 t6 t55 t56 (IntKind.i64.wrap (t57 + 1)) v0.snd else none else some (AExit.exit 2, X5_15a t5 H) := by intros; exact (loopN_stepD hN5 _ _ _ _).trans (by kernel_rfl)
theorem D5_5_s : ∀ (n : Nat) (t0 : Option Sl) (t5 t6 : Option (Nat × Nat)) (t7 t18 : Option Sl) (t19 t20 : Int) (H : Heap), D5_5 (n + 1) t0 t5 t6 t7 t18 t19 t20 H = bif decide (t20 < t19) then t18.bind fun v35 => bif inb t20 v35.len && v35.esz == 7 then (H.get v35.id (v35.off + t20.toNat * 7)).bind fun v34 => (H.get v35.id (v35.off + t20.toNat * 7 + 1)).bind fun v33 => (H.get v35.id (v35.off + t20.toNat * 7 + 1 + 1)).bind fun v32 => (H.get v35.id (v35.off + t20.toNat * 7 + 1 + 1 + 1)).bind fun v31 => (H.get v35.id (v35.off + t20.toNat * 7 + 1 + 1 + 1 + 1)).bind fun v30 => (H.get v35.id (v35.off + t20.toNat * 7 + 1 + 1 + 1 + 1 + 1)).bind fun v29 => (H.get v35.id (v35.off + t20.toNat * 7 + 1 + 1 + 1 + 1 + 1 + 1)).bind fun v28 => (Cell.toInt IntKind.i64 v34).bind fun v27 => (Cell.toInt IntKind.i64 v33).bind fun v26 => v32.toBool.bind fun v25 => (Cell.toInt IntKind.i64 v31).bind fun v24 => (Cell.toInt IntKind.u64 v30).bind fun v23 => (Cell.toInt IntKind.i64 v29).bind fun v22 => (Cell.toInt IntKind.u64 v28).bind fun v21 => bif decide (t20 ≥ 30) then some (AExit.exit 0, X5_5 t5 t6 t7 H) else (f18 v27 v26 v25 v24 v23 v22 v21 t0 H).bind fun v20 => (f16 t5 0 v20.fst v22 v21 v20.snd).bind fun v19 => bif v19.fst then ((v19.snd ++ [Blk.row [Cell.int IntKind.i64 v27, Cell.int IntKind.i64 v26, Cell.bool v25, Cell.int IntKind.i64 v24, Cell.int IntKind.u64 v20.fst, Cell.int IntKind.i64 v22, Cell.int IntKind.u64 v21] false]).append 7 56 t7 (some { id := List.length v19.snd, off := 0, len := 1, cap := 1, esz := 7 })).bind fun v18 => D5_5 n t0 t5 t6 v18.fst t18 t19 (IntKind.i64.wrap (t20 + 1)) v18.snd else D5_5 n t0 t5 t6 t7 t18 t19 (IntKind.i64.wrap (t20 + 1)) v19.snd else none else some (AExit.exit 0, X5_5 t5 t6 t7 H) := by intros; exact (loopN_stepD hN5 _ _ _ _).trans (by kernel_rfl)
theorem q5 : ∀ (l stores : Option Sl) (H : Heap), f5 l stores H = (f8 l H).bind fun v38 => (f9 v38.fst v38.snd).bind fun v37 => (f9 v38.fst v37.snd).bind fun v36 => (LL5_5 v38.fst v37.fst v36.fst none stores (slen stores) 0 v36.snd).bind J5_5 := by intros; exact (f5_run ..).trans (by kernel_rfl)
theorem J5_5_0 : ∀ (x0 x1 : Option (Nat × Nat)) (x2 : Option Sl) (H : Heap), J5_5 (AExit.exit 0, X5_5 x0 x1 x2 H) = (f22 x0 x1 H).bind fun v40 => bif !v40.fst then some (false, v40.snd) else (f20 x0 0 v40.snd).bind fun v39 => bif v39.fst != slen x2 then some (false, v39.snd) else (LL5_15 x0 x1 x2 (slen x2) 0 v39.snd).bind J5_15 := by intros; kernel_rfl
theorem J5_15_0 : ∀ (x0 : Bool) (x1 : Option (Nat × Nat)) (H : Heap), J5_15 (AExit.ret, X5_15 x0 x1 H) = some (x0, H) := by intros; kernel_rfl
theorem J5_15_1 : ∀ (x0 : Option (Nat × Nat)) (H : Heap), J5_15 (AExit.exit 2, X5_15a x0 H) = (f20 x0 0 H).bind fun v41 => bif v41.fst == 0 then some (true, v41.snd) else some (false, v41.snd) := by intros; kernel_rfl
theorem ok5 : FnOk Try.prog 5 (specF enc5 (sem5 f5)) := by
  refine spec_ok (C := CC5) good5 rfl rfl rfl (by kernel_rfl) Try.func5 (c := bodyOf Try.f5) (by kernel_rfl) (by kernel_rfl) (Nat.le_of_eq Try.ntmps5.symm) dec5 enc5 de5 _ ?_
  intro args H q h
  unfold sem5 at h
  split at h
  · rw [← f5_eq]; exact h
  · cases h
