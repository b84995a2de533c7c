/- Layer 4: its functions, in direct style. -/
import Derived.Test.YtnjdajcgcnjamaaProg
import Derived.Test.YtnjdajcgcnjamaaIm1
import Derived.KernelRfl
namespace Go.Proofs.Ytnjdajcgcnjamaa
open Go Go.Proofs.Ytnjdajcgcnjamaa.Ab
set_option linter.unusedVariables false
set_option linter.unusedSimpArgs false
set_option maxRecDepth 100000
noncomputable section
/-- The number of bytes, the lowest first. -/
def numB : List UInt8 → Nat
  | [] => 0
  | b :: l => b.toNat + 256 * numB l
theorem numB_lt : ∀ l : List UInt8, numB l < 256 ^ l.length
  | [] => by simp [numB]
  | b :: l => by
    have h1 := numB_lt l
    have h2 := b.toNat_lt
    simp only [numB, List.length_cons, Nat.pow_succ]
    omega
theorem wrapU_nat (n : Nat) (h : n < 18446744073709551616) : IntKind.u64.wrap (n : Int) = n := by rw [wrap_u64]; omega
def ES (s : SO) : List Cell := [.slice s]
theorem ES_len (s : SO) : (ES s).length = 1 := rfl
/-- Are there n bytes from one on, of so many? -/
def hasI (L : Nat) (a n : Int) : Bool := decide (a ≥ 0) && (decide (n ≥ 0) && (decide (a ≤ L) && decide (n ≤ L - a)))
/-! 6: L03_Cut -/
noncomputable def CC6 : Ctx := { P := Try.prog, own := [1, 2, 3, 5, 7, 9], fns := [], nt := 83, nums := [], live := [(19, ⟨[2, 3, 66, 67, 68], [2, 3], [2, 3], [2, 3]⟩), (11, ⟨[1, 2, 3, 41, 42, 43], [1, 2, 3], [1, 2, 3], [1, 2, 3]⟩), (3, ⟨[1, 2, 3, 16, 17, 18], [1, 2, 3], [1, 2, 3], [1, 2, 3]⟩)] }
theorem good6 : Callees Try.prog CC6.fns [] CC6.nums := Callees.nil Try.prog
theorem hN6 : CtxNat CC6 := good6.ctx rfl rfl rfl
def enc6 (r : Int × Int × SO × SO × SO) : List TV := [.agg [Cell.int .i64 (r.1), Cell.int .u64 (r.2.1), Cell.slice (r.2.2.1), Cell.slice (r.2.2.2.1), Cell.slice (r.2.2.2.2)]]
def dec6 : AV → Option (Int × Int × SO × SO × SO)
  | .agg [Cell.int .i64 q0, Cell.int .u64 q1, Cell.slice q2, Cell.slice q3, Cell.slice q4] => some (q0, q1, q2, q3, q4)
  | _ => none
theorem de6 (v : AV) (r : Int × Int × SO × SO × SO) (h : dec6 v = some r) : v = oneOf (enc6 r) := by
  unfold dec6 at h
  split at h
  · cases h; rfl
  · cases h
abbrev Ty6 := Int → Int → SO → SO → SO → Heap → Option ((Int × Int × SO × SO × SO) × Heap)
def sem6 (f : Ty6) : List TV → Heap → Option ((Int × Int × SO × SO × SO) × Heap)
  | [.agg [Cell.int .i64 x00, Cell.int .u64 x01, Cell.slice x02, Cell.slice x03, Cell.slice x04]], H => f x00 x01 x02 x03 x04 H
  | _, _ => none
noncomputable def F06 : Ty6 := fun x00 x01 x02 x03 x04 H => fnA CC6 Try.f6.results.toList (bodyOf Try.f6) _ [.agg [Cell.int .i64 x00, Cell.int .u64 x01, Cell.slice x02, Cell.slice x03, Cell.slice x04]] H (decF dec6)
noncomputable def f6 : Ty6 := hide F06
theorem f6_eq : f6 = F06 := hide_eq _
noncomputable def P6_3 : Code := (Code.l (Code.l (Code.r (Code.l (Code.r (Code.r (bodyOf Try.f6)))))))
noncomputable def P6_11 : Code := (Code.l (Code.l (Code.r (Code.l (Code.r (Code.r (Code.r (bodyOf Try.f6))))))))
noncomputable def P6_19 : Code := (Code.l (Code.l (Code.r (Code.l (Code.r (Code.r (Code.r (Code.r (bodyOf Try.f6)))))))))
def S6_3 (t16 : SO) (t17 t18 b1_0 b1_1 : Int) (b1_2 b1_3 b1_4 : SO) (b2_0 b2_1 : Int) (b2_2 b2_3 b2_4 : SO) (b3_0 b3_1 : Int) (b3_2 b3_3 b3_4 : SO) (H : Heap) : St := ⟨[(1, .lp 1 0), (2, .lp 2 0), (3, .lp 3 0), (16, .c (Cell.slice t16)), (17, .c (Cell.int .i64 t17)), (18, .c (Cell.int .i64 t18))], [(1, [Cell.int .i64 b1_0, Cell.int .u64 b1_1, Cell.slice b1_2, Cell.slice b1_3, Cell.slice b1_4]), (2, [Cell.int .i64 b2_0, Cell.int .u64 b2_1, Cell.slice b2_2, Cell.slice b2_3, Cell.slice b2_4]), (3, [Cell.int .i64 b3_0, Cell.int .u64 b3_1, Cell.slice b3_2, Cell.slice b3_3, Cell.slice b3_4])], H⟩
noncomputable def D6_3 (n : Nat) (t16 : SO) (t17 t18 b1_0 b1_1 : Int) (b1_2 b1_3 b1_4 : SO) (b2_0 b2_1 : Int) (b2_2 b2_3 b2_4 : SO) (b3_0 b3_1 : Int) (b3_2 b3_3 b3_4 : SO) (H : Heap) : Option (AExit × St) := loopN (exec CC6 P6_3) (keepOf CC6.live P6_3) n (S6_3 t16 t17 t18 b1_0 b1_1 b1_2 b1_3 b1_4 b2_0 b2_1 b2_2 b2_3 b2_4 b3_0 b3_1 b3_2 b3_3 b3_4 H) retD
noncomputable def LL6_3 (t16 : SO) (t17 t18 b1_0 b1_1 : Int) (b1_2 b1_3 b1_4 : SO) (b2_0 b2_1 : Int) (b2_2 b2_3 b2_4 : SO) (b3_0 b3_1 : Int) (b3_2 b3_3 b3_4 : SO) (H : Heap) : Option (AExit × St) := loopsD CC6 P6_3 (S6_3 t16 t17 t18 b1_0 b1_1 b1_2 b1_3 b1_4 b2_0 b2_1 b2_2 b2_3 b2_4 b3_0 b3_1 b3_2 b3_3 b3_4 H)
theorem LL6_3_of (m : Nat) (hm : m < 18446744073709551616) (t16 : SO) (t17 t18 b1_0 b1_1 : Int) (b1_2 b1_3 b1_4 : SO) (b2_0 b2_1 : Int) (b2_2 b2_3 b2_4 : SO) (b3_0 b3_1 : Int) (b3_2 b3_3 b3_4 : SO) (H : Heap) : ∃ n, LL6_3 t16 t17 t18 b1_0 b1_1 b1_2 b1_3 b1_4 b2_0 b2_1 b2_2 b2_3 b2_4 b3_0 b3_1 b3_2 b3_3 b3_4 H = D6_3 (n + m + 1) t16 t17 t18 b1_0 b1_1 b1_2 b1_3 b1_4 b2_0 b2_1 b2_2 b2_3 b2_4 b3_0 b3_1 b3_2 b3_3 b3_4 H := loopsD_of _ _ _ m hm
def S6_11 (t41 : SO) (t42 t43 b1_0 b1_1 : Int) (b1_2 b1_3 b1_4 : SO) (b2_0 b2_1 : Int) (b2_2 b2_3 b2_4 : SO) (b3_0 b3_1 : Int) (b3_2 b3_3 b3_4 : SO) (H : Heap) : St := ⟨[(1, .lp 1 0), (2, .lp 2 0), (3, .lp 3 0), (41, .c (Cell.slice t41)), (42, .c (Cell.int .i64 t42)), (43, .c (Cell.int .i64 t43))], [(1, [Cell.int .i64 b1_0, Cell.int .u64 b1_1, Cell.slice b1_2, Cell.slice b1_3, Cell.slice b1_4]), (2, [Cell.int .i64 b2_0, Cell.int .u64 b2_1, Cell.slice b2_2, Cell.slice b2_3, Cell.slice b2_4]), (3, [Cell.int .i64 b3_0, Cell.int .u64 b3_1, Cell.slice b3_2, Cell.slice b3_3, Cell.slice b3_4])], H⟩
noncomputable def D6_11 (n : Nat) (t41 : SO) (t42 t43 b1_0 b1_1 : Int) (b1_2 b1_3 b1_4 : SO) (b2_0 b2_1 : Int) (b2_2 b2_3 b2_4 : SO) (b3_0 b3_1 : Int) (b3_2 b3_3 b3_4 : SO) (H : Heap) : Option (AExit × St) := loopN (exec CC6 P6_11) (keepOf CC6.live P6_11) n (S6_11 t41 t42 t43 b1_0 b1_1 b1_2 b1_3 b1_4 b2_0 b2_1 b2_2 b2_3 b2_4 b3_0 b3_1 b3_2 b3_3 b3_4 H) retD
noncomputable def LL6_11 (t41 : SO) (t42 t43 b1_0 b1_1 : Int) (b1_2 b1_3 b1_4 : SO) (b2_0 b2_1 : Int) (b2_2 b2_3 b2_4 : SO) (b3_0 b3_1 : Int) (b3_2 b3_3 b3_4 : SO) (H : Heap) : Option (AExit × St) := loopsD CC6 P6_11 (S6_11 t41 t42 t43 b1_0 b1_1 b1_2 b1_3 b1_4 b2_0 b2_1 b2_2 b2_3 b2_4 b3_0 b3_1 b3_2 b3_3 b3_4 H)
theorem LL6_11_of (m : Nat) (hm : m < 18446744073709551616) (t41 : SO) (t42 t43 b1_0 b1_1 : Int) (b1_2 b1_3 b1_4 : SO) (b2_0 b2_1 : Int) (b2_2 b2_3 b2_4 : SO) (b3_0 b3_1 : Int) (b3_2 b3_3 b3_4 : SO) (H : Heap) : ∃ n, LL6_11 t41 t42 t43 b1_0 b1_1 b1_2 b1_3 b1_4 b2_0 b2_1 b2_2 b2_3 b2_4 b3_0 b3_1 b3_2 b3_3 b3_4 H = D6_11 (n + m + 1) t41 t42 t43 b1_0 b1_1 b1_2 b1_3 b1_4 b2_0 b2_1 b2_2 b2_3 b2_4 b3_0 b3_1 b3_2 b3_3 b3_4 H := loopsD_of _ _ _ m hm
def S6_19 (t66 : SO) (t67 t68 b2_0 b2_1 : Int) (b2_2 b2_3 b2_4 : SO) (b3_0 b3_1 : Int) (b3_2 b3_3 b3_4 : SO) (H : Heap) : St := ⟨[(2, .lp 2 0), (3, .lp 3 0), (66, .c (Cell.slice t66)), (67, .c (Cell.int .i64 t67)), (68, .c (Cell.int .i64 t68))], [(2, [Cell.int .i64 b2_0, Cell.int .u64 b2_1, Cell.slice b2_2, Cell.slice b2_3, Cell.slice b2_4]), (3, [Cell.int .i64 b3_0, Cell.int .u64 b3_1, Cell.slice b3_2, Cell.slice b3_3, Cell.slice b3_4])], H⟩
noncomputable def D6_19 (n : Nat) (t66 : SO) (t67 t68 b2_0 b2_1 : Int) (b2_2 b2_3 b2_4 : SO) (b3_0 b3_1 : Int) (b3_2 b3_3 b3_4 : SO) (H : Heap) : Option (AExit × St) := loopN (exec CC6 P6_19) (keepOf CC6.live P6_19) n (S6_19 t66 t67 t68 b2_0 b2_1 b2_2 b2_3 b2_4 b3_0 b3_1 b3_2 b3_3 b3_4 H) retD
noncomputable def LL6_19 (t66 : SO) (t67 t68 b2_0 b2_1 : Int) (b2_2 b2_3 b2_4 : SO) (b3_0 b3_1 : Int) (b3_2 b3_3 b3_4 : SO) (H : Heap) : Option (AExit × St) := loopsD CC6 P6_19 (S6_19 t66 t67 t68 b2_0 b2_1 b2_2 b2_3 b2_4 b3_0 b3_1 b3_2 b3_3 b3_4 H)
theorem LL6_19_of (m : Nat) (hm : m < 18446744073709551616) (t66 : SO) (t67 t68 b2_0 b2_1 : Int) (b2_2 b2_3 b2_4 : SO) (b3_0 b3_1 : Int) (b3_2 b3_3 b3_4 : SO) (H : Heap) : ∃ n, LL6_19 t66 t67 t68 b2_0 b2_1 b2_2 b2_3 b2_4 b3_0 b3_1 b3_2 b3_3 b3_4 H = D6_19 (n + m + 1) t66 t67 t68 b2_0 b2_1 b2_2 b2_3 b2_4 b3_0 b3_1 b3_2 b3_3 b3_4 H := loopsD_of _ _ _ m hm
def X6_19 (x0 : Int) (x1 : Int) (x2 : SO) (x3 : SO) (x4 : SO) (x5 : Int) (x6 : Int) (x7 : SO) (x8 : SO) (x9 : SO) (H : Heap) : St := { env := [(2, AV.lp 2 0), (3, AV.lp 3 0)], loc := [(2, [Cell.int .i64 x0, Cell.int .u64 x1, Cell.slice x2, Cell.slice x3, Cell.slice x4]), (3, [Cell.int .i64 x5, Cell.int .u64 x6, Cell.slice x7, Cell.slice x8, Cell.slice x9])], heap := H }
def X6_11 (x0 : Int) (x1 : Int) (x2 : SO) (x3 : SO) (x4 : SO) (x5 : Int) (x6 : Int) (x7 : SO) (x8 : SO) (x9 : SO) (x10 : Int) (x11 : Int) (x12 : SO) (x13 : SO) (x14 : SO) (H : Heap) : St := { env := [(1, AV.lp 1 0), (2, AV.lp 2 0), (3, AV.lp 3 0)], loc := [(1, [Cell.int .i64 x0, Cell.int .u64 x1, Cell.slice x2, Cell.slice x3, Cell.slice x4]), (2, [Cell.int .i64 x5, Cell.int .u64 x6, Cell.slice x7, Cell.slice x8, Cell.slice x9]), (3, [Cell.int .i64 x10, Cell.int .u64 x11, Cell.slice x12, Cell.slice x13, Cell.slice x14])], heap := H }
def X6_3 (x0 : Int) (x1 : Int) (x2 : SO) (x3 : SO) (x4 : SO) (x5 : Int) (x6 : Int) (x7 : SO) (x8 : SO) (x9 : SO) (x10 : Int) (x11 : Int) (x12 : SO) (x13 : SO) (x14 : SO) (H : Heap) : St := { env := [(1, AV.lp 1 0), (2, AV.lp 2 0), (3, AV.lp 3 0)], loc := [(1, [Cell.int .i64 x0, Cell.int .u64 x1, Cell.slice x2, Cell.slice x3, Cell.slice x4]), (2, [Cell.int .i64 x5, Cell.int .u64 x6, Cell.slice x7, Cell.slice x8, Cell.slice x9]), (3, [Cell.int .i64 x10, Cell.int .u64 x11, Cell.slice x12, Cell.slice x13, Cell.slice x14])], heap := H }
noncomputable def J6_3 : AExit × St → Option ((Int × Int × Option Sl × Option Sl × SO) × Heap) := fun p => blockK 0 (seqK (execL CC6 (lpD CC6) (Code.r (Code.r (Code.r (bodyOf Try.f6))))) (retA CC6 [ResultVar.cell 2 27] (decF dec6))) p.1 p.2
noncomputable def J6_11 : AExit × St → Option ((Int × Int × Option Sl × Option Sl × SO) × Heap) := fun p => blockK 2 (seqK (execL CC6 (lpD CC6) (Code.r (Code.r (Code.r (Code.r (bodyOf Try.f6)))))) (retA CC6 [ResultVar.cell 2 27] (decF dec6))) p.1 p.2
noncomputable def J6_19 : AExit × St → Option ((Int × Int × Option Sl × Option Sl × SO) × Heap) := fun p => blockK 4 (seqK (execL CC6 (lpD CC6) (Code.r (Code.r (Code.r (Code.r (Code.r (bodyOf Try.f6))))))) (retA CC6 [ResultVar.cell 2 27] (decF dec6))) p.1 p.2
theorem D6_19_s : ∀ (n : Nat) (t66 : SO) (t67 t68 b2_0 b2_1 : Int) (b2_2 b2_3 b2_4 : SO) (b3_0 b3_1 : Int) (b3_2 b3_3 b3_4 : SO) (H : Heap), D6_19 (n + 1) t66 t67 t68 b2_0 b2_1 b2_2 b2_3 b2_4 b3_0 b3_1 b3_2 b3_3 b3_4 H = bif decide (t68 < t67) then t66.bind fun v7 => bif inb t68 v7.len && v7.esz == 3 then (H.get v7.id (v7.off + t68.toNat * 3)).bind fun v6 => (H.get v7.id (v7.off + t68.toNat * 3 + 1)).bind fun v5 => (H.get v7.id (v7.off + t68.toNat * 3 + 1 + 1)).bind fun v4 => (Cell.toInt .u64 v6).bind fun v3 => (Cell.toInt .i64 v5).bind fun v2 => (Cell.toInt .i64 v4).bind fun v1 => bif decide (t68 < 66) then ((H ++ [Blk.row [Cell.int .u64 v3, Cell.int .i64 v2, Cell.int .i64 v1] false]).append 3 24 b3_4 (some { id := List.length H, off := 0, len := 1, cap := 1, esz := 3 })).bind fun v0 => D6_19 n t66 t67 (IntKind.i64.wrap (t68 + 1)) b2_0 b2_1 b2_2 b2_3 b2_4 b3_0 b3_1 b3_2 b3_3 v0.1 v0.2 else D6_19 n t66 t67 (IntKind.i64.wrap (t68 + 1)) b2_0 b2_1 b2_2 b2_3 b2_4 b3_0 b3_1 b3_2 b3_3 b3_4 H else none else some (AExit.exit 4, X6_19 b2_0 b2_1 b2_2 b2_3 b2_4 b3_0 b3_1 b3_2 b3_3 b3_4 H) := by intros; exact (loopN_stepD hN6 _ _ _ _).trans (by kernel_rfl)
theorem D6_11_s : ∀ (n : Nat) (t41 : SO) (t42 t43 b1_0 b1_1 : Int) (b1_2 b1_3 b1_4 : SO) (b2_0 b2_1 : Int) (b2_2 b2_3 b2_4 : SO) (b3_0 b3_1 : Int) (b3_2 b3_3 b3_4 : SO) (H : Heap), D6_11 (n + 1) t41 t42 t43 b1_0 b1_1 b1_2 b1_3 b1_4 b2_0 b2_1 b2_2 b2_3 b2_4 b3_0 b3_1 b3_2 b3_3 b3_4 H = bif decide (t43 < t42) then t41.bind fun v19 => bif inb t43 v19.len && v19.esz == 4 then (H.get v19.id (v19.off + t43.toNat * 4)).bind fun v18 => (H.get v19.id (v19.off + t43.toNat * 4 + 1)).bind fun v17 => (H.get v19.id (v19.off + t43.toNat * 4 + 1 + 1)).bind fun v16 => (H.get v19.id (v19.off + t43.toNat * 4 + 1 + 1 + 1)).bind fun v15 => v18.toStr.bind fun v14 => (Cell.toInt .i64 v17).bind fun v13 => (Cell.toInt .u64 v16).bind fun v12 => (Cell.toInt .u64 v15).bind fun v11 => bif decide (t43 ≥ 66) then some (AExit.exit 2, X6_11 b1_0 b1_1 b1_2 b1_3 b1_4 b2_0 b2_1 b2_2 b2_3 b2_4 b3_0 b3_1 b3_2 b3_3 b3_4 H) else bif decide ((↑v14.size : Int) > 40) then (strSub v14 0 (some 40)).bind fun v9 => ((H ++ [Blk.row [Cell.str v9, Cell.int .i64 v13, Cell.int .u64 v12, Cell.int .u64 v11] false]).append 4 40 b3_3 (some { id := List.length H, off := 0, len := 1, cap := 1, esz := 4 })).bind fun v8 => D6_11 n t41 t42 (IntKind.i64.wrap (t43 + 1)) b1_0 b1_1 b1_2 b1_3 b1_4 b2_0 b2_1 b2_2 b2_3 b2_4 b3_0 b3_1 b3_2 v8.1 b3_4 v8.2 else ((H ++ [Blk.row [Cell.str v14, Cell.int .i64 v13, Cell.int .u64 v12, Cell.int .u64 v11] false]).append 4 40 b3_3 (some { id := List.length H, off := 0, len := 1, cap := 1, esz := 4 })).bind fun v10 => D6_11 n t41 t42 (IntKind.i64.wrap (t43 + 1)) b1_0 b1_1 b1_2 b1_3 b1_4 b2_0 b2_1 b2_2 b2_3 b2_4 b3_0 b3_1 b3_2 v10.1 b3_4 v10.2 else none else some (AExit.exit 2, X6_11 b1_0 b1_1 b1_2 b1_3 b1_4 b2_0 b2_1 b2_2 b2_3 b2_4 b3_0 b3_1 b3_2 b3_3 b3_4 H) := by intros; exact (loopN_stepD hN6 _ _ _ _).trans (by kernel_rfl)
theorem D6_3_s : ∀ (n : Nat) (t16 : SO) (t17 t18 b1_0 b1_1 : Int) (b1_2 b1_3 b1_4 : SO) (b2_0 b2_1 : Int) (b2_2 b2_3 b2_4 : SO) (b3_0 b3_1 : Int) (b3_2 b3_3 b3_4 : SO) (H : Heap), D6_3 (n + 1) t16 t17 t18 b1_0 b1_1 b1_2 b1_3 b1_4 b2_0 b2_1 b2_2 b2_3 b2_4 b3_0 b3_1 b3_2 b3_3 b3_4 H = bif decide (t18 < t17) then t16.bind fun v33 => bif inb t18 v33.len && v33.esz == 5 then (H.get v33.id (v33.off + t18.toNat * 5)).bind fun v32 => (H.get v33.id (v33.off + t18.toNat * 5 + 1)).bind fun v31 => (H.get v33.id (v33.off + t18.toNat * 5 + 1 + 1)).bind fun v30 => (H.get v33.id (v33.off + t18.toNat * 5 + 1 + 1 + 1)).bind fun v29 => (H.get v33.id (v33.off + t18.toNat * 5 + 1 + 1 + 1 + 1)).bind fun v28 => (Cell.toInt .i64 v32).bind fun v27 => (Cell.toInt .i64 v31).bind fun v26 => (Cell.toInt .u64 v30).bind fun v25 => (Cell.toInt .u64 v29).bind fun v24 => v28.toSlice.bind fun v23 => bif decide (t18 ≥ 26) then some (AExit.exit 0, X6_3 b1_0 b1_1 b1_2 b1_3 b1_4 b2_0 b2_1 b2_2 b2_3 b2_4 b3_0 b3_1 b3_2 b3_3 b3_4 H) else bif decide (slen v23 > 60) then (Sl.sub v23 0 (some 60)).bind fun v21 => bif esOk v23 1 then ((H ++ [Blk.row [Cell.int .i64 v27, Cell.int .i64 v26, Cell.int .u64 v25, Cell.int .u64 v24, Cell.slice v21] false]).append 5 56 b3_2 (some { id := List.length H, off := 0, len := 1, cap := 1, esz := 5 })).bind fun v20 => D6_3 n t16 t17 (IntKind.i64.wrap (t18 + 1)) b1_0 b1_1 b1_2 b1_3 b1_4 b2_0 b2_1 b2_2 b2_3 b2_4 b3_0 b3_1 v20.1 b3_3 b3_4 v20.2 else none else ((H ++ [Blk.row [Cell.int .i64 v27, Cell.int .i64 v26, Cell.int .u64 v25, Cell.int .u64 v24, Cell.slice v23] false]).append 5 56 b3_2 (some { id := List.length H, off := 0, len := 1, cap := 1, esz := 5 })).bind fun v22 => D6_3 n t16 t17 (IntKind.i64.wrap (t18 + 1)) b1_0 b1_1 b1_2 b1_3 b1_4 b2_0 b2_1 b2_2 b2_3 b2_4 b3_0 b3_1 v22.1 b3_3 b3_4 v22.2 else none else some (AExit.exit 0, X6_3 b1_0 b1_1 b1_2 b1_3 b1_4 b2_0 b2_1 b2_2 b2_3 b2_4 b3_0 b3_1 b3_2 b3_3 b3_4 H) := by intros; exact (loopN_stepD hN6 _ _ _ _).trans (by kernel_rfl)
theorem q6 : ∀ (x00 x01 : Int) (x02 x03 x04 : SO) (H : Heap), f6 x00 x01 x02 x03 x04 H = (LL6_3 x02 (slen x02) 0 x00 x01 x02 x03 x04 0 0 none none none x00 x01 none none none H).bind J6_3 := by intros; rw [f6_eq]; exact (fnA_lpD hN6 ..).trans (by kernel_rfl)
theorem J6_3_0 : ∀ (x0 x1 : Int) (x2 x3 x4 : SO) (x5 x6 : Int) (x7 x8 x9 : SO) (x10 x11 : Int) (x12 x13 x14 : SO) (H : Heap), J6_3 (AExit.exit 0, X6_3 x0 x1 x2 x3 x4 x5 x6 x7 x8 x9 x10 x11 x12 x13 x14 H) = (LL6_11 x3 (slen x3) 0 x0 x1 x2 x3 x4 x5 x6 x7 x8 x9 x10 x11 x12 x13 x14 H).bind J6_11 := by intros; kernel_rfl
theorem J6_11_0 : ∀ (x0 x1 : Int) (x2 x3 x4 : SO) (x5 x6 : Int) (x7 x8 x9 : SO) (x10 x11 : Int) (x12 x13 x14 : SO) (H : Heap), J6_11 (AExit.exit 2, X6_11 x0 x1 x2 x3 x4 x5 x6 x7 x8 x9 x10 x11 x12 x13 x14 H) = (LL6_19 x4 (slen x4) 0 x5 x6 x7 x8 x9 x10 x11 x12 x13 x14 H).bind J6_19 := by intros; kernel_rfl
theorem J6_19_0 : ∀ (x0 x1 : Int) (x2 x3 x4 : SO) (x5 x6 : Int) (x7 x8 x9 : SO) (H : Heap), J6_19 (AExit.exit 4, X6_19 x0 x1 x2 x3 x4 x5 x6 x7 x8 x9 H) = some ((x5, x6, x7, x8, x9), H) := by intros; kernel_rfl
theorem ok6 : FnOk Try.prog 6 (specF enc6 (sem6 f6)) := by
  refine spec_ok (C := CC6) good6 rfl rfl rfl (by kernel_rfl) Try.func6 (c := bodyOf Try.f6) (by kernel_rfl) (by kernel_rfl) (Nat.le_of_eq Try.ntmps6.symm) dec6 enc6 de6 _ ?_
  intro args H q h
  unfold sem6 at h
  split at h
  · rw [f6_eq] at h; exact h
  · cases h
/-! 8: L03_Ours -/
noncomputable def CC8 : Ctx := { P := Try.prog, own := [1, 2, 3, 5, 7, 9], fns := [], nt := 82, nums := [], live := [(13, ⟨[2, 3, 62, 63, 64], [2, 3], [2, 3], [2, 3]⟩), (8, ⟨[1, 2, 3, 40, 41, 42], [1, 2, 3], [1, 2, 3], [1, 2, 3]⟩), (3, ⟨[1, 2, 3, 16, 17, 18], [1, 2, 3], [1, 2, 3], [1, 2, 3]⟩)] }
theorem good8 : Callees Try.prog CC8.fns [] CC8.nums := Callees.nil Try.prog
theorem hN8 : CtxNat CC8 := good8.ctx rfl rfl rfl
def enc8 (r : Int × Int × SO × SO × SO) : List TV := [.agg [Cell.int .i64 (r.1), Cell.int .u64 (r.2.1), Cell.slice (r.2.2.1), Cell.slice (r.2.2.2.1), Cell.slice (r.2.2.2.2)]]
def dec8 : AV → Option (Int × Int × SO × SO × SO)
  | .agg [Cell.int .i64 q0, Cell.int .u64 q1, Cell.slice q2, Cell.slice q3, Cell.slice q4] => some (q0, q1, q2, q3, q4)
  | _ => none
theorem de8 (v : AV) (r : Int × Int × SO × SO × SO) (h : dec8 v = some r) : v = oneOf (enc8 r) := by
  unfold dec8 at h
  split at h
  · cases h; rfl
  · cases h
abbrev Ty8 := Int → Int → SO → SO → SO → Heap → Option ((Int × Int × SO × SO × SO) × Heap)
def sem8 (f : Ty8) : List TV → Heap → Option ((Int × Int × SO × SO × SO) × Heap)
  | [.agg [Cell.int .i64 x00, Cell.int .u64 x01, Cell.slice x02, Cell.slice x03, Cell.slice x04]], H => f x00 x01 x02 x03 x04 H
  | _, _ => none
noncomputable def F08 : Ty8 := fun x00 x01 x02 x03 x04 H => fnA CC8 Try.f8.results.toList (bodyOf Try.f8) _ [.agg [Cell.int .i64 x00, Cell.int .u64 x01, Cell.slice x02, Cell.slice x03, Cell.slice x04]] H (decF dec8)
noncomputable def f8 : Ty8 := hide F08
theorem f8_eq : f8 = F08 := hide_eq _
noncomputable def P8_3 : Code := (Code.l (Code.l (Code.r (Code.l (Code.r (Code.r (bodyOf Try.f8)))))))
noncomputable def P8_8 : Code := (Code.l (Code.l (Code.r (Code.l (Code.r (Code.r (Code.r (bodyOf Try.f8))))))))
noncomputable def P8_13 : Code := (Code.l (Code.l (Code.r (Code.l (Code.r (Code.r (Code.r (Code.r (bodyOf Try.f8)))))))))
def S8_3 (t16 : SO) (t17 t18 b1_0 b1_1 : Int) (b1_2 b1_3 b1_4 : SO) (b2_0 b2_1 : Int) (b2_2 b2_3 b2_4 : SO) (b3_0 b3_1 : Int) (b3_2 b3_3 b3_4 : SO) (H : Heap) : St := ⟨[(1, .lp 1 0), (2, .lp 2 0), (3, .lp 3 0), (16, .c (Cell.slice t16)), (17, .c (Cell.int .i64 t17)), (18, .c (Cell.int .i64 t18))], [(1, [Cell.int .i64 b1_0, Cell.int .u64 b1_1, Cell.slice b1_2, Cell.slice b1_3, Cell.slice b1_4]), (2, [Cell.int .i64 b2_0, Cell.int .u64 b2_1, Cell.slice b2_2, Cell.slice b2_3, Cell.slice b2_4]), (3, [Cell.int .i64 b3_0, Cell.int .u64 b3_1, Cell.slice b3_2, Cell.slice b3_3, Cell.slice b3_4])], H⟩
noncomputable def D8_3 (n : Nat) (t16 : SO) (t17 t18 b1_0 b1_1 : Int) (b1_2 b1_3 b1_4 : SO) (b2_0 b2_1 : Int) (b2_2 b2_3 b2_4 : SO) (b3_0 b3_1 : Int) (b3_2 b3_3 b3_4 : SO) (H : Heap) : Option (AExit × St) := loopN (exec CC8 P8_3) (keepOf CC8.live P8_3) n (S8_3 t16 t17 t18 b1_0 b1_1 b1_2 b1_3 b1_4 b2_0 b2_1 b2_2 b2_3 b2_4 b3_0 b3_1 b3_2 b3_3 b3_4 H) retD
noncomputable def LL8_3 (t16 : SO) (t17 t18 b1_0 b1_1 : Int) (b1_2 b1_3 b1_4 : SO) (b2_0 b2_1 : Int) (b2_2 b2_3 b2_4 : SO) (b3_0 b3_1 : Int) (b3_2 b3_3 b3_4 : SO) (H : Heap) : Option (AExit × St) := loopsD CC8 P8_3 (S8_3 t16 t17 t18 b1_0 b1_1 b1_2 b1_3 b1_4 b2_0 b2_1 b2_2 b2_3 b2_4 b3_0 b3_1 b3_2 b3_3 b3_4 H)
theorem LL8_3_of (m : Nat) (hm : m < 18446744073709551616) (t16 : SO) (t17 t18 b1_0 b1_1 : Int) (b1_2 b1_3 b1_4 : SO) (b2_0 b2_1 : Int) (b2_2 b2_3 b2_4 : SO) (b3_0 b3_1 : Int) (b3_2 b3_3 b3_4 : SO) (H : Heap) : ∃ n, LL8_3 t16 t17 t18 b1_0 b1_1 b1_2 b1_3 b1_4 b2_0 b2_1 b2_2 b2_3 b2_4 b3_0 b3_1 b3_2 b3_3 b3_4 H = D8_3 (n + m + 1) t16 t17 t18 b1_0 b1_1 b1_2 b1_3 b1_4 b2_0 b2_1 b2_2 b2_3 b2_4 b3_0 b3_1 b3_2 b3_3 b3_4 H := loopsD_of _ _ _ m hm
def S8_8 (t40 : SO) (t41 t42 b1_0 b1_1 : Int) (b1_2 b1_3 b1_4 : SO) (b2_0 b2_1 : Int) (b2_2 b2_3 b2_4 : SO) (b3_0 b3_1 : Int) (b3_2 b3_3 b3_4 : SO) (H : Heap) : St := ⟨[(1, .lp 1 0), (2, .lp 2 0), (3, .lp 3 0), (40, .c (Cell.slice t40)), (41, .c (Cell.int .i64 t41)), (42, .c (Cell.int .i64 t42))], [(1, [Cell.int .i64 b1_0, Cell.int .u64 b1_1, Cell.slice b1_2, Cell.slice b1_3, Cell.slice b1_4]), (2, [Cell.int .i64 b2_0, Cell.int .u64 b2_1, Cell.slice b2_2, Cell.slice b2_3, Cell.slice b2_4]), (3, [Cell.int .i64 b3_0, Cell.int .u64 b3_1, Cell.slice b3_2, Cell.slice b3_3, Cell.slice b3_4])], H⟩
noncomputable def D8_8 (n : Nat) (t40 : SO) (t41 t42 b1_0 b1_1 : Int) (b1_2 b1_3 b1_4 : SO) (b2_0 b2_1 : Int) (b2_2 b2_3 b2_4 : SO) (b3_0 b3_1 : Int) (b3_2 b3_3 b3_4 : SO) (H : Heap) : Option (AExit × St) := loopN (exec CC8 P8_8) (keepOf CC8.live P8_8) n (S8_8 t40 t41 t42 b1_0 b1_1 b1_2 b1_3 b1_4 b2_0 b2_1 b2_2 b2_3 b2_4 b3_0 b3_1 b3_2 b3_3 b3_4 H) retD
noncomputable def LL8_8 (t40 : SO) (t41 t42 b1_0 b1_1 : Int) (b1_2 b1_3 b1_4 : SO) (b2_0 b2_1 : Int) (b2_2 b2_3 b2_4 : SO) (b3_0 b3_1 : Int) (b3_2 b3_3 b3_4 : SO) (H : Heap) : Option (AExit × St) := loopsD CC8 P8_8 (S8_8 t40 t41 t42 b1_0 b1_1 b1_2 b1_3 b1_4 b2_0 b2_1 b2_2 b2_3 b2_4 b3_0 b3_1 b3_2 b3_3 b3_4 H)
theorem LL8_8_of (m : Nat) (hm : m < 18446744073709551616) (t40 : SO) (t41 t42 b1_0 b1_1 : Int) (b1_2 b1_3 b1_4 : SO) (b2_0 b2_1 : Int) (b2_2 b2_3 b2_4 : SO) (b3_0 b3_1 : Int) (b3_2 b3_3 b3_4 : SO) (H : Heap) : ∃ n, LL8_8 t40 t41 t42 b1_0 b1_1 b1_2 b1_3 b1_4 b2_0 b2_1 b2_2 b2_3 b2_4 b3_0 b3_1 b3_2 b3_3 b3_4 H = D8_8 (n + m + 1) t40 t41 t42 b1_0 b1_1 b1_2 b1_3 b1_4 b2_0 b2_1 b2_2 b2_3 b2_4 b3_0 b3_1 b3_2 b3_3 b3_4 H := loopsD_of _ _ _ m hm
def S8_13 (t62 : SO) (t63 t64 b2_0 b2_1 : Int) (b2_2 b2_3 b2_4 : SO) (b3_0 b3_1 : Int) (b3_2 b3_3 b3_4 : SO) (H : Heap) : St := ⟨[(2, .lp 2 0), (3, .lp 3 0), (62, .c (Cell.slice t62)), (63, .c (Cell.int .i64 t63)), (64, .c (Cell.int .i64 t64))], [(2, [Cell.int .i64 b2_0, Cell.int .u64 b2_1, Cell.slice b2_2, Cell.slice b2_3, Cell.slice b2_4]), (3, [Cell.int .i64 b3_0, Cell.int .u64 b3_1, Cell.slice b3_2, Cell.slice b3_3, Cell.slice b3_4])], H⟩
noncomputable def D8_13 (n : Nat) (t62 : SO) (t63 t64 b2_0 b2_1 : Int) (b2_2 b2_3 b2_4 : SO) (b3_0 b3_1 : Int) (b3_2 b3_3 b3_4 : SO) (H : Heap) : Option (AExit × St) := loopN (exec CC8 P8_13) (keepOf CC8.live P8_13) n (S8_13 t62 t63 t64 b2_0 b2_1 b2_2 b2_3 b2_4 b3_0 b3_1 b3_2 b3_3 b3_4 H) retD
noncomputable def LL8_13 (t62 : SO) (t63 t64 b2_0 b2_1 : Int) (b2_2 b2_3 b2_4 : SO) (b3_0 b3_1 : Int) (b3_2 b3_3 b3_4 : SO) (H : Heap) : Option (AExit × St) := loopsD CC8 P8_13 (S8_13 t62 t63 t64 b2_0 b2_1 b2_2 b2_3 b2_4 b3_0 b3_1 b3_2 b3_3 b3_4 H)
theorem LL8_13_of (m : Nat) (hm : m < 18446744073709551616) (t62 : SO) (t63 t64 b2_0 b2_1 : Int) (b2_2 b2_3 b2_4 : SO) (b3_0 b3_1 : Int) (b3_2 b3_3 b3_4 : SO) (H : Heap) : ∃ n, LL8_13 t62 t63 t64 b2_0 b2_1 b2_2 b2_3 b2_4 b3_0 b3_1 b3_2 b3_3 b3_4 H = D8_13 (n + m + 1) t62 t63 t64 b2_0 b2_1 b2_2 b2_3 b2_4 b3_0 b3_1 b3_2 b3_3 b3_4 H := loopsD_of _ _ _ m hm
def X8_13 (x0 : Int) (x1 : Int) (x2 : SO) (x3 : SO) (x4 : SO) (x5 : Int) (x6 : Int) (x7 : SO) (x8 : SO) (x9 : SO) (H : Heap) : St := { env := [(2, AV.lp 2 0), (3, AV.lp 3 0)], loc := [(2, [Cell.int .i64 x0, Cell.int .u64 x1, Cell.slice x2, Cell.slice x3, Cell.slice x4]), (3, [Cell.int .i64 x5, Cell.int .u64 x6, Cell.slice x7, Cell.slice x8, Cell.slice x9])], heap := H }
def X8_8 (x0 : Int) (x1 : Int) (x2 : SO) (x3 : SO) (x4 : SO) (x5 : Int) (x6 : Int) (x7 : SO) (x8 : SO) (x9 : SO) (x10 : Int) (x11 : Int) (x12 : SO) (x13 : SO) (x14 : SO) (H : Heap) : St := { env := [(1, AV.lp 1 0), (2, AV.lp 2 0), (3, AV.lp 3 0)], loc := [(1, [Cell.int .i64 x0, Cell.int .u64 x1, Cell.slice x2, Cell.slice x3, Cell.slice x4]), (2, [Cell.int .i64 x5, Cell.int .u64 x6, Cell.slice x7, Cell.slice x8, Cell.slice x9]), (3, [Cell.int .i64 x10, Cell.int .u64 x11, Cell.slice x12, Cell.slice x13, Cell.slice x14])], heap := H }
def X8_3 (x0 : Int) (x1 : Int) (x2 : SO) (x3 : SO) (x4 : SO) (x5 : Int) (x6 : Int) (x7 : SO) (x8 : SO) (x9 : SO) (x10 : Int) (x11 : Int) (x12 : SO) (x13 : SO) (x14 : SO) (H : Heap) : St := { env := [(1, AV.lp 1 0), (2, AV.lp 2 0), (3, AV.lp 3 0)], loc := [(1, [Cell.int .i64 x0, Cell.int .u64 x1, Cell.slice x2, Cell.slice x3, Cell.slice x4]), (2, [Cell.int .i64 x5, Cell.int .u64 x6, Cell.slice x7, Cell.slice x8, Cell.slice x9]), (3, [Cell.int .i64 x10, Cell.int .u64 x11, Cell.slice x12, Cell.slice x13, Cell.slice x14])], heap := H }
noncomputable def J8_3 : AExit × St → Option ((Int × Int × Option Sl × Option Sl × SO) × Heap) := fun p => blockK 0 (seqK (execL CC8 (lpD CC8) (Code.r (Code.r (Code.r (bodyOf Try.f8))))) (retA CC8 [ResultVar.cell 2 43] (decF dec8))) p.1 p.2
noncomputable def J8_8 : AExit × St → Option ((Int × Int × Option Sl × Option Sl × SO) × Heap) := fun p => blockK 2 (seqK (execL CC8 (lpD CC8) (Code.r (Code.r (Code.r (Code.r (bodyOf Try.f8)))))) (retA CC8 [ResultVar.cell 2 43] (decF dec8))) p.1 p.2
noncomputable def J8_13 : AExit × St → Option ((Int × Int × Option Sl × Option Sl × SO) × Heap) := fun p => blockK 4 (seqK (execL CC8 (lpD CC8) (Code.r (Code.r (Code.r (Code.r (Code.r (bodyOf Try.f8))))))) (retA CC8 [ResultVar.cell 2 43] (decF dec8))) p.1 p.2
theorem D8_13_s : ∀ (n : Nat) (t62 : SO) (t63 t64 b2_0 b2_1 : Int) (b2_2 b2_3 b2_4 : SO) (b3_0 b3_1 : Int) (b3_2 b3_3 b3_4 : SO) (H : Heap), D8_13 (n + 1) t62 t63 t64 b2_0 b2_1 b2_2 b2_3 b2_4 b3_0 b3_1 b3_2 b3_3 b3_4 H = bif decide (t64 < t63) then t62.bind fun v7 => bif inb t64 v7.len && v7.esz == 3 then (H.get v7.id (v7.off + t64.toNat * 3)).bind fun v6 => (H.get v7.id (v7.off + t64.toNat * 3 + 1)).bind fun v5 => (H.get v7.id (v7.off + t64.toNat * 3 + 1 + 1)).bind fun v4 => (Cell.toInt .u64 v6).bind fun v3 => (Cell.toInt .i64 v5).bind fun v2 => (Cell.toInt .i64 v4).bind fun v1 => ((H ++ [Blk.row [Cell.int .u64 v3, Cell.int .i64 v2, Cell.int .i64 v1] false]).append 3 24 b3_4 (some { id := List.length H, off := 0, len := 1, cap := 1, esz := 3 })).bind fun v0 => D8_13 n t62 t63 (IntKind.i64.wrap (t64 + 1)) b2_0 b2_1 b2_2 b2_3 b2_4 b3_0 b3_1 b3_2 b3_3 v0.1 v0.2 else none else some (AExit.exit 4, X8_13 b2_0 b2_1 b2_2 b2_3 b2_4 b3_0 b3_1 b3_2 b3_3 b3_4 H) := by intros; exact (loopN_stepD hN8 _ _ _ _).trans (by kernel_rfl)
theorem D8_8_s : ∀ (n : Nat) (t40 : SO) (t41 t42 b1_0 b1_1 : Int) (b1_2 b1_3 b1_4 : SO) (b2_0 b2_1 : Int) (b2_2 b2_3 b2_4 : SO) (b3_0 b3_1 : Int) (b3_2 b3_3 b3_4 : SO) (H : Heap), D8_8 (n + 1) t40 t41 t42 b1_0 b1_1 b1_2 b1_3 b1_4 b2_0 b2_1 b2_2 b2_3 b2_4 b3_0 b3_1 b3_2 b3_3 b3_4 H = bif decide (t42 < t41) then t40.bind fun v17 => bif inb t42 v17.len && v17.esz == 4 then (H.get v17.id (v17.off + t42.toNat * 4)).bind fun v16 => (H.get v17.id (v17.off + t42.toNat * 4 + 1)).bind fun v15 => (H.get v17.id (v17.off + t42.toNat * 4 + 1 + 1)).bind fun v14 => (H.get v17.id (v17.off + t42.toNat * 4 + 1 + 1 + 1)).bind fun v13 => v16.toStr.bind fun v12 => (Cell.toInt .i64 v15).bind fun v11 => (Cell.toInt .u64 v14).bind fun v10 => (Cell.toInt .u64 v13).bind fun v9 => ((H ++ [Blk.row [Cell.str v12, Cell.int .i64 v11, Cell.int .u64 v10, Cell.int .u64 v9] false]).append 4 40 b3_3 (some { id := List.length H, off := 0, len := 1, cap := 1, esz := 4 })).bind fun v8 => D8_8 n t40 t41 (IntKind.i64.wrap (t42 + 1)) b1_0 b1_1 b1_2 b1_3 b1_4 b2_0 b2_1 b2_2 b2_3 b2_4 b3_0 b3_1 b3_2 v8.1 b3_4 v8.2 else none else some (AExit.exit 2, X8_8 b1_0 b1_1 b1_2 b1_3 b1_4 b2_0 b2_1 b2_2 b2_3 b2_4 b3_0 b3_1 b3_2 b3_3 b3_4 H) := by intros; exact (loopN_stepD hN8 _ _ _ _).trans (by kernel_rfl)
theorem D8_3_s : ∀ (n : Nat) (t16 : SO) (t17 t18 b1_0 b1_1 : Int) (b1_2 b1_3 b1_4 : SO) (b2_0 b2_1 : Int) (b2_2 b2_3 b2_4 : SO) (b3_0 b3_1 : Int) (b3_2 b3_3 b3_4 : SO) (H : Heap), D8_3 (n + 1) t16 t17 t18 b1_0 b1_1 b1_2 b1_3 b1_4 b2_0 b2_1 b2_2 b2_3 b2_4 b3_0 b3_1 b3_2 b3_3 b3_4 H = bif decide (t18 < t17) then t16.bind fun v29 => bif inb t18 v29.len && v29.esz == 5 then (H.get v29.id (v29.off + t18.toNat * 5)).bind fun v28 => (H.get v29.id (v29.off + t18.toNat * 5 + 1)).bind fun v27 => (H.get v29.id (v29.off + t18.toNat * 5 + 1 + 1)).bind fun v26 => (H.get v29.id (v29.off + t18.toNat * 5 + 1 + 1 + 1)).bind fun v25 => (H.get v29.id (v29.off + t18.toNat * 5 + 1 + 1 + 1 + 1)).bind fun v24 => (Cell.toInt .i64 v28).bind fun v23 => (Cell.toInt .i64 v27).bind fun v22 => (Cell.toInt .u64 v26).bind fun v21 => (Cell.toInt .u64 v25).bind fun v20 => v24.toSlice.bind fun v19 => ((H ++ [Blk.row [Cell.int .i64 v23, Cell.int .i64 v22, Cell.int .u64 v21, Cell.int .u64 v20, Cell.slice v19] false]).append 5 56 b3_2 (some { id := List.length H, off := 0, len := 1, cap := 1, esz := 5 })).bind fun v18 => D8_3 n t16 t17 (IntKind.i64.wrap (t18 + 1)) b1_0 b1_1 b1_2 b1_3 b1_4 b2_0 b2_1 b2_2 b2_3 b2_4 b3_0 b3_1 v18.1 b3_3 b3_4 v18.2 else none else some (AExit.exit 0, X8_3 b1_0 b1_1 b1_2 b1_3 b1_4 b2_0 b2_1 b2_2 b2_3 b2_4 b3_0 b3_1 b3_2 b3_3 b3_4 H) := by intros; exact (loopN_stepD hN8 _ _ _ _).trans (by kernel_rfl)
theorem q8 : ∀ (x00 x01 : Int) (x02 x03 x04 : SO) (H : Heap), f8 x00 x01 x02 x03 x04 H = (LL8_3 x02 (slen x02) 0 x00 x01 x02 x03 x04 0 0 none none none x00 x01 none none none H).bind J8_3 := by intros; rw [f8_eq]; exact (fnA_lpD hN8 ..).trans (by kernel_rfl)
theorem J8_3_0 : ∀ (x0 x1 : Int) (x2 x3 x4 : SO) (x5 x6 : Int) (x7 x8 x9 : SO) (x10 x11 : Int) (x12 x13 x14 : SO) (H : Heap), J8_3 (AExit.exit 0, X8_3 x0 x1 x2 x3 x4 x5 x6 x7 x8 x9 x10 x11 x12 x13 x14 H) = (LL8_8 x3 (slen x3) 0 x0 x1 x2 x3 x4 x5 x6 x7 x8 x9 x10 x11 x12 x13 x14 H).bind J8_8 := by intros; kernel_rfl
theorem J8_8_0 : ∀ (x0 x1 : Int) (x2 x3 x4 : SO) (x5 x6 : Int) (x7 x8 x9 : SO) (x10 x11 : Int) (x12 x13 x14 : SO) (H : Heap), J8_8 (AExit.exit 2, X8_8 x0 x1 x2 x3 x4 x5 x6 x7 x8 x9 x10 x11 x12 x13 x14 H) = (LL8_13 x4 (slen x4) 0 x5 x6 x7 x8 x9 x10 x11 x12 x13 x14 H).bind J8_13 := by intros; kernel_rfl
theorem J8_13_0 : ∀ (x0 x1 : Int) (x2 x3 x4 : SO) (x5 x6 : Int) (x7 x8 x9 : SO) (H : Heap), J8_13 (AExit.exit 4, X8_13 x0 x1 x2 x3 x4 x5 x6 x7 x8 x9 H) = some ((x5, x6, x7, x8, x9), H) := by intros; kernel_rfl
theorem ok8 : FnOk Try.prog 8 (specF enc8 (sem8 f8)) := by
  refine spec_ok (C := CC8) good8 rfl rfl rfl (by kernel_rfl) Try.func8 (c := bodyOf Try.f8) (by kernel_rfl) (by kernel_rfl) (Nat.le_of_eq Try.ntmps8.symm) dec8 enc8 de8 _ ?_
  intro args H q h
  unfold sem8 at h
  split at h
  · rw [f8_eq] at h; exact h
  · cases h
/-! 46: elf_Seg_may -/
noncomputable def CC46 : Ctx := { P := Try.prog, own := [1], fns := [], nt := 49, nums := [], live := [] }
theorem good46 : Callees Try.prog CC46.fns [] CC46.nums := Callees.nil Try.prog
theorem hN46 : CtxNat CC46 := good46.ctx rfl rfl rfl
def enc46 (r : Bool) : List TV := [.c (Cell.bool (r))]
def dec46 : AV → Option (Bool)
  | .c (Cell.bool q0) => some (q0)
  | _ => none
theorem de46 (v : AV) (r : Bool) (h : dec46 v = some r) : v = oneOf (enc46 r) := by
  unfold dec46 at h
  split at h
  · cases h; rfl
  · cases h
abbrev Ty46 := Int → Int → Int → Int → SO → Heap → Option (Bool × Heap)
def sem46 (f : Ty46) : List TV → Heap → Option (Bool × Heap)
  | [.agg [Cell.int .i64 s0, Cell.int .i64 s1, Cell.int .u64 s2, Cell.int .u64 s3, Cell.slice s4]], H => f s0 s1 s2 s3 s4 H
  | _, _ => none
noncomputable def F046 : Ty46 := fun s0 s1 s2 s3 s4 H => fnA CC46 Try.f46.results.toList (bodyOf Try.f46) _ [.agg [Cell.int .i64 s0, Cell.int .i64 s1, Cell.int .u64 s2, Cell.int .u64 s3, Cell.slice s4]] H (decF dec46)
noncomputable def f46 : Ty46 := hide F046
theorem f46_eq : f46 = F046 := hide_eq _
theorem q46 : ∀ (s0 s1 s2 s3 : Int) (s4 : SO) (H : Heap), f46 s0 s1 s2 s3 s4 H = bif s0 != 1 then bif s0 != 1610612737 then some (false, H) else bif decide (s1 < 0) then some (false, H) else bif decide (s1 > 7) then some (false, H) else bif decide (s3 > 4294967296) then some (false, H) else bif decide (s2 > 9223372036854775808) then some (false, H) else bif decide (IntKind.u64.wrap (slen s4) ≤ s3) then bif s0 == 1 then some (true, H) else some (slen s4 == 0, H) else some (false, H) else bif decide (s1 < 0) then some (false, H) else bif decide (s1 > 7) then some (false, H) else bif decide (s3 > 4294967296) then some (false, H) else bif decide (s2 > 9223372036854775808) then some (false, H) else bif decide (IntKind.u64.wrap (slen s4) ≤ s3) then bif s0 == 1 then some (true, H) else some (slen s4 == 0, H) else some (false, H) := by intros; rw [f46_eq]; exact (fnA_lpD hN46 ..).trans (by kernel_rfl)
theorem ok46 : FnOk Try.prog 46 (specF enc46 (sem46 f46)) := by
  refine spec_ok (C := CC46) good46 rfl rfl rfl (by kernel_rfl) Try.func46 (c := bodyOf Try.f46) (by kernel_rfl) (by kernel_rfl) (Nat.le_of_eq Try.ntmps46.symm) dec46 enc46 de46 _ ?_
  intro args H q h
  unfold sem46 at h
  split at h
  · rw [f46_eq] at h; exact h
  · cases h
/-! 45: elf_May_1 -/
noncomputable def CC45 : Ctx := { P := Try.prog, own := [1], fns := [(46, specF enc46 (sem46 f46))], nt := 6, nums := [], live := [] }
theorem good45 : Callees Try.prog CC45.fns [] CC45.nums := (Callees.nil Try.prog).cons ok46 (specF_nat _ _)
theorem hN45 : CtxNat CC45 := good45.ctx rfl rfl rfl
def enc45 (r : Bool) : List TV := [.c (Cell.bool (r))]
def dec45 : AV → Option (Bool)
  | .c (Cell.bool q0) => some (q0)
  | _ => none
theorem de45 (v : AV) (r : Bool) (h : dec45 v = some r) : v = oneOf (enc45 r) := by
  unfold dec45 at h
  split at h
  · cases h; rfl
  · cases h
abbrev Ty45 := Int → Int → Int → Int → SO → Heap → Option (Bool × Heap)
def sem45 (f : Ty45) : List TV → Heap → Option (Bool × Heap)
  | [.agg [Cell.int .i64 s0, Cell.int .i64 s1, Cell.int .u64 s2, Cell.int .u64 s3, Cell.slice s4]], H => f s0 s1 s2 s3 s4 H
  | _, _ => none
noncomputable def F045 : Ty45 := fun s0 s1 s2 s3 s4 H => fnA CC45 Try.f45.results.toList (bodyOf Try.f45) _ [.agg [Cell.int .i64 s0, Cell.int .i64 s1, Cell.int .u64 s2, Cell.int .u64 s3, Cell.slice s4]] H (decF dec45)
noncomputable def f45 : Ty45 := hide F045
theorem f45_eq : f45 = F045 := hide_eq _
theorem q45 : ∀ (s0 s1 s2 s3 : Int) (s4 : SO) (H : Heap), f45 s0 s1 s2 s3 s4 H = (f46 s0 s1 s2 s3 s4 H).bind fun v0 => some (!v0.1, v0.2) := by intros; rw [f45_eq]; exact (fnA_lpD hN45 ..).trans (by kernel_rfl)
theorem ok45 : FnOk Try.prog 45 (specF enc45 (sem45 f45)) := by
  refine spec_ok (C := CC45) good45 rfl rfl rfl (by kernel_rfl) Try.func45 (c := bodyOf Try.f45) (by kernel_rfl) (by kernel_rfl) (Nat.le_of_eq Try.ntmps45.symm) dec45 enc45 de45 _ ?_
  intro args H q h
  unfold sem45 at h
  split at h
  · rw [f45_eq] at h; exact h
  · cases h
/-! 54: image_kind_1 -/
noncomputable def CC54 : Ctx := { P := Try.prog, own := [2], fns := [], nt := 8, nums := [], live := [] }
theorem good54 : Callees Try.prog CC54.fns [] CC54.nums := Callees.nil Try.prog
theorem hN54 : CtxNat CC54 := good54.ctx rfl rfl rfl
def enc54 (r : Bool) : List TV := [.c (Cell.bool (r))]
def dec54 : AV → Option (Bool)
  | .c (Cell.bool q0) => some (q0)
  | _ => none
theorem de54 (v : AV) (r : Bool) (h : dec54 v = some r) : v = oneOf (enc54 r) := by
  unfold dec54 at h
  split at h
  · cases h; rfl
  · cases h
abbrev Ty54 := Int → Int → Int → Int → SO → PO → Heap → Option (Bool × Heap)
def sem54 (f : Ty54) : List TV → Heap → Option (Bool × Heap)
  | [.agg [Cell.int .i64 s0, Cell.int .i64 s1, Cell.int .u64 s2, Cell.int .u64 s3, Cell.slice s4], .c (Cell.ptr c0)], H => f s0 s1 s2 s3 s4 c0 H
  | _, _ => none
noncomputable def F054 : Ty54 := fun s0 s1 s2 s3 s4 c0 H => fnA CC54 Try.f54.results.toList (bodyOf Try.f54) _ [.agg [Cell.int .i64 s0, Cell.int .i64 s1, Cell.int .u64 s2, Cell.int .u64 s3, Cell.slice s4], .c (Cell.ptr c0)] H (decF dec54)
noncomputable def f54 : Ty54 := hide F054
theorem f54_eq : f54 = F054 := hide_eq _
theorem q54 : ∀ (s0 s1 s2 s3 : Int) (s4 : SO) (c0 : PO) (H : Heap), f54 s0 s1 s2 s3 s4 c0 H = c0.bind fun v2 => (H.get v2.1 v2.2).bind fun v1 => (Cell.toInt .i64 v1).bind fun v0 => some (s0 != v0, H) := by intros; rw [f54_eq]; exact (fnA_lpD hN54 ..).trans (by kernel_rfl)
theorem ok54 : FnOk Try.prog 54 (specF enc54 (sem54 f54)) := by
  refine spec_ok (C := CC54) good54 rfl rfl rfl (by kernel_rfl) Try.func54 (c := bodyOf Try.f54) (by kernel_rfl) (by kernel_rfl) (Nat.le_of_eq Try.ntmps54.symm) dec54 enc54 de54 _ ?_
  intro args H q h
  unfold sem54 at h
  split at h
  · rw [f54_eq] at h; exact h
  · cases h
/-! 28: image_Of_1 -/
noncomputable def CC28 : Ctx := { P := Try.prog, own := [1], fns := [], nt := 7, nums := [], live := [] }
theorem good28 : Callees Try.prog CC28.fns [] CC28.nums := Callees.nil Try.prog
theorem hN28 : CtxNat CC28 := good28.ctx rfl rfl rfl
def enc28 (r : Bool) : List TV := [.c (Cell.bool (r))]
def dec28 : AV → Option (Bool)
  | .c (Cell.bool q0) => some (q0)
  | _ => none
theorem de28 (v : AV) (r : Bool) (h : dec28 v = some r) : v = oneOf (enc28 r) := by
  unfold dec28 at h
  split at h
  · cases h; rfl
  · cases h
abbrev Ty28 := Int → Int → Int → Int → SO → Heap → Option (Bool × Heap)
def sem28 (f : Ty28) : List TV → Heap → Option (Bool × Heap)
  | [.agg [Cell.int .i64 s0, Cell.int .i64 s1, Cell.int .u64 s2, Cell.int .u64 s3, Cell.slice s4]], H => f s0 s1 s2 s3 s4 H
  | _, _ => none
noncomputable def F028 : Ty28 := fun s0 s1 s2 s3 s4 H => fnA CC28 Try.f28.results.toList (bodyOf Try.f28) _ [.agg [Cell.int .i64 s0, Cell.int .i64 s1, Cell.int .u64 s2, Cell.int .u64 s3, Cell.slice s4]] H (decF dec28)
noncomputable def f28 : Ty28 := hide F028
theorem f28_eq : f28 = F028 := hide_eq _
theorem q28 : ∀ (s0 s1 s2 s3 : Int) (s4 : SO) (H : Heap), f28 s0 s1 s2 s3 s4 H = some (band IntKind.i64 s1 1 != 0, H) := by intros; rw [f28_eq]; exact (fnA_lpD hN28 ..).trans (by kernel_rfl)
theorem ok28 : FnOk Try.prog 28 (specF enc28 (sem28 f28)) := by
  refine spec_ok (C := CC28) good28 rfl rfl rfl (by kernel_rfl) Try.func28 (c := bodyOf Try.f28) (by kernel_rfl) (by kernel_rfl) (Nat.le_of_eq Try.ntmps28.symm) dec28 enc28 de28 _ ?_
  intro args H q h
  unfold sem28 at h
  split at h
  · rw [f28_eq] at h; exact h
  · cases h
/-! 57: slices_IndexFunc_elf_Seg_elf_Seg -/
noncomputable def CC57 : Ctx := { P := Try.prog, own := [], fns := [(28, specF enc28 (sem28 f28)), (54, specF enc54 (sem54 f54)), (45, specF enc45 (sem45 f45))], nt := 19, nums := [], live := [(2, ⟨[0, 1, 7, 8], [], [4], []⟩)] }
theorem good57 : Callees Try.prog CC57.fns [] CC57.nums := (((Callees.nil Try.prog).cons ok45 (specF_nat _ _)).cons ok54 (specF_nat _ _)).cons ok28 (specF_nat _ _)
theorem hN57 : CtxNat CC57 := good57.ctx rfl rfl rfl
def enc57 (r : Int) : List TV := [.c (Cell.int .i64 (r))]
def dec57 : AV → Option (Int)
  | .c (Cell.int .i64 q0) => some (q0)
  | _ => none
theorem de57 (v : AV) (r : Int) (h : dec57 v = some r) : v = oneOf (enc57 r) := by
  unfold dec57 at h
  split at h
  · cases h; rfl
  · cases h
abbrev Ty57a := SO → Heap → Option (Int × Heap)
noncomputable def F057a : Ty57a := fun s H => fnA CC57 Try.f57.results.toList (bodyOf Try.f57) _ [.c (Cell.slice s), .c (Cell.fn 45 [] [])] H (decF dec57)
noncomputable def f57a : Ty57a := hide F057a
theorem f57a_eq : f57a = F057a := hide_eq _
noncomputable def P57a_2 : Code := (Code.l (Code.l (Code.r (Code.l (Code.r (bodyOf Try.f57))))))
def S57a_2 (t0 : SO) (t7 t8 : Int) (H : Heap) : St := ⟨[(0, .c (Cell.slice t0)), (1, .c (Cell.fn 45 [] [])), (7, .c (Cell.int .i64 t7)), (8, .c (Cell.int .i64 t8))], [], H⟩
noncomputable def D57a_2 (n : Nat) (t0 : SO) (t7 t8 : Int) (H : Heap) : Option (AExit × St) := loopN (exec CC57 P57a_2) (keepOf CC57.live P57a_2) n (S57a_2 t0 t7 t8 H) retD
noncomputable def LL57a_2 (t0 : SO) (t7 t8 : Int) (H : Heap) : Option (AExit × St) := loopsD CC57 P57a_2 (S57a_2 t0 t7 t8 H)
theorem LL57a_2_of (m : Nat) (hm : m < 18446744073709551616) (t0 : SO) (t7 t8 : Int) (H : Heap) : ∃ n, LL57a_2 t0 t7 t8 H = D57a_2 (n + m + 1) t0 t7 t8 H := loopsD_of _ _ _ m hm
def X57a_2 (x0 : Int) (H : Heap) : St := { env := [(4, AV.c (Cell.int .i64 x0))], loc := [], heap := H }
def X57a_2a (H : Heap) : St := { env := [], loc := [], heap := H }
noncomputable def J57a_2 : AExit × St → Option (Int × Heap) := fun p => blockK 0 (seqK (execL CC57 (lpD CC57) (Code.r (Code.r (bodyOf Try.f57)))) (retA CC57 [ResultVar.tmp 4] (decF dec57))) p.1 p.2
theorem D57a_2_s : ∀ (n : Nat) (t0 : SO) (t7 t8 : Int) (H : Heap), D57a_2 (n + 1) t0 t7 t8 H = bif decide (t8 < t7) then t0.bind fun v11 => bif inb t8 v11.len && v11.esz == 5 then (H.get v11.id (v11.off + t8.toNat * 5)).bind fun v10 => (H.get v11.id (v11.off + t8.toNat * 5 + 1)).bind fun v9 => (H.get v11.id (v11.off + t8.toNat * 5 + 1 + 1)).bind fun v8 => (H.get v11.id (v11.off + t8.toNat * 5 + 1 + 1 + 1)).bind fun v7 => (H.get v11.id (v11.off + t8.toNat * 5 + 1 + 1 + 1 + 1)).bind fun v6 => (Cell.toInt .i64 v10).bind fun v5 => (Cell.toInt .i64 v9).bind fun v4 => (Cell.toInt .u64 v8).bind fun v3 => (Cell.toInt .u64 v7).bind fun v2 => v6.toSlice.bind fun v1 => (f45 v5 v4 v3 v2 v1 H).bind fun v0 => bif v0.1 then some (AExit.ret, X57a_2 t8 v0.2) else D57a_2 n t0 t7 (IntKind.i64.wrap (t8 + 1)) v0.2 else none else some (AExit.exit 0, X57a_2a H) := by intros; exact (loopN_stepD hN57 _ _ _ _).trans (by kernel_rfl)
theorem q57a : ∀ (s : SO) (H : Heap), f57a s H = (LL57a_2 s (slen s) 0 H).bind J57a_2 := by intros; rw [f57a_eq]; exact (fnA_lpD hN57 ..).trans (by kernel_rfl)
theorem J57a_2_0 : ∀ (x0 : Int) (H : Heap), J57a_2 (AExit.ret, X57a_2 x0 H) = some (x0, H) := by intros; kernel_rfl
theorem J57a_2_1 : ∀ (H : Heap), J57a_2 (AExit.exit 0, X57a_2a H) = some (-1, H) := by intros; kernel_rfl
abbrev Ty57b := SO → PO → Heap → Option (Int × Heap)
noncomputable def F057b : Ty57b := fun s q H => fnA CC57 Try.f57.results.toList (bodyOf Try.f57) _ [.c (Cell.slice s), .c (Cell.fn 54 [] [Cell.ptr q])] H (decF dec57)
noncomputable def f57b : Ty57b := hide F057b
theorem f57b_eq : f57b = F057b := hide_eq _
def S57b_2 (t0 : SO) (q : PO) (t7 t8 : Int) (H : Heap) : St := ⟨[(0, .c (Cell.slice t0)), (1, .c (Cell.fn 54 [] [Cell.ptr q])), (7, .c (Cell.int .i64 t7)), (8, .c (Cell.int .i64 t8))], [], H⟩
noncomputable def D57b_2 (n : Nat) (t0 : SO) (q : PO) (t7 t8 : Int) (H : Heap) : Option (AExit × St) := loopN (exec CC57 P57a_2) (keepOf CC57.live P57a_2) n (S57b_2 t0 q t7 t8 H) retD
noncomputable def LL57b_2 (t0 : SO) (q : PO) (t7 t8 : Int) (H : Heap) : Option (AExit × St) := loopsD CC57 P57a_2 (S57b_2 t0 q t7 t8 H)
theorem LL57b_2_of (m : Nat) (hm : m < 18446744073709551616) (t0 : SO) (q : PO) (t7 t8 : Int) (H : Heap) : ∃ n, LL57b_2 t0 q t7 t8 H = D57b_2 (n + m + 1) t0 q t7 t8 H := loopsD_of _ _ _ m hm
def X57b_2 (x0 : Int) (H : Heap) : St := { env := [(4, AV.c (Cell.int .i64 x0))], loc := [], heap := H }
def X57b_2a (H : Heap) : St := { env := [], loc := [], heap := H }
noncomputable def J57b_2 : AExit × St → Option (Int × Heap) := fun p => blockK 0 (seqK (execL CC57 (lpD CC57) (Code.r (Code.r (bodyOf Try.f57)))) (retA CC57 [ResultVar.tmp 4] (decF dec57))) p.1 p.2
theorem D57b_2_s : ∀ (n : Nat) (t0 : SO) (q : PO) (t7 t8 : Int) (H : Heap), D57b_2 (n + 1) t0 q t7 t8 H = bif decide (t8 < t7) then t0.bind fun v11 => bif inb t8 v11.len && v11.esz == 5 then (H.get v11.id (v11.off + t8.toNat * 5)).bind fun v10 => (H.get v11.id (v11.off + t8.toNat * 5 + 1)).bind fun v9 => (H.get v11.id (v11.off + t8.toNat * 5 + 1 + 1)).bind fun v8 => (H.get v11.id (v11.off + t8.toNat * 5 + 1 + 1 + 1)).bind fun v7 => (H.get v11.id (v11.off + t8.toNat * 5 + 1 + 1 + 1 + 1)).bind fun v6 => (Cell.toInt .i64 v10).bind fun v5 => (Cell.toInt .i64 v9).bind fun v4 => (Cell.toInt .u64 v8).bind fun v3 => (Cell.toInt .u64 v7).bind fun v2 => v6.toSlice.bind fun v1 => (f54 v5 v4 v3 v2 v1 q H).bind fun v0 => bif v0.1 then some (AExit.ret, X57b_2 t8 v0.2) else D57b_2 n t0 q t7 (IntKind.i64.wrap (t8 + 1)) v0.2 else none else some (AExit.exit 0, X57b_2a H) := by intros; exact (loopN_stepD hN57 _ _ _ _).trans (by kernel_rfl)
theorem q57b : ∀ (s : SO) (q : PO) (H : Heap), f57b s q H = (LL57b_2 s q (slen s) 0 H).bind J57b_2 := by intros; rw [f57b_eq]; exact (fnA_lpD hN57 ..).trans (by kernel_rfl)
theorem J57b_2_0 : ∀ (x0 : Int) (H : Heap), J57b_2 (AExit.ret, X57b_2 x0 H) = some (x0, H) := by intros; kernel_rfl
theorem J57b_2_1 : ∀ (H : Heap), J57b_2 (AExit.exit 0, X57b_2a H) = some (-1, H) := by intros; kernel_rfl
abbrev Ty57c := SO → Heap → Option (Int × Heap)
noncomputable def F057c : Ty57c := fun s H => fnA CC57 Try.f57.results.toList (bodyOf Try.f57) _ [.c (Cell.slice s), .c (Cell.fn 28 [] [])] H (decF dec57)
noncomputable def f57c : Ty57c := hide F057c
theorem f57c_eq : f57c = F057c := hide_eq _
def S57c_2 (t0 : SO) (t7 t8 : Int) (H : Heap) : St := ⟨[(0, .c (Cell.slice t0)), (1, .c (Cell.fn 28 [] [])), (7, .c (Cell.int .i64 t7)), (8, .c (Cell.int .i64 t8))], [], H⟩
noncomputable def D57c_2 (n : Nat) (t0 : SO) (t7 t8 : Int) (H : Heap) : Option (AExit × St) := loopN (exec CC57 P57a_2) (keepOf CC57.live P57a_2) n (S57c_2 t0 t7 t8 H) retD
noncomputable def LL57c_2 (t0 : SO) (t7 t8 : Int) (H : Heap) : Option (AExit × St) := loopsD CC57 P57a_2 (S57c_2 t0 t7 t8 H)
theorem LL57c_2_of (m : Nat) (hm : m < 18446744073709551616) (t0 : SO) (t7 t8 : Int) (H : Heap) : ∃ n, LL57c_2 t0 t7 t8 H = D57c_2 (n + m + 1) t0 t7 t8 H := loopsD_of _ _ _ m hm
def X57c_2 (x0 : Int) (H : Heap) : St := { env := [(4, AV.c (Cell.int .i64 x0))], loc := [], heap := H }
def X57c_2a (H : Heap) : St := { env := [], loc := [], heap := H }
noncomputable def J57c_2 : AExit × St → Option (Int × Heap) := fun p => blockK 0 (seqK (execL CC57 (lpD CC57) (Code.r (Code.r (bodyOf Try.f57)))) (retA CC57 [ResultVar.tmp 4] (decF dec57))) p.1 p.2
theorem D57c_2_s : ∀ (n : Nat) (t0 : SO) (t7 t8 : Int) (H : Heap), D57c_2 (n + 1) t0 t7 t8 H = bif decide (t8 < t7) then t0.bind fun v11 => bif inb t8 v11.len && v11.esz == 5 then (H.get v11.id (v11.off + t8.toNat * 5)).bind fun v10 => (H.get v11.id (v11.off + t8.toNat * 5 + 1)).bind fun v9 => (H.get v11.id (v11.off + t8.toNat * 5 + 1 + 1)).bind fun v8 => (H.get v11.id (v11.off + t8.toNat * 5 + 1 + 1 + 1)).bind fun v7 => (H.get v11.id (v11.off + t8.toNat * 5 + 1 + 1 + 1 + 1)).bind fun v6 => (Cell.toInt .i64 v10).bind fun v5 => (Cell.toInt .i64 v9).bind fun v4 => (Cell.toInt .u64 v8).bind fun v3 => (Cell.toInt .u64 v7).bind fun v2 => v6.toSlice.bind fun v1 => (f28 v5 v4 v3 v2 v1 H).bind fun v0 => bif v0.1 then some (AExit.ret, X57c_2 t8 v0.2) else D57c_2 n t0 t7 (IntKind.i64.wrap (t8 + 1)) v0.2 else none else some (AExit.exit 0, X57c_2a H) := by intros; exact (loopN_stepD hN57 _ _ _ _).trans (by kernel_rfl)
theorem q57c : ∀ (s : SO) (H : Heap), f57c s H = (LL57c_2 s (slen s) 0 H).bind J57c_2 := by intros; rw [f57c_eq]; exact (fnA_lpD hN57 ..).trans (by kernel_rfl)
theorem J57c_2_0 : ∀ (x0 : Int) (H : Heap), J57c_2 (AExit.ret, X57c_2 x0 H) = some (x0, H) := by intros; kernel_rfl
theorem J57c_2_1 : ∀ (H : Heap), J57c_2 (AExit.exit 0, X57c_2a H) = some (-1, H) := by intros; kernel_rfl
noncomputable def sem57 (_ : Unit) : List TV → Heap → Option (Int × Heap)
  | [.c (Cell.slice s), .c (Cell.fn 45 [] [])], H => f57a s H
  | [.c (Cell.slice s), .c (Cell.fn 54 [] [Cell.ptr q])], H => f57b s q H
  | [.c (Cell.slice s), .c (Cell.fn 28 [] [])], H => f57c s H
  | _, _ => none
def f57 : Unit := ()
theorem ok57 : FnOk Try.prog 57 (specF enc57 (sem57 f57)) := by
  refine spec_ok (C := CC57) good57 rfl rfl rfl (by kernel_rfl) Try.func57 (c := bodyOf Try.f57) (by kernel_rfl) (by kernel_rfl) (Nat.le_of_eq Try.ntmps57.symm) dec57 enc57 de57 _ ?_
  intro args H q h
  unfold sem57 at h
  split at h
  · rw [f57a_eq] at h; exact h
  · rw [f57b_eq] at h; exact h
  · rw [f57c_eq] at h; exact h
  · cases h
/-! 44: slices_ContainsFunc_elf_Seg_elf_Seg -/
noncomputable def CC44 : Ctx := { P := Try.prog, own := [], fns := [(45, specF enc45 (sem45 f45)), (57, specF enc57 (sem57 f57))], nt := 9, nums := [], live := [] }
theorem good44 : Callees Try.prog CC44.fns [] CC44.nums := ((Callees.nil Try.prog).cons ok57 (specF_nat _ _)).cons ok45 (specF_nat _ _)
theorem hN44 : CtxNat CC44 := good44.ctx rfl rfl rfl
def enc44 (r : Bool) : List TV := [.c (Cell.bool (r))]
def dec44 : AV → Option (Bool)
  | .c (Cell.bool q0) => some (q0)
  | _ => none
theorem de44 (v : AV) (r : Bool) (h : dec44 v = some r) : v = oneOf (enc44 r) := by
  unfold dec44 at h
  split at h
  · cases h; rfl
  · cases h
abbrev Ty44a := SO → Heap → Option (Bool × Heap)
noncomputable def F044a : Ty44a := fun s H => fnA CC44 Try.f44.results.toList (bodyOf Try.f44) _ [.c (Cell.slice s), .c (Cell.fn 45 [] [])] H (decF dec44)
noncomputable def f44a : Ty44a := hide F044a
theorem f44a_eq : f44a = F044a := hide_eq _
theorem q44a : ∀ (s : SO) (H : Heap), f44a s H = (f57a s H).bind fun v0 => some (decide (v0.1 ≥ 0), v0.2) := by intros; rw [f44a_eq]; exact (fnA_lpD hN44 ..).trans (by kernel_rfl)
noncomputable def sem44 (_ : Unit) : List TV → Heap → Option (Bool × Heap)
  | [.c (Cell.slice s), .c (Cell.fn 45 [] [])], H => f44a s H
  | _, _ => none
def f44 : Unit := ()
theorem ok44 : FnOk Try.prog 44 (specF enc44 (sem44 f44)) := by
  refine spec_ok (C := CC44) good44 rfl rfl rfl (by kernel_rfl) Try.func44 (c := bodyOf Try.f44) (by kernel_rfl) (by kernel_rfl) (Nat.le_of_eq Try.ntmps44.symm) dec44 enc44 de44 _ ?_
  intro args H q h
  unfold sem44 at h
  split at h
  · rw [f44a_eq] at h; exact h
  · cases h
/-! 94: internal_bytealg_IndexByteString -/
def ixs (s : ByteArray) (c : Int) : Int := Lib.indexByte s.data.toList c.toNat.toUInt8
noncomputable def G94 : List TV → Option (List TV)
  | [.c (Cell.str x0), .c (Cell.int .u8 x1)] => some [.c (Cell.int .i64 ((ixs x0 x1)))]
  | _ => none
noncomputable def F94 : FnSem := numF G94
theorem F94_num : FnNum F94 := numF_num _
theorem ok94 : FnOk Try.prog 94 F94 := numX_ok (idxS_ok Try.func94 (by kernel_rfl) (by kernel_rfl) (by kernel_rfl) (by kernel_rfl)) fun args vs h => by
  unfold G94 at h
  split at h
  · exact h
  · cases h
/-! 78: internal_stringslite_IndexByte -/
noncomputable def CC78 : Ctx := { P := Try.prog, own := [], fns := [(94, F94)], nt := 8, nums := [94], live := [] }
theorem good78 : Callees Try.prog CC78.fns [] CC78.nums := (Callees.nil Try.prog).cons_num ok94 F94_num
def internal_stringslite_IndexByte (s : ByteArray) (c : Int) : Int := ixs s c
noncomputable def G78 : List TV → Option (List TV)
  | [.c (Cell.str s), .c (Cell.int .u8 c)] => some [.c (Cell.int .i64 ((internal_stringslite_IndexByte s c)))]
  | _ => none
noncomputable def F78 : FnSem := numF G78
theorem F78_num : FnNum F78 := numF_num _
theorem e78 : ∀ (R : Type) (s : ByteArray) (c : Int) (H : Heap) (K : AV → Heap → Option R) (lp : Code → St → (AExit → St → Option R) → Option R), fnL CC78 lp Try.f78.results.toList (bodyOf Try.f78) [TV.c (Cell.str s), TV.c (Cell.int .u8 c)] H K = K (AV.c (Cell.int .i64 (ixs s c))) H := by intros; kernel_rfl
theorem s78 (R : Type) (s : ByteArray) (c : Int) (H : Heap) (K : AV → Heap → Option R) (lp : Code → St → (AExit → St → Option R) → Option R) : fnL CC78 lp Try.f78.results.toList (bodyOf Try.f78) [.c (Cell.str s), .c (Cell.int .u8 c)] H K = K (oneOf [.c (Cell.int .i64 ((internal_stringslite_IndexByte s c)))]) H := by
  rw [e78]
  rfl
theorem ok78 : FnOk Try.prog 78 F78 := by
  refine fn_ok (C := CC78) (good78.env rfl) (good78.ctx rfl rfl rfl) (by kernel_rfl) Try.func78 (c := bodyOf Try.f78) (by kernel_rfl) (by kernel_rfl) (Nat.le_of_eq Try.ntmps78.symm) ?_
  intro R args H K r h
  unfold F78 numF G78 at h
  split at h
  · rw [fnA_eq, s78]; exact h
  · cases h
/-! 69: strings_IndexByte -/
noncomputable def CC69 : Ctx := { P := Try.prog, own := [], fns := [(78, F78)], nt := 8, nums := [78], live := [] }
theorem good69 : Callees Try.prog CC69.fns [] CC69.nums := (Callees.nil Try.prog).cons_num ok78 F78_num
def strings_IndexByte (s : ByteArray) (c : Int) : Int := ixs s c
noncomputable def G69 : List TV → Option (List TV)
  | [.c (Cell.str s), .c (Cell.int .u8 c)] => some [.c (Cell.int .i64 ((strings_IndexByte s c)))]
  | _ => none
noncomputable def F69 : FnSem := numF G69
theorem F69_num : FnNum F69 := numF_num _
theorem e69 : ∀ (R : Type) (s : ByteArray) (c : Int) (H : Heap) (K : AV → Heap → Option R) (lp : Code → St → (AExit → St → Option R) → Option R), fnL CC69 lp Try.f69.results.toList (bodyOf Try.f69) [TV.c (Cell.str s), TV.c (Cell.int .u8 c)] H K = K (AV.c (Cell.int .i64 (internal_stringslite_IndexByte s c))) H := by intros; kernel_rfl
theorem s69 (R : Type) (s : ByteArray) (c : Int) (H : Heap) (K : AV → Heap → Option R) (lp : Code → St → (AExit → St → Option R) → Option R) : fnL CC69 lp Try.f69.results.toList (bodyOf Try.f69) [.c (Cell.str s), .c (Cell.int .u8 c)] H K = K (oneOf [.c (Cell.int .i64 ((strings_IndexByte s c)))]) H := by
  rw [e69]
  rfl
theorem ok69 : FnOk Try.prog 69 F69 := by
  refine fn_ok (C := CC69) (good69.env rfl) (good69.ctx rfl rfl rfl) (by kernel_rfl) Try.func69 (c := bodyOf Try.f69) (by kernel_rfl) (by kernel_rfl) (Nat.le_of_eq Try.ntmps69.symm) ?_
  intro R args H K r h
  unfold F69 numF G69 at h
  split at h
  · rw [fnA_eq, s69]; exact h
  · cases h
/-- Where the first nought is. -/
def fi : List UInt8 → Option Nat
  | [] => none
  | b :: l => bif b == 0 then some 0 else (fi l).map (· + 1)
theorem idx_fi : ∀ l : List UInt8, Lib.indexByte l ((0 : Int).toNat.toUInt8) = match fi l with | some i => (i : Int) | none => -1
  | [] => rfl
  | b :: l => by
    have ih := idx_fi l
    have e0 : (0 : Int).toNat.toUInt8 = (0 : UInt8) := rfl
    rw [e0] at ih ⊢
    unfold Lib.indexByte fi
    rw [ih]
    cases hb : (b == 0) with
    | true => simp
    | false =>
      cases fi l with
      | none => simp
      | some i =>
        have : (((i : Int)) == -1) = false := by simp
        simp [this]
theorem ixs_ge (s : ByteArray) : decide (strings_IndexByte s 0 ≥ 0) = (fi s.data.toList).isSome := by
  show decide (Lib.indexByte s.data.toList ((0 : Int).toNat.toUInt8) ≥ 0) = _
  rw [idx_fi]
  cases fi s.data.toList with
  | none => rfl
  | some i => simp
/-! 49: elf_Sym_may -/
noncomputable def CC49 : Ctx := { P := Try.prog, own := [1], fns := [(69, F69)], nt := 23, nums := [69], live := [] }
theorem good49 : Callees Try.prog CC49.fns [] CC49.nums := (Callees.nil Try.prog).cons_num ok69 F69_num
theorem hN49 : CtxNat CC49 := good49.ctx rfl rfl rfl
def enc49 (r : Bool) : List TV := [.c (Cell.bool (r))]
def dec49 : AV → Option (Bool)
  | .c (Cell.bool q0) => some (q0)
  | _ => none
theorem de49 (v : AV) (r : Bool) (h : dec49 v = some r) : v = oneOf (enc49 r) := by
  unfold dec49 at h
  split at h
  · cases h; rfl
  · cases h
abbrev Ty49 := ByteArray → Int → Int → Int → Heap → Option (Bool × Heap)
def sem49 (f : Ty49) : List TV → Heap → Option (Bool × Heap)
  | [.agg [Cell.str s0, Cell.int .i64 s1, Cell.int .u64 s2, Cell.int .u64 s3]], H => f s0 s1 s2 s3 H
  | _, _ => none
noncomputable def F049 : Ty49 := fun s0 s1 s2 s3 H => fnA CC49 Try.f49.results.toList (bodyOf Try.f49) _ [.agg [Cell.str s0, Cell.int .i64 s1, Cell.int .u64 s2, Cell.int .u64 s3]] H (decF dec49)
noncomputable def f49 : Ty49 := hide F049
theorem f49_eq : f49 = F049 := hide_eq _
theorem q49 : ∀ (s0 : ByteArray) (s1 s2 s3 : Int) (H : Heap), f49 s0 s1 s2 s3 H = bif decide ((↑s0.size : Int) ≤ 32) then bif decide (strings_IndexByte s0 0 < 0) then bif decide (s1 ≥ 0) then some (decide (s1 ≤ 2), H) else some (false, H) else some (false, H) else some (false, H) := by intros; rw [f49_eq]; exact (fnA_lpD hN49 ..).trans (by kernel_rfl)
theorem ok49 : FnOk Try.prog 49 (specF enc49 (sem49 f49)) := by
  refine spec_ok (C := CC49) good49 rfl rfl rfl (by kernel_rfl) Try.func49 (c := bodyOf Try.f49) (by kernel_rfl) (by kernel_rfl) (Nat.le_of_eq Try.ntmps49.symm) dec49 enc49 de49 _ ?_
  intro args H q h
  unfold sem49 at h
  split at h
  · rw [f49_eq] at h; exact h
  · cases h
/-! 48: elf_May_2 -/
noncomputable def CC48 : Ctx := { P := Try.prog, own := [1], fns := [(49, specF enc49 (sem49 f49))], nt := 6, nums := [], live := [] }
theorem good48 : Callees Try.prog CC48.fns [] CC48.nums := (Callees.nil Try.prog).cons ok49 (specF_nat _ _)
theorem hN48 : CtxNat CC48 := good48.ctx rfl rfl rfl
def enc48 (r : Bool) : List TV := [.c (Cell.bool (r))]
def dec48 : AV → Option (Bool)
  | .c (Cell.bool q0) => some (q0)
  | _ => none
theorem de48 (v : AV) (r : Bool) (h : dec48 v = some r) : v = oneOf (enc48 r) := by
  unfold dec48 at h
  split at h
  · cases h; rfl
  · cases h
abbrev Ty48 := ByteArray → Int → Int → Int → Heap → Option (Bool × Heap)
def sem48 (f : Ty48) : List TV → Heap → Option (Bool × Heap)
  | [.agg [Cell.str s0, Cell.int .i64 s1, Cell.int .u64 s2, Cell.int .u64 s3]], H => f s0 s1 s2 s3 H
  | _, _ => none
noncomputable def F048 : Ty48 := fun s0 s1 s2 s3 H => fnA CC48 Try.f48.results.toList (bodyOf Try.f48) _ [.agg [Cell.str s0, Cell.int .i64 s1, Cell.int .u64 s2, Cell.int .u64 s3]] H (decF dec48)
noncomputable def f48 : Ty48 := hide F048
theorem f48_eq : f48 = F048 := hide_eq _
theorem q48 : ∀ (s0 : ByteArray) (s1 s2 s3 : Int) (H : Heap), f48 s0 s1 s2 s3 H = (f49 s0 s1 s2 s3 H).bind fun v0 => some (!v0.1, v0.2) := by intros; rw [f48_eq]; exact (fnA_lpD hN48 ..).trans (by kernel_rfl)
theorem ok48 : FnOk Try.prog 48 (specF enc48 (sem48 f48)) := by
  refine spec_ok (C := CC48) good48 rfl rfl rfl (by kernel_rfl) Try.func48 (c := bodyOf Try.f48) (by kernel_rfl) (by kernel_rfl) (Nat.le_of_eq Try.ntmps48.symm) dec48 enc48 de48 _ ?_
  intro args H q h
  unfold sem48 at h
  split at h
  · rw [f48_eq] at h; exact h
  · cases h
/-! 68: slices_IndexFunc_elf_Sym_elf_Sym -/
noncomputable def CC68 : Ctx := { P := Try.prog, own := [], fns := [(48, specF enc48 (sem48 f48))], nt := 19, nums := [], live := [(2, ⟨[0, 1, 7, 8], [], [4], []⟩)] }
theorem good68 : Callees Try.prog CC68.fns [] CC68.nums := (Callees.nil Try.prog).cons ok48 (specF_nat _ _)
theorem hN68 : CtxNat CC68 := good68.ctx rfl rfl rfl
def enc68 (r : Int) : List TV := [.c (Cell.int .i64 (r))]
def dec68 : AV → Option (Int)
  | .c (Cell.int .i64 q0) => some (q0)
  | _ => none
theorem de68 (v : AV) (r : Int) (h : dec68 v = some r) : v = oneOf (enc68 r) := by
  unfold dec68 at h
  split at h
  · cases h; rfl
  · cases h
abbrev Ty68a := SO → Heap → Option (Int × Heap)
noncomputable def F068a : Ty68a := fun s H => fnA CC68 Try.f68.results.toList (bodyOf Try.f68) _ [.c (Cell.slice s), .c (Cell.fn 48 [] [])] H (decF dec68)
noncomputable def f68a : Ty68a := hide F068a
theorem f68a_eq : f68a = F068a := hide_eq _
noncomputable def P68a_2 : Code := (Code.l (Code.l (Code.r (Code.l (Code.r (bodyOf Try.f68))))))
def S68a_2 (t0 : SO) (t7 t8 : Int) (H : Heap) : St := ⟨[(0, .c (Cell.slice t0)), (1, .c (Cell.fn 48 [] [])), (7, .c (Cell.int .i64 t7)), (8, .c (Cell.int .i64 t8))], [], H⟩
noncomputable def D68a_2 (n : Nat) (t0 : SO) (t7 t8 : Int) (H : Heap) : Option (AExit × St) := loopN (exec CC68 P68a_2) (keepOf CC68.live P68a_2) n (S68a_2 t0 t7 t8 H) retD
noncomputable def LL68a_2 (t0 : SO) (t7 t8 : Int) (H : Heap) : Option (AExit × St) := loopsD CC68 P68a_2 (S68a_2 t0 t7 t8 H)
theorem LL68a_2_of (m : Nat) (hm : m < 18446744073709551616) (t0 : SO) (t7 t8 : Int) (H : Heap) : ∃ n, LL68a_2 t0 t7 t8 H = D68a_2 (n + m + 1) t0 t7 t8 H := loopsD_of _ _ _ m hm
def X68a_2 (x0 : Int) (H : Heap) : St := { env := [(4, AV.c (Cell.int .i64 x0))], loc := [], heap := H }
def X68a_2a (H : Heap) : St := { env := [], loc := [], heap := H }
noncomputable def J68a_2 : AExit × St → Option (Int × Heap) := fun p => blockK 0 (seqK (execL CC68 (lpD CC68) (Code.r (Code.r (bodyOf Try.f68)))) (retA CC68 [ResultVar.tmp 4] (decF dec68))) p.1 p.2
theorem D68a_2_s : ∀ (n : Nat) (t0 : SO) (t7 t8 : Int) (H : Heap), D68a_2 (n + 1) t0 t7 t8 H = bif decide (t8 < t7) then t0.bind fun v9 => bif inb t8 v9.len && v9.esz == 4 then (H.get v9.id (v9.off + t8.toNat * 4)).bind fun v8 => (H.get v9.id (v9.off + t8.toNat * 4 + 1)).bind fun v7 => (H.get v9.id (v9.off + t8.toNat * 4 + 1 + 1)).bind fun v6 => (H.get v9.id (v9.off + t8.toNat * 4 + 1 + 1 + 1)).bind fun v5 => v8.toStr.bind fun v4 => (Cell.toInt .i64 v7).bind fun v3 => (Cell.toInt .u64 v6).bind fun v2 => (Cell.toInt .u64 v5).bind fun v1 => (f48 v4 v3 v2 v1 H).bind fun v0 => bif v0.1 then some (AExit.ret, X68a_2 t8 v0.2) else D68a_2 n t0 t7 (IntKind.i64.wrap (t8 + 1)) v0.2 else none else some (AExit.exit 0, X68a_2a H) := by intros; exact (loopN_stepD hN68 _ _ _ _).trans (by kernel_rfl)
theorem q68a : ∀ (s : SO) (H : Heap), f68a s H = (LL68a_2 s (slen s) 0 H).bind J68a_2 := by intros; rw [f68a_eq]; exact (fnA_lpD hN68 ..).trans (by kernel_rfl)
theorem J68a_2_0 : ∀ (x0 : Int) (H : Heap), J68a_2 (AExit.ret, X68a_2 x0 H) = some (x0, H) := by intros; kernel_rfl
theorem J68a_2_1 : ∀ (H : Heap), J68a_2 (AExit.exit 0, X68a_2a H) = some (-1, H) := by intros; kernel_rfl
noncomputable def sem68 (_ : Unit) : List TV → Heap → Option (Int × Heap)
  | [.c (Cell.slice s), .c (Cell.fn 48 [] [])], H => f68a s H
  | _, _ => none
def f68 : Unit := ()
theorem ok68 : FnOk Try.prog 68 (specF enc68 (sem68 f68)) := by
  refine spec_ok (C := CC68) good68 rfl rfl rfl (by kernel_rfl) Try.func68 (c := bodyOf Try.f68) (by kernel_rfl) (by kernel_rfl) (Nat.le_of_eq Try.ntmps68.symm) dec68 enc68 de68 _ ?_
  intro args H q h
  unfold sem68 at h
  split at h
  · rw [f68a_eq] at h; exact h
  · cases h
/-! 47: slices_ContainsFunc_elf_Sym_elf_Sym -/
noncomputable def CC47 : Ctx := { P := Try.prog, own := [], fns := [(48, specF enc48 (sem48 f48)), (68, specF enc68 (sem68 f68))], nt := 9, nums := [], live := [] }
theorem good47 : Callees Try.prog CC47.fns [] CC47.nums := ((Callees.nil Try.prog).cons ok68 (specF_nat _ _)).cons ok48 (specF_nat _ _)
theorem hN47 : CtxNat CC47 := good47.ctx rfl rfl rfl
def enc47 (r : Bool) : List TV := [.c (Cell.bool (r))]
def dec47 : AV → Option (Bool)
  | .c (Cell.bool q0) => some (q0)
  | _ => none
theorem de47 (v : AV) (r : Bool) (h : dec47 v = some r) : v = oneOf (enc47 r) := by
  unfold dec47 at h
  split at h
  · cases h; rfl
  · cases h
abbrev Ty47a := SO → Heap → Option (Bool × Heap)
noncomputable def F047a : Ty47a := fun s H => fnA CC47 Try.f47.results.toList (bodyOf Try.f47) _ [.c (Cell.slice s), .c (Cell.fn 48 [] [])] H (decF dec47)
noncomputable def f47a : Ty47a := hide F047a
theorem f47a_eq : f47a = F047a := hide_eq _
theorem q47a : ∀ (s : SO) (H : Heap), f47a s H = (f68a s H).bind fun v0 => some (decide (v0.1 ≥ 0), v0.2) := by intros; rw [f47a_eq]; exact (fnA_lpD hN47 ..).trans (by kernel_rfl)
noncomputable def sem47 (_ : Unit) : List TV → Heap → Option (Bool × Heap)
  | [.c (Cell.slice s), .c (Cell.fn 48 [] [])], H => f47a s H
  | _, _ => none
def f47 : Unit := ()
theorem ok47 : FnOk Try.prog 47 (specF enc47 (sem47 f47)) := by
  refine spec_ok (C := CC47) good47 rfl rfl rfl (by kernel_rfl) Try.func47 (c := bodyOf Try.f47) (by kernel_rfl) (by kernel_rfl) (Nat.le_of_eq Try.ntmps47.symm) dec47 enc47 de47 _ ?_
  intro args H q h
  unfold sem47 at h
  split at h
  · rw [f47a_eq] at h; exact h
  · cases h
/-! 51: elf_May_3 -/
noncomputable def CC51 : Ctx := { P := Try.prog, own := [2], fns := [], nt := 15, nums := [], live := [] }
theorem good51 : Callees Try.prog CC51.fns [] CC51.nums := Callees.nil Try.prog
theorem hN51 : CtxNat CC51 := good51.ctx rfl rfl rfl
def enc51 (r : Bool) : List TV := [.c (Cell.bool (r))]
def dec51 : AV → Option (Bool)
  | .c (Cell.bool q0) => some (q0)
  | _ => none
theorem de51 (v : AV) (r : Bool) (h : dec51 v = some r) : v = oneOf (enc51 r) := by
  unfold dec51 at h
  split at h
  · cases h; rfl
  · cases h
abbrev Ty51 := Int → Int → Int → PO → Heap → Option (Bool × Heap)
def sem51 (f : Ty51) : List TV → Heap → Option (Bool × Heap)
  | [.agg [Cell.int .u64 r0, Cell.int .i64 r1, Cell.int .i64 r2], .c (Cell.ptr c0)], H => f r0 r1 r2 c0 H
  | _, _ => none
noncomputable def F051 : Ty51 := fun r0 r1 r2 c0 H => fnA CC51 Try.f51.results.toList (bodyOf Try.f51) _ [.agg [Cell.int .u64 r0, Cell.int .i64 r1, Cell.int .i64 r2], .c (Cell.ptr c0)] H (decF dec51)
noncomputable def f51 : Ty51 := hide F051
theorem f51_eq : f51 = F051 := hide_eq _
theorem q51 : ∀ (r0 r1 r2 : Int) (c0 : PO) (H : Heap), f51 r0 r1 r2 c0 H = bif decide (r1 < 0) then some (true, H) else c0.bind fun v2 => (H.get v2.1 (v2.2 + 3)).bind fun v1 => v1.toSlice.bind fun v0 => some (decide (r1 ≥ slen v0), H) := by intros; rw [f51_eq]; exact (fnA_lpD hN51 ..).trans (by kernel_rfl)
theorem ok51 : FnOk Try.prog 51 (specF enc51 (sem51 f51)) := by
  refine spec_ok (C := CC51) good51 rfl rfl rfl (by kernel_rfl) Try.func51 (c := bodyOf Try.f51) (by kernel_rfl) (by kernel_rfl) (Nat.le_of_eq Try.ntmps51.symm) dec51 enc51 de51 _ ?_
  intro args H q h
  unfold sem51 at h
  split at h
  · rw [f51_eq] at h; exact h
  · cases h
/-! 70: slices_IndexFunc_elf_Rel_elf_Rel -/
noncomputable def CC70 : Ctx := { P := Try.prog, own := [], fns := [(51, specF enc51 (sem51 f51))], nt := 19, nums := [], live := [(2, ⟨[0, 1, 7, 8], [], [4], []⟩)] }
theorem good70 : Callees Try.prog CC70.fns [] CC70.nums := (Callees.nil Try.prog).cons ok51 (specF_nat _ _)
theorem hN70 : CtxNat CC70 := good70.ctx rfl rfl rfl
def enc70 (r : Int) : List TV := [.c (Cell.int .i64 (r))]
def dec70 : AV → Option (Int)
  | .c (Cell.int .i64 q0) => some (q0)
  | _ => none
theorem de70 (v : AV) (r : Int) (h : dec70 v = some r) : v = oneOf (enc70 r) := by
  unfold dec70 at h
  split at h
  · cases h; rfl
  · cases h
abbrev Ty70a := SO → PO → Heap → Option (Int × Heap)
noncomputable def F070a : Ty70a := fun s q H => fnA CC70 Try.f70.results.toList (bodyOf Try.f70) _ [.c (Cell.slice s), .c (Cell.fn 51 [] [Cell.ptr q])] H (decF dec70)
noncomputable def f70a : Ty70a := hide F070a
theorem f70a_eq : f70a = F070a := hide_eq _
noncomputable def P70a_2 : Code := (Code.l (Code.l (Code.r (Code.l (Code.r (bodyOf Try.f70))))))
def S70a_2 (t0 : SO) (q : PO) (t7 t8 : Int) (H : Heap) : St := ⟨[(0, .c (Cell.slice t0)), (1, .c (Cell.fn 51 [] [Cell.ptr q])), (7, .c (Cell.int .i64 t7)), (8, .c (Cell.int .i64 t8))], [], H⟩
noncomputable def D70a_2 (n : Nat) (t0 : SO) (q : PO) (t7 t8 : Int) (H : Heap) : Option (AExit × St) := loopN (exec CC70 P70a_2) (keepOf CC70.live P70a_2) n (S70a_2 t0 q t7 t8 H) retD
noncomputable def LL70a_2 (t0 : SO) (q : PO) (t7 t8 : Int) (H : Heap) : Option (AExit × St) := loopsD CC70 P70a_2 (S70a_2 t0 q t7 t8 H)
theorem LL70a_2_of (m : Nat) (hm : m < 18446744073709551616) (t0 : SO) (q : PO) (t7 t8 : Int) (H : Heap) : ∃ n, LL70a_2 t0 q t7 t8 H = D70a_2 (n + m + 1) t0 q t7 t8 H := loopsD_of _ _ _ m hm
def X70a_2 (x0 : Int) (H : Heap) : St := { env := [(4, AV.c (Cell.int .i64 x0))], loc := [], heap := H }
def X70a_2a (H : Heap) : St := { env := [], loc := [], heap := H }
noncomputable def J70a_2 : AExit × St → Option (Int × Heap) := fun p => blockK 0 (seqK (execL CC70 (lpD CC70) (Code.r (Code.r (bodyOf Try.f70)))) (retA CC70 [ResultVar.tmp 4] (decF dec70))) p.1 p.2
theorem D70a_2_s : ∀ (n : Nat) (t0 : SO) (q : PO) (t7 t8 : Int) (H : Heap), D70a_2 (n + 1) t0 q t7 t8 H = bif decide (t8 < t7) then t0.bind fun v7 => bif inb t8 v7.len && v7.esz == 3 then (H.get v7.id (v7.off + t8.toNat * 3)).bind fun v6 => (H.get v7.id (v7.off + t8.toNat * 3 + 1)).bind fun v5 => (H.get v7.id (v7.off + t8.toNat * 3 + 1 + 1)).bind fun v4 => (Cell.toInt .u64 v6).bind fun v3 => (Cell.toInt .i64 v5).bind fun v2 => (Cell.toInt .i64 v4).bind fun v1 => (f51 v3 v2 v1 q H).bind fun v0 => bif v0.1 then some (AExit.ret, X70a_2 t8 v0.2) else D70a_2 n t0 q t7 (IntKind.i64.wrap (t8 + 1)) v0.2 else none else some (AExit.exit 0, X70a_2a H) := by intros; exact (loopN_stepD hN70 _ _ _ _).trans (by kernel_rfl)
theorem q70a : ∀ (s : SO) (q : PO) (H : Heap), f70a s q H = (LL70a_2 s q (slen s) 0 H).bind J70a_2 := by intros; rw [f70a_eq]; exact (fnA_lpD hN70 ..).trans (by kernel_rfl)
theorem J70a_2_0 : ∀ (x0 : Int) (H : Heap), J70a_2 (AExit.ret, X70a_2 x0 H) = some (x0, H) := by intros; kernel_rfl
theorem J70a_2_1 : ∀ (H : Heap), J70a_2 (AExit.exit 0, X70a_2a H) = some (-1, H) := by intros; kernel_rfl
noncomputable def sem70 (_ : Unit) : List TV → Heap → Option (Int × Heap)
  | [.c (Cell.slice s), .c (Cell.fn 51 [] [Cell.ptr q])], H => f70a s q H
  | _, _ => none
def f70 : Unit := ()
theorem ok70 : FnOk Try.prog 70 (specF enc70 (sem70 f70)) := by
  refine spec_ok (C := CC70) good70 rfl rfl rfl (by kernel_rfl) Try.func70 (c := bodyOf Try.f70) (by kernel_rfl) (by kernel_rfl) (Nat.le_of_eq Try.ntmps70.symm) dec70 enc70 de70 _ ?_
  intro args H q h
  unfold sem70 at h
  split at h
  · rw [f70a_eq] at h; exact h
  · cases h
/-! 50: slices_ContainsFunc_elf_Rel_elf_Rel -/
noncomputable def CC50 : Ctx := { P := Try.prog, own := [], fns := [(51, specF enc51 (sem51 f51)), (70, specF enc70 (sem70 f70))], nt := 9, nums := [], live := [] }
theorem good50 : Callees Try.prog CC50.fns [] CC50.nums := ((Callees.nil Try.prog).cons ok70 (specF_nat _ _)).cons ok51 (specF_nat _ _)
theorem hN50 : CtxNat CC50 := good50.ctx rfl rfl rfl
def enc50 (r : Bool) : List TV := [.c (Cell.bool (r))]
def dec50 : AV → Option (Bool)
  | .c (Cell.bool q0) => some (q0)
  | _ => none
theorem de50 (v : AV) (r : Bool) (h : dec50 v = some r) : v = oneOf (enc50 r) := by
  unfold dec50 at h
  split at h
  · cases h; rfl
  · cases h
abbrev Ty50a := SO → PO → Heap → Option (Bool × Heap)
noncomputable def F050a : Ty50a := fun s q H => fnA CC50 Try.f50.results.toList (bodyOf Try.f50) _ [.c (Cell.slice s), .c (Cell.fn 51 [] [Cell.ptr q])] H (decF dec50)
noncomputable def f50a : Ty50a := hide F050a
theorem f50a_eq : f50a = F050a := hide_eq _
theorem q50a : ∀ (s : SO) (q : PO) (H : Heap), f50a s q H = (f70a s q H).bind fun v0 => some (decide (v0.1 ≥ 0), v0.2) := by intros; rw [f50a_eq]; exact (fnA_lpD hN50 ..).trans (by kernel_rfl)
noncomputable def sem50 (_ : Unit) : List TV → Heap → Option (Bool × Heap)
  | [.c (Cell.slice s), .c (Cell.fn 51 [] [Cell.ptr q])], H => f50a s q H
  | _, _ => none
def f50 : Unit := ()
theorem ok50 : FnOk Try.prog 50 (specF enc50 (sem50 f50)) := by
  refine spec_ok (C := CC50) good50 rfl rfl rfl (by kernel_rfl) Try.func50 (c := bodyOf Try.f50) (by kernel_rfl) (by kernel_rfl) (Nat.le_of_eq Try.ntmps50.symm) dec50 enc50 de50 _ ?_
  intro args H q h
  unfold sem50 at h
  split at h
  · rw [f50a_eq] at h; exact h
  · cases h
/-! 22: elf_May -/
noncomputable def CC22 : Ctx := { P := Try.prog, own := [], fns := [(50, specF enc50 (sem50 f50)), (51, specF enc51 (sem51 f51)), (47, specF enc47 (sem47 f47)), (44, specF enc44 (sem44 f44))], nt := 46, nums := [], live := [] }
theorem good22 : Callees Try.prog CC22.fns [] CC22.nums := ((((Callees.nil Try.prog).cons ok44 (specF_nat _ _)).cons ok47 (specF_nat _ _)).cons ok51 (specF_nat _ _)).cons ok50 (specF_nat _ _)
theorem hN22 : CtxNat CC22 := good22.ctx rfl rfl rfl
def enc22 (r : Bool) : List TV := [.c (Cell.bool (r))]
def dec22 : AV → Option (Bool)
  | .c (Cell.bool q0) => some (q0)
  | _ => none
theorem de22 (v : AV) (r : Bool) (h : dec22 v = some r) : v = oneOf (enc22 r) := by
  unfold dec22 at h
  split at h
  · cases h; rfl
  · cases h
abbrev Ty22 := Int → Int → SO → SO → SO → Heap → Option (Bool × Heap)
def sem22 (f : Ty22) : List TV → Heap → Option (Bool × Heap)
  | [.agg [Cell.int .i64 x00, Cell.int .u64 x01, Cell.slice x02, Cell.slice x03, Cell.slice x04]], H => f x00 x01 x02 x03 x04 H
  | _, _ => none
noncomputable def F022 : Ty22 := fun x00 x01 x02 x03 x04 H => fnA CC22 Try.f22.results.toList (bodyOf Try.f22) _ [.agg [Cell.int .i64 x00, Cell.int .u64 x01, Cell.slice x02, Cell.slice x03, Cell.slice x04]] H (decF dec22)
noncomputable def f22 : Ty22 := hide F022
theorem f22_eq : f22 = F022 := hide_eq _
theorem q22 : ∀ (x00 x01 : Int) (x02 x03 x04 : SO) (H : Heap), f22 x00 x01 x02 x03 x04 H = ((H ++ [Blk.row [Cell.int .i64 x00, Cell.int .u64 x01, Cell.slice x02, Cell.slice x03, Cell.slice x04] false]).get (List.length H) 0).bind fun v33 => (Cell.toInt .i64 v33).bind fun v32 => bif v32 != 62 then ((H ++ [Blk.row [Cell.int .i64 x00, Cell.int .u64 x01, Cell.slice x02, Cell.slice x03, Cell.slice x04] false]).get (List.length H) 0).bind fun v16 => (Cell.toInt .i64 v16).bind fun v15 => bif v15 != 183 then some (false, H ++ [Blk.row [Cell.int .i64 x00, Cell.int .u64 x01, Cell.slice x02, Cell.slice x03, Cell.slice x04] false]) else ((H ++ [Blk.row [Cell.int .i64 x00, Cell.int .u64 x01, Cell.slice x02, Cell.slice x03, Cell.slice x04] false]).get (List.length H) 2).bind fun v14 => v14.toSlice.bind fun v13 => bif decide (slen v13 > 24) then some (false, H ++ [Blk.row [Cell.int .i64 x00, Cell.int .u64 x01, Cell.slice x02, Cell.slice x03, Cell.slice x04] false]) else ((H ++ [Blk.row [Cell.int .i64 x00, Cell.int .u64 x01, Cell.slice x02, Cell.slice x03, Cell.slice x04] false]).get (List.length H) 3).bind fun v12 => v12.toSlice.bind fun v11 => bif decide (slen v11 > 64) then some (false, H ++ [Blk.row [Cell.int .i64 x00, Cell.int .u64 x01, Cell.slice x02, Cell.slice x03, Cell.slice x04] false]) else ((H ++ [Blk.row [Cell.int .i64 x00, Cell.int .u64 x01, Cell.slice x02, Cell.slice x03, Cell.slice x04] false]).get (List.length H) 4).bind fun v10 => v10.toSlice.bind fun v9 => bif decide (slen v9 > 64) then some (false, H ++ [Blk.row [Cell.int .i64 x00, Cell.int .u64 x01, Cell.slice x02, Cell.slice x03, Cell.slice x04] false]) else ((H ++ [Blk.row [Cell.int .i64 x00, Cell.int .u64 x01, Cell.slice x02, Cell.slice x03, Cell.slice x04] false]).get (List.length H) 2).bind fun v8 => v8.toSlice.bind fun v7 => (f44a v7 (H ++ [Blk.row [Cell.int .i64 x00, Cell.int .u64 x01, Cell.slice x02, Cell.slice x03, Cell.slice x04] false])).bind fun v6 => bif !v6.1 then (v6.2.get (List.length H) 3).bind fun v5 => v5.toSlice.bind fun v4 => (f47a v4 v6.2).bind fun v3 => bif !v3.1 then (v3.2.get (List.length H) 4).bind fun v2 => v2.toSlice.bind fun v1 => (f50a v1 (some (List.length H, 0)) v3.2).bind fun v0 => some (!v0.1, v0.2) else some (false, v3.2) else some (false, v6.2) else ((H ++ [Blk.row [Cell.int .i64 x00, Cell.int .u64 x01, Cell.slice x02, Cell.slice x03, Cell.slice x04] false]).get (List.length H) 2).bind fun v31 => v31.toSlice.bind fun v30 => bif decide (slen v30 > 24) then some (false, H ++ [Blk.row [Cell.int .i64 x00, Cell.int .u64 x01, Cell.slice x02, Cell.slice x03, Cell.slice x04] false]) else ((H ++ [Blk.row [Cell.int .i64 x00, Cell.int .u64 x01, Cell.slice x02, Cell.slice x03, Cell.slice x04] false]).get (List.length H) 3).bind fun v29 => v29.toSlice.bind fun v28 => bif decide (slen v28 > 64) then some (false, H ++ [Blk.row [Cell.int .i64 x00, Cell.int .u64 x01, Cell.slice x02, Cell.slice x03, Cell.slice x04] false]) else ((H ++ [Blk.row [Cell.int .i64 x00, Cell.int .u64 x01, Cell.slice x02, Cell.slice x03, Cell.slice x04] false]).get (List.length H) 4).bind fun v27 => v27.toSlice.bind fun v26 => bif decide (slen v26 > 64) then some (false, H ++ [Blk.row [Cell.int .i64 x00, Cell.int .u64 x01, Cell.slice x02, Cell.slice x03, Cell.slice x04] false]) else ((H ++ [Blk.row [Cell.int .i64 x00, Cell.int .u64 x01, Cell.slice x02, Cell.slice x03, Cell.slice x04] false]).get (List.length H) 2).bind fun v25 => v25.toSlice.bind fun v24 => (f44a v24 (H ++ [Blk.row [Cell.int .i64 x00, Cell.int .u64 x01, Cell.slice x02, Cell.slice x03, Cell.slice x04] false])).bind fun v23 => bif !v23.1 then (v23.2.get (List.length H) 3).bind fun v22 => v22.toSlice.bind fun v21 => (f47a v21 v23.2).bind fun v20 => bif !v20.1 then (v20.2.get (List.length H) 4).bind fun v19 => v19.toSlice.bind fun v18 => (f50a v18 (some (List.length H, 0)) v20.2).bind fun v17 => some (!v17.1, v17.2) else some (false, v20.2) else some (false, v23.2) := by intros; rw [f22_eq]; exact (fnA_lpD hN22 ..).trans (by kernel_rfl)
theorem ok22 : FnOk Try.prog 22 (specF enc22 (sem22 f22)) := by
  refine spec_ok (C := CC22) good22 rfl rfl rfl (by kernel_rfl) Try.func22 (c := bodyOf Try.f22) (by kernel_rfl) (by kernel_rfl) (Nat.le_of_eq Try.ntmps22.symm) dec22 enc22 de22 _ ?_
  intro args H q h
  unfold sem22 at h
  split at h
  · rw [f22_eq] at h; exact h
  · cases h
/-! 53: slices_Clone_elf_Seg_elf_Seg -/
noncomputable def CC53 : Ctx := { P := Try.prog, own := [], fns := [], nt := 8, nums := [], live := [] }
theorem good53 : Callees Try.prog CC53.fns [] CC53.nums := Callees.nil Try.prog
theorem hN53 : CtxNat CC53 := good53.ctx rfl rfl rfl
def enc53 (r : SO) : List TV := [.c (Cell.slice (r))]
def dec53 : AV → Option (SO)
  | .c (Cell.slice q0) => some (q0)
  | _ => none
theorem de53 (v : AV) (r : SO) (h : dec53 v = some r) : v = oneOf (enc53 r) := by
  unfold dec53 at h
  split at h
  · cases h; rfl
  · cases h
abbrev Ty53 := SO → Heap → Option (SO × Heap)
def sem53 (f : Ty53) : List TV → Heap → Option (SO × Heap)
  | [.c (Cell.slice s)], H => f s H
  | _, _ => none
noncomputable def F053 : Ty53 := fun s H => fnA CC53 Try.f53.results.toList (bodyOf Try.f53) _ [.c (Cell.slice s)] H (decF dec53)
noncomputable def f53 : Ty53 := hide F053
theorem f53_eq : f53 = F053 := hide_eq _
theorem q53 : ∀ (s : SO) (H : Heap), f53 s H = bif s.isNone then some (none, H) else ((H ++ [Blk.row [] false]).append 5 56 (some { id := List.length H, off := 0, len := 0, cap := 0, esz := 5 }) s).bind fun v0 => some (v0.1, v0.2) := by intros; rw [f53_eq]; exact (fnA_lpD hN53 ..).trans (by kernel_rfl)
theorem ok53 : FnOk Try.prog 53 (specF enc53 (sem53 f53)) := by
  refine spec_ok (C := CC53) good53 rfl rfl rfl (by kernel_rfl) Try.func53 (c := bodyOf Try.f53) (by kernel_rfl) (by kernel_rfl) (Nat.le_of_eq Try.ntmps53.symm) dec53 enc53 de53 _ ?_
  intro args H q h
  unfold sem53 at h
  split at h
  · rw [f53_eq] at h; exact h
  · cases h
/-! 27: slices_DeleteFunc_elf_Seg_elf_Seg -/
noncomputable def CC27 : Ctx := { P := Try.prog, own := [7], fns := [(28, specF enc28 (sem28 f28)), (54, specF enc54 (sem54 f54)), (57, specF enc57 (sem57 f57))], nt := 42, nums := [], live := [(5, ⟨[0, 1, 5, 6], [], [0, 5], []⟩)] }
theorem good27 : Callees Try.prog CC27.fns [] CC27.nums := (((Callees.nil Try.prog).cons ok57 (specF_nat _ _)).cons ok54 (specF_nat _ _)).cons ok28 (specF_nat _ _)
theorem hN27 : CtxNat CC27 := good27.ctx rfl rfl rfl
def enc27 (r : SO) : List TV := [.c (Cell.slice (r))]
def dec27 : AV → Option (SO)
  | .c (Cell.slice q0) => some (q0)
  | _ => none
theorem de27 (v : AV) (r : SO) (h : dec27 v = some r) : v = oneOf (enc27 r) := by
  unfold dec27 at h
  split at h
  · cases h; rfl
  · cases h
abbrev Ty27a := SO → PO → Heap → Option (SO × Heap)
noncomputable def F027a : Ty27a := fun s q H => fnA CC27 Try.f27.results.toList (bodyOf Try.f27) _ [.c (Cell.slice s), .c (Cell.fn 54 [] [Cell.ptr q])] H (decF dec27)
noncomputable def f27a : Ty27a := hide F027a
theorem f27a_eq : f27a = F027a := hide_eq _
noncomputable def P27a_5 : Code := (Code.l (Code.l (Code.r (Code.l (Code.r (Code.r (Code.r (bodyOf Try.f27))))))))
def S27a_5 (t0 : SO) (q : PO) (t5 t6 : Int) (H : Heap) : St := ⟨[(0, .c (Cell.slice t0)), (1, .c (Cell.fn 54 [] [Cell.ptr q])), (5, .c (Cell.int .i64 t5)), (6, .c (Cell.int .i64 t6))], [], H⟩
noncomputable def D27a_5 (n : Nat) (t0 : SO) (q : PO) (t5 t6 : Int) (H : Heap) : Option (AExit × St) := loopN (exec CC27 P27a_5) (keepOf CC27.live P27a_5) n (S27a_5 t0 q t5 t6 H) retD
noncomputable def LL27a_5 (t0 : SO) (q : PO) (t5 t6 : Int) (H : Heap) : Option (AExit × St) := loopsD CC27 P27a_5 (S27a_5 t0 q t5 t6 H)
theorem LL27a_5_of (m : Nat) (hm : m < 18446744073709551616) (t0 : SO) (q : PO) (t5 t6 : Int) (H : Heap) : ∃ n, LL27a_5 t0 q t5 t6 H = D27a_5 (n + m + 1) t0 q t5 t6 H := loopsD_of _ _ _ m hm
def X27a_5 (x0 : SO) (x1 : Int) (H : Heap) : St := { env := [(0, AV.c (Cell.slice x0)), (5, AV.c (Cell.int .i64 x1))], loc := [], heap := H }
noncomputable def J27a_5 : AExit × St → Option (Option Sl × Heap) := fun p => blockK 0 (seqK (execL CC27 (lpD CC27) (Code.r (Code.r (Code.r (Code.r (bodyOf Try.f27)))))) (retA CC27 [ResultVar.tmp 4] (decF dec27))) p.1 p.2
theorem D27a_5_s : ∀ (n : Nat) (t0 : SO) (q : PO) (t5 t6 : Int) (H : Heap), D27a_5 (n + 1) t0 q t5 t6 H = bif decide (t6 < slen t0) then t0.bind fun v13 => bif inb t6 v13.len && v13.esz == 5 then (H.get v13.id (v13.off + t6.toNat * 5)).bind fun v12 => (H.get v13.id (v13.off + t6.toNat * 5 + 1)).bind fun v11 => (H.get v13.id (v13.off + t6.toNat * 5 + 1 + 1)).bind fun v10 => (H.get v13.id (v13.off + t6.toNat * 5 + 1 + 1 + 1)).bind fun v9 => (H.get v13.id (v13.off + t6.toNat * 5 + 1 + 1 + 1 + 1)).bind fun v8 => (Cell.toInt .i64 v12).bind fun v7 => (Cell.toInt .i64 v11).bind fun v6 => (Cell.toInt .u64 v10).bind fun v5 => (Cell.toInt .u64 v9).bind fun v4 => v8.toSlice.bind fun v3 => (f54 v7 v6 v5 v4 v3 q H).bind fun v2 => bif !v2.1 then t0.bind fun v1 => bif inb t5 v1.len && v1.esz == 5 then (v2.2.put v1.id (v1.off + t5.toNat * 5) [Cell.int .i64 v7, Cell.int .i64 v6, Cell.int .u64 v5, Cell.int .u64 v4, Cell.slice v3]).bind fun v0 => D27a_5 n t0 q (IntKind.i64.wrap (t5 + 1)) (IntKind.i64.wrap (t6 + 1)) v0 else none else D27a_5 n t0 q t5 (IntKind.i64.wrap (t6 + 1)) v2.2 else none else some (AExit.exit 0, X27a_5 t0 t5 H) := by intros; exact (loopN_stepD hN27 _ _ _ _).trans (by kernel_rfl)
theorem q27a : ∀ (s : SO) (q : PO) (H : Heap), f27a s q H = (f57b s q H).bind fun v14 => bif v14.1 == -1 then some (s, v14.2) else (LL27a_5 s q v14.1 (IntKind.i64.wrap (v14.1 + 1)) v14.2).bind J27a_5 := by intros; rw [f27a_eq]; exact (fnA_lpD hN27 ..).trans (by kernel_rfl)
theorem J27a_5_0 : ∀ (x0 : SO) (x1 : Int) (H : Heap), J27a_5 (AExit.exit 0, X27a_5 x0 x1 H) = (Sl.sub x0 x1 none).bind fun v17 => bif esOk x0 5 then (H.clear 5 [Cell.int .i64 0, Cell.int .i64 0, Cell.int .u64 0, Cell.int .u64 0, Cell.slice none] v17).bind fun v16 => (Sl.sub x0 0 (some x1)).bind fun v15 => bif esOk x0 5 then some (v15, v16) else none else none := by intros; kernel_rfl
abbrev Ty27b := SO → Heap → Option (SO × Heap)
noncomputable def F027b : Ty27b := fun s H => fnA CC27 Try.f27.results.toList (bodyOf Try.f27) _ [.c (Cell.slice s), .c (Cell.fn 28 [] [])] H (decF dec27)
noncomputable def f27b : Ty27b := hide F027b
theorem f27b_eq : f27b = F027b := hide_eq _
def S27b_5 (t0 : SO) (t5 t6 : Int) (H : Heap) : St := ⟨[(0, .c (Cell.slice t0)), (1, .c (Cell.fn 28 [] [])), (5, .c (Cell.int .i64 t5)), (6, .c (Cell.int .i64 t6))], [], H⟩
noncomputable def D27b_5 (n : Nat) (t0 : SO) (t5 t6 : Int) (H : Heap) : Option (AExit × St) := loopN (exec CC27 P27a_5) (keepOf CC27.live P27a_5) n (S27b_5 t0 t5 t6 H) retD
noncomputable def LL27b_5 (t0 : SO) (t5 t6 : Int) (H : Heap) : Option (AExit × St) := loopsD CC27 P27a_5 (S27b_5 t0 t5 t6 H)
theorem LL27b_5_of (m : Nat) (hm : m < 18446744073709551616) (t0 : SO) (t5 t6 : Int) (H : Heap) : ∃ n, LL27b_5 t0 t5 t6 H = D27b_5 (n + m + 1) t0 t5 t6 H := loopsD_of _ _ _ m hm
def X27b_5 (x0 : SO) (x1 : Int) (H : Heap) : St := { env := [(0, AV.c (Cell.slice x0)), (5, AV.c (Cell.int .i64 x1))], loc := [], heap := H }
noncomputable def J27b_5 : AExit × St → Option (Option Sl × Heap) := fun p => blockK 0 (seqK (execL CC27 (lpD CC27) (Code.r (Code.r (Code.r (Code.r (bodyOf Try.f27)))))) (retA CC27 [ResultVar.tmp 4] (decF dec27))) p.1 p.2
theorem D27b_5_s : ∀ (n : Nat) (t0 : SO) (t5 t6 : Int) (H : Heap), D27b_5 (n + 1) t0 t5 t6 H = bif decide (t6 < slen t0) then t0.bind fun v13 => bif inb t6 v13.len && v13.esz == 5 then (H.get v13.id (v13.off + t6.toNat * 5)).bind fun v12 => (H.get v13.id (v13.off + t6.toNat * 5 + 1)).bind fun v11 => (H.get v13.id (v13.off + t6.toNat * 5 + 1 + 1)).bind fun v10 => (H.get v13.id (v13.off + t6.toNat * 5 + 1 + 1 + 1)).bind fun v9 => (H.get v13.id (v13.off + t6.toNat * 5 + 1 + 1 + 1 + 1)).bind fun v8 => (Cell.toInt .i64 v12).bind fun v7 => (Cell.toInt .i64 v11).bind fun v6 => (Cell.toInt .u64 v10).bind fun v5 => (Cell.toInt .u64 v9).bind fun v4 => v8.toSlice.bind fun v3 => (f28 v7 v6 v5 v4 v3 H).bind fun v2 => bif !v2.1 then t0.bind fun v1 => bif inb t5 v1.len && v1.esz == 5 then (v2.2.put v1.id (v1.off + t5.toNat * 5) [Cell.int .i64 v7, Cell.int .i64 v6, Cell.int .u64 v5, Cell.int .u64 v4, Cell.slice v3]).bind fun v0 => D27b_5 n t0 (IntKind.i64.wrap (t5 + 1)) (IntKind.i64.wrap (t6 + 1)) v0 else none else D27b_5 n t0 t5 (IntKind.i64.wrap (t6 + 1)) v2.2 else none else some (AExit.exit 0, X27b_5 t0 t5 H) := by intros; exact (loopN_stepD hN27 _ _ _ _).trans (by kernel_rfl)
theorem q27b : ∀ (s : SO) (H : Heap), f27b s H = (f57c s H).bind fun v14 => bif v14.1 == -1 then some (s, v14.2) else (LL27b_5 s v14.1 (IntKind.i64.wrap (v14.1 + 1)) v14.2).bind J27b_5 := by intros; rw [f27b_eq]; exact (fnA_lpD hN27 ..).trans (by kernel_rfl)
theorem J27b_5_0 : ∀ (x0 : SO) (x1 : Int) (H : Heap), J27b_5 (AExit.exit 0, X27b_5 x0 x1 H) = (Sl.sub x0 x1 none).bind fun v17 => bif esOk x0 5 then (H.clear 5 [Cell.int .i64 0, Cell.int .i64 0, Cell.int .u64 0, Cell.int .u64 0, Cell.slice none] v17).bind fun v16 => (Sl.sub x0 0 (some x1)).bind fun v15 => bif esOk x0 5 then some (v15, v16) else none else none := by intros; kernel_rfl
noncomputable def sem27 (_ : Unit) : List TV → Heap → Option (SO × Heap)
  | [.c (Cell.slice s), .c (Cell.fn 54 [] [Cell.ptr q])], H => f27a s q H
  | [.c (Cell.slice s), .c (Cell.fn 28 [] [])], H => f27b s H
  | _, _ => none
def f27 : Unit := ()
theorem ok27 : FnOk Try.prog 27 (specF enc27 (sem27 f27)) := by
  refine spec_ok (C := CC27) good27 rfl rfl rfl (by kernel_rfl) Try.func27 (c := bodyOf Try.f27) (by kernel_rfl) (by kernel_rfl) (Nat.le_of_eq Try.ntmps27.symm) dec27 enc27 de27 _ ?_
  intro args H q h
  unfold sem27 at h
  split at h
  · rw [f27a_eq] at h; exact h
  · rw [f27b_eq] at h; exact h
  · cases h
/-! 24: image_kind -/
noncomputable def CC24 : Ctx := { P := Try.prog, own := [2], fns := [(27, specF enc27 (sem27 f27)), (54, specF enc54 (sem54 f54)), (53, specF enc53 (sem53 f53))], nt := 10, nums := [], live := [] }
theorem good24 : Callees Try.prog CC24.fns [] CC24.nums := (((Callees.nil Try.prog).cons ok53 (specF_nat _ _)).cons ok54 (specF_nat _ _)).cons ok27 (specF_nat _ _)
theorem hN24 : CtxNat CC24 := good24.ctx rfl rfl rfl
def enc24 (r : SO) : List TV := [.c (Cell.slice (r))]
def dec24 : AV → Option (SO)
  | .c (Cell.slice q0) => some (q0)
  | _ => none
theorem de24 (v : AV) (r : SO) (h : dec24 v = some r) : v = oneOf (enc24 r) := by
  unfold dec24 at h
  split at h
  · cases h; rfl
  · cases h
abbrev Ty24 := Int → Int → SO → SO → SO → Int → Heap → Option (SO × Heap)
def sem24 (f : Ty24) : List TV → Heap → Option (SO × Heap)
  | [.agg [Cell.int .i64 x00, Cell.int .u64 x01, Cell.slice x02, Cell.slice x03, Cell.slice x04], .c (Cell.int .i64 k)], H => f x00 x01 x02 x03 x04 k H
  | _, _ => none
noncomputable def F024 : Ty24 := fun x00 x01 x02 x03 x04 k H => fnA CC24 Try.f24.results.toList (bodyOf Try.f24) _ [.agg [Cell.int .i64 x00, Cell.int .u64 x01, Cell.slice x02, Cell.slice x03, Cell.slice x04], .c (Cell.int .i64 k)] H (decF dec24)
noncomputable def f24 : Ty24 := hide F024
theorem f24_eq : f24 = F024 := hide_eq _
theorem q24 : ∀ (x00 x01 : Int) (x02 x03 x04 : SO) (k : Int) (H : Heap), f24 x00 x01 x02 x03 x04 k H = (f53 x02 (H ++ [Blk.row [Cell.int .i64 k] false])).bind fun v1 => (f27a v1.1 (some (List.length H, 0)) v1.2).bind fun v0 => some (v0.1, v0.2) := by intros; rw [f24_eq]; exact (fnA_lpD hN24 ..).trans (by kernel_rfl)
theorem ok24 : FnOk Try.prog 24 (specF enc24 (sem24 f24)) := by
  refine spec_ok (C := CC24) good24 rfl rfl rfl (by kernel_rfl) Try.func24 (c := bodyOf Try.f24) (by kernel_rfl) (by kernel_rfl) (Nat.le_of_eq Try.ntmps24.symm) dec24 enc24 de24 _ ?_
  intro args H q h
  unfold sem24 at h
  split at h
  · rw [f24_eq] at h; exact h
  · cases h
/-! 52: elf_Seg_End -/
noncomputable def CC52 : Ctx := { P := Try.prog, own := [1], fns := [], nt := 8, nums := [], live := [] }
theorem good52 : Callees Try.prog CC52.fns [] CC52.nums := Callees.nil Try.prog
theorem hN52 : CtxNat CC52 := good52.ctx rfl rfl rfl
def enc52 (r : Int) : List TV := [.c (Cell.int .u64 (r))]
def dec52 : AV → Option (Int)
  | .c (Cell.int .u64 q0) => some (q0)
  | _ => none
theorem de52 (v : AV) (r : Int) (h : dec52 v = some r) : v = oneOf (enc52 r) := by
  unfold dec52 at h
  split at h
  · cases h; rfl
  · cases h
abbrev Ty52 := Int → Int → Int → Int → SO → Heap → Option (Int × Heap)
def sem52 (f : Ty52) : List TV → Heap → Option (Int × Heap)
  | [.agg [Cell.int .i64 s0, Cell.int .i64 s1, Cell.int .u64 s2, Cell.int .u64 s3, Cell.slice s4]], H => f s0 s1 s2 s3 s4 H
  | _, _ => none
noncomputable def F052 : Ty52 := fun s0 s1 s2 s3 s4 H => fnA CC52 Try.f52.results.toList (bodyOf Try.f52) _ [.agg [Cell.int .i64 s0, Cell.int .i64 s1, Cell.int .u64 s2, Cell.int .u64 s3, Cell.slice s4]] H (decF dec52)
noncomputable def f52 : Ty52 := hide F052
theorem f52_eq : f52 = F052 := hide_eq _
theorem q52 : ∀ (s0 s1 s2 s3 : Int) (s4 : SO) (H : Heap), f52 s0 s1 s2 s3 s4 H = some (IntKind.u64.wrap (s2 + s3), H) := by intros; rw [f52_eq]; exact (fnA_lpD hN52 ..).trans (by kernel_rfl)
theorem ok52 : FnOk Try.prog 52 (specF enc52 (sem52 f52)) := by
  refine spec_ok (C := CC52) good52 rfl rfl rfl (by kernel_rfl) Try.func52 (c := bodyOf Try.f52) (by kernel_rfl) (by kernel_rfl) (Nat.le_of_eq Try.ntmps52.symm) dec52 enc52 de52 _ ?_
  intro args H q h
  unfold sem52 at h
  split at h
  · rw [f52_eq] at h; exact h
  · cases h
/-! 23: image_sized -/
noncomputable def CC23 : Ctx := { P := Try.prog, own := [1, 7], fns := [(52, specF enc52 (sem52 f52)), (24, specF enc24 (sem24 f24))], nt := 55, nums := [], live := [(6, ⟨[5, 26, 27, 28], [], [2, 5], []⟩)] }
theorem good23 : Callees Try.prog CC23.fns [] CC23.nums := ((Callees.nil Try.prog).cons ok24 (specF_nat _ _)).cons ok52 (specF_nat _ _)
theorem hN23 : CtxNat CC23 := good23.ctx rfl rfl rfl
def enc23 (r : Bool) : List TV := [.c (Cell.bool (r))]
def dec23 : AV → Option (Bool)
  | .c (Cell.bool q0) => some (q0)
  | _ => none
theorem de23 (v : AV) (r : Bool) (h : dec23 v = some r) : v = oneOf (enc23 r) := by
  unfold dec23 at h
  split at h
  · cases h; rfl
  · cases h
abbrev Ty23 := Int → Int → SO → SO → SO → Heap → Option (Bool × Heap)
def sem23 (f : Ty23) : List TV → Heap → Option (Bool × Heap)
  | [.agg [Cell.int .i64 x00, Cell.int .u64 x01, Cell.slice x02, Cell.slice x03, Cell.slice x04]], H => f x00 x01 x02 x03 x04 H
  | _, _ => none
noncomputable def F023 : Ty23 := fun x00 x01 x02 x03 x04 H => fnA CC23 Try.f23.results.toList (bodyOf Try.f23) _ [.agg [Cell.int .i64 x00, Cell.int .u64 x01, Cell.slice x02, Cell.slice x03, Cell.slice x04]] H (decF dec23)
noncomputable def f23 : Ty23 := hide F023
theorem f23_eq : f23 = F023 := hide_eq _
noncomputable def P23_6 : Code := (Code.l (Code.l (Code.r (Code.l (Code.r (Code.r (Code.r (Code.r (bodyOf Try.f23)))))))))
def S23_6 (t5 : Int) (t26 : SO) (t27 t28 : Int) (H : Heap) : St := ⟨[(5, .c (Cell.int .u64 t5)), (26, .c (Cell.slice t26)), (27, .c (Cell.int .i64 t27)), (28, .c (Cell.int .i64 t28))], [], H⟩
noncomputable def D23_6 (n : Nat) (t5 : Int) (t26 : SO) (t27 t28 : Int) (H : Heap) : Option (AExit × St) := loopN (exec CC23 P23_6) (keepOf CC23.live P23_6) n (S23_6 t5 t26 t27 t28 H) retD
noncomputable def LL23_6 (t5 : Int) (t26 : SO) (t27 t28 : Int) (H : Heap) : Option (AExit × St) := loopsD CC23 P23_6 (S23_6 t5 t26 t27 t28 H)
theorem LL23_6_of (m : Nat) (hm : m < 18446744073709551616) (t5 : Int) (t26 : SO) (t27 t28 : Int) (H : Heap) : ∃ n, LL23_6 t5 t26 t27 t28 H = D23_6 (n + m + 1) t5 t26 t27 t28 H := loopsD_of _ _ _ m hm
def X23_6 (x0 : Bool) (x1 : Int) (H : Heap) : St := { env := [(2, AV.c (Cell.bool x0)), (5, AV.c (Cell.int .u64 x1))], loc := [], heap := H }
def X23_6a (x0 : Int) (H : Heap) : St := { env := [(5, AV.c (Cell.int .u64 x0))], loc := [], heap := H }
noncomputable def J23_6 : AExit × St → Option (Bool × Heap) := fun p => blockK 0 (seqK (execL CC23 (lpD CC23) (Code.r (Code.r (Code.r (Code.r (Code.r (bodyOf Try.f23))))))) (retA CC23 [ResultVar.tmp 2] (decF dec23))) p.1 p.2
theorem D23_6_s : ∀ (n : Nat) (t5 : Int) (t26 : SO) (t27 t28 : Int) (H : Heap), D23_6 (n + 1) t5 t26 t27 t28 H = bif decide (t28 < t27) then t26.bind fun v11 => bif inb t28 v11.len && v11.esz == 5 then (H.get v11.id (v11.off + t28.toNat * 5)).bind fun v10 => (H.get v11.id (v11.off + t28.toNat * 5 + 1)).bind fun v9 => (H.get v11.id (v11.off + t28.toNat * 5 + 1 + 1)).bind fun v8 => (H.get v11.id (v11.off + t28.toNat * 5 + 1 + 1 + 1)).bind fun v7 => (H.get v11.id (v11.off + t28.toNat * 5 + 1 + 1 + 1 + 1)).bind fun v6 => (Cell.toInt .i64 v10).bind fun v5 => (Cell.toInt .i64 v9).bind fun v4 => (Cell.toInt .u64 v8).bind fun v3 => (Cell.toInt .u64 v7).bind fun v2 => v6.toSlice.bind fun v1 => bif decide (v2 > 65536) then some (AExit.ret, X23_6 false t5 H) else bif decide (v3 > 140737487306752) then some (AExit.ret, X23_6 false t5 H) else (f52 v5 v4 v3 v2 v1 H).bind fun v0 => bif decide (v0.1 > 140737487306752) then some (AExit.ret, X23_6 false t5 v0.2) else bif v5 == 1 then D23_6 n (IntKind.u64.wrap (t5 + v2)) t26 t27 (IntKind.i64.wrap (t28 + 1)) v0.2 else D23_6 n t5 t26 t27 (IntKind.i64.wrap (t28 + 1)) v0.2 else none else some (AExit.exit 0, X23_6a t5 H) := by intros; exact (loopN_stepD hN23 _ _ _ _).trans (by kernel_rfl)
theorem q23 : ∀ (x00 x01 : Int) (x02 x03 x04 : SO) (H : Heap), f23 x00 x01 x02 x03 x04 H = (f24 x00 x01 x02 x03 x04 1 H).bind fun v13 => (f24 x00 x01 x02 x03 x04 1610612737 v13.2).bind fun v12 => bif decide (slen v13.1 > 8) then some (false, v12.2) else bif decide (slen v12.1 > 8) then some (false, v12.2) else bif slen v12.1 == 0 then some (false, v12.2) else (LL23_6 0 x02 (slen x02) 0 v12.2).bind J23_6 := by intros; rw [f23_eq]; exact (fnA_lpD hN23 ..).trans (by kernel_rfl)
theorem J23_6_0 : ∀ (x0 : Bool) (x1 : Int) (H : Heap), J23_6 (AExit.ret, X23_6 x0 x1 H) = some (x0, H) := by intros; kernel_rfl
theorem J23_6_1 : ∀ (x0 : Int) (H : Heap), J23_6 (AExit.exit 0, X23_6a x0 H) = some (decide (x0 ≤ 65536), H) := by intros; kernel_rfl
theorem ok23 : FnOk Try.prog 23 (specF enc23 (sem23 f23)) := by
  refine spec_ok (C := CC23) good23 rfl rfl rfl (by kernel_rfl) Try.func23 (c := bodyOf Try.f23) (by kernel_rfl) (by kernel_rfl) (Nat.le_of_eq Try.ntmps23.symm) dec23 enc23 de23 _ ?_
  intro args H q h
  unfold sem23 at h
  split at h
  · rw [f23_eq] at h; exact h
  · cases h
/-! 55: elf_Seg_Meets -/
noncomputable def CC55 : Ctx := { P := Try.prog, own := [2, 3], fns := [], nt := 47, nums := [], live := [] }
theorem good55 : Callees Try.prog CC55.fns [] CC55.nums := Callees.nil Try.prog
theorem hN55 : CtxNat CC55 := good55.ctx rfl rfl rfl
def enc55 (r : Bool) : List TV := [.c (Cell.bool (r))]
def dec55 : AV → Option (Bool)
  | .c (Cell.bool q0) => some (q0)
  | _ => none
theorem de55 (v : AV) (r : Bool) (h : dec55 v = some r) : v = oneOf (enc55 r) := by
  unfold dec55 at h
  split at h
  · cases h; rfl
  · cases h
abbrev Ty55 := Int → Int → Int → Int → SO → Int → Int → Int → Int → SO → Heap → Option (Bool × Heap)
def sem55 (f : Ty55) : List TV → Heap → Option (Bool × Heap)
  | [.agg [Cell.int .i64 s0, Cell.int .i64 s1, Cell.int .u64 s2, Cell.int .u64 s3, Cell.slice s4], .agg [Cell.int .i64 t0, Cell.int .i64 t1, Cell.int .u64 t2, Cell.int .u64 t3, Cell.slice t4]], H => f s0 s1 s2 s3 s4 t0 t1 t2 t3 t4 H
  | _, _ => none
noncomputable def F055 : Ty55 := fun s0 s1 s2 s3 s4 t0 t1 t2 t3 t4 H => fnA CC55 Try.f55.results.toList (bodyOf Try.f55) _ [.agg [Cell.int .i64 s0, Cell.int .i64 s1, Cell.int .u64 s2, Cell.int .u64 s3, Cell.slice s4], .agg [Cell.int .i64 t0, Cell.int .i64 t1, Cell.int .u64 t2, Cell.int .u64 t3, Cell.slice t4]] H (decF dec55)
noncomputable def f55 : Ty55 := hide F055
theorem f55_eq : f55 = F055 := hide_eq _
theorem q55 : ∀ (s0 s1 s2 s3 : Int) (s4 : SO) (t0 t1 t2 t3 : Int) (t4 : SO) (H : Heap), f55 s0 s1 s2 s3 s4 t0 t1 t2 t3 t4 H = bif decide (s3 > 0) then bif decide (t3 > 0) then bif decide (t2 ≥ s2) then bif decide (IntKind.u64.wrap (t2 - s2) < s3) then some (true, H) else bif decide (s2 ≥ t2) then some (decide (IntKind.u64.wrap (s2 - t2) < t3), H) else some (false, H) else bif decide (s2 ≥ t2) then some (decide (IntKind.u64.wrap (s2 - t2) < t3), H) else some (false, H) else some (false, H) else some (false, H) := by intros; rw [f55_eq]; exact (fnA_lpD hN55 ..).trans (by kernel_rfl)
theorem ok55 : FnOk Try.prog 55 (specF enc55 (sem55 f55)) := by
  refine spec_ok (C := CC55) good55 rfl rfl rfl (by kernel_rfl) Try.func55 (c := bodyOf Try.f55) (by kernel_rfl) (by kernel_rfl) (Nat.le_of_eq Try.ntmps55.symm) dec55 enc55 de55 _ ?_
  intro args H q h
  unfold sem55 at h
  split at h
  · rw [f55_eq] at h; exact h
  · cases h
/-! 25: image_text -/
noncomputable def CC25 : Ctx := { P := Try.prog, own := [2, 4, 7, 9], fns := [(55, specF enc55 (sem55 f55))], nt := 65, nums := [], live := [(10, ⟨[0, 2, 4, 5, 7, 11, 12, 13, 27, 28, 29], [2, 4, 7], [0, 2, 3, 4, 5, 11, 12, 13], [2, 4]⟩), (4, ⟨[0, 2, 4, 5, 11, 12, 13], [2, 4], [2, 3, 4, 5], [2, 4]⟩)] }
theorem good25 : Callees Try.prog CC25.fns [] CC25.nums := (Callees.nil Try.prog).cons ok55 (specF_nat _ _)
theorem hN25 : CtxNat CC25 := good25.ctx rfl rfl rfl
def enc25 (r : Int × Int × Int × Int × SO × Bool) : List TV := [.agg [Cell.int .i64 (r.1), Cell.int .i64 (r.2.1), Cell.int .u64 (r.2.2.1), Cell.int .u64 (r.2.2.2.1), Cell.slice (r.2.2.2.2.1)], .c (Cell.bool (r.2.2.2.2.2))]
def dec25 : AV → Option (Int × Int × Int × Int × SO × Bool)
  | .tup [.agg [Cell.int .i64 q0, Cell.int .i64 q1, Cell.int .u64 q2, Cell.int .u64 q3, Cell.slice q4], .c (Cell.bool q5)] => some (q0, q1, q2, q3, q4, q5)
  | _ => none
theorem de25 (v : AV) (r : Int × Int × Int × Int × SO × Bool) (h : dec25 v = some r) : v = oneOf (enc25 r) := by
  unfold dec25 at h
  split at h
  · cases h; rfl
  · cases h
abbrev Ty25 := SO → Heap → Option ((Int × Int × Int × Int × SO × Bool) × Heap)
def sem25 (f : Ty25) : List TV → Heap → Option ((Int × Int × Int × Int × SO × Bool) × Heap)
  | [.c (Cell.slice loads)], H => f loads H
  | _, _ => none
noncomputable def F025 : Ty25 := fun loads H => fnA CC25 Try.f25.results.toList (bodyOf Try.f25) _ [.c (Cell.slice loads)] H (decF dec25)
noncomputable def f25 : Ty25 := hide F025
theorem f25_eq : f25 = F025 := hide_eq _
noncomputable def P25_4 : Code := (Code.l (Code.l (Code.r (Code.l (Code.r (Code.r (Code.r (bodyOf Try.f25))))))))
noncomputable def P25_10 : Code := (Code.l (Code.l (Code.r (Code.r (Code.r (Code.l (Code.l (Code.r (Code.r (Code.l (Code.l (Code.r (Code.l (Code.r (Code.r (Code.r (bodyOf Try.f25)))))))))))))))))
def S25_4 (t0 : SO) (t5 : Int) (t11 : SO) (t12 t13 b2_0 b2_1 b2_2 b2_3 : Int) (b2_4 : SO) (b4_0 b4_1 b4_2 b4_3 : Int) (b4_4 : SO) (H : Heap) : St := ⟨[(0, .c (Cell.slice t0)), (2, .lp 2 0), (4, .lp 4 0), (5, .c (Cell.int .i64 t5)), (11, .c (Cell.slice t11)), (12, .c (Cell.int .i64 t12)), (13, .c (Cell.int .i64 t13))], [(2, [Cell.int .i64 b2_0, Cell.int .i64 b2_1, Cell.int .u64 b2_2, Cell.int .u64 b2_3, Cell.slice b2_4]), (4, [Cell.int .i64 b4_0, Cell.int .i64 b4_1, Cell.int .u64 b4_2, Cell.int .u64 b4_3, Cell.slice b4_4])], H⟩
noncomputable def D25_4 (n : Nat) (t0 : SO) (t5 : Int) (t11 : SO) (t12 t13 b2_0 b2_1 b2_2 b2_3 : Int) (b2_4 : SO) (b4_0 b4_1 b4_2 b4_3 : Int) (b4_4 : SO) (H : Heap) : Option (AExit × St) := loopN (exec CC25 P25_4) (keepOf CC25.live P25_4) n (S25_4 t0 t5 t11 t12 t13 b2_0 b2_1 b2_2 b2_3 b2_4 b4_0 b4_1 b4_2 b4_3 b4_4 H) retD
noncomputable def LL25_4 (t0 : SO) (t5 : Int) (t11 : SO) (t12 t13 b2_0 b2_1 b2_2 b2_3 : Int) (b2_4 : SO) (b4_0 b4_1 b4_2 b4_3 : Int) (b4_4 : SO) (H : Heap) : Option (AExit × St) := loopsD CC25 P25_4 (S25_4 t0 t5 t11 t12 t13 b2_0 b2_1 b2_2 b2_3 b2_4 b4_0 b4_1 b4_2 b4_3 b4_4 H)
theorem LL25_4_of (m : Nat) (hm : m < 18446744073709551616) (t0 : SO) (t5 : Int) (t11 : SO) (t12 t13 b2_0 b2_1 b2_2 b2_3 : Int) (b2_4 : SO) (b4_0 b4_1 b4_2 b4_3 : Int) (b4_4 : SO) (H : Heap) : ∃ n, LL25_4 t0 t5 t11 t12 t13 b2_0 b2_1 b2_2 b2_3 b2_4 b4_0 b4_1 b4_2 b4_3 b4_4 H = D25_4 (n + m + 1) t0 t5 t11 t12 t13 b2_0 b2_1 b2_2 b2_3 b2_4 b4_0 b4_1 b4_2 b4_3 b4_4 H := loopsD_of _ _ _ m hm
def S25_10 (t0 : SO) (t5 : Int) (t11 : SO) (t12 t13 : Int) (t27 : SO) (t28 t29 b2_0 b2_1 b2_2 b2_3 : Int) (b2_4 : SO) (b4_0 b4_1 b4_2 b4_3 : Int) (b4_4 : SO) (b7_0 b7_1 b7_2 b7_3 : Int) (b7_4 : SO) (H : Heap) : St := ⟨[(0, .c (Cell.slice t0)), (2, .lp 2 0), (4, .lp 4 0), (5, .c (Cell.int .i64 t5)), (7, .lp 7 0), (11, .c (Cell.slice t11)), (12, .c (Cell.int .i64 t12)), (13, .c (Cell.int .i64 t13)), (27, .c (Cell.slice t27)), (28, .c (Cell.int .i64 t28)), (29, .c (Cell.int .i64 t29))], [(2, [Cell.int .i64 b2_0, Cell.int .i64 b2_1, Cell.int .u64 b2_2, Cell.int .u64 b2_3, Cell.slice b2_4]), (4, [Cell.int .i64 b4_0, Cell.int .i64 b4_1, Cell.int .u64 b4_2, Cell.int .u64 b4_3, Cell.slice b4_4]), (7, [Cell.int .i64 b7_0, Cell.int .i64 b7_1, Cell.int .u64 b7_2, Cell.int .u64 b7_3, Cell.slice b7_4])], H⟩
noncomputable def D25_10 (n : Nat) (t0 : SO) (t5 : Int) (t11 : SO) (t12 t13 : Int) (t27 : SO) (t28 t29 b2_0 b2_1 b2_2 b2_3 : Int) (b2_4 : SO) (b4_0 b4_1 b4_2 b4_3 : Int) (b4_4 : SO) (b7_0 b7_1 b7_2 b7_3 : Int) (b7_4 : SO) (H : Heap) : Option (AExit × St) := loopN (exec CC25 P25_10) (keepOf CC25.live P25_10) n (S25_10 t0 t5 t11 t12 t13 t27 t28 t29 b2_0 b2_1 b2_2 b2_3 b2_4 b4_0 b4_1 b4_2 b4_3 b4_4 b7_0 b7_1 b7_2 b7_3 b7_4 H) retD
noncomputable def LL25_10 (t0 : SO) (t5 : Int) (t11 : SO) (t12 t13 : Int) (t27 : SO) (t28 t29 b2_0 b2_1 b2_2 b2_3 : Int) (b2_4 : SO) (b4_0 b4_1 b4_2 b4_3 : Int) (b4_4 : SO) (b7_0 b7_1 b7_2 b7_3 : Int) (b7_4 : SO) (H : Heap) : Option (AExit × St) := loopsD CC25 P25_10 (S25_10 t0 t5 t11 t12 t13 t27 t28 t29 b2_0 b2_1 b2_2 b2_3 b2_4 b4_0 b4_1 b4_2 b4_3 b4_4 b7_0 b7_1 b7_2 b7_3 b7_4 H)
theorem LL25_10_of (m : Nat) (hm : m < 18446744073709551616) (t0 : SO) (t5 : Int) (t11 : SO) (t12 t13 : Int) (t27 : SO) (t28 t29 b2_0 b2_1 b2_2 b2_3 : Int) (b2_4 : SO) (b4_0 b4_1 b4_2 b4_3 : Int) (b4_4 : SO) (b7_0 b7_1 b7_2 b7_3 : Int) (b7_4 : SO) (H : Heap) : ∃ n, LL25_10 t0 t5 t11 t12 t13 t27 t28 t29 b2_0 b2_1 b2_2 b2_3 b2_4 b4_0 b4_1 b4_2 b4_3 b4_4 b7_0 b7_1 b7_2 b7_3 b7_4 H = D25_10 (n + m + 1) t0 t5 t11 t12 t13 t27 t28 t29 b2_0 b2_1 b2_2 b2_3 b2_4 b4_0 b4_1 b4_2 b4_3 b4_4 b7_0 b7_1 b7_2 b7_3 b7_4 H := loopsD_of _ _ _ m hm
def X25_10 (x0 : SO) (x1 : Bool) (x2 : Int) (x3 : SO) (x4 : Int) (x5 : Int) (x6 : Int) (x7 : Int) (x8 : Int) (x9 : Int) (x10 : SO) (x11 : Int) (x12 : Int) (x13 : Int) (x14 : Int) (x15 : SO) (H : Heap) : St := { env := [(0, AV.c (Cell.slice x0)), (2, AV.lp 2 0), (3, AV.c (Cell.bool x1)), (4, AV.lp 4 0), (5, AV.c (Cell.int .i64 x2)), (11, AV.c (Cell.slice x3)), (12, AV.c (Cell.int .i64 x4)), (13, AV.c (Cell.int .i64 x5))], loc := [(2, [Cell.int .i64 x6, Cell.int .i64 x7, Cell.int .u64 x8, Cell.int .u64 x9, Cell.slice x10]), (4, [Cell.int .i64 x11, Cell.int .i64 x12, Cell.int .u64 x13, Cell.int .u64 x14, Cell.slice x15])], heap := H }
def X25_10a (x0 : SO) (x1 : Int) (x2 : SO) (x3 : Int) (x4 : Int) (x5 : Int) (x6 : Int) (x7 : Int) (x8 : Int) (x9 : SO) (x10 : Int) (x11 : Int) (x12 : Int) (x13 : Int) (x14 : SO) (H : Heap) : St := { env := [(0, AV.c (Cell.slice x0)), (2, AV.lp 2 0), (4, AV.lp 4 0), (5, AV.c (Cell.int .i64 x1)), (11, AV.c (Cell.slice x2)), (12, AV.c (Cell.int .i64 x3)), (13, AV.c (Cell.int .i64 x4))], loc := [(2, [Cell.int .i64 x5, Cell.int .i64 x6, Cell.int .u64 x7, Cell.int .u64 x8, Cell.slice x9]), (4, [Cell.int .i64 x10, Cell.int .i64 x11, Cell.int .u64 x12, Cell.int .u64 x13, Cell.slice x14])], heap := H }
def X25_4 (x0 : Int) (x1 : Int) (x2 : Int) (x3 : Int) (x4 : Int) (x5 : SO) (x6 : Int) (x7 : Int) (x8 : Int) (x9 : Int) (x10 : SO) (H : Heap) : St := { env := [(2, AV.lp 2 0), (4, AV.lp 4 0), (5, AV.c (Cell.int .i64 x0))], loc := [(2, [Cell.int .i64 x1, Cell.int .i64 x2, Cell.int .u64 x3, Cell.int .u64 x4, Cell.slice x5]), (4, [Cell.int .i64 x6, Cell.int .i64 x7, Cell.int .u64 x8, Cell.int .u64 x9, Cell.slice x10])], heap := H }
def X25_4a (x0 : Bool) (x1 : Int) (x2 : Int) (x3 : Int) (x4 : Int) (x5 : Int) (x6 : SO) (x7 : Int) (x8 : Int) (x9 : Int) (x10 : Int) (x11 : SO) (H : Heap) : St := { env := [(2, AV.lp 2 0), (3, AV.c (Cell.bool x0)), (4, AV.lp 4 0), (5, AV.c (Cell.int .i64 x1))], loc := [(2, [Cell.int .i64 x2, Cell.int .i64 x3, Cell.int .u64 x4, Cell.int .u64 x5, Cell.slice x6]), (4, [Cell.int .i64 x7, Cell.int .i64 x8, Cell.int .u64 x9, Cell.int .u64 x10, Cell.slice x11])], heap := H }
noncomputable def J25_10 : Nat → AExit × St → Option (AExit × St) := fun n p => blockK 2 (blockK 1 (seqK (execL CC25 (lpD CC25) (Code.r (Code.r (Code.r P25_4)))) (loopK (some { t1 := [0, 2, 4, 5, 11, 12, 13], l1 := [2, 4], t2 := [2, 3, 4, 5], l2 := [2, 4] }) (loopN (exec CC25 P25_4) (keepOf CC25.live P25_4) n) retD))) p.1 p.2
noncomputable def J25_4 : AExit × St → Option ((Int × Int × Int × Int × Option Sl × Bool) × Heap) := fun p => blockK 0 (seqK (execL CC25 (lpD CC25) (Code.r (Code.r (Code.r (Code.r (bodyOf Try.f25)))))) (retA CC25 [ResultVar.cell 2 31, ResultVar.tmp 3] (decF dec25))) p.1 p.2
theorem D25_10_s : ∀ (n : Nat) (t0 : SO) (t5 : Int) (t11 : SO) (t12 t13 : Int) (t27 : SO) (t28 t29 b2_0 b2_1 b2_2 b2_3 : Int) (b2_4 : SO) (b4_0 b4_1 b4_2 b4_3 : Int) (b4_4 : SO) (b7_0 b7_1 b7_2 b7_3 : Int) (b7_4 : SO) (H : Heap), D25_10 (n + 1) t0 t5 t11 t12 t13 t27 t28 t29 b2_0 b2_1 b2_2 b2_3 b2_4 b4_0 b4_1 b4_2 b4_3 b4_4 b7_0 b7_1 b7_2 b7_3 b7_4 H = bif decide (t29 < t28) then t27.bind fun v11 => bif inb t29 v11.len && v11.esz == 5 then (H.get v11.id (v11.off + t29.toNat * 5)).bind fun v10 => (H.get v11.id (v11.off + t29.toNat * 5 + 1)).bind fun v9 => (H.get v11.id (v11.off + t29.toNat * 5 + 1 + 1)).bind fun v8 => (H.get v11.id (v11.off + t29.toNat * 5 + 1 + 1 + 1)).bind fun v7 => (H.get v11.id (v11.off + t29.toNat * 5 + 1 + 1 + 1 + 1)).bind fun v6 => (Cell.toInt .i64 v10).bind fun v5 => (Cell.toInt .i64 v9).bind fun v4 => (Cell.toInt .u64 v8).bind fun v3 => (Cell.toInt .u64 v7).bind fun v2 => v6.toSlice.bind fun v1 => (f55 b7_0 b7_1 b7_2 b7_3 b7_4 v5 v4 v3 v2 v1 H).bind fun v0 => bif v0.1 then some (AExit.ret, X25_10 t0 false t5 t11 t12 t13 b4_0 b4_1 b4_2 b4_3 b4_4 b4_0 b4_1 b4_2 b4_3 b4_4 v0.2) else D25_10 n t0 t5 t11 t12 t13 t27 t28 (IntKind.i64.wrap (t29 + 1)) b2_0 b2_1 b2_2 b2_3 b2_4 b4_0 b4_1 b4_2 b4_3 b4_4 b7_0 b7_1 b7_2 b7_3 b7_4 v0.2 else none else some (AExit.exit 2, X25_10a t0 t5 t11 t12 t13 b2_0 b2_1 b2_2 b2_3 b2_4 b4_0 b4_1 b4_2 b4_3 b4_4 H) := by intros; exact (loopN_stepD hN25 _ _ _ _).trans (by kernel_rfl)
theorem D25_4_s : ∀ (n : Nat) (t0 : SO) (t5 : Int) (t11 : SO) (t12 t13 b2_0 b2_1 b2_2 b2_3 : Int) (b2_4 : SO) (b4_0 b4_1 b4_2 b4_3 : Int) (b4_4 : SO) (H : Heap), D25_4 (n + 1) t0 t5 t11 t12 t13 b2_0 b2_1 b2_2 b2_3 b2_4 b4_0 b4_1 b4_2 b4_3 b4_4 H = bif decide (t13 < t12) then t11.bind fun v24 => bif inb t13 v24.len && v24.esz == 5 then (H.get v24.id (v24.off + t13.toNat * 5)).bind fun v23 => (H.get v24.id (v24.off + t13.toNat * 5 + 1)).bind fun v22 => (H.get v24.id (v24.off + t13.toNat * 5 + 1 + 1)).bind fun v21 => (H.get v24.id (v24.off + t13.toNat * 5 + 1 + 1 + 1)).bind fun v20 => (H.get v24.id (v24.off + t13.toNat * 5 + 1 + 1 + 1 + 1)).bind fun v19 => (Cell.toInt .i64 v23).bind fun v18 => (Cell.toInt .i64 v22).bind fun v17 => (Cell.toInt .u64 v21).bind fun v16 => (Cell.toInt .u64 v20).bind fun v15 => v19.toSlice.bind fun v14 => bif band IntKind.i64 v17 1 != 0 then (Sl.sub t0 0 (some t13)).bind fun v12 => bif esOk t0 5 then (LL25_10 t0 (IntKind.i64.wrap (t5 + 1)) t11 t12 t13 v12 (slen v12) 0 b2_0 b2_1 b2_2 b2_3 b2_4 v18 v17 v16 v15 v14 v18 v17 v16 v15 v14 H).bind (J25_10 n) else none else (Sl.sub t0 0 (some t13)).bind fun v13 => bif esOk t0 5 then (LL25_10 t0 t5 t11 t12 t13 v13 (slen v13) 0 b2_0 b2_1 b2_2 b2_3 b2_4 b4_0 b4_1 b4_2 b4_3 b4_4 v18 v17 v16 v15 v14 H).bind (J25_10 n) else none else none else some (AExit.exit 0, X25_4 t5 b2_0 b2_1 b2_2 b2_3 b2_4 b4_0 b4_1 b4_2 b4_3 b4_4 H) := by intros; exact (loopN_stepD hN25 _ _ _ _).trans (by kernel_rfl)
theorem J25_10_0 : ∀ (n : Nat) (x0 : SO) (x1 : Bool) (x2 : Int) (x3 : SO) (x4 x5 x6 x7 x8 x9 : Int) (x10 : SO) (x11 x12 x13 x14 : Int) (x15 : SO) (H : Heap), J25_10 n (AExit.ret, X25_10 x0 x1 x2 x3 x4 x5 x6 x7 x8 x9 x10 x11 x12 x13 x14 x15 H) = some (AExit.ret, X25_4a x1 x2 x6 x7 x8 x9 x10 x11 x12 x13 x14 x15 H) := by intros; kernel_rfl
theorem J25_10_1 : ∀ (n : Nat) (x0 : SO) (x1 : Int) (x2 : SO) (x3 x4 x5 x6 x7 x8 : Int) (x9 : SO) (x10 x11 x12 x13 : Int) (x14 : SO) (H : Heap), J25_10 n (AExit.exit 2, X25_10a x0 x1 x2 x3 x4 x5 x6 x7 x8 x9 x10 x11 x12 x13 x14 H) = D25_4 n x0 x1 x2 x3 (IntKind.i64.wrap (x4 + 1)) x5 x6 x7 x8 x9 x10 x11 x12 x13 x14 H := by intros; kernel_rfl
theorem q25 : ∀ (loads : SO) (H : Heap), f25 loads H = (LL25_4 loads 0 loads (slen loads) 0 0 0 0 0 none 0 0 0 0 none H).bind J25_4 := by intros; rw [f25_eq]; exact (fnA_lpD hN25 ..).trans (by kernel_rfl)
theorem J25_4_0 : ∀ (x0 x1 x2 x3 x4 : Int) (x5 : SO) (x6 x7 x8 x9 : Int) (x10 : SO) (H : Heap), J25_4 (AExit.exit 0, X25_4 x0 x1 x2 x3 x4 x5 x6 x7 x8 x9 x10 H) = bif x0 == 1 then bif x7 == 5 then bif x9 == IntKind.u64.wrap (slen x10) then bif decide (IntKind.u64.wrap (slen x10) > 0) then some ((x6, x7, x8, x9, x10, decide (IntKind.u64.wrap (slen x10) ≤ 4096)), H) else some ((x6, x7, x8, x9, x10, false), H) else some ((x6, x7, x8, x9, x10, false), H) else some ((x6, x7, x8, x9, x10, false), H) else some ((x6, x7, x8, x9, x10, false), H) := by intros; kernel_rfl
theorem J25_4_1 : ∀ (x0 : Bool) (x1 x2 x3 x4 x5 : Int) (x6 : SO) (x7 x8 x9 x10 : Int) (x11 : SO) (H : Heap), J25_4 (AExit.ret, X25_4a x0 x1 x2 x3 x4 x5 x6 x7 x8 x9 x10 x11 H) = some ((x2, x3, x4, x5, x6, x0), H) := by intros; kernel_rfl
theorem ok25 : FnOk Try.prog 25 (specF enc25 (sem25 f25)) := by
  refine spec_ok (C := CC25) good25 rfl rfl rfl (by kernel_rfl) Try.func25 (c := bodyOf Try.f25) (by kernel_rfl) (by kernel_rfl) (Nat.le_of_eq Try.ntmps25.symm) dec25 enc25 de25 _ ?_
  intro args H q h
  unfold sem25 at h
  split at h
  · rw [f25_eq] at h; exact h
  · cases h
/-! 71: image_guarded -/
noncomputable def CC71 : Ctx := { P := Try.prog, own := [1, 2], fns := [(52, specF enc52 (sem52 f52))], nt := 17, nums := [], live := [] }
theorem good71 : Callees Try.prog CC71.fns [] CC71.nums := (Callees.nil Try.prog).cons ok52 (specF_nat _ _)
theorem hN71 : CtxNat CC71 := good71.ctx rfl rfl rfl
def enc71 (r : Int × Int × Int × Int × SO) : List TV := [.agg [Cell.int .i64 (r.1), Cell.int .i64 (r.2.1), Cell.int .u64 (r.2.2.1), Cell.int .u64 (r.2.2.2.1), Cell.slice (r.2.2.2.2)]]
def dec71 : AV → Option (Int × Int × Int × Int × SO)
  | .agg [Cell.int .i64 q0, Cell.int .i64 q1, Cell.int .u64 q2, Cell.int .u64 q3, Cell.slice q4] => some (q0, q1, q2, q3, q4)
  | _ => none
theorem de71 (v : AV) (r : Int × Int × Int × Int × SO) (h : dec71 v = some r) : v = oneOf (enc71 r) := by
  unfold dec71 at h
  split at h
  · cases h; rfl
  · cases h
abbrev Ty71 := Int → Int → Int → Int → SO → Heap → Option ((Int × Int × Int × Int × SO) × Heap)
def sem71 (f : Ty71) : List TV → Heap → Option ((Int × Int × Int × Int × SO) × Heap)
  | [.agg [Cell.int .i64 s0, Cell.int .i64 s1, Cell.int .u64 s2, Cell.int .u64 s3, Cell.slice s4]], H => f s0 s1 s2 s3 s4 H
  | _, _ => none
noncomputable def F071 : Ty71 := fun s0 s1 s2 s3 s4 H => fnA CC71 Try.f71.results.toList (bodyOf Try.f71) _ [.agg [Cell.int .i64 s0, Cell.int .i64 s1, Cell.int .u64 s2, Cell.int .u64 s3, Cell.slice s4]] H (decF dec71)
noncomputable def f71 : Ty71 := hide F071
theorem f71_eq : f71 = F071 := hide_eq _
theorem q71 : ∀ (s0 s1 s2 s3 : Int) (s4 : SO) (H : Heap), f71 s0 s1 s2 s3 s4 H = bif decide (s2 > 4096) then (f52 s0 s1 s2 s3 s4 H).bind fun v0 => some ((0, 0, IntKind.u64.wrap (s2 - 4096), IntKind.u64.wrap (IntKind.u64.wrap (v0.1 + 4096) - IntKind.u64.wrap (s2 - 4096)), none), v0.2) else (f52 s0 s1 s2 s3 s4 H).bind fun v1 => some ((0, 0, 0, IntKind.u64.wrap (IntKind.u64.wrap (v1.1 + 4096) - 0), none), v1.2) := by intros; rw [f71_eq]; exact (fnA_lpD hN71 ..).trans (by kernel_rfl)
theorem ok71 : FnOk Try.prog 71 (specF enc71 (sem71 f71)) := by
  refine spec_ok (C := CC71) good71 rfl rfl rfl (by kernel_rfl) Try.func71 (c := bodyOf Try.f71) (by kernel_rfl) (by kernel_rfl) (Nat.le_of_eq Try.ntmps71.symm) dec71 enc71 de71 _ ?_
  intro args H q h
  unfold sem71 at h
  split at h
  · rw [f71_eq] at h; exact h
  · cases h
/-! 56: image_alone -/
noncomputable def CC56 : Ctx := { P := Try.prog, own := [2, 5, 7], fns := [(55, specF enc55 (sem55 f55)), (71, specF enc71 (sem71 f71))], nt := 46, nums := [], live := [(5, ⟨[1, 5, 29, 30, 31], [5], [4], []⟩)] }
theorem good56 : Callees Try.prog CC56.fns [] CC56.nums := ((Callees.nil Try.prog).cons ok71 (specF_nat _ _)).cons ok55 (specF_nat _ _)
theorem hN56 : CtxNat CC56 := good56.ctx rfl rfl rfl
def enc56 (r : Bool) : List TV := [.c (Cell.bool (r))]
def dec56 : AV → Option (Bool)
  | .c (Cell.bool q0) => some (q0)
  | _ => none
theorem de56 (v : AV) (r : Bool) (h : dec56 v = some r) : v = oneOf (enc56 r) := by
  unfold dec56 at h
  split at h
  · cases h; rfl
  · cases h
abbrev Ty56 := Int → Int → SO → SO → SO → Int → Heap → Option (Bool × Heap)
def sem56 (f : Ty56) : List TV → Heap → Option (Bool × Heap)
  | [.agg [Cell.int .i64 x00, Cell.int .u64 x01, Cell.slice x02, Cell.slice x03, Cell.slice x04], .c (Cell.int .i64 i)], H => f x00 x01 x02 x03 x04 i H
  | _, _ => none
noncomputable def F056 : Ty56 := fun x00 x01 x02 x03 x04 i H => fnA CC56 Try.f56.results.toList (bodyOf Try.f56) _ [.agg [Cell.int .i64 x00, Cell.int .u64 x01, Cell.slice x02, Cell.slice x03, Cell.slice x04], .c (Cell.int .i64 i)] H (decF dec56)
noncomputable def f56 : Ty56 := hide F056
theorem f56_eq : f56 = F056 := hide_eq _
noncomputable def P56_5 : Code := (Code.l (Code.l (Code.r (Code.l (Code.r (Code.r (Code.r (bodyOf Try.f56))))))))
def S56_5 (t1 : Int) (t29 : SO) (t30 t31 b5_0 b5_1 b5_2 b5_3 : Int) (b5_4 : SO) (H : Heap) : St := ⟨[(1, .c (Cell.int .i64 t1)), (5, .lp 5 0), (29, .c (Cell.slice t29)), (30, .c (Cell.int .i64 t30)), (31, .c (Cell.int .i64 t31))], [(5, [Cell.int .i64 b5_0, Cell.int .i64 b5_1, Cell.int .u64 b5_2, Cell.int .u64 b5_3, Cell.slice b5_4])], H⟩
noncomputable def D56_5 (n : Nat) (t1 : Int) (t29 : SO) (t30 t31 b5_0 b5_1 b5_2 b5_3 : Int) (b5_4 : SO) (H : Heap) : Option (AExit × St) := loopN (exec CC56 P56_5) (keepOf CC56.live P56_5) n (S56_5 t1 t29 t30 t31 b5_0 b5_1 b5_2 b5_3 b5_4 H) retD
noncomputable def LL56_5 (t1 : Int) (t29 : SO) (t30 t31 b5_0 b5_1 b5_2 b5_3 : Int) (b5_4 : SO) (H : Heap) : Option (AExit × St) := loopsD CC56 P56_5 (S56_5 t1 t29 t30 t31 b5_0 b5_1 b5_2 b5_3 b5_4 H)
theorem LL56_5_of (m : Nat) (hm : m < 18446744073709551616) (t1 : Int) (t29 : SO) (t30 t31 b5_0 b5_1 b5_2 b5_3 : Int) (b5_4 : SO) (H : Heap) : ∃ n, LL56_5 t1 t29 t30 t31 b5_0 b5_1 b5_2 b5_3 b5_4 H = D56_5 (n + m + 1) t1 t29 t30 t31 b5_0 b5_1 b5_2 b5_3 b5_4 H := loopsD_of _ _ _ m hm
def X56_5 (x0 : Bool) (H : Heap) : St := { env := [(4, AV.c (Cell.bool x0))], loc := [], heap := H }
def X56_5a (H : Heap) : St := { env := [], loc := [], heap := H }
noncomputable def J56_5 : AExit × St → Option (Bool × Heap) := fun p => blockK 0 (seqK (execL CC56 (lpD CC56) (Code.r (Code.r (Code.r (Code.r (bodyOf Try.f56)))))) (retA CC56 [ResultVar.tmp 4] (decF dec56))) p.1 p.2
theorem D56_5_s : ∀ (n : Nat) (t1 : Int) (t29 : SO) (t30 t31 b5_0 b5_1 b5_2 b5_3 : Int) (b5_4 : SO) (H : Heap), D56_5 (n + 1) t1 t29 t30 t31 b5_0 b5_1 b5_2 b5_3 b5_4 H = bif decide (t31 < t30) then t29.bind fun v12 => bif inb t31 v12.len && v12.esz == 5 then (H.get v12.id (v12.off + t31.toNat * 5)).bind fun v11 => (H.get v12.id (v12.off + t31.toNat * 5 + 1)).bind fun v10 => (H.get v12.id (v12.off + t31.toNat * 5 + 1 + 1)).bind fun v9 => (H.get v12.id (v12.off + t31.toNat * 5 + 1 + 1 + 1)).bind fun v8 => (H.get v12.id (v12.off + t31.toNat * 5 + 1 + 1 + 1 + 1)).bind fun v7 => (Cell.toInt .i64 v11).bind fun v6 => (Cell.toInt .i64 v10).bind fun v5 => (Cell.toInt .u64 v9).bind fun v4 => (Cell.toInt .u64 v8).bind fun v3 => v7.toSlice.bind fun v2 => bif t31 != t1 then (f71 b5_0 b5_1 b5_2 b5_3 b5_4 H).bind fun v1 => (f55 v1.1.1 v1.1.2.1 v1.1.2.2.1 v1.1.2.2.2.1 v1.1.2.2.2.2 v6 v5 v4 v3 v2 v1.2).bind fun v0 => bif v0.1 then some (AExit.ret, X56_5 false v0.2) else D56_5 n t1 t29 t30 (IntKind.i64.wrap (t31 + 1)) b5_0 b5_1 b5_2 b5_3 b5_4 v0.2 else D56_5 n t1 t29 t30 (IntKind.i64.wrap (t31 + 1)) b5_0 b5_1 b5_2 b5_3 b5_4 H else none else some (AExit.exit 0, X56_5a H) := by intros; exact (loopN_stepD hN56 _ _ _ _).trans (by kernel_rfl)
theorem q56 : ∀ (x00 x01 : Int) (x02 x03 x04 : SO) (i : Int) (H : Heap), f56 x00 x01 x02 x03 x04 i H = x02.bind fun v23 => bif inb i v23.len && v23.esz == 5 then (H.get v23.id (v23.off + i.toNat * 5)).bind fun v22 => (H.get v23.id (v23.off + i.toNat * 5 + 1)).bind fun v21 => (H.get v23.id (v23.off + i.toNat * 5 + 1 + 1)).bind fun v20 => (H.get v23.id (v23.off + i.toNat * 5 + 1 + 1 + 1)).bind fun v19 => (H.get v23.id (v23.off + i.toNat * 5 + 1 + 1 + 1 + 1)).bind fun v18 => (Cell.toInt .i64 v22).bind fun v17 => (Cell.toInt .i64 v21).bind fun v16 => (Cell.toInt .u64 v20).bind fun v15 => (Cell.toInt .u64 v19).bind fun v14 => v18.toSlice.bind fun v13 => bif v15.tmod 16 != 0 then some (false, H) else bif v14.tmod 16 != 0 then some (false, H) else bif decide (v14 < 64) then some (false, H) else (LL56_5 i x02 (slen x02) 0 v17 v16 v15 v14 v13 H).bind J56_5 else none := by intros; rw [f56_eq]; exact (fnA_lpD hN56 ..).trans (by kernel_rfl)
theorem J56_5_0 : ∀ (x0 : Bool) (H : Heap), J56_5 (AExit.ret, X56_5 x0 H) = some (x0, H) := by intros; kernel_rfl
theorem J56_5_1 : ∀ (H : Heap), J56_5 (AExit.exit 0, X56_5a H) = some (true, H) := by intros; kernel_rfl
theorem ok56 : FnOk Try.prog 56 (specF enc56 (sem56 f56)) := by
  refine spec_ok (C := CC56) good56 rfl rfl rfl (by kernel_rfl) Try.func56 (c := bodyOf Try.f56) (by kernel_rfl) (by kernel_rfl) (Nat.le_of_eq Try.ntmps56.symm) dec56 enc56 de56 _ ?_
  intro args H q h
  unfold sem56 at h
  split at h
  · rw [f56_eq] at h; exact h
  · cases h
/-! 26: image_stacks -/
noncomputable def CC26 : Ctx := { P := Try.prog, own := [1, 6], fns := [(56, specF enc56 (sem56 f56))], nt := 36, nums := [], live := [(3, ⟨[1, 4, 8, 9, 10], [1], [2, 3, 4], []⟩)] }
theorem good26 : Callees Try.prog CC26.fns [] CC26.nums := (Callees.nil Try.prog).cons ok56 (specF_nat _ _)
theorem hN26 : CtxNat CC26 := good26.ctx rfl rfl rfl
def enc26 (r : SO × Bool) : List TV := [.c (Cell.slice (r.1)), .c (Cell.bool (r.2))]
def dec26 : AV → Option (SO × Bool)
  | .tup [.c (Cell.slice q0), .c (Cell.bool q1)] => some (q0, q1)
  | _ => none
theorem de26 (v : AV) (r : SO × Bool) (h : dec26 v = some r) : v = oneOf (enc26 r) := by
  unfold dec26 at h
  split at h
  · cases h; rfl
  · cases h
abbrev Ty26 := Int → Int → SO → SO → SO → Heap → Option ((SO × Bool) × Heap)
def sem26 (f : Ty26) : List TV → Heap → Option ((SO × Bool) × Heap)
  | [.agg [Cell.int .i64 x00, Cell.int .u64 x01, Cell.slice x02, Cell.slice x03, Cell.slice x04]], H => f x00 x01 x02 x03 x04 H
  | _, _ => none
noncomputable def F026 : Ty26 := fun x00 x01 x02 x03 x04 H => fnA CC26 Try.f26.results.toList (bodyOf Try.f26) _ [.agg [Cell.int .i64 x00, Cell.int .u64 x01, Cell.slice x02, Cell.slice x03, Cell.slice x04]] H (decF dec26)
noncomputable def f26 : Ty26 := hide F026
theorem f26_eq : f26 = F026 := hide_eq _
noncomputable def P26_3 : Code := (Code.l (Code.l (Code.r (Code.l (Code.r (Code.r (bodyOf Try.f26)))))))
def S26_3 (t4 t8 : SO) (t9 t10 b1_0 b1_1 : Int) (b1_2 b1_3 b1_4 : SO) (H : Heap) : St := ⟨[(1, .lp 1 0), (4, .c (Cell.slice t4)), (8, .c (Cell.slice t8)), (9, .c (Cell.int .i64 t9)), (10, .c (Cell.int .i64 t10))], [(1, [Cell.int .i64 b1_0, Cell.int .u64 b1_1, Cell.slice b1_2, Cell.slice b1_3, Cell.slice b1_4])], H⟩
noncomputable def D26_3 (n : Nat) (t4 t8 : SO) (t9 t10 b1_0 b1_1 : Int) (b1_2 b1_3 b1_4 : SO) (H : Heap) : Option (AExit × St) := loopN (exec CC26 P26_3) (keepOf CC26.live P26_3) n (S26_3 t4 t8 t9 t10 b1_0 b1_1 b1_2 b1_3 b1_4 H) retD
noncomputable def LL26_3 (t4 t8 : SO) (t9 t10 b1_0 b1_1 : Int) (b1_2 b1_3 b1_4 : SO) (H : Heap) : Option (AExit × St) := loopsD CC26 P26_3 (S26_3 t4 t8 t9 t10 b1_0 b1_1 b1_2 b1_3 b1_4 H)
theorem LL26_3_of (m : Nat) (hm : m < 18446744073709551616) (t4 t8 : SO) (t9 t10 b1_0 b1_1 : Int) (b1_2 b1_3 b1_4 : SO) (H : Heap) : ∃ n, LL26_3 t4 t8 t9 t10 b1_0 b1_1 b1_2 b1_3 b1_4 H = D26_3 (n + m + 1) t4 t8 t9 t10 b1_0 b1_1 b1_2 b1_3 b1_4 H := loopsD_of _ _ _ m hm
def X26_3 (x0 : SO) (x1 : Bool) (x2 : SO) (H : Heap) : St := { env := [(2, AV.c (Cell.slice x0)), (3, AV.c (Cell.bool x1)), (4, AV.c (Cell.slice x2))], loc := [], heap := H }
def X26_3a (x0 : SO) (H : Heap) : St := { env := [(4, AV.c (Cell.slice x0))], loc := [], heap := H }
noncomputable def J26_3 : AExit × St → Option ((Option Sl × Bool) × Heap) := fun p => blockK 0 (seqK (execL CC26 (lpD CC26) (Code.r (Code.r (Code.r (bodyOf Try.f26))))) (retA CC26 [ResultVar.tmp 2, ResultVar.tmp 3] (decF dec26))) p.1 p.2
theorem D26_3_s : ∀ (n : Nat) (t4 t8 : SO) (t9 t10 b1_0 b1_1 : Int) (b1_2 b1_3 b1_4 : SO) (H : Heap), D26_3 (n + 1) t4 t8 t9 t10 b1_0 b1_1 b1_2 b1_3 b1_4 H = bif decide (t10 < t9) then t8.bind fun v12 => bif inb t10 v12.len && v12.esz == 5 then (H.get v12.id (v12.off + t10.toNat * 5)).bind fun v11 => (H.get v12.id (v12.off + t10.toNat * 5 + 1)).bind fun v10 => (H.get v12.id (v12.off + t10.toNat * 5 + 1 + 1)).bind fun v9 => (H.get v12.id (v12.off + t10.toNat * 5 + 1 + 1 + 1)).bind fun v8 => (H.get v12.id (v12.off + t10.toNat * 5 + 1 + 1 + 1 + 1)).bind fun v7 => (Cell.toInt .i64 v11).bind fun v6 => (Cell.toInt .i64 v10).bind fun v5 => (Cell.toInt .u64 v9).bind fun v4 => (Cell.toInt .u64 v8).bind fun v3 => v7.toSlice.bind fun v2 => bif v6 != 1610612737 then D26_3 n t4 t8 t9 (IntKind.i64.wrap (t10 + 1)) b1_0 b1_1 b1_2 b1_3 b1_4 H else (f56 b1_0 b1_1 b1_2 b1_3 b1_4 t10 H).bind fun v1 => bif !v1.1 then some (AExit.ret, X26_3 none false t4 v1.2) else ((v1.2 ++ [Blk.row [Cell.int .u64 v4, Cell.int .u64 v3, Cell.bool (band IntKind.i64 v5 1 != 0)] false]).append 3 24 t4 (some { id := List.length v1.2, off := 0, len := 1, cap := 1, esz := 3 })).bind fun v0 => D26_3 n v0.1 t8 t9 (IntKind.i64.wrap (t10 + 1)) b1_0 b1_1 b1_2 b1_3 b1_4 v0.2 else none else some (AExit.exit 0, X26_3a t4 H) := by intros; exact (loopN_stepD hN26 _ _ _ _).trans (by kernel_rfl)
theorem q26 : ∀ (x00 x01 : Int) (x02 x03 x04 : SO) (H : Heap), f26 x00 x01 x02 x03 x04 H = (LL26_3 none x02 (slen x02) 0 x00 x01 x02 x03 x04 H).bind J26_3 := by intros; rw [f26_eq]; exact (fnA_lpD hN26 ..).trans (by kernel_rfl)
theorem J26_3_0 : ∀ (x0 : SO) (x1 : Bool) (x2 : SO) (H : Heap), J26_3 (AExit.ret, X26_3 x0 x1 x2 H) = some ((x0, x1), H) := by intros; kernel_rfl
theorem J26_3_1 : ∀ (x0 : SO) (H : Heap), J26_3 (AExit.exit 0, X26_3a x0 H) = some ((x0, true), H) := by intros; kernel_rfl
theorem ok26 : FnOk Try.prog 26 (specF enc26 (sem26 f26)) := by
  refine spec_ok (C := CC26) good26 rfl rfl rfl (by kernel_rfl) Try.func26 (c := bodyOf Try.f26) (by kernel_rfl) (by kernel_rfl) (Nat.le_of_eq Try.ntmps26.symm) dec26 enc26 de26 _ ?_
  intro args H q h
  unfold sem26 at h
  split at h
  · rw [f26_eq] at h; exact h
  · cases h
/-! 10: elf_Seg_Has -/
noncomputable def CC10 : Ctx := { P := Try.prog, own := [3], fns := [], nt := 31, nums := [], live := [] }
theorem good10 : Callees Try.prog CC10.fns [] CC10.nums := Callees.nil Try.prog
theorem hN10 : CtxNat CC10 := good10.ctx rfl rfl rfl
def enc10 (r : Bool) : List TV := [.c (Cell.bool (r))]
def dec10 : AV → Option (Bool)
  | .c (Cell.bool q0) => some (q0)
  | _ => none
theorem de10 (v : AV) (r : Bool) (h : dec10 v = some r) : v = oneOf (enc10 r) := by
  unfold dec10 at h
  split at h
  · cases h; rfl
  · cases h
abbrev Ty10 := Int → Int → Int → Int → SO → Int → Int → Heap → Option (Bool × Heap)
def sem10 (f : Ty10) : List TV → Heap → Option (Bool × Heap)
  | [.agg [Cell.int .i64 s0, Cell.int .i64 s1, Cell.int .u64 s2, Cell.int .u64 s3, Cell.slice s4], .c (Cell.int .u64 x1), .c (Cell.int .u64 n)], H => f s0 s1 s2 s3 s4 x1 n H
  | _, _ => none
noncomputable def F010 : Ty10 := fun s0 s1 s2 s3 s4 x1 n H => fnA CC10 Try.f10.results.toList (bodyOf Try.f10) _ [.agg [Cell.int .i64 s0, Cell.int .i64 s1, Cell.int .u64 s2, Cell.int .u64 s3, Cell.slice s4], .c (Cell.int .u64 x1), .c (Cell.int .u64 n)] H (decF dec10)
noncomputable def f10 : Ty10 := hide F010
theorem f10_eq : f10 = F010 := hide_eq _
theorem q10 : ∀ (s0 s1 s2 s3 : Int) (s4 : SO) (x1 n : Int) (H : Heap), f10 s0 s1 s2 s3 s4 x1 n H = bif decide (x1 ≥ s2) then bif decide (IntKind.u64.wrap (x1 - s2) ≤ s3) then some (decide (n ≤ IntKind.u64.wrap (s3 - IntKind.u64.wrap (x1 - s2))), H) else some (false, H) else some (false, H) := by intros; rw [f10_eq]; exact (fnA_lpD hN10 ..).trans (by kernel_rfl)
theorem ok10 : FnOk Try.prog 10 (specF enc10 (sem10 f10)) := by
  refine spec_ok (C := CC10) good10 rfl rfl rfl (by kernel_rfl) Try.func10 (c := bodyOf Try.f10) (by kernel_rfl) (by kernel_rfl) (Nat.le_of_eq Try.ntmps10.symm) dec10 enc10 de10 _ ?_
  intro args H q h
  unfold sem10 at h
  split at h
  · rw [f10_eq] at h; exact h
  · cases h
/-! 19: image_Image_Text -/
noncomputable def CC19 : Ctx := { P := Try.prog, own := [2], fns := [(10, specF enc10 (sem10 f10))], nt := 9, nums := [], live := [] }
theorem good19 : Callees Try.prog CC19.fns [] CC19.nums := (Callees.nil Try.prog).cons ok10 (specF_nat _ _)
theorem hN19 : CtxNat CC19 := good19.ctx rfl rfl rfl
def enc19 (r : Bool) : List TV := [.c (Cell.bool (r))]
def dec19 : AV → Option (Bool)
  | .c (Cell.bool q0) => some (q0)
  | _ => none
theorem de19 (v : AV) (r : Bool) (h : dec19 v = some r) : v = oneOf (enc19 r) := by
  unfold dec19 at h
  split at h
  · cases h; rfl
  · cases h
abbrev Ty19 := Int → Int → Int → Int → SO → SO → SO → Int → SO → SO → Int → Heap → Option (Bool × Heap)
def sem19 (f : Ty19) : List TV → Heap → Option (Bool × Heap)
  | [.agg [Cell.int .i64 m0, Cell.int .i64 m1, Cell.int .u64 m2, Cell.int .u64 m3, Cell.slice m4, Cell.slice m5, Cell.slice m6, Cell.int .u64 m7, Cell.slice m8, Cell.slice m9], .c (Cell.int .u64 x1)], H => f m0 m1 m2 m3 m4 m5 m6 m7 m8 m9 x1 H
  | _, _ => none
noncomputable def F019 : Ty19 := fun m0 m1 m2 m3 m4 m5 m6 m7 m8 m9 x1 H => fnA CC19 Try.f19.results.toList (bodyOf Try.f19) _ [.agg [Cell.int .i64 m0, Cell.int .i64 m1, Cell.int .u64 m2, Cell.int .u64 m3, Cell.slice m4, Cell.slice m5, Cell.slice m6, Cell.int .u64 m7, Cell.slice m8, Cell.slice m9], .c (Cell.int .u64 x1)] H (decF dec19)
noncomputable def f19 : Ty19 := hide F019
theorem f19_eq : f19 = F019 := hide_eq _
theorem q19 : ∀ (m0 m1 m2 m3 : Int) (m4 m5 m6 : SO) (m7 : Int) (m8 m9 : SO) (x1 : Int) (H : Heap), f19 m0 m1 m2 m3 m4 m5 m6 m7 m8 m9 x1 H = (f10 m0 m1 m2 m3 m4 x1 1 H).bind fun v0 => some (v0.1, v0.2) := by intros; rw [f19_eq]; exact (fnA_lpD hN19 ..).trans (by kernel_rfl)
theorem ok19 : FnOk Try.prog 19 (specF enc19 (sem19 f19)) := by
  refine spec_ok (C := CC19) good19 rfl rfl rfl (by kernel_rfl) Try.func19 (c := bodyOf Try.f19) (by kernel_rfl) (by kernel_rfl) (Nat.le_of_eq Try.ntmps19.symm) dec19 enc19 de19 _ ?_
  intro args H q h
  unfold sem19 at h
  split at h
  · rw [f19_eq] at h; exact h
  · cases h
/-! 31: cmp_Compare_uint64 -/
noncomputable def CC31 : Ctx := { P := Try.prog, own := [], fns := [(59, F59)], nt := 20, nums := [59], live := [] }
theorem good31 : Callees Try.prog CC31.fns [] CC31.nums := (Callees.nil Try.prog).cons_num ok59 F59_num
theorem hN31 : CtxNat CC31 := good31.ctx rfl rfl rfl
def enc31 (r : Int) : List TV := [.c (Cell.int .i64 (r))]
def dec31 : AV → Option (Int)
  | .c (Cell.int .i64 q0) => some (q0)
  | _ => none
theorem de31 (v : AV) (r : Int) (h : dec31 v = some r) : v = oneOf (enc31 r) := by
  unfold dec31 at h
  split at h
  · cases h; rfl
  · cases h
abbrev Ty31 := Int → Int → Heap → Option (Int × Heap)
def sem31 (f : Ty31) : List TV → Heap → Option (Int × Heap)
  | [.c (Cell.int .u64 x0), .c (Cell.int .u64 y)], H => f x0 y H
  | _, _ => none
noncomputable def F031 : Ty31 := fun x0 y H => fnA CC31 Try.f31.results.toList (bodyOf Try.f31) _ [.c (Cell.int .u64 x0), .c (Cell.int .u64 y)] H (decF dec31)
noncomputable def f31 : Ty31 := hide F031
theorem f31_eq : f31 = F031 := hide_eq _
theorem q31 : ∀ (x0 y : Int) (H : Heap), f31 x0 y H = bif cmp_isNaN_uint64 x0 then bif cmp_isNaN_uint64 y then some (0, H) else some (-1, H) else bif cmp_isNaN_uint64 y then some (1, H) else bif decide (x0 < y) then some (-1, H) else bif decide (x0 > y) then some (1, H) else some (0, H) := by intros; rw [f31_eq]; exact (fnA_lpD hN31 ..).trans (by kernel_rfl)
theorem ok31 : FnOk Try.prog 31 (specF enc31 (sem31 f31)) := by
  refine spec_ok (C := CC31) good31 rfl rfl rfl (by kernel_rfl) Try.func31 (c := bodyOf Try.f31) (by kernel_rfl) (by kernel_rfl) (Nat.le_of_eq Try.ntmps31.symm) dec31 enc31 de31 _ ?_
  intro args H q h
  unfold sem31 at h
  split at h
  · rw [f31_eq] at h; exact h
  · cases h
/-! 30: image_Of_2 -/
noncomputable def CC30 : Ctx := { P := Try.prog, own := [2, 3], fns := [(31, specF enc31 (sem31 f31))], nt := 10, nums := [], live := [] }
theorem good30 : Callees Try.prog CC30.fns [] CC30.nums := (Callees.nil Try.prog).cons ok31 (specF_nat _ _)
theorem hN30 : CtxNat CC30 := good30.ctx rfl rfl rfl
def enc30 (r : Int) : List TV := [.c (Cell.int .i64 (r))]
def dec30 : AV → Option (Int)
  | .c (Cell.int .i64 q0) => some (q0)
  | _ => none
theorem de30 (v : AV) (r : Int) (h : dec30 v = some r) : v = oneOf (enc30 r) := by
  unfold dec30 at h
  split at h
  · cases h; rfl
  · cases h
abbrev Ty30 := Int → Int → Int → Int → SO → Int → Int → Int → Int → SO → Heap → Option (Int × Heap)
def sem30 (f : Ty30) : List TV → Heap → Option (Int × Heap)
  | [.agg [Cell.int .i64 a0, Cell.int .i64 a1, Cell.int .u64 a2, Cell.int .u64 a3, Cell.slice a4], .agg [Cell.int .i64 b0, Cell.int .i64 b1, Cell.int .u64 b2, Cell.int .u64 b3, Cell.slice b4]], H => f a0 a1 a2 a3 a4 b0 b1 b2 b3 b4 H
  | _, _ => none
noncomputable def F030 : Ty30 := fun a0 a1 a2 a3 a4 b0 b1 b2 b3 b4 H => fnA CC30 Try.f30.results.toList (bodyOf Try.f30) _ [.agg [Cell.int .i64 a0, Cell.int .i64 a1, Cell.int .u64 a2, Cell.int .u64 a3, Cell.slice a4], .agg [Cell.int .i64 b0, Cell.int .i64 b1, Cell.int .u64 b2, Cell.int .u64 b3, Cell.slice b4]] H (decF dec30)
noncomputable def f30 : Ty30 := hide F030
theorem f30_eq : f30 = F030 := hide_eq _
theorem q30 : ∀ (a0 a1 a2 a3 : Int) (a4 : SO) (b0 b1 b2 b3 : Int) (b4 : SO) (H : Heap), f30 a0 a1 a2 a3 a4 b0 b1 b2 b3 b4 H = (f31 a2 b2 H).bind fun v0 => some (v0.1, v0.2) := by intros; rw [f30_eq]; exact (fnA_lpD hN30 ..).trans (by kernel_rfl)
theorem ok30 : FnOk Try.prog 30 (specF enc30 (sem30 f30)) := by
  refine spec_ok (C := CC30) good30 rfl rfl rfl (by kernel_rfl) Try.func30 (c := bodyOf Try.f30) (by kernel_rfl) (by kernel_rfl) (Nat.le_of_eq Try.ntmps30.symm) dec30 enc30 de30 _ ?_
  intro args H q h
  unfold sem30 at h
  split at h
  · rw [f30_eq] at h; exact h
  · cases h
/-! 72: slices_insertionSortCmpFunc_elf_Seg -/
noncomputable def CC72 : Ctx := { P := Try.prog, own := [], fns := [(30, specF enc30 (sem30 f30))], nt := 53, nums := [], live := [(4, ⟨[0, 1, 2, 3, 8, 9], [], [0, 1, 2, 3, 8], []⟩), (1, ⟨[0, 1, 2, 3, 8], [], [], []⟩)] }
theorem good72 : Callees Try.prog CC72.fns [] CC72.nums := (Callees.nil Try.prog).cons ok30 (specF_nat _ _)
theorem hN72 : CtxNat CC72 := good72.ctx rfl rfl rfl
def enc72 (r : Unit) : List TV := []
def dec72 : AV → Option (Unit)
  | .tup [] => some ()
  | _ => none
theorem de72 (v : AV) (r : Unit) (h : dec72 v = some r) : v = oneOf (enc72 r) := by
  unfold dec72 at h
  split at h
  · cases h; rfl
  · cases h
abbrev Ty72a := SO → Int → Int → Heap → Option (Unit × Heap)
noncomputable def F072a : Ty72a := fun data a b H => fnA CC72 Try.f72.results.toList (bodyOf Try.f72) _ [.c (Cell.slice data), .c (Cell.int .i64 a), .c (Cell.int .i64 b), .c (Cell.fn 30 [] [])] H (decF dec72)
noncomputable def f72a : Ty72a := hide F072a
theorem f72a_eq : f72a = F072a := hide_eq _
noncomputable def P72a_1 : Code := (Code.l (Code.l (Code.r (bodyOf Try.f72))))
noncomputable def P72a_4 : Code := (Code.l (Code.l (Code.r (Code.l (Code.l (Code.r (Code.l (Code.l (Code.r (bodyOf Try.f72))))))))))
def S72a_1 (t0 : SO) (t1 t2 t8 : Int) (H : Heap) : St := ⟨[(0, .c (Cell.slice t0)), (1, .c (Cell.int .i64 t1)), (2, .c (Cell.int .i64 t2)), (3, .c (Cell.fn 30 [] [])), (8, .c (Cell.int .i64 t8))], [], H⟩
noncomputable def D72a_1 (n : Nat) (t0 : SO) (t1 t2 t8 : Int) (H : Heap) : Option (AExit × St) := loopN (exec CC72 P72a_1) (keepOf CC72.live P72a_1) n (S72a_1 t0 t1 t2 t8 H) retD
noncomputable def LL72a_1 (t0 : SO) (t1 t2 t8 : Int) (H : Heap) : Option (AExit × St) := loopsD CC72 P72a_1 (S72a_1 t0 t1 t2 t8 H)
theorem LL72a_1_of (m : Nat) (hm : m < 18446744073709551616) (t0 : SO) (t1 t2 t8 : Int) (H : Heap) : ∃ n, LL72a_1 t0 t1 t2 t8 H = D72a_1 (n + m + 1) t0 t1 t2 t8 H := loopsD_of _ _ _ m hm
def S72a_4 (t0 : SO) (t1 t2 t8 t9 : Int) (H : Heap) : St := ⟨[(0, .c (Cell.slice t0)), (1, .c (Cell.int .i64 t1)), (2, .c (Cell.int .i64 t2)), (3, .c (Cell.fn 30 [] [])), (8, .c (Cell.int .i64 t8)), (9, .c (Cell.int .i64 t9))], [], H⟩
noncomputable def D72a_4 (n : Nat) (t0 : SO) (t1 t2 t8 t9 : Int) (H : Heap) : Option (AExit × St) := loopN (exec CC72 P72a_4) (keepOf CC72.live P72a_4) n (S72a_4 t0 t1 t2 t8 t9 H) retD
noncomputable def LL72a_4 (t0 : SO) (t1 t2 t8 t9 : Int) (H : Heap) : Option (AExit × St) := loopsD CC72 P72a_4 (S72a_4 t0 t1 t2 t8 t9 H)
theorem LL72a_4_of (m : Nat) (hm : m < 18446744073709551616) (t0 : SO) (t1 t2 t8 t9 : Int) (H : Heap) : ∃ n, LL72a_4 t0 t1 t2 t8 t9 H = D72a_4 (n + m + 1) t0 t1 t2 t8 t9 H := loopsD_of _ _ _ m hm
def X72a_4 (x0 : SO) (x1 : Int) (x2 : Int) (x3 : Int) (H : Heap) : St := { env := [(0, AV.c (Cell.slice x0)), (1, AV.c (Cell.int .i64 x1)), (2, AV.c (Cell.int .i64 x2)), (3, AV.c (Cell.fn 30 [] [])), (8, AV.c (Cell.int .i64 x3))], loc := [], heap := H }
def X72a_1 (H : Heap) : St := { env := [], loc := [], heap := H }
noncomputable def J72a_4 : Nat → AExit × St → Option (AExit × St) := fun n p => blockK 2 (blockK 1 (seqK (execL CC72 (lpD CC72) (Code.r (Code.r P72a_1))) (loopK (some { t1 := [0, 1, 2, 3, 8], l1 := [], t2 := [], l2 := [] }) (loopN (exec CC72 P72a_1) (keepOf CC72.live P72a_1) n) retD))) p.1 p.2
noncomputable def J72a_1 : AExit × St → Option (Unit × Heap) := fun p => blockK 0 (retA CC72 [] (decF dec72)) p.1 p.2
theorem D72a_4_s : ∀ (n : Nat) (t0 : SO) (t1 t2 t8 t9 : Int) (H : Heap), D72a_4 (n + 1) t0 t1 t2 t8 t9 H = bif decide (t9 > t1) then t0.bind fun v48 => bif inb t9 v48.len && v48.esz == 5 then (H.get v48.id (v48.off + t9.toNat * 5)).bind fun v47 => (H.get v48.id (v48.off + t9.toNat * 5 + 1)).bind fun v46 => (H.get v48.id (v48.off + t9.toNat * 5 + 1 + 1)).bind fun v45 => (H.get v48.id (v48.off + t9.toNat * 5 + 1 + 1 + 1)).bind fun v44 => (H.get v48.id (v48.off + t9.toNat * 5 + 1 + 1 + 1 + 1)).bind fun v43 => (Cell.toInt .i64 v47).bind fun v42 => (Cell.toInt .i64 v46).bind fun v41 => (Cell.toInt .u64 v45).bind fun v40 => (Cell.toInt .u64 v44).bind fun v39 => v43.toSlice.bind fun v38 => t0.bind fun v37 => bif inb (IntKind.i64.wrap (t9 - 1)) v37.len && v37.esz == 5 then (H.get v37.id (v37.off + (IntKind.i64.wrap (t9 - 1)).toNat * 5)).bind fun v36 => (H.get v37.id (v37.off + (IntKind.i64.wrap (t9 - 1)).toNat * 5 + 1)).bind fun v35 => (H.get v37.id (v37.off + (IntKind.i64.wrap (t9 - 1)).toNat * 5 + 1 + 1)).bind fun v34 => (H.get v37.id (v37.off + (IntKind.i64.wrap (t9 - 1)).toNat * 5 + 1 + 1 + 1)).bind fun v33 => (H.get v37.id (v37.off + (IntKind.i64.wrap (t9 - 1)).toNat * 5 + 1 + 1 + 1 + 1)).bind fun v32 => (Cell.toInt .i64 v36).bind fun v31 => (Cell.toInt .i64 v35).bind fun v30 => (Cell.toInt .u64 v34).bind fun v29 => (Cell.toInt .u64 v33).bind fun v28 => v32.toSlice.bind fun v27 => (f30 v42 v41 v40 v39 v38 v31 v30 v29 v28 v27 H).bind fun v26 => bif decide (v26.1 < 0) then t0.bind fun v25 => bif inb (IntKind.i64.wrap (t9 - 1)) v25.len && v25.esz == 5 then (v26.2.get v25.id (v25.off + (IntKind.i64.wrap (t9 - 1)).toNat * 5)).bind fun v24 => (v26.2.get v25.id (v25.off + (IntKind.i64.wrap (t9 - 1)).toNat * 5 + 1)).bind fun v23 => (v26.2.get v25.id (v25.off + (IntKind.i64.wrap (t9 - 1)).toNat * 5 + 1 + 1)).bind fun v22 => (v26.2.get v25.id (v25.off + (IntKind.i64.wrap (t9 - 1)).toNat * 5 + 1 + 1 + 1)).bind fun v21 => (v26.2.get v25.id (v25.off + (IntKind.i64.wrap (t9 - 1)).toNat * 5 + 1 + 1 + 1 + 1)).bind fun v20 => (Cell.toInt .i64 v24).bind fun v19 => (Cell.toInt .i64 v23).bind fun v18 => (Cell.toInt .u64 v22).bind fun v17 => (Cell.toInt .u64 v21).bind fun v16 => v20.toSlice.bind fun v15 => t0.bind fun v14 => bif inb t9 v14.len && v14.esz == 5 then (v26.2.get v14.id (v14.off + t9.toNat * 5)).bind fun v13 => (v26.2.get v14.id (v14.off + t9.toNat * 5 + 1)).bind fun v12 => (v26.2.get v14.id (v14.off + t9.toNat * 5 + 1 + 1)).bind fun v11 => (v26.2.get v14.id (v14.off + t9.toNat * 5 + 1 + 1 + 1)).bind fun v10 => (v26.2.get v14.id (v14.off + t9.toNat * 5 + 1 + 1 + 1 + 1)).bind fun v9 => (Cell.toInt .i64 v13).bind fun v8 => (Cell.toInt .i64 v12).bind fun v7 => (Cell.toInt .u64 v11).bind fun v6 => (Cell.toInt .u64 v10).bind fun v5 => v9.toSlice.bind fun v4 => t0.bind fun v3 => bif inb t9 v3.len && v3.esz == 5 then (v26.2.put v3.id (v3.off + t9.toNat * 5) [Cell.int .i64 v19, Cell.int .i64 v18, Cell.int .u64 v17, Cell.int .u64 v16, Cell.slice v15]).bind fun v2 => t0.bind fun v1 => bif inb (IntKind.i64.wrap (t9 - 1)) v1.len && v1.esz == 5 then (v2.put v1.id (v1.off + (IntKind.i64.wrap (t9 - 1)).toNat * 5) [Cell.int .i64 v8, Cell.int .i64 v7, Cell.int .u64 v6, Cell.int .u64 v5, Cell.slice v4]).bind fun v0 => D72a_4 n t0 t1 t2 t8 (IntKind.i64.wrap (t9 - 1)) v0 else none else none else none else none else some (AExit.exit 2, X72a_4 t0 t1 t2 t8 v26.2) else none else none else some (AExit.exit 2, X72a_4 t0 t1 t2 t8 H) := by intros; exact (loopN_stepD hN72 _ _ _ _).trans (by kernel_rfl)
theorem D72a_1_s : ∀ (n : Nat) (t0 : SO) (t1 t2 t8 : Int) (H : Heap), D72a_1 (n + 1) t0 t1 t2 t8 H = bif decide (t8 < t2) then (LL72a_4 t0 t1 t2 t8 t8 H).bind (J72a_4 n) else some (AExit.exit 0, X72a_1 H) := by intros; exact (loopN_stepD hN72 _ _ _ _).trans (by kernel_rfl)
theorem J72a_4_0 : ∀ (n : Nat) (x0 : SO) (x1 x2 x3 : Int) (H : Heap), J72a_4 n (AExit.exit 2, X72a_4 x0 x1 x2 x3 H) = D72a_1 n x0 x1 x2 (IntKind.i64.wrap (x3 + 1)) H := by intros; kernel_rfl
theorem q72a : ∀ (data : SO) (a b : Int) (H : Heap), f72a data a b H = (LL72a_1 data a b (IntKind.i64.wrap (a + 1)) H).bind J72a_1 := by intros; rw [f72a_eq]; exact (fnA_lpD hN72 ..).trans (by kernel_rfl)
theorem J72a_1_0 : ∀ (H : Heap), J72a_1 (AExit.exit 0, X72a_1 H) = some ((), H) := by intros; kernel_rfl
noncomputable def sem72 (_ : Unit) : List TV → Heap → Option (Unit × Heap)
  | [.c (Cell.slice data), .c (Cell.int .i64 a), .c (Cell.int .i64 b), .c (Cell.fn 30 [] [])], H => f72a data a b H
  | _, _ => none
def f72 : Unit := ()
theorem ok72 : FnOk Try.prog 72 (specF enc72 (sem72 f72)) := by
  refine spec_ok (C := CC72) good72 rfl rfl rfl (by kernel_rfl) Try.func72 (c := bodyOf Try.f72) (by kernel_rfl) (by kernel_rfl) (Nat.le_of_eq Try.ntmps72.symm) dec72 enc72 de72 _ ?_
  intro args H q h
  unfold sem72 at h
  split at h
  · rw [f72a_eq] at h; exact h
  · cases h
/-! 58: slices_stableCmpFunc_elf_Seg -/
noncomputable def CC58 : Ctx := { P := Try.prog, own := [], fns := [(30, specF enc30 (sem30 f30)), (72, specF enc72 (sem72 f72))], nt := 63, nums := [], live := [(9, ⟨[0, 1, 2, 6, 7, 8], [], [0, 1, 2, 6, 7], []⟩), (7, ⟨[0, 1, 2, 6], [], [], []⟩), (2, ⟨[0, 1, 2, 6, 7, 8], [], [0, 1, 2, 6, 7], []⟩)] }
theorem good58 : Callees Try.prog CC58.fns [] CC58.nums := ((Callees.nil Try.prog).cons ok72 (specF_nat _ _)).cons ok30 (specF_nat _ _)
theorem hN58 : CtxNat CC58 := good58.ctx rfl rfl rfl
def enc58 (r : Unit) : List TV := []
def dec58 : AV → Option (Unit)
  | .tup [] => some ()
  | _ => none
theorem de58 (v : AV) (r : Unit) (h : dec58 v = some r) : v = oneOf (enc58 r) := by
  unfold dec58 at h
  split at h
  · cases h; rfl
  · cases h
abbrev Ty58a := SO → Int → Heap → Option (Unit × Heap)
noncomputable def F058a : Ty58a := fun data n H => fnA CC58 Try.f58.results.toList (bodyOf Try.f58) _ [.c (Cell.slice data), .c (Cell.int .i64 n), .c (Cell.fn 30 [] [])] H (decF dec58)
noncomputable def f58a : Ty58a := hide F058a
theorem f58a_eq : f58a = F058a := hide_eq _
noncomputable def P58a_2 : Code := (Code.l (Code.l (Code.l (Code.r (Code.r (bodyOf Try.f58))))))
noncomputable def P58a_7 : Code := (Code.l (Code.l (Code.r (Code.r (Code.r (Code.r (bodyOf Try.f58)))))))
noncomputable def P58a_9 : Code := (Code.l (Code.l (Code.l (Code.r (Code.l (Code.r (Code.l (Code.l (Code.r (Code.r (Code.r (Code.r (bodyOf Try.f58)))))))))))))
def S58a_2 (t0 : SO) (t1 t6 t7 t8 : Int) (H : Heap) : St := ⟨[(0, .c (Cell.slice t0)), (1, .c (Cell.int .i64 t1)), (2, .c (Cell.fn 30 [] [])), (6, .c (Cell.int .i64 t6)), (7, .c (Cell.int .i64 t7)), (8, .c (Cell.int .i64 t8))], [], H⟩
noncomputable def D58a_2 (n : Nat) (t0 : SO) (t1 t6 t7 t8 : Int) (H : Heap) : Option (AExit × St) := loopN (exec CC58 P58a_2) (keepOf CC58.live P58a_2) n (S58a_2 t0 t1 t6 t7 t8 H) retD
noncomputable def LL58a_2 (t0 : SO) (t1 t6 t7 t8 : Int) (H : Heap) : Option (AExit × St) := loopsD CC58 P58a_2 (S58a_2 t0 t1 t6 t7 t8 H)
theorem LL58a_2_of (m : Nat) (hm : m < 18446744073709551616) (t0 : SO) (t1 t6 t7 t8 : Int) (H : Heap) : ∃ n, LL58a_2 t0 t1 t6 t7 t8 H = D58a_2 (n + m + 1) t0 t1 t6 t7 t8 H := loopsD_of _ _ _ m hm
def S58a_7 (t0 : SO) (t1 t6 : Int) (H : Heap) : St := ⟨[(0, .c (Cell.slice t0)), (1, .c (Cell.int .i64 t1)), (2, .c (Cell.fn 30 [] [])), (6, .c (Cell.int .i64 t6))], [], H⟩
noncomputable def D58a_7 (n : Nat) (t0 : SO) (t1 t6 : Int) (H : Heap) : Option (AExit × St) := loopN (exec CC58 P58a_7) (keepOf CC58.live P58a_7) n (S58a_7 t0 t1 t6 H) retD
noncomputable def LL58a_7 (t0 : SO) (t1 t6 : Int) (H : Heap) : Option (AExit × St) := loopsD CC58 P58a_7 (S58a_7 t0 t1 t6 H)
theorem LL58a_7_of (m : Nat) (hm : m < 18446744073709551616) (t0 : SO) (t1 t6 : Int) (H : Heap) : ∃ n, LL58a_7 t0 t1 t6 H = D58a_7 (n + m + 1) t0 t1 t6 H := loopsD_of _ _ _ m hm
def S58a_9 (t0 : SO) (t1 t6 t7 t8 : Int) (H : Heap) : St := ⟨[(0, .c (Cell.slice t0)), (1, .c (Cell.int .i64 t1)), (2, .c (Cell.fn 30 [] [])), (6, .c (Cell.int .i64 t6)), (7, .c (Cell.int .i64 t7)), (8, .c (Cell.int .i64 t8))], [], H⟩
noncomputable def LL58a_9 (t0 : SO) (t1 t6 t7 t8 : Int) (H : Heap) : Option (AExit × St) := loopsD CC58 P58a_9 (S58a_9 t0 t1 t6 t7 t8 H)
def X58a_7 (H : Heap) : St := { env := [], loc := [], heap := H }
def X58a_2 (x0 : SO) (x1 : Int) (x2 : Int) (x3 : Int) (H : Heap) : St := { env := [(0, AV.c (Cell.slice x0)), (1, AV.c (Cell.int .i64 x1)), (2, AV.c (Cell.fn 30 [] [])), (6, AV.c (Cell.int .i64 x2)), (7, AV.c (Cell.int .i64 x3))], loc := [], heap := H }
noncomputable def J58a_9 : Nat → AExit × St → Option (AExit × St) := fun n p => blockK 4 (seqK (execL CC58 (lpD CC58) (Code.r (Code.r (Code.l (Code.r P58a_7))))) (blockK 3 (loopK (some { t1 := [0, 1, 2, 6], l1 := [], t2 := [], l2 := [] }) (loopN (exec CC58 P58a_7) (keepOf CC58.live P58a_7) n) retD))) p.1 p.2
noncomputable def J58a_2 : AExit × St → Option (Unit × Heap) := fun p => blockK 0 (seqK (execL CC58 (lpD CC58) (Code.r (Code.r (Code.r (bodyOf Try.f58))))) (retA CC58 [] (decF dec58))) p.1 p.2
noncomputable def J58a_7 : AExit × St → Option (Unit × Heap) := fun p => blockK 2 (retA CC58 [] (decF dec58)) p.1 p.2
theorem D58a_7_s : ∀ (n : Nat) (t0 : SO) (t1 t6 : Int) (H : Heap), D58a_7 (n + 1) t0 t1 t6 H = bif decide (t6 < t1) then (LL58a_9 t0 t1 t6 0 (IntKind.i64.wrap (2 * t6)) H).bind (J58a_9 n) else some (AExit.exit 2, X58a_7 H) := by intros; exact (loopN_stepD hN58 _ _ _ _).trans (by kernel_rfl)
theorem D58a_2_s : ∀ (n : Nat) (t0 : SO) (t1 t6 t7 t8 : Int) (H : Heap), D58a_2 (n + 1) t0 t1 t6 t7 t8 H = bif decide (t8 ≤ t1) then (f72a t0 t7 t8 H).bind fun v0 => D58a_2 n t0 t1 t6 t8 (IntKind.i64.wrap (t8 + t6)) v0.2 else some (AExit.exit 0, X58a_2 t0 t1 t6 t7 H) := by intros; exact (loopN_stepD hN58 _ _ _ _).trans (by kernel_rfl)
theorem q58a : ∀ (data : SO) (n : Int) (H : Heap), f58a data n H = (LL58a_2 data n 20 0 20 H).bind J58a_2 := by intros; rw [f58a_eq]; exact (fnA_lpD hN58 ..).trans (by kernel_rfl)
theorem J58a_2_0 : ∀ (x0 : SO) (x1 x2 x3 : Int) (H : Heap), J58a_2 (AExit.exit 0, X58a_2 x0 x1 x2 x3 H) = (f72a x0 x3 x1 H).bind fun v1 => (LL58a_7 x0 x1 x2 v1.2).bind J58a_7 := by intros; kernel_rfl
theorem J58a_7_0 : ∀ (H : Heap), J58a_7 (AExit.exit 2, X58a_7 H) = some ((), H) := by intros; kernel_rfl
noncomputable def sem58 (_ : Unit) : List TV → Heap → Option (Unit × Heap)
  | [.c (Cell.slice data), .c (Cell.int .i64 n), .c (Cell.fn 30 [] [])], H => f58a data n H
  | _, _ => none
def f58 : Unit := ()
theorem ok58 : FnOk Try.prog 58 (specF enc58 (sem58 f58)) := by
  refine spec_ok (C := CC58) good58 rfl rfl rfl (by kernel_rfl) Try.func58 (c := bodyOf Try.f58) (by kernel_rfl) (by kernel_rfl) (Nat.le_of_eq Try.ntmps58.symm) dec58 enc58 de58 _ ?_
  intro args H q h
  unfold sem58 at h
  split at h
  · rw [f58a_eq] at h; exact h
  · cases h
/-! 29: slices_SortStableFunc_elf_Seg_elf_Seg -/
noncomputable def CC29 : Ctx := { P := Try.prog, own := [], fns := [(30, specF enc30 (sem30 f30)), (58, specF enc58 (sem58 f58))], nt := 9, nums := [], live := [] }
theorem good29 : Callees Try.prog CC29.fns [] CC29.nums := ((Callees.nil Try.prog).cons ok58 (specF_nat _ _)).cons ok30 (specF_nat _ _)
theorem hN29 : CtxNat CC29 := good29.ctx rfl rfl rfl
def enc29 (r : Unit) : List TV := []
def dec29 : AV → Option (Unit)
  | .tup [] => some ()
  | _ => none
theorem de29 (v : AV) (r : Unit) (h : dec29 v = some r) : v = oneOf (enc29 r) := by
  unfold dec29 at h
  split at h
  · cases h; rfl
  · cases h
abbrev Ty29a := SO → Heap → Option (Unit × Heap)
noncomputable def F029a : Ty29a := fun x0 H => fnA CC29 Try.f29.results.toList (bodyOf Try.f29) _ [.c (Cell.slice x0), .c (Cell.fn 30 [] [])] H (decF dec29)
noncomputable def f29a : Ty29a := hide F029a
theorem f29a_eq : f29a = F029a := hide_eq _
theorem q29a : ∀ (x0 : SO) (H : Heap), f29a x0 H = (f58a x0 (slen x0) H).bind fun v0 => some ((), v0.2) := by intros; rw [f29a_eq]; exact (fnA_lpD hN29 ..).trans (by kernel_rfl)
noncomputable def sem29 (_ : Unit) : List TV → Heap → Option (Unit × Heap)
  | [.c (Cell.slice x0), .c (Cell.fn 30 [] [])], H => f29a x0 H
  | _, _ => none
def f29 : Unit := ()
theorem ok29 : FnOk Try.prog 29 (specF enc29 (sem29 f29)) := by
  refine spec_ok (C := CC29) good29 rfl rfl rfl (by kernel_rfl) Try.func29 (c := bodyOf Try.f29) (by kernel_rfl) (by kernel_rfl) (Nat.le_of_eq Try.ntmps29.symm) dec29 enc29 de29 _ ?_
  intro args H q h
  unfold sem29 at h
  split at h
  · rw [f29a_eq] at h; exact h
  · cases h
/-! 32: slices_Clone_byte_byte -/
noncomputable def CC32 : Ctx := { P := Try.prog, own := [], fns := [], nt := 8, nums := [], live := [] }
theorem good32 : Callees Try.prog CC32.fns [] CC32.nums := Callees.nil Try.prog
theorem hN32 : CtxNat CC32 := good32.ctx rfl rfl rfl
def enc32 (r : SO) : List TV := [.c (Cell.slice (r))]
def dec32 : AV → Option (SO)
  | .c (Cell.slice q0) => some (q0)
  | _ => none
theorem de32 (v : AV) (r : SO) (h : dec32 v = some r) : v = oneOf (enc32 r) := by
  unfold dec32 at h
  split at h
  · cases h; rfl
  · cases h
abbrev Ty32 := SO → Heap → Option (SO × Heap)
def sem32 (f : Ty32) : List TV → Heap → Option (SO × Heap)
  | [.c (Cell.slice s)], H => f s H
  | _, _ => none
noncomputable def F032 : Ty32 := fun s H => fnA CC32 Try.f32.results.toList (bodyOf Try.f32) _ [.c (Cell.slice s)] H (decF dec32)
noncomputable def f32 : Ty32 := hide F032
theorem f32_eq : f32 = F032 := hide_eq _
theorem q32 : ∀ (s : SO) (H : Heap), f32 s H = bif s.isNone then some (none, H) else ((H ++ [Blk.row [] false]).append 1 1 (some { id := List.length H, off := 0, len := 0, cap := 0, esz := 1 }) s).bind fun v0 => some (v0.1, v0.2) := by intros; rw [f32_eq]; exact (fnA_lpD hN32 ..).trans (by kernel_rfl)
theorem ok32 : FnOk Try.prog 32 (specF enc32 (sem32 f32)) := by
  refine spec_ok (C := CC32) good32 rfl rfl rfl (by kernel_rfl) Try.func32 (c := bodyOf Try.f32) (by kernel_rfl) (by kernel_rfl) (Nat.le_of_eq Try.ntmps32.symm) dec32 enc32 de32 _ ?_
  intro args H q h
  unfold sem32 at h
  split at h
  · rw [f32_eq] at h; exact h
  · cases h
/-! 74: rope_New -/
noncomputable def CC74 : Ctx := { P := Try.prog, own := [], fns := [], nt := 38, nums := [], live := [(3, ⟨[3, 8, 9, 10], [], [3], []⟩)] }
theorem good74 : Callees Try.prog CC74.fns [] CC74.nums := Callees.nil Try.prog
theorem hN74 : CtxNat CC74 := good74.ctx rfl rfl rfl
def enc74 (r : PO) : List TV := [.c (Cell.ptr (r))]
def dec74 : AV → Option (PO)
  | .c (Cell.ptr q0) => some (q0)
  | _ => none
theorem de74 (v : AV) (r : PO) (h : dec74 v = some r) : v = oneOf (enc74 r) := by
  unfold dec74 at h
  split at h
  · cases h; rfl
  · cases h
abbrev Ty74 := SO → Heap → Option ((PO) × Heap)
def sem74 (f : Ty74) : List TV → Heap → Option ((PO) × Heap)
  | [.c (Cell.slice parts)], H => f parts H
  | _, _ => none
noncomputable def F074 : Ty74 := fun parts H => fnA CC74 Try.f74.results.toList (bodyOf Try.f74) _ [.c (Cell.slice parts)] H (decF dec74)
noncomputable def f74 : Ty74 := hide F074
theorem f74_eq : f74 = F074 := hide_eq _
noncomputable def P74_3 : Code := (Code.l (Code.l (Code.r (Code.l (Code.r (Code.r (bodyOf Try.f74)))))))
def S74_3 (t3 : PO) (t8 : SO) (t9 t10 : Int) (H : Heap) : St := ⟨[(3, .c (Cell.ptr t3)), (8, .c (Cell.slice t8)), (9, .c (Cell.int .i64 t9)), (10, .c (Cell.int .i64 t10))], [], H⟩
noncomputable def D74_3 (n : Nat) (t3 : PO) (t8 : SO) (t9 t10 : Int) (H : Heap) : Option (AExit × St) := loopN (exec CC74 P74_3) (keepOf CC74.live P74_3) n (S74_3 t3 t8 t9 t10 H) retD
noncomputable def LL74_3 (t3 : PO) (t8 : SO) (t9 t10 : Int) (H : Heap) : Option (AExit × St) := loopsD CC74 P74_3 (S74_3 t3 t8 t9 t10 H)
theorem LL74_3_of (m : Nat) (hm : m < 18446744073709551616) (t3 : PO) (t8 : SO) (t9 t10 : Int) (H : Heap) : ∃ n, LL74_3 t3 t8 t9 t10 H = D74_3 (n + m + 1) t3 t8 t9 t10 H := loopsD_of _ _ _ m hm
def X74_3 (x0 : PO) (H : Heap) : St := { env := [(3, AV.c (Cell.ptr x0))], loc := [], heap := H }
noncomputable def J74_3 : AExit × St → Option (Option (Nat × Nat) × Heap) := fun p => blockK 0 (seqK (execL CC74 (lpD CC74) (Code.r (Code.r (Code.r (bodyOf Try.f74))))) (retA CC74 [ResultVar.tmp 2] (decF dec74))) p.1 p.2
theorem D74_3_s : ∀ (n : Nat) (t3 : PO) (t8 : SO) (t9 t10 : Int) (H : Heap), D74_3 (n + 1) t3 t8 t9 t10 H = bif decide (t10 < t9) then t8.bind fun v12 => bif inb t10 v12.len && v12.esz == 1 then (H.get v12.id (v12.off + t10.toNat * 1)).bind fun v11 => v11.toSlice.bind fun v10 => t3.bind fun v9 => (H.get v9.1 (v9.2 + 0 + 0)).bind fun v8 => v8.toSlice.bind fun v7 => t3.bind fun v6 => (H.get v6.1 (v6.2 + 0 + 0)).bind fun v5 => v5.toSlice.bind fun v4 => (Sl.sub v10 0 (some (mm Builtin.min (slen v10) (IntKind.i64.wrap (1048576 - slen v4))))).bind fun v3 => bif esOk v10 1 then (H.append 1 1 v7 v3).bind fun v2 => t3.bind fun v1 => (v2.2.put v1.1 (v1.2 + 0 + 0) [Cell.slice v2.1]).bind fun v0 => D74_3 n t3 t8 t9 (IntKind.i64.wrap (t10 + 1)) v0 else none else none else some (AExit.exit 0, X74_3 t3 H) := by intros; exact (loopN_stepD hN74 _ _ _ _).trans (by kernel_rfl)
theorem q74 : ∀ (parts : SO) (H : Heap), f74 parts H = (LL74_3 (some (List.length H, 0)) parts (slen parts) 0 (H ++ [Blk.row [Cell.slice none] false])).bind J74_3 := by intros; rw [f74_eq]; exact (fnA_lpD hN74 ..).trans (by kernel_rfl)
theorem J74_3_0 : ∀ (x0 : PO) (H : Heap), J74_3 (AExit.exit 0, X74_3 x0 H) = some (x0, H) := by intros; kernel_rfl
theorem ok74 : FnOk Try.prog 74 (specF enc74 (sem74 f74)) := by
  refine spec_ok (C := CC74) good74 rfl rfl rfl (by kernel_rfl) Try.func74 (c := bodyOf Try.f74) (by kernel_rfl) (by kernel_rfl) (Nat.le_of_eq Try.ntmps74.symm) dec74 enc74 de74 _ ?_
  intro args H q h
  unfold sem74 at h
  split at h
  · rw [f74_eq] at h; exact h
  · cases h
/-- A rope: its bytes; in blocks of F. -/
def RP (F : Nat → Prop) (H : Heap) (id : Nat) (l : List UInt8) : Prop :=
  ∃ s, H[id]? = some (.row [.slice s] false) ∧ OS 1 E8 H s l ∧ (∀ sl, s = some sl → sl.id ≠ id) ∧ F id ∧ (∀ sl, s = some sl → F sl.id)
/-- All blocks from one on. -/
def Up (n : Nat) : Nat → Prop := fun i => n ≤ i
/-- Parts, one behind the other, as far as there is room. -/
def catCut (b : List UInt8) : List (List UInt8) → List UInt8
  | [] => b
  | p :: r => catCut (b ++ p.take (1048576 - b.length)) r
/-- Some slices of bytes, in a slice. -/
def RSS (H : Heap) (t : SO) (ls : List (List UInt8)) : Prop :=
  ∃ ps : List SO, RS 1 ES H t ps ∧ ps.length = ls.length ∧ ∀ (j : Nat) p l, ps[j]? = some p → ls[j]? = some l → RS 1 E8 H p l
/-- Bytes behind a rope's. -/
theorem rp_app {F : Nat → Prop} {H : Heap} {id : Nat} {b x : List UInt8} {sx : Option Sl} (h : RP F H id b) (hF : ∀ i, H.length ≤ i → F i) (hx : RS 1 E8 H sx x) (hb : b.length + x.length ≤ most) :
    ∃ s s' H1 H2, H.get id 0 = some (.slice s) ∧ slen s = (b.length : Int) ∧ H.append 1 1 s sx = some (s', H1) ∧ H1.put id 0 [.slice s'] = some H2 ∧ RP F H2 id (b ++ x) ∧ Kp F H H2 := by
  obtain ⟨s, h1, h2, h3, h4, h5⟩ := h
  obtain ⟨s', H1, a1, a2, a3, a4⟩ := append_OS E8_len (by decide) (by' := 1) h2 hx (by omega)
  have hid := lt_of h1
  have g1 : H1[id]? = some (.row [.slice s] false) := a3.at h1 (by rintro ⟨sl, e, e1⟩; exact h3 sl e e1.symm)
  have hne : ∀ sl', s' = some sl' → sl'.id ≠ id := fun sl' e => by
    rcases a4 sl' e with ⟨sl, e0, e1⟩ | h
    · rw [e1]; exact h3 sl e0
    · omega
  refine ⟨s, s', H1, _, by rw [get_of h1]; rfl, h2.rs.slenEq, a1, put_of g1 (by simp), ⟨s', set_get' (lt_of g1), a2.kp (Kp.set _ _ _) (fun sl e => hne sl e), hne, h4, fun sl' e => ?_⟩, ?_⟩
  · rcases a4 sl' e with ⟨sl, e0, e1⟩ | h
    · rw [e1]; exact h5 sl e0
    · exact hF _ h
  · refine a3.trans (Kp.set _ _ _) (fun i hi => ?_) fun i _ hi => ?_
    · obtain ⟨sl, e0, e1⟩ := hi; rw [e1]; exact h5 sl e0
    · rw [show i = id from hi]; exact h4
theorem kp_old {H0 H H' : Heap} (h : Kp No H0 H) (k : Kp (Up H0.length) H H') : Kp No H0 H' := h.trans k (fun _ h => h) fun i hi h => absurd (show H0.length ≤ i from h) (by omega)
theorem up_le {H0 H : Heap} (h : Kp No H0 H) : ∀ i, H.length ≤ i → Up H0.length i := fun i hi => Nat.le_trans h.len hi
theorem loop74 (H0 : Heap) (t : SO) (ls : List (List UInt8)) (ht : RSS H0 t ls) (hlen : ls.length ≤ 4611686018427387904) (hls : ∀ l ∈ ls, l.length ≤ 4611686018427387904) (id : Nat) : ∀ (m n i : Nat) (b : List UInt8) (H : Heap), i + m = ls.length → b.length ≤ 1048576 → RP (Up H0.length) H id b → Kp No H0 H →
    ∃ H', D74_3 (n + m + 1) (some (id, 0)) t (ls.length : Int) (i : Int) H = some (.exit 0, X74_3 (some (id, 0)) H') ∧ RP (Up H0.length) H' id (catCut b (ls.drop i)) ∧ Kp No H0 H'
  | 0, n, i, b, H, hi, hb, hr, hk => by
    have g : decide ((i : Int) < (ls.length : Int)) = false := by simp; omega
    refine ⟨H, by rw [D74_3_s, g, cf], ?_, hk⟩
    rw [List.drop_eq_nil_of_le (by omega)]; exact hr
  | m + 1, n, i, b, H, hi, hb, hr, hk => by
    have hil : i < ls.length := by omega
    have hli : ls[i]? = some ls[i] := List.getElem?_eq_getElem hil
    obtain ⟨ps, p1, p2, p3⟩ := ht
    have hpi : ps[i]? = some ps[i] := List.getElem?_eq_getElem (by omega)
    have hp := p3 i _ _ hpi hli
    have hL := hls ls[i] (List.getElem_mem hil)
    generalize hp0 : ps[i]'(by omega) = p at *
    generalize hl0 : ls[i] = l at *
    have g : decide ((i : Int) < (ls.length : Int)) = true := by simp; omega
    have g3 : IntKind.i64.wrap ((i : Int) + 1) = ((i + 1 : Nat) : Int) := by rw [wrap_i64 (by omega) (by omega)]; omega
    obtain ⟨sl, rfl, g2, g4⟩ := (p1.new ES_len (by decide) hk fun _ _ h => h).idx1 hpi (e := fun s => .slice s) fun _ => rfl
    have hp' := hp.new E8_len (by decide) hk fun _ _ h => h
    obtain ⟨s', c1, c2, c3⟩ := hp'.sub0 E8_len (min l.length (1048576 - b.length)) (by omega)
    obtain ⟨s, s2, H1, H2, r1, r2, r3, r4, r5, r6⟩ := rp_app hr (up_le hk) c2 (by simp [most]; omega)
    have gm : mm Builtin.min (slen p) (IntKind.i64.wrap (1048576 - slen s)) = ((min l.length (1048576 - b.length) : Nat) : Int) := by
      rw [hp.slenEq, r2, wrap_i64 (by omega) (by omega)]
      unfold mm
      split <;> omega
    have e5 : l.take (min l.length (1048576 - b.length)) = l.take (1048576 - b.length) := by
      rcases Nat.le_total l.length (1048576 - b.length) with h | h
      · rw [Nat.min_eq_left h, List.take_of_length_le (Nat.le_refl _), List.take_of_length_le h]
      · rw [Nat.min_eq_right h]
    rw [e5] at r5
    obtain ⟨H', j1, j2, j3⟩ := loop74 H0 (some sl) ls ⟨ps, p1, p2, p3⟩ hlen hls id m n (i + 1) _ H2 (by omega) (by simp; omega) r5 (kp_old hk r6)
    refine ⟨H', ?_, ?_, j3⟩
    · rw [show n + (m + 1) + 1 = (n + m + 1) + 1 by omega, D74_3_s, g]
      simp only [ct, bs, g2, g3, g4, tSlice, az, r1, gm, c1, hp.esOkT, r3, r4]
      exact j1
    · rw [List.drop_eq_getElem_cons hil, hl0]; exact j2
theorem f74_spec (H : Heap) (t : SO) (ls : List (List UInt8)) (ht : RSS H t ls) (hlen : ls.length ≤ 4611686018427387904) (hls : ∀ l ∈ ls, l.length ≤ 4611686018427387904) :
    ∃ H', f74 t H = some (some (H.length, 0), H') ∧ RP (Up H.length) H' H.length (catCut [] ls) ∧ Kp No H H' := by
  have hsl : slen t = (ls.length : Int) := by
    obtain ⟨ps, p1, p2, _⟩ := ht
    rw [p1.slenEq, p2]
  obtain ⟨n, hn⟩ := LL74_3_of ls.length (by omega) (some (H.length, 0)) t (ls.length : Int) 0 (H ++ [.row [.slice none] false])
  obtain ⟨H', j1, j2, j3⟩ := loop74 H t ls ht hlen hls H.length ls.length n 0 [] (H ++ [.row [.slice none] false]) (by omega) (by simp) ⟨none, by simp, rfl, (fun _ e => nomatch e), Nat.le_refl _, (fun _ e => nomatch e)⟩ (Kp.push _ _ _)
  refine ⟨H', ?_, j2, j3⟩
  rw [q74, hsl, hn, show D74_3 (n + ls.length + 1) _ t _ 0 _ = _ from j1, bs, J74_3_0]
/-! 80: bits_Is -/
noncomputable def CC80 : Ctx := { P := Try.prog, own := [], fns := [], nt := 17, nums := [], live := [] }
theorem good80 : Callees Try.prog CC80.fns [] CC80.nums := Callees.nil Try.prog
def bits_Is (w : Int) : Bool := w == 1 || (w == 2 || (w == 4 || w == 8))
noncomputable def G80 : List TV → Option (List TV)
  | [.c (Cell.int .i64 w)] => some [.c (Cell.bool ((bits_Is w)))]
  | _ => none
noncomputable def F80 : FnSem := numF G80
theorem F80_num : FnNum F80 := numF_num _
theorem e80 : ∀ (R : Type) (w : Int) (H : Heap) (K : AV → Heap → Option R) (lp : Code → St → (AExit → St → Option R) → Option R), fnL CC80 lp Try.f80.results.toList (bodyOf Try.f80) [TV.c (Cell.int .i64 w)] H K = bif w == 1 then K (AV.c (Cell.bool true)) H else bif w == 2 then K (AV.c (Cell.bool true)) H else bif w == 4 then K (AV.c (Cell.bool true)) H else K (AV.c (Cell.bool (w == 8))) H := by intros; kernel_rfl
theorem s80 (R : Type) (w : Int) (H : Heap) (K : AV → Heap → Option R) (lp : Code → St → (AExit → St → Option R) → Option R) : fnL CC80 lp Try.f80.results.toList (bodyOf Try.f80) [.c (Cell.int .i64 w)] H K = K (oneOf [.c (Cell.bool ((bits_Is w)))]) H := by
  rw [e80]
  unfold bits_Is
  cases (w == 1) <;> cases (w == 2) <;> cases (w == 4) <;> rfl
theorem ok80 : FnOk Try.prog 80 F80 := by
  refine fn_ok (C := CC80) (good80.env rfl) (good80.ctx rfl rfl rfl) (by kernel_rfl) Try.func80 (c := bodyOf Try.f80) (by kernel_rfl) (by kernel_rfl) (Nat.le_of_eq Try.ntmps80.symm) ?_
  intro R args H K r h
  unfold F80 numF G80 at h
  split at h
  · rw [fnA_eq, s80]; exact h
  · cases h
/-! 81: rope_store_has -/
noncomputable def CC81 : Ctx := { P := Try.prog, own := [3], fns := [], nt := 29, nums := [], live := [] }
theorem good81 : Callees Try.prog CC81.fns [] CC81.nums := Callees.nil Try.prog
def rope_store_has (s : SO) (a n : Int) : Bool := decide (a ≥ 0) && (decide (n ≥ 0) && (decide (a ≤ slen s) && decide (n ≤ IntKind.i64.wrap (slen s - a))))
noncomputable def G81 : List TV → Option (List TV)
  | [.agg [Cell.slice s], .c (Cell.int .i64 x1), .c (Cell.int .i64 n)] => some [.c (Cell.bool ((rope_store_has s x1 n)))]
  | _ => none
noncomputable def F81 : FnSem := numF G81
theorem F81_num : FnNum F81 := numF_num _
theorem e81 : ∀ (R : Type) (s : SO) (x1 n : Int) (H : Heap) (K : AV → Heap → Option R) (lp : Code → St → (AExit → St → Option R) → Option R), fnL CC81 lp Try.f81.results.toList (bodyOf Try.f81) [TV.agg [Cell.slice s], TV.c (Cell.int .i64 x1), TV.c (Cell.int .i64 n)] H K = bif decide (x1 ≥ 0) then bif decide (n ≥ 0) then bif decide (x1 ≤ slen s) then K (AV.c (Cell.bool (decide (n ≤ IntKind.i64.wrap (slen s - x1))))) H else K (AV.c (Cell.bool false)) H else K (AV.c (Cell.bool false)) H else K (AV.c (Cell.bool false)) H := by intros; kernel_rfl
theorem s81 (R : Type) (s : SO) (x1 n : Int) (H : Heap) (K : AV → Heap → Option R) (lp : Code → St → (AExit → St → Option R) → Option R) : fnL CC81 lp Try.f81.results.toList (bodyOf Try.f81) [.agg [Cell.slice s], .c (Cell.int .i64 x1), .c (Cell.int .i64 n)] H K = K (oneOf [.c (Cell.bool ((rope_store_has s x1 n)))]) H := by
  rw [e81]
  unfold rope_store_has
  cases decide (x1 ≥ 0) <;> cases decide (n ≥ 0) <;> cases decide (x1 ≤ slen s) <;> rfl
theorem ok81 : FnOk Try.prog 81 F81 := by
  refine fn_ok (C := CC81) (good81.env rfl) (good81.ctx rfl rfl rfl) (by kernel_rfl) Try.func81 (c := bodyOf Try.f81) (by kernel_rfl) (by kernel_rfl) (Nat.le_of_eq Try.ntmps81.symm) ?_
  intro R args H K r h
  unfold F81 numF G81 at h
  split at h
  · rw [fnA_eq, s81]; exact h
  · cases h
theorem has_eq {n : Nat} {α : Type} {E : α → List Cell} {H : Heap} {s : Option Sl} {l : List α} (h : RS n E H s l) (hl : l.length ≤ 4611686018427387904) (a k : Int) : rope_store_has s a k = hasI l.length a k := by
  unfold rope_store_has hasI
  rw [h.slenEq]
  by_cases g : 0 ≤ a ∧ a ≤ l.length
  · rw [wrap_i64 (by omega) (by omega)]
  · by_cases g1 : a ≥ 0
    · have : decide (a ≤ (l.length : Int)) = false := by simp; omega
      rw [this]; simp
    · have : decide (a ≥ 0) = false := by simp; omega
      rw [this]; simp
/-! 82: rope_store_num -/
noncomputable def CC82 : Ctx := { P := Try.prog, own := [3], fns := [], nt := 27, nums := [], live := [(3, ⟨[1, 3, 7, 8], [3], [7], []⟩)] }
theorem good82 : Callees Try.prog CC82.fns [] CC82.nums := Callees.nil Try.prog
theorem hN82 : CtxNat CC82 := good82.ctx rfl rfl rfl
def enc82 (r : Int) : List TV := [.c (Cell.int .u64 (r))]
def dec82 : AV → Option (Int)
  | .c (Cell.int .u64 q0) => some (q0)
  | _ => none
theorem de82 (v : AV) (r : Int) (h : dec82 v = some r) : v = oneOf (enc82 r) := by
  unfold dec82 at h
  split at h
  · cases h; rfl
  · cases h
abbrev Ty82 := SO → Int → Int → Heap → Option (Int × Heap)
def sem82 (f : Ty82) : List TV → Heap → Option (Int × Heap)
  | [.agg [Cell.slice s], .c (Cell.int .i64 x1), .c (Cell.int .i64 w)], H => f s x1 w H
  | _, _ => none
noncomputable def F082 : Ty82 := fun s x1 w H => fnA CC82 Try.f82.results.toList (bodyOf Try.f82) _ [.agg [Cell.slice s], .c (Cell.int .i64 x1), .c (Cell.int .i64 w)] H (decF dec82)
noncomputable def f82 : Ty82 := hide F082
theorem f82_eq : f82 = F082 := hide_eq _
noncomputable def P82_3 : Code := (Code.l (Code.l (Code.r (Code.l (Code.r (Code.r (bodyOf Try.f82)))))))
def S82_3 (t1 t7 t8 : Int) (b3_ : SO) (H : Heap) : St := ⟨[(1, .c (Cell.int .i64 t1)), (3, .lp 3 0), (7, .c (Cell.int .u64 t7)), (8, .c (Cell.int .i64 t8))], [(3, [Cell.slice b3_])], H⟩
noncomputable def D82_3 (n : Nat) (t1 t7 t8 : Int) (b3_ : SO) (H : Heap) : Option (AExit × St) := loopN (exec CC82 P82_3) (keepOf CC82.live P82_3) n (S82_3 t1 t7 t8 b3_ H) retD
noncomputable def LL82_3 (t1 t7 t8 : Int) (b3_ : SO) (H : Heap) : Option (AExit × St) := loopsD CC82 P82_3 (S82_3 t1 t7 t8 b3_ H)
theorem LL82_3_of (m : Nat) (hm : m < 18446744073709551616) (t1 t7 t8 : Int) (b3_ : SO) (H : Heap) : ∃ n, LL82_3 t1 t7 t8 b3_ H = D82_3 (n + m + 1) t1 t7 t8 b3_ H := loopsD_of _ _ _ m hm
def X82_3 (x0 : Int) (H : Heap) : St := { env := [(7, AV.c (Cell.int .u64 x0))], loc := [], heap := H }
noncomputable def J82_3 : AExit × St → Option (Int × Heap) := fun p => blockK 0 (seqK (execL CC82 (lpD CC82) (Code.r (Code.r (Code.r (bodyOf Try.f82))))) (retA CC82 [ResultVar.tmp 6] (decF dec82))) p.1 p.2
theorem D82_3_s : ∀ (n : Nat) (t1 t7 t8 : Int) (b3_ : SO) (H : Heap), D82_3 (n + 1) t1 t7 t8 b3_ H = bif decide (t8 ≥ 0) then b3_.bind fun v2 => bif inb (IntKind.i64.wrap (t1 + t8)) v2.len && v2.esz == 1 then (H.get v2.id (v2.off + (IntKind.i64.wrap (t1 + t8)).toNat * 1)).bind fun v1 => (Cell.toInt .u8 v1).bind fun v0 => D82_3 n t1 (bor IntKind.u64 (ishl IntKind.u64 t7 8) (IntKind.u64.wrap v0)) (IntKind.i64.wrap (t8 - 1)) b3_ H else none else some (AExit.exit 0, X82_3 t7 H) := by intros; exact (loopN_stepD hN82 _ _ _ _).trans (by kernel_rfl)
theorem q82 : ∀ (s : SO) (x1 w : Int) (H : Heap), f82 s x1 w H = (LL82_3 x1 0 (IntKind.i64.wrap (w - 1)) s H).bind J82_3 := by intros; rw [f82_eq]; exact (fnA_lpD hN82 ..).trans (by kernel_rfl)
theorem J82_3_0 : ∀ (x0 : Int) (H : Heap), J82_3 (AExit.exit 0, X82_3 x0 H) = some (x0, H) := by intros; kernel_rfl
theorem ok82 : FnOk Try.prog 82 (specF enc82 (sem82 f82)) := by
  refine spec_ok (C := CC82) good82 rfl rfl rfl (by kernel_rfl) Try.func82 (c := bodyOf Try.f82) (by kernel_rfl) (by kernel_rfl) (Nat.le_of_eq Try.ntmps82.symm) dec82 enc82 de82 _ ?_
  intro args H q h
  unfold sem82 at h
  split at h
  · rw [f82_eq] at h; exact h
  · cases h
theorem shl8_or (v b : Nat) (hv : v < 72057594037927936) (hb : b < 256) : bor .u64 (ishl .u64 (v : Int) 8) (IntKind.u64.wrap (b : Int)) = ((b + 256 * v : Nat) : Int) := by
  have e1 : ishl .u64 (v : Int) 8 = ((2 ^ 8 * v : Nat) : Int) := by
    unfold ishl
    have : min ((8 : Int).toNat) IntKind.u64.bits = 8 := rfl
    rw [this, wrap_u64]; omega
  rw [e1, wrapU_nat b (by omega), bor_u64]
  have h1 : (((2 ^ 8 * v : Nat) : Int) % 18446744073709551616).toNat = 2 ^ 8 * v := by omega
  have h2 : ((b : Int) % 18446744073709551616).toNat = b := by omega
  rw [h1, h2, ← Nat.two_pow_add_eq_or_of_lt (by omega)]
  congr 1; omega
theorem numB7 {l : List UInt8} (h : l.length ≤ 7) : numB l < 72057594037927936 := Nat.lt_of_lt_of_le (numB_lt l) (Nat.le_trans (Nat.pow_le_pow_right (by decide) h) (by decide))
theorem loop82 (s : SO) (l : List UInt8) (hmax : l.length ≤ 4611686018427387904) (a w : Nat) (hw : w ≤ 8) (hal : a + w ≤ l.length) (H : Heap) (hs : RS 1 E8 H s l) : ∀ (m n : Nat), m ≤ w →
    D82_3 (n + m + 1) (a : Int) ((numB ((l.drop (a + m)).take (w - m)) : Nat) : Int) ((m : Int) - 1) s H = some (.exit 0, X82_3 ((numB ((l.drop a).take w) : Nat) : Int) H)
  | 0, n, hm => by
    have g : decide (((0 : Nat) : Int) - 1 ≥ 0) = false := by decide
    rw [D82_3_s, g, cf]; rfl
  | m + 1, n, hm => by
    have hb : a + m < l.length := by omega
    have hlb : l[a + m]? = some l[a + m] := List.getElem?_eq_getElem hb
    obtain ⟨sl, rfl, g2, g4⟩ := hs.idx1 hlb (e := fun b => .int .u8 (b.toNat : Int)) fun _ => rfl
    have e : (((m + 1 : Nat) : Int) - 1) = m := by omega
    have g : decide ((m : Int) ≥ 0) = true := by simp
    have g1 : IntKind.i64.wrap ((a : Int) + (m : Int)) = ((a + m : Nat) : Int) := by rw [wrap_i64 (by omega) (by omega)]; omega
    have g3 : IntKind.i64.wrap ((m : Int) - 1) = (m : Int) - 1 := wrap_i64 (by omega) (by omega)
    have hlt : numB ((l.drop (a + (m + 1))).take (w - (m + 1))) < 72057594037927936 := numB7 (by simp; omega)
    have e2 : l[a + m] :: (l.drop (a + (m + 1))).take (w - (m + 1)) = (l.drop (a + m)).take (w - m) := by
      rw [show w - m = (w - (m + 1)) + 1 by omega, List.drop_eq_getElem_cons hb, List.take_succ_cons]; rfl
    rw [show n + (m + 1) + 1 = (n + m + 1) + 1 by omega, e, D82_3_s, g]
    simp only [ct, bs, g1, g2, g3, g4, tInt, shl8_or _ _ hlt l[a + m].toNat_lt]
    rw [show l[a + m].toNat + 256 * numB ((l.drop (a + (m + 1))).take (w - (m + 1))) = numB ((l.drop (a + m)).take (w - m)) by rw [← e2]; rfl]
    exact loop82 (some sl) l hmax a w hw hal H hs m n (by omega)
theorem f82_spec (s : SO) (l : List UInt8) (hmax : l.length ≤ 4611686018427387904) (a w : Nat) (hw : w ≤ 8) (hal : a + w ≤ l.length) (H : Heap) (hs : RS 1 E8 H s l) :
    f82 s (a : Int) (w : Int) H = some (((numB ((l.drop a).take w) : Nat) : Int), H) := by
  have g : IntKind.i64.wrap ((w : Int) - 1) = (w : Int) - 1 := wrap_i64 (by omega) (by omega)
  obtain ⟨n, hn⟩ := LL82_3_of w (by omega) (a : Int) 0 ((w : Int) - 1) s H
  have h := loop82 s l hmax a w hw hal H hs w n (Nat.le_refl _)
  rw [Nat.sub_self] at h
  rw [q82, g, hn, show D82_3 (n + w + 1) (a : Int) 0 ((w : Int) - 1) s H = _ from h, bs, J82_3_0]
/-! 75: rope_Rope_At -/
noncomputable def CC75 : Ctx := { P := Try.prog, own := [], fns := [(80, F80), (81, F81), (82, specF enc82 (sem82 f82))], nt := 31, nums := [80, 81], live := [] }
theorem good75 : Callees Try.prog CC75.fns [] CC75.nums := (((Callees.nil Try.prog).cons ok82 (specF_nat _ _)).cons_num ok81 F81_num).cons_num ok80 F80_num
theorem hN75 : CtxNat CC75 := good75.ctx rfl rfl rfl
def enc75 (r : Int × Int) : List TV := [.c (Cell.int .u64 (r.1)), .c (Cell.int .i64 (r.2))]
def dec75 : AV → Option (Int × Int)
  | .tup [.c (Cell.int .u64 q0), .c (Cell.int .i64 q1)] => some (q0, q1)
  | _ => none
theorem de75 (v : AV) (r : Int × Int) (h : dec75 v = some r) : v = oneOf (enc75 r) := by
  unfold dec75 at h
  split at h
  · cases h; rfl
  · cases h
abbrev Ty75 := PO → Int → Int → Heap → Option ((Int × Int) × Heap)
def sem75 (f : Ty75) : List TV → Heap → Option ((Int × Int) × Heap)
  | [.c (Cell.ptr r), .c (Cell.int .i64 x1), .c (Cell.int .i64 w)], H => f r x1 w H
  | _, _ => none
noncomputable def F075 : Ty75 := fun r x1 w H => fnA CC75 Try.f75.results.toList (bodyOf Try.f75) _ [.c (Cell.ptr r), .c (Cell.int .i64 x1), .c (Cell.int .i64 w)] H (decF dec75)
noncomputable def f75 : Ty75 := hide F075
theorem f75_eq : f75 = F075 := hide_eq _
theorem q75 : ∀ (r : PO) (x1 w : Int) (H : Heap), f75 r x1 w H = bif r.isNone then some ((0, 1), H) else bif !bits_Is w then some ((0, 2), H) else r.bind fun v6 => (H.get v6.1 (v6.2 + 0)).bind fun v5 => v5.toSlice.bind fun v4 => bif !rope_store_has v4 x1 w then some ((0, 7), H) else r.bind fun v3 => (H.get v3.1 (v3.2 + 0)).bind fun v2 => v2.toSlice.bind fun v1 => (f82 v1 x1 w H).bind fun v0 => some ((v0.1, 0), v0.2) := by intros; rw [f75_eq]; exact (fnA_lpD hN75 ..).trans (by kernel_rfl)
theorem ok75 : FnOk Try.prog 75 (specF enc75 (sem75 f75)) := by
  refine spec_ok (C := CC75) good75 rfl rfl rfl (by kernel_rfl) Try.func75 (c := bodyOf Try.f75) (by kernel_rfl) (by kernel_rfl) (Nat.le_of_eq Try.ntmps75.symm) dec75 enc75 de75 _ ?_
  intro args H q h
  unfold sem75 at h
  split at h
  · rw [f75_eq] at h; exact h
  · cases h
/-! 60: image_held -/
noncomputable def CC60 : Ctx := { P := Try.prog, own := [2, 3, 8], fns := [(75, specF enc75 (sem75 f75)), (74, specF enc74 (sem74 f74)), (24, specF enc24 (sem24 f24))], nt := 69, nums := [], live := [(3, ⟨[3, 6, 24, 25, 26], [3], [4, 5], []⟩)] }
theorem good60 : Callees Try.prog CC60.fns [] CC60.nums := (((Callees.nil Try.prog).cons ok24 (specF_nat _ _)).cons ok74 (specF_nat _ _)).cons ok75 (specF_nat _ _)
theorem hN60 : CtxNat CC60 := good60.ctx rfl rfl rfl
def enc60 (r : Int × Bool) : List TV := [.c (Cell.int .u64 (r.1)), .c (Cell.bool (r.2))]
def dec60 : AV → Option (Int × Bool)
  | .tup [.c (Cell.int .u64 q0), .c (Cell.bool q1)] => some (q0, q1)
  | _ => none
theorem de60 (v : AV) (r : Int × Bool) (h : dec60 v = some r) : v = oneOf (enc60 r) := by
  unfold dec60 at h
  split at h
  · cases h; rfl
  · cases h
abbrev Ty60 := Int → Int → SO → SO → SO → Int → Int → Int → Heap → Option ((Int × Bool) × Heap)
def sem60 (f : Ty60) : List TV → Heap → Option ((Int × Bool) × Heap)
  | [.agg [Cell.int .i64 x00, Cell.int .u64 x01, Cell.slice x02, Cell.slice x03, Cell.slice x04], .agg [Cell.int .u64 r0, Cell.int .i64 r1, Cell.int .i64 r2]], H => f x00 x01 x02 x03 x04 r0 r1 r2 H
  | _, _ => none
noncomputable def F060 : Ty60 := fun x00 x01 x02 x03 x04 r0 r1 r2 H => fnA CC60 Try.f60.results.toList (bodyOf Try.f60) _ [.agg [Cell.int .i64 x00, Cell.int .u64 x01, Cell.slice x02, Cell.slice x03, Cell.slice x04], .agg [Cell.int .u64 r0, Cell.int .i64 r1, Cell.int .i64 r2]] H (decF dec60)
noncomputable def f60 : Ty60 := hide F060
theorem f60_eq : f60 = F060 := hide_eq _
noncomputable def P60_3 : Code := (Code.l (Code.l (Code.r (Code.l (Code.r (Code.r (bodyOf Try.f60)))))))
def S60_3 (t6 : Int) (t24 : SO) (t25 t26 b3_0 b3_1 b3_2 : Int) (H : Heap) : St := ⟨[(3, .lp 3 0), (6, .c (Cell.int .u64 t6)), (24, .c (Cell.slice t24)), (25, .c (Cell.int .i64 t25)), (26, .c (Cell.int .i64 t26))], [(3, [Cell.int .u64 b3_0, Cell.int .i64 b3_1, Cell.int .i64 b3_2])], H⟩
noncomputable def D60_3 (n : Nat) (t6 : Int) (t24 : SO) (t25 t26 b3_0 b3_1 b3_2 : Int) (H : Heap) : Option (AExit × St) := loopN (exec CC60 P60_3) (keepOf CC60.live P60_3) n (S60_3 t6 t24 t25 t26 b3_0 b3_1 b3_2 H) retD
noncomputable def LL60_3 (t6 : Int) (t24 : SO) (t25 t26 b3_0 b3_1 b3_2 : Int) (H : Heap) : Option (AExit × St) := loopsD CC60 P60_3 (S60_3 t6 t24 t25 t26 b3_0 b3_1 b3_2 H)
theorem LL60_3_of (m : Nat) (hm : m < 18446744073709551616) (t6 : Int) (t24 : SO) (t25 t26 b3_0 b3_1 b3_2 : Int) (H : Heap) : ∃ n, LL60_3 t6 t24 t25 t26 b3_0 b3_1 b3_2 H = D60_3 (n + m + 1) t6 t24 t25 t26 b3_0 b3_1 b3_2 H := loopsD_of _ _ _ m hm
def X60_3 (x0 : Int) (x1 : Bool) (H : Heap) : St := { env := [(4, AV.c (Cell.int .u64 x0)), (5, AV.c (Cell.bool x1))], loc := [], heap := H }
def X60_3a (H : Heap) : St := { env := [], loc := [], heap := H }
noncomputable def J60_3 : AExit × St → Option ((Int × Bool) × Heap) := fun p => blockK 0 (seqK (execL CC60 (lpD CC60) (Code.r (Code.r (Code.r (bodyOf Try.f60))))) (retA CC60 [ResultVar.tmp 4, ResultVar.tmp 5] (decF dec60))) p.1 p.2
theorem D60_3_s : ∀ (n : Nat) (t6 : Int) (t24 : SO) (t25 t26 b3_0 b3_1 b3_2 : Int) (H : Heap), D60_3 (n + 1) t6 t24 t25 t26 b3_0 b3_1 b3_2 H = bif decide (t26 < t25) then t24.bind fun v12 => bif inb t26 v12.len && v12.esz == 5 then (H.get v12.id (v12.off + t26.toNat * 5)).bind fun v11 => (H.get v12.id (v12.off + t26.toNat * 5 + 1)).bind fun v10 => (H.get v12.id (v12.off + t26.toNat * 5 + 1 + 1)).bind fun v9 => (H.get v12.id (v12.off + t26.toNat * 5 + 1 + 1 + 1)).bind fun v8 => (H.get v12.id (v12.off + t26.toNat * 5 + 1 + 1 + 1 + 1)).bind fun v7 => (Cell.toInt .i64 v11).bind fun v6 => (Cell.toInt .i64 v10).bind fun v5 => (Cell.toInt .u64 v9).bind fun v4 => (Cell.toInt .u64 v8).bind fun v3 => v7.toSlice.bind fun v2 => bif band IntKind.i64 v5 1 != 0 then D60_3 n t6 t24 t25 (IntKind.i64.wrap (t26 + 1)) b3_0 b3_1 b3_2 H else bif decide (b3_0 < v4) then D60_3 n t6 t24 t25 (IntKind.i64.wrap (t26 + 1)) b3_0 b3_1 b3_2 H else bif decide (IntKind.u64.wrap (b3_0 - v4) > IntKind.u64.wrap (slen v2)) then D60_3 n t6 t24 t25 (IntKind.i64.wrap (t26 + 1)) b3_0 b3_1 b3_2 H else (f74 (some { id := List.length H, off := 0, len := 1, cap := 1, esz := 1 }) (H ++ [Blk.row [Cell.slice v2] false])).bind fun v1 => (f75 v1.1 (IntKind.i64.wrap (IntKind.u64.wrap (b3_0 - v4))) 8 v1.2).bind fun v0 => bif v0.1.2 == 0 then some (AExit.ret, X60_3 t6 (v0.1.1 == t6) v0.2) else D60_3 n t6 t24 t25 (IntKind.i64.wrap (t26 + 1)) b3_0 b3_1 b3_2 v0.2 else none else some (AExit.exit 0, X60_3a H) := by intros; exact (loopN_stepD hN60 _ _ _ _).trans (by kernel_rfl)
theorem q60 : ∀ (x00 x01 : Int) (x02 x03 x04 : SO) (r0 r1 r2 : Int) (H : Heap), f60 x00 x01 x02 x03 x04 r0 r1 r2 H = x03.bind fun v16 => bif inb r1 v16.len && v16.esz == 4 then (H.get v16.id (v16.off + r1.toNat * 4 + 2)).bind fun v15 => (Cell.toInt .u64 v15).bind fun v14 => (f24 x00 x01 x02 x03 x04 1 H).bind fun v13 => (LL60_3 (IntKind.u64.wrap (v14 + IntKind.u64.wrap r2)) v13.1 (slen v13.1) 0 r0 r1 r2 v13.2).bind J60_3 else none := by intros; rw [f60_eq]; exact (fnA_lpD hN60 ..).trans (by kernel_rfl)
theorem J60_3_0 : ∀ (x0 : Int) (x1 : Bool) (H : Heap), J60_3 (AExit.ret, X60_3 x0 x1 H) = some ((x0, x1), H) := by intros; kernel_rfl
theorem J60_3_1 : ∀ (H : Heap), J60_3 (AExit.exit 0, X60_3a H) = some ((0, false), H) := by intros; kernel_rfl
theorem ok60 : FnOk Try.prog 60 (specF enc60 (sem60 f60)) := by
  refine spec_ok (C := CC60) good60 rfl rfl rfl (by kernel_rfl) Try.func60 (c := bodyOf Try.f60) (by kernel_rfl) (by kernel_rfl) (Nat.le_of_eq Try.ntmps60.symm) dec60 enc60 de60 _ ?_
  intro args H q h
  unfold sem60 at h
  split at h
  · rw [f60_eq] at h; exact h
  · cases h
/-! 33: image_Image_marked -/
noncomputable def CC33 : Ctx := { P := Try.prog, own := [3, 6, 8], fns := [(34, specF enc34 (sem34 f34)), (60, specF enc60 (sem60 f60)), (19, specF enc19 (sem19 f19))], nt := 88, nums := [], live := [(8, ⟨[0, 3, 42, 43, 44], [3], [0, 4], []⟩), (2, ⟨[0, 3, 12, 13, 14], [3], [0, 3], [3]⟩)] }
theorem good33 : Callees Try.prog CC33.fns [] CC33.nums := (((Callees.nil Try.prog).cons ok19 (specF_nat _ _)).cons ok60 (specF_nat _ _)).cons ok34 (specF_nat _ _)
theorem hN33 : CtxNat CC33 := good33.ctx rfl rfl rfl
def enc33 (r : Bool) : List TV := [.c (Cell.bool (r))]
def dec33 : AV → Option (Bool)
  | .c (Cell.bool q0) => some (q0)
  | _ => none
theorem de33 (v : AV) (r : Bool) (h : dec33 v = some r) : v = oneOf (enc33 r) := by
  unfold dec33 at h
  split at h
  · cases h; rfl
  · cases h
abbrev Ty33 := PO → Int → Int → SO → SO → SO → Heap → Option (Bool × Heap)
def sem33 (f : Ty33) : List TV → Heap → Option (Bool × Heap)
  | [.c (Cell.ptr m), .agg [Cell.int .i64 x10, Cell.int .u64 x11, Cell.slice x12, Cell.slice x13, Cell.slice x14]], H => f m x10 x11 x12 x13 x14 H
  | _, _ => none
noncomputable def F033 : Ty33 := fun m x10 x11 x12 x13 x14 H => fnA CC33 Try.f33.results.toList (bodyOf Try.f33) _ [.c (Cell.ptr m), .agg [Cell.int .i64 x10, Cell.int .u64 x11, Cell.slice x12, Cell.slice x13, Cell.slice x14]] H (decF dec33)
noncomputable def f33 : Ty33 := hide F033
theorem f33_eq : f33 = F033 := hide_eq _
noncomputable def P33_2 : Code := (Code.l (Code.l (Code.r (Code.l (Code.r (bodyOf Try.f33))))))
noncomputable def P33_8 : Code := (Code.l (Code.l (Code.r (Code.l (Code.r (Code.r (bodyOf Try.f33)))))))
def S33_2 (t0 : PO) (t12 : SO) (t13 t14 b3_0 b3_1 : Int) (b3_2 b3_3 b3_4 : SO) (H : Heap) : St := ⟨[(0, .c (Cell.ptr t0)), (3, .lp 3 0), (12, .c (Cell.slice t12)), (13, .c (Cell.int .i64 t13)), (14, .c (Cell.int .i64 t14))], [(3, [Cell.int .i64 b3_0, Cell.int .u64 b3_1, Cell.slice b3_2, Cell.slice b3_3, Cell.slice b3_4])], H⟩
noncomputable def D33_2 (n : Nat) (t0 : PO) (t12 : SO) (t13 t14 b3_0 b3_1 : Int) (b3_2 b3_3 b3_4 : SO) (H : Heap) : Option (AExit × St) := loopN (exec CC33 P33_2) (keepOf CC33.live P33_2) n (S33_2 t0 t12 t13 t14 b3_0 b3_1 b3_2 b3_3 b3_4 H) retD
noncomputable def LL33_2 (t0 : PO) (t12 : SO) (t13 t14 b3_0 b3_1 : Int) (b3_2 b3_3 b3_4 : SO) (H : Heap) : Option (AExit × St) := loopsD CC33 P33_2 (S33_2 t0 t12 t13 t14 b3_0 b3_1 b3_2 b3_3 b3_4 H)
theorem LL33_2_of (m : Nat) (hm : m < 18446744073709551616) (t0 : PO) (t12 : SO) (t13 t14 b3_0 b3_1 : Int) (b3_2 b3_3 b3_4 : SO) (H : Heap) : ∃ n, LL33_2 t0 t12 t13 t14 b3_0 b3_1 b3_2 b3_3 b3_4 H = D33_2 (n + m + 1) t0 t12 t13 t14 b3_0 b3_1 b3_2 b3_3 b3_4 H := loopsD_of _ _ _ m hm
def S33_8 (t0 : PO) (t42 : SO) (t43 t44 b3_0 b3_1 : Int) (b3_2 b3_3 b3_4 : SO) (H : Heap) : St := ⟨[(0, .c (Cell.ptr t0)), (3, .lp 3 0), (42, .c (Cell.slice t42)), (43, .c (Cell.int .i64 t43)), (44, .c (Cell.int .i64 t44))], [(3, [Cell.int .i64 b3_0, Cell.int .u64 b3_1, Cell.slice b3_2, Cell.slice b3_3, Cell.slice b3_4])], H⟩
noncomputable def D33_8 (n : Nat) (t0 : PO) (t42 : SO) (t43 t44 b3_0 b3_1 : Int) (b3_2 b3_3 b3_4 : SO) (H : Heap) : Option (AExit × St) := loopN (exec CC33 P33_8) (keepOf CC33.live P33_8) n (S33_8 t0 t42 t43 t44 b3_0 b3_1 b3_2 b3_3 b3_4 H) retD
noncomputable def LL33_8 (t0 : PO) (t42 : SO) (t43 t44 b3_0 b3_1 : Int) (b3_2 b3_3 b3_4 : SO) (H : Heap) : Option (AExit × St) := loopsD CC33 P33_8 (S33_8 t0 t42 t43 t44 b3_0 b3_1 b3_2 b3_3 b3_4 H)
theorem LL33_8_of (m : Nat) (hm : m < 18446744073709551616) (t0 : PO) (t42 : SO) (t43 t44 b3_0 b3_1 : Int) (b3_2 b3_3 b3_4 : SO) (H : Heap) : ∃ n, LL33_8 t0 t42 t43 t44 b3_0 b3_1 b3_2 b3_3 b3_4 H = D33_8 (n + m + 1) t0 t42 t43 t44 b3_0 b3_1 b3_2 b3_3 b3_4 H := loopsD_of _ _ _ m hm
def X33_8 (x0 : PO) (x1 : Bool) (H : Heap) : St := { env := [(0, AV.c (Cell.ptr x0)), (4, AV.c (Cell.bool x1))], loc := [], heap := H }
def X33_8a (x0 : PO) (H : Heap) : St := { env := [(0, AV.c (Cell.ptr x0))], loc := [], heap := H }
def X33_2 (x0 : PO) (x1 : Int) (x2 : Int) (x3 : SO) (x4 : SO) (x5 : SO) (H : Heap) : St := { env := [(0, AV.c (Cell.ptr x0)), (3, AV.lp 3 0)], loc := [(3, [Cell.int .i64 x1, Cell.int .u64 x2, Cell.slice x3, Cell.slice x4, Cell.slice x5])], heap := H }
noncomputable def J33_2 : AExit × St → Option (Bool × Heap) := fun p => blockK 0 (seqK (execL CC33 (lpD CC33) (Code.r (Code.r (bodyOf Try.f33)))) (retA CC33 [ResultVar.tmp 4] (decF dec33))) p.1 p.2
noncomputable def J33_8 : AExit × St → Option (Bool × Heap) := fun p => blockK 2 (seqK (execL CC33 (lpD CC33) (Code.r (Code.r (Code.r (bodyOf Try.f33))))) (retA CC33 [ResultVar.tmp 4] (decF dec33))) p.1 p.2
theorem D33_8_s : ∀ (n : Nat) (t0 : PO) (t42 : SO) (t43 t44 b3_0 b3_1 : Int) (b3_2 b3_3 b3_4 : SO) (H : Heap), D33_8 (n + 1) t0 t42 t43 t44 b3_0 b3_1 b3_2 b3_3 b3_4 H = bif decide (t44 < t43) then t42.bind fun v35 => bif inb t44 v35.len && v35.esz == 3 then (H.get v35.id (v35.off + t44.toNat * 3)).bind fun v34 => (H.get v35.id (v35.off + t44.toNat * 3 + 1)).bind fun v33 => (H.get v35.id (v35.off + t44.toNat * 3 + 1 + 1)).bind fun v32 => (Cell.toInt .u64 v34).bind fun v31 => (Cell.toInt .i64 v33).bind fun v30 => (Cell.toInt .i64 v32).bind fun v29 => (f60 b3_0 b3_1 b3_2 b3_3 b3_4 v31 v30 v29 H).bind fun v28 => bif !v28.1.2 then some (AExit.ret, X33_8 t0 false v28.2) else t0.bind fun v27 => (v28.2.get v27.1 v27.2).bind fun v26 => (v28.2.get v27.1 (v27.2 + 1)).bind fun v25 => (v28.2.get v27.1 (v27.2 + 1 + 1)).bind fun v24 => (v28.2.get v27.1 (v27.2 + 1 + 1 + 1)).bind fun v23 => (v28.2.get v27.1 (v27.2 + 1 + 1 + 1 + 1)).bind fun v22 => (v28.2.get v27.1 (v27.2 + 1 + 1 + 1 + 1 + 1)).bind fun v21 => (v28.2.get v27.1 (v27.2 + 1 + 1 + 1 + 1 + 1 + 1)).bind fun v20 => (v28.2.get v27.1 (v27.2 + 1 + 1 + 1 + 1 + 1 + 1 + 1)).bind fun v19 => (v28.2.get v27.1 (v27.2 + 1 + 1 + 1 + 1 + 1 + 1 + 1 + 1)).bind fun v18 => (v28.2.get v27.1 (v27.2 + 1 + 1 + 1 + 1 + 1 + 1 + 1 + 1 + 1)).bind fun v17 => (Cell.toInt .i64 v26).bind fun v16 => (Cell.toInt .i64 v25).bind fun v15 => (Cell.toInt .u64 v24).bind fun v14 => (Cell.toInt .u64 v23).bind fun v13 => v22.toSlice.bind fun v12 => v21.toSlice.bind fun v11 => v20.toSlice.bind fun v10 => (Cell.toInt .u64 v19).bind fun v9 => v18.toSlice.bind fun v8 => v17.toSlice.bind fun v7 => (f19 v16 v15 v14 v13 v12 v11 v10 v9 v8 v7 v28.1.1 v28.2).bind fun v6 => bif v6.1 then t0.bind fun v5 => (v6.2.get v5.1 (v5.2 + 9)).bind fun v4 => v4.toSlice.bind fun v3 => ((v6.2 ++ [Blk.row [Cell.int .u64 v28.1.1] false]).append 1 8 v3 (some { id := List.length v6.2, off := 0, len := 1, cap := 1, esz := 1 })).bind fun v2 => t0.bind fun v1 => (v2.2.put v1.1 (v1.2 + 9) [Cell.slice v2.1]).bind fun v0 => D33_8 n t0 t42 t43 (IntKind.i64.wrap (t44 + 1)) b3_0 b3_1 b3_2 b3_3 b3_4 v0 else D33_8 n t0 t42 t43 (IntKind.i64.wrap (t44 + 1)) b3_0 b3_1 b3_2 b3_3 b3_4 v6.2 else none else some (AExit.exit 2, X33_8a t0 H) := by intros; exact (loopN_stepD hN33 _ _ _ _).trans (by kernel_rfl)
theorem D33_2_s : ∀ (n : Nat) (t0 : PO) (t12 : SO) (t13 t14 b3_0 b3_1 : Int) (b3_2 b3_3 b3_4 : SO) (H : Heap), D33_2 (n + 1) t0 t12 t13 t14 b3_0 b3_1 b3_2 b3_3 b3_4 H = bif decide (t14 < t13) then t12.bind fun v72 => bif inb t14 v72.len && v72.esz == 4 then (H.get v72.id (v72.off + t14.toNat * 4)).bind fun v71 => (H.get v72.id (v72.off + t14.toNat * 4 + 1)).bind fun v70 => (H.get v72.id (v72.off + t14.toNat * 4 + 1 + 1)).bind fun v69 => (H.get v72.id (v72.off + t14.toNat * 4 + 1 + 1 + 1)).bind fun v68 => v71.toStr.bind fun v67 => (Cell.toInt .i64 v70).bind fun v66 => (Cell.toInt .u64 v69).bind fun v65 => (Cell.toInt .u64 v68).bind fun v64 => bif v66 == 2 then t0.bind fun v63 => (H.get v63.1 v63.2).bind fun v62 => (H.get v63.1 (v63.2 + 1)).bind fun v61 => (H.get v63.1 (v63.2 + 1 + 1)).bind fun v60 => (H.get v63.1 (v63.2 + 1 + 1 + 1)).bind fun v59 => (H.get v63.1 (v63.2 + 1 + 1 + 1 + 1)).bind fun v58 => (H.get v63.1 (v63.2 + 1 + 1 + 1 + 1 + 1)).bind fun v57 => (H.get v63.1 (v63.2 + 1 + 1 + 1 + 1 + 1 + 1)).bind fun v56 => (H.get v63.1 (v63.2 + 1 + 1 + 1 + 1 + 1 + 1 + 1)).bind fun v55 => (H.get v63.1 (v63.2 + 1 + 1 + 1 + 1 + 1 + 1 + 1 + 1)).bind fun v54 => (H.get v63.1 (v63.2 + 1 + 1 + 1 + 1 + 1 + 1 + 1 + 1 + 1)).bind fun v53 => (Cell.toInt .i64 v62).bind fun v52 => (Cell.toInt .i64 v61).bind fun v51 => (Cell.toInt .u64 v60).bind fun v50 => (Cell.toInt .u64 v59).bind fun v49 => v58.toSlice.bind fun v48 => v57.toSlice.bind fun v47 => v56.toSlice.bind fun v46 => (Cell.toInt .u64 v55).bind fun v45 => v54.toSlice.bind fun v44 => v53.toSlice.bind fun v43 => (f19 v52 v51 v50 v49 v48 v47 v46 v45 v44 v43 v65 H).bind fun v42 => bif v42.1 then t0.bind fun v41 => (v42.2.get v41.1 (v41.2 + 8)).bind fun v40 => v40.toSlice.bind fun v39 => ((v42.2 ++ [Blk.row [Cell.int .u64 v65] false]).append 1 8 v39 (some { id := List.length v42.2, off := 0, len := 1, cap := 1, esz := 1 })).bind fun v38 => t0.bind fun v37 => (v38.2.put v37.1 (v37.2 + 8) [Cell.slice v38.1]).bind fun v36 => D33_2 n t0 t12 t13 (IntKind.i64.wrap (t14 + 1)) b3_0 b3_1 b3_2 b3_3 b3_4 v36 else D33_2 n t0 t12 t13 (IntKind.i64.wrap (t14 + 1)) b3_0 b3_1 b3_2 b3_3 b3_4 v42.2 else D33_2 n t0 t12 t13 (IntKind.i64.wrap (t14 + 1)) b3_0 b3_1 b3_2 b3_3 b3_4 H else none else some (AExit.exit 0, X33_2 t0 b3_0 b3_1 b3_2 b3_3 b3_4 H) := by intros; exact (loopN_stepD hN33 _ _ _ _).trans (by kernel_rfl)
theorem q33 : ∀ (m : PO) (x10 x11 : Int) (x12 x13 x14 : SO) (H : Heap), f33 m x10 x11 x12 x13 x14 H = (LL33_2 m x13 (slen x13) 0 x10 x11 x12 x13 x14 H).bind J33_2 := by intros; rw [f33_eq]; exact (fnA_lpD hN33 ..).trans (by kernel_rfl)
theorem J33_2_0 : ∀ (x0 : PO) (x1 x2 : Int) (x3 x4 x5 : SO) (H : Heap), J33_2 (AExit.exit 0, X33_2 x0 x1 x2 x3 x4 x5 H) = (LL33_8 x0 x5 (slen x5) 0 x1 x2 x3 x4 x5 H).bind J33_8 := by intros; kernel_rfl
theorem J33_8_0 : ∀ (x0 : PO) (x1 : Bool) (H : Heap), J33_8 (AExit.ret, X33_8 x0 x1 H) = some (x1, H) := by intros; kernel_rfl
theorem J33_8_1 : ∀ (x0 : PO) (H : Heap), J33_8 (AExit.exit 2, X33_8a x0 H) = x0.bind fun v84 => (H.get v84.1 (v84.2 + 8)).bind fun v83 => v83.toSlice.bind fun v82 => (f34 v82 H).bind fun v81 => x0.bind fun v80 => (v81.2.get v80.1 (v80.2 + 9)).bind fun v79 => v79.toSlice.bind fun v78 => bif same v80.1 H v81.2 then (f34 v78 v81.2).bind fun v77 => x0.bind fun v76 => (v77.2.put v76.1 (v76.2 + 8) [Cell.slice v81.1]).bind fun v75 => x0.bind fun v74 => (v75.put v74.1 (v74.2 + 9) [Cell.slice v77.1]).bind fun v73 => some (true, v73) else none := by intros; kernel_rfl
theorem ok33 : FnOk Try.prog 33 (specF enc33 (sem33 f33)) := by
  refine spec_ok (C := CC33) good33 rfl rfl rfl (by kernel_rfl) Try.func33 (c := bodyOf Try.f33) (by kernel_rfl) (by kernel_rfl) (Nat.le_of_eq Try.ntmps33.symm) dec33 enc33 de33 _ ?_
  intro args H q h
  unfold sem33 at h
  split at h
  · rw [f33_eq] at h; exact h
  · cases h
/-! 7: image_Of -/
noncomputable def CC7 : Ctx := { P := Try.prog, own := [1, 2, 5], fns := [(33, specF enc33 (sem33 f33)), (32, specF enc32 (sem32 f32)), (29, specF enc29 (sem29 f29)), (27, specF enc27 (sem27 f27)), (19, specF enc19 (sem19 f19)), (26, specF enc26 (sem26 f26)), (25, specF enc25 (sem25 f25)), (24, specF enc24 (sem24 f24)), (23, specF enc23 (sem23 f23)), (22, specF enc22 (sem22 f22))], nt := 89, nums := [], live := [(18, ⟨[1, 2, 7, 61, 62], [1, 2], [1, 2, 7], [1, 2]⟩)] }
theorem good7 : Callees Try.prog CC7.fns [] CC7.nums := ((((((((((Callees.nil Try.prog).cons ok22 (specF_nat _ _)).cons ok23 (specF_nat _ _)).cons ok24 (specF_nat _ _)).cons ok25 (specF_nat _ _)).cons ok26 (specF_nat _ _)).cons ok19 (specF_nat _ _)).cons ok27 (specF_nat _ _)).cons ok29 (specF_nat _ _)).cons ok32 (specF_nat _ _)).cons ok33 (specF_nat _ _)
theorem hN7 : CtxNat CC7 := good7.ctx rfl rfl rfl
def enc7 (r : Int × Int × Int × Int × SO × SO × SO × Int × SO × SO × Int) : List TV := [.agg [Cell.int .i64 (r.1), Cell.int .i64 (r.2.1), Cell.int .u64 (r.2.2.1), Cell.int .u64 (r.2.2.2.1), Cell.slice (r.2.2.2.2.1), Cell.slice (r.2.2.2.2.2.1), Cell.slice (r.2.2.2.2.2.2.1), Cell.int .u64 (r.2.2.2.2.2.2.2.1), Cell.slice (r.2.2.2.2.2.2.2.2.1), Cell.slice (r.2.2.2.2.2.2.2.2.2.1)], .c (Cell.int .i64 (r.2.2.2.2.2.2.2.2.2.2))]
def dec7 : AV → Option (Int × Int × Int × Int × SO × SO × SO × Int × SO × SO × Int)
  | .tup [.agg [Cell.int .i64 q0, Cell.int .i64 q1, Cell.int .u64 q2, Cell.int .u64 q3, Cell.slice q4, Cell.slice q5, Cell.slice q6, Cell.int .u64 q7, Cell.slice q8, Cell.slice q9], .c (Cell.int .i64 q10)] => some (q0, q1, q2, q3, q4, q5, q6, q7, q8, q9, q10)
  | _ => none
theorem de7 (v : AV) (r : Int × Int × Int × Int × SO × SO × SO × Int × SO × SO × Int) (h : dec7 v = some r) : v = oneOf (enc7 r) := by
  unfold dec7 at h
  split at h
  · cases h; rfl
  · cases h
abbrev Ty7 := Int → Int → SO → SO → SO → Heap → Option ((Int × Int × Int × Int × SO × SO × SO × Int × SO × SO × Int) × Heap)
def sem7 (f : Ty7) : List TV → Heap → Option ((Int × Int × Int × Int × SO × SO × SO × Int × SO × SO × Int) × Heap)
  | [.agg [Cell.int .i64 x00, Cell.int .u64 x01, Cell.slice x02, Cell.slice x03, Cell.slice x04]], H => f x00 x01 x02 x03 x04 H
  | _, _ => none
noncomputable def F07 : Ty7 := fun x00 x01 x02 x03 x04 H => fnA CC7 Try.f7.results.toList (bodyOf Try.f7) _ [.agg [Cell.int .i64 x00, Cell.int .u64 x01, Cell.slice x02, Cell.slice x03, Cell.slice x04]] H (decF dec7)
noncomputable def f7 : Ty7 := hide F07
theorem f7_eq : f7 = F07 := hide_eq _
noncomputable def P7_18 : Code := (Code.l (Code.l (Code.r (Code.l (Code.r (Code.r (Code.r (Code.r (Code.r (Code.r (Code.r (Code.r (Code.r (Code.r (bodyOf Try.f7)))))))))))))))
def S7_18 (t7 : Nat) (t61 t62 b1_0 b1_1 : Int) (b1_2 b1_3 b1_4 : SO) (b2_0 b2_1 b2_2 b2_3 : Int) (b2_4 b2_5 b2_6 : SO) (b2_7 : Int) (b2_8 b2_9 : SO) (H : Heap) : St := ⟨[(1, .lp 1 0), (2, .lp 2 0), (7, .c (Cell.ptr (some (t7, 0)))), (61, .c (Cell.int .i64 t61)), (62, .c (Cell.int .i64 t62))], [(1, [Cell.int .i64 b1_0, Cell.int .u64 b1_1, Cell.slice b1_2, Cell.slice b1_3, Cell.slice b1_4]), (2, [Cell.int .i64 b2_0, Cell.int .i64 b2_1, Cell.int .u64 b2_2, Cell.int .u64 b2_3, Cell.slice b2_4, Cell.slice b2_5, Cell.slice b2_6, Cell.int .u64 b2_7, Cell.slice b2_8, Cell.slice b2_9])], H⟩
noncomputable def D7_18 (n : Nat) (t7 : Nat) (t61 t62 b1_0 b1_1 : Int) (b1_2 b1_3 b1_4 : SO) (b2_0 b2_1 b2_2 b2_3 : Int) (b2_4 b2_5 b2_6 : SO) (b2_7 : Int) (b2_8 b2_9 : SO) (H : Heap) : Option (AExit × St) := loopN (exec CC7 P7_18) (keepOf CC7.live P7_18) n (S7_18 t7 t61 t62 b1_0 b1_1 b1_2 b1_3 b1_4 b2_0 b2_1 b2_2 b2_3 b2_4 b2_5 b2_6 b2_7 b2_8 b2_9 H) retD
noncomputable def LL7_18 (t7 : Nat) (t61 t62 b1_0 b1_1 : Int) (b1_2 b1_3 b1_4 : SO) (b2_0 b2_1 b2_2 b2_3 : Int) (b2_4 b2_5 b2_6 : SO) (b2_7 : Int) (b2_8 b2_9 : SO) (H : Heap) : Option (AExit × St) := loopsD CC7 P7_18 (S7_18 t7 t61 t62 b1_0 b1_1 b1_2 b1_3 b1_4 b2_0 b2_1 b2_2 b2_3 b2_4 b2_5 b2_6 b2_7 b2_8 b2_9 H)
theorem LL7_18_of (m : Nat) (hm : m < 18446744073709551616) (t7 : Nat) (t61 t62 b1_0 b1_1 : Int) (b1_2 b1_3 b1_4 : SO) (b2_0 b2_1 b2_2 b2_3 : Int) (b2_4 b2_5 b2_6 : SO) (b2_7 : Int) (b2_8 b2_9 : SO) (H : Heap) : ∃ n, LL7_18 t7 t61 t62 b1_0 b1_1 b1_2 b1_3 b1_4 b2_0 b2_1 b2_2 b2_3 b2_4 b2_5 b2_6 b2_7 b2_8 b2_9 H = D7_18 (n + m + 1) t7 t61 t62 b1_0 b1_1 b1_2 b1_3 b1_4 b2_0 b2_1 b2_2 b2_3 b2_4 b2_5 b2_6 b2_7 b2_8 b2_9 H := loopsD_of _ _ _ m hm
def X7_18 (x0 : Nat) (x1 : Int) (x2 : Int) (x3 : SO) (x4 : SO) (x5 : SO) (x6 : Int) (x7 : Int) (x8 : Int) (x9 : Int) (x10 : SO) (x11 : SO) (x12 : SO) (x13 : Int) (x14 : SO) (x15 : SO) (H : Heap) : St := { env := [(1, AV.lp 1 0), (2, AV.lp 2 0), (7, AV.c (Cell.ptr (some (x0, 0))))], loc := [(1, [Cell.int .i64 x1, Cell.int .u64 x2, Cell.slice x3, Cell.slice x4, Cell.slice x5]), (2, [Cell.int .i64 x6, Cell.int .i64 x7, Cell.int .u64 x8, Cell.int .u64 x9, Cell.slice x10, Cell.slice x11, Cell.slice x12, Cell.int .u64 x13, Cell.slice x14, Cell.slice x15])], heap := H }
noncomputable def J7_18 : AExit × St → Option ((Int × Int × Int × Int × Option Sl × Option Sl × Option Sl × Int × Option Sl × Option Sl × Int) × Heap) := fun p => blockK 1 (seqK (execL CC7 (lpD CC7) (Code.r (Code.r (Code.r (Code.r (Code.r (Code.r (Code.r (Code.r (Code.r (Code.r (Code.r (bodyOf Try.f7))))))))))))) (retA CC7 [ResultVar.cell 2 36, ResultVar.tmp 3] (decF dec7))) p.1 p.2
theorem D7_18_s : ∀ (n t7 : Nat) (t61 t62 b1_0 b1_1 : Int) (b1_2 b1_3 b1_4 : SO) (b2_0 b2_1 b2_2 b2_3 : Int) (b2_4 b2_5 b2_6 : SO) (b2_7 : Int) (b2_8 b2_9 : SO) (H : Heap), D7_18 (n + 1) t7 t61 t62 b1_0 b1_1 b1_2 b1_3 b1_4 b2_0 b2_1 b2_2 b2_3 b2_4 b2_5 b2_6 b2_7 b2_8 b2_9 H = bif decide (t62 < t61) then (H.get t7 5).bind fun v9 => v9.toSlice.bind fun v8 => (H.get t7 5).bind fun v7 => v7.toSlice.bind fun v6 => v6.bind fun v5 => bif inb t62 v5.len && v5.esz == 5 then (H.get v5.id (v5.off + t62.toNat * 5 + 4)).bind fun v4 => v4.toSlice.bind fun v3 => (f32 v3 H).bind fun v2 => bif same t7 H v2.2 then v8.bind fun v1 => bif inb t62 v1.len && v1.esz == 5 then (v2.2.put v1.id (v1.off + t62.toNat * 5 + 4) [Cell.slice v2.1]).bind fun v0 => D7_18 n t7 t61 (IntKind.i64.wrap (t62 + 1)) b1_0 b1_1 b1_2 b1_3 b1_4 b2_0 b2_1 b2_2 b2_3 b2_4 b2_5 b2_6 b2_7 b2_8 b2_9 v0 else none else none else none else some (AExit.exit 1, X7_18 t7 b1_0 b1_1 b1_2 b1_3 b1_4 b2_0 b2_1 b2_2 b2_3 b2_4 b2_5 b2_6 b2_7 b2_8 b2_9 H) := by intros; exact (loopN_stepD hN7 _ _ _ _).trans (by kernel_rfl)
theorem q7 : ∀ (x00 x01 : Int) (x02 x03 x04 : SO) (H : Heap), f7 x00 x01 x02 x03 x04 H = (f22 x00 x01 x02 x03 x04 H).bind fun v46 => bif !v46.1 then some ((0, 0, 0, 0, none, none, none, 0, none, none, 20), v46.2) else bif x00 != 62 then some ((0, 0, 0, 0, none, none, none, 0, none, none, 20), v46.2) else (f23 x00 x01 x02 x03 x04 v46.2).bind fun v45 => bif !v45.1 then some ((0, 0, 0, 0, none, none, none, 0, none, none, 23), v45.2) else (f24 x00 x01 x02 x03 x04 1 v45.2).bind fun v44 => (f25 v44.1 v44.2).bind fun v43 => bif !v43.1.2.2.2.2.2 then some ((0, 0, 0, 0, none, none, none, 0, none, none, 21), v43.2) else ((v43.2 ++ [Blk.row [Cell.int .i64 0, Cell.int .i64 0, Cell.int .u64 0, Cell.int .u64 0, Cell.slice none, Cell.slice none, Cell.slice none, Cell.int .u64 0, Cell.slice none, Cell.slice none] false]).put (List.length v43.2) 0 [Cell.int .i64 v43.1.1, Cell.int .i64 v43.1.2.1, Cell.int .u64 v43.1.2.2.1, Cell.int .u64 v43.1.2.2.2.1, Cell.slice v43.1.2.2.2.2.1, Cell.slice none, Cell.slice none, Cell.int .u64 x01, Cell.slice none, Cell.slice none]).bind fun v42 => (f26 x00 x01 x02 x03 x04 v42).bind fun v41 => (v41.2.put (List.length v43.2) 6 [Cell.slice v41.1.1]).bind fun v40 => bif !v41.1.2 then some ((0, 0, 0, 0, none, none, none, 0, none, none, 25), v40) else (v40.get (List.length v43.2) 0).bind fun v39 => (v40.get (List.length v43.2) 1).bind fun v38 => (v40.get (List.length v43.2) 2).bind fun v37 => (v40.get (List.length v43.2) 3).bind fun v36 => (v40.get (List.length v43.2) 4).bind fun v35 => (v40.get (List.length v43.2) 5).bind fun v34 => (v40.get (List.length v43.2) 6).bind fun v33 => (v40.get (List.length v43.2) 7).bind fun v32 => (v40.get (List.length v43.2) 8).bind fun v31 => (v40.get (List.length v43.2) 9).bind fun v30 => (Cell.toInt .i64 v39).bind fun v29 => (Cell.toInt .i64 v38).bind fun v28 => (Cell.toInt .u64 v37).bind fun v27 => (Cell.toInt .u64 v36).bind fun v26 => v35.toSlice.bind fun v25 => v34.toSlice.bind fun v24 => v33.toSlice.bind fun v23 => (Cell.toInt .u64 v32).bind fun v22 => v31.toSlice.bind fun v21 => v30.toSlice.bind fun v20 => (v40.get (List.length v43.2) 7).bind fun v19 => (Cell.toInt .u64 v19).bind fun v18 => (f19 v29 v28 v27 v26 v25 v24 v23 v22 v21 v20 v18 v40).bind fun v17 => bif !v17.1 then some ((0, 0, 0, 0, none, none, none, 0, none, none, 7), v17.2) else (f27b v44.1 v17.2).bind fun v16 => (v16.2.put (List.length v43.2) 5 [Cell.slice v16.1]).bind fun v15 => (v15.get (List.length v43.2) 5).bind fun v14 => v14.toSlice.bind fun v13 => (f29a v13 v15).bind fun v12 => (v12.2.get (List.length v43.2) 5).bind fun v11 => v11.toSlice.bind fun v10 => (LL7_18 (List.length v43.2) (slen v10) 0 x00 x01 x02 x03 x04 0 0 0 0 none none none 0 none none v12.2).bind J7_18 := by intros; rw [f7_eq]; exact (fnA_lpD hN7 ..).trans (by kernel_rfl)
theorem J7_18_0 : ∀ (x0 : Nat) (x1 x2 : Int) (x3 x4 x5 : SO) (x6 x7 x8 x9 : Int) (x10 x11 x12 : SO) (x13 : Int) (x14 x15 : SO) (H : Heap), J7_18 (AExit.exit 1, X7_18 x0 x1 x2 x3 x4 x5 x6 x7 x8 x9 x10 x11 x12 x13 x14 x15 H) = (H.get x0 4).bind fun v71 => v71.toSlice.bind fun v70 => (f32 v70 H).bind fun v69 => (v69.2.put x0 4 [Cell.slice v69.1]).bind fun v68 => (f33 (some (x0, 0)) x1 x2 x3 x4 x5 v68).bind fun v67 => bif !v67.1 then some ((0, 0, 0, 0, none, none, none, 0, none, none, 20), v67.2) else (v67.2.get x0 0).bind fun v66 => (v67.2.get x0 1).bind fun v65 => (v67.2.get x0 2).bind fun v64 => (v67.2.get x0 3).bind fun v63 => (v67.2.get x0 4).bind fun v62 => (v67.2.get x0 5).bind fun v61 => (v67.2.get x0 6).bind fun v60 => (v67.2.get x0 7).bind fun v59 => (v67.2.get x0 8).bind fun v58 => (v67.2.get x0 9).bind fun v57 => (Cell.toInt .i64 v66).bind fun v56 => (Cell.toInt .i64 v65).bind fun v55 => (Cell.toInt .u64 v64).bind fun v54 => (Cell.toInt .u64 v63).bind fun v53 => v62.toSlice.bind fun v52 => v61.toSlice.bind fun v51 => v60.toSlice.bind fun v50 => (Cell.toInt .u64 v59).bind fun v49 => v58.toSlice.bind fun v48 => v57.toSlice.bind fun v47 => some ((v56, v55, v54, v53, v52, v51, v50, v49, v48, v47, 0), v67.2) := by intros; kernel_rfl
theorem ok7 : FnOk Try.prog 7 (specF enc7 (sem7 f7)) := by
  refine spec_ok (C := CC7) good7 rfl rfl rfl (by kernel_rfl) Try.func7 (c := bodyOf Try.f7) (by kernel_rfl) (by kernel_rfl) (Nat.le_of_eq Try.ntmps7.symm) dec7 enc7 de7 _ ?_
  intro args H q h
  unfold sem7 at h
  split at h
  · rw [f7_eq] at h; exact h
  · cases h
/-! 13: image_Image_Roots -/
noncomputable def CC13 : Ctx := { P := Try.prog, own := [1], fns := [(34, specF enc34 (sem34 f34)), (35, specF enc35 (sem35 f35))], nt := 13, nums := [], live := [] }
theorem good13 : Callees Try.prog CC13.fns [] CC13.nums := ((Callees.nil Try.prog).cons ok35 (specF_nat _ _)).cons ok34 (specF_nat _ _)
theorem hN13 : CtxNat CC13 := good13.ctx rfl rfl rfl
def enc13 (r : SO) : List TV := [.c (Cell.slice (r))]
def dec13 : AV → Option (SO)
  | .c (Cell.slice q0) => some (q0)
  | _ => none
theorem de13 (v : AV) (r : SO) (h : dec13 v = some r) : v = oneOf (enc13 r) := by
  unfold dec13 at h
  split at h
  · cases h; rfl
  · cases h
abbrev Ty13 := Int → Int → Int → Int → SO → SO → SO → Int → SO → SO → Heap → Option (SO × Heap)
def sem13 (f : Ty13) : List TV → Heap → Option (SO × Heap)
  | [.agg [Cell.int .i64 m0, Cell.int .i64 m1, Cell.int .u64 m2, Cell.int .u64 m3, Cell.slice m4, Cell.slice m5, Cell.slice m6, Cell.int .u64 m7, Cell.slice m8, Cell.slice m9]], H => f m0 m1 m2 m3 m4 m5 m6 m7 m8 m9 H
  | _, _ => none
noncomputable def F013 : Ty13 := fun m0 m1 m2 m3 m4 m5 m6 m7 m8 m9 H => fnA CC13 Try.f13.results.toList (bodyOf Try.f13) _ [.agg [Cell.int .i64 m0, Cell.int .i64 m1, Cell.int .u64 m2, Cell.int .u64 m3, Cell.slice m4, Cell.slice m5, Cell.slice m6, Cell.int .u64 m7, Cell.slice m8, Cell.slice m9]] H (decF dec13)
noncomputable def f13 : Ty13 := hide F013
theorem f13_eq : f13 = F013 := hide_eq _
theorem q13 : ∀ (m0 m1 m2 m3 : Int) (m4 m5 m6 : SO) (m7 : Int) (m8 m9 : SO) (H : Heap), f13 m0 m1 m2 m3 m4 m5 m6 m7 m8 m9 H = (f35 (some { id := List.length (H ++ [Blk.row [Cell.int .u64 m7] false]), off := 0, len := 3, cap := 3, esz := 1 }) (H ++ [Blk.row [Cell.int .u64 m7] false] ++ [Blk.row [Cell.slice (some { id := List.length H, off := 0, len := 1, cap := 1, esz := 1 }), Cell.slice m8, Cell.slice m9] false])).bind fun v1 => (f34 v1.1 v1.2).bind fun v0 => some (v0.1, v0.2) := by intros; rw [f13_eq]; exact (fnA_lpD hN13 ..).trans (by kernel_rfl)
theorem ok13 : FnOk Try.prog 13 (specF enc13 (sem13 f13)) := by
  refine spec_ok (C := CC13) good13 rfl rfl rfl (by kernel_rfl) Try.func13 (c := bodyOf Try.f13) (by kernel_rfl) (by kernel_rfl) (Nat.le_of_eq Try.ntmps13.symm) dec13 enc13 de13 _ ?_
  intro args H q h
  unfold sem13 at h
  split at h
  · rw [f13_eq] at h; exact h
  · cases h
/-! 42: image_byteOf -/
noncomputable def CC42 : Ctx := { P := Try.prog, own := [2], fns := [], nt := 21, nums := [], live := [] }
theorem good42 : Callees Try.prog CC42.fns [] CC42.nums := Callees.nil Try.prog
theorem hN42 : CtxNat CC42 := good42.ctx rfl rfl rfl
def enc42 (r : Int) : List TV := [.c (Cell.int .u8 (r))]
def dec42 : AV → Option (Int)
  | .c (Cell.int .u8 q0) => some (q0)
  | _ => none
theorem de42 (v : AV) (r : Int) (h : dec42 v = some r) : v = oneOf (enc42 r) := by
  unfold dec42 at h
  split at h
  · cases h; rfl
  · cases h
abbrev Ty42 := Int → Int → Int → Int → SO → Int → Heap → Option (Int × Heap)
def sem42 (f : Ty42) : List TV → Heap → Option (Int × Heap)
  | [.agg [Cell.int .i64 s0, Cell.int .i64 s1, Cell.int .u64 s2, Cell.int .u64 s3, Cell.slice s4], .c (Cell.int .u64 x1)], H => f s0 s1 s2 s3 s4 x1 H
  | _, _ => none
noncomputable def F042 : Ty42 := fun s0 s1 s2 s3 s4 x1 H => fnA CC42 Try.f42.results.toList (bodyOf Try.f42) _ [.agg [Cell.int .i64 s0, Cell.int .i64 s1, Cell.int .u64 s2, Cell.int .u64 s3, Cell.slice s4], .c (Cell.int .u64 x1)] H (decF dec42)
noncomputable def f42 : Ty42 := hide F042
theorem f42_eq : f42 = F042 := hide_eq _
theorem q42 : ∀ (s0 s1 s2 s3 : Int) (s4 : SO) (x1 : Int) (H : Heap), f42 s0 s1 s2 s3 s4 x1 H = bif decide (IntKind.u64.wrap (x1 - s2) < IntKind.u64.wrap (slen s4)) then s4.bind fun v2 => bif inb (IntKind.u64.wrap (x1 - s2)) v2.len && v2.esz == 1 then (H.get v2.id (v2.off + (IntKind.u64.wrap (x1 - s2)).toNat * 1)).bind fun v1 => (Cell.toInt .u8 v1).bind fun v0 => some (v0, H) else none else some (0, H) := by intros; rw [f42_eq]; exact (fnA_lpD hN42 ..).trans (by kernel_rfl)
theorem ok42 : FnOk Try.prog 42 (specF enc42 (sem42 f42)) := by
  refine spec_ok (C := CC42) good42 rfl rfl rfl (by kernel_rfl) Try.func42 (c := bodyOf Try.f42) (by kernel_rfl) (by kernel_rfl) (Nat.le_of_eq Try.ntmps42.symm) dec42 enc42 de42 _ ?_
  intro args H q h
  unfold sem42 at h
  split at h
  · rw [f42_eq] at h; exact h
  · cases h
/-! 15: image_Image_Byte -/
noncomputable def CC15 : Ctx := { P := Try.prog, own := [2, 7], fns := [(10, specF enc10 (sem10 f10)), (42, specF enc42 (sem42 f42)), (19, specF enc19 (sem19 f19))], nt := 29, nums := [], live := [(4, ⟨[1, 16, 17, 18], [], [4, 5], []⟩)] }
theorem good15 : Callees Try.prog CC15.fns [] CC15.nums := (((Callees.nil Try.prog).cons ok19 (specF_nat _ _)).cons ok42 (specF_nat _ _)).cons ok10 (specF_nat _ _)
theorem hN15 : CtxNat CC15 := good15.ctx rfl rfl rfl
def enc15 (r : Int × Bool) : List TV := [.c (Cell.int .u8 (r.1)), .c (Cell.bool (r.2))]
def dec15 : AV → Option (Int × Bool)
  | .tup [.c (Cell.int .u8 q0), .c (Cell.bool q1)] => some (q0, q1)
  | _ => none
theorem de15 (v : AV) (r : Int × Bool) (h : dec15 v = some r) : v = oneOf (enc15 r) := by
  unfold dec15 at h
  split at h
  · cases h; rfl
  · cases h
abbrev Ty15 := Int → Int → Int → Int → SO → SO → SO → Int → SO → SO → Int → Heap → Option ((Int × Bool) × Heap)
def sem15 (f : Ty15) : List TV → Heap → Option ((Int × Bool) × Heap)
  | [.agg [Cell.int .i64 m0, Cell.int .i64 m1, Cell.int .u64 m2, Cell.int .u64 m3, Cell.slice m4, Cell.slice m5, Cell.slice m6, Cell.int .u64 m7, Cell.slice m8, Cell.slice m9], .c (Cell.int .u64 x1)], H => f m0 m1 m2 m3 m4 m5 m6 m7 m8 m9 x1 H
  | _, _ => none
noncomputable def F015 : Ty15 := fun m0 m1 m2 m3 m4 m5 m6 m7 m8 m9 x1 H => fnA CC15 Try.f15.results.toList (bodyOf Try.f15) _ [.agg [Cell.int .i64 m0, Cell.int .i64 m1, Cell.int .u64 m2, Cell.int .u64 m3, Cell.slice m4, Cell.slice m5, Cell.slice m6, Cell.int .u64 m7, Cell.slice m8, Cell.slice m9], .c (Cell.int .u64 x1)] H (decF dec15)
noncomputable def f15 : Ty15 := hide F015
theorem f15_eq : f15 = F015 := hide_eq _
noncomputable def P15_4 : Code := (Code.l (Code.l (Code.r (Code.l (Code.r (Code.r (bodyOf Try.f15)))))))
def S15_4 (t1 : Int) (t16 : SO) (t17 t18 : Int) (H : Heap) : St := ⟨[(1, .c (Cell.int .u64 t1)), (16, .c (Cell.slice t16)), (17, .c (Cell.int .i64 t17)), (18, .c (Cell.int .i64 t18))], [], H⟩
noncomputable def D15_4 (n : Nat) (t1 : Int) (t16 : SO) (t17 t18 : Int) (H : Heap) : Option (AExit × St) := loopN (exec CC15 P15_4) (keepOf CC15.live P15_4) n (S15_4 t1 t16 t17 t18 H) retD
noncomputable def LL15_4 (t1 : Int) (t16 : SO) (t17 t18 : Int) (H : Heap) : Option (AExit × St) := loopsD CC15 P15_4 (S15_4 t1 t16 t17 t18 H)
theorem LL15_4_of (m : Nat) (hm : m < 18446744073709551616) (t1 : Int) (t16 : SO) (t17 t18 : Int) (H : Heap) : ∃ n, LL15_4 t1 t16 t17 t18 H = D15_4 (n + m + 1) t1 t16 t17 t18 H := loopsD_of _ _ _ m hm
def X15_4 (x0 : Int) (x1 : Bool) (H : Heap) : St := { env := [(4, AV.c (Cell.int .u8 x0)), (5, AV.c (Cell.bool x1))], loc := [], heap := H }
def X15_4a (H : Heap) : St := { env := [], loc := [], heap := H }
noncomputable def J15_4 : AExit × St → Option ((Int × Bool) × Heap) := fun p => blockK 0 (seqK (execL CC15 (lpD CC15) (Code.r (Code.r (Code.r (bodyOf Try.f15))))) (retA CC15 [ResultVar.tmp 4, ResultVar.tmp 5] (decF dec15))) p.1 p.2
theorem D15_4_s : ∀ (n : Nat) (t1 : Int) (t16 : SO) (t17 t18 : Int) (H : Heap), D15_4 (n + 1) t1 t16 t17 t18 H = bif decide (t18 < t17) then t16.bind fun v12 => bif inb t18 v12.len && v12.esz == 5 then (H.get v12.id (v12.off + t18.toNat * 5)).bind fun v11 => (H.get v12.id (v12.off + t18.toNat * 5 + 1)).bind fun v10 => (H.get v12.id (v12.off + t18.toNat * 5 + 1 + 1)).bind fun v9 => (H.get v12.id (v12.off + t18.toNat * 5 + 1 + 1 + 1)).bind fun v8 => (H.get v12.id (v12.off + t18.toNat * 5 + 1 + 1 + 1 + 1)).bind fun v7 => (Cell.toInt .i64 v11).bind fun v6 => (Cell.toInt .i64 v10).bind fun v5 => (Cell.toInt .u64 v9).bind fun v4 => (Cell.toInt .u64 v8).bind fun v3 => v7.toSlice.bind fun v2 => (f10 v6 v5 v4 v3 v2 t1 1 H).bind fun v1 => bif v1.1 then (f42 v6 v5 v4 v3 v2 t1 v1.2).bind fun v0 => some (AExit.ret, X15_4 v0.1 true v0.2) else D15_4 n t1 t16 t17 (IntKind.i64.wrap (t18 + 1)) v1.2 else none else some (AExit.exit 0, X15_4a H) := by intros; exact (loopN_stepD hN15 _ _ _ _).trans (by kernel_rfl)
theorem q15 : ∀ (m0 m1 m2 m3 : Int) (m4 m5 m6 : SO) (m7 : Int) (m8 m9 : SO) (x1 : Int) (H : Heap), f15 m0 m1 m2 m3 m4 m5 m6 m7 m8 m9 x1 H = (f19 m0 m1 m2 m3 m4 m5 m6 m7 m8 m9 x1 H).bind fun v14 => bif v14.1 then (f42 m0 m1 m2 m3 m4 x1 v14.2).bind fun v13 => some ((v13.1, true), v13.2) else (LL15_4 x1 m5 (slen m5) 0 v14.2).bind J15_4 := by intros; rw [f15_eq]; exact (fnA_lpD hN15 ..).trans (by kernel_rfl)
theorem J15_4_0 : ∀ (x0 : Int) (x1 : Bool) (H : Heap), J15_4 (AExit.ret, X15_4 x0 x1 H) = some ((x0, x1), H) := by intros; kernel_rfl
theorem J15_4_1 : ∀ (H : Heap), J15_4 (AExit.exit 0, X15_4a H) = some ((0, false), H) := by intros; kernel_rfl
theorem ok15 : FnOk Try.prog 15 (specF enc15 (sem15 f15)) := by
  refine spec_ok (C := CC15) good15 rfl rfl rfl (by kernel_rfl) Try.func15 (c := bodyOf Try.f15) (by kernel_rfl) (by kernel_rfl) (Nat.le_of_eq Try.ntmps15.symm) dec15 enc15 de15 _ ?_
  intro args H q h
  unfold sem15 at h
  split at h
  · rw [f15_eq] at h; exact h
  · cases h
/-! 11: image_Area_Top -/
noncomputable def CC11 : Ctx := { P := Try.prog, own := [1], fns := [], nt := 8, nums := [], live := [] }
theorem good11 : Callees Try.prog CC11.fns [] CC11.nums := Callees.nil Try.prog
theorem hN11 : CtxNat CC11 := good11.ctx rfl rfl rfl
def enc11 (r : Int) : List TV := [.c (Cell.int .u64 (r))]
def dec11 : AV → Option (Int)
  | .c (Cell.int .u64 q0) => some (q0)
  | _ => none
theorem de11 (v : AV) (r : Int) (h : dec11 v = some r) : v = oneOf (enc11 r) := by
  unfold dec11 at h
  split at h
  · cases h; rfl
  · cases h
abbrev Ty11 := Int → Int → Bool → Heap → Option (Int × Heap)
def sem11 (f : Ty11) : List TV → Heap → Option (Int × Heap)
  | [.agg [Cell.int .u64 a0, Cell.int .u64 a1, Cell.bool a2]], H => f a0 a1 a2 H
  | _, _ => none
noncomputable def F011 : Ty11 := fun a0 a1 a2 H => fnA CC11 Try.f11.results.toList (bodyOf Try.f11) _ [.agg [Cell.int .u64 a0, Cell.int .u64 a1, Cell.bool a2]] H (decF dec11)
noncomputable def f11 : Ty11 := hide F011
theorem f11_eq : f11 = F011 := hide_eq _
theorem q11 : ∀ (a0 a1 : Int) (a2 : Bool) (H : Heap), f11 a0 a1 a2 H = some (IntKind.u64.wrap (a0 + a1), H) := by intros; rw [f11_eq]; exact (fnA_lpD hN11 ..).trans (by kernel_rfl)
theorem ok11 : FnOk Try.prog 11 (specF enc11 (sem11 f11)) := by
  refine spec_ok (C := CC11) good11 rfl rfl rfl (by kernel_rfl) Try.func11 (c := bodyOf Try.f11) (by kernel_rfl) (by kernel_rfl) (Nat.le_of_eq Try.ntmps11.symm) dec11 enc11 de11 _ ?_
  intro args H q h
  unfold sem11 at h
  split at h
  · rw [f11_eq] at h; exact h
  · cases h
/-! 9: L04_awake -/
noncomputable def CC9 : Ctx := { P := Try.prog, own := [1, 2], fns := [(11, specF enc11 (sem11 f11)), (19, specF enc19 (sem19 f19)), (15, specF enc15 (sem15 f15)), (13, specF enc13 (sem13 f13)), (7, specF enc7 (sem7 f7))], nt := 70, nums := [], live := [] }
theorem good9 : Callees Try.prog CC9.fns [] CC9.nums := (((((Callees.nil Try.prog).cons ok7 (specF_nat _ _)).cons ok13 (specF_nat _ _)).cons ok15 (specF_nat _ _)).cons ok19 (specF_nat _ _)).cons ok11 (specF_nat _ _)
theorem hN9 : CtxNat CC9 := good9.ctx rfl rfl rfl
def enc9 (r : Bool) : List TV := [.c (Cell.bool (r))]
def dec9 : AV → Option (Bool)
  | .c (Cell.bool q0) => some (q0)
  | _ => none
theorem de9 (v : AV) (r : Bool) (h : dec9 v = some r) : v = oneOf (enc9 r) := by
  unfold dec9 at h
  split at h
  · cases h; rfl
  · cases h
abbrev Ty9 := Heap → Option (Bool × Heap)
def sem9 (f : Ty9) : List TV → Heap → Option (Bool × Heap)
  | [], H => f H
  | _, _ => none
noncomputable def F09 : Ty9 := fun H => fnA CC9 Try.f9.results.toList (bodyOf Try.f9) _ [] H (decF dec9)
noncomputable def f9 : Ty9 := hide F09
theorem f9_eq : f9 = F09 := hide_eq _
theorem q9 : ∀ (H : Heap), f9 H = (f7 62 4096 (some { id := List.length (H ++ [Blk.row [Cell.int .u8 195] false]), off := 0, len := 2, cap := 2, esz := 5 }) none none (H ++ [Blk.row [Cell.int .u8 195] false] ++ [Blk.row [Cell.int .i64 1, Cell.int .i64 5, Cell.int .u64 4096, Cell.int .u64 1, Cell.slice (some { id := List.length H, off := 0, len := 1, cap := 1, esz := 1 }), Cell.int .i64 1610612737, Cell.int .i64 1, Cell.int .u64 65536, Cell.int .u64 64, Cell.slice none] false])).bind fun v17 => (f13 v17.1.1 v17.1.2.1 v17.1.2.2.1 v17.1.2.2.2.1 v17.1.2.2.2.2.1 v17.1.2.2.2.2.2.1 v17.1.2.2.2.2.2.2.1 v17.1.2.2.2.2.2.2.2.1 v17.1.2.2.2.2.2.2.2.2.1 v17.1.2.2.2.2.2.2.2.2.2.1 v17.2).bind fun v16 => (f15 v17.1.1 v17.1.2.1 v17.1.2.2.1 v17.1.2.2.2.1 v17.1.2.2.2.2.1 v17.1.2.2.2.2.2.1 v17.1.2.2.2.2.2.2.1 v17.1.2.2.2.2.2.2.2.1 v17.1.2.2.2.2.2.2.2.2.1 v17.1.2.2.2.2.2.2.2.2.2.1 4096 v16.2).bind fun v15 => bif v17.1.2.2.2.2.2.2.2.2.2.2 == 0 then bif slen v16.1 == 1 then v16.1.bind fun v14 => bif inb 0 v14.len && v14.esz == 1 then (v15.2.get v14.id (v14.off + 0)).bind fun v13 => (Cell.toInt .u64 v13).bind fun v12 => bif v12 == 4096 then bif v15.1.1 == 195 then bif v15.1.2 then (f19 v17.1.1 v17.1.2.1 v17.1.2.2.1 v17.1.2.2.2.1 v17.1.2.2.2.2.1 v17.1.2.2.2.2.2.1 v17.1.2.2.2.2.2.2.1 v17.1.2.2.2.2.2.2.2.1 v17.1.2.2.2.2.2.2.2.2.1 v17.1.2.2.2.2.2.2.2.2.2.1 4097 v15.2).bind fun v11 => bif !v11.1 then bif slen v17.1.2.2.2.2.2.2.1 == 1 then v17.1.2.2.2.2.2.2.1.bind fun v10 => bif inb 0 v10.len && v10.esz == 3 then (v11.2.get v10.id (v10.off + 0 + 2)).bind fun v9 => v9.toBool.bind fun v8 => bif v8 then v17.1.2.2.2.2.2.2.1.bind fun v7 => bif inb 0 v7.len && v7.esz == 3 then (v11.2.get v7.id (v7.off + 0)).bind fun v6 => (v11.2.get v7.id (v7.off + 0 + 1)).bind fun v5 => (v11.2.get v7.id (v7.off + 0 + 1 + 1)).bind fun v4 => (Cell.toInt .u64 v6).bind fun v3 => (Cell.toInt .u64 v5).bind fun v2 => v4.toBool.bind fun v1 => (f11 v3 v2 v1 v11.2).bind fun v0 => some (v0.1 == 65600, v0.2) else none else some (false, v11.2) else none else some (false, v11.2) else some (false, v11.2) else some (false, v15.2) else some (false, v15.2) else some (false, v15.2) else none else some (false, v15.2) else some (false, v15.2) := by intros; rw [f9_eq]; exact (fnA_lpD hN9 ..).trans (by kernel_rfl)
theorem ok9 : FnOk Try.prog 9 (specF enc9 (sem9 f9)) := by
  refine spec_ok (C := CC9) good9 rfl rfl rfl (by kernel_rfl) Try.func9 (c := bodyOf Try.f9) (by kernel_rfl) (by kernel_rfl) (Nat.le_of_eq Try.ntmps9.symm) dec9 enc9 de9 _ ?_
  intro args H q h
  unfold sem9 at h
  split at h
  · rw [f9_eq] at h; exact h
  · cases h
