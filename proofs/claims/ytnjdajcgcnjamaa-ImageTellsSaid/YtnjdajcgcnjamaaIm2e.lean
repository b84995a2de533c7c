/- Layer 4: its functions, in direct style. -/
import Derived.Test.YtnjdajcgcnjamaaIm2c
namespace Go.Proofs.Ytnjdajcgcnjamaa
open Go Go.Proofs.Ytnjdajcgcnjamaa.Ab
set_option linter.unusedVariables false
set_option linter.unusedSimpArgs false
set_option maxRecDepth 100000
noncomputable section
/-! 64: R2_Nought -/
noncomputable def CC64 : Ctx := { P := Try.prog, own := [], fns := [], nt := 19, nums := [], live := [(2, ⟨[0, 5], [], [4], []⟩)] }
theorem good64 : Callees Try.prog CC64.fns [] CC64.nums := Callees.nil Try.prog
theorem hN64 : CtxNat CC64 := good64.ctx rfl rfl rfl
def enc64 (r : Int) : List TV := [.c (Cell.int .i64 (r))]
def dec64 : AV → Option (Int)
  | .c (Cell.int .i64 q0) => some (q0)
  | _ => none
theorem de64 (v : AV) (r : Int) (h : dec64 v = some r) : v = oneOf (enc64 r) := by
  unfold dec64 at h
  split at h
  · cases h; rfl
  · cases h
abbrev Ty64 := SO → Int → Heap → Option (Int × Heap)
def sem64 (f : Ty64) : List TV → Heap → Option (Int × Heap)
  | [.c (Cell.slice b), .c (Cell.int .i64 x1)], H => f b x1 H
  | _, _ => none
noncomputable def F064 : Ty64 := fun b x1 H => fnA CC64 Try.f64.results.toList (bodyOf Try.f64) _ [.c (Cell.slice b), .c (Cell.int .i64 x1)] H (decF dec64)
noncomputable def f64 : Ty64 := hide F064
theorem f64_eq : f64 = F064 := hide_eq _
noncomputable def P64_2 : Code := (Code.l (Code.l (Code.r (Code.l (Code.r (bodyOf Try.f64))))))
def S64_2 (t0 : SO) (t5 : Int) (H : Heap) : St := ⟨[(0, .c (Cell.slice t0)), (5, .c (Cell.int .i64 t5))], [], H⟩
noncomputable def D64_2 (n : Nat) (t0 : SO) (t5 : Int) (H : Heap) : Option (AExit × St) := loopN (exec CC64 P64_2) (keepOf CC64.live P64_2) n (S64_2 t0 t5 H) retD
noncomputable def LL64_2 (t0 : SO) (t5 : Int) (H : Heap) : Option (AExit × St) := loopsD CC64 P64_2 (S64_2 t0 t5 H)
theorem LL64_2_of (m : Nat) (hm : m < 18446744073709551616) (t0 : SO) (t5 : Int) (H : Heap) : ∃ n, LL64_2 t0 t5 H = D64_2 (n + m + 1) t0 t5 H := loopsD_of _ _ _ m hm
def X64_2 (x0 : Int) (H : Heap) : St := { env := [(4, AV.c (Cell.int .i64 x0))], loc := [], heap := H }
def X64_2a (H : Heap) : St := { env := [], loc := [], heap := H }
noncomputable def J64_2 : AExit × St → Option (Int × Heap) := fun p => blockK 0 (seqK (execL CC64 (lpD CC64) (Code.r (Code.r (bodyOf Try.f64)))) (retA CC64 [ResultVar.tmp 4] (decF dec64))) p.1 p.2
theorem D64_2_s : ∀ (n : Nat) (t0 : SO) (t5 : Int) (H : Heap), D64_2 (n + 1) t0 t5 H = bif decide (t5 < slen t0) then t0.bind fun v2 => bif inb t5 v2.len && v2.esz == 1 then (H.get v2.id (v2.off + t5.toNat * 1)).bind fun v1 => (Cell.toInt .u8 v1).bind fun v0 => bif v0 == 0 then some (AExit.ret, X64_2 t5 H) else D64_2 n t0 (IntKind.i64.wrap (t5 + 1)) H else none else some (AExit.exit 0, X64_2a H) := by intros; exact (loopN_stepD hN64 _ _ _ _).trans (by kernel_rfl)
theorem q64 : ∀ (b : SO) (x1 : Int) (H : Heap), f64 b x1 H = (LL64_2 b x1 H).bind J64_2 := by intros; rw [f64_eq]; exact (fnA_lpD hN64 ..).trans (by kernel_rfl)
theorem J64_2_0 : ∀ (x0 : Int) (H : Heap), J64_2 (AExit.ret, X64_2 x0 H) = some (x0, H) := by intros; kernel_rfl
theorem J64_2_1 : ∀ (H : Heap), J64_2 (AExit.exit 0, X64_2a H) = some (-1, H) := by intros; kernel_rfl
theorem ok64 : FnOk Try.prog 64 (specF enc64 (sem64 f64)) := by
  refine spec_ok (C := CC64) good64 rfl rfl rfl (by kernel_rfl) Try.func64 (c := bodyOf Try.f64) (by kernel_rfl) (by kernel_rfl) (Nat.le_of_eq Try.ntmps64.symm) dec64 enc64 de64 _ ?_
  intro args H q h
  unfold sem64 at h
  split at h
  · rw [f64_eq] at h; exact h
  · cases h
theorem loop64 {H : Heap} {s : Option Sl} {l : List UInt8} (h : RS 1 E8 H s l) (hl : l.length ≤ 1048576) : ∀ (m n i : Nat), i + m = l.length →
    (∀ k, fi (l.drop i) = some k → D64_2 (n + m + 1) s (i : Int) H = some (.ret, X64_2 ((i + k : Nat) : Int) H)) ∧ (fi (l.drop i) = none → D64_2 (n + m + 1) s (i : Int) H = some (.exit 0, X64_2a H))
  | 0, n, i, hi => by
    have g : decide ((i : Int) < slen s) = false := by rw [h.slenEq]; simp; omega
    have e : l.drop i = [] := List.drop_eq_nil_of_le (by omega)
    rw [e]
    exact ⟨(fun k e => nomatch e), fun _ => by rw [D64_2_s, g, cf]⟩
  | m + 1, n, i, hi => by
    have hil : i < l.length := by omega
    have hb : l[i]? = some l[i] := List.getElem?_eq_getElem hil
    have h0 := h
    obtain ⟨sl, rfl, g2, g4⟩ := h.idx1 hb (e := fun b => .int .u8 (b.toNat : Int)) fun _ => rfl
    have g : decide ((i : Int) < slen (some sl)) = true := by rw [h0.slenEq]; simp; omega
    have g3 : IntKind.i64.wrap ((i : Int) + 1) = ((i + 1 : Nat) : Int) := by rw [wrap_i64 (by omega) (by omega)]; omega
    have hd : l.drop i = l[i] :: l.drop (i + 1) := List.drop_eq_getElem_cons hil
    obtain ⟨j1, j2⟩ := loop64 h0 hl m n (i + 1) (by omega)
    rw [show n + (m + 1) + 1 = (n + m + 1) + 1 by omega, D64_2_s, g, hd]
    unfold fi
    cases hz : (l[i] == 0) with
    | true =>
      have hz' : (((l[i].toNat : Nat) : Int) == 0) = true := by rw [eq_of_beq hz]; rfl
      refine ⟨fun k e => ?_, fun e => by cases e⟩
      cases e
      simp only [ct, bs, g2, g4, tInt, hz']
      rfl
    | false =>
      have hz' : (((l[i].toNat : Nat) : Int) == 0) = false := by
        simp only [beq_eq_false_iff_ne, ne_eq] at hz ⊢
        intro e
        exact hz (UInt8.toNat_inj.1 (by simpa using e))
      simp only [ct, cf, bs, g2, g3, g4, tInt, hz', cond_false]
      refine ⟨fun k e => ?_, fun e => ?_⟩
      · rw [Option.map_eq_some_iff] at e
        obtain ⟨k', e1, rfl⟩ := e
        rw [j1 k' e1, show i + (k' + 1) = i + 1 + k' by omega]
      · rw [Option.map_eq_none_iff] at e
        exact j2 e
theorem f64_spec {H : Heap} {s : Option Sl} {l : List UInt8} (h : RS 1 E8 H s l) (hl : l.length ≤ 1048576) (i : Nat) (hi : i ≤ l.length) : f64 s (i : Int) H = some ((match fi (l.drop i) with | some k => ((i + k : Nat) : Int) | none => -1), H) := by
  obtain ⟨n, hn⟩ := LL64_2_of (l.length - i) (by omega) s (i : Int) H
  obtain ⟨j1, j2⟩ := loop64 h hl (l.length - i) n i (by omega)
  rw [q64, hn]
  cases hf : fi (l.drop i) with
  | none => exact bnd (j2 hf) (J64_2_1 _)
  | some k => exact bnd (j1 k hf) (J64_2_0 _ _)
/-! 36: R3_May -/
noncomputable def CC36 : Ctx := { P := Try.prog, own := [1, 4, 6, 8], fns := [(64, specF enc64 (sem64 f64))], nt := 134, nums := [], live := [(16, ⟨[1, 116, 117, 118], [1], [2], []⟩), (10, ⟨[1, 87, 88, 89], [1], [1, 2], [1]⟩), (4, ⟨[1, 36, 37, 38], [1], [1, 2], [1]⟩)] }
theorem good36 : Callees Try.prog CC36.fns [] CC36.nums := (Callees.nil Try.prog).cons ok64 (specF_nat _ _)
theorem hN36 : CtxNat CC36 := good36.ctx rfl rfl rfl
def enc36 (r : Bool) : List TV := [.c (Cell.bool (r))]
def dec36 : AV → Option (Bool)
  | .c (Cell.bool q0) => some (q0)
  | _ => none
theorem de36 (v : AV) (r : Bool) (h : dec36 v = some r) : v = oneOf (enc36 r) := by
  unfold dec36 at h
  split at h
  · cases h; rfl
  · cases h
abbrev Ty36 := Int → Int → SO → SO → SO → Heap → Option (Bool × Heap)
def sem36 (f : Ty36) : List TV → Heap → Option (Bool × Heap)
  | [.agg [Cell.int .i64 x00, Cell.int .u64 x01, Cell.slice x02, Cell.slice x03, Cell.slice x04]], H => f x00 x01 x02 x03 x04 H
  | _, _ => none
noncomputable def F036 : Ty36 := fun x00 x01 x02 x03 x04 H => fnA CC36 Try.f36.results.toList (bodyOf Try.f36) _ [.agg [Cell.int .i64 x00, Cell.int .u64 x01, Cell.slice x02, Cell.slice x03, Cell.slice x04]] H (decF dec36)
noncomputable def f36 : Ty36 := hide F036
theorem f36_eq : f36 = F036 := hide_eq _
noncomputable def P36_4 : Code := (Code.l (Code.l (Code.r (Code.l (Code.r (Code.r (bodyOf Try.f36)))))))
noncomputable def P36_10 : Code := (Code.l (Code.l (Code.r (Code.l (Code.r (Code.r (Code.r (bodyOf Try.f36))))))))
noncomputable def P36_16 : Code := (Code.l (Code.l (Code.r (Code.l (Code.r (Code.r (Code.r (Code.r (bodyOf Try.f36)))))))))
def S36_4 (t36 : SO) (t37 t38 b1_0 b1_1 : Int) (b1_2 b1_3 b1_4 : SO) (H : Heap) : St := ⟨[(1, .lp 1 0), (36, .c (Cell.slice t36)), (37, .c (Cell.int .i64 t37)), (38, .c (Cell.int .i64 t38))], [(1, [Cell.int .i64 b1_0, Cell.int .u64 b1_1, Cell.slice b1_2, Cell.slice b1_3, Cell.slice b1_4])], H⟩
noncomputable def D36_4 (n : Nat) (t36 : SO) (t37 t38 b1_0 b1_1 : Int) (b1_2 b1_3 b1_4 : SO) (H : Heap) : Option (AExit × St) := loopN (exec CC36 P36_4) (keepOf CC36.live P36_4) n (S36_4 t36 t37 t38 b1_0 b1_1 b1_2 b1_3 b1_4 H) retD
noncomputable def LL36_4 (t36 : SO) (t37 t38 b1_0 b1_1 : Int) (b1_2 b1_3 b1_4 : SO) (H : Heap) : Option (AExit × St) := loopsD CC36 P36_4 (S36_4 t36 t37 t38 b1_0 b1_1 b1_2 b1_3 b1_4 H)
theorem LL36_4_of (m : Nat) (hm : m < 18446744073709551616) (t36 : SO) (t37 t38 b1_0 b1_1 : Int) (b1_2 b1_3 b1_4 : SO) (H : Heap) : ∃ n, LL36_4 t36 t37 t38 b1_0 b1_1 b1_2 b1_3 b1_4 H = D36_4 (n + m + 1) t36 t37 t38 b1_0 b1_1 b1_2 b1_3 b1_4 H := loopsD_of _ _ _ m hm
def S36_10 (t87 : SO) (t88 t89 b1_0 b1_1 : Int) (b1_2 b1_3 b1_4 : SO) (H : Heap) : St := ⟨[(1, .lp 1 0), (87, .c (Cell.slice t87)), (88, .c (Cell.int .i64 t88)), (89, .c (Cell.int .i64 t89))], [(1, [Cell.int .i64 b1_0, Cell.int .u64 b1_1, Cell.slice b1_2, Cell.slice b1_3, Cell.slice b1_4])], H⟩
noncomputable def D36_10 (n : Nat) (t87 : SO) (t88 t89 b1_0 b1_1 : Int) (b1_2 b1_3 b1_4 : SO) (H : Heap) : Option (AExit × St) := loopN (exec CC36 P36_10) (keepOf CC36.live P36_10) n (S36_10 t87 t88 t89 b1_0 b1_1 b1_2 b1_3 b1_4 H) retD
noncomputable def LL36_10 (t87 : SO) (t88 t89 b1_0 b1_1 : Int) (b1_2 b1_3 b1_4 : SO) (H : Heap) : Option (AExit × St) := loopsD CC36 P36_10 (S36_10 t87 t88 t89 b1_0 b1_1 b1_2 b1_3 b1_4 H)
theorem LL36_10_of (m : Nat) (hm : m < 18446744073709551616) (t87 : SO) (t88 t89 b1_0 b1_1 : Int) (b1_2 b1_3 b1_4 : SO) (H : Heap) : ∃ n, LL36_10 t87 t88 t89 b1_0 b1_1 b1_2 b1_3 b1_4 H = D36_10 (n + m + 1) t87 t88 t89 b1_0 b1_1 b1_2 b1_3 b1_4 H := loopsD_of _ _ _ m hm
def S36_16 (t116 : SO) (t117 t118 b1_0 b1_1 : Int) (b1_2 b1_3 b1_4 : SO) (H : Heap) : St := ⟨[(1, .lp 1 0), (116, .c (Cell.slice t116)), (117, .c (Cell.int .i64 t117)), (118, .c (Cell.int .i64 t118))], [(1, [Cell.int .i64 b1_0, Cell.int .u64 b1_1, Cell.slice b1_2, Cell.slice b1_3, Cell.slice b1_4])], H⟩
noncomputable def D36_16 (n : Nat) (t116 : SO) (t117 t118 b1_0 b1_1 : Int) (b1_2 b1_3 b1_4 : SO) (H : Heap) : Option (AExit × St) := loopN (exec CC36 P36_16) (keepOf CC36.live P36_16) n (S36_16 t116 t117 t118 b1_0 b1_1 b1_2 b1_3 b1_4 H) retD
noncomputable def LL36_16 (t116 : SO) (t117 t118 b1_0 b1_1 : Int) (b1_2 b1_3 b1_4 : SO) (H : Heap) : Option (AExit × St) := loopsD CC36 P36_16 (S36_16 t116 t117 t118 b1_0 b1_1 b1_2 b1_3 b1_4 H)
theorem LL36_16_of (m : Nat) (hm : m < 18446744073709551616) (t116 : SO) (t117 t118 b1_0 b1_1 : Int) (b1_2 b1_3 b1_4 : SO) (H : Heap) : ∃ n, LL36_16 t116 t117 t118 b1_0 b1_1 b1_2 b1_3 b1_4 H = D36_16 (n + m + 1) t116 t117 t118 b1_0 b1_1 b1_2 b1_3 b1_4 H := loopsD_of _ _ _ m hm
def X36_16 (x0 : Bool) (H : Heap) : St := { env := [(2, AV.c (Cell.bool x0))], loc := [], heap := H }
def X36_16a (H : Heap) : St := { env := [], loc := [], heap := H }
def X36_10 (x0 : Bool) (x1 : Int) (x2 : Int) (x3 : SO) (x4 : SO) (x5 : SO) (H : Heap) : St := { env := [(1, AV.lp 1 0), (2, AV.c (Cell.bool x0))], loc := [(1, [Cell.int .i64 x1, Cell.int .u64 x2, Cell.slice x3, Cell.slice x4, Cell.slice x5])], heap := H }
def X36_10a (x0 : Int) (x1 : Int) (x2 : SO) (x3 : SO) (x4 : SO) (H : Heap) : St := { env := [(1, AV.lp 1 0)], loc := [(1, [Cell.int .i64 x0, Cell.int .u64 x1, Cell.slice x2, Cell.slice x3, Cell.slice x4])], heap := H }
def X36_4 (x0 : Bool) (x1 : Int) (x2 : Int) (x3 : SO) (x4 : SO) (x5 : SO) (H : Heap) : St := { env := [(1, AV.lp 1 0), (2, AV.c (Cell.bool x0))], loc := [(1, [Cell.int .i64 x1, Cell.int .u64 x2, Cell.slice x3, Cell.slice x4, Cell.slice x5])], heap := H }
def X36_4a (x0 : Int) (x1 : Int) (x2 : SO) (x3 : SO) (x4 : SO) (H : Heap) : St := { env := [(1, AV.lp 1 0)], loc := [(1, [Cell.int .i64 x0, Cell.int .u64 x1, Cell.slice x2, Cell.slice x3, Cell.slice x4])], heap := H }
noncomputable def J36_4 : AExit × St → Option (Bool × Heap) := fun p => blockK 0 (seqK (execL CC36 (lpD CC36) (Code.r (Code.r (Code.r (bodyOf Try.f36))))) (retA CC36 [ResultVar.tmp 2] (decF dec36))) p.1 p.2
noncomputable def J36_10 : AExit × St → Option (Bool × Heap) := fun p => blockK 2 (seqK (execL CC36 (lpD CC36) (Code.r (Code.r (Code.r (Code.r (bodyOf Try.f36)))))) (retA CC36 [ResultVar.tmp 2] (decF dec36))) p.1 p.2
noncomputable def J36_16 : AExit × St → Option (Bool × Heap) := fun p => blockK 4 (seqK (execL CC36 (lpD CC36) (Code.r (Code.r (Code.r (Code.r (Code.r (bodyOf Try.f36))))))) (retA CC36 [ResultVar.tmp 2] (decF dec36))) p.1 p.2
theorem D36_16_s : ∀ (n : Nat) (t116 : SO) (t117 t118 b1_0 b1_1 : Int) (b1_2 b1_3 b1_4 : SO) (H : Heap), D36_16 (n + 1) t116 t117 t118 b1_0 b1_1 b1_2 b1_3 b1_4 H = bif decide (t118 < t117) then t116.bind fun v6 => bif inb t118 v6.len && v6.esz == 3 then (H.get v6.id (v6.off + t118.toNat * 3)).bind fun v5 => (H.get v6.id (v6.off + t118.toNat * 3 + 1)).bind fun v4 => (H.get v6.id (v6.off + t118.toNat * 3 + 1 + 1)).bind fun v3 => (Cell.toInt .u64 v5).bind fun v2 => (Cell.toInt .i64 v4).bind fun v1 => (Cell.toInt .i64 v3).bind fun v0 => bif decide (v1 < 0) then some (AExit.ret, X36_16 false H) else bif decide (v1 ≥ slen b1_3) then some (AExit.ret, X36_16 false H) else D36_16 n t116 t117 (IntKind.i64.wrap (t118 + 1)) b1_0 b1_1 b1_2 b1_3 b1_4 H else none else some (AExit.exit 4, X36_16a H) := by intros; exact (loopN_stepD hN36 _ _ _ _).trans (by kernel_rfl)
theorem D36_10_s : ∀ (n : Nat) (t87 : SO) (t88 t89 b1_0 b1_1 : Int) (b1_2 b1_3 b1_4 : SO) (H : Heap), D36_10 (n + 1) t87 t88 t89 b1_0 b1_1 b1_2 b1_3 b1_4 H = bif decide (t89 < t88) then t87.bind fun v16 => bif inb t89 v16.len && v16.esz == 4 then (H.get v16.id (v16.off + t89.toNat * 4)).bind fun v15 => (H.get v16.id (v16.off + t89.toNat * 4 + 1)).bind fun v14 => (H.get v16.id (v16.off + t89.toNat * 4 + 1 + 1)).bind fun v13 => (H.get v16.id (v16.off + t89.toNat * 4 + 1 + 1 + 1)).bind fun v12 => v15.toStr.bind fun v11 => (Cell.toInt .i64 v14).bind fun v10 => (Cell.toInt .u64 v13).bind fun v9 => (Cell.toInt .u64 v12).bind fun v8 => bif decide ((↑v11.size : Int) > 32) then some (AExit.ret, X36_10 false b1_0 b1_1 b1_2 b1_3 b1_4 H) else bif decide (v11.size ≤ 17592186044416) then (f64 (some { id := List.length H, off := 0, len := v11.size, cap := v11.size, esz := 1 }) 0 (H ++ [Blk.row (bytesCells v11) false])).bind fun v7 => bif decide (v7.1 ≥ 0) then some (AExit.ret, X36_10 false b1_0 b1_1 b1_2 b1_3 b1_4 v7.2) else bif decide (v10 < 0) then some (AExit.ret, X36_10 false b1_0 b1_1 b1_2 b1_3 b1_4 v7.2) else bif decide (v10 > 2) then some (AExit.ret, X36_10 false b1_0 b1_1 b1_2 b1_3 b1_4 v7.2) else D36_10 n t87 t88 (IntKind.i64.wrap (t89 + 1)) b1_0 b1_1 b1_2 b1_3 b1_4 v7.2 else none else none else some (AExit.exit 2, X36_10a b1_0 b1_1 b1_2 b1_3 b1_4 H) := by intros; exact (loopN_stepD hN36 _ _ _ _).trans (by kernel_rfl)
theorem D36_4_s : ∀ (n : Nat) (t36 : SO) (t37 t38 b1_0 b1_1 : Int) (b1_2 b1_3 b1_4 : SO) (H : Heap), D36_4 (n + 1) t36 t37 t38 b1_0 b1_1 b1_2 b1_3 b1_4 H = bif decide (t38 < t37) then t36.bind fun v27 => bif inb t38 v27.len && v27.esz == 5 then (H.get v27.id (v27.off + t38.toNat * 5)).bind fun v26 => (H.get v27.id (v27.off + t38.toNat * 5 + 1)).bind fun v25 => (H.get v27.id (v27.off + t38.toNat * 5 + 1 + 1)).bind fun v24 => (H.get v27.id (v27.off + t38.toNat * 5 + 1 + 1 + 1)).bind fun v23 => (H.get v27.id (v27.off + t38.toNat * 5 + 1 + 1 + 1 + 1)).bind fun v22 => (Cell.toInt .i64 v26).bind fun v21 => (Cell.toInt .i64 v25).bind fun v20 => (Cell.toInt .u64 v24).bind fun v19 => (Cell.toInt .u64 v23).bind fun v18 => v22.toSlice.bind fun v17 => bif v21 != 1 then bif v21 != 1610612737 then some (AExit.ret, X36_4 false b1_0 b1_1 b1_2 b1_3 b1_4 H) else bif decide (slen v17 > 0) then some (AExit.ret, X36_4 false b1_0 b1_1 b1_2 b1_3 b1_4 H) else bif decide (v20 < 0) then some (AExit.ret, X36_4 false b1_0 b1_1 b1_2 b1_3 b1_4 H) else bif decide (v20 > 7) then some (AExit.ret, X36_4 false b1_0 b1_1 b1_2 b1_3 b1_4 H) else bif decide (v18 > 4294967296) then some (AExit.ret, X36_4 false b1_0 b1_1 b1_2 b1_3 b1_4 H) else bif decide (v19 > 9223372036854775808) then some (AExit.ret, X36_4 false b1_0 b1_1 b1_2 b1_3 b1_4 H) else bif decide (IntKind.u64.wrap (slen v17) > v18) then some (AExit.ret, X36_4 false b1_0 b1_1 b1_2 b1_3 b1_4 H) else D36_4 n t36 t37 (IntKind.i64.wrap (t38 + 1)) b1_0 b1_1 b1_2 b1_3 b1_4 H else bif decide (v20 < 0) then some (AExit.ret, X36_4 false b1_0 b1_1 b1_2 b1_3 b1_4 H) else bif decide (v20 > 7) then some (AExit.ret, X36_4 false b1_0 b1_1 b1_2 b1_3 b1_4 H) else bif decide (v18 > 4294967296) then some (AExit.ret, X36_4 false b1_0 b1_1 b1_2 b1_3 b1_4 H) else bif decide (v19 > 9223372036854775808) then some (AExit.ret, X36_4 false b1_0 b1_1 b1_2 b1_3 b1_4 H) else bif decide (IntKind.u64.wrap (slen v17) > v18) then some (AExit.ret, X36_4 false b1_0 b1_1 b1_2 b1_3 b1_4 H) else D36_4 n t36 t37 (IntKind.i64.wrap (t38 + 1)) b1_0 b1_1 b1_2 b1_3 b1_4 H else none else some (AExit.exit 0, X36_4a b1_0 b1_1 b1_2 b1_3 b1_4 H) := by intros; exact (loopN_stepD hN36 _ _ _ _).trans (by kernel_rfl)
theorem q36 : ∀ (x00 x01 : Int) (x02 x03 x04 : SO) (H : Heap), f36 x00 x01 x02 x03 x04 H = bif x00 != 62 then bif x00 != 183 then some (false, H) else bif decide (slen x02 > 24) then some (false, H) else bif decide (slen x03 > 64) then some (false, H) else bif decide (slen x04 > 64) then some (false, H) else (LL36_4 x02 (slen x02) 0 x00 x01 x02 x03 x04 H).bind J36_4 else bif decide (slen x02 > 24) then some (false, H) else bif decide (slen x03 > 64) then some (false, H) else bif decide (slen x04 > 64) then some (false, H) else (LL36_4 x02 (slen x02) 0 x00 x01 x02 x03 x04 H).bind J36_4 := by intros; rw [f36_eq]; exact (fnA_lpD hN36 ..).trans (by kernel_rfl)
theorem J36_4_0 : ∀ (x0 : Bool) (x1 x2 : Int) (x3 x4 x5 : SO) (H : Heap), J36_4 (AExit.ret, X36_4 x0 x1 x2 x3 x4 x5 H) = some (x0, H) := by intros; kernel_rfl
theorem J36_4_1 : ∀ (x0 x1 : Int) (x2 x3 x4 : SO) (H : Heap), J36_4 (AExit.exit 0, X36_4a x0 x1 x2 x3 x4 H) = (LL36_10 x3 (slen x3) 0 x0 x1 x2 x3 x4 H).bind J36_10 := by intros; kernel_rfl
theorem J36_10_0 : ∀ (x0 : Bool) (x1 x2 : Int) (x3 x4 x5 : SO) (H : Heap), J36_10 (AExit.ret, X36_10 x0 x1 x2 x3 x4 x5 H) = some (x0, H) := by intros; kernel_rfl
theorem J36_10_1 : ∀ (x0 x1 : Int) (x2 x3 x4 : SO) (H : Heap), J36_10 (AExit.exit 2, X36_10a x0 x1 x2 x3 x4 H) = (LL36_16 x4 (slen x4) 0 x0 x1 x2 x3 x4 H).bind J36_16 := by intros; kernel_rfl
theorem J36_16_0 : ∀ (x0 : Bool) (H : Heap), J36_16 (AExit.ret, X36_16 x0 H) = some (x0, H) := by intros; kernel_rfl
theorem J36_16_1 : ∀ (H : Heap), J36_16 (AExit.exit 4, X36_16a H) = some (true, H) := by intros; kernel_rfl
theorem ok36 : FnOk Try.prog 36 (specF enc36 (sem36 f36)) := by
  refine spec_ok (C := CC36) good36 rfl rfl rfl (by kernel_rfl) Try.func36 (c := bodyOf Try.f36) (by kernel_rfl) (by kernel_rfl) (Nat.le_of_eq Try.ntmps36.symm) dec36 enc36 de36 _ ?_
  intro args H q h
  unfold sem36 at h
  split at h
  · rw [f36_eq] at h; exact h
  · cases h
/-! 37: R4_sized -/
noncomputable def CC37 : Ctx := { P := Try.prog, own := [1, 7], fns := [], nt := 57, nums := [], live := [(5, ⟨[3, 4, 5, 9, 10, 11], [], [2, 3, 4, 5], []⟩)] }
theorem good37 : Callees Try.prog CC37.fns [] CC37.nums := Callees.nil Try.prog
theorem hN37 : CtxNat CC37 := good37.ctx rfl rfl rfl
def enc37 (r : Bool) : List TV := [.c (Cell.bool (r))]
def dec37 : AV → Option (Bool)
  | .c (Cell.bool q0) => some (q0)
  | _ => none
theorem de37 (v : AV) (r : Bool) (h : dec37 v = some r) : v = oneOf (enc37 r) := by
  unfold dec37 at h
  split at h
  · cases h; rfl
  · cases h
abbrev Ty37 := Int → Int → SO → SO → SO → Heap → Option (Bool × Heap)
def sem37 (f : Ty37) : List TV → Heap → Option (Bool × Heap)
  | [.agg [Cell.int .i64 x00, Cell.int .u64 x01, Cell.slice x02, Cell.slice x03, Cell.slice x04]], H => f x00 x01 x02 x03 x04 H
  | _, _ => none
noncomputable def F037 : Ty37 := fun x00 x01 x02 x03 x04 H => fnA CC37 Try.f37.results.toList (bodyOf Try.f37) _ [.agg [Cell.int .i64 x00, Cell.int .u64 x01, Cell.slice x02, Cell.slice x03, Cell.slice x04]] H (decF dec37)
noncomputable def f37 : Ty37 := hide F037
theorem f37_eq : f37 = F037 := hide_eq _
noncomputable def P37_5 : Code := (Code.l (Code.l (Code.r (Code.l (Code.r (Code.r (Code.r (Code.r (bodyOf Try.f37)))))))))
def S37_5 (t3 t4 t5 : Int) (t9 : SO) (t10 t11 : Int) (H : Heap) : St := ⟨[(3, .c (Cell.int .i64 t3)), (4, .c (Cell.int .i64 t4)), (5, .c (Cell.int .u64 t5)), (9, .c (Cell.slice t9)), (10, .c (Cell.int .i64 t10)), (11, .c (Cell.int .i64 t11))], [], H⟩
noncomputable def D37_5 (n : Nat) (t3 t4 t5 : Int) (t9 : SO) (t10 t11 : Int) (H : Heap) : Option (AExit × St) := loopN (exec CC37 P37_5) (keepOf CC37.live P37_5) n (S37_5 t3 t4 t5 t9 t10 t11 H) retD
noncomputable def LL37_5 (t3 t4 t5 : Int) (t9 : SO) (t10 t11 : Int) (H : Heap) : Option (AExit × St) := loopsD CC37 P37_5 (S37_5 t3 t4 t5 t9 t10 t11 H)
theorem LL37_5_of (m : Nat) (hm : m < 18446744073709551616) (t3 t4 t5 : Int) (t9 : SO) (t10 t11 : Int) (H : Heap) : ∃ n, LL37_5 t3 t4 t5 t9 t10 t11 H = D37_5 (n + m + 1) t3 t4 t5 t9 t10 t11 H := loopsD_of _ _ _ m hm
def X37_5 (x0 : Bool) (x1 : Int) (x2 : Int) (x3 : Int) (H : Heap) : St := { env := [(2, AV.c (Cell.bool x0)), (3, AV.c (Cell.int .i64 x1)), (4, AV.c (Cell.int .i64 x2)), (5, AV.c (Cell.int .u64 x3))], loc := [], heap := H }
def X37_5a (x0 : Int) (x1 : Int) (x2 : Int) (H : Heap) : St := { env := [(3, AV.c (Cell.int .i64 x0)), (4, AV.c (Cell.int .i64 x1)), (5, AV.c (Cell.int .u64 x2))], loc := [], heap := H }
noncomputable def J37_5 : AExit × St → Option (Bool × Heap) := fun p => blockK 0 (seqK (execL CC37 (lpD CC37) (Code.r (Code.r (Code.r (Code.r (Code.r (bodyOf Try.f37))))))) (retA CC37 [ResultVar.tmp 2] (decF dec37))) p.1 p.2
theorem D37_5_s : ∀ (n : Nat) (t3 t4 t5 : Int) (t9 : SO) (t10 t11 : Int) (H : Heap), D37_5 (n + 1) t3 t4 t5 t9 t10 t11 H = bif decide (t11 < t10) then t9.bind fun v10 => bif inb t11 v10.len && v10.esz == 5 then (H.get v10.id (v10.off + t11.toNat * 5)).bind fun v9 => (H.get v10.id (v10.off + t11.toNat * 5 + 1)).bind fun v8 => (H.get v10.id (v10.off + t11.toNat * 5 + 1 + 1)).bind fun v7 => (H.get v10.id (v10.off + t11.toNat * 5 + 1 + 1 + 1)).bind fun v6 => (H.get v10.id (v10.off + t11.toNat * 5 + 1 + 1 + 1 + 1)).bind fun v5 => (Cell.toInt .i64 v9).bind fun v4 => (Cell.toInt .i64 v8).bind fun v3 => (Cell.toInt .u64 v7).bind fun v2 => (Cell.toInt .u64 v6).bind fun v1 => v5.toSlice.bind fun v0 => bif decide (v1 > 65536) then some (AExit.ret, X37_5 false t3 t4 t5 H) else bif decide (v2 > 140737487306752) then some (AExit.ret, X37_5 false t3 t4 t5 H) else bif decide (IntKind.u64.wrap (v2 + v1) > 140737487306752) then some (AExit.ret, X37_5 false t3 t4 t5 H) else bif v4 == 1 then D37_5 n (IntKind.i64.wrap (t3 + 1)) t4 (IntKind.u64.wrap (t5 + v1)) t9 t10 (IntKind.i64.wrap (t11 + 1)) H else D37_5 n t3 (IntKind.i64.wrap (t4 + 1)) t5 t9 t10 (IntKind.i64.wrap (t11 + 1)) H else none else some (AExit.exit 0, X37_5a t3 t4 t5 H) := by intros; exact (loopN_stepD hN37 _ _ _ _).trans (by kernel_rfl)
theorem q37 : ∀ (x00 x01 : Int) (x02 x03 x04 : SO) (H : Heap), f37 x00 x01 x02 x03 x04 H = (LL37_5 0 0 0 x02 (slen x02) 0 H).bind J37_5 := by intros; rw [f37_eq]; exact (fnA_lpD hN37 ..).trans (by kernel_rfl)
theorem J37_5_0 : ∀ (x0 : Bool) (x1 x2 x3 : Int) (H : Heap), J37_5 (AExit.ret, X37_5 x0 x1 x2 x3 H) = some (x0, H) := by intros; kernel_rfl
theorem J37_5_1 : ∀ (x0 x1 x2 : Int) (H : Heap), J37_5 (AExit.exit 0, X37_5a x0 x1 x2 H) = bif decide (x0 ≤ 8) then bif decide (x1 ≥ 1) then bif decide (x1 ≤ 8) then some (decide (x2 ≤ 65536), H) else some (false, H) else some (false, H) else some (false, H) := by intros; kernel_rfl
theorem ok37 : FnOk Try.prog 37 (specF enc37 (sem37 f37)) := by
  refine spec_ok (C := CC37) good37 rfl rfl rfl (by kernel_rfl) Try.func37 (c := bodyOf Try.f37) (by kernel_rfl) (by kernel_rfl) (Nat.le_of_eq Try.ntmps37.symm) dec37 enc37 de37 _ ?_
  intro args H q h
  unfold sem37 at h
  split at h
  · rw [f37_eq] at h; exact h
  · cases h
/-! 65: R4_meets -/
noncomputable def CC65 : Ctx := { P := Try.prog, own := [], fns := [], nt := 29, nums := [], live := [] }
theorem good65 : Callees Try.prog CC65.fns [] CC65.nums := Callees.nil Try.prog
theorem hN65 : CtxNat CC65 := good65.ctx rfl rfl rfl
def enc65 (r : Bool) : List TV := [.c (Cell.bool (r))]
def dec65 : AV → Option (Bool)
  | .c (Cell.bool q0) => some (q0)
  | _ => none
theorem de65 (v : AV) (r : Bool) (h : dec65 v = some r) : v = oneOf (enc65 r) := by
  unfold dec65 at h
  split at h
  · cases h; rfl
  · cases h
abbrev Ty65 := Int → Int → Int → Int → Heap → Option (Bool × Heap)
def sem65 (f : Ty65) : List TV → Heap → Option (Bool × Heap)
  | [.c (Cell.int .u64 a), .c (Cell.int .u64 n), .c (Cell.int .u64 b), .c (Cell.int .u64 m)], H => f a n b m H
  | _, _ => none
noncomputable def F065 : Ty65 := fun a n b m H => fnA CC65 Try.f65.results.toList (bodyOf Try.f65) _ [.c (Cell.int .u64 a), .c (Cell.int .u64 n), .c (Cell.int .u64 b), .c (Cell.int .u64 m)] H (decF dec65)
noncomputable def f65 : Ty65 := hide F065
theorem f65_eq : f65 = F065 := hide_eq _
theorem q65 : ∀ (a n b m : Int) (H : Heap), f65 a n b m H = bif decide (n > 0) then bif decide (m > 0) then bif decide (a < IntKind.u64.wrap (b + m)) then some (decide (b < IntKind.u64.wrap (a + n)), H) else some (false, H) else some (false, H) else some (false, H) := by intros; rw [f65_eq]; exact (fnA_lpD hN65 ..).trans (by kernel_rfl)
theorem ok65 : FnOk Try.prog 65 (specF enc65 (sem65 f65)) := by
  refine spec_ok (C := CC65) good65 rfl rfl rfl (by kernel_rfl) Try.func65 (c := bodyOf Try.f65) (by kernel_rfl) (by kernel_rfl) (Nat.le_of_eq Try.ntmps65.symm) dec65 enc65 de65 _ ?_
  intro args H q h
  unfold sem65 at h
  split at h
  · rw [f65_eq] at h; exact h
  · cases h
/-! 38: R4_texts -/
noncomputable def CC38 : Ctx := { P := Try.prog, own := [1, 5, 7], fns := [(65, specF enc65 (sem65 f65))], nt := 74, nums := [], live := [(11, ⟨[1, 3, 5, 9, 10, 11, 50, 51, 52], [1, 5], [1, 2, 3, 9, 10, 11], [1]⟩), (3, ⟨[1, 3, 9, 10, 11], [1], [2, 3], []⟩)] }
theorem good38 : Callees Try.prog CC38.fns [] CC38.nums := (Callees.nil Try.prog).cons ok65 (specF_nat _ _)
theorem hN38 : CtxNat CC38 := good38.ctx rfl rfl rfl
def enc38 (r : Bool) : List TV := [.c (Cell.bool (r))]
def dec38 : AV → Option (Bool)
  | .c (Cell.bool q0) => some (q0)
  | _ => none
theorem de38 (v : AV) (r : Bool) (h : dec38 v = some r) : v = oneOf (enc38 r) := by
  unfold dec38 at h
  split at h
  · cases h; rfl
  · cases h
abbrev Ty38 := Int → Int → SO → SO → SO → Heap → Option (Bool × Heap)
def sem38 (f : Ty38) : List TV → Heap → Option (Bool × Heap)
  | [.agg [Cell.int .i64 x00, Cell.int .u64 x01, Cell.slice x02, Cell.slice x03, Cell.slice x04]], H => f x00 x01 x02 x03 x04 H
  | _, _ => none
noncomputable def F038 : Ty38 := fun x00 x01 x02 x03 x04 H => fnA CC38 Try.f38.results.toList (bodyOf Try.f38) _ [.agg [Cell.int .i64 x00, Cell.int .u64 x01, Cell.slice x02, Cell.slice x03, Cell.slice x04]] H (decF dec38)
noncomputable def f38 : Ty38 := hide F038
theorem f38_eq : f38 = F038 := hide_eq _
noncomputable def P38_3 : Code := (Code.l (Code.l (Code.r (Code.l (Code.r (Code.r (bodyOf Try.f38)))))))
noncomputable def P38_11 : Code := (Code.l (Code.l (Code.r (Code.r (Code.r (Code.r (Code.l (Code.l (Code.r (Code.r (Code.l (Code.l (Code.r (Code.l (Code.r (Code.r (bodyOf Try.f38)))))))))))))))))
def S38_3 (t3 : Int) (t9 : SO) (t10 t11 b1_0 b1_1 : Int) (b1_2 b1_3 b1_4 : SO) (H : Heap) : St := ⟨[(1, .lp 1 0), (3, .c (Cell.int .i64 t3)), (9, .c (Cell.slice t9)), (10, .c (Cell.int .i64 t10)), (11, .c (Cell.int .i64 t11))], [(1, [Cell.int .i64 b1_0, Cell.int .u64 b1_1, Cell.slice b1_2, Cell.slice b1_3, Cell.slice b1_4])], H⟩
noncomputable def D38_3 (n : Nat) (t3 : Int) (t9 : SO) (t10 t11 b1_0 b1_1 : Int) (b1_2 b1_3 b1_4 : SO) (H : Heap) : Option (AExit × St) := loopN (exec CC38 P38_3) (keepOf CC38.live P38_3) n (S38_3 t3 t9 t10 t11 b1_0 b1_1 b1_2 b1_3 b1_4 H) retD
noncomputable def LL38_3 (t3 : Int) (t9 : SO) (t10 t11 b1_0 b1_1 : Int) (b1_2 b1_3 b1_4 : SO) (H : Heap) : Option (AExit × St) := loopsD CC38 P38_3 (S38_3 t3 t9 t10 t11 b1_0 b1_1 b1_2 b1_3 b1_4 H)
theorem LL38_3_of (m : Nat) (hm : m < 18446744073709551616) (t3 : Int) (t9 : SO) (t10 t11 b1_0 b1_1 : Int) (b1_2 b1_3 b1_4 : SO) (H : Heap) : ∃ n, LL38_3 t3 t9 t10 t11 b1_0 b1_1 b1_2 b1_3 b1_4 H = D38_3 (n + m + 1) t3 t9 t10 t11 b1_0 b1_1 b1_2 b1_3 b1_4 H := loopsD_of _ _ _ m hm
def S38_11 (t3 : Int) (t9 : SO) (t10 t11 : Int) (t50 : SO) (t51 t52 b1_0 b1_1 : Int) (b1_2 b1_3 b1_4 : SO) (b5_0 b5_1 b5_2 b5_3 : Int) (b5_4 : SO) (H : Heap) : St := ⟨[(1, .lp 1 0), (3, .c (Cell.int .i64 t3)), (5, .lp 5 0), (9, .c (Cell.slice t9)), (10, .c (Cell.int .i64 t10)), (11, .c (Cell.int .i64 t11)), (50, .c (Cell.slice t50)), (51, .c (Cell.int .i64 t51)), (52, .c (Cell.int .i64 t52))], [(1, [Cell.int .i64 b1_0, Cell.int .u64 b1_1, Cell.slice b1_2, Cell.slice b1_3, Cell.slice b1_4]), (5, [Cell.int .i64 b5_0, Cell.int .i64 b5_1, Cell.int .u64 b5_2, Cell.int .u64 b5_3, Cell.slice b5_4])], H⟩
noncomputable def D38_11 (n : Nat) (t3 : Int) (t9 : SO) (t10 t11 : Int) (t50 : SO) (t51 t52 b1_0 b1_1 : Int) (b1_2 b1_3 b1_4 : SO) (b5_0 b5_1 b5_2 b5_3 : Int) (b5_4 : SO) (H : Heap) : Option (AExit × St) := loopN (exec CC38 P38_11) (keepOf CC38.live P38_11) n (S38_11 t3 t9 t10 t11 t50 t51 t52 b1_0 b1_1 b1_2 b1_3 b1_4 b5_0 b5_1 b5_2 b5_3 b5_4 H) retD
noncomputable def LL38_11 (t3 : Int) (t9 : SO) (t10 t11 : Int) (t50 : SO) (t51 t52 b1_0 b1_1 : Int) (b1_2 b1_3 b1_4 : SO) (b5_0 b5_1 b5_2 b5_3 : Int) (b5_4 : SO) (H : Heap) : Option (AExit × St) := loopsD CC38 P38_11 (S38_11 t3 t9 t10 t11 t50 t51 t52 b1_0 b1_1 b1_2 b1_3 b1_4 b5_0 b5_1 b5_2 b5_3 b5_4 H)
theorem LL38_11_of (m : Nat) (hm : m < 18446744073709551616) (t3 : Int) (t9 : SO) (t10 t11 : Int) (t50 : SO) (t51 t52 b1_0 b1_1 : Int) (b1_2 b1_3 b1_4 : SO) (b5_0 b5_1 b5_2 b5_3 : Int) (b5_4 : SO) (H : Heap) : ∃ n, LL38_11 t3 t9 t10 t11 t50 t51 t52 b1_0 b1_1 b1_2 b1_3 b1_4 b5_0 b5_1 b5_2 b5_3 b5_4 H = D38_11 (n + m + 1) t3 t9 t10 t11 t50 t51 t52 b1_0 b1_1 b1_2 b1_3 b1_4 b5_0 b5_1 b5_2 b5_3 b5_4 H := loopsD_of _ _ _ m hm
def X38_11 (x0 : Bool) (x1 : Int) (x2 : SO) (x3 : Int) (x4 : Int) (x5 : Int) (x6 : Int) (x7 : SO) (x8 : SO) (x9 : SO) (H : Heap) : St := { env := [(1, AV.lp 1 0), (2, AV.c (Cell.bool x0)), (3, AV.c (Cell.int .i64 x1)), (9, AV.c (Cell.slice x2)), (10, AV.c (Cell.int .i64 x3)), (11, AV.c (Cell.int .i64 x4))], loc := [(1, [Cell.int .i64 x5, Cell.int .u64 x6, Cell.slice x7, Cell.slice x8, Cell.slice x9])], heap := H }
def X38_11a (x0 : Int) (x1 : SO) (x2 : Int) (x3 : Int) (x4 : Int) (x5 : Int) (x6 : SO) (x7 : SO) (x8 : SO) (H : Heap) : St := { env := [(1, AV.lp 1 0), (3, AV.c (Cell.int .i64 x0)), (9, AV.c (Cell.slice x1)), (10, AV.c (Cell.int .i64 x2)), (11, AV.c (Cell.int .i64 x3))], loc := [(1, [Cell.int .i64 x4, Cell.int .u64 x5, Cell.slice x6, Cell.slice x7, Cell.slice x8])], heap := H }
def X38_3 (x0 : Bool) (x1 : Int) (H : Heap) : St := { env := [(2, AV.c (Cell.bool x0)), (3, AV.c (Cell.int .i64 x1))], loc := [], heap := H }
def X38_3a (x0 : Int) (H : Heap) : St := { env := [(3, AV.c (Cell.int .i64 x0))], loc := [], heap := H }
noncomputable def J38_11 : Nat → AExit × St → Option (AExit × St) := fun n p => blockK 2 (blockK 1 (seqK (execL CC38 (lpD CC38) (Code.r (Code.r (Code.r P38_3)))) (loopK (some { t1 := [1, 3, 9, 10, 11], l1 := [1], t2 := [2, 3], l2 := [] }) (loopN (exec CC38 P38_3) (keepOf CC38.live P38_3) n) retD))) p.1 p.2
noncomputable def J38_3 : AExit × St → Option (Bool × Heap) := fun p => blockK 0 (seqK (execL CC38 (lpD CC38) (Code.r (Code.r (Code.r (bodyOf Try.f38))))) (retA CC38 [ResultVar.tmp 2] (decF dec38))) p.1 p.2
theorem D38_11_s : ∀ (n : Nat) (t3 : Int) (t9 : SO) (t10 t11 : Int) (t50 : SO) (t51 t52 b1_0 b1_1 : Int) (b1_2 b1_3 b1_4 : SO) (b5_0 b5_1 b5_2 b5_3 : Int) (b5_4 : SO) (H : Heap), D38_11 (n + 1) t3 t9 t10 t11 t50 t51 t52 b1_0 b1_1 b1_2 b1_3 b1_4 b5_0 b5_1 b5_2 b5_3 b5_4 H = bif decide (t52 < t51) then t50.bind fun v11 => bif inb t52 v11.len && v11.esz == 5 then (H.get v11.id (v11.off + t52.toNat * 5)).bind fun v10 => (H.get v11.id (v11.off + t52.toNat * 5 + 1)).bind fun v9 => (H.get v11.id (v11.off + t52.toNat * 5 + 1 + 1)).bind fun v8 => (H.get v11.id (v11.off + t52.toNat * 5 + 1 + 1 + 1)).bind fun v7 => (H.get v11.id (v11.off + t52.toNat * 5 + 1 + 1 + 1 + 1)).bind fun v6 => (Cell.toInt .i64 v10).bind fun v5 => (Cell.toInt .i64 v9).bind fun v4 => (Cell.toInt .u64 v8).bind fun v3 => (Cell.toInt .u64 v7).bind fun v2 => v6.toSlice.bind fun v1 => bif v5 == 1 then (f65 b5_2 b5_3 v3 v2 H).bind fun v0 => bif v0.1 then some (AExit.ret, X38_11 false t3 t9 t10 t11 b1_0 b1_1 b1_2 b1_3 b1_4 v0.2) else D38_11 n t3 t9 t10 t11 t50 t51 (IntKind.i64.wrap (t52 + 1)) b1_0 b1_1 b1_2 b1_3 b1_4 b5_0 b5_1 b5_2 b5_3 b5_4 v0.2 else D38_11 n t3 t9 t10 t11 t50 t51 (IntKind.i64.wrap (t52 + 1)) b1_0 b1_1 b1_2 b1_3 b1_4 b5_0 b5_1 b5_2 b5_3 b5_4 H else none else some (AExit.exit 2, X38_11a t3 t9 t10 t11 b1_0 b1_1 b1_2 b1_3 b1_4 H) := by intros; exact (loopN_stepD hN38 _ _ _ _).trans (by kernel_rfl)
theorem D38_3_s : ∀ (n : Nat) (t3 : Int) (t9 : SO) (t10 t11 b1_0 b1_1 : Int) (b1_2 b1_3 b1_4 : SO) (H : Heap), D38_3 (n + 1) t3 t9 t10 t11 b1_0 b1_1 b1_2 b1_3 b1_4 H = bif decide (t11 < t10) then t9.bind fun v24 => bif inb t11 v24.len && v24.esz == 5 then (H.get v24.id (v24.off + t11.toNat * 5)).bind fun v23 => (H.get v24.id (v24.off + t11.toNat * 5 + 1)).bind fun v22 => (H.get v24.id (v24.off + t11.toNat * 5 + 1 + 1)).bind fun v21 => (H.get v24.id (v24.off + t11.toNat * 5 + 1 + 1 + 1)).bind fun v20 => (H.get v24.id (v24.off + t11.toNat * 5 + 1 + 1 + 1 + 1)).bind fun v19 => (Cell.toInt .i64 v23).bind fun v18 => (Cell.toInt .i64 v22).bind fun v17 => (Cell.toInt .u64 v21).bind fun v16 => (Cell.toInt .u64 v20).bind fun v15 => v19.toSlice.bind fun v14 => bif v18 != 1 then D38_3 n t3 t9 t10 (IntKind.i64.wrap (t11 + 1)) b1_0 b1_1 b1_2 b1_3 b1_4 H else bif v17.tmod 2 == 1 then bif v17 != 5 then some (AExit.ret, X38_3 false (IntKind.i64.wrap (t3 + 1)) H) else bif v15 != IntKind.u64.wrap (slen v14) then some (AExit.ret, X38_3 false (IntKind.i64.wrap (t3 + 1)) H) else bif v15 == 0 then some (AExit.ret, X38_3 false (IntKind.i64.wrap (t3 + 1)) H) else bif decide (v15 > 4096) then some (AExit.ret, X38_3 false (IntKind.i64.wrap (t3 + 1)) H) else (Sl.sub b1_2 0 (some t11)).bind fun v12 => bif esOk b1_2 5 then (LL38_11 (IntKind.i64.wrap (t3 + 1)) t9 t10 t11 v12 (slen v12) 0 b1_0 b1_1 b1_2 b1_3 b1_4 v18 v17 v16 v15 v14 H).bind (J38_11 n) else none else (Sl.sub b1_2 0 (some t11)).bind fun v13 => bif esOk b1_2 5 then (LL38_11 t3 t9 t10 t11 v13 (slen v13) 0 b1_0 b1_1 b1_2 b1_3 b1_4 v18 v17 v16 v15 v14 H).bind (J38_11 n) else none else none else some (AExit.exit 0, X38_3a t3 H) := by intros; exact (loopN_stepD hN38 _ _ _ _).trans (by kernel_rfl)
theorem J38_11_0 : ∀ (n : Nat) (x0 : Bool) (x1 : Int) (x2 : SO) (x3 x4 x5 x6 : Int) (x7 x8 x9 : SO) (H : Heap), J38_11 n (AExit.ret, X38_11 x0 x1 x2 x3 x4 x5 x6 x7 x8 x9 H) = some (AExit.ret, X38_3 x0 x1 H) := by intros; kernel_rfl
theorem J38_11_1 : ∀ (n : Nat) (x0 : Int) (x1 : SO) (x2 x3 x4 x5 : Int) (x6 x7 x8 : SO) (H : Heap), J38_11 n (AExit.exit 2, X38_11a x0 x1 x2 x3 x4 x5 x6 x7 x8 H) = D38_3 n x0 x1 x2 (IntKind.i64.wrap (x3 + 1)) x4 x5 x6 x7 x8 H := by intros; kernel_rfl
theorem q38 : ∀ (x00 x01 : Int) (x02 x03 x04 : SO) (H : Heap), f38 x00 x01 x02 x03 x04 H = (LL38_3 0 x02 (slen x02) 0 x00 x01 x02 x03 x04 H).bind J38_3 := by intros; rw [f38_eq]; exact (fnA_lpD hN38 ..).trans (by kernel_rfl)
theorem J38_3_0 : ∀ (x0 : Bool) (x1 : Int) (H : Heap), J38_3 (AExit.ret, X38_3 x0 x1 H) = some (x0, H) := by intros; kernel_rfl
theorem J38_3_1 : ∀ (x0 : Int) (H : Heap), J38_3 (AExit.exit 0, X38_3a x0 H) = some (x0 == 1, H) := by intros; kernel_rfl
theorem ok38 : FnOk Try.prog 38 (specF enc38 (sem38 f38)) := by
  refine spec_ok (C := CC38) good38 rfl rfl rfl (by kernel_rfl) Try.func38 (c := bodyOf Try.f38) (by kernel_rfl) (by kernel_rfl) (Nat.le_of_eq Try.ntmps38.symm) dec38 enc38 de38 _ ?_
  intro args H q h
  unfold sem38 at h
  split at h
  · rw [f38_eq] at h; exact h
  · cases h
/-! 39: R4_stacks -/
noncomputable def CC39 : Ctx := { P := Try.prog, own := [1, 4, 7], fns := [(65, specF enc65 (sem65 f65))], nt := 69, nums := [], live := [(11, ⟨[1, 3, 4, 5, 9, 10, 11, 41, 42, 43], [1, 4], [1, 2, 9, 10, 11], [1]⟩), (2, ⟨[1, 9, 10, 11], [1], [2], []⟩)] }
theorem good39 : Callees Try.prog CC39.fns [] CC39.nums := (Callees.nil Try.prog).cons ok65 (specF_nat _ _)
theorem hN39 : CtxNat CC39 := good39.ctx rfl rfl rfl
def enc39 (r : Bool) : List TV := [.c (Cell.bool (r))]
def dec39 : AV → Option (Bool)
  | .c (Cell.bool q0) => some (q0)
  | _ => none
theorem de39 (v : AV) (r : Bool) (h : dec39 v = some r) : v = oneOf (enc39 r) := by
  unfold dec39 at h
  split at h
  · cases h; rfl
  · cases h
abbrev Ty39 := Int → Int → SO → SO → SO → Heap → Option (Bool × Heap)
def sem39 (f : Ty39) : List TV → Heap → Option (Bool × Heap)
  | [.agg [Cell.int .i64 x00, Cell.int .u64 x01, Cell.slice x02, Cell.slice x03, Cell.slice x04]], H => f x00 x01 x02 x03 x04 H
  | _, _ => none
noncomputable def F039 : Ty39 := fun x00 x01 x02 x03 x04 H => fnA CC39 Try.f39.results.toList (bodyOf Try.f39) _ [.agg [Cell.int .i64 x00, Cell.int .u64 x01, Cell.slice x02, Cell.slice x03, Cell.slice x04]] H (decF dec39)
noncomputable def f39 : Ty39 := hide F039
theorem f39_eq : f39 = F039 := hide_eq _
noncomputable def P39_2 : Code := (Code.l (Code.l (Code.r (Code.l (Code.r (bodyOf Try.f39))))))
noncomputable def P39_11 : Code := (Code.l (Code.l (Code.r (Code.r (Code.r (Code.r (Code.r (Code.r (Code.l (Code.l (Code.r (Code.r (Code.l (Code.l (Code.r (Code.l (Code.r (bodyOf Try.f39))))))))))))))))))
def S39_2 (t9 : SO) (t10 t11 b1_0 b1_1 : Int) (b1_2 b1_3 b1_4 : SO) (H : Heap) : St := ⟨[(1, .lp 1 0), (9, .c (Cell.slice t9)), (10, .c (Cell.int .i64 t10)), (11, .c (Cell.int .i64 t11))], [(1, [Cell.int .i64 b1_0, Cell.int .u64 b1_1, Cell.slice b1_2, Cell.slice b1_3, Cell.slice b1_4])], H⟩
noncomputable def D39_2 (n : Nat) (t9 : SO) (t10 t11 b1_0 b1_1 : Int) (b1_2 b1_3 b1_4 : SO) (H : Heap) : Option (AExit × St) := loopN (exec CC39 P39_2) (keepOf CC39.live P39_2) n (S39_2 t9 t10 t11 b1_0 b1_1 b1_2 b1_3 b1_4 H) retD
noncomputable def LL39_2 (t9 : SO) (t10 t11 b1_0 b1_1 : Int) (b1_2 b1_3 b1_4 : SO) (H : Heap) : Option (AExit × St) := loopsD CC39 P39_2 (S39_2 t9 t10 t11 b1_0 b1_1 b1_2 b1_3 b1_4 H)
theorem LL39_2_of (m : Nat) (hm : m < 18446744073709551616) (t9 : SO) (t10 t11 b1_0 b1_1 : Int) (b1_2 b1_3 b1_4 : SO) (H : Heap) : ∃ n, LL39_2 t9 t10 t11 b1_0 b1_1 b1_2 b1_3 b1_4 H = D39_2 (n + m + 1) t9 t10 t11 b1_0 b1_1 b1_2 b1_3 b1_4 H := loopsD_of _ _ _ m hm
def S39_11 (t3 t5 : Int) (t9 : SO) (t10 t11 : Int) (t41 : SO) (t42 t43 b1_0 b1_1 : Int) (b1_2 b1_3 b1_4 : SO) (b4_0 b4_1 b4_2 b4_3 : Int) (b4_4 : SO) (H : Heap) : St := ⟨[(1, .lp 1 0), (3, .c (Cell.int .i64 t3)), (4, .lp 4 0), (5, .c (Cell.int .u64 t5)), (9, .c (Cell.slice t9)), (10, .c (Cell.int .i64 t10)), (11, .c (Cell.int .i64 t11)), (41, .c (Cell.slice t41)), (42, .c (Cell.int .i64 t42)), (43, .c (Cell.int .i64 t43))], [(1, [Cell.int .i64 b1_0, Cell.int .u64 b1_1, Cell.slice b1_2, Cell.slice b1_3, Cell.slice b1_4]), (4, [Cell.int .i64 b4_0, Cell.int .i64 b4_1, Cell.int .u64 b4_2, Cell.int .u64 b4_3, Cell.slice b4_4])], H⟩
noncomputable def D39_11 (n : Nat) (t3 t5 : Int) (t9 : SO) (t10 t11 : Int) (t41 : SO) (t42 t43 b1_0 b1_1 : Int) (b1_2 b1_3 b1_4 : SO) (b4_0 b4_1 b4_2 b4_3 : Int) (b4_4 : SO) (H : Heap) : Option (AExit × St) := loopN (exec CC39 P39_11) (keepOf CC39.live P39_11) n (S39_11 t3 t5 t9 t10 t11 t41 t42 t43 b1_0 b1_1 b1_2 b1_3 b1_4 b4_0 b4_1 b4_2 b4_3 b4_4 H) retD
noncomputable def LL39_11 (t3 t5 : Int) (t9 : SO) (t10 t11 : Int) (t41 : SO) (t42 t43 b1_0 b1_1 : Int) (b1_2 b1_3 b1_4 : SO) (b4_0 b4_1 b4_2 b4_3 : Int) (b4_4 : SO) (H : Heap) : Option (AExit × St) := loopsD CC39 P39_11 (S39_11 t3 t5 t9 t10 t11 t41 t42 t43 b1_0 b1_1 b1_2 b1_3 b1_4 b4_0 b4_1 b4_2 b4_3 b4_4 H)
theorem LL39_11_of (m : Nat) (hm : m < 18446744073709551616) (t3 t5 : Int) (t9 : SO) (t10 t11 : Int) (t41 : SO) (t42 t43 b1_0 b1_1 : Int) (b1_2 b1_3 b1_4 : SO) (b4_0 b4_1 b4_2 b4_3 : Int) (b4_4 : SO) (H : Heap) : ∃ n, LL39_11 t3 t5 t9 t10 t11 t41 t42 t43 b1_0 b1_1 b1_2 b1_3 b1_4 b4_0 b4_1 b4_2 b4_3 b4_4 H = D39_11 (n + m + 1) t3 t5 t9 t10 t11 t41 t42 t43 b1_0 b1_1 b1_2 b1_3 b1_4 b4_0 b4_1 b4_2 b4_3 b4_4 H := loopsD_of _ _ _ m hm
def X39_11 (x0 : Bool) (x1 : SO) (x2 : Int) (x3 : Int) (x4 : Int) (x5 : Int) (x6 : SO) (x7 : SO) (x8 : SO) (H : Heap) : St := { env := [(1, AV.lp 1 0), (2, AV.c (Cell.bool x0)), (9, AV.c (Cell.slice x1)), (10, AV.c (Cell.int .i64 x2)), (11, AV.c (Cell.int .i64 x3))], loc := [(1, [Cell.int .i64 x4, Cell.int .u64 x5, Cell.slice x6, Cell.slice x7, Cell.slice x8])], heap := H }
def X39_11a (x0 : SO) (x1 : Int) (x2 : Int) (x3 : Int) (x4 : Int) (x5 : SO) (x6 : SO) (x7 : SO) (H : Heap) : St := { env := [(1, AV.lp 1 0), (9, AV.c (Cell.slice x0)), (10, AV.c (Cell.int .i64 x1)), (11, AV.c (Cell.int .i64 x2))], loc := [(1, [Cell.int .i64 x3, Cell.int .u64 x4, Cell.slice x5, Cell.slice x6, Cell.slice x7])], heap := H }
def X39_2 (x0 : Bool) (H : Heap) : St := { env := [(2, AV.c (Cell.bool x0))], loc := [], heap := H }
def X39_2a (H : Heap) : St := { env := [], loc := [], heap := H }
noncomputable def J39_11 : Nat → AExit × St → Option (AExit × St) := fun n p => blockK 2 (blockK 1 (seqK (execL CC39 (lpD CC39) (Code.r (Code.r (Code.r P39_2)))) (loopK (some { t1 := [1, 9, 10, 11], l1 := [1], t2 := [2], l2 := [] }) (loopN (exec CC39 P39_2) (keepOf CC39.live P39_2) n) retD))) p.1 p.2
noncomputable def J39_2 : AExit × St → Option (Bool × Heap) := fun p => blockK 0 (seqK (execL CC39 (lpD CC39) (Code.r (Code.r (bodyOf Try.f39)))) (retA CC39 [ResultVar.tmp 2] (decF dec39))) p.1 p.2
theorem D39_11_s : ∀ (n : Nat) (t3 t5 : Int) (t9 : SO) (t10 t11 : Int) (t41 : SO) (t42 t43 b1_0 b1_1 : Int) (b1_2 b1_3 b1_4 : SO) (b4_0 b4_1 b4_2 b4_3 : Int) (b4_4 : SO) (H : Heap), D39_11 (n + 1) t3 t5 t9 t10 t11 t41 t42 t43 b1_0 b1_1 b1_2 b1_3 b1_4 b4_0 b4_1 b4_2 b4_3 b4_4 H = bif decide (t43 < t42) then t41.bind fun v11 => bif inb t43 v11.len && v11.esz == 5 then (H.get v11.id (v11.off + t43.toNat * 5)).bind fun v10 => (H.get v11.id (v11.off + t43.toNat * 5 + 1)).bind fun v9 => (H.get v11.id (v11.off + t43.toNat * 5 + 1 + 1)).bind fun v8 => (H.get v11.id (v11.off + t43.toNat * 5 + 1 + 1 + 1)).bind fun v7 => (H.get v11.id (v11.off + t43.toNat * 5 + 1 + 1 + 1 + 1)).bind fun v6 => (Cell.toInt .i64 v10).bind fun v5 => (Cell.toInt .i64 v9).bind fun v4 => (Cell.toInt .u64 v8).bind fun v3 => (Cell.toInt .u64 v7).bind fun v2 => v6.toSlice.bind fun v1 => bif t43 != t3 then (f65 t5 (IntKind.u64.wrap (IntKind.u64.wrap (IntKind.u64.wrap (b4_2 + b4_3) + 4096) - t5)) v3 v2 H).bind fun v0 => bif v0.1 then some (AExit.ret, X39_11 false t9 t10 t11 b1_0 b1_1 b1_2 b1_3 b1_4 v0.2) else D39_11 n t3 t5 t9 t10 t11 t41 t42 (IntKind.i64.wrap (t43 + 1)) b1_0 b1_1 b1_2 b1_3 b1_4 b4_0 b4_1 b4_2 b4_3 b4_4 v0.2 else D39_11 n t3 t5 t9 t10 t11 t41 t42 (IntKind.i64.wrap (t43 + 1)) b1_0 b1_1 b1_2 b1_3 b1_4 b4_0 b4_1 b4_2 b4_3 b4_4 H else none else some (AExit.exit 2, X39_11a t9 t10 t11 b1_0 b1_1 b1_2 b1_3 b1_4 H) := by intros; exact (loopN_stepD hN39 _ _ _ _).trans (by kernel_rfl)
theorem D39_2_s : ∀ (n : Nat) (t9 : SO) (t10 t11 b1_0 b1_1 : Int) (b1_2 b1_3 b1_4 : SO) (H : Heap), D39_2 (n + 1) t9 t10 t11 b1_0 b1_1 b1_2 b1_3 b1_4 H = bif decide (t11 < t10) then t9.bind fun v22 => bif inb t11 v22.len && v22.esz == 5 then (H.get v22.id (v22.off + t11.toNat * 5)).bind fun v21 => (H.get v22.id (v22.off + t11.toNat * 5 + 1)).bind fun v20 => (H.get v22.id (v22.off + t11.toNat * 5 + 1 + 1)).bind fun v19 => (H.get v22.id (v22.off + t11.toNat * 5 + 1 + 1 + 1)).bind fun v18 => (H.get v22.id (v22.off + t11.toNat * 5 + 1 + 1 + 1 + 1)).bind fun v17 => (Cell.toInt .i64 v21).bind fun v16 => (Cell.toInt .i64 v20).bind fun v15 => (Cell.toInt .u64 v19).bind fun v14 => (Cell.toInt .u64 v18).bind fun v13 => v17.toSlice.bind fun v12 => bif v16 == 1 then D39_2 n t9 t10 (IntKind.i64.wrap (t11 + 1)) b1_0 b1_1 b1_2 b1_3 b1_4 H else bif decide (v14 > 4096) then bif v14.tmod 16 != 0 then some (AExit.ret, X39_2 false H) else bif v13.tmod 16 != 0 then some (AExit.ret, X39_2 false H) else bif decide (v13 < 64) then some (AExit.ret, X39_2 false H) else (LL39_11 t11 (IntKind.u64.wrap (v14 - 4096)) t9 t10 t11 b1_2 (slen b1_2) 0 b1_0 b1_1 b1_2 b1_3 b1_4 v16 v15 v14 v13 v12 H).bind (J39_11 n) else bif v14.tmod 16 != 0 then some (AExit.ret, X39_2 false H) else bif v13.tmod 16 != 0 then some (AExit.ret, X39_2 false H) else bif decide (v13 < 64) then some (AExit.ret, X39_2 false H) else (LL39_11 t11 0 t9 t10 t11 b1_2 (slen b1_2) 0 b1_0 b1_1 b1_2 b1_3 b1_4 v16 v15 v14 v13 v12 H).bind (J39_11 n) else none else some (AExit.exit 0, X39_2a H) := by intros; exact (loopN_stepD hN39 _ _ _ _).trans (by kernel_rfl)
theorem J39_11_0 : ∀ (n : Nat) (x0 : Bool) (x1 : SO) (x2 x3 x4 x5 : Int) (x6 x7 x8 : SO) (H : Heap), J39_11 n (AExit.ret, X39_11 x0 x1 x2 x3 x4 x5 x6 x7 x8 H) = some (AExit.ret, X39_2 x0 H) := by intros; kernel_rfl
theorem J39_11_1 : ∀ (n : Nat) (x0 : SO) (x1 x2 x3 x4 : Int) (x5 x6 x7 : SO) (H : Heap), J39_11 n (AExit.exit 2, X39_11a x0 x1 x2 x3 x4 x5 x6 x7 H) = D39_2 n x0 x1 (IntKind.i64.wrap (x2 + 1)) x3 x4 x5 x6 x7 H := by intros; kernel_rfl
theorem q39 : ∀ (x00 x01 : Int) (x02 x03 x04 : SO) (H : Heap), f39 x00 x01 x02 x03 x04 H = (LL39_2 x02 (slen x02) 0 x00 x01 x02 x03 x04 H).bind J39_2 := by intros; rw [f39_eq]; exact (fnA_lpD hN39 ..).trans (by kernel_rfl)
theorem J39_2_0 : ∀ (x0 : Bool) (H : Heap), J39_2 (AExit.ret, X39_2 x0 H) = some (x0, H) := by intros; kernel_rfl
theorem J39_2_1 : ∀ (H : Heap), J39_2 (AExit.exit 0, X39_2a H) = some (true, H) := by intros; kernel_rfl
theorem ok39 : FnOk Try.prog 39 (specF enc39 (sem39 f39)) := by
  refine spec_ok (C := CC39) good39 rfl rfl rfl (by kernel_rfl) Try.func39 (c := bodyOf Try.f39) (by kernel_rfl) (by kernel_rfl) (Nat.le_of_eq Try.ntmps39.symm) dec39 enc39 de39 _ ?_
  intro args H q h
  unfold sem39 at h
  split at h
  · rw [f39_eq] at h; exact h
  · cases h
/-! 20: R3_Seg_Has -/
noncomputable def CC20 : Ctx := { P := Try.prog, own := [3], fns := [], nt := 29, nums := [], live := [] }
theorem good20 : Callees Try.prog CC20.fns [] CC20.nums := Callees.nil Try.prog
theorem hN20 : CtxNat CC20 := good20.ctx rfl rfl rfl
def enc20 (r : Bool) : List TV := [.c (Cell.bool (r))]
def dec20 : AV → Option (Bool)
  | .c (Cell.bool q0) => some (q0)
  | _ => none
theorem de20 (v : AV) (r : Bool) (h : dec20 v = some r) : v = oneOf (enc20 r) := by
  unfold dec20 at h
  split at h
  · cases h; rfl
  · cases h
abbrev Ty20 := Int → Int → Int → Int → SO → Int → Int → Heap → Option (Bool × Heap)
def sem20 (f : Ty20) : List TV → Heap → Option (Bool × Heap)
  | [.agg [Cell.int .i64 s0, Cell.int .i64 s1, Cell.int .u64 s2, Cell.int .u64 s3, Cell.slice s4], .c (Cell.int .u64 a), .c (Cell.int .u64 n)], H => f s0 s1 s2 s3 s4 a n H
  | _, _ => none
noncomputable def F020 : Ty20 := fun s0 s1 s2 s3 s4 a n H => fnA CC20 Try.f20.results.toList (bodyOf Try.f20) _ [.agg [Cell.int .i64 s0, Cell.int .i64 s1, Cell.int .u64 s2, Cell.int .u64 s3, Cell.slice s4], .c (Cell.int .u64 a), .c (Cell.int .u64 n)] H (decF dec20)
noncomputable def f20 : Ty20 := hide F020
theorem f20_eq : f20 = F020 := hide_eq _
theorem q20 : ∀ (s0 s1 s2 s3 : Int) (s4 : SO) (a n : Int) (H : Heap), f20 s0 s1 s2 s3 s4 a n H = bif decide (a < s2) then some (false, H) else bif decide (IntKind.u64.wrap (a - s2) > s3) then some (false, H) else some (decide (n ≤ IntKind.u64.wrap (s3 - IntKind.u64.wrap (a - s2))), H) := by intros; rw [f20_eq]; exact (fnA_lpD hN20 ..).trans (by kernel_rfl)
theorem ok20 : FnOk Try.prog 20 (specF enc20 (sem20 f20)) := by
  refine spec_ok (C := CC20) good20 rfl rfl rfl (by kernel_rfl) Try.func20 (c := bodyOf Try.f20) (by kernel_rfl) (by kernel_rfl) (Nat.le_of_eq Try.ntmps20.symm) dec20 enc20 de20 _ ?_
  intro args H q h
  unfold sem20 at h
  split at h
  · rw [f20_eq] at h; exact h
  · cases h
/-! 40: R4_Into -/
noncomputable def CC40 : Ctx := { P := Try.prog, own := [], fns := [], nt := 41, nums := [], live := [(4, ⟨[1, 5, 6, 9, 10, 11], [], [1, 5, 6], []⟩)] }
theorem good40 : Callees Try.prog CC40.fns [] CC40.nums := Callees.nil Try.prog
theorem hN40 : CtxNat CC40 := good40.ctx rfl rfl rfl
def enc40 (r : SO) : List TV := [.c (Cell.slice (r))]
def dec40 : AV → Option (SO)
  | .c (Cell.slice q0) => some (q0)
  | _ => none
theorem de40 (v : AV) (r : SO) (h : dec40 v = some r) : v = oneOf (enc40 r) := by
  unfold dec40 at h
  split at h
  · cases h; rfl
  · cases h
abbrev Ty40 := SO → Int → Heap → Option (SO × Heap)
def sem40 (f : Ty40) : List TV → Heap → Option (SO × Heap)
  | [.c (Cell.slice l), .c (Cell.int .u64 n)], H => f l n H
  | _, _ => none
noncomputable def F040 : Ty40 := fun l n H => fnA CC40 Try.f40.results.toList (bodyOf Try.f40) _ [.c (Cell.slice l), .c (Cell.int .u64 n)] H (decF dec40)
noncomputable def f40 : Ty40 := hide F040
theorem f40_eq : f40 = F040 := hide_eq _
noncomputable def P40_4 : Code := (Code.l (Code.l (Code.r (Code.l (Code.r (Code.r (Code.r (bodyOf Try.f40))))))))
def S40_4 (t1 : Int) (t5 : SO) (t6 : Bool) (t9 : SO) (t10 t11 : Int) (H : Heap) : St := ⟨[(1, .c (Cell.int .u64 t1)), (5, .c (Cell.slice t5)), (6, .c (Cell.bool t6)), (9, .c (Cell.slice t9)), (10, .c (Cell.int .i64 t10)), (11, .c (Cell.int .i64 t11))], [], H⟩
noncomputable def D40_4 (n : Nat) (t1 : Int) (t5 : SO) (t6 : Bool) (t9 : SO) (t10 t11 : Int) (H : Heap) : Option (AExit × St) := loopN (exec CC40 P40_4) (keepOf CC40.live P40_4) n (S40_4 t1 t5 t6 t9 t10 t11 H) retD
noncomputable def LL40_4 (t1 : Int) (t5 : SO) (t6 : Bool) (t9 : SO) (t10 t11 : Int) (H : Heap) : Option (AExit × St) := loopsD CC40 P40_4 (S40_4 t1 t5 t6 t9 t10 t11 H)
theorem LL40_4_of (m : Nat) (hm : m < 18446744073709551616) (t1 : Int) (t5 : SO) (t6 : Bool) (t9 : SO) (t10 t11 : Int) (H : Heap) : ∃ n, LL40_4 t1 t5 t6 t9 t10 t11 H = D40_4 (n + m + 1) t1 t5 t6 t9 t10 t11 H := loopsD_of _ _ _ m hm
def X40_4 (x0 : Int) (x1 : SO) (x2 : Bool) (H : Heap) : St := { env := [(1, AV.c (Cell.int .u64 x0)), (5, AV.c (Cell.slice x1)), (6, AV.c (Cell.bool x2))], loc := [], heap := H }
noncomputable def J40_4 : AExit × St → Option (Option Sl × Heap) := fun p => blockK 0 (seqK (execL CC40 (lpD CC40) (Code.r (Code.r (Code.r (Code.r (bodyOf Try.f40)))))) (retA CC40 [ResultVar.tmp 4] (decF dec40))) p.1 p.2
theorem D40_4_s : ∀ (n : Nat) (t1 : Int) (t5 : SO) (t6 : Bool) (t9 : SO) (t10 t11 : Int) (H : Heap), D40_4 (n + 1) t1 t5 t6 t9 t10 t11 H = bif decide (t11 < t10) then t9.bind fun v6 => bif inb t11 v6.len && v6.esz == 1 then (H.get v6.id (v6.off + t11.toNat * 1)).bind fun v5 => (Cell.toInt .u64 v5).bind fun v4 => bif !t6 then bif decide (v4 ≥ t1) then ((H ++ [Blk.row [Cell.int .u64 t1] false]).append 1 8 t5 (some { id := List.length H, off := 0, len := 1, cap := 1, esz := 1 })).bind fun v1 => bif v4 != t1 then ((v1.2 ++ [Blk.row [Cell.int .u64 v4] false]).append 1 8 v1.1 (some { id := List.length v1.2, off := 0, len := 1, cap := 1, esz := 1 })).bind fun v0 => D40_4 n t1 v0.1 true t9 t10 (IntKind.i64.wrap (t11 + 1)) v0.2 else D40_4 n t1 v1.1 true t9 t10 (IntKind.i64.wrap (t11 + 1)) v1.2 else bif v4 != t1 then ((H ++ [Blk.row [Cell.int .u64 v4] false]).append 1 8 t5 (some { id := List.length H, off := 0, len := 1, cap := 1, esz := 1 })).bind fun v2 => D40_4 n t1 v2.1 t6 t9 t10 (IntKind.i64.wrap (t11 + 1)) v2.2 else D40_4 n t1 t5 t6 t9 t10 (IntKind.i64.wrap (t11 + 1)) H else bif v4 != t1 then ((H ++ [Blk.row [Cell.int .u64 v4] false]).append 1 8 t5 (some { id := List.length H, off := 0, len := 1, cap := 1, esz := 1 })).bind fun v3 => D40_4 n t1 v3.1 t6 t9 t10 (IntKind.i64.wrap (t11 + 1)) v3.2 else D40_4 n t1 t5 t6 t9 t10 (IntKind.i64.wrap (t11 + 1)) H else none else some (AExit.exit 0, X40_4 t1 t5 t6 H) := by intros; exact (loopN_stepD hN40 _ _ _ _).trans (by kernel_rfl)
theorem q40 : ∀ (l : SO) (n : Int) (H : Heap), f40 l n H = (LL40_4 n none false l (slen l) 0 H).bind J40_4 := by intros; rw [f40_eq]; exact (fnA_lpD hN40 ..).trans (by kernel_rfl)
theorem J40_4_0 : ∀ (x0 : Int) (x1 : SO) (x2 : Bool) (H : Heap), J40_4 (AExit.exit 0, X40_4 x0 x1 x2 H) = bif !x2 then ((H ++ [Blk.row [Cell.int .u64 x0] false]).append 1 8 x1 (some { id := List.length H, off := 0, len := 1, cap := 1, esz := 1 })).bind fun v7 => some (v7.1, v7.2) else some (x1, H) := by intros; kernel_rfl
theorem ok40 : FnOk Try.prog 40 (specF enc40 (sem40 f40)) := by
  refine spec_ok (C := CC40) good40 rfl rfl rfl (by kernel_rfl) Try.func40 (c := bodyOf Try.f40) (by kernel_rfl) (by kernel_rfl) (Nat.le_of_eq Try.ntmps40.symm) dec40 enc40 de40 _ ?_
  intro args H q h
  unfold sem40 at h
  split at h
  · rw [f40_eq] at h; exact h
  · cases h
/-! 66: R2_Has -/
noncomputable def CC66 : Ctx := { P := Try.prog, own := [], fns := [], nt := 27, nums := [], live := [] }
theorem good66 : Callees Try.prog CC66.fns [] CC66.nums := Callees.nil Try.prog
theorem hN66 : CtxNat CC66 := good66.ctx rfl rfl rfl
def enc66 (r : Bool) : List TV := [.c (Cell.bool (r))]
def dec66 : AV → Option (Bool)
  | .c (Cell.bool q0) => some (q0)
  | _ => none
theorem de66 (v : AV) (r : Bool) (h : dec66 v = some r) : v = oneOf (enc66 r) := by
  unfold dec66 at h
  split at h
  · cases h; rfl
  · cases h
abbrev Ty66 := SO → Int → Int → Heap → Option (Bool × Heap)
def sem66 (f : Ty66) : List TV → Heap → Option (Bool × Heap)
  | [.c (Cell.slice b), .c (Cell.int .i64 x1), .c (Cell.int .i64 n)], H => f b x1 n H
  | _, _ => none
noncomputable def F066 : Ty66 := fun b x1 n H => fnA CC66 Try.f66.results.toList (bodyOf Try.f66) _ [.c (Cell.slice b), .c (Cell.int .i64 x1), .c (Cell.int .i64 n)] H (decF dec66)
noncomputable def f66 : Ty66 := hide F066
theorem f66_eq : f66 = F066 := hide_eq _
theorem q66 : ∀ (b : SO) (x1 n : Int) (H : Heap), f66 b x1 n H = bif decide (x1 ≥ 0) then bif decide (x1 ≤ slen b) then bif decide (n ≥ 0) then some (decide (n ≤ IntKind.i64.wrap (slen b - x1)), H) else some (false, H) else some (false, H) else some (false, H) := by intros; rw [f66_eq]; exact (fnA_lpD hN66 ..).trans (by kernel_rfl)
theorem ok66 : FnOk Try.prog 66 (specF enc66 (sem66 f66)) := by
  refine spec_ok (C := CC66) good66 rfl rfl rfl (by kernel_rfl) Try.func66 (c := bodyOf Try.f66) (by kernel_rfl) (by kernel_rfl) (Nat.le_of_eq Try.ntmps66.symm) dec66 enc66 de66 _ ?_
  intro args H q h
  unfold sem66 at h
  split at h
  · rw [f66_eq] at h; exact h
  · cases h
/-! 67: R2_Num -/
noncomputable def CC67 : Ctx := { P := Try.prog, own := [], fns := [], nt := 21, nums := [], live := [(3, ⟨[0, 3, 4], [], [3], []⟩)] }
theorem good67 : Callees Try.prog CC67.fns [] CC67.nums := Callees.nil Try.prog
theorem hN67 : CtxNat CC67 := good67.ctx rfl rfl rfl
def enc67 (r : Int) : List TV := [.c (Cell.int .u64 (r))]
def dec67 : AV → Option (Int)
  | .c (Cell.int .u64 q0) => some (q0)
  | _ => none
theorem de67 (v : AV) (r : Int) (h : dec67 v = some r) : v = oneOf (enc67 r) := by
  unfold dec67 at h
  split at h
  · cases h; rfl
  · cases h
abbrev Ty67 := SO → Heap → Option (Int × Heap)
def sem67 (f : Ty67) : List TV → Heap → Option (Int × Heap)
  | [.c (Cell.slice b)], H => f b H
  | _, _ => none
noncomputable def F067 : Ty67 := fun b H => fnA CC67 Try.f67.results.toList (bodyOf Try.f67) _ [.c (Cell.slice b)] H (decF dec67)
noncomputable def f67 : Ty67 := hide F067
theorem f67_eq : f67 = F067 := hide_eq _
noncomputable def P67_3 : Code := (Code.l (Code.l (Code.r (Code.l (Code.r (Code.r (bodyOf Try.f67)))))))
def S67_3 (t0 : SO) (t3 t4 : Int) (H : Heap) : St := ⟨[(0, .c (Cell.slice t0)), (3, .c (Cell.int .u64 t3)), (4, .c (Cell.int .i64 t4))], [], H⟩
noncomputable def D67_3 (n : Nat) (t0 : SO) (t3 t4 : Int) (H : Heap) : Option (AExit × St) := loopN (exec CC67 P67_3) (keepOf CC67.live P67_3) n (S67_3 t0 t3 t4 H) retD
noncomputable def LL67_3 (t0 : SO) (t3 t4 : Int) (H : Heap) : Option (AExit × St) := loopsD CC67 P67_3 (S67_3 t0 t3 t4 H)
theorem LL67_3_of (m : Nat) (hm : m < 18446744073709551616) (t0 : SO) (t3 t4 : Int) (H : Heap) : ∃ n, LL67_3 t0 t3 t4 H = D67_3 (n + m + 1) t0 t3 t4 H := loopsD_of _ _ _ m hm
def X67_3 (x0 : Int) (H : Heap) : St := { env := [(3, AV.c (Cell.int .u64 x0))], loc := [], heap := H }
noncomputable def J67_3 : AExit × St → Option (Int × Heap) := fun p => blockK 0 (seqK (execL CC67 (lpD CC67) (Code.r (Code.r (Code.r (bodyOf Try.f67))))) (retA CC67 [ResultVar.tmp 2] (decF dec67))) p.1 p.2
theorem D67_3_s : ∀ (n : Nat) (t0 : SO) (t3 t4 : Int) (H : Heap), D67_3 (n + 1) t0 t3 t4 H = bif decide (t4 ≥ 0) then t0.bind fun v2 => bif inb t4 v2.len && v2.esz == 1 then (H.get v2.id (v2.off + t4.toNat * 1)).bind fun v1 => (Cell.toInt .u8 v1).bind fun v0 => D67_3 n t0 (IntKind.u64.wrap (IntKind.u64.wrap (t3 * 256) + IntKind.u64.wrap v0)) (IntKind.i64.wrap (t4 - 1)) H else none else some (AExit.exit 0, X67_3 t3 H) := by intros; exact (loopN_stepD hN67 _ _ _ _).trans (by kernel_rfl)
theorem q67 : ∀ (b : SO) (H : Heap), f67 b H = (LL67_3 b 0 (IntKind.i64.wrap (slen b - 1)) H).bind J67_3 := by intros; rw [f67_eq]; exact (fnA_lpD hN67 ..).trans (by kernel_rfl)
theorem J67_3_0 : ∀ (x0 : Int) (H : Heap), J67_3 (AExit.exit 0, X67_3 x0 H) = some (x0, H) := by intros; kernel_rfl
theorem ok67 : FnOk Try.prog 67 (specF enc67 (sem67 f67)) := by
  refine spec_ok (C := CC67) good67 rfl rfl rfl (by kernel_rfl) Try.func67 (c := bodyOf Try.f67) (by kernel_rfl) (by kernel_rfl) (Nat.le_of_eq Try.ntmps67.symm) dec67 enc67 de67 _ ?_
  intro args H q h
  unfold sem67 at h
  split at h
  · rw [f67_eq] at h; exact h
  · cases h
/-! 41: R4_Holds -/
noncomputable def CC41 : Ctx := { P := Try.prog, own := [2, 3, 8], fns := [(67, specF enc67 (sem67 f67)), (66, specF enc66 (sem66 f66))], nt := 85, nums := [], live := [(3, ⟨[3, 6, 22, 23, 24], [3], [4, 5], []⟩)] }
theorem good41 : Callees Try.prog CC41.fns [] CC41.nums := ((Callees.nil Try.prog).cons ok66 (specF_nat _ _)).cons ok67 (specF_nat _ _)
theorem hN41 : CtxNat CC41 := good41.ctx rfl rfl rfl
def enc41 (r : Int × Bool) : List TV := [.c (Cell.int .u64 (r.1)), .c (Cell.bool (r.2))]
def dec41 : AV → Option (Int × Bool)
  | .tup [.c (Cell.int .u64 q0), .c (Cell.bool q1)] => some (q0, q1)
  | _ => none
theorem de41 (v : AV) (r : Int × Bool) (h : dec41 v = some r) : v = oneOf (enc41 r) := by
  unfold dec41 at h
  split at h
  · cases h; rfl
  · cases h
abbrev Ty41 := Int → Int → SO → SO → SO → Int → Int → Int → Heap → Option ((Int × Bool) × Heap)
def sem41 (f : Ty41) : List TV → Heap → Option ((Int × Bool) × Heap)
  | [.agg [Cell.int .i64 x00, Cell.int .u64 x01, Cell.slice x02, Cell.slice x03, Cell.slice x04], .agg [Cell.int .u64 r0, Cell.int .i64 r1, Cell.int .i64 r2]], H => f x00 x01 x02 x03 x04 r0 r1 r2 H
  | _, _ => none
noncomputable def F041 : Ty41 := fun x00 x01 x02 x03 x04 r0 r1 r2 H => fnA CC41 Try.f41.results.toList (bodyOf Try.f41) _ [.agg [Cell.int .i64 x00, Cell.int .u64 x01, Cell.slice x02, Cell.slice x03, Cell.slice x04], .agg [Cell.int .u64 r0, Cell.int .i64 r1, Cell.int .i64 r2]] H (decF dec41)
noncomputable def f41 : Ty41 := hide F041
theorem f41_eq : f41 = F041 := hide_eq _
noncomputable def P41_3 : Code := (Code.l (Code.l (Code.r (Code.l (Code.r (Code.r (bodyOf Try.f41)))))))
def S41_3 (t6 : Int) (t22 : SO) (t23 t24 b3_0 b3_1 b3_2 : Int) (H : Heap) : St := ⟨[(3, .lp 3 0), (6, .c (Cell.int .u64 t6)), (22, .c (Cell.slice t22)), (23, .c (Cell.int .i64 t23)), (24, .c (Cell.int .i64 t24))], [(3, [Cell.int .u64 b3_0, Cell.int .i64 b3_1, Cell.int .i64 b3_2])], H⟩
noncomputable def D41_3 (n : Nat) (t6 : Int) (t22 : SO) (t23 t24 b3_0 b3_1 b3_2 : Int) (H : Heap) : Option (AExit × St) := loopN (exec CC41 P41_3) (keepOf CC41.live P41_3) n (S41_3 t6 t22 t23 t24 b3_0 b3_1 b3_2 H) retD
noncomputable def LL41_3 (t6 : Int) (t22 : SO) (t23 t24 b3_0 b3_1 b3_2 : Int) (H : Heap) : Option (AExit × St) := loopsD CC41 P41_3 (S41_3 t6 t22 t23 t24 b3_0 b3_1 b3_2 H)
theorem LL41_3_of (m : Nat) (hm : m < 18446744073709551616) (t6 : Int) (t22 : SO) (t23 t24 b3_0 b3_1 b3_2 : Int) (H : Heap) : ∃ n, LL41_3 t6 t22 t23 t24 b3_0 b3_1 b3_2 H = D41_3 (n + m + 1) t6 t22 t23 t24 b3_0 b3_1 b3_2 H := loopsD_of _ _ _ m hm
def X41_3 (x0 : Int) (x1 : Bool) (H : Heap) : St := { env := [(4, AV.c (Cell.int .u64 x0)), (5, AV.c (Cell.bool x1))], loc := [], heap := H }
def X41_3a (H : Heap) : St := { env := [], loc := [], heap := H }
noncomputable def J41_3 : AExit × St → Option ((Int × Bool) × Heap) := fun p => blockK 0 (seqK (execL CC41 (lpD CC41) (Code.r (Code.r (Code.r (bodyOf Try.f41))))) (retA CC41 [ResultVar.tmp 4, ResultVar.tmp 5] (decF dec41))) p.1 p.2
theorem D41_3_s : ∀ (n : Nat) (t6 : Int) (t22 : SO) (t23 t24 b3_0 b3_1 b3_2 : Int) (H : Heap), D41_3 (n + 1) t6 t22 t23 t24 b3_0 b3_1 b3_2 H = bif decide (t24 < t23) then t22.bind fun v13 => bif inb t24 v13.len && v13.esz == 5 then (H.get v13.id (v13.off + t24.toNat * 5)).bind fun v12 => (H.get v13.id (v13.off + t24.toNat * 5 + 1)).bind fun v11 => (H.get v13.id (v13.off + t24.toNat * 5 + 1 + 1)).bind fun v10 => (H.get v13.id (v13.off + t24.toNat * 5 + 1 + 1 + 1)).bind fun v9 => (H.get v13.id (v13.off + t24.toNat * 5 + 1 + 1 + 1 + 1)).bind fun v8 => (Cell.toInt .i64 v12).bind fun v7 => (Cell.toInt .i64 v11).bind fun v6 => (Cell.toInt .u64 v10).bind fun v5 => (Cell.toInt .u64 v9).bind fun v4 => v8.toSlice.bind fun v3 => bif v7 != 1 then D41_3 n t6 t22 t23 (IntKind.i64.wrap (t24 + 1)) b3_0 b3_1 b3_2 H else bif v6.tmod 2 == 1 then D41_3 n t6 t22 t23 (IntKind.i64.wrap (t24 + 1)) b3_0 b3_1 b3_2 H else bif decide (b3_0 < v5) then D41_3 n t6 t22 t23 (IntKind.i64.wrap (t24 + 1)) b3_0 b3_1 b3_2 H else bif decide (IntKind.u64.wrap (b3_0 - v5) > IntKind.u64.wrap (slen v3)) then D41_3 n t6 t22 t23 (IntKind.i64.wrap (t24 + 1)) b3_0 b3_1 b3_2 H else (f66 v3 (IntKind.i64.wrap (IntKind.u64.wrap (b3_0 - v5))) 8 H).bind fun v2 => bif !v2.1 then D41_3 n t6 t22 t23 (IntKind.i64.wrap (t24 + 1)) b3_0 b3_1 b3_2 v2.2 else (Sl.sub v3 (IntKind.i64.wrap (IntKind.u64.wrap (b3_0 - v5))) (some (IntKind.i64.wrap (IntKind.i64.wrap (IntKind.u64.wrap (b3_0 - v5)) + 8)))).bind fun v1 => bif esOk v3 1 then (f67 v1 v2.2).bind fun v0 => some (AExit.ret, X41_3 t6 (v0.1 == t6) v0.2) else none else none else some (AExit.exit 0, X41_3a H) := by intros; exact (loopN_stepD hN41 _ _ _ _).trans (by kernel_rfl)
theorem q41 : ∀ (x00 x01 : Int) (x02 x03 x04 : SO) (r0 r1 r2 : Int) (H : Heap), f41 x00 x01 x02 x03 x04 r0 r1 r2 H = x03.bind fun v16 => bif inb r1 v16.len && v16.esz == 4 then (H.get v16.id (v16.off + r1.toNat * 4 + 2)).bind fun v15 => (Cell.toInt .u64 v15).bind fun v14 => (LL41_3 (IntKind.u64.wrap (v14 + IntKind.u64.wrap r2)) x02 (slen x02) 0 r0 r1 r2 H).bind J41_3 else none := by intros; rw [f41_eq]; exact (fnA_lpD hN41 ..).trans (by kernel_rfl)
theorem J41_3_0 : ∀ (x0 : Int) (x1 : Bool) (H : Heap), J41_3 (AExit.ret, X41_3 x0 x1 H) = some ((x0, x1), H) := by intros; kernel_rfl
theorem J41_3_1 : ∀ (H : Heap), J41_3 (AExit.exit 0, X41_3a H) = some ((0, false), H) := by intros; kernel_rfl
theorem ok41 : FnOk Try.prog 41 (specF enc41 (sem41 f41)) := by
  refine spec_ok (C := CC41) good41 rfl rfl rfl (by kernel_rfl) Try.func41 (c := bodyOf Try.f41) (by kernel_rfl) (by kernel_rfl) (Nat.le_of_eq Try.ntmps41.symm) dec41 enc41 de41 _ ?_
  intro args H q h
  unfold sem41 at h
  split at h
  · rw [f41_eq] at h; exact h
  · cases h
/-! 14: R4_Of -/
noncomputable def CC14 : Ctx := { P := Try.prog, own := [1, 2, 4, 6, 10, 12, 14], fns := [(41, specF enc41 (sem41 f41)), (40, specF enc40 (sem40 f40)), (20, specF enc20 (sem20 f20)), (39, specF enc39 (sem39 f39)), (38, specF enc38 (sem38 f38)), (37, specF enc37 (sem37 f37)), (36, specF enc36 (sem36 f36))], nt := 163, nums := [], live := [(40, ⟨[1, 2, 4, 137, 138, 139], [1, 2, 4], [2, 3, 4], [2, 4]⟩), (34, ⟨[1, 2, 4, 113, 114, 115], [1, 2, 4], [1, 2, 4], [1, 2, 4]⟩), (20, ⟨[1, 2, 4, 6, 7, 8, 42, 43, 44, 72, 73, 74], [1, 2, 4, 6], [1, 2, 4, 6, 7, 8, 42, 43, 44], [1, 2, 4, 6]⟩), (11, ⟨[1, 2, 4, 42, 43, 44], [1, 2, 4], [1, 2, 4], [1, 2, 4]⟩)] }
theorem good14 : Callees Try.prog CC14.fns [] CC14.nums := (((((((Callees.nil Try.prog).cons ok36 (specF_nat _ _)).cons ok37 (specF_nat _ _)).cons ok38 (specF_nat _ _)).cons ok39 (specF_nat _ _)).cons ok20 (specF_nat _ _)).cons ok40 (specF_nat _ _)).cons ok41 (specF_nat _ _)
theorem hN14 : CtxNat CC14 := good14.ctx rfl rfl rfl
def enc14 (r : Int × Int × Int × Int × SO × SO × SO × Int × SO × SO × Int) : List TV := [.agg [Cell.int .i64 (r.1), Cell.int .i64 (r.2.1), Cell.int .u64 (r.2.2.1), Cell.int .u64 (r.2.2.2.1), Cell.slice (r.2.2.2.2.1), Cell.slice (r.2.2.2.2.2.1), Cell.slice (r.2.2.2.2.2.2.1), Cell.int .u64 (r.2.2.2.2.2.2.2.1), Cell.slice (r.2.2.2.2.2.2.2.2.1), Cell.slice (r.2.2.2.2.2.2.2.2.2.1)], .c (Cell.int .i64 (r.2.2.2.2.2.2.2.2.2.2))]
def dec14 : AV → Option (Int × Int × Int × Int × SO × SO × SO × Int × SO × SO × Int)
  | .tup [.agg [Cell.int .i64 q0, Cell.int .i64 q1, Cell.int .u64 q2, Cell.int .u64 q3, Cell.slice q4, Cell.slice q5, Cell.slice q6, Cell.int .u64 q7, Cell.slice q8, Cell.slice q9], .c (Cell.int .i64 q10)] => some (q0, q1, q2, q3, q4, q5, q6, q7, q8, q9, q10)
  | _ => none
theorem de14 (v : AV) (r : Int × Int × Int × Int × SO × SO × SO × Int × SO × SO × Int) (h : dec14 v = some r) : v = oneOf (enc14 r) := by
  unfold dec14 at h
  split at h
  · cases h; rfl
  · cases h
abbrev Ty14 := Int → Int → SO → SO → SO → Heap → Option ((Int × Int × Int × Int × SO × SO × SO × Int × SO × SO × Int) × Heap)
def sem14 (f : Ty14) : List TV → Heap → Option ((Int × Int × Int × Int × SO × SO × SO × Int × SO × SO × Int) × Heap)
  | [.agg [Cell.int .i64 x00, Cell.int .u64 x01, Cell.slice x02, Cell.slice x03, Cell.slice x04]], H => f x00 x01 x02 x03 x04 H
  | _, _ => none
noncomputable def F014 : Ty14 := fun x00 x01 x02 x03 x04 H => fnA CC14 Try.f14.results.toList (bodyOf Try.f14) _ [.agg [Cell.int .i64 x00, Cell.int .u64 x01, Cell.slice x02, Cell.slice x03, Cell.slice x04]] H (decF dec14)
noncomputable def f14 : Ty14 := hide F014
theorem f14_eq : f14 = F014 := hide_eq _
noncomputable def P14_11 : Code := (Code.l (Code.l (Code.r (Code.l (Code.r (Code.r (Code.r (Code.r (Code.r (Code.r (bodyOf Try.f14)))))))))))
noncomputable def P14_34 : Code := (Code.l (Code.l (Code.r (Code.l (Code.r (Code.r (Code.r (Code.r (Code.r (Code.r (Code.r (Code.r (bodyOf Try.f14)))))))))))))
noncomputable def P14_40 : Code := (Code.l (Code.l (Code.r (Code.l (Code.r (Code.r (Code.r (Code.r (Code.r (Code.r (Code.r (Code.r (Code.r (bodyOf Try.f14))))))))))))))
noncomputable def P14_20 : Code := (Code.l (Code.l (Code.r (Code.l (Code.r (Code.r (Code.r (Code.r (Code.r (Code.r (Code.r (Code.l (Code.l (Code.r (Code.r (Code.l (Code.l (Code.r (Code.l (Code.r (Code.r (Code.r (Code.r (Code.r (Code.r (bodyOf Try.f14))))))))))))))))))))))))))
def S14_11 (t42 : SO) (t43 t44 b1_0 b1_1 : Int) (b1_2 b1_3 b1_4 : SO) (b2_0 b2_1 b2_2 b2_3 : Int) (b2_4 b2_5 b2_6 : SO) (b2_7 : Int) (b2_8 b2_9 : SO) (b4_0 b4_1 b4_2 b4_3 : Int) (b4_4 b4_5 b4_6 : SO) (b4_7 : Int) (b4_8 b4_9 : SO) (H : Heap) : St := ⟨[(1, .lp 1 0), (2, .lp 2 0), (4, .lp 4 0), (42, .c (Cell.slice t42)), (43, .c (Cell.int .i64 t43)), (44, .c (Cell.int .i64 t44))], [(1, [Cell.int .i64 b1_0, Cell.int .u64 b1_1, Cell.slice b1_2, Cell.slice b1_3, Cell.slice b1_4]), (2, [Cell.int .i64 b2_0, Cell.int .i64 b2_1, Cell.int .u64 b2_2, Cell.int .u64 b2_3, Cell.slice b2_4, Cell.slice b2_5, Cell.slice b2_6, Cell.int .u64 b2_7, Cell.slice b2_8, Cell.slice b2_9]), (4, [Cell.int .i64 b4_0, Cell.int .i64 b4_1, Cell.int .u64 b4_2, Cell.int .u64 b4_3, Cell.slice b4_4, Cell.slice b4_5, Cell.slice b4_6, Cell.int .u64 b4_7, Cell.slice b4_8, Cell.slice b4_9])], H⟩
noncomputable def D14_11 (n : Nat) (t42 : SO) (t43 t44 b1_0 b1_1 : Int) (b1_2 b1_3 b1_4 : SO) (b2_0 b2_1 b2_2 b2_3 : Int) (b2_4 b2_5 b2_6 : SO) (b2_7 : Int) (b2_8 b2_9 : SO) (b4_0 b4_1 b4_2 b4_3 : Int) (b4_4 b4_5 b4_6 : SO) (b4_7 : Int) (b4_8 b4_9 : SO) (H : Heap) : Option (AExit × St) := loopN (exec CC14 P14_11) (keepOf CC14.live P14_11) n (S14_11 t42 t43 t44 b1_0 b1_1 b1_2 b1_3 b1_4 b2_0 b2_1 b2_2 b2_3 b2_4 b2_5 b2_6 b2_7 b2_8 b2_9 b4_0 b4_1 b4_2 b4_3 b4_4 b4_5 b4_6 b4_7 b4_8 b4_9 H) retD
noncomputable def LL14_11 (t42 : SO) (t43 t44 b1_0 b1_1 : Int) (b1_2 b1_3 b1_4 : SO) (b2_0 b2_1 b2_2 b2_3 : Int) (b2_4 b2_5 b2_6 : SO) (b2_7 : Int) (b2_8 b2_9 : SO) (b4_0 b4_1 b4_2 b4_3 : Int) (b4_4 b4_5 b4_6 : SO) (b4_7 : Int) (b4_8 b4_9 : SO) (H : Heap) : Option (AExit × St) := loopsD CC14 P14_11 (S14_11 t42 t43 t44 b1_0 b1_1 b1_2 b1_3 b1_4 b2_0 b2_1 b2_2 b2_3 b2_4 b2_5 b2_6 b2_7 b2_8 b2_9 b4_0 b4_1 b4_2 b4_3 b4_4 b4_5 b4_6 b4_7 b4_8 b4_9 H)
theorem LL14_11_of (m : Nat) (hm : m < 18446744073709551616) (t42 : SO) (t43 t44 b1_0 b1_1 : Int) (b1_2 b1_3 b1_4 : SO) (b2_0 b2_1 b2_2 b2_3 : Int) (b2_4 b2_5 b2_6 : SO) (b2_7 : Int) (b2_8 b2_9 : SO) (b4_0 b4_1 b4_2 b4_3 : Int) (b4_4 b4_5 b4_6 : SO) (b4_7 : Int) (b4_8 b4_9 : SO) (H : Heap) : ∃ n, LL14_11 t42 t43 t44 b1_0 b1_1 b1_2 b1_3 b1_4 b2_0 b2_1 b2_2 b2_3 b2_4 b2_5 b2_6 b2_7 b2_8 b2_9 b4_0 b4_1 b4_2 b4_3 b4_4 b4_5 b4_6 b4_7 b4_8 b4_9 H = D14_11 (n + m + 1) t42 t43 t44 b1_0 b1_1 b1_2 b1_3 b1_4 b2_0 b2_1 b2_2 b2_3 b2_4 b2_5 b2_6 b2_7 b2_8 b2_9 b4_0 b4_1 b4_2 b4_3 b4_4 b4_5 b4_6 b4_7 b4_8 b4_9 H := loopsD_of _ _ _ m hm
def S14_20 (t7 : SO) (t8 : Bool) (t42 : SO) (t43 t44 : Int) (t72 : SO) (t73 t74 b1_0 b1_1 : Int) (b1_2 b1_3 b1_4 : SO) (b2_0 b2_1 b2_2 b2_3 : Int) (b2_4 b2_5 b2_6 : SO) (b2_7 : Int) (b2_8 b2_9 : SO) (b4_0 b4_1 b4_2 b4_3 : Int) (b4_4 b4_5 b4_6 : SO) (b4_7 : Int) (b4_8 b4_9 : SO) (b6_0 b6_1 b6_2 b6_3 : Int) (b6_4 : SO) (H : Heap) : St := ⟨[(1, .lp 1 0), (2, .lp 2 0), (4, .lp 4 0), (6, .lp 6 0), (7, .c (Cell.slice t7)), (8, .c (Cell.bool t8)), (42, .c (Cell.slice t42)), (43, .c (Cell.int .i64 t43)), (44, .c (Cell.int .i64 t44)), (72, .c (Cell.slice t72)), (73, .c (Cell.int .i64 t73)), (74, .c (Cell.int .i64 t74))], [(1, [Cell.int .i64 b1_0, Cell.int .u64 b1_1, Cell.slice b1_2, Cell.slice b1_3, Cell.slice b1_4]), (2, [Cell.int .i64 b2_0, Cell.int .i64 b2_1, Cell.int .u64 b2_2, Cell.int .u64 b2_3, Cell.slice b2_4, Cell.slice b2_5, Cell.slice b2_6, Cell.int .u64 b2_7, Cell.slice b2_8, Cell.slice b2_9]), (4, [Cell.int .i64 b4_0, Cell.int .i64 b4_1, Cell.int .u64 b4_2, Cell.int .u64 b4_3, Cell.slice b4_4, Cell.slice b4_5, Cell.slice b4_6, Cell.int .u64 b4_7, Cell.slice b4_8, Cell.slice b4_9]), (6, [Cell.int .i64 b6_0, Cell.int .i64 b6_1, Cell.int .u64 b6_2, Cell.int .u64 b6_3, Cell.slice b6_4])], H⟩
noncomputable def D14_20 (n : Nat) (t7 : SO) (t8 : Bool) (t42 : SO) (t43 t44 : Int) (t72 : SO) (t73 t74 b1_0 b1_1 : Int) (b1_2 b1_3 b1_4 : SO) (b2_0 b2_1 b2_2 b2_3 : Int) (b2_4 b2_5 b2_6 : SO) (b2_7 : Int) (b2_8 b2_9 : SO) (b4_0 b4_1 b4_2 b4_3 : Int) (b4_4 b4_5 b4_6 : SO) (b4_7 : Int) (b4_8 b4_9 : SO) (b6_0 b6_1 b6_2 b6_3 : Int) (b6_4 : SO) (H : Heap) : Option (AExit × St) := loopN (exec CC14 P14_20) (keepOf CC14.live P14_20) n (S14_20 t7 t8 t42 t43 t44 t72 t73 t74 b1_0 b1_1 b1_2 b1_3 b1_4 b2_0 b2_1 b2_2 b2_3 b2_4 b2_5 b2_6 b2_7 b2_8 b2_9 b4_0 b4_1 b4_2 b4_3 b4_4 b4_5 b4_6 b4_7 b4_8 b4_9 b6_0 b6_1 b6_2 b6_3 b6_4 H) retD
noncomputable def LL14_20 (t7 : SO) (t8 : Bool) (t42 : SO) (t43 t44 : Int) (t72 : SO) (t73 t74 b1_0 b1_1 : Int) (b1_2 b1_3 b1_4 : SO) (b2_0 b2_1 b2_2 b2_3 : Int) (b2_4 b2_5 b2_6 : SO) (b2_7 : Int) (b2_8 b2_9 : SO) (b4_0 b4_1 b4_2 b4_3 : Int) (b4_4 b4_5 b4_6 : SO) (b4_7 : Int) (b4_8 b4_9 : SO) (b6_0 b6_1 b6_2 b6_3 : Int) (b6_4 : SO) (H : Heap) : Option (AExit × St) := loopsD CC14 P14_20 (S14_20 t7 t8 t42 t43 t44 t72 t73 t74 b1_0 b1_1 b1_2 b1_3 b1_4 b2_0 b2_1 b2_2 b2_3 b2_4 b2_5 b2_6 b2_7 b2_8 b2_9 b4_0 b4_1 b4_2 b4_3 b4_4 b4_5 b4_6 b4_7 b4_8 b4_9 b6_0 b6_1 b6_2 b6_3 b6_4 H)
theorem LL14_20_of (m : Nat) (hm : m < 18446744073709551616) (t7 : SO) (t8 : Bool) (t42 : SO) (t43 t44 : Int) (t72 : SO) (t73 t74 b1_0 b1_1 : Int) (b1_2 b1_3 b1_4 : SO) (b2_0 b2_1 b2_2 b2_3 : Int) (b2_4 b2_5 b2_6 : SO) (b2_7 : Int) (b2_8 b2_9 : SO) (b4_0 b4_1 b4_2 b4_3 : Int) (b4_4 b4_5 b4_6 : SO) (b4_7 : Int) (b4_8 b4_9 : SO) (b6_0 b6_1 b6_2 b6_3 : Int) (b6_4 : SO) (H : Heap) : ∃ n, LL14_20 t7 t8 t42 t43 t44 t72 t73 t74 b1_0 b1_1 b1_2 b1_3 b1_4 b2_0 b2_1 b2_2 b2_3 b2_4 b2_5 b2_6 b2_7 b2_8 b2_9 b4_0 b4_1 b4_2 b4_3 b4_4 b4_5 b4_6 b4_7 b4_8 b4_9 b6_0 b6_1 b6_2 b6_3 b6_4 H = D14_20 (n + m + 1) t7 t8 t42 t43 t44 t72 t73 t74 b1_0 b1_1 b1_2 b1_3 b1_4 b2_0 b2_1 b2_2 b2_3 b2_4 b2_5 b2_6 b2_7 b2_8 b2_9 b4_0 b4_1 b4_2 b4_3 b4_4 b4_5 b4_6 b4_7 b4_8 b4_9 b6_0 b6_1 b6_2 b6_3 b6_4 H := loopsD_of _ _ _ m hm
def S14_34 (t113 : SO) (t114 t115 b1_0 b1_1 : Int) (b1_2 b1_3 b1_4 : SO) (b2_0 b2_1 b2_2 b2_3 : Int) (b2_4 b2_5 b2_6 : SO) (b2_7 : Int) (b2_8 b2_9 : SO) (b4_0 b4_1 b4_2 b4_3 : Int) (b4_4 b4_5 b4_6 : SO) (b4_7 : Int) (b4_8 b4_9 : SO) (H : Heap) : St := ⟨[(1, .lp 1 0), (2, .lp 2 0), (4, .lp 4 0), (113, .c (Cell.slice t113)), (114, .c (Cell.int .i64 t114)), (115, .c (Cell.int .i64 t115))], [(1, [Cell.int .i64 b1_0, Cell.int .u64 b1_1, Cell.slice b1_2, Cell.slice b1_3, Cell.slice b1_4]), (2, [Cell.int .i64 b2_0, Cell.int .i64 b2_1, Cell.int .u64 b2_2, Cell.int .u64 b2_3, Cell.slice b2_4, Cell.slice b2_5, Cell.slice b2_6, Cell.int .u64 b2_7, Cell.slice b2_8, Cell.slice b2_9]), (4, [Cell.int .i64 b4_0, Cell.int .i64 b4_1, Cell.int .u64 b4_2, Cell.int .u64 b4_3, Cell.slice b4_4, Cell.slice b4_5, Cell.slice b4_6, Cell.int .u64 b4_7, Cell.slice b4_8, Cell.slice b4_9])], H⟩
noncomputable def D14_34 (n : Nat) (t113 : SO) (t114 t115 b1_0 b1_1 : Int) (b1_2 b1_3 b1_4 : SO) (b2_0 b2_1 b2_2 b2_3 : Int) (b2_4 b2_5 b2_6 : SO) (b2_7 : Int) (b2_8 b2_9 : SO) (b4_0 b4_1 b4_2 b4_3 : Int) (b4_4 b4_5 b4_6 : SO) (b4_7 : Int) (b4_8 b4_9 : SO) (H : Heap) : Option (AExit × St) := loopN (exec CC14 P14_34) (keepOf CC14.live P14_34) n (S14_34 t113 t114 t115 b1_0 b1_1 b1_2 b1_3 b1_4 b2_0 b2_1 b2_2 b2_3 b2_4 b2_5 b2_6 b2_7 b2_8 b2_9 b4_0 b4_1 b4_2 b4_3 b4_4 b4_5 b4_6 b4_7 b4_8 b4_9 H) retD
noncomputable def LL14_34 (t113 : SO) (t114 t115 b1_0 b1_1 : Int) (b1_2 b1_3 b1_4 : SO) (b2_0 b2_1 b2_2 b2_3 : Int) (b2_4 b2_5 b2_6 : SO) (b2_7 : Int) (b2_8 b2_9 : SO) (b4_0 b4_1 b4_2 b4_3 : Int) (b4_4 b4_5 b4_6 : SO) (b4_7 : Int) (b4_8 b4_9 : SO) (H : Heap) : Option (AExit × St) := loopsD CC14 P14_34 (S14_34 t113 t114 t115 b1_0 b1_1 b1_2 b1_3 b1_4 b2_0 b2_1 b2_2 b2_3 b2_4 b2_5 b2_6 b2_7 b2_8 b2_9 b4_0 b4_1 b4_2 b4_3 b4_4 b4_5 b4_6 b4_7 b4_8 b4_9 H)
theorem LL14_34_of (m : Nat) (hm : m < 18446744073709551616) (t113 : SO) (t114 t115 b1_0 b1_1 : Int) (b1_2 b1_3 b1_4 : SO) (b2_0 b2_1 b2_2 b2_3 : Int) (b2_4 b2_5 b2_6 : SO) (b2_7 : Int) (b2_8 b2_9 : SO) (b4_0 b4_1 b4_2 b4_3 : Int) (b4_4 b4_5 b4_6 : SO) (b4_7 : Int) (b4_8 b4_9 : SO) (H : Heap) : ∃ n, LL14_34 t113 t114 t115 b1_0 b1_1 b1_2 b1_3 b1_4 b2_0 b2_1 b2_2 b2_3 b2_4 b2_5 b2_6 b2_7 b2_8 b2_9 b4_0 b4_1 b4_2 b4_3 b4_4 b4_5 b4_6 b4_7 b4_8 b4_9 H = D14_34 (n + m + 1) t113 t114 t115 b1_0 b1_1 b1_2 b1_3 b1_4 b2_0 b2_1 b2_2 b2_3 b2_4 b2_5 b2_6 b2_7 b2_8 b2_9 b4_0 b4_1 b4_2 b4_3 b4_4 b4_5 b4_6 b4_7 b4_8 b4_9 H := loopsD_of _ _ _ m hm
def S14_40 (t137 : SO) (t138 t139 b1_0 b1_1 : Int) (b1_2 b1_3 b1_4 : SO) (b2_0 b2_1 b2_2 b2_3 : Int) (b2_4 b2_5 b2_6 : SO) (b2_7 : Int) (b2_8 b2_9 : SO) (b4_0 b4_1 b4_2 b4_3 : Int) (b4_4 b4_5 b4_6 : SO) (b4_7 : Int) (b4_8 b4_9 : SO) (H : Heap) : St := ⟨[(1, .lp 1 0), (2, .lp 2 0), (4, .lp 4 0), (137, .c (Cell.slice t137)), (138, .c (Cell.int .i64 t138)), (139, .c (Cell.int .i64 t139))], [(1, [Cell.int .i64 b1_0, Cell.int .u64 b1_1, Cell.slice b1_2, Cell.slice b1_3, Cell.slice b1_4]), (2, [Cell.int .i64 b2_0, Cell.int .i64 b2_1, Cell.int .u64 b2_2, Cell.int .u64 b2_3, Cell.slice b2_4, Cell.slice b2_5, Cell.slice b2_6, Cell.int .u64 b2_7, Cell.slice b2_8, Cell.slice b2_9]), (4, [Cell.int .i64 b4_0, Cell.int .i64 b4_1, Cell.int .u64 b4_2, Cell.int .u64 b4_3, Cell.slice b4_4, Cell.slice b4_5, Cell.slice b4_6, Cell.int .u64 b4_7, Cell.slice b4_8, Cell.slice b4_9])], H⟩
noncomputable def D14_40 (n : Nat) (t137 : SO) (t138 t139 b1_0 b1_1 : Int) (b1_2 b1_3 b1_4 : SO) (b2_0 b2_1 b2_2 b2_3 : Int) (b2_4 b2_5 b2_6 : SO) (b2_7 : Int) (b2_8 b2_9 : SO) (b4_0 b4_1 b4_2 b4_3 : Int) (b4_4 b4_5 b4_6 : SO) (b4_7 : Int) (b4_8 b4_9 : SO) (H : Heap) : Option (AExit × St) := loopN (exec CC14 P14_40) (keepOf CC14.live P14_40) n (S14_40 t137 t138 t139 b1_0 b1_1 b1_2 b1_3 b1_4 b2_0 b2_1 b2_2 b2_3 b2_4 b2_5 b2_6 b2_7 b2_8 b2_9 b4_0 b4_1 b4_2 b4_3 b4_4 b4_5 b4_6 b4_7 b4_8 b4_9 H) retD
noncomputable def LL14_40 (t137 : SO) (t138 t139 b1_0 b1_1 : Int) (b1_2 b1_3 b1_4 : SO) (b2_0 b2_1 b2_2 b2_3 : Int) (b2_4 b2_5 b2_6 : SO) (b2_7 : Int) (b2_8 b2_9 : SO) (b4_0 b4_1 b4_2 b4_3 : Int) (b4_4 b4_5 b4_6 : SO) (b4_7 : Int) (b4_8 b4_9 : SO) (H : Heap) : Option (AExit × St) := loopsD CC14 P14_40 (S14_40 t137 t138 t139 b1_0 b1_1 b1_2 b1_3 b1_4 b2_0 b2_1 b2_2 b2_3 b2_4 b2_5 b2_6 b2_7 b2_8 b2_9 b4_0 b4_1 b4_2 b4_3 b4_4 b4_5 b4_6 b4_7 b4_8 b4_9 H)
theorem LL14_40_of (m : Nat) (hm : m < 18446744073709551616) (t137 : SO) (t138 t139 b1_0 b1_1 : Int) (b1_2 b1_3 b1_4 : SO) (b2_0 b2_1 b2_2 b2_3 : Int) (b2_4 b2_5 b2_6 : SO) (b2_7 : Int) (b2_8 b2_9 : SO) (b4_0 b4_1 b4_2 b4_3 : Int) (b4_4 b4_5 b4_6 : SO) (b4_7 : Int) (b4_8 b4_9 : SO) (H : Heap) : ∃ n, LL14_40 t137 t138 t139 b1_0 b1_1 b1_2 b1_3 b1_4 b2_0 b2_1 b2_2 b2_3 b2_4 b2_5 b2_6 b2_7 b2_8 b2_9 b4_0 b4_1 b4_2 b4_3 b4_4 b4_5 b4_6 b4_7 b4_8 b4_9 H = D14_40 (n + m + 1) t137 t138 t139 b1_0 b1_1 b1_2 b1_3 b1_4 b2_0 b2_1 b2_2 b2_3 b2_4 b2_5 b2_6 b2_7 b2_8 b2_9 b4_0 b4_1 b4_2 b4_3 b4_4 b4_5 b4_6 b4_7 b4_8 b4_9 H := loopsD_of _ _ _ m hm
def X14_40 (x0 : Int) (x1 : Int) (x2 : Int) (x3 : Int) (x4 : Int) (x5 : SO) (x6 : SO) (x7 : SO) (x8 : Int) (x9 : SO) (x10 : SO) (x11 : Int) (x12 : Int) (x13 : Int) (x14 : Int) (x15 : SO) (x16 : SO) (x17 : SO) (x18 : Int) (x19 : SO) (x20 : SO) (H : Heap) : St := { env := [(2, AV.lp 2 0), (3, AV.c (Cell.int .i64 x0)), (4, AV.lp 4 0)], loc := [(2, [Cell.int .i64 x1, Cell.int .i64 x2, Cell.int .u64 x3, Cell.int .u64 x4, Cell.slice x5, Cell.slice x6, Cell.slice x7, Cell.int .u64 x8, Cell.slice x9, Cell.slice x10]), (4, [Cell.int .i64 x11, Cell.int .i64 x12, Cell.int .u64 x13, Cell.int .u64 x14, Cell.slice x15, Cell.slice x16, Cell.slice x17, Cell.int .u64 x18, Cell.slice x19, Cell.slice x20])], heap := H }
def X14_40a (x0 : Int) (x1 : Int) (x2 : Int) (x3 : Int) (x4 : SO) (x5 : SO) (x6 : SO) (x7 : Int) (x8 : SO) (x9 : SO) (x10 : Int) (x11 : Int) (x12 : Int) (x13 : Int) (x14 : SO) (x15 : SO) (x16 : SO) (x17 : Int) (x18 : SO) (x19 : SO) (H : Heap) : St := { env := [(2, AV.lp 2 0), (4, AV.lp 4 0)], loc := [(2, [Cell.int .i64 x0, Cell.int .i64 x1, Cell.int .u64 x2, Cell.int .u64 x3, Cell.slice x4, Cell.slice x5, Cell.slice x6, Cell.int .u64 x7, Cell.slice x8, Cell.slice x9]), (4, [Cell.int .i64 x10, Cell.int .i64 x11, Cell.int .u64 x12, Cell.int .u64 x13, Cell.slice x14, Cell.slice x15, Cell.slice x16, Cell.int .u64 x17, Cell.slice x18, Cell.slice x19])], heap := H }
def X14_34 (x0 : Int) (x1 : Int) (x2 : SO) (x3 : SO) (x4 : SO) (x5 : Int) (x6 : Int) (x7 : Int) (x8 : Int) (x9 : SO) (x10 : SO) (x11 : SO) (x12 : Int) (x13 : SO) (x14 : SO) (x15 : Int) (x16 : Int) (x17 : Int) (x18 : Int) (x19 : SO) (x20 : SO) (x21 : SO) (x22 : Int) (x23 : SO) (x24 : SO) (H : Heap) : St := { env := [(1, AV.lp 1 0), (2, AV.lp 2 0), (4, AV.lp 4 0)], loc := [(1, [Cell.int .i64 x0, Cell.int .u64 x1, Cell.slice x2, Cell.slice x3, Cell.slice x4]), (2, [Cell.int .i64 x5, Cell.int .i64 x6, Cell.int .u64 x7, Cell.int .u64 x8, Cell.slice x9, Cell.slice x10, Cell.slice x11, Cell.int .u64 x12, Cell.slice x13, Cell.slice x14]), (4, [Cell.int .i64 x15, Cell.int .i64 x16, Cell.int .u64 x17, Cell.int .u64 x18, Cell.slice x19, Cell.slice x20, Cell.slice x21, Cell.int .u64 x22, Cell.slice x23, Cell.slice x24])], heap := H }
def X14_20 (x0 : SO) (x1 : Bool) (x2 : SO) (x3 : Int) (x4 : Int) (x5 : Int) (x6 : Int) (x7 : SO) (x8 : SO) (x9 : SO) (x10 : Int) (x11 : Int) (x12 : Int) (x13 : Int) (x14 : SO) (x15 : SO) (x16 : SO) (x17 : Int) (x18 : SO) (x19 : SO) (x20 : Int) (x21 : Int) (x22 : Int) (x23 : Int) (x24 : SO) (x25 : SO) (x26 : SO) (x27 : Int) (x28 : SO) (x29 : SO) (x30 : Int) (x31 : Int) (x32 : Int) (x33 : Int) (x34 : SO) (H : Heap) : St := { env := [(1, AV.lp 1 0), (2, AV.lp 2 0), (4, AV.lp 4 0), (6, AV.lp 6 0), (7, AV.c (Cell.slice x0)), (8, AV.c (Cell.bool x1)), (42, AV.c (Cell.slice x2)), (43, AV.c (Cell.int .i64 x3)), (44, AV.c (Cell.int .i64 x4))], loc := [(1, [Cell.int .i64 x5, Cell.int .u64 x6, Cell.slice x7, Cell.slice x8, Cell.slice x9]), (2, [Cell.int .i64 x10, Cell.int .i64 x11, Cell.int .u64 x12, Cell.int .u64 x13, Cell.slice x14, Cell.slice x15, Cell.slice x16, Cell.int .u64 x17, Cell.slice x18, Cell.slice x19]), (4, [Cell.int .i64 x20, Cell.int .i64 x21, Cell.int .u64 x22, Cell.int .u64 x23, Cell.slice x24, Cell.slice x25, Cell.slice x26, Cell.int .u64 x27, Cell.slice x28, Cell.slice x29]), (6, [Cell.int .i64 x30, Cell.int .i64 x31, Cell.int .u64 x32, Cell.int .u64 x33, Cell.slice x34])], heap := H }
def X14_11 (x0 : Int) (x1 : Int) (x2 : SO) (x3 : SO) (x4 : SO) (x5 : Int) (x6 : Int) (x7 : Int) (x8 : Int) (x9 : SO) (x10 : SO) (x11 : SO) (x12 : Int) (x13 : SO) (x14 : SO) (x15 : Int) (x16 : Int) (x17 : Int) (x18 : Int) (x19 : SO) (x20 : SO) (x21 : SO) (x22 : Int) (x23 : SO) (x24 : SO) (H : Heap) : St := { env := [(1, AV.lp 1 0), (2, AV.lp 2 0), (4, AV.lp 4 0)], loc := [(1, [Cell.int .i64 x0, Cell.int .u64 x1, Cell.slice x2, Cell.slice x3, Cell.slice x4]), (2, [Cell.int .i64 x5, Cell.int .i64 x6, Cell.int .u64 x7, Cell.int .u64 x8, Cell.slice x9, Cell.slice x10, Cell.slice x11, Cell.int .u64 x12, Cell.slice x13, Cell.slice x14]), (4, [Cell.int .i64 x15, Cell.int .i64 x16, Cell.int .u64 x17, Cell.int .u64 x18, Cell.slice x19, Cell.slice x20, Cell.slice x21, Cell.int .u64 x22, Cell.slice x23, Cell.slice x24])], heap := H }
noncomputable def J14_20 : Nat → AExit × St → Option (AExit × St) := fun n p => blockK 2 (seqK (execL CC14 (lpD CC14) (Code.r (Code.r (Code.r (Code.r (Code.r (Code.r (Code.r (Code.r (Code.l (Code.l (Code.r (Code.r P14_11))))))))))))) (blockK 1 (seqK (execL CC14 (lpD CC14) (Code.r (Code.r (Code.r P14_11)))) (loopK (some { t1 := [1, 2, 4, 42, 43, 44], l1 := [1, 2, 4], t2 := [1, 2, 4], l2 := [1, 2, 4] }) (loopN (exec CC14 P14_11) (keepOf CC14.live P14_11) n) retD)))) p.1 p.2
noncomputable def J14_11 : AExit × St → Option ((Int × Int × Int × Int × Option Sl × Option Sl × Option Sl × Int × Option Sl × Option Sl × Int) × Heap) := fun p => blockK 0 (seqK (execL CC14 (lpD CC14) (Code.r (Code.r (Code.r (Code.r (Code.r (Code.r (Code.r (bodyOf Try.f14))))))))) (retA CC14 [ResultVar.cell 2 61, ResultVar.tmp 3] (decF dec14))) p.1 p.2
noncomputable def J14_34 : AExit × St → Option ((Int × Int × Int × Int × Option Sl × Option Sl × Option Sl × Int × Option Sl × Option Sl × Int) × Heap) := fun p => blockK 4 (seqK (execL CC14 (lpD CC14) (Code.r (Code.r (Code.r (Code.r (Code.r (Code.r (Code.r (Code.r (Code.r (bodyOf Try.f14))))))))))) (retA CC14 [ResultVar.cell 2 61, ResultVar.tmp 3] (decF dec14))) p.1 p.2
noncomputable def J14_40 : AExit × St → Option ((Int × Int × Int × Int × Option Sl × Option Sl × Option Sl × Int × Option Sl × Option Sl × Int) × Heap) := fun p => blockK 6 (seqK (execL CC14 (lpD CC14) (Code.r (Code.r (Code.r (Code.r (Code.r (Code.r (Code.r (Code.r (Code.r (Code.r (bodyOf Try.f14)))))))))))) (retA CC14 [ResultVar.cell 2 61, ResultVar.tmp 3] (decF dec14))) p.1 p.2
theorem D14_40_s : ∀ (n : Nat) (t137 : SO) (t138 t139 b1_0 b1_1 : Int) (b1_2 b1_3 b1_4 : SO) (b2_0 b2_1 b2_2 b2_3 : Int) (b2_4 b2_5 b2_6 : SO) (b2_7 : Int) (b2_8 b2_9 : SO) (b4_0 b4_1 b4_2 b4_3 : Int) (b4_4 b4_5 b4_6 : SO) (b4_7 : Int) (b4_8 b4_9 : SO) (H : Heap), D14_40 (n + 1) t137 t138 t139 b1_0 b1_1 b1_2 b1_3 b1_4 b2_0 b2_1 b2_2 b2_3 b2_4 b2_5 b2_6 b2_7 b2_8 b2_9 b4_0 b4_1 b4_2 b4_3 b4_4 b4_5 b4_6 b4_7 b4_8 b4_9 H = bif decide (t139 < t138) then t137.bind fun v9 => bif inb t139 v9.len && v9.esz == 3 then (H.get v9.id (v9.off + t139.toNat * 3)).bind fun v8 => (H.get v9.id (v9.off + t139.toNat * 3 + 1)).bind fun v7 => (H.get v9.id (v9.off + t139.toNat * 3 + 1 + 1)).bind fun v6 => (Cell.toInt .u64 v8).bind fun v5 => (Cell.toInt .i64 v7).bind fun v4 => (Cell.toInt .i64 v6).bind fun v3 => (f41 b1_0 b1_1 b1_2 b1_3 b1_4 v5 v4 v3 H).bind fun v2 => bif !v2.1.2 then some (AExit.ret, X14_40 20 0 0 0 0 none none none 0 none none b4_0 b4_1 b4_2 b4_3 b4_4 b4_5 b4_6 b4_7 b4_8 b4_9 v2.2) else (f20 b4_0 b4_1 b4_2 b4_3 b4_4 v2.1.1 1 v2.2).bind fun v1 => bif v1.1 then (f40 b4_9 v2.1.1 v1.2).bind fun v0 => D14_40 n t137 t138 (IntKind.i64.wrap (t139 + 1)) b1_0 b1_1 b1_2 b1_3 b1_4 b2_0 b2_1 b2_2 b2_3 b2_4 b2_5 b2_6 b2_7 b2_8 b2_9 b4_0 b4_1 b4_2 b4_3 b4_4 b4_5 b4_6 b4_7 b4_8 v0.1 v0.2 else D14_40 n t137 t138 (IntKind.i64.wrap (t139 + 1)) b1_0 b1_1 b1_2 b1_3 b1_4 b2_0 b2_1 b2_2 b2_3 b2_4 b2_5 b2_6 b2_7 b2_8 b2_9 b4_0 b4_1 b4_2 b4_3 b4_4 b4_5 b4_6 b4_7 b4_8 b4_9 v1.2 else none else some (AExit.exit 6, X14_40a b2_0 b2_1 b2_2 b2_3 b2_4 b2_5 b2_6 b2_7 b2_8 b2_9 b4_0 b4_1 b4_2 b4_3 b4_4 b4_5 b4_6 b4_7 b4_8 b4_9 H) := by intros; exact (loopN_stepD hN14 _ _ _ _).trans (by kernel_rfl)
theorem D14_34_s : ∀ (n : Nat) (t113 : SO) (t114 t115 b1_0 b1_1 : Int) (b1_2 b1_3 b1_4 : SO) (b2_0 b2_1 b2_2 b2_3 : Int) (b2_4 b2_5 b2_6 : SO) (b2_7 : Int) (b2_8 b2_9 : SO) (b4_0 b4_1 b4_2 b4_3 : Int) (b4_4 b4_5 b4_6 : SO) (b4_7 : Int) (b4_8 b4_9 : SO) (H : Heap), D14_34 (n + 1) t113 t114 t115 b1_0 b1_1 b1_2 b1_3 b1_4 b2_0 b2_1 b2_2 b2_3 b2_4 b2_5 b2_6 b2_7 b2_8 b2_9 b4_0 b4_1 b4_2 b4_3 b4_4 b4_5 b4_6 b4_7 b4_8 b4_9 H = bif decide (t115 < t114) then t113.bind fun v20 => bif inb t115 v20.len && v20.esz == 4 then (H.get v20.id (v20.off + t115.toNat * 4)).bind fun v19 => (H.get v20.id (v20.off + t115.toNat * 4 + 1)).bind fun v18 => (H.get v20.id (v20.off + t115.toNat * 4 + 1 + 1)).bind fun v17 => (H.get v20.id (v20.off + t115.toNat * 4 + 1 + 1 + 1)).bind fun v16 => v19.toStr.bind fun v15 => (Cell.toInt .i64 v18).bind fun v14 => (Cell.toInt .u64 v17).bind fun v13 => (Cell.toInt .u64 v16).bind fun v12 => bif v14 == 2 then (f20 b4_0 b4_1 b4_2 b4_3 b4_4 v13 1 H).bind fun v11 => bif v11.1 then (f40 b4_8 v13 v11.2).bind fun v10 => D14_34 n t113 t114 (IntKind.i64.wrap (t115 + 1)) b1_0 b1_1 b1_2 b1_3 b1_4 b2_0 b2_1 b2_2 b2_3 b2_4 b2_5 b2_6 b2_7 b2_8 b2_9 b4_0 b4_1 b4_2 b4_3 b4_4 b4_5 b4_6 b4_7 v10.1 b4_9 v10.2 else D14_34 n t113 t114 (IntKind.i64.wrap (t115 + 1)) b1_0 b1_1 b1_2 b1_3 b1_4 b2_0 b2_1 b2_2 b2_3 b2_4 b2_5 b2_6 b2_7 b2_8 b2_9 b4_0 b4_1 b4_2 b4_3 b4_4 b4_5 b4_6 b4_7 b4_8 b4_9 v11.2 else D14_34 n t113 t114 (IntKind.i64.wrap (t115 + 1)) b1_0 b1_1 b1_2 b1_3 b1_4 b2_0 b2_1 b2_2 b2_3 b2_4 b2_5 b2_6 b2_7 b2_8 b2_9 b4_0 b4_1 b4_2 b4_3 b4_4 b4_5 b4_6 b4_7 b4_8 b4_9 H else none else some (AExit.exit 4, X14_34 b1_0 b1_1 b1_2 b1_3 b1_4 b2_0 b2_1 b2_2 b2_3 b2_4 b2_5 b2_6 b2_7 b2_8 b2_9 b4_0 b4_1 b4_2 b4_3 b4_4 b4_5 b4_6 b4_7 b4_8 b4_9 H) := by intros; exact (loopN_stepD hN14 _ _ _ _).trans (by kernel_rfl)
theorem D14_20_s : ∀ (n : Nat) (t7 : SO) (t8 : Bool) (t42 : SO) (t43 t44 : Int) (t72 : SO) (t73 t74 b1_0 b1_1 : Int) (b1_2 b1_3 b1_4 : SO) (b2_0 b2_1 b2_2 b2_3 : Int) (b2_4 b2_5 b2_6 : SO) (b2_7 : Int) (b2_8 b2_9 : SO) (b4_0 b4_1 b4_2 b4_3 : Int) (b4_4 b4_5 b4_6 : SO) (b4_7 : Int) (b4_8 b4_9 : SO) (b6_0 b6_1 b6_2 b6_3 : Int) (b6_4 : SO) (H : Heap), D14_20 (n + 1) t7 t8 t42 t43 t44 t72 t73 t74 b1_0 b1_1 b1_2 b1_3 b1_4 b2_0 b2_1 b2_2 b2_3 b2_4 b2_5 b2_6 b2_7 b2_8 b2_9 b4_0 b4_1 b4_2 b4_3 b4_4 b4_5 b4_6 b4_7 b4_8 b4_9 b6_0 b6_1 b6_2 b6_3 b6_4 H = bif decide (t74 < t73) then t72.bind fun v35 => bif inb t74 v35.len && v35.esz == 5 then (H.get v35.id (v35.off + t74.toNat * 5)).bind fun v34 => (H.get v35.id (v35.off + t74.toNat * 5 + 1)).bind fun v33 => (H.get v35.id (v35.off + t74.toNat * 5 + 1 + 1)).bind fun v32 => (H.get v35.id (v35.off + t74.toNat * 5 + 1 + 1 + 1)).bind fun v31 => (H.get v35.id (v35.off + t74.toNat * 5 + 1 + 1 + 1 + 1)).bind fun v30 => (Cell.toInt .i64 v34).bind fun v29 => (Cell.toInt .i64 v33).bind fun v28 => (Cell.toInt .u64 v32).bind fun v27 => (Cell.toInt .u64 v31).bind fun v26 => v30.toSlice.bind fun v25 => bif !t8 then bif decide (v27 > b6_2) then ((H ++ [Blk.row [Cell.int .i64 b6_0, Cell.int .i64 b6_1, Cell.int .u64 b6_2, Cell.int .u64 b6_3, Cell.slice b6_4] false]).append 5 56 t7 (some { id := List.length H, off := 0, len := 1, cap := 1, esz := 5 })).bind fun v22 => ((v22.2 ++ [Blk.row [Cell.int .i64 v29, Cell.int .i64 v28, Cell.int .u64 v27, Cell.int .u64 v26, Cell.slice v25] false]).append 5 56 v22.1 (some { id := List.length v22.2, off := 0, len := 1, cap := 1, esz := 5 })).bind fun v21 => D14_20 n v21.1 true t42 t43 t44 t72 t73 (IntKind.i64.wrap (t74 + 1)) b1_0 b1_1 b1_2 b1_3 b1_4 b2_0 b2_1 b2_2 b2_3 b2_4 b2_5 b2_6 b2_7 b2_8 b2_9 b4_0 b4_1 b4_2 b4_3 b4_4 b4_5 b4_6 b4_7 b4_8 b4_9 b6_0 b6_1 b6_2 b6_3 b6_4 v21.2 else ((H ++ [Blk.row [Cell.int .i64 v29, Cell.int .i64 v28, Cell.int .u64 v27, Cell.int .u64 v26, Cell.slice v25] false]).append 5 56 t7 (some { id := List.length H, off := 0, len := 1, cap := 1, esz := 5 })).bind fun v23 => D14_20 n v23.1 t8 t42 t43 t44 t72 t73 (IntKind.i64.wrap (t74 + 1)) b1_0 b1_1 b1_2 b1_3 b1_4 b2_0 b2_1 b2_2 b2_3 b2_4 b2_5 b2_6 b2_7 b2_8 b2_9 b4_0 b4_1 b4_2 b4_3 b4_4 b4_5 b4_6 b4_7 b4_8 b4_9 b6_0 b6_1 b6_2 b6_3 b6_4 v23.2 else ((H ++ [Blk.row [Cell.int .i64 v29, Cell.int .i64 v28, Cell.int .u64 v27, Cell.int .u64 v26, Cell.slice v25] false]).append 5 56 t7 (some { id := List.length H, off := 0, len := 1, cap := 1, esz := 5 })).bind fun v24 => D14_20 n v24.1 t8 t42 t43 t44 t72 t73 (IntKind.i64.wrap (t74 + 1)) b1_0 b1_1 b1_2 b1_3 b1_4 b2_0 b2_1 b2_2 b2_3 b2_4 b2_5 b2_6 b2_7 b2_8 b2_9 b4_0 b4_1 b4_2 b4_3 b4_4 b4_5 b4_6 b4_7 b4_8 b4_9 b6_0 b6_1 b6_2 b6_3 b6_4 v24.2 else none else some (AExit.exit 2, X14_20 t7 t8 t42 t43 t44 b1_0 b1_1 b1_2 b1_3 b1_4 b2_0 b2_1 b2_2 b2_3 b2_4 b2_5 b2_6 b2_7 b2_8 b2_9 b4_0 b4_1 b4_2 b4_3 b4_4 b4_5 b4_6 b4_7 b4_8 b4_9 b6_0 b6_1 b6_2 b6_3 b6_4 H) := by intros; exact (loopN_stepD hN14 _ _ _ _).trans (by kernel_rfl)
theorem D14_11_s : ∀ (n : Nat) (t42 : SO) (t43 t44 b1_0 b1_1 : Int) (b1_2 b1_3 b1_4 : SO) (b2_0 b2_1 b2_2 b2_3 : Int) (b2_4 b2_5 b2_6 : SO) (b2_7 : Int) (b2_8 b2_9 : SO) (b4_0 b4_1 b4_2 b4_3 : Int) (b4_4 b4_5 b4_6 : SO) (b4_7 : Int) (b4_8 b4_9 : SO) (H : Heap), D14_11 (n + 1) t42 t43 t44 b1_0 b1_1 b1_2 b1_3 b1_4 b2_0 b2_1 b2_2 b2_3 b2_4 b2_5 b2_6 b2_7 b2_8 b2_9 b4_0 b4_1 b4_2 b4_3 b4_4 b4_5 b4_6 b4_7 b4_8 b4_9 H = bif decide (t44 < t43) then t42.bind fun v47 => bif inb t44 v47.len && v47.esz == 5 then (H.get v47.id (v47.off + t44.toNat * 5)).bind fun v46 => (H.get v47.id (v47.off + t44.toNat * 5 + 1)).bind fun v45 => (H.get v47.id (v47.off + t44.toNat * 5 + 1 + 1)).bind fun v44 => (H.get v47.id (v47.off + t44.toNat * 5 + 1 + 1 + 1)).bind fun v43 => (H.get v47.id (v47.off + t44.toNat * 5 + 1 + 1 + 1 + 1)).bind fun v42 => (Cell.toInt .i64 v46).bind fun v41 => (Cell.toInt .i64 v45).bind fun v40 => (Cell.toInt .u64 v44).bind fun v39 => (Cell.toInt .u64 v43).bind fun v38 => v42.toSlice.bind fun v37 => bif v41 != 1 then ((H ++ [Blk.row [Cell.int .u64 v39, Cell.int .u64 v38, Cell.bool (v40.tmod 2 == 1)] false]).append 3 24 b4_6 (some { id := List.length H, off := 0, len := 1, cap := 1, esz := 3 })).bind fun v36 => D14_11 n t42 t43 (IntKind.i64.wrap (t44 + 1)) b1_0 b1_1 b1_2 b1_3 b1_4 b2_0 b2_1 b2_2 b2_3 b2_4 b2_5 b2_6 b2_7 b2_8 b2_9 b4_0 b4_1 b4_2 b4_3 b4_4 b4_5 v36.1 b4_7 b4_8 b4_9 v36.2 else bif v40.tmod 2 == 1 then D14_11 n t42 t43 (IntKind.i64.wrap (t44 + 1)) b1_0 b1_1 b1_2 b1_3 b1_4 b2_0 b2_1 b2_2 b2_3 b2_4 b2_5 b2_6 b2_7 b2_8 b2_9 v41 v40 v39 v38 v37 b4_5 b4_6 b4_7 b4_8 b4_9 H else (LL14_20 none false t42 t43 t44 b4_5 (slen b4_5) 0 b1_0 b1_1 b1_2 b1_3 b1_4 b2_0 b2_1 b2_2 b2_3 b2_4 b2_5 b2_6 b2_7 b2_8 b2_9 b4_0 b4_1 b4_2 b4_3 b4_4 b4_5 b4_6 b4_7 b4_8 b4_9 v41 v40 v39 v38 v37 H).bind (J14_20 n) else none else some (AExit.exit 0, X14_11 b1_0 b1_1 b1_2 b1_3 b1_4 b2_0 b2_1 b2_2 b2_3 b2_4 b2_5 b2_6 b2_7 b2_8 b2_9 b4_0 b4_1 b4_2 b4_3 b4_4 b4_5 b4_6 b4_7 b4_8 b4_9 H) := by intros; exact (loopN_stepD hN14 _ _ _ _).trans (by kernel_rfl)
theorem J14_20_0 : ∀ (n : Nat) (x0 : SO) (x1 : Bool) (x2 : SO) (x3 x4 x5 x6 : Int) (x7 x8 x9 : SO) (x10 x11 x12 x13 : Int) (x14 x15 x16 : SO) (x17 : Int) (x18 x19 : SO) (x20 x21 x22 x23 : Int) (x24 x25 x26 : SO) (x27 : Int) (x28 x29 : SO) (x30 x31 x32 x33 : Int) (x34 : SO) (H : Heap), J14_20 n (AExit.exit 2, X14_20 x0 x1 x2 x3 x4 x5 x6 x7 x8 x9 x10 x11 x12 x13 x14 x15 x16 x17 x18 x19 x20 x21 x22 x23 x24 x25 x26 x27 x28 x29 x30 x31 x32 x33 x34 H) = bif !x1 then ((H ++ [Blk.row [Cell.int .i64 x30, Cell.int .i64 x31, Cell.int .u64 x32, Cell.int .u64 x33, Cell.slice x34] false]).append 5 56 x0 (some { id := List.length H, off := 0, len := 1, cap := 1, esz := 5 })).bind fun v48 => D14_11 n x2 x3 (IntKind.i64.wrap (x4 + 1)) x5 x6 x7 x8 x9 x10 x11 x12 x13 x14 x15 x16 x17 x18 x19 x20 x21 x22 x23 x24 v48.1 x26 x27 x28 x29 v48.2 else D14_11 n x2 x3 (IntKind.i64.wrap (x4 + 1)) x5 x6 x7 x8 x9 x10 x11 x12 x13 x14 x15 x16 x17 x18 x19 x20 x21 x22 x23 x24 x0 x26 x27 x28 x29 H := by intros; kernel_rfl
theorem q14 : ∀ (x00 x01 : Int) (x02 x03 x04 : SO) (H : Heap), f14 x00 x01 x02 x03 x04 H = (f36 x00 x01 x02 x03 x04 H).bind fun v52 => bif !v52.1 then some ((0, 0, 0, 0, none, none, none, 0, none, none, 20), v52.2) else bif x00 != 62 then some ((0, 0, 0, 0, none, none, none, 0, none, none, 20), v52.2) else (f37 x00 x01 x02 x03 x04 v52.2).bind fun v51 => bif !v51.1 then some ((0, 0, 0, 0, none, none, none, 0, none, none, 23), v51.2) else (f38 x00 x01 x02 x03 x04 v51.2).bind fun v50 => bif !v50.1 then some ((0, 0, 0, 0, none, none, none, 0, none, none, 21), v50.2) else (f39 x00 x01 x02 x03 x04 v50.2).bind fun v49 => bif !v49.1 then some ((0, 0, 0, 0, none, none, none, 0, none, none, 25), v49.2) else (LL14_11 x02 (slen x02) 0 x00 x01 x02 x03 x04 0 0 0 0 none none none 0 none none 0 0 0 0 none none none x01 none none v49.2).bind J14_11 := by intros; rw [f14_eq]; exact (fnA_lpD hN14 ..).trans (by kernel_rfl)
theorem J14_11_0 : ∀ (x0 x1 : Int) (x2 x3 x4 : SO) (x5 x6 x7 x8 : Int) (x9 x10 x11 : SO) (x12 : Int) (x13 x14 : SO) (x15 x16 x17 x18 : Int) (x19 x20 x21 : SO) (x22 : Int) (x23 x24 : SO) (H : Heap), J14_11 (AExit.exit 0, X14_11 x0 x1 x2 x3 x4 x5 x6 x7 x8 x9 x10 x11 x12 x13 x14 x15 x16 x17 x18 x19 x20 x21 x22 x23 x24 H) = (f20 x15 x16 x17 x18 x19 x1 1 H).bind fun v53 => bif !v53.1 then some ((0, 0, 0, 0, none, none, none, 0, none, none, 7), v53.2) else (LL14_34 x3 (slen x3) 0 x0 x1 x2 x3 x4 x5 x6 x7 x8 x9 x10 x11 x12 x13 x14 x15 x16 x17 x18 x19 x20 x21 x22 x23 x24 v53.2).bind J14_34 := by intros; kernel_rfl
theorem J14_34_0 : ∀ (x0 x1 : Int) (x2 x3 x4 : SO) (x5 x6 x7 x8 : Int) (x9 x10 x11 : SO) (x12 : Int) (x13 x14 : SO) (x15 x16 x17 x18 : Int) (x19 x20 x21 : SO) (x22 : Int) (x23 x24 : SO) (H : Heap), J14_34 (AExit.exit 4, X14_34 x0 x1 x2 x3 x4 x5 x6 x7 x8 x9 x10 x11 x12 x13 x14 x15 x16 x17 x18 x19 x20 x21 x22 x23 x24 H) = (LL14_40 x4 (slen x4) 0 x0 x1 x2 x3 x4 x5 x6 x7 x8 x9 x10 x11 x12 x13 x14 x15 x16 x17 x18 x19 x20 x21 x22 x23 x24 H).bind J14_40 := by intros; kernel_rfl
theorem J14_40_0 : ∀ (x0 x1 x2 x3 x4 : Int) (x5 x6 x7 : SO) (x8 : Int) (x9 x10 : SO) (x11 x12 x13 x14 : Int) (x15 x16 x17 : SO) (x18 : Int) (x19 x20 : SO) (H : Heap), J14_40 (AExit.ret, X14_40 x0 x1 x2 x3 x4 x5 x6 x7 x8 x9 x10 x11 x12 x13 x14 x15 x16 x17 x18 x19 x20 H) = some ((x1, x2, x3, x4, x5, x6, x7, x8, x9, x10, x0), H) := by intros; kernel_rfl
theorem J14_40_1 : ∀ (x0 x1 x2 x3 : Int) (x4 x5 x6 : SO) (x7 : Int) (x8 x9 : SO) (x10 x11 x12 x13 : Int) (x14 x15 x16 : SO) (x17 : Int) (x18 x19 : SO) (H : Heap), J14_40 (AExit.exit 6, X14_40a x0 x1 x2 x3 x4 x5 x6 x7 x8 x9 x10 x11 x12 x13 x14 x15 x16 x17 x18 x19 H) = some ((x10, x11, x12, x13, x14, x15, x16, x17, x18, x19, 0), H) := by intros; kernel_rfl
theorem ok14 : FnOk Try.prog 14 (specF enc14 (sem14 f14)) := by
  refine spec_ok (C := CC14) good14 rfl rfl rfl (by kernel_rfl) Try.func14 (c := bodyOf Try.f14) (by kernel_rfl) (by kernel_rfl) (Nat.le_of_eq Try.ntmps14.symm) dec14 enc14 de14 _ ?_
  intro args H q h
  unfold sem14 at h
  split at h
  · rw [f14_eq] at h; exact h
  · cases h
/-! 43: R4_Byte -/
noncomputable def CC43 : Ctx := { P := Try.prog, own := [2], fns := [], nt := 22, nums := [], live := [] }
theorem good43 : Callees Try.prog CC43.fns [] CC43.nums := Callees.nil Try.prog
theorem hN43 : CtxNat CC43 := good43.ctx rfl rfl rfl
def enc43 (r : Int) : List TV := [.c (Cell.int .u8 (r))]
def dec43 : AV → Option (Int)
  | .c (Cell.int .u8 q0) => some (q0)
  | _ => none
theorem de43 (v : AV) (r : Int) (h : dec43 v = some r) : v = oneOf (enc43 r) := by
  unfold dec43 at h
  split at h
  · cases h; rfl
  · cases h
abbrev Ty43 := Int → Int → Int → Int → SO → Int → Heap → Option (Int × Heap)
def sem43 (f : Ty43) : List TV → Heap → Option (Int × Heap)
  | [.agg [Cell.int .i64 s0, Cell.int .i64 s1, Cell.int .u64 s2, Cell.int .u64 s3, Cell.slice s4], .c (Cell.int .u64 x1)], H => f s0 s1 s2 s3 s4 x1 H
  | _, _ => none
noncomputable def F043 : Ty43 := fun s0 s1 s2 s3 s4 x1 H => fnA CC43 Try.f43.results.toList (bodyOf Try.f43) _ [.agg [Cell.int .i64 s0, Cell.int .i64 s1, Cell.int .u64 s2, Cell.int .u64 s3, Cell.slice s4], .c (Cell.int .u64 x1)] H (decF dec43)
noncomputable def f43 : Ty43 := hide F043
theorem f43_eq : f43 = F043 := hide_eq _
theorem q43 : ∀ (s0 s1 s2 s3 : Int) (s4 : SO) (x1 : Int) (H : Heap), f43 s0 s1 s2 s3 s4 x1 H = bif decide (IntKind.u64.wrap (x1 - s2) < IntKind.u64.wrap (slen s4)) then s4.bind fun v2 => bif inb (IntKind.u64.wrap (x1 - s2)) v2.len && v2.esz == 1 then (H.get v2.id (v2.off + (IntKind.u64.wrap (x1 - s2)).toNat * 1)).bind fun v1 => (Cell.toInt .u8 v1).bind fun v0 => some (v0, H) else none else some (0, H) := by intros; rw [f43_eq]; exact (fnA_lpD hN43 ..).trans (by kernel_rfl)
theorem ok43 : FnOk Try.prog 43 (specF enc43 (sem43 f43)) := by
  refine spec_ok (C := CC43) good43 rfl rfl rfl (by kernel_rfl) Try.func43 (c := bodyOf Try.f43) (by kernel_rfl) (by kernel_rfl) (Nat.le_of_eq Try.ntmps43.symm) dec43 enc43 de43 _ ?_
  intro args H q h
  unfold sem43 at h
  split at h
  · rw [f43_eq] at h; exact h
  · cases h
/-! 16: R4_Image_Byte -/
noncomputable def CC16 : Ctx := { P := Try.prog, own := [2, 7], fns := [(43, specF enc43 (sem43 f43)), (20, specF enc20 (sem20 f20))], nt := 26, nums := [], live := [(2, ⟨[1, 13, 14, 15], [], [4, 5], []⟩)] }
theorem good16 : Callees Try.prog CC16.fns [] CC16.nums := ((Callees.nil Try.prog).cons ok20 (specF_nat _ _)).cons ok43 (specF_nat _ _)
theorem hN16 : CtxNat CC16 := good16.ctx rfl rfl rfl
def enc16 (r : Int × Bool) : List TV := [.c (Cell.int .u8 (r.1)), .c (Cell.bool (r.2))]
def dec16 : AV → Option (Int × Bool)
  | .tup [.c (Cell.int .u8 q0), .c (Cell.bool q1)] => some (q0, q1)
  | _ => none
theorem de16 (v : AV) (r : Int × Bool) (h : dec16 v = some r) : v = oneOf (enc16 r) := by
  unfold dec16 at h
  split at h
  · cases h; rfl
  · cases h
abbrev Ty16 := Int → Int → Int → Int → SO → SO → SO → Int → SO → SO → Int → Heap → Option ((Int × Bool) × Heap)
def sem16 (f : Ty16) : List TV → Heap → Option ((Int × Bool) × Heap)
  | [.agg [Cell.int .i64 m0, Cell.int .i64 m1, Cell.int .u64 m2, Cell.int .u64 m3, Cell.slice m4, Cell.slice m5, Cell.slice m6, Cell.int .u64 m7, Cell.slice m8, Cell.slice m9], .c (Cell.int .u64 x1)], H => f m0 m1 m2 m3 m4 m5 m6 m7 m8 m9 x1 H
  | _, _ => none
noncomputable def F016 : Ty16 := fun m0 m1 m2 m3 m4 m5 m6 m7 m8 m9 x1 H => fnA CC16 Try.f16.results.toList (bodyOf Try.f16) _ [.agg [Cell.int .i64 m0, Cell.int .i64 m1, Cell.int .u64 m2, Cell.int .u64 m3, Cell.slice m4, Cell.slice m5, Cell.slice m6, Cell.int .u64 m7, Cell.slice m8, Cell.slice m9], .c (Cell.int .u64 x1)] H (decF dec16)
noncomputable def f16 : Ty16 := hide F016
theorem f16_eq : f16 = F016 := hide_eq _
noncomputable def P16_2 : Code := (Code.l (Code.l (Code.r (Code.l (Code.r (bodyOf Try.f16))))))
def S16_2 (t1 : Int) (t13 : SO) (t14 t15 : Int) (H : Heap) : St := ⟨[(1, .c (Cell.int .u64 t1)), (13, .c (Cell.slice t13)), (14, .c (Cell.int .i64 t14)), (15, .c (Cell.int .i64 t15))], [], H⟩
noncomputable def D16_2 (n : Nat) (t1 : Int) (t13 : SO) (t14 t15 : Int) (H : Heap) : Option (AExit × St) := loopN (exec CC16 P16_2) (keepOf CC16.live P16_2) n (S16_2 t1 t13 t14 t15 H) retD
noncomputable def LL16_2 (t1 : Int) (t13 : SO) (t14 t15 : Int) (H : Heap) : Option (AExit × St) := loopsD CC16 P16_2 (S16_2 t1 t13 t14 t15 H)
theorem LL16_2_of (m : Nat) (hm : m < 18446744073709551616) (t1 : Int) (t13 : SO) (t14 t15 : Int) (H : Heap) : ∃ n, LL16_2 t1 t13 t14 t15 H = D16_2 (n + m + 1) t1 t13 t14 t15 H := loopsD_of _ _ _ m hm
def X16_2 (x0 : Int) (x1 : Bool) (H : Heap) : St := { env := [(4, AV.c (Cell.int .u8 x0)), (5, AV.c (Cell.bool x1))], loc := [], heap := H }
def X16_2a (H : Heap) : St := { env := [], loc := [], heap := H }
noncomputable def J16_2 : AExit × St → Option ((Int × Bool) × Heap) := fun p => blockK 0 (seqK (execL CC16 (lpD CC16) (Code.r (Code.r (bodyOf Try.f16)))) (retA CC16 [ResultVar.tmp 4, ResultVar.tmp 5] (decF dec16))) p.1 p.2
theorem D16_2_s : ∀ (n : Nat) (t1 : Int) (t13 : SO) (t14 t15 : Int) (H : Heap), D16_2 (n + 1) t1 t13 t14 t15 H = bif decide (t15 < t14) then t13.bind fun v12 => bif inb t15 v12.len && v12.esz == 5 then (H.get v12.id (v12.off + t15.toNat * 5)).bind fun v11 => (H.get v12.id (v12.off + t15.toNat * 5 + 1)).bind fun v10 => (H.get v12.id (v12.off + t15.toNat * 5 + 1 + 1)).bind fun v9 => (H.get v12.id (v12.off + t15.toNat * 5 + 1 + 1 + 1)).bind fun v8 => (H.get v12.id (v12.off + t15.toNat * 5 + 1 + 1 + 1 + 1)).bind fun v7 => (Cell.toInt .i64 v11).bind fun v6 => (Cell.toInt .i64 v10).bind fun v5 => (Cell.toInt .u64 v9).bind fun v4 => (Cell.toInt .u64 v8).bind fun v3 => v7.toSlice.bind fun v2 => (f20 v6 v5 v4 v3 v2 t1 1 H).bind fun v1 => bif v1.1 then (f43 v6 v5 v4 v3 v2 t1 v1.2).bind fun v0 => some (AExit.ret, X16_2 v0.1 true v0.2) else D16_2 n t1 t13 t14 (IntKind.i64.wrap (t15 + 1)) v1.2 else none else some (AExit.exit 0, X16_2a H) := by intros; exact (loopN_stepD hN16 _ _ _ _).trans (by kernel_rfl)
theorem q16 : ∀ (m0 m1 m2 m3 : Int) (m4 m5 m6 : SO) (m7 : Int) (m8 m9 : SO) (x1 : Int) (H : Heap), f16 m0 m1 m2 m3 m4 m5 m6 m7 m8 m9 x1 H = ((H ++ [Blk.row [Cell.int .i64 m0, Cell.int .i64 m1, Cell.int .u64 m2, Cell.int .u64 m3, Cell.slice m4] false]).append 5 56 (some { id := List.length H, off := 0, len := 1, cap := 1, esz := 5 }) m5).bind fun v13 => (LL16_2 x1 v13.1 (slen v13.1) 0 v13.2).bind J16_2 := by intros; rw [f16_eq]; exact (fnA_lpD hN16 ..).trans (by kernel_rfl)
theorem J16_2_0 : ∀ (x0 : Int) (x1 : Bool) (H : Heap), J16_2 (AExit.ret, X16_2 x0 x1 H) = some ((x0, x1), H) := by intros; kernel_rfl
theorem J16_2_1 : ∀ (H : Heap), J16_2 (AExit.exit 0, X16_2a H) = some ((0, false), H) := by intros; kernel_rfl
theorem ok16 : FnOk Try.prog 16 (specF enc16 (sem16 f16)) := by
  refine spec_ok (C := CC16) good16 rfl rfl rfl (by kernel_rfl) Try.func16 (c := bodyOf Try.f16) (by kernel_rfl) (by kernel_rfl) (Nat.le_of_eq Try.ntmps16.symm) dec16 enc16 de16 _ ?_
  intro args H q h
  unfold sem16 at h
  split at h
  · rw [f16_eq] at h; exact h
  · cases h
/-! 17: image_Image_Fixed -/
noncomputable def CC17 : Ctx := { P := Try.prog, own := [2, 7], fns := [(42, specF enc42 (sem42 f42)), (10, specF enc10 (sem10 f10))], nt := 44, nums := [], live := [(7, ⟨[1, 7, 8, 27], [7], [8], []⟩), (2, ⟨[1, 11, 12, 13], [], [4, 5], []⟩)] }
theorem good17 : Callees Try.prog CC17.fns [] CC17.nums := ((Callees.nil Try.prog).cons ok10 (specF_nat _ _)).cons ok42 (specF_nat _ _)
theorem hN17 : CtxNat CC17 := good17.ctx rfl rfl rfl
def enc17 (r : Int × Bool) : List TV := [.c (Cell.int .u64 (r.1)), .c (Cell.bool (r.2))]
def dec17 : AV → Option (Int × Bool)
  | .tup [.c (Cell.int .u64 q0), .c (Cell.bool q1)] => some (q0, q1)
  | _ => none
theorem de17 (v : AV) (r : Int × Bool) (h : dec17 v = some r) : v = oneOf (enc17 r) := by
  unfold dec17 at h
  split at h
  · cases h; rfl
  · cases h
abbrev Ty17 := Int → Int → Int → Int → SO → SO → SO → Int → SO → SO → Int → Heap → Option ((Int × Bool) × Heap)
def sem17 (f : Ty17) : List TV → Heap → Option ((Int × Bool) × Heap)
  | [.agg [Cell.int .i64 m0, Cell.int .i64 m1, Cell.int .u64 m2, Cell.int .u64 m3, Cell.slice m4, Cell.slice m5, Cell.slice m6, Cell.int .u64 m7, Cell.slice m8, Cell.slice m9], .c (Cell.int .u64 x1)], H => f m0 m1 m2 m3 m4 m5 m6 m7 m8 m9 x1 H
  | _, _ => none
noncomputable def F017 : Ty17 := fun m0 m1 m2 m3 m4 m5 m6 m7 m8 m9 x1 H => fnA CC17 Try.f17.results.toList (bodyOf Try.f17) _ [.agg [Cell.int .i64 m0, Cell.int .i64 m1, Cell.int .u64 m2, Cell.int .u64 m3, Cell.slice m4, Cell.slice m5, Cell.slice m6, Cell.int .u64 m7, Cell.slice m8, Cell.slice m9], .c (Cell.int .u64 x1)] H (decF dec17)
noncomputable def f17 : Ty17 := hide F017
theorem f17_eq : f17 = F017 := hide_eq _
noncomputable def P17_2 : Code := (Code.l (Code.l (Code.r (Code.l (Code.r (bodyOf Try.f17))))))
noncomputable def P17_7 : Code := (Code.l (Code.l (Code.r (Code.l (Code.r (Code.r (Code.r (Code.l (Code.l (Code.r (Code.r (Code.l (Code.l (Code.r (Code.l (Code.r (bodyOf Try.f17)))))))))))))))))
def S17_2 (t1 : Int) (t11 : SO) (t12 t13 : Int) (H : Heap) : St := ⟨[(1, .c (Cell.int .u64 t1)), (11, .c (Cell.slice t11)), (12, .c (Cell.int .i64 t12)), (13, .c (Cell.int .i64 t13))], [], H⟩
noncomputable def D17_2 (n : Nat) (t1 : Int) (t11 : SO) (t12 t13 : Int) (H : Heap) : Option (AExit × St) := loopN (exec CC17 P17_2) (keepOf CC17.live P17_2) n (S17_2 t1 t11 t12 t13 H) retD
noncomputable def LL17_2 (t1 : Int) (t11 : SO) (t12 t13 : Int) (H : Heap) : Option (AExit × St) := loopsD CC17 P17_2 (S17_2 t1 t11 t12 t13 H)
theorem LL17_2_of (m : Nat) (hm : m < 18446744073709551616) (t1 : Int) (t11 : SO) (t12 t13 : Int) (H : Heap) : ∃ n, LL17_2 t1 t11 t12 t13 H = D17_2 (n + m + 1) t1 t11 t12 t13 H := loopsD_of _ _ _ m hm
def S17_7 (t1 t8 t27 b7_0 b7_1 b7_2 b7_3 : Int) (b7_4 : SO) (H : Heap) : St := ⟨[(1, .c (Cell.int .u64 t1)), (7, .lp 7 0), (8, .c (Cell.int .u64 t8)), (27, .c (Cell.int .u64 t27))], [(7, [Cell.int .i64 b7_0, Cell.int .i64 b7_1, Cell.int .u64 b7_2, Cell.int .u64 b7_3, Cell.slice b7_4])], H⟩
noncomputable def D17_7 (n : Nat) (t1 t8 t27 b7_0 b7_1 b7_2 b7_3 : Int) (b7_4 : SO) (H : Heap) : Option (AExit × St) := loopN (exec CC17 P17_7) (keepOf CC17.live P17_7) n (S17_7 t1 t8 t27 b7_0 b7_1 b7_2 b7_3 b7_4 H) retD
noncomputable def LL17_7 (t1 t8 t27 b7_0 b7_1 b7_2 b7_3 : Int) (b7_4 : SO) (H : Heap) : Option (AExit × St) := loopsD CC17 P17_7 (S17_7 t1 t8 t27 b7_0 b7_1 b7_2 b7_3 b7_4 H)
theorem LL17_7_of (m : Nat) (hm : m < 18446744073709551616) (t1 t8 t27 b7_0 b7_1 b7_2 b7_3 : Int) (b7_4 : SO) (H : Heap) : ∃ n, LL17_7 t1 t8 t27 b7_0 b7_1 b7_2 b7_3 b7_4 H = D17_7 (n + m + 1) t1 t8 t27 b7_0 b7_1 b7_2 b7_3 b7_4 H := loopsD_of _ _ _ m hm
def X17_7 (x0 : Int) (H : Heap) : St := { env := [(8, AV.c (Cell.int .u64 x0))], loc := [], heap := H }
def X17_2 (H : Heap) : St := { env := [], loc := [], heap := H }
def X17_2a (x0 : Int) (x1 : Bool) (H : Heap) : St := { env := [(4, AV.c (Cell.int .u64 x0)), (5, AV.c (Cell.bool x1))], loc := [], heap := H }
noncomputable def J17_7 : Nat → AExit × St → Option (AExit × St) := fun n p => blockK 2 (seqK (execL CC17 (lpD CC17) (Code.r (Code.r (Code.r (Code.r (Code.l (Code.l (Code.r (Code.r P17_2))))))))) (blockK 1 (seqK (execL CC17 (lpD CC17) (Code.r (Code.r (Code.r P17_2)))) (loopK (some { t1 := [1, 11, 12, 13], l1 := [], t2 := [4, 5], l2 := [] }) (loopN (exec CC17 P17_2) (keepOf CC17.live P17_2) n) retD)))) p.1 p.2
noncomputable def J17_2 : AExit × St → Option ((Int × Bool) × Heap) := fun p => blockK 0 (seqK (execL CC17 (lpD CC17) (Code.r (Code.r (bodyOf Try.f17)))) (retA CC17 [ResultVar.tmp 4, ResultVar.tmp 5] (decF dec17))) p.1 p.2
theorem D17_7_s : ∀ (n : Nat) (t1 t8 t27 b7_0 b7_1 b7_2 b7_3 : Int) (b7_4 : SO) (H : Heap), D17_7 (n + 1) t1 t8 t27 b7_0 b7_1 b7_2 b7_3 b7_4 H = bif decide (t27 < 8) then (f42 b7_0 b7_1 b7_2 b7_3 b7_4 (IntKind.u64.wrap (t1 + t27)) H).bind fun v0 => bif decide (IntKind.u64.wrap (8 * t27) < 0) then none else D17_7 n t1 (bor IntKind.u64 t8 (ishl IntKind.u64 (IntKind.u64.wrap v0.1) (IntKind.u64.wrap (8 * t27)))) (IntKind.u64.wrap (t27 + 1)) b7_0 b7_1 b7_2 b7_3 b7_4 v0.2 else some (AExit.exit 2, X17_7 t8 H) := by intros; exact (loopN_stepD hN17 _ _ _ _).trans (by kernel_rfl)
theorem D17_2_s : ∀ (n : Nat) (t1 : Int) (t11 : SO) (t12 t13 : Int) (H : Heap), D17_2 (n + 1) t1 t11 t12 t13 H = bif decide (t13 < t12) then t11.bind fun v12 => bif inb t13 v12.len && v12.esz == 5 then (H.get v12.id (v12.off + t13.toNat * 5)).bind fun v11 => (H.get v12.id (v12.off + t13.toNat * 5 + 1)).bind fun v10 => (H.get v12.id (v12.off + t13.toNat * 5 + 1 + 1)).bind fun v9 => (H.get v12.id (v12.off + t13.toNat * 5 + 1 + 1 + 1)).bind fun v8 => (H.get v12.id (v12.off + t13.toNat * 5 + 1 + 1 + 1 + 1)).bind fun v7 => (Cell.toInt .i64 v11).bind fun v6 => (Cell.toInt .i64 v10).bind fun v5 => (Cell.toInt .u64 v9).bind fun v4 => (Cell.toInt .u64 v8).bind fun v3 => v7.toSlice.bind fun v2 => bif band IntKind.i64 v5 2 != 0 then D17_2 n t1 t11 t12 (IntKind.i64.wrap (t13 + 1)) H else (f10 v6 v5 v4 v3 v2 t1 8 H).bind fun v1 => bif !v1.1 then D17_2 n t1 t11 t12 (IntKind.i64.wrap (t13 + 1)) v1.2 else (LL17_7 t1 0 0 v6 v5 v4 v3 v2 v1.2).bind (J17_7 n) else none else some (AExit.exit 0, X17_2 H) := by intros; exact (loopN_stepD hN17 _ _ _ _).trans (by kernel_rfl)
theorem J17_7_0 : ∀ (n : Nat) (x0 : Int) (H : Heap), J17_7 n (AExit.exit 2, X17_7 x0 H) = some (AExit.ret, X17_2a x0 true H) := by intros; kernel_rfl
theorem q17 : ∀ (m0 m1 m2 m3 : Int) (m4 m5 m6 : SO) (m7 : Int) (m8 m9 : SO) (x1 : Int) (H : Heap), f17 m0 m1 m2 m3 m4 m5 m6 m7 m8 m9 x1 H = (LL17_2 x1 m5 (slen m5) 0 H).bind J17_2 := by intros; rw [f17_eq]; exact (fnA_lpD hN17 ..).trans (by kernel_rfl)
theorem J17_2_0 : ∀ (H : Heap), J17_2 (AExit.exit 0, X17_2 H) = some ((0, false), H) := by intros; kernel_rfl
theorem J17_2_1 : ∀ (x0 : Int) (x1 : Bool) (H : Heap), J17_2 (AExit.ret, X17_2a x0 x1 H) = some ((x0, x1), H) := by intros; kernel_rfl
theorem ok17 : FnOk Try.prog 17 (specF enc17 (sem17 f17)) := by
  refine spec_ok (C := CC17) good17 rfl rfl rfl (by kernel_rfl) Try.func17 (c := bodyOf Try.f17) (by kernel_rfl) (by kernel_rfl) (Nat.le_of_eq Try.ntmps17.symm) dec17 enc17 de17 _ ?_
  intro args H q h
  unfold sem17 at h
  split at h
  · rw [f17_eq] at h; exact h
  · cases h
/-! 18: R4_Image_Fixed -/
noncomputable def CC18 : Ctx := { P := Try.prog, own := [2, 7], fns := [(43, specF enc43 (sem43 f43)), (20, specF enc20 (sem20 f20))], nt := 43, nums := [], live := [(7, ⟨[1, 7, 8, 9], [7], [8], []⟩), (2, ⟨[1, 11, 12, 13], [], [4, 5], []⟩)] }
theorem good18 : Callees Try.prog CC18.fns [] CC18.nums := ((Callees.nil Try.prog).cons ok20 (specF_nat _ _)).cons ok43 (specF_nat _ _)
theorem hN18 : CtxNat CC18 := good18.ctx rfl rfl rfl
def enc18 (r : Int × Bool) : List TV := [.c (Cell.int .u64 (r.1)), .c (Cell.bool (r.2))]
def dec18 : AV → Option (Int × Bool)
  | .tup [.c (Cell.int .u64 q0), .c (Cell.bool q1)] => some (q0, q1)
  | _ => none
theorem de18 (v : AV) (r : Int × Bool) (h : dec18 v = some r) : v = oneOf (enc18 r) := by
  unfold dec18 at h
  split at h
  · cases h; rfl
  · cases h
abbrev Ty18 := Int → Int → Int → Int → SO → SO → SO → Int → SO → SO → Int → Heap → Option ((Int × Bool) × Heap)
def sem18 (f : Ty18) : List TV → Heap → Option ((Int × Bool) × Heap)
  | [.agg [Cell.int .i64 m0, Cell.int .i64 m1, Cell.int .u64 m2, Cell.int .u64 m3, Cell.slice m4, Cell.slice m5, Cell.slice m6, Cell.int .u64 m7, Cell.slice m8, Cell.slice m9], .c (Cell.int .u64 x1)], H => f m0 m1 m2 m3 m4 m5 m6 m7 m8 m9 x1 H
  | _, _ => none
noncomputable def F018 : Ty18 := fun m0 m1 m2 m3 m4 m5 m6 m7 m8 m9 x1 H => fnA CC18 Try.f18.results.toList (bodyOf Try.f18) _ [.agg [Cell.int .i64 m0, Cell.int .i64 m1, Cell.int .u64 m2, Cell.int .u64 m3, Cell.slice m4, Cell.slice m5, Cell.slice m6, Cell.int .u64 m7, Cell.slice m8, Cell.slice m9], .c (Cell.int .u64 x1)] H (decF dec18)
noncomputable def f18 : Ty18 := hide F018
theorem f18_eq : f18 = F018 := hide_eq _
noncomputable def P18_2 : Code := (Code.l (Code.l (Code.r (Code.l (Code.r (bodyOf Try.f18))))))
noncomputable def P18_7 : Code := (Code.l (Code.l (Code.r (Code.l (Code.r (Code.l (Code.r (Code.r (Code.l (Code.l (Code.r (Code.r (Code.l (Code.l (Code.r (Code.l (Code.r (bodyOf Try.f18))))))))))))))))))
def S18_2 (t1 : Int) (t11 : SO) (t12 t13 : Int) (H : Heap) : St := ⟨[(1, .c (Cell.int .u64 t1)), (11, .c (Cell.slice t11)), (12, .c (Cell.int .i64 t12)), (13, .c (Cell.int .i64 t13))], [], H⟩
noncomputable def D18_2 (n : Nat) (t1 : Int) (t11 : SO) (t12 t13 : Int) (H : Heap) : Option (AExit × St) := loopN (exec CC18 P18_2) (keepOf CC18.live P18_2) n (S18_2 t1 t11 t12 t13 H) retD
noncomputable def LL18_2 (t1 : Int) (t11 : SO) (t12 t13 : Int) (H : Heap) : Option (AExit × St) := loopsD CC18 P18_2 (S18_2 t1 t11 t12 t13 H)
theorem LL18_2_of (m : Nat) (hm : m < 18446744073709551616) (t1 : Int) (t11 : SO) (t12 t13 : Int) (H : Heap) : ∃ n, LL18_2 t1 t11 t12 t13 H = D18_2 (n + m + 1) t1 t11 t12 t13 H := loopsD_of _ _ _ m hm
def S18_7 (t1 t8 t9 b7_0 b7_1 b7_2 b7_3 : Int) (b7_4 : SO) (H : Heap) : St := ⟨[(1, .c (Cell.int .u64 t1)), (7, .lp 7 0), (8, .c (Cell.int .u64 t8)), (9, .c (Cell.int .i64 t9))], [(7, [Cell.int .i64 b7_0, Cell.int .i64 b7_1, Cell.int .u64 b7_2, Cell.int .u64 b7_3, Cell.slice b7_4])], H⟩
noncomputable def D18_7 (n : Nat) (t1 t8 t9 b7_0 b7_1 b7_2 b7_3 : Int) (b7_4 : SO) (H : Heap) : Option (AExit × St) := loopN (exec CC18 P18_7) (keepOf CC18.live P18_7) n (S18_7 t1 t8 t9 b7_0 b7_1 b7_2 b7_3 b7_4 H) retD
noncomputable def LL18_7 (t1 t8 t9 b7_0 b7_1 b7_2 b7_3 : Int) (b7_4 : SO) (H : Heap) : Option (AExit × St) := loopsD CC18 P18_7 (S18_7 t1 t8 t9 b7_0 b7_1 b7_2 b7_3 b7_4 H)
theorem LL18_7_of (m : Nat) (hm : m < 18446744073709551616) (t1 t8 t9 b7_0 b7_1 b7_2 b7_3 : Int) (b7_4 : SO) (H : Heap) : ∃ n, LL18_7 t1 t8 t9 b7_0 b7_1 b7_2 b7_3 b7_4 H = D18_7 (n + m + 1) t1 t8 t9 b7_0 b7_1 b7_2 b7_3 b7_4 H := loopsD_of _ _ _ m hm
def X18_7 (x0 : Int) (H : Heap) : St := { env := [(8, AV.c (Cell.int .u64 x0))], loc := [], heap := H }
def X18_2 (H : Heap) : St := { env := [], loc := [], heap := H }
def X18_2a (x0 : Int) (x1 : Bool) (H : Heap) : St := { env := [(4, AV.c (Cell.int .u64 x0)), (5, AV.c (Cell.bool x1))], loc := [], heap := H }
noncomputable def J18_7 : Nat → AExit × St → Option (AExit × St) := fun n p => blockK 2 (seqK (execL CC18 (lpD CC18) (Code.r (Code.r (Code.l (Code.r (Code.r (Code.l (Code.l (Code.r (Code.r P18_2)))))))))) (blockK 1 (seqK (execL CC18 (lpD CC18) (Code.r (Code.r (Code.r P18_2)))) (loopK (some { t1 := [1, 11, 12, 13], l1 := [], t2 := [4, 5], l2 := [] }) (loopN (exec CC18 P18_2) (keepOf CC18.live P18_2) n) retD)))) p.1 p.2
noncomputable def J18_2 : AExit × St → Option ((Int × Bool) × Heap) := fun p => blockK 0 (seqK (execL CC18 (lpD CC18) (Code.r (Code.r (bodyOf Try.f18)))) (retA CC18 [ResultVar.tmp 4, ResultVar.tmp 5] (decF dec18))) p.1 p.2
theorem D18_7_s : ∀ (n : Nat) (t1 t8 t9 b7_0 b7_1 b7_2 b7_3 : Int) (b7_4 : SO) (H : Heap), D18_7 (n + 1) t1 t8 t9 b7_0 b7_1 b7_2 b7_3 b7_4 H = bif decide (t9 ≥ 0) then (f43 b7_0 b7_1 b7_2 b7_3 b7_4 (IntKind.u64.wrap (t1 + IntKind.u64.wrap t9)) H).bind fun v0 => D18_7 n t1 (IntKind.u64.wrap (IntKind.u64.wrap (t8 * 256) + IntKind.u64.wrap v0.1)) (IntKind.i64.wrap (t9 - 1)) b7_0 b7_1 b7_2 b7_3 b7_4 v0.2 else some (AExit.exit 2, X18_7 t8 H) := by intros; exact (loopN_stepD hN18 _ _ _ _).trans (by kernel_rfl)
theorem D18_2_s : ∀ (n : Nat) (t1 : Int) (t11 : SO) (t12 t13 : Int) (H : Heap), D18_2 (n + 1) t1 t11 t12 t13 H = bif decide (t13 < t12) then t11.bind fun v12 => bif inb t13 v12.len && v12.esz == 5 then (H.get v12.id (v12.off + t13.toNat * 5)).bind fun v11 => (H.get v12.id (v12.off + t13.toNat * 5 + 1)).bind fun v10 => (H.get v12.id (v12.off + t13.toNat * 5 + 1 + 1)).bind fun v9 => (H.get v12.id (v12.off + t13.toNat * 5 + 1 + 1 + 1)).bind fun v8 => (H.get v12.id (v12.off + t13.toNat * 5 + 1 + 1 + 1 + 1)).bind fun v7 => (Cell.toInt .i64 v11).bind fun v6 => (Cell.toInt .i64 v10).bind fun v5 => (Cell.toInt .u64 v9).bind fun v4 => (Cell.toInt .u64 v8).bind fun v3 => v7.toSlice.bind fun v2 => bif (IntKind.i64.wrap (v5.tdiv 2)).tmod 2 == 0 then (f20 v6 v5 v4 v3 v2 t1 8 H).bind fun v1 => bif v1.1 then (LL18_7 t1 0 7 v6 v5 v4 v3 v2 v1.2).bind (J18_7 n) else D18_2 n t1 t11 t12 (IntKind.i64.wrap (t13 + 1)) v1.2 else D18_2 n t1 t11 t12 (IntKind.i64.wrap (t13 + 1)) H else none else some (AExit.exit 0, X18_2 H) := by intros; exact (loopN_stepD hN18 _ _ _ _).trans (by kernel_rfl)
theorem J18_7_0 : ∀ (n : Nat) (x0 : Int) (H : Heap), J18_7 n (AExit.exit 2, X18_7 x0 H) = some (AExit.ret, X18_2a x0 true H) := by intros; kernel_rfl
theorem q18 : ∀ (m0 m1 m2 m3 : Int) (m4 m5 m6 : SO) (m7 : Int) (m8 m9 : SO) (x1 : Int) (H : Heap), f18 m0 m1 m2 m3 m4 m5 m6 m7 m8 m9 x1 H = (LL18_2 x1 m5 (slen m5) 0 H).bind J18_2 := by intros; rw [f18_eq]; exact (fnA_lpD hN18 ..).trans (by kernel_rfl)
theorem J18_2_0 : ∀ (H : Heap), J18_2 (AExit.exit 0, X18_2 H) = some ((0, false), H) := by intros; kernel_rfl
theorem J18_2_1 : ∀ (x0 : Int) (x1 : Bool) (H : Heap), J18_2 (AExit.ret, X18_2a x0 x1 H) = some ((x0, x1), H) := by intros; kernel_rfl
theorem ok18 : FnOk Try.prog 18 (specF enc18 (sem18 f18)) := by
  refine spec_ok (C := CC18) good18 rfl rfl rfl (by kernel_rfl) Try.func18 (c := bodyOf Try.f18) (by kernel_rfl) (by kernel_rfl) (Nat.le_of_eq Try.ntmps18.symm) dec18 enc18 de18 _ ?_
  intro args H q h
  unfold sem18 at h
  split at h
  · rw [f18_eq] at h; exact h
  · cases h
/-! 21: R4_Image_Roots -/
noncomputable def CC21 : Ctx := { P := Try.prog, own := [1], fns := [(40, specF enc40 (sem40 f40))], nt := 34, nums := [], live := [(8, ⟨[3, 23, 24, 25], [], [3], []⟩), (3, ⟨[1, 3, 12, 13, 14], [1], [1, 3], [1]⟩)] }
theorem good21 : Callees Try.prog CC21.fns [] CC21.nums := (Callees.nil Try.prog).cons ok40 (specF_nat _ _)
theorem hN21 : CtxNat CC21 := good21.ctx rfl rfl rfl
def enc21 (r : SO) : List TV := [.c (Cell.slice (r))]
def dec21 : AV → Option (SO)
  | .c (Cell.slice q0) => some (q0)
  | _ => none
theorem de21 (v : AV) (r : SO) (h : dec21 v = some r) : v = oneOf (enc21 r) := by
  unfold dec21 at h
  split at h
  · cases h; rfl
  · cases h
abbrev Ty21 := Int → Int → Int → Int → SO → SO → SO → Int → SO → SO → Heap → Option (SO × Heap)
def sem21 (f : Ty21) : List TV → Heap → Option (SO × Heap)
  | [.agg [Cell.int .i64 m0, Cell.int .i64 m1, Cell.int .u64 m2, Cell.int .u64 m3, Cell.slice m4, Cell.slice m5, Cell.slice m6, Cell.int .u64 m7, Cell.slice m8, Cell.slice m9]], H => f m0 m1 m2 m3 m4 m5 m6 m7 m8 m9 H
  | _, _ => none
noncomputable def F021 : Ty21 := fun m0 m1 m2 m3 m4 m5 m6 m7 m8 m9 H => fnA CC21 Try.f21.results.toList (bodyOf Try.f21) _ [.agg [Cell.int .i64 m0, Cell.int .i64 m1, Cell.int .u64 m2, Cell.int .u64 m3, Cell.slice m4, Cell.slice m5, Cell.slice m6, Cell.int .u64 m7, Cell.slice m8, Cell.slice m9]] H (decF dec21)
noncomputable def f21 : Ty21 := hide F021
theorem f21_eq : f21 = F021 := hide_eq _
noncomputable def P21_3 : Code := (Code.l (Code.l (Code.r (Code.l (Code.r (Code.r (bodyOf Try.f21)))))))
noncomputable def P21_8 : Code := (Code.l (Code.l (Code.r (Code.l (Code.r (Code.r (Code.r (bodyOf Try.f21))))))))
def S21_3 (t3 t12 : SO) (t13 t14 b1_0 b1_1 b1_2 b1_3 : Int) (b1_4 b1_5 b1_6 : SO) (b1_7 : Int) (b1_8 b1_9 : SO) (H : Heap) : St := ⟨[(1, .lp 1 0), (3, .c (Cell.slice t3)), (12, .c (Cell.slice t12)), (13, .c (Cell.int .i64 t13)), (14, .c (Cell.int .i64 t14))], [(1, [Cell.int .i64 b1_0, Cell.int .i64 b1_1, Cell.int .u64 b1_2, Cell.int .u64 b1_3, Cell.slice b1_4, Cell.slice b1_5, Cell.slice b1_6, Cell.int .u64 b1_7, Cell.slice b1_8, Cell.slice b1_9])], H⟩
noncomputable def D21_3 (n : Nat) (t3 t12 : SO) (t13 t14 b1_0 b1_1 b1_2 b1_3 : Int) (b1_4 b1_5 b1_6 : SO) (b1_7 : Int) (b1_8 b1_9 : SO) (H : Heap) : Option (AExit × St) := loopN (exec CC21 P21_3) (keepOf CC21.live P21_3) n (S21_3 t3 t12 t13 t14 b1_0 b1_1 b1_2 b1_3 b1_4 b1_5 b1_6 b1_7 b1_8 b1_9 H) retD
noncomputable def LL21_3 (t3 t12 : SO) (t13 t14 b1_0 b1_1 b1_2 b1_3 : Int) (b1_4 b1_5 b1_6 : SO) (b1_7 : Int) (b1_8 b1_9 : SO) (H : Heap) : Option (AExit × St) := loopsD CC21 P21_3 (S21_3 t3 t12 t13 t14 b1_0 b1_1 b1_2 b1_3 b1_4 b1_5 b1_6 b1_7 b1_8 b1_9 H)
theorem LL21_3_of (m : Nat) (hm : m < 18446744073709551616) (t3 t12 : SO) (t13 t14 b1_0 b1_1 b1_2 b1_3 : Int) (b1_4 b1_5 b1_6 : SO) (b1_7 : Int) (b1_8 b1_9 : SO) (H : Heap) : ∃ n, LL21_3 t3 t12 t13 t14 b1_0 b1_1 b1_2 b1_3 b1_4 b1_5 b1_6 b1_7 b1_8 b1_9 H = D21_3 (n + m + 1) t3 t12 t13 t14 b1_0 b1_1 b1_2 b1_3 b1_4 b1_5 b1_6 b1_7 b1_8 b1_9 H := loopsD_of _ _ _ m hm
def S21_8 (t3 t23 : SO) (t24 t25 : Int) (H : Heap) : St := ⟨[(3, .c (Cell.slice t3)), (23, .c (Cell.slice t23)), (24, .c (Cell.int .i64 t24)), (25, .c (Cell.int .i64 t25))], [], H⟩
noncomputable def D21_8 (n : Nat) (t3 t23 : SO) (t24 t25 : Int) (H : Heap) : Option (AExit × St) := loopN (exec CC21 P21_8) (keepOf CC21.live P21_8) n (S21_8 t3 t23 t24 t25 H) retD
noncomputable def LL21_8 (t3 t23 : SO) (t24 t25 : Int) (H : Heap) : Option (AExit × St) := loopsD CC21 P21_8 (S21_8 t3 t23 t24 t25 H)
theorem LL21_8_of (m : Nat) (hm : m < 18446744073709551616) (t3 t23 : SO) (t24 t25 : Int) (H : Heap) : ∃ n, LL21_8 t3 t23 t24 t25 H = D21_8 (n + m + 1) t3 t23 t24 t25 H := loopsD_of _ _ _ m hm
def X21_8 (x0 : SO) (H : Heap) : St := { env := [(3, AV.c (Cell.slice x0))], loc := [], heap := H }
def X21_3 (x0 : SO) (x1 : Int) (x2 : Int) (x3 : Int) (x4 : Int) (x5 : SO) (x6 : SO) (x7 : SO) (x8 : Int) (x9 : SO) (x10 : SO) (H : Heap) : St := { env := [(1, AV.lp 1 0), (3, AV.c (Cell.slice x0))], loc := [(1, [Cell.int .i64 x1, Cell.int .i64 x2, Cell.int .u64 x3, Cell.int .u64 x4, Cell.slice x5, Cell.slice x6, Cell.slice x7, Cell.int .u64 x8, Cell.slice x9, Cell.slice x10])], heap := H }
noncomputable def J21_3 : AExit × St → Option (Option Sl × Heap) := fun p => blockK 0 (seqK (execL CC21 (lpD CC21) (Code.r (Code.r (Code.r (bodyOf Try.f21))))) (retA CC21 [ResultVar.tmp 2] (decF dec21))) p.1 p.2
noncomputable def J21_8 : AExit × St → Option (Option Sl × Heap) := fun p => blockK 2 (seqK (execL CC21 (lpD CC21) (Code.r (Code.r (Code.r (Code.r (bodyOf Try.f21)))))) (retA CC21 [ResultVar.tmp 2] (decF dec21))) p.1 p.2
theorem D21_8_s : ∀ (n : Nat) (t3 t23 : SO) (t24 t25 : Int) (H : Heap), D21_8 (n + 1) t3 t23 t24 t25 H = bif decide (t25 < t24) then t23.bind fun v3 => bif inb t25 v3.len && v3.esz == 1 then (H.get v3.id (v3.off + t25.toNat * 1)).bind fun v2 => (Cell.toInt .u64 v2).bind fun v1 => (f40 t3 v1 H).bind fun v0 => D21_8 n v0.1 t23 t24 (IntKind.i64.wrap (t25 + 1)) v0.2 else none else some (AExit.exit 2, X21_8 t3 H) := by intros; exact (loopN_stepD hN21 _ _ _ _).trans (by kernel_rfl)
theorem D21_3_s : ∀ (n : Nat) (t3 t12 : SO) (t13 t14 b1_0 b1_1 b1_2 b1_3 : Int) (b1_4 b1_5 b1_6 : SO) (b1_7 : Int) (b1_8 b1_9 : SO) (H : Heap), D21_3 (n + 1) t3 t12 t13 t14 b1_0 b1_1 b1_2 b1_3 b1_4 b1_5 b1_6 b1_7 b1_8 b1_9 H = bif decide (t14 < t13) then t12.bind fun v7 => bif inb t14 v7.len && v7.esz == 1 then (H.get v7.id (v7.off + t14.toNat * 1)).bind fun v6 => (Cell.toInt .u64 v6).bind fun v5 => (f40 t3 v5 H).bind fun v4 => D21_3 n v4.1 t12 t13 (IntKind.i64.wrap (t14 + 1)) b1_0 b1_1 b1_2 b1_3 b1_4 b1_5 b1_6 b1_7 b1_8 b1_9 v4.2 else none else some (AExit.exit 0, X21_3 t3 b1_0 b1_1 b1_2 b1_3 b1_4 b1_5 b1_6 b1_7 b1_8 b1_9 H) := by intros; exact (loopN_stepD hN21 _ _ _ _).trans (by kernel_rfl)
theorem q21 : ∀ (m0 m1 m2 m3 : Int) (m4 m5 m6 : SO) (m7 : Int) (m8 m9 : SO) (H : Heap), f21 m0 m1 m2 m3 m4 m5 m6 m7 m8 m9 H = (LL21_3 (some { id := List.length H, off := 0, len := 1, cap := 1, esz := 1 }) m8 (slen m8) 0 m0 m1 m2 m3 m4 m5 m6 m7 m8 m9 (H ++ [Blk.row [Cell.int .u64 m7] false])).bind J21_3 := by intros; rw [f21_eq]; exact (fnA_lpD hN21 ..).trans (by kernel_rfl)
theorem J21_3_0 : ∀ (x0 : SO) (x1 x2 x3 x4 : Int) (x5 x6 x7 : SO) (x8 : Int) (x9 x10 : SO) (H : Heap), J21_3 (AExit.exit 0, X21_3 x0 x1 x2 x3 x4 x5 x6 x7 x8 x9 x10 H) = (LL21_8 x0 x10 (slen x10) 0 H).bind J21_8 := by intros; kernel_rfl
theorem J21_8_0 : ∀ (x0 : SO) (H : Heap), J21_8 (AExit.exit 2, X21_8 x0 H) = some (x0, H) := by intros; kernel_rfl
theorem ok21 : FnOk Try.prog 21 (specF enc21 (sem21 f21)) := by
  refine spec_ok (C := CC21) good21 rfl rfl rfl (by kernel_rfl) Try.func21 (c := bodyOf Try.f21) (by kernel_rfl) (by kernel_rfl) (Nat.le_of_eq Try.ntmps21.symm) dec21 enc21 de21 _ ?_
  intro args H q h
  unfold sem21 at h
  split at h
  · rw [f21_eq] at h; exact h
  · cases h
/-! 5: L04_ImageTells -/
noncomputable def CC5 : Ctx := { P := Try.prog, own := [3, 7, 9], fns := [(12, specF enc12 (sem12 f12)), (21, specF enc21 (sem21 f21)), (13, specF enc13 (sem13 f13)), (20, specF enc20 (sem20 f20)), (19, specF enc19 (sem19 f19)), (18, specF enc18 (sem18 f18)), (17, specF enc17 (sem17 f17)), (16, specF enc16 (sem16 f16)), (15, specF enc15 (sem15 f15)), (9, specF enc9 (sem9 f9)), (14, specF enc14 (sem14 f14)), (7, specF enc7 (sem7 f7)), (8, specF enc8 (sem8 f8)), (6, specF enc6 (sem6 f6))], nt := 126, nums := [], live := [] }
theorem good5 : Callees Try.prog CC5.fns [] CC5.nums := ((((((((((((((Callees.nil Try.prog).cons ok6 (specF_nat _ _)).cons ok8 (specF_nat _ _)).cons ok7 (specF_nat _ _)).cons ok14 (specF_nat _ _)).cons ok9 (specF_nat _ _)).cons ok15 (specF_nat _ _)).cons ok16 (specF_nat _ _)).cons ok17 (specF_nat _ _)).cons ok18 (specF_nat _ _)).cons ok19 (specF_nat _ _)).cons ok20 (specF_nat _ _)).cons ok13 (specF_nat _ _)).cons ok21 (specF_nat _ _)).cons ok12 (specF_nat _ _)
theorem hN5 : CtxNat CC5 := good5.ctx rfl rfl rfl
def dec5 : AV → Option (Bool)
  | .c (Cell.bool q0) => some (q0)
  | _ => none
abbrev Ty5 := Int → Int → SO → SO → SO → Int → Int → Heap → Option (Bool × Heap)
noncomputable def F05 : Ty5 := fun x00 x01 x02 x03 x04 x1 near H => fnA CC5 Try.f5.results.toList (bodyOf Try.f5) _ [.agg [Cell.int .i64 x00, Cell.int .u64 x01, Cell.slice x02, Cell.slice x03, Cell.slice x04], .c (Cell.int .u64 x1), .c (Cell.int .i64 near)] H (decF dec5)
noncomputable def f5 : Ty5 := hide F05
theorem f5_eq : f5 = F05 := hide_eq _
theorem q5 : ∀ (x00 x01 : Int) (x02 x03 x04 : SO) (x1 near : Int) (H : Heap), f5 x00 x01 x02 x03 x04 x1 near H = (f6 x00 x01 x02 x03 x04 H).bind fun v40 => (f8 v40.1.1 v40.1.2.1 v40.1.2.2.1 v40.1.2.2.2.1 v40.1.2.2.2.2 v40.2).bind fun v39 => (f7 v39.1.1 v39.1.2.1 v39.1.2.2.1 v39.1.2.2.2.1 v39.1.2.2.2.2 v39.2).bind fun v38 => (f14 v40.1.1 v40.1.2.1 v40.1.2.2.1 v40.1.2.2.2.1 v40.1.2.2.2.2 v38.2).bind fun v37 => bif v38.1.2.2.2.2.2.2.2.2.2.2 != v37.1.2.2.2.2.2.2.2.2.2.2 then some (false, v37.2) else bif v38.1.2.2.2.2.2.2.2.2.2.2 != 0 then (f9 v37.2).bind fun v0 => some (v0.1, v0.2) else bif decide (near ≥ 0) then bif decide (near < slen v40.1.2.2.1) then v40.1.2.2.1.bind fun v16 => bif inb near v16.len && v16.esz == 5 then (v37.2.get v16.id (v16.off + near.toNat * 5 + 2)).bind fun v15 => (Cell.toInt .u64 v15).bind fun v14 => v40.1.2.2.1.bind fun v13 => bif inb near v13.len && v13.esz == 5 then (v37.2.get v13.id (v13.off + near.toNat * 5 + 3)).bind fun v12 => (Cell.toInt .u64 v12).bind fun v11 => bif IntKind.u64.wrap (v11 + 16) == 0 then none else (f15 v38.1.1 v38.1.2.1 v38.1.2.2.1 v38.1.2.2.2.1 v38.1.2.2.2.2.1 v38.1.2.2.2.2.2.1 v38.1.2.2.2.2.2.2.1 v38.1.2.2.2.2.2.2.2.1 v38.1.2.2.2.2.2.2.2.2.1 v38.1.2.2.2.2.2.2.2.2.2.1 (IntKind.u64.wrap (IntKind.u64.wrap (v14 + x1.tmod (IntKind.u64.wrap (v11 + 16))) - 8)) v37.2).bind fun v10 => (f16 v37.1.1 v37.1.2.1 v37.1.2.2.1 v37.1.2.2.2.1 v37.1.2.2.2.2.1 v37.1.2.2.2.2.2.1 v37.1.2.2.2.2.2.2.1 v37.1.2.2.2.2.2.2.2.1 v37.1.2.2.2.2.2.2.2.2.1 v37.1.2.2.2.2.2.2.2.2.2.1 (IntKind.u64.wrap (IntKind.u64.wrap (v14 + x1.tmod (IntKind.u64.wrap (v11 + 16))) - 8)) v10.2).bind fun v9 => (f17 v38.1.1 v38.1.2.1 v38.1.2.2.1 v38.1.2.2.2.1 v38.1.2.2.2.2.1 v38.1.2.2.2.2.2.1 v38.1.2.2.2.2.2.2.1 v38.1.2.2.2.2.2.2.2.1 v38.1.2.2.2.2.2.2.2.2.1 v38.1.2.2.2.2.2.2.2.2.2.1 (IntKind.u64.wrap (IntKind.u64.wrap (v14 + x1.tmod (IntKind.u64.wrap (v11 + 16))) - 8)) v9.2).bind fun v8 => (f18 v37.1.1 v37.1.2.1 v37.1.2.2.1 v37.1.2.2.2.1 v37.1.2.2.2.2.1 v37.1.2.2.2.2.2.1 v37.1.2.2.2.2.2.2.1 v37.1.2.2.2.2.2.2.2.1 v37.1.2.2.2.2.2.2.2.2.1 v37.1.2.2.2.2.2.2.2.2.2.1 (IntKind.u64.wrap (IntKind.u64.wrap (v14 + x1.tmod (IntKind.u64.wrap (v11 + 16))) - 8)) v8.2).bind fun v7 => bif v10.1.1 == v9.1.1 then bif v10.1.2 == v9.1.2 then bif v8.1.1 == v7.1.1 then bif v8.1.2 == v7.1.2 then (f19 v38.1.1 v38.1.2.1 v38.1.2.2.1 v38.1.2.2.2.1 v38.1.2.2.2.2.1 v38.1.2.2.2.2.2.1 v38.1.2.2.2.2.2.2.1 v38.1.2.2.2.2.2.2.2.1 v38.1.2.2.2.2.2.2.2.2.1 v38.1.2.2.2.2.2.2.2.2.2.1 (IntKind.u64.wrap (IntKind.u64.wrap (v14 + x1.tmod (IntKind.u64.wrap (v11 + 16))) - 8)) v7.2).bind fun v6 => (f20 v37.1.1 v37.1.2.1 v37.1.2.2.1 v37.1.2.2.2.1 v37.1.2.2.2.2.1 (IntKind.u64.wrap (IntKind.u64.wrap (v14 + x1.tmod (IntKind.u64.wrap (v11 + 16))) - 8)) 1 v6.2).bind fun v5 => bif v6.1 == v5.1 then (f13 v38.1.1 v38.1.2.1 v38.1.2.2.1 v38.1.2.2.2.1 v38.1.2.2.2.2.1 v38.1.2.2.2.2.2.1 v38.1.2.2.2.2.2.2.1 v38.1.2.2.2.2.2.2.2.1 v38.1.2.2.2.2.2.2.2.2.1 v38.1.2.2.2.2.2.2.2.2.2.1 v5.2).bind fun v4 => (f21 v37.1.1 v37.1.2.1 v37.1.2.2.1 v37.1.2.2.2.1 v37.1.2.2.2.2.1 v37.1.2.2.2.2.2.1 v37.1.2.2.2.2.2.2.1 v37.1.2.2.2.2.2.2.2.1 v37.1.2.2.2.2.2.2.2.2.1 v37.1.2.2.2.2.2.2.2.2.2.1 v4.2).bind fun v3 => (f12 v4.1 v3.1 v3.2).bind fun v2 => bif v2.1 then (f9 v2.2).bind fun v1 => some (v1.1, v1.2) else some (false, v2.2) else some (false, v5.2) else some (false, v7.2) else some (false, v7.2) else some (false, v7.2) else some (false, v7.2) else none else none else (f15 v38.1.1 v38.1.2.1 v38.1.2.2.1 v38.1.2.2.2.1 v38.1.2.2.2.2.1 v38.1.2.2.2.2.2.1 v38.1.2.2.2.2.2.2.1 v38.1.2.2.2.2.2.2.2.1 v38.1.2.2.2.2.2.2.2.2.1 v38.1.2.2.2.2.2.2.2.2.2.1 x1 v37.2).bind fun v26 => (f16 v37.1.1 v37.1.2.1 v37.1.2.2.1 v37.1.2.2.2.1 v37.1.2.2.2.2.1 v37.1.2.2.2.2.2.1 v37.1.2.2.2.2.2.2.1 v37.1.2.2.2.2.2.2.2.1 v37.1.2.2.2.2.2.2.2.2.1 v37.1.2.2.2.2.2.2.2.2.2.1 x1 v26.2).bind fun v25 => (f17 v38.1.1 v38.1.2.1 v38.1.2.2.1 v38.1.2.2.2.1 v38.1.2.2.2.2.1 v38.1.2.2.2.2.2.1 v38.1.2.2.2.2.2.2.1 v38.1.2.2.2.2.2.2.2.1 v38.1.2.2.2.2.2.2.2.2.1 v38.1.2.2.2.2.2.2.2.2.2.1 x1 v25.2).bind fun v24 => (f18 v37.1.1 v37.1.2.1 v37.1.2.2.1 v37.1.2.2.2.1 v37.1.2.2.2.2.1 v37.1.2.2.2.2.2.1 v37.1.2.2.2.2.2.2.1 v37.1.2.2.2.2.2.2.2.1 v37.1.2.2.2.2.2.2.2.2.1 v37.1.2.2.2.2.2.2.2.2.2.1 x1 v24.2).bind fun v23 => bif v26.1.1 == v25.1.1 then bif v26.1.2 == v25.1.2 then bif v24.1.1 == v23.1.1 then bif v24.1.2 == v23.1.2 then (f19 v38.1.1 v38.1.2.1 v38.1.2.2.1 v38.1.2.2.2.1 v38.1.2.2.2.2.1 v38.1.2.2.2.2.2.1 v38.1.2.2.2.2.2.2.1 v38.1.2.2.2.2.2.2.2.1 v38.1.2.2.2.2.2.2.2.2.1 v38.1.2.2.2.2.2.2.2.2.2.1 x1 v23.2).bind fun v22 => (f20 v37.1.1 v37.1.2.1 v37.1.2.2.1 v37.1.2.2.2.1 v37.1.2.2.2.2.1 x1 1 v22.2).bind fun v21 => bif v22.1 == v21.1 then (f13 v38.1.1 v38.1.2.1 v38.1.2.2.1 v38.1.2.2.2.1 v38.1.2.2.2.2.1 v38.1.2.2.2.2.2.1 v38.1.2.2.2.2.2.2.1 v38.1.2.2.2.2.2.2.2.1 v38.1.2.2.2.2.2.2.2.2.1 v38.1.2.2.2.2.2.2.2.2.2.1 v21.2).bind fun v20 => (f21 v37.1.1 v37.1.2.1 v37.1.2.2.1 v37.1.2.2.2.1 v37.1.2.2.2.2.1 v37.1.2.2.2.2.2.1 v37.1.2.2.2.2.2.2.1 v37.1.2.2.2.2.2.2.2.1 v37.1.2.2.2.2.2.2.2.2.1 v37.1.2.2.2.2.2.2.2.2.2.1 v20.2).bind fun v19 => (f12 v20.1 v19.1 v19.2).bind fun v18 => bif v18.1 then (f9 v18.2).bind fun v17 => some (v17.1, v17.2) else some (false, v18.2) else some (false, v21.2) else some (false, v23.2) else some (false, v23.2) else some (false, v23.2) else some (false, v23.2) else (f15 v38.1.1 v38.1.2.1 v38.1.2.2.1 v38.1.2.2.2.1 v38.1.2.2.2.2.1 v38.1.2.2.2.2.2.1 v38.1.2.2.2.2.2.2.1 v38.1.2.2.2.2.2.2.2.1 v38.1.2.2.2.2.2.2.2.2.1 v38.1.2.2.2.2.2.2.2.2.2.1 x1 v37.2).bind fun v36 => (f16 v37.1.1 v37.1.2.1 v37.1.2.2.1 v37.1.2.2.2.1 v37.1.2.2.2.2.1 v37.1.2.2.2.2.2.1 v37.1.2.2.2.2.2.2.1 v37.1.2.2.2.2.2.2.2.1 v37.1.2.2.2.2.2.2.2.2.1 v37.1.2.2.2.2.2.2.2.2.2.1 x1 v36.2).bind fun v35 => (f17 v38.1.1 v38.1.2.1 v38.1.2.2.1 v38.1.2.2.2.1 v38.1.2.2.2.2.1 v38.1.2.2.2.2.2.1 v38.1.2.2.2.2.2.2.1 v38.1.2.2.2.2.2.2.2.1 v38.1.2.2.2.2.2.2.2.2.1 v38.1.2.2.2.2.2.2.2.2.2.1 x1 v35.2).bind fun v34 => (f18 v37.1.1 v37.1.2.1 v37.1.2.2.1 v37.1.2.2.2.1 v37.1.2.2.2.2.1 v37.1.2.2.2.2.2.1 v37.1.2.2.2.2.2.2.1 v37.1.2.2.2.2.2.2.2.1 v37.1.2.2.2.2.2.2.2.2.1 v37.1.2.2.2.2.2.2.2.2.2.1 x1 v34.2).bind fun v33 => bif v36.1.1 == v35.1.1 then bif v36.1.2 == v35.1.2 then bif v34.1.1 == v33.1.1 then bif v34.1.2 == v33.1.2 then (f19 v38.1.1 v38.1.2.1 v38.1.2.2.1 v38.1.2.2.2.1 v38.1.2.2.2.2.1 v38.1.2.2.2.2.2.1 v38.1.2.2.2.2.2.2.1 v38.1.2.2.2.2.2.2.2.1 v38.1.2.2.2.2.2.2.2.2.1 v38.1.2.2.2.2.2.2.2.2.2.1 x1 v33.2).bind fun v32 => (f20 v37.1.1 v37.1.2.1 v37.1.2.2.1 v37.1.2.2.2.1 v37.1.2.2.2.2.1 x1 1 v32.2).bind fun v31 => bif v32.1 == v31.1 then (f13 v38.1.1 v38.1.2.1 v38.1.2.2.1 v38.1.2.2.2.1 v38.1.2.2.2.2.1 v38.1.2.2.2.2.2.1 v38.1.2.2.2.2.2.2.1 v38.1.2.2.2.2.2.2.2.1 v38.1.2.2.2.2.2.2.2.2.1 v38.1.2.2.2.2.2.2.2.2.2.1 v31.2).bind fun v30 => (f21 v37.1.1 v37.1.2.1 v37.1.2.2.1 v37.1.2.2.2.1 v37.1.2.2.2.2.1 v37.1.2.2.2.2.2.1 v37.1.2.2.2.2.2.2.1 v37.1.2.2.2.2.2.2.2.1 v37.1.2.2.2.2.2.2.2.2.1 v37.1.2.2.2.2.2.2.2.2.2.1 v30.2).bind fun v29 => (f12 v30.1 v29.1 v29.2).bind fun v28 => bif v28.1 then (f9 v28.2).bind fun v27 => some (v27.1, v27.2) else some (false, v28.2) else some (false, v31.2) else some (false, v33.2) else some (false, v33.2) else some (false, v33.2) else some (false, v33.2) := by intros; rw [f5_eq]; exact (fnA_lpD hN5 ..).trans (by kernel_rfl)