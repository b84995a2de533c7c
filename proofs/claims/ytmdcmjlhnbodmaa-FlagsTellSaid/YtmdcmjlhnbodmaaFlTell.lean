/- FlagsTell: the reference's conditions, Pack. -/
import Derived.Test.YtmdcmjlhnbodmaaFlE
namespace Go.Proofs.Ytmdcmjlhnbodmaa
open Go Go.Proofs.Ytmdcmjlhnbodmaa.Ab
set_option linter.unusedVariables false
set_option maxRecDepth 100000
noncomputable section
/-! R8_Thunk_Zero -/
def R8_Thunk_Zero (t0 t1 : Bool) (t2 : Int) : Bool := t2 == 0
noncomputable def G29 : List TV → Option (List TV) | [.agg [Cell.bool t0, Cell.bool t1, Cell.int .u64 t2]] => some [.c (Cell.bool (R8_Thunk_Zero t0 t1 t2))] | _ => none
noncomputable def F29 : FnSem := numF G29
noncomputable def C29 : Ctx := { P := Try.prog, own := [1], fns := L13, nt := 6, nums := N13, live := [] }
theorem e29 : ∀ (R : Type) (t0 t1 : Bool) (t2 : Int) (H : Heap) (K : AV → Heap → Option R) (lp : Code → St → (AExit → St → Option R) → Option R), fnL C29 lp Try.f29.results.toList (bodyOf Try.f29) [TV.agg [Cell.bool t0, Cell.bool t1, Cell.int IntKind.u64 t2]] H K = K (AV.c (Cell.bool (t2 == 0))) H := by intros; kernel_rfl
theorem s29 (R : Type) (t0 : Bool) (t1 : Bool) (t2 : Int) (H : Heap) (K : AV → Heap → Option R) (lp : Code → St → (AExit → St → Option R) → Option R) : fnL C29 lp Try.f29.results.toList (bodyOf Try.f29) [.agg [Cell.bool t0, Cell.bool t1, Cell.int .u64 t2]] H K = K (oneOf [.c (Cell.bool (R8_Thunk_Zero t0 t1 t2))]) H := by
  rw [e29]
  rfl
theorem ok29 : FnOk Try.prog 29 F29 := by
  refine fn_ok (C := C29) (good13.env rfl) (good13.ctx rfl rfl rfl) (by kernel_rfl) Try.func29 (c := bodyOf Try.f29) (by kernel_rfl) (by kernel_rfl) (Nat.le_of_eq Try.ntmps29.symm) ?_
  intro R args H K r h
  unfold F29 numF G29 at h
  split at h
  · rw [fnA_eq, s29]; exact h
  · cases h
noncomputable def L29 := ((29, F29) : Nat × FnSem) :: L13
noncomputable def N29 : List Nat := 29 :: N13
theorem good29 : Callees Try.prog L29 [] N29 := good13.cons_num ok29 (numF_num _)
/-! R8_Thunk_Sign -/
def R8_Thunk_Sign (t0 t1 : Bool) (t2 : Int) : Bool := decide (t2 ≥ 9223372036854775808)
noncomputable def G31 : List TV → Option (List TV) | [.agg [Cell.bool t0, Cell.bool t1, Cell.int .u64 t2]] => some [.c (Cell.bool (R8_Thunk_Sign t0 t1 t2))] | _ => none
noncomputable def F31 : FnSem := numF G31
noncomputable def C31 : Ctx := { P := Try.prog, own := [1], fns := L29, nt := 6, nums := N29, live := [] }
theorem e31 : ∀ (R : Type) (t0 t1 : Bool) (t2 : Int) (H : Heap) (K : AV → Heap → Option R) (lp : Code → St → (AExit → St → Option R) → Option R), fnL C31 lp Try.f31.results.toList (bodyOf Try.f31) [TV.agg [Cell.bool t0, Cell.bool t1, Cell.int IntKind.u64 t2]] H K = K (AV.c (Cell.bool (decide (t2 ≥ 9223372036854775808)))) H := by intros; kernel_rfl
theorem s31 (R : Type) (t0 : Bool) (t1 : Bool) (t2 : Int) (H : Heap) (K : AV → Heap → Option R) (lp : Code → St → (AExit → St → Option R) → Option R) : fnL C31 lp Try.f31.results.toList (bodyOf Try.f31) [.agg [Cell.bool t0, Cell.bool t1, Cell.int .u64 t2]] H K = K (oneOf [.c (Cell.bool (R8_Thunk_Sign t0 t1 t2))]) H := by
  rw [e31]
  rfl
theorem ok31 : FnOk Try.prog 31 F31 := by
  refine fn_ok (C := C31) (good29.env rfl) (good29.ctx rfl rfl rfl) (by kernel_rfl) Try.func31 (c := bodyOf Try.f31) (by kernel_rfl) (by kernel_rfl) (Nat.le_of_eq Try.ntmps31.symm) ?_
  intro R args H K r h
  unfold F31 numF G31 at h
  split at h
  · rw [fnA_eq, s31]; exact h
  · cases h
noncomputable def L31 := ((31, F31) : Nat × FnSem) :: L29
noncomputable def N31 : List Nat := 31 :: N29
theorem good31 : Callees Try.prog L31 [] N31 := good29.cons_num ok31 (numF_num _)
/-! R8_Thunk_Even -/
def R8_Thunk_Even (t0 t1 : Bool) (t2 : Int) : Bool := R1_Even t2
noncomputable def G33 : List TV → Option (List TV) | [.agg [Cell.bool t0, Cell.bool t1, Cell.int .u64 t2]] => some [.c (Cell.bool (R8_Thunk_Even t0 t1 t2))] | _ => none
noncomputable def F33 : FnSem := numF G33
noncomputable def C33 : Ctx := { P := Try.prog, own := [1], fns := L31, nt := 6, nums := N31, live := [] }
theorem e33 : ∀ (R : Type) (t0 t1 : Bool) (t2 : Int) (H : Heap) (K : AV → Heap → Option R) (lp : Code → St → (AExit → St → Option R) → Option R), fnL C33 lp Try.f33.results.toList (bodyOf Try.f33) [TV.agg [Cell.bool t0, Cell.bool t1, Cell.int IntKind.u64 t2]] H K = K (AV.c (Cell.bool (R1_Even t2))) H := by intros; kernel_rfl
theorem s33 (R : Type) (t0 : Bool) (t1 : Bool) (t2 : Int) (H : Heap) (K : AV → Heap → Option R) (lp : Code → St → (AExit → St → Option R) → Option R) : fnL C33 lp Try.f33.results.toList (bodyOf Try.f33) [.agg [Cell.bool t0, Cell.bool t1, Cell.int .u64 t2]] H K = K (oneOf [.c (Cell.bool (R8_Thunk_Even t0 t1 t2))]) H := by
  rw [e33]
  rfl
theorem ok33 : FnOk Try.prog 33 F33 := by
  refine fn_ok (C := C33) (good31.env rfl) (good31.ctx rfl rfl rfl) (by kernel_rfl) Try.func33 (c := bodyOf Try.f33) (by kernel_rfl) (by kernel_rfl) (Nat.le_of_eq Try.ntmps33.symm) ?_
  intro R args H K r h
  unfold F33 numF G33 at h
  split at h
  · rw [fnA_eq, s33]; exact h
  · cases h
noncomputable def L33 := ((33, F33) : Nat × FnSem) :: L31
noncomputable def N33 : List Nat := 33 :: N31
theorem good33 : Callees Try.prog L33 [] N33 := good31.cons_num ok33 (numF_num _)
/-! xflag_Thunk_Pack -/
def packOr (b : Bool) (n v : Int) : Int := bif b then bor .u64 v n else v
def packRow (z s e t0 t1 : Bool) : List Cell := [.bool t0, .int .u64 1, .bool e, .int .u64 4, .bool z, .int .u64 64, .bool s, .int .u64 128, .bool t1, .int .u64 2048]
def xflag_Thunk_Pack (t0 t1 : Bool) (t2 : Int) (H : Heap) : Int × Heap :=
  (packOr t1 2048 (packOr (xflag_Thunk_Sign t0 t1 t2) 128 (packOr (xflag_Thunk_Zero t0 t1 t2) 64 (packOr (xflag_Thunk_Even t0 t1 t2) 4 (packOr t0 1 514)))), H ++ [.row (packRow (xflag_Thunk_Zero t0 t1 t2) (xflag_Thunk_Sign t0 t1 t2) (xflag_Thunk_Even t0 t1 t2) t0 t1) false])
noncomputable def G34 : ASem | [.agg [Cell.bool t0, Cell.bool t1, Cell.int .u64 t2]], H => some ([.c (Cell.int .u64 (xflag_Thunk_Pack t0 t1 t2 H).1)], (xflag_Thunk_Pack t0 t1 t2 H).2) | _, _ => none
noncomputable def F34 : FnSem := natF G34
noncomputable def C34 : Ctx := { P := Try.prog, own := [1, 5], fns := L33, nt := 35, nums := N33, live := [(3, ⟨[3, 21, 22, 23], [], [3], []⟩)] }
theorem e34 : ∀ (R : Type) (t0 t1 : Bool) (t2 : Int) (H : Heap) (K : AV → Heap → Option R) (lp : Code → St → (AExit → St → Option R) → Option R), fnL C34 lp Try.f34.results.toList (bodyOf Try.f34) [TV.agg [Cell.bool t0, Cell.bool t1, Cell.int IntKind.u64 t2]] H K = lp (Code.l (Code.l (Code.r (Code.l (Code.r (Code.r (bodyOf Try.f34))))))) { env := [(3, AV.c (Cell.int IntKind.u64 514)), (21, AV.c (Cell.slice (some { id := List.length H, off := 0, len := 5, cap := 5, esz := 2 }))), (22, AV.c (Cell.int IntKind.i64 (slen (some { id := List.length H, off := 0, len := 5, cap := 5, esz := 2 })))), (23, AV.c (Cell.int IntKind.i64 0))], loc := [], heap := H ++ [Blk.row [Cell.bool t0, Cell.int IntKind.u64 1, Cell.bool (xflag_Thunk_Even t0 t1 t2), Cell.int IntKind.u64 4, Cell.bool (xflag_Thunk_Zero t0 t1 t2), Cell.int IntKind.u64 64, Cell.bool (xflag_Thunk_Sign t0 t1 t2), Cell.int IntKind.u64 128, Cell.bool t1, Cell.int IntKind.u64 2048] false] } (blockK 0 (seqK (execL C34 lp (Code.r (Code.r (Code.r (bodyOf Try.f34))))) (retA C34 [ResultVar.tmp 2] K))) := by intros; kernel_rfl
theorem b34_3 : ∀ (R : Type) (t3 : Int) (t21 : Option Sl) (t22 t23 : Int) (H : Heap) (K : AExit → St → Option R) (f : St → (AExit → St → Option R) → Option R) (lp : Code → St → (AExit → St → Option R) → Option R), execL C34 lp (Code.l (Code.l (Code.r (Code.l (Code.r (Code.r (bodyOf Try.f34))))))) { env := [(3, AV.c (Cell.int IntKind.u64 t3)), (21, AV.c (Cell.slice t21)), (22, AV.c (Cell.int IntKind.i64 t22)), (23, AV.c (Cell.int IntKind.i64 t23))], loc := [], heap := H } (loopK (keepOf C34.live (Code.l (Code.l (Code.r (Code.l (Code.r (Code.r (bodyOf Try.f34)))))))) f K) = bif decide (t23 < t22) then t21.bind fun v4 => bif inb t23 v4.len && v4.esz == 2 then (H.get v4.id (v4.off + t23.toNat * 2)).bind fun v3 => (H.get v4.id (v4.off + t23.toNat * 2 + 1)).bind fun v2 => v3.toBool.bind fun v1 => bif v1 then (Cell.toInt IntKind.u64 v2).bind fun v0 => f { env := [(3, AV.c (Cell.int IntKind.u64 (bor IntKind.u64 t3 v0))), (21, AV.c (Cell.slice t21)), (22, AV.c (Cell.int IntKind.i64 t22)), (23, AV.c (Cell.int IntKind.i64 (IntKind.i64.wrap (t23 + 1))))], loc := [], heap := H } K else f { env := [(3, AV.c (Cell.int IntKind.u64 t3)), (21, AV.c (Cell.slice t21)), (22, AV.c (Cell.int IntKind.i64 t22)), (23, AV.c (Cell.int IntKind.i64 (IntKind.i64.wrap (t23 + 1))))], loc := [], heap := H } K else none else K (AExit.exit 0) { env := [(3, AV.c (Cell.int IntKind.u64 t3))], loc := [], heap := H } := by intros; kernel_rfl
theorem step34 (R : Type) (H : Heap) (row : List Cell) (v : Int) (i : Nat) (b : Bool) (n : Int) (hi : i < 5) (h1 : row[2 * i]? = some (.bool b)) (h2 : row[2 * i + 1]? = some (.int .u64 n)) (K : AExit → St → Option R) (m : Nat) :
    loopN (exec C34 (Code.l (Code.l (Code.r (Code.l (Code.r (Code.r (bodyOf Try.f34)))))))) (keepOf C34.live (Code.l (Code.l (Code.r (Code.l (Code.r (Code.r (bodyOf Try.f34)))))))) (m + 1) { env := [(3, AV.c (Cell.int IntKind.u64 v)), (21, AV.c (Cell.slice (some ⟨H.length, 0, 5, 5, 2⟩))), (22, AV.c (Cell.int IntKind.i64 5)), (23, AV.c (Cell.int IntKind.i64 (i : Int)))], loc := [], heap := H ++ [.row row false] } K =
    loopN (exec C34 (Code.l (Code.l (Code.r (Code.l (Code.r (Code.r (bodyOf Try.f34)))))))) (keepOf C34.live (Code.l (Code.l (Code.r (Code.l (Code.r (Code.r (bodyOf Try.f34)))))))) m { env := [(3, AV.c (Cell.int IntKind.u64 (packOr b n v))), (21, AV.c (Cell.slice (some ⟨H.length, 0, 5, 5, 2⟩))), (22, AV.c (Cell.int IntKind.i64 5)), (23, AV.c (Cell.int IntKind.i64 ((i + 1 : Nat) : Int)))], loc := [], heap := H ++ [.row row false] } K := by
  have g : decide ((i : Int) < 5) = true := by simp; omega
  have g2 : IntKind.i64.wrap ((i : Int) + 1) = ((i + 1 : Nat) : Int) := by rw [wrap_i64 (by omega) (by omega)]; omega
  have g3 : inb (i : Int) 5 = true := by simp [inb]; omega
  have g4 : (2 == 2) = true := rfl
  have g5 : 0 + (i : Int).toNat * 2 = 2 * i := by simp; omega
  rw [loopN_step, b34_3, g, ct, Option.bind_some]
  simp only [g3, g4, g5, ct, Bool.and_true, get_pushed, h1, h2, Option.bind_some, g2]
  unfold packOr
  show (some b).bind _ = _
  rw [Option.bind_some]
  cases b <;> simp only [ct, cf] <;> rfl
theorem s34 (R : Type) (t0 : Bool) (t1 : Bool) (t2 : Int) (H : Heap) (K : AV → Heap → Option R) : fnL C34 (loops C34) Try.f34.results.toList (bodyOf Try.f34) [.agg [Cell.bool t0, Cell.bool t1, Cell.int .u64 t2]] H K = K (oneOf [.c (Cell.int .u64 (xflag_Thunk_Pack t0 t1 t2 H).1)]) (xflag_Thunk_Pack t0 t1 t2 H).2 := by
  rw [e34]
  unfold xflag_Thunk_Pack
  generalize xflag_Thunk_Zero t0 t1 t2 = z
  generalize xflag_Thunk_Sign t0 t1 t2 = s
  generalize xflag_Thunk_Even t0 t1 t2 = e
  obtain ⟨n, hn⟩ := loops_of C34 (Code.l (Code.l (Code.r (Code.l (Code.r (Code.r (bodyOf Try.f34))))))) { env := [(3, AV.c (Cell.int IntKind.u64 514)), (21, AV.c (Cell.slice (some ⟨H.length, 0, 5, 5, 2⟩))), (22, AV.c (Cell.int IntKind.i64 5)), (23, AV.c (Cell.int IntKind.i64 ((0 : Nat) : Int)))], loc := [], heap := H ++ [.row (packRow z s e t0 t1) false] } (blockK 0 (seqK (execL C34 (loops C34) (Code.r (Code.r (Code.r (bodyOf Try.f34))))) (retA C34 [ResultVar.tmp 2] K))) 5 (by decide)
  refine (show _ = _ from hn).trans ?_
  rw [show n + 5 + 1 = (n + 1) + 1 + 1 + 1 + 1 + 1 by omega]
  rw [step34 R H (packRow z s e t0 t1) _ 0 t0 1 (by decide) rfl rfl, step34 R H (packRow z s e t0 t1) _ 1 e 4 (by decide) rfl rfl, step34 R H (packRow z s e t0 t1) _ 2 z 64 (by decide) rfl rfl, step34 R H (packRow z s e t0 t1) _ 3 s 128 (by decide) rfl rfl, step34 R H (packRow z s e t0 t1) _ 4 t1 2048 (by decide) rfl rfl]
  have g : decide (((4 + 1 : Nat) : Int) < 5) = false := by decide
  rw [loopN_step, b34_3, g, cf]
  show _ = _
  kernel_rfl
theorem ok34 : FnOk Try.prog 34 F34 := by
  refine fn_ok (C := C34) (good33.env rfl) (good33.ctx rfl rfl rfl) (by kernel_rfl) Try.func34 (c := bodyOf Try.f34) (by kernel_rfl) (by kernel_rfl) (Nat.le_of_eq Try.ntmps34.symm) ?_
  intro R args H K r h
  unfold F34 natF G34 at h
  split at h
  · rw [fnA_eq, s34]; exact h
  · cases h
noncomputable def L34 := ((34, F34) : Nat × FnSem) :: L33
noncomputable def N34 : List Nat := (N33).filter (· != 34)
theorem good34 : Callees Try.prog L34 [] N34 := good33.cons ok34 (natF_nat _)
/-! R8_Thunk_Pack -/
def packAdd (b : Bool) (n v : Int) : Int := bif b then v + n else v
def packSum (z s e t0 t1 : Bool) : Int := packAdd t1 2048 (packAdd s 128 (packAdd z 64 (packAdd e 4 (packAdd t0 1 514))))
def R8_Thunk_Pack (t0 t1 : Bool) (t2 : Int) : Int := packSum (R8_Thunk_Zero t0 t1 t2) (R8_Thunk_Sign t0 t1 t2) (R8_Thunk_Even t0 t1 t2) t0 t1
noncomputable def G35 : List TV → Option (List TV) | [.agg [Cell.bool t0, Cell.bool t1, Cell.int .u64 t2]] => some [.c (Cell.int .u64 (R8_Thunk_Pack t0 t1 t2))] | _ => none
noncomputable def F35 : FnSem := numF G35
noncomputable def C35 : Ctx := { P := Try.prog, own := [1], fns := L34, nt := 25, nums := N34, live := [] }
theorem e35 : ∀ (R : Type) (t0 t1 : Bool) (t2 : Int) (H : Heap) (K : AV → Heap → Option R) (lp : Code → St → (AExit → St → Option R) → Option R), fnL C35 lp Try.f35.results.toList (bodyOf Try.f35) [TV.agg [Cell.bool t0, Cell.bool t1, Cell.int IntKind.u64 t2]] H K = bif t0 then bif R8_Thunk_Even t0 t1 t2 then bif R8_Thunk_Zero t0 t1 t2 then bif R8_Thunk_Sign t0 t1 t2 then bif t1 then K (AV.c (Cell.int IntKind.u64 2759)) H else K (AV.c (Cell.int IntKind.u64 711)) H else bif t1 then K (AV.c (Cell.int IntKind.u64 2631)) H else K (AV.c (Cell.int IntKind.u64 583)) H else bif R8_Thunk_Sign t0 t1 t2 then bif t1 then K (AV.c (Cell.int IntKind.u64 2695)) H else K (AV.c (Cell.int IntKind.u64 647)) H else bif t1 then K (AV.c (Cell.int IntKind.u64 2567)) H else K (AV.c (Cell.int IntKind.u64 519)) H else bif R8_Thunk_Zero t0 t1 t2 then bif R8_Thunk_Sign t0 t1 t2 then bif t1 then K (AV.c (Cell.int IntKind.u64 2755)) H else K (AV.c (Cell.int IntKind.u64 707)) H else bif t1 then K (AV.c (Cell.int IntKind.u64 2627)) H else K (AV.c (Cell.int IntKind.u64 579)) H else bif R8_Thunk_Sign t0 t1 t2 then bif t1 then K (AV.c (Cell.int IntKind.u64 2691)) H else K (AV.c (Cell.int IntKind.u64 643)) H else bif t1 then K (AV.c (Cell.int IntKind.u64 2563)) H else K (AV.c (Cell.int IntKind.u64 515)) H else bif R8_Thunk_Even t0 t1 t2 then bif R8_Thunk_Zero t0 t1 t2 then bif R8_Thunk_Sign t0 t1 t2 then bif t1 then K (AV.c (Cell.int IntKind.u64 2758)) H else K (AV.c (Cell.int IntKind.u64 710)) H else bif t1 then K (AV.c (Cell.int IntKind.u64 2630)) H else K (AV.c (Cell.int IntKind.u64 582)) H else bif R8_Thunk_Sign t0 t1 t2 then bif t1 then K (AV.c (Cell.int IntKind.u64 2694)) H else K (AV.c (Cell.int IntKind.u64 646)) H else bif t1 then K (AV.c (Cell.int IntKind.u64 2566)) H else K (AV.c (Cell.int IntKind.u64 518)) H else bif R8_Thunk_Zero t0 t1 t2 then bif R8_Thunk_Sign t0 t1 t2 then bif t1 then K (AV.c (Cell.int IntKind.u64 2754)) H else K (AV.c (Cell.int IntKind.u64 706)) H else bif t1 then K (AV.c (Cell.int IntKind.u64 2626)) H else K (AV.c (Cell.int IntKind.u64 578)) H else bif R8_Thunk_Sign t0 t1 t2 then bif t1 then K (AV.c (Cell.int IntKind.u64 2690)) H else K (AV.c (Cell.int IntKind.u64 642)) H else bif t1 then K (AV.c (Cell.int IntKind.u64 2562)) H else K (AV.c (Cell.int IntKind.u64 514)) H := by intros; kernel_rfl
theorem s35 (R : Type) (t0 : Bool) (t1 : Bool) (t2 : Int) (H : Heap) (K : AV → Heap → Option R) (lp : Code → St → (AExit → St → Option R) → Option R) : fnL C35 lp Try.f35.results.toList (bodyOf Try.f35) [.agg [Cell.bool t0, Cell.bool t1, Cell.int .u64 t2]] H K = K (oneOf [.c (Cell.int .u64 (R8_Thunk_Pack t0 t1 t2))]) H := by
  rw [e35]
  unfold R8_Thunk_Pack
  generalize R8_Thunk_Zero t0 t1 t2 = z
  generalize R8_Thunk_Sign t0 t1 t2 = s
  generalize R8_Thunk_Even t0 t1 t2 = e
  cases t0 <;> cases e <;> cases z <;> cases s <;> cases t1 <;> simp only [ct, cf] <;> rfl
theorem ok35 : FnOk Try.prog 35 F35 := by
  refine fn_ok (C := C35) (good34.env rfl) (good34.ctx rfl rfl rfl) (by kernel_rfl) Try.func35 (c := bodyOf Try.f35) (by kernel_rfl) (by kernel_rfl) (Nat.le_of_eq Try.ntmps35.symm) ?_
  intro R args H K r h
  unfold F35 numF G35 at h
  split at h
  · rw [fnA_eq, s35]; exact h
  · cases h
noncomputable def L35 := ((35, F35) : Nat × FnSem) :: L34
noncomputable def N35 : List Nat := 35 :: N34
theorem good35 : Callees Try.prog L35 [] N35 := good34.cons_num ok35 (numF_num _)
/-! R8_Thunk_Cond -/
def condL (z s e t0 t1 : Bool) : List Bool := [t1, t0, z, t0 || z, s, e, !(s == t1), z || !(s == t1)]
def R8_Thunk_Cond (t0 t1 : Bool) (t2 cc : Int) (H : Heap) : Bool × Heap :=
  bif decide (cc < 0) then (false, H) else bif decide (cc > 15) then (false, H)
  else (((condL (R8_Thunk_Zero t0 t1 t2) (R8_Thunk_Sign t0 t1 t2) (R8_Thunk_Even t0 t1 t2) t0 t1)[(cc.tdiv 2).toNat]?).getD false == (cc.tmod 2 == 0),
    H ++ [.row ((condL (R8_Thunk_Zero t0 t1 t2) (R8_Thunk_Sign t0 t1 t2) (R8_Thunk_Even t0 t1 t2) t0 t1).map .bool) false])
noncomputable def G36 : ASem | [.agg [Cell.bool t0, Cell.bool t1, Cell.int .u64 t2], .c (Cell.int .i64 cc)], H => some ([.c (Cell.bool (R8_Thunk_Cond t0 t1 t2 cc H).1)], (R8_Thunk_Cond t0 t1 t2 cc H).2) | _, _ => none
noncomputable def F36 : FnSem := natF G36
noncomputable def C36 : Ctx := { P := Try.prog, own := [2], fns := L35, nt := 52, nums := N35, live := [] }
theorem e36 : ∀ (R : Type) (t0 t1 : Bool) (t2 cc : Int) (H : Heap) (K : AV → Heap → Option R) (lp : Code → St → (AExit → St → Option R) → Option R), fnL C36 lp Try.f36.results.toList (bodyOf Try.f36) [TV.agg [Cell.bool t0, Cell.bool t1, Cell.int IntKind.u64 t2], TV.c (Cell.int IntKind.i64 cc)] H K = bif decide (cc < 0) then K (AV.c (Cell.bool false)) H else bif decide (cc > 15) then K (AV.c (Cell.bool false)) H else bif t0 then bif R8_Thunk_Zero t0 t1 t2 then bif inb (IntKind.i64.wrap (cc.tdiv 2)) 8 && 1 == 1 then ((H ++ [Blk.row [Cell.bool t1, Cell.bool t0, Cell.bool (R8_Thunk_Zero t0 t1 t2), Cell.bool true, Cell.bool (R8_Thunk_Sign t0 t1 t2), Cell.bool (R8_Thunk_Even t0 t1 t2), Cell.bool (bif false then R8_Thunk_Sign t0 t1 t2 == t1 else !R8_Thunk_Sign t0 t1 t2 == t1), Cell.bool true] false]).get (List.length H) (0 + (IntKind.i64.wrap (cc.tdiv 2)).toNat * 1)).bind fun v1 => v1.toBool.bind fun v0 => K (AV.c (Cell.bool (bif true then v0 == (cc.tmod 2 == 0) else !v0 == (cc.tmod 2 == 0)))) (H ++ [Blk.row [Cell.bool t1, Cell.bool t0, Cell.bool (R8_Thunk_Zero t0 t1 t2), Cell.bool true, Cell.bool (R8_Thunk_Sign t0 t1 t2), Cell.bool (R8_Thunk_Even t0 t1 t2), Cell.bool (bif false then R8_Thunk_Sign t0 t1 t2 == t1 else !R8_Thunk_Sign t0 t1 t2 == t1), Cell.bool true] false]) else none else bif inb (IntKind.i64.wrap (cc.tdiv 2)) 8 && 1 == 1 then ((H ++ [Blk.row [Cell.bool t1, Cell.bool t0, Cell.bool (R8_Thunk_Zero t0 t1 t2), Cell.bool true, Cell.bool (R8_Thunk_Sign t0 t1 t2), Cell.bool (R8_Thunk_Even t0 t1 t2), Cell.bool (bif false then R8_Thunk_Sign t0 t1 t2 == t1 else !R8_Thunk_Sign t0 t1 t2 == t1), Cell.bool (bif false then R8_Thunk_Sign t0 t1 t2 == t1 else !R8_Thunk_Sign t0 t1 t2 == t1)] false]).get (List.length H) (0 + (IntKind.i64.wrap (cc.tdiv 2)).toNat * 1)).bind fun v3 => v3.toBool.bind fun v2 => K (AV.c (Cell.bool (bif true then v2 == (cc.tmod 2 == 0) else !v2 == (cc.tmod 2 == 0)))) (H ++ [Blk.row [Cell.bool t1, Cell.bool t0, Cell.bool (R8_Thunk_Zero t0 t1 t2), Cell.bool true, Cell.bool (R8_Thunk_Sign t0 t1 t2), Cell.bool (R8_Thunk_Even t0 t1 t2), Cell.bool (bif false then R8_Thunk_Sign t0 t1 t2 == t1 else !R8_Thunk_Sign t0 t1 t2 == t1), Cell.bool (bif false then R8_Thunk_Sign t0 t1 t2 == t1 else !R8_Thunk_Sign t0 t1 t2 == t1)] false]) else none else bif R8_Thunk_Zero t0 t1 t2 then bif inb (IntKind.i64.wrap (cc.tdiv 2)) 8 && 1 == 1 then ((H ++ [Blk.row [Cell.bool t1, Cell.bool t0, Cell.bool (R8_Thunk_Zero t0 t1 t2), Cell.bool (R8_Thunk_Zero t0 t1 t2), Cell.bool (R8_Thunk_Sign t0 t1 t2), Cell.bool (R8_Thunk_Even t0 t1 t2), Cell.bool (bif false then R8_Thunk_Sign t0 t1 t2 == t1 else !R8_Thunk_Sign t0 t1 t2 == t1), Cell.bool true] false]).get (List.length H) (0 + (IntKind.i64.wrap (cc.tdiv 2)).toNat * 1)).bind fun v5 => v5.toBool.bind fun v4 => K (AV.c (Cell.bool (bif true then v4 == (cc.tmod 2 == 0) else !v4 == (cc.tmod 2 == 0)))) (H ++ [Blk.row [Cell.bool t1, Cell.bool t0, Cell.bool (R8_Thunk_Zero t0 t1 t2), Cell.bool (R8_Thunk_Zero t0 t1 t2), Cell.bool (R8_Thunk_Sign t0 t1 t2), Cell.bool (R8_Thunk_Even t0 t1 t2), Cell.bool (bif false then R8_Thunk_Sign t0 t1 t2 == t1 else !R8_Thunk_Sign t0 t1 t2 == t1), Cell.bool true] false]) else none else bif inb (IntKind.i64.wrap (cc.tdiv 2)) 8 && 1 == 1 then ((H ++ [Blk.row [Cell.bool t1, Cell.bool t0, Cell.bool (R8_Thunk_Zero t0 t1 t2), Cell.bool (R8_Thunk_Zero t0 t1 t2), Cell.bool (R8_Thunk_Sign t0 t1 t2), Cell.bool (R8_Thunk_Even t0 t1 t2), Cell.bool (bif false then R8_Thunk_Sign t0 t1 t2 == t1 else !R8_Thunk_Sign t0 t1 t2 == t1), Cell.bool (bif false then R8_Thunk_Sign t0 t1 t2 == t1 else !R8_Thunk_Sign t0 t1 t2 == t1)] false]).get (List.length H) (0 + (IntKind.i64.wrap (cc.tdiv 2)).toNat * 1)).bind fun v7 => v7.toBool.bind fun v6 => K (AV.c (Cell.bool (bif true then v6 == (cc.tmod 2 == 0) else !v6 == (cc.tmod 2 == 0)))) (H ++ [Blk.row [Cell.bool t1, Cell.bool t0, Cell.bool (R8_Thunk_Zero t0 t1 t2), Cell.bool (R8_Thunk_Zero t0 t1 t2), Cell.bool (R8_Thunk_Sign t0 t1 t2), Cell.bool (R8_Thunk_Even t0 t1 t2), Cell.bool (bif false then R8_Thunk_Sign t0 t1 t2 == t1 else !R8_Thunk_Sign t0 t1 t2 == t1), Cell.bool (bif false then R8_Thunk_Sign t0 t1 t2 == t1 else !R8_Thunk_Sign t0 t1 t2 == t1)] false]) else none := by intros; kernel_rfl
theorem s36 (R : Type) (t0 : Bool) (t1 : Bool) (t2 : Int) (cc : Int) (H : Heap) (K : AV → Heap → Option R) (lp : Code → St → (AExit → St → Option R) → Option R) : fnL C36 lp Try.f36.results.toList (bodyOf Try.f36) [.agg [Cell.bool t0, Cell.bool t1, Cell.int .u64 t2], .c (Cell.int .i64 cc)] H K = K (oneOf [.c (Cell.bool (R8_Thunk_Cond t0 t1 t2 cc H).1)]) (R8_Thunk_Cond t0 t1 t2 cc H).2 := by
  rw [e36]
  unfold R8_Thunk_Cond
  generalize R8_Thunk_Zero t0 t1 t2 = z
  generalize R8_Thunk_Sign t0 t1 t2 = s
  generalize R8_Thunk_Even t0 t1 t2 = e
  cases h1 : decide (cc < 0)
  · cases h2 : decide (cc > 15)
    · have hb : 0 ≤ cc ∧ cc ≤ 15 := by simp at h1 h2; omega
      have hd : cc.tdiv 2 = cc / 2 := Int.tdiv_eq_ediv_of_nonneg hb.1
      have hw : IntKind.i64.wrap (cc.tdiv 2) = cc.tdiv 2 := wrap_i64 (by rw [hd]; omega) (by rw [hd]; omega)
      have hi : inb (cc.tdiv 2) 8 = true := by rw [hd]; simp [inb]; omega
      have h8 : (cc.tdiv 2).toNat < 8 := by rw [hd]; omega
      have h11 : (1 == 1) = true := rfl
      simp only [hw, hi, cf, ct, h11, Bool.and_true, get_pushed, Nat.zero_add, Nat.mul_one]
      generalize (cc.tdiv 2).toNat = i at *
      have key : ∀ (l : List Bool) (L : List Cell), L = l.map .bool → i < l.length → (L[i]?).bind (fun v => v.toBool.bind fun b => K (AV.c (Cell.bool (b == (cc.tmod 2 == 0)))) (H ++ [.row L false])) = K (oneOf [.c (Cell.bool ((l[i]?).getD false == (cc.tmod 2 == 0)))]) (H ++ [.row (l.map .bool) false]) := by
        intro l L hL hl
        subst hL
        rw [List.getElem?_map, List.getElem?_eq_getElem hl]
        rfl
      cases t0 <;> cases z <;> simp only [ct, cf] <;> exact key (condL _ s e _ t1) _ rfl h8
    · rfl
  · rfl
theorem ok36 : FnOk Try.prog 36 F36 := by
  refine fn_ok (C := C36) (good35.env rfl) (good35.ctx rfl rfl rfl) (by kernel_rfl) Try.func36 (c := bodyOf Try.f36) (by kernel_rfl) (by kernel_rfl) (Nat.le_of_eq Try.ntmps36.symm) ?_
  intro R args H K r h
  unfold F36 natF G36 at h
  split at h
  · rw [fnA_eq, s36]; exact h
  · cases h
noncomputable def L36 := ((36, F36) : Nat × FnSem) :: L35
noncomputable def N36 : List Nat := (N35).filter (· != 36)
theorem good36 : Callees Try.prog L36 [] N36 := good35.cons ok36 (natF_nat _)
