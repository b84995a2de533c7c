/- Layer 11: registers that operations change by themselves: their parts. -/
import Derived.Test.YtlhcbcfphognlaaJuE
import Derived.Test.YtlhcbcfphognlaaAb32
import Derived.KernelRfl
namespace Go.Proofs.Ytlhcbcfphognlaa.Half
open Go Go.Proofs.Ytlhcbcfphognlaa Go.Proofs.Ytlhcbcfphognlaa.Ab
set_option linter.unusedVariables false
set_option linter.unusedSimpArgs false
set_option maxRecDepth 100000
noncomputable section
/-! 36: jumps_set_with -/
noncomputable def CC36 : Ctx := { P := Try.prog, own := [], fns := [], nt := 25, nums := [], live := [(2, ⟨[0, 7, 8, 9], [], [0], []⟩)] }
theorem good36 : Callees Try.prog CC36.fns [] CC36.nums := Callees.nil Try.prog
theorem hN36 : CtxNat CC36 := good36.ctx rfl rfl rfl
def enc36 (r : Int) : List TV := [.c (Cell.int .u32 (r))]
def dec36 : AV → Option (Int)
  | .c (Cell.int .u32 q0) => some (q0)
  | _ => none
theorem de36 (v : AV) (r : Int) (h : dec36 v = some r) : v = oneOf (enc36 r) := by
  unfold dec36 at h
  split at h
  · cases h; rfl
  · cases h
abbrev Ty36 := Int → (Option Sl) → Heap → Option (Int × Heap)
def sem36 (f : Ty36) : List TV → Heap → Option (Int × Heap)
  | [.c (Cell.int .u32 s), .c (Cell.slice regs)], H => f s regs H
  | _, _ => none
noncomputable def f36 : Ty36 := hide fun s regs H => fnA CC36 Try.f36.results.toList (bodyOf Try.f36) _ [.c (Cell.int .u32 s), .c (Cell.slice regs)] H (decF dec36)
theorem f36_eq (s : Int) (regs : (Option Sl)) (H : Heap) : f36 s regs H = fnA CC36 Try.f36.results.toList (bodyOf Try.f36) _ [.c (Cell.int .u32 s), .c (Cell.slice regs)] H (decF dec36) := by unfold f36; rw [hide_eq]
theorem f36_run (s : Int) (regs : (Option Sl)) (H : Heap) : f36 s regs H = fnL CC36 (lpD CC36) Try.f36.results.toList (bodyOf Try.f36) [.c (Cell.int .u32 s), .c (Cell.slice regs)] H (decF dec36) := (f36_eq ..).trans (fnA_lpD hN36 ..)
def S36_2 (t0 : Int) (t7 : (Option Sl)) (t8 : Int) (t9 : Int) (H : Heap) : St := ⟨[(0, .c (Cell.int .u32 t0)), (7, .c (Cell.slice t7)), (8, .c (Cell.int .i64 t8)), (9, .c (Cell.int .i64 t9))], [], H⟩
noncomputable def D36_2 (n : Nat) (t0 : Int) (t7 : (Option Sl)) (t8 : Int) (t9 : Int) (H : Heap) : Option (AExit × St) := loopN (exec CC36 (Code.l (Code.l (Code.r (Code.l (Code.r (bodyOf Try.f36))))))) (keepOf CC36.live (Code.l (Code.l (Code.r (Code.l (Code.r (bodyOf Try.f36))))))) n (S36_2 t0 t7 t8 t9 H) retD
noncomputable def LL36_2 (t0 : Int) (t7 : (Option Sl)) (t8 : Int) (t9 : Int) (H : Heap) : Option (AExit × St) := loopsD CC36 (Code.l (Code.l (Code.r (Code.l (Code.r (bodyOf Try.f36)))))) (S36_2 t0 t7 t8 t9 H)
theorem LL36_2_of (m : Nat) (hm : m < 18446744073709551616) (t0 : Int) (t7 : (Option Sl)) (t8 : Int) (t9 : Int) (H : Heap) : ∃ n, LL36_2 t0 t7 t8 t9 H = D36_2 (n + m + 1) t0 t7 t8 t9 H := loopsD_of _ _ _ m hm
def X36_2 (x0 : Int) (H : Heap) : St := { env := [(0, AV.c (Cell.int IntKind.u32 x0))], loc := [], heap := H }
noncomputable def J36_2 : AExit × St → Option (Int × Heap) := fun p => blockK 0 (seqK (execL CC36 (lpD CC36) (Code.r (Code.r (bodyOf Try.f36)))) (retA CC36 [ResultVar.tmp 4] (decF dec36))) p.fst p.snd
theorem D36_2_s : ∀ (n : Nat) (t0 : Int) (t7 : Option Sl) (t8 t9 : Int) (H : Heap), D36_2 (n + 1) t0 t7 t8 t9 H = bif decide (t9 < t8) then t7.bind fun v2 => bif inb t9 v2.len && v2.esz == 1 then (H.get v2.id (v2.off + t9.toNat * 1)).bind fun v1 => (Cell.toInt IntKind.i64 v1).bind fun v0 => bif decide (v0 ≥ 0) then bif decide (v0 < 16) then bif decide (v0 < 0) then none else D36_2 n (bor IntKind.u32 t0 (ishl IntKind.u32 1 v0)) t7 t8 (IntKind.i64.wrap (t9 + 1)) H else D36_2 n t0 t7 t8 (IntKind.i64.wrap (t9 + 1)) H else D36_2 n t0 t7 t8 (IntKind.i64.wrap (t9 + 1)) H else none else some (AExit.exit 0, X36_2 t0 H) := by intros; exact (loopN_stepD hN36 _ _ _ _).trans (by kernel_rfl)
theorem q36 : ∀ (s : Int) (regs : Option Sl) (H : Heap), f36 s regs H = (LL36_2 s regs (slen regs) 0 H).bind J36_2 := by intros; exact (f36_run ..).trans (by kernel_rfl)
theorem J36_2_0 : ∀ (x0 : Int) (H : Heap), J36_2 (AExit.exit 0, X36_2 x0 H) = some (x0, H) := by intros; kernel_rfl
theorem ok36 : FnOk Try.prog 36 (specF enc36 (sem36 f36)) := by
  refine spec_ok (C := CC36) good36 rfl rfl rfl (by kernel_rfl) Try.func36 (c := bodyOf Try.f36) (by kernel_rfl) (by kernel_rfl) (Nat.le_of_eq Try.ntmps36.symm) dec36 enc36 de36 _ ?_
  intro args H q h
  unfold sem36 at h
  split at h
  · rw [← f36_eq]; exact h
  · cases h
abbrev TyR36 := Int → (Option Sl) → Heap → Option Int
def semR36 (f : TyR36) : List TV → Heap → Option Int
  | [.c (Cell.int .u32 s), .c (Cell.slice regs)], H => f s regs H
  | _, _ => none
noncomputable def g36 : TyR36 := hide fun s regs H => readOf (f36 s regs H) H
theorem g36_eq (s : Int) (regs : (Option Sl)) (H : Heap) : g36 s regs H = readOf (f36 s regs H) H := by unfold g36; rw [hide_eq]
theorem okR36 : FnOk Try.prog 36 (readF enc36 (semR36 g36)) := read_ok ok36 fun args H r h => by
  unfold semR36 at h
  split at h
  · rw [g36_eq] at h; exact readOf_some h
  · cases h
/-- Some registers more. -/
def withL (s : Int) (ks : List Int) : Int := ks.foldl (fun s r => bif decide (r ≥ 0) && decide (r < 16) then bor .u32 s (ishl .u32 1 r) else s) s
def EI (x : Int) : List Cell := [Cell.int .i64 x]
theorem loop36 (sl : Option Sl) (ks : List Int) (hk : ks.length ≤ 3) (H : Heap) (h : RS 1 EI H sl ks) : ∀ (m n i : Nat) (s : Int), i + m = ks.length →
    D36_2 (n + m + 1) s sl (ks.length : Int) (i : Int) H = some (.exit 0, X36_2 (withL s (ks.drop i)) H)
  | 0, n, i, s, hm => by
    have g : decide ((i : Int) < (ks.length : Int)) = false := by simp; omega
    rw [D36_2_s, g, cf, List.drop_eq_nil_of_le (by omega)]
    rfl
  | m + 1, n, i, s, hm => by
    have g : decide ((i : Int) < (ks.length : Int)) = true := by simp; omega
    have hi : i < ks.length := by omega
    obtain ⟨q, rfl, g2, g4⟩ := h.idx1 (List.getElem?_eq_getElem hi) (e := fun x => Cell.int .i64 x) (fun _ => rfl)
    have g5 : IntKind.i64.wrap ((i : Int) + 1) = ((i + 1 : Nat) : Int) := by rw [wrap_i64 (by omega) (by omega)]; rfl
    have ih := fun s => loop36 (some q) ks hk H h m n (i + 1) s (by omega)
    rw [show n + (m + 1) + 1 = (n + m + 1) + 1 by omega, D36_2_s, g]
    simp only [ct, Ab.bs, g2, g4, tInt, g5]
    rw [List.drop_eq_getElem_cons hi]
    have e : withL s (ks[i] :: ks.drop (i + 1)) = withL (bif decide (ks[i] ≥ 0) && decide (ks[i] < 16) then bor .u32 s (ishl .u32 1 ks[i]) else s) (ks.drop (i + 1)) := rfl
    rw [e]
    by_cases h0 : ks[i] ≥ 0
    · by_cases h1 : ks[i] < 16
      · rw [decide_eq_true h0, decide_eq_true h1, ct, ct, show decide (ks[i] < 0) = false by simp; omega, cf, Bool.and_self, ct]
        exact ih _
      · rw [decide_eq_true h0, decide_eq_false h1, ct, cf, Bool.and_false, cf]
        exact ih _
    · rw [decide_eq_false h0, cf, Bool.false_and, cf]
      exact ih _
theorem g36_rs (s : Int) (sl : Option Sl) (ks : List Int) (hk : ks.length ≤ 3) (H : Heap) (h : RS 1 EI H sl ks) : g36 s sl H = some (withL s ks) := by
  rw [g36_eq]
  refine readOf_eq ?_
  rw [q36]
  obtain ⟨n, e⟩ := LL36_2_of ks.length (by omega) s sl (slen sl) 0 H
  rw [e, h.slenEq, show (0 : Int) = ((0 : Nat) : Int) from rfl, loop36 sl ks hk H h ks.length n 0 s (by omega), Ab.bs, J36_2_0, List.drop_zero]
theorem rsI (H : Heap) (b : Bool) (ks : List Int) (id : Nat) (hid : H[id]? = some (.row (ks.map (Cell.int .i64)) b)) : RS 1 EI H (some { id := id, off := 0, len := ks.length, cap := ks.length, esz := 1 }) ks := by
  refine ⟨rfl, rfl, Nat.le_refl _, fun j c e => ?_⟩
  rw [Nat.zero_add, get_of hid]
  have : ∀ l : List Int, l.flatMap EI = l.map (Cell.int .i64) := fun l => by
    induction l with
    | nil => rfl
    | cons a l ih => rw [List.flatMap_cons, ih]; rfl
  rw [← this]; exact e
theorem g36_1 (s a : Int) (H : Heap) : g36 s (some { id := H.length, off := 0, len := 1, cap := 1, esz := 1 }) (H ++ [Blk.row [Cell.int .i64 a] false]) = some (withL s [a]) := g36_rs s _ [a] (by simp) _ (rsI _ false [a] _ (push_get _ _))
theorem g36_2 (s a b : Int) (H : Heap) : g36 s (some { id := H.length, off := 0, len := 2, cap := 2, esz := 1 }) (H ++ [Blk.row [Cell.int .i64 a, Cell.int .i64 b] false]) = some (withL s [a, b]) := g36_rs s _ [a, b] (by simp) _ (rsI _ false [a, b] _ (push_get _ _))
theorem g36_3 (s a b c : Int) (H : Heap) : g36 s (some { id := H.length, off := 0, len := 3, cap := 3, esz := 1 }) (H ++ [Blk.row [Cell.int .i64 a, Cell.int .i64 b, Cell.int .i64 c] false]) = some (withL s [a, b, c]) := g36_rs s _ [a, b, c] (by simp) _ (rsI _ false [a, b, c] _ (push_get _ _))
open Classical in
/-- The function by the cells it reads. -/
noncomputable def hwith (s : Int) (sl : Option Sl) (H : Heap) : Option Int :=
  if h : ∃ ks : List Int, ks.length ≤ 3 ∧ RS 1 EI H sl ks then some (withL s h.choose) else none
theorem hwith_rs (s : Int) (sl : Option Sl) (ks : List Int) (hk : ks.length ≤ 3) (H : Heap) (h : RS 1 EI H sl ks) : hwith s sl H = some (withL s ks) := by
  have ex : ∃ ks : List Int, ks.length ≤ 3 ∧ RS 1 EI H sl ks := ⟨ks, hk, h⟩
  unfold hwith
  rw [dif_pos ex, ← g36_rs s sl _ ex.choose_spec.1 H ex.choose_spec.2, g36_rs s sl ks hk H h]
theorem RS.of_same {H H2 : Heap} {sl : Option Sl} {ks : List Int} (h : ∀ q, sl = some q → H2[q.id]? = H[q.id]?) (r : RS 1 EI H sl ks) : RS 1 EI H2 sl ks := by
  cases sl with
  | none => exact r
  | some q =>
    have := h q rfl
    simp only [RS, RC, Heap.get, this] at r ⊢
    exact r
theorem hwith_sl {s : Int} {sl : Option Sl} {H H2 : Heap} (h : ∀ q, sl = some q → H2[q.id]? = H[q.id]?) : hwith s sl H2 = hwith s sl H := by
  have e : (∃ ks : List Int, ks.length ≤ 3 ∧ RS 1 EI H2 sl ks) = (∃ ks : List Int, ks.length ≤ 3 ∧ RS 1 EI H sl ks) := by
    apply propext
    exact ⟨fun ⟨ks, a, b⟩ => ⟨ks, a, RS.of_same (fun q hq => (h q hq).symm) b⟩, fun ⟨ks, a, b⟩ => ⟨ks, a, RS.of_same h b⟩⟩
  by_cases ex : ∃ ks : List Int, ks.length ≤ 3 ∧ RS 1 EI H sl ks
  · obtain ⟨ks, a, b⟩ := ex
    rw [hwith_rs s sl ks a H b, hwith_rs s sl ks a H2 (RS.of_same h b)]
  · unfold hwith
    rw [dif_neg ex, dif_neg (by rw [e]; exact ex)]
theorem hwith_some {s : Int} {sl : Option Sl} {H : Heap} {r : Int} (h : hwith s sl H = some r) : g36 s sl H = some r := by
  by_cases ex : ∃ ks : List Int, ks.length ≤ 3 ∧ RS 1 EI H sl ks
  · obtain ⟨ks, a, b⟩ := ex
    rw [hwith_rs s sl ks a H b] at h
    rw [g36_rs s sl ks a H b]; exact h
  · unfold hwith at h
    rw [dif_neg ex] at h
    cases h
theorem ok36h : FnOk Try.prog 36 (readF enc36 (semR36 g36)) := okR36
theorem sem36h {args : List TV} {H : Heap} {r : Int} (h : semR36 hwith args H = some r) : semR36 g36 args H = some r := by
  unfold semR36 at h ⊢
  split at h
  · exact hwith_some h
  · cases h
/-! 37: jumps_half -/
noncomputable def CC37 : Ctx := { P := Try.prog, own := [1], fns := [(36, readF enc36 (semR36 g36))], nt := 8, pures := [36], nums := [], live := [] }
theorem good37 : Callees Try.prog CC37.fns CC37.pures CC37.nums := (Callees.nil Try.prog).cons_pure okR36 (readF_pure _ _)
theorem hN37 : CtxNat CC37 := good37.ctx rfl rfl rfl
def enc37 (r : Int) : List TV := [.c (Cell.int .u32 (r))]
def dec37 : AV → Option (Int)
  | .c (Cell.int .u32 q0) => some (q0)
  | _ => none
theorem de37 (v : AV) (r : Int) (h : dec37 v = some r) : v = oneOf (enc37 r) := by
  unfold dec37 at h
  split at h
  · cases h; rfl
  · cases h
abbrev Ty37 := Int → Int → Int → Int → Int → Int → Int → Int → Int → Int → Int → Int → Int → Int → Int → Int → Int → Bool → Bool → Int → Heap → Option (Int × Heap)
def sem37 (f : Ty37) : List TV → Heap → Option (Int × Heap)
  | [.agg [Cell.int .i64 i0, Cell.int .i64 i1, Cell.int .i64 i2, Cell.int .i64 i3, Cell.int .i64 i4, Cell.int .i64 i5, Cell.int .i64 i6, Cell.int .i64 i7, Cell.int .i64 i8, Cell.int .i64 i9, Cell.int .i64 i10, Cell.int .i64 i11, Cell.int .i64 i12, Cell.int .i64 i13, Cell.int .i64 i14, Cell.int .i64 i15, Cell.int .i64 i16, Cell.bool i17, Cell.bool i18, Cell.int .i64 i19]], H => f i0 i1 i2 i3 i4 i5 i6 i7 i8 i9 i10 i11 i12 i13 i14 i15 i16 i17 i18 i19 H
  | _, _ => none
noncomputable def f37 : Ty37 := hide fun i0 i1 i2 i3 i4 i5 i6 i7 i8 i9 i10 i11 i12 i13 i14 i15 i16 i17 i18 i19 H => fnA CC37 Try.f37.results.toList (bodyOf Try.f37) _ [.agg [Cell.int .i64 i0, Cell.int .i64 i1, Cell.int .i64 i2, Cell.int .i64 i3, Cell.int .i64 i4, Cell.int .i64 i5, Cell.int .i64 i6, Cell.int .i64 i7, Cell.int .i64 i8, Cell.int .i64 i9, Cell.int .i64 i10, Cell.int .i64 i11, Cell.int .i64 i12, Cell.int .i64 i13, Cell.int .i64 i14, Cell.int .i64 i15, Cell.int .i64 i16, Cell.bool i17, Cell.bool i18, Cell.int .i64 i19]] H (decF dec37)
theorem f37_eq (i0 : Int) (i1 : Int) (i2 : Int) (i3 : Int) (i4 : Int) (i5 : Int) (i6 : Int) (i7 : Int) (i8 : Int) (i9 : Int) (i10 : Int) (i11 : Int) (i12 : Int) (i13 : Int) (i14 : Int) (i15 : Int) (i16 : Int) (i17 : Bool) (i18 : Bool) (i19 : Int) (H : Heap) : f37 i0 i1 i2 i3 i4 i5 i6 i7 i8 i9 i10 i11 i12 i13 i14 i15 i16 i17 i18 i19 H = fnA CC37 Try.f37.results.toList (bodyOf Try.f37) _ [.agg [Cell.int .i64 i0, Cell.int .i64 i1, Cell.int .i64 i2, Cell.int .i64 i3, Cell.int .i64 i4, Cell.int .i64 i5, Cell.int .i64 i6, Cell.int .i64 i7, Cell.int .i64 i8, Cell.int .i64 i9, Cell.int .i64 i10, Cell.int .i64 i11, Cell.int .i64 i12, Cell.int .i64 i13, Cell.int .i64 i14, Cell.int .i64 i15, Cell.int .i64 i16, Cell.bool i17, Cell.bool i18, Cell.int .i64 i19]] H (decF dec37) := by unfold f37; rw [hide_eq]
theorem f37_run (i0 : Int) (i1 : Int) (i2 : Int) (i3 : Int) (i4 : Int) (i5 : Int) (i6 : Int) (i7 : Int) (i8 : Int) (i9 : Int) (i10 : Int) (i11 : Int) (i12 : Int) (i13 : Int) (i14 : Int) (i15 : Int) (i16 : Int) (i17 : Bool) (i18 : Bool) (i19 : Int) (H : Heap) : f37 i0 i1 i2 i3 i4 i5 i6 i7 i8 i9 i10 i11 i12 i13 i14 i15 i16 i17 i18 i19 H = fnL CC37 (lpD CC37) Try.f37.results.toList (bodyOf Try.f37) [.agg [Cell.int .i64 i0, Cell.int .i64 i1, Cell.int .i64 i2, Cell.int .i64 i3, Cell.int .i64 i4, Cell.int .i64 i5, Cell.int .i64 i6, Cell.int .i64 i7, Cell.int .i64 i8, Cell.int .i64 i9, Cell.int .i64 i10, Cell.int .i64 i11, Cell.int .i64 i12, Cell.int .i64 i13, Cell.int .i64 i14, Cell.int .i64 i15, Cell.int .i64 i16, Cell.bool i17, Cell.bool i18, Cell.int .i64 i19]] H (decF dec37) := (f37_eq ..).trans (fnA_lpD hN37 ..)
theorem q37 : ∀ (i0 i1 i2 i3 i4 i5 i6 i7 i8 i9 i10 i11 i12 i13 i14 i15 i16 : Int) (i17 i18 : Bool) (i19 : Int) (H : Heap), f37 i0 i1 i2 i3 i4 i5 i6 i7 i8 i9 i10 i11 i12 i13 i14 i15 i16 i17 i18 i19 H = bif i1 == 2 then (semR36 g36 ([] ++ [TV.c (Cell.int IntKind.u32 0), TV.c (Cell.slice (some { id := List.length H, off := 0, len := 1, cap := 1, esz := 1 }))] ++ []) (H ++ [Blk.row [Cell.int IntKind.i64 2] false])).bind fun v0 => some (v0, H ++ [Blk.row [Cell.int IntKind.i64 2] false]) else some (0, H) := by intros; exact (f37_run ..).trans (by kernel_rfl)
theorem ok37 : FnOk Try.prog 37 (specF enc37 (sem37 f37)) := by
  refine spec_ok (C := CC37) good37 rfl rfl rfl (by kernel_rfl) Try.func37 (c := bodyOf Try.f37) (by kernel_rfl) (by kernel_rfl) (Nat.le_of_eq Try.ntmps37.symm) dec37 enc37 de37 _ ?_
  intro args H q h
  unfold sem37 at h
  split at h
  · rw [← f37_eq]; exact h
  · cases h
/-! 38: jumps_wide -/
noncomputable def CC38 : Ctx := { P := Try.prog, own := [1], fns := [(36, readF enc36 (semR36 g36))], nt := 10, pures := [36], nums := [], live := [] }
theorem good38 : Callees Try.prog CC38.fns CC38.pures CC38.nums := (Callees.nil Try.prog).cons_pure okR36 (readF_pure _ _)
theorem hN38 : CtxNat CC38 := good38.ctx rfl rfl rfl
def enc38 (r : Int) : List TV := [.c (Cell.int .u32 (r))]
def dec38 : AV → Option (Int)
  | .c (Cell.int .u32 q0) => some (q0)
  | _ => none
theorem de38 (v : AV) (r : Int) (h : dec38 v = some r) : v = oneOf (enc38 r) := by
  unfold dec38 at h
  split at h
  · cases h; rfl
  · cases h
abbrev Ty38 := Int → Int → Int → Int → Int → Int → Int → Int → Int → Int → Int → Int → Int → Int → Int → Int → Int → Bool → Bool → Int → Heap → Option (Int × Heap)
def sem38 (f : Ty38) : List TV → Heap → Option (Int × Heap)
  | [.agg [Cell.int .i64 i0, Cell.int .i64 i1, Cell.int .i64 i2, Cell.int .i64 i3, Cell.int .i64 i4, Cell.int .i64 i5, Cell.int .i64 i6, Cell.int .i64 i7, Cell.int .i64 i8, Cell.int .i64 i9, Cell.int .i64 i10, Cell.int .i64 i11, Cell.int .i64 i12, Cell.int .i64 i13, Cell.int .i64 i14, Cell.int .i64 i15, Cell.int .i64 i16, Cell.bool i17, Cell.bool i18, Cell.int .i64 i19]], H => f i0 i1 i2 i3 i4 i5 i6 i7 i8 i9 i10 i11 i12 i13 i14 i15 i16 i17 i18 i19 H
  | _, _ => none
noncomputable def f38 : Ty38 := hide fun i0 i1 i2 i3 i4 i5 i6 i7 i8 i9 i10 i11 i12 i13 i14 i15 i16 i17 i18 i19 H => fnA CC38 Try.f38.results.toList (bodyOf Try.f38) _ [.agg [Cell.int .i64 i0, Cell.int .i64 i1, Cell.int .i64 i2, Cell.int .i64 i3, Cell.int .i64 i4, Cell.int .i64 i5, Cell.int .i64 i6, Cell.int .i64 i7, Cell.int .i64 i8, Cell.int .i64 i9, Cell.int .i64 i10, Cell.int .i64 i11, Cell.int .i64 i12, Cell.int .i64 i13, Cell.int .i64 i14, Cell.int .i64 i15, Cell.int .i64 i16, Cell.bool i17, Cell.bool i18, Cell.int .i64 i19]] H (decF dec38)
theorem f38_eq (i0 : Int) (i1 : Int) (i2 : Int) (i3 : Int) (i4 : Int) (i5 : Int) (i6 : Int) (i7 : Int) (i8 : Int) (i9 : Int) (i10 : Int) (i11 : Int) (i12 : Int) (i13 : Int) (i14 : Int) (i15 : Int) (i16 : Int) (i17 : Bool) (i18 : Bool) (i19 : Int) (H : Heap) : f38 i0 i1 i2 i3 i4 i5 i6 i7 i8 i9 i10 i11 i12 i13 i14 i15 i16 i17 i18 i19 H = fnA CC38 Try.f38.results.toList (bodyOf Try.f38) _ [.agg [Cell.int .i64 i0, Cell.int .i64 i1, Cell.int .i64 i2, Cell.int .i64 i3, Cell.int .i64 i4, Cell.int .i64 i5, Cell.int .i64 i6, Cell.int .i64 i7, Cell.int .i64 i8, Cell.int .i64 i9, Cell.int .i64 i10, Cell.int .i64 i11, Cell.int .i64 i12, Cell.int .i64 i13, Cell.int .i64 i14, Cell.int .i64 i15, Cell.int .i64 i16, Cell.bool i17, Cell.bool i18, Cell.int .i64 i19]] H (decF dec38) := by unfold f38; rw [hide_eq]
theorem f38_run (i0 : Int) (i1 : Int) (i2 : Int) (i3 : Int) (i4 : Int) (i5 : Int) (i6 : Int) (i7 : Int) (i8 : Int) (i9 : Int) (i10 : Int) (i11 : Int) (i12 : Int) (i13 : Int) (i14 : Int) (i15 : Int) (i16 : Int) (i17 : Bool) (i18 : Bool) (i19 : Int) (H : Heap) : f38 i0 i1 i2 i3 i4 i5 i6 i7 i8 i9 i10 i11 i12 i13 i14 i15 i16 i17 i18 i19 H = fnL CC38 (lpD CC38) Try.f38.results.toList (bodyOf Try.f38) [.agg [Cell.int .i64 i0, Cell.int .i64 i1, Cell.int .i64 i2, Cell.int .i64 i3, Cell.int .i64 i4, Cell.int .i64 i5, Cell.int .i64 i6, Cell.int .i64 i7, Cell.int .i64 i8, Cell.int .i64 i9, Cell.int .i64 i10, Cell.int .i64 i11, Cell.int .i64 i12, Cell.int .i64 i13, Cell.int .i64 i14, Cell.int .i64 i15, Cell.int .i64 i16, Cell.bool i17, Cell.bool i18, Cell.int .i64 i19]] H (decF dec38) := (f38_eq ..).trans (fnA_lpD hN38 ..)
theorem q38 : ∀ (i0 i1 i2 i3 i4 i5 i6 i7 i8 i9 i10 i11 i12 i13 i14 i15 i16 : Int) (i17 i18 : Bool) (i19 : Int) (H : Heap), f38 i0 i1 i2 i3 i4 i5 i6 i7 i8 i9 i10 i11 i12 i13 i14 i15 i16 i17 i18 i19 H = bif i1 == 1 then (semR36 g36 ([] ++ [TV.c (Cell.int IntKind.u32 0), TV.c (Cell.slice (some { id := List.length H, off := 0, len := 1, cap := 1, esz := 1 }))] ++ []) (H ++ [Blk.row [Cell.int IntKind.i64 0] false])).bind fun v0 => some (v0, H ++ [Blk.row [Cell.int IntKind.i64 0] false]) else (semR36 g36 ([] ++ [TV.c (Cell.int IntKind.u32 0), TV.c (Cell.slice (some { id := List.length H, off := 0, len := 2, cap := 2, esz := 1 }))] ++ []) (H ++ [Blk.row [Cell.int IntKind.i64 0, Cell.int IntKind.i64 2] false])).bind fun v1 => some (v1, H ++ [Blk.row [Cell.int IntKind.i64 0, Cell.int IntKind.i64 2] false]) := by intros; exact (f38_run ..).trans (by kernel_rfl)
theorem ok38 : FnOk Try.prog 38 (specF enc38 (sem38 f38)) := by
  refine spec_ok (C := CC38) good38 rfl rfl rfl (by kernel_rfl) Try.func38 (c := bodyOf Try.f38) (by kernel_rfl) (by kernel_rfl) (Nat.le_of_eq Try.ntmps38.symm) dec38 enc38 de38 _ ?_
  intro args H q h
  unfold sem38 at h
  split at h
  · rw [← f38_eq]; exact h
  · cases h
/-! 39: jumps_strings -/
noncomputable def CC39 : Ctx := { P := Try.prog, own := [1], fns := [(36, readF enc36 (semR36 g36))], nt := 28, pures := [36], nums := [], live := [] }
theorem good39 : Callees Try.prog CC39.fns CC39.pures CC39.nums := (Callees.nil Try.prog).cons_pure okR36 (readF_pure _ _)
theorem hN39 : CtxNat CC39 := good39.ctx rfl rfl rfl
def enc39 (r : Int × Int) : List TV := [.c (Cell.int .u32 (r.1)), .c (Cell.int .u32 (r.2))]
def dec39 : AV → Option (Int × Int)
  | .tup [.c (Cell.int .u32 q0), .c (Cell.int .u32 q1)] => some (q0, q1)
  | _ => none
theorem de39 (v : AV) (r : Int × Int) (h : dec39 v = some r) : v = oneOf (enc39 r) := by
  unfold dec39 at h
  split at h
  · cases h; rfl
  · cases h
abbrev Ty39 := Int → Int → Int → Int → Int → Int → Int → Int → Int → Int → Int → Int → Int → Int → Int → Int → Int → Bool → Bool → Int → Heap → Option ((Int × Int) × Heap)
def sem39 (f : Ty39) : List TV → Heap → Option ((Int × Int) × Heap)
  | [.agg [Cell.int .i64 i0, Cell.int .i64 i1, Cell.int .i64 i2, Cell.int .i64 i3, Cell.int .i64 i4, Cell.int .i64 i5, Cell.int .i64 i6, Cell.int .i64 i7, Cell.int .i64 i8, Cell.int .i64 i9, Cell.int .i64 i10, Cell.int .i64 i11, Cell.int .i64 i12, Cell.int .i64 i13, Cell.int .i64 i14, Cell.int .i64 i15, Cell.int .i64 i16, Cell.bool i17, Cell.bool i18, Cell.int .i64 i19]], H => f i0 i1 i2 i3 i4 i5 i6 i7 i8 i9 i10 i11 i12 i13 i14 i15 i16 i17 i18 i19 H
  | _, _ => none
noncomputable def f39 : Ty39 := hide fun i0 i1 i2 i3 i4 i5 i6 i7 i8 i9 i10 i11 i12 i13 i14 i15 i16 i17 i18 i19 H => fnA CC39 Try.f39.results.toList (bodyOf Try.f39) _ [.agg [Cell.int .i64 i0, Cell.int .i64 i1, Cell.int .i64 i2, Cell.int .i64 i3, Cell.int .i64 i4, Cell.int .i64 i5, Cell.int .i64 i6, Cell.int .i64 i7, Cell.int .i64 i8, Cell.int .i64 i9, Cell.int .i64 i10, Cell.int .i64 i11, Cell.int .i64 i12, Cell.int .i64 i13, Cell.int .i64 i14, Cell.int .i64 i15, Cell.int .i64 i16, Cell.bool i17, Cell.bool i18, Cell.int .i64 i19]] H (decF dec39)
theorem f39_eq (i0 : Int) (i1 : Int) (i2 : Int) (i3 : Int) (i4 : Int) (i5 : Int) (i6 : Int) (i7 : Int) (i8 : Int) (i9 : Int) (i10 : Int) (i11 : Int) (i12 : Int) (i13 : Int) (i14 : Int) (i15 : Int) (i16 : Int) (i17 : Bool) (i18 : Bool) (i19 : Int) (H : Heap) : f39 i0 i1 i2 i3 i4 i5 i6 i7 i8 i9 i10 i11 i12 i13 i14 i15 i16 i17 i18 i19 H = fnA CC39 Try.f39.results.toList (bodyOf Try.f39) _ [.agg [Cell.int .i64 i0, Cell.int .i64 i1, Cell.int .i64 i2, Cell.int .i64 i3, Cell.int .i64 i4, Cell.int .i64 i5, Cell.int .i64 i6, Cell.int .i64 i7, Cell.int .i64 i8, Cell.int .i64 i9, Cell.int .i64 i10, Cell.int .i64 i11, Cell.int .i64 i12, Cell.int .i64 i13, Cell.int .i64 i14, Cell.int .i64 i15, Cell.int .i64 i16, Cell.bool i17, Cell.bool i18, Cell.int .i64 i19]] H (decF dec39) := by unfold f39; rw [hide_eq]
theorem f39_run (i0 : Int) (i1 : Int) (i2 : Int) (i3 : Int) (i4 : Int) (i5 : Int) (i6 : Int) (i7 : Int) (i8 : Int) (i9 : Int) (i10 : Int) (i11 : Int) (i12 : Int) (i13 : Int) (i14 : Int) (i15 : Int) (i16 : Int) (i17 : Bool) (i18 : Bool) (i19 : Int) (H : Heap) : f39 i0 i1 i2 i3 i4 i5 i6 i7 i8 i9 i10 i11 i12 i13 i14 i15 i16 i17 i18 i19 H = fnL CC39 (lpD CC39) Try.f39.results.toList (bodyOf Try.f39) [.agg [Cell.int .i64 i0, Cell.int .i64 i1, Cell.int .i64 i2, Cell.int .i64 i3, Cell.int .i64 i4, Cell.int .i64 i5, Cell.int .i64 i6, Cell.int .i64 i7, Cell.int .i64 i8, Cell.int .i64 i9, Cell.int .i64 i10, Cell.int .i64 i11, Cell.int .i64 i12, Cell.int .i64 i13, Cell.int .i64 i14, Cell.int .i64 i15, Cell.int .i64 i16, Cell.bool i17, Cell.bool i18, Cell.int .i64 i19]] H (decF dec39) := (f39_eq ..).trans (fnA_lpD hN39 ..)
theorem q39 : ∀ (i0 i1 i2 i3 i4 i5 i6 i7 i8 i9 i10 i11 i12 i13 i14 i15 i16 : Int) (i17 i18 : Bool) (i19 : Int) (H : Heap), f39 i0 i1 i2 i3 i4 i5 i6 i7 i8 i9 i10 i11 i12 i13 i14 i15 i16 i17 i18 i19 H = (semR36 g36 ([] ++ [TV.c (Cell.int IntKind.u32 0), TV.c (Cell.slice (some { id := List.length H, off := 0, len := 2, cap := 2, esz := 1 }))] ++ []) (H ++ [Blk.row [Cell.int IntKind.i64 0, Cell.int IntKind.i64 7] false])).bind fun v7 => (semR36 g36 ([] ++ [TV.c (Cell.int IntKind.u32 0), TV.c (Cell.slice (some { id := List.length (H ++ [Blk.row [Cell.int IntKind.i64 0, Cell.int IntKind.i64 7] false]), off := 0, len := 1, cap := 1, esz := 1 }))] ++ []) (H ++ [Blk.row [Cell.int IntKind.i64 0, Cell.int IntKind.i64 7] false] ++ [Blk.row [Cell.int IntKind.i64 7] false])).bind fun v6 => bif i0 == 42 then (semR36 g36 ([] ++ [TV.c (Cell.int IntKind.u32 0), TV.c (Cell.slice (some { id := List.length (H ++ [Blk.row [Cell.int IntKind.i64 0, Cell.int IntKind.i64 7] false] ++ [Blk.row [Cell.int IntKind.i64 7] false]), off := 0, len := 2, cap := 2, esz := 1 }))] ++ []) (H ++ [Blk.row [Cell.int IntKind.i64 0, Cell.int IntKind.i64 7] false] ++ [Blk.row [Cell.int IntKind.i64 7] false] ++ [Blk.row [Cell.int IntKind.i64 6, Cell.int IntKind.i64 7] false])).bind fun v3 => (semR36 g36 ([] ++ [TV.c (Cell.int IntKind.u32 v6), TV.c (Cell.slice (some { id := List.length (H ++ [Blk.row [Cell.int IntKind.i64 0, Cell.int IntKind.i64 7] false] ++ [Blk.row [Cell.int IntKind.i64 7] false] ++ [Blk.row [Cell.int IntKind.i64 6, Cell.int IntKind.i64 7] false]), off := 0, len := 1, cap := 1, esz := 1 }))] ++ []) (H ++ [Blk.row [Cell.int IntKind.i64 0, Cell.int IntKind.i64 7] false] ++ [Blk.row [Cell.int IntKind.i64 7] false] ++ [Blk.row [Cell.int IntKind.i64 6, Cell.int IntKind.i64 7] false] ++ [Blk.row [Cell.int IntKind.i64 6] false])).bind fun v2 => bif i18 then (semR36 g36 ([] ++ [TV.c (Cell.int IntKind.u32 v3), TV.c (Cell.slice (some { id := List.length (H ++ [Blk.row [Cell.int IntKind.i64 0, Cell.int IntKind.i64 7] false] ++ [Blk.row [Cell.int IntKind.i64 7] false] ++ [Blk.row [Cell.int IntKind.i64 6, Cell.int IntKind.i64 7] false] ++ [Blk.row [Cell.int IntKind.i64 6] false]), off := 0, len := 1, cap := 1, esz := 1 }))] ++ []) (H ++ [Blk.row [Cell.int IntKind.i64 0, Cell.int IntKind.i64 7] false] ++ [Blk.row [Cell.int IntKind.i64 7] false] ++ [Blk.row [Cell.int IntKind.i64 6, Cell.int IntKind.i64 7] false] ++ [Blk.row [Cell.int IntKind.i64 6] false] ++ [Blk.row [Cell.int IntKind.i64 1] false])).bind fun v1 => (semR36 g36 ([] ++ [TV.c (Cell.int IntKind.u32 v2), TV.c (Cell.slice (some { id := List.length (H ++ [Blk.row [Cell.int IntKind.i64 0, Cell.int IntKind.i64 7] false] ++ [Blk.row [Cell.int IntKind.i64 7] false] ++ [Blk.row [Cell.int IntKind.i64 6, Cell.int IntKind.i64 7] false] ++ [Blk.row [Cell.int IntKind.i64 6] false] ++ [Blk.row [Cell.int IntKind.i64 1] false]), off := 0, len := 1, cap := 1, esz := 1 }))] ++ []) (H ++ [Blk.row [Cell.int IntKind.i64 0, Cell.int IntKind.i64 7] false] ++ [Blk.row [Cell.int IntKind.i64 7] false] ++ [Blk.row [Cell.int IntKind.i64 6, Cell.int IntKind.i64 7] false] ++ [Blk.row [Cell.int IntKind.i64 6] false] ++ [Blk.row [Cell.int IntKind.i64 1] false] ++ [Blk.row [Cell.int IntKind.i64 1] false])).bind fun v0 => some ((v1, v0), H ++ [Blk.row [Cell.int IntKind.i64 0, Cell.int IntKind.i64 7] false] ++ [Blk.row [Cell.int IntKind.i64 7] false] ++ [Blk.row [Cell.int IntKind.i64 6, Cell.int IntKind.i64 7] false] ++ [Blk.row [Cell.int IntKind.i64 6] false] ++ [Blk.row [Cell.int IntKind.i64 1] false] ++ [Blk.row [Cell.int IntKind.i64 1] false]) else some ((v3, v2), H ++ [Blk.row [Cell.int IntKind.i64 0, Cell.int IntKind.i64 7] false] ++ [Blk.row [Cell.int IntKind.i64 7] false] ++ [Blk.row [Cell.int IntKind.i64 6, Cell.int IntKind.i64 7] false] ++ [Blk.row [Cell.int IntKind.i64 6] false]) else bif i18 then (semR36 g36 ([] ++ [TV.c (Cell.int IntKind.u32 v7), TV.c (Cell.slice (some { id := List.length (H ++ [Blk.row [Cell.int IntKind.i64 0, Cell.int IntKind.i64 7] false] ++ [Blk.row [Cell.int IntKind.i64 7] false]), off := 0, len := 1, cap := 1, esz := 1 }))] ++ []) (H ++ [Blk.row [Cell.int IntKind.i64 0, Cell.int IntKind.i64 7] false] ++ [Blk.row [Cell.int IntKind.i64 7] false] ++ [Blk.row [Cell.int IntKind.i64 1] false])).bind fun v5 => (semR36 g36 ([] ++ [TV.c (Cell.int IntKind.u32 v6), TV.c (Cell.slice (some { id := List.length (H ++ [Blk.row [Cell.int IntKind.i64 0, Cell.int IntKind.i64 7] false] ++ [Blk.row [Cell.int IntKind.i64 7] false] ++ [Blk.row [Cell.int IntKind.i64 1] false]), off := 0, len := 1, cap := 1, esz := 1 }))] ++ []) (H ++ [Blk.row [Cell.int IntKind.i64 0, Cell.int IntKind.i64 7] false] ++ [Blk.row [Cell.int IntKind.i64 7] false] ++ [Blk.row [Cell.int IntKind.i64 1] false] ++ [Blk.row [Cell.int IntKind.i64 1] false])).bind fun v4 => some ((v5, v4), H ++ [Blk.row [Cell.int IntKind.i64 0, Cell.int IntKind.i64 7] false] ++ [Blk.row [Cell.int IntKind.i64 7] false] ++ [Blk.row [Cell.int IntKind.i64 1] false] ++ [Blk.row [Cell.int IntKind.i64 1] false]) else some ((v7, v6), H ++ [Blk.row [Cell.int IntKind.i64 0, Cell.int IntKind.i64 7] false] ++ [Blk.row [Cell.int IntKind.i64 7] false]) := by intros; exact (f39_run ..).trans (by kernel_rfl)
theorem ok39 : FnOk Try.prog 39 (specF enc39 (sem39 f39)) := by
  refine spec_ok (C := CC39) good39 rfl rfl rfl (by kernel_rfl) Try.func39 (c := bodyOf Try.f39) (by kernel_rfl) (by kernel_rfl) (Nat.le_of_eq Try.ntmps39.symm) dec39 enc39 de39 _ ?_
  intro args H q h
  unfold sem39 at h
  split at h
  · rw [← f39_eq]; exact h
  · cases h
def half (w : Int) : Int := bif w == 2 then withL 0 [2] else 0
def wide (w : Int) : Int := bif w == 1 then withL 0 [0] else withL 0 [0, 2]
def strR (op : Int) (rep : Bool) : Int := bif rep then withL (bif op == 42 then withL 0 [6, 7] else withL 0 [0, 7]) [1] else (bif op == 42 then withL 0 [6, 7] else withL 0 [0, 7])
def strW (op : Int) (rep : Bool) : Int := bif rep then withL (bif op == 42 then withL (withL 0 [7]) [6] else withL 0 [7]) [1] else (bif op == 42 then withL (withL 0 [7]) [6] else withL 0 [7])
theorem f37_x (x : Ins) (H : Heap) : Says (f37 x.op x.w x.w2 x.a.k x.a.r x.a.b x.a.i x.a.s x.a.d x.b.k x.b.r x.b.b x.b.i x.b.s x.b.d x.imm x.cc x.lock x.rep x.len H) H (half x.w) := by
  rw [q37]
  simp only [List.nil_append, List.append_nil, semR36, g36_1, Ab.bs]
  unfold half
  cases x.w == 2
  · exact says_ret rfl
  · exact says_push (says_ret rfl)
theorem f38_x (x : Ins) (H : Heap) : Says (f38 x.op x.w x.w2 x.a.k x.a.r x.a.b x.a.i x.a.s x.a.d x.b.k x.b.r x.b.b x.b.i x.b.s x.b.d x.imm x.cc x.lock x.rep x.len H) H (wide x.w) := by
  rw [q38]
  simp only [List.nil_append, List.append_nil, semR36, g36_1, g36_2, Ab.bs]
  unfold wide
  cases x.w == 1
  · exact says_push (says_ret rfl)
  · exact says_push (says_ret rfl)
theorem f39_x (x : Ins) (H : Heap) : Says (f39 x.op x.w x.w2 x.a.k x.a.r x.a.b x.a.i x.a.s x.a.d x.b.k x.b.r x.b.b x.b.i x.b.s x.b.d x.imm x.cc x.lock x.rep x.len H) H (strR x.op x.rep, strW x.op x.rep) := by
  rw [q39]
  simp only [List.nil_append, List.append_nil, semR36, g36_1, g36_2, Ab.bs]
  unfold strR strW
  cases x.op == 42 <;> cases x.rep <;> simp only [ct, cf] <;> first | exact says_push (says_push (says_ret rfl)) | exact says_push (says_push (says_push (says_ret rfl))) | exact says_push (says_push (says_push (says_push (says_ret rfl)))) | exact says_push (says_push (says_push (says_push (says_push (says_ret rfl))))) | exact says_push (says_push (says_push (says_push (says_push (says_push (says_ret rfl)))))) | exact says_push (says_push (says_push (says_push (says_push (says_push (says_push (says_ret rfl)))))))
def P37 : List TV → Option (List TV)
  | [.agg [Cell.int .i64 i0, Cell.int .i64 i1, Cell.int .i64 i2, Cell.int .i64 i3, Cell.int .i64 i4, Cell.int .i64 i5, Cell.int .i64 i6, Cell.int .i64 i7, Cell.int .i64 i8, Cell.int .i64 i9, Cell.int .i64 i10, Cell.int .i64 i11, Cell.int .i64 i12, Cell.int .i64 i13, Cell.int .i64 i14, Cell.int .i64 i15, Cell.int .i64 i16, Cell.bool i17, Cell.bool i18, Cell.int .i64 i19]] => some [.c (Cell.int .u32 (half i1))]
  | _ => none
theorem dr37 : FnOk Try.prog 37 (numF P37) := drop_ok ok37 fun args vs h => by
  unfold P37 at h
  split at h
  · rename_i i0 i1 i2 i3 i4 i5 i6 i7 i8 i9 i10 i11 i12 i13 i14 i15 i16 i17 i18 i19
    cases h
    obtain ⟨H', e, _⟩ := f37_x ⟨i0, i1, i2, ⟨i3, i4, i5, i6, i7, i8⟩, ⟨i9, i10, i11, i12, i13, i14⟩, i15, i16, i17, i18, i19⟩ []
    refine ⟨rfl, rfl, H', fun R K => ?_⟩
    simp only [specF, sem37]
    rw [e]
    rfl
  · cases h
def P38 : List TV → Option (List TV)
  | [.agg [Cell.int .i64 i0, Cell.int .i64 i1, Cell.int .i64 i2, Cell.int .i64 i3, Cell.int .i64 i4, Cell.int .i64 i5, Cell.int .i64 i6, Cell.int .i64 i7, Cell.int .i64 i8, Cell.int .i64 i9, Cell.int .i64 i10, Cell.int .i64 i11, Cell.int .i64 i12, Cell.int .i64 i13, Cell.int .i64 i14, Cell.int .i64 i15, Cell.int .i64 i16, Cell.bool i17, Cell.bool i18, Cell.int .i64 i19]] => some [.c (Cell.int .u32 (wide i1))]
  | _ => none
theorem dr38 : FnOk Try.prog 38 (numF P38) := drop_ok ok38 fun args vs h => by
  unfold P38 at h
  split at h
  · rename_i i0 i1 i2 i3 i4 i5 i6 i7 i8 i9 i10 i11 i12 i13 i14 i15 i16 i17 i18 i19
    cases h
    obtain ⟨H', e, _⟩ := f38_x ⟨i0, i1, i2, ⟨i3, i4, i5, i6, i7, i8⟩, ⟨i9, i10, i11, i12, i13, i14⟩, i15, i16, i17, i18, i19⟩ []
    refine ⟨rfl, rfl, H', fun R K => ?_⟩
    simp only [specF, sem38]
    rw [e]
    rfl
  · cases h
def P39 : List TV → Option (List TV)
  | [.agg [Cell.int .i64 i0, Cell.int .i64 i1, Cell.int .i64 i2, Cell.int .i64 i3, Cell.int .i64 i4, Cell.int .i64 i5, Cell.int .i64 i6, Cell.int .i64 i7, Cell.int .i64 i8, Cell.int .i64 i9, Cell.int .i64 i10, Cell.int .i64 i11, Cell.int .i64 i12, Cell.int .i64 i13, Cell.int .i64 i14, Cell.int .i64 i15, Cell.int .i64 i16, Cell.bool i17, Cell.bool i18, Cell.int .i64 i19]] => some [.c (Cell.int .u32 (strR i0 i18)), .c (Cell.int .u32 (strW i0 i18))]
  | _ => none
theorem dr39 : FnOk Try.prog 39 (numF P39) := drop_ok ok39 fun args vs h => by
  unfold P39 at h
  split at h
  · rename_i i0 i1 i2 i3 i4 i5 i6 i7 i8 i9 i10 i11 i12 i13 i14 i15 i16 i17 i18 i19
    cases h
    obtain ⟨H', e, _⟩ := f39_x ⟨i0, i1, i2, ⟨i3, i4, i5, i6, i7, i8⟩, ⟨i9, i10, i11, i12, i13, i14⟩, i15, i16, i17, i18, i19⟩ []
    refine ⟨rfl, rfl, H', fun R K => ?_⟩
    simp only [specF, sem39]
    rw [e]
    rfl
  · cases h
