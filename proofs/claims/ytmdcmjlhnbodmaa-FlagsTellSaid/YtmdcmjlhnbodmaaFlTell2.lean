/- FlagsTell: the law. -/
import Derived.Test.YtmdcmjlhnbodmaaFlV
namespace Go.Proofs.Ytmdcmjlhnbodmaa
open Go Go.Proofs.Ytmdcmjlhnbodmaa.Ab
set_option linter.unusedVariables false
set_option maxRecDepth 100000
noncomputable section
/-! L08_FlagsTell -/
def tellH (t0 t1 : Bool) (t2 : Int) : Nat → Int → Heap → Heap
  | 0, _, H => H
  | m + 1, c, H => tellH t0 t1 t2 m (c + 2) (R8_Thunk_Cond t0 t1 t2 c H).2
def L08_FlagsTell (t0 t1 : Bool) (t2 cc : Int) (H : Heap) : Bool × Heap := (true, tellH t0 t1 t2 8 0 (R8_Thunk_Cond t0 t1 t2 cc (xflag_Thunk_Pack t0 t1 t2 H).2).2)
theorem nb (b : Bool) : (bif false then b == b else !b == b) = false := by cases b <;> rfl
theorem odd_not (t0 t1 : Bool) (t2 : Int) {c : Int} (h1 : 0 ≤ c) (h2 : c ≤ 14) (h3 : c % 2 = 0) : (xflag_Thunk_Cond t0 t1 t2 c == xflag_Thunk_Cond t0 t1 t2 (c + 1)) = false := by
  unfold xflag_Thunk_Cond
  have hc : c = 0 ∨ c = 2 ∨ c = 4 ∨ c = 6 ∨ c = 8 ∨ c = 10 ∨ c = 12 ∨ c = 14 := by omega
  have hb : ∀ b : Bool, ((!(b == false)) == !(b == true)) = false := by intro b; cases b <;> rfl
  rw [bandn_one (by omega) (by omega), bandn_one (by omega) (by omega), band_one_i64, band_one_i64]
  unfold condK
  generalize xflag_Thunk_Zero t0 t1 t2 = z
  generalize xflag_Thunk_Sign t0 t1 t2 = s
  generalize xflag_Thunk_Even t0 t1 t2 = e
  generalize xflag_Thunk_less t0 t1 t2 = l
  rcases hc with rfl | rfl | rfl | rfl | rfl | rfl | rfl | rfl <;> exact hb _
noncomputable def G10 : ASem | [.agg [Cell.bool t0, Cell.bool t1, Cell.int .u64 t2], .c (Cell.int .i64 cc)], H => some ([.c (Cell.bool (L08_FlagsTell t0 t1 t2 cc H).1)], (L08_FlagsTell t0 t1 t2 cc H).2) | _, _ => none
noncomputable def F10 : FnSem := natF G10
noncomputable def C10 : Ctx := { P := Try.prog, own := [2, 5], fns := L36, nt := 66, nums := N36, live := [(5, ⟨[2, 5, 6], [2, 5], [4], []⟩)] }
theorem e10 : ∀ (R : Type) (t0 t1 : Bool) (t2 cc : Int) (H : Heap) (K : AV → Heap → Option R) (lp : Code → St → (AExit → St → Option R) → Option R), fnL C10 lp Try.f10.results.toList (bodyOf Try.f10) [TV.agg [Cell.bool t0, Cell.bool t1, Cell.int IntKind.u64 t2], TV.c (Cell.int IntKind.i64 cc)] H K = bif bif false then xflag_Thunk_Zero (L08_ours t0 t1 t2).fst (L08_ours t0 t1 t2).snd.fst (L08_ours t0 t1 t2).snd.snd == R8_Thunk_Zero t0 t1 t2 else !xflag_Thunk_Zero (L08_ours t0 t1 t2).fst (L08_ours t0 t1 t2).snd.fst (L08_ours t0 t1 t2).snd.snd == R8_Thunk_Zero t0 t1 t2 then K (AV.c (Cell.bool false)) H else bif bif false then xflag_Thunk_Sign (L08_ours t0 t1 t2).fst (L08_ours t0 t1 t2).snd.fst (L08_ours t0 t1 t2).snd.snd == R8_Thunk_Sign t0 t1 t2 else !xflag_Thunk_Sign (L08_ours t0 t1 t2).fst (L08_ours t0 t1 t2).snd.fst (L08_ours t0 t1 t2).snd.snd == R8_Thunk_Sign t0 t1 t2 then K (AV.c (Cell.bool false)) H else bif bif false then xflag_Thunk_Even (L08_ours t0 t1 t2).fst (L08_ours t0 t1 t2).snd.fst (L08_ours t0 t1 t2).snd.snd == R8_Thunk_Even t0 t1 t2 else !xflag_Thunk_Even (L08_ours t0 t1 t2).fst (L08_ours t0 t1 t2).snd.fst (L08_ours t0 t1 t2).snd.snd == R8_Thunk_Even t0 t1 t2 then K (AV.c (Cell.bool false)) H else bif (xflag_Thunk_Pack (L08_ours t0 t1 t2).fst (L08_ours t0 t1 t2).snd.fst (L08_ours t0 t1 t2).snd.snd H).fst != R8_Thunk_Pack t0 t1 t2 then K (AV.c (Cell.bool false)) (xflag_Thunk_Pack (L08_ours t0 t1 t2).fst (L08_ours t0 t1 t2).snd.fst (L08_ours t0 t1 t2).snd.snd H).snd else bif bif false then xflag_Thunk_Cond (L08_ours t0 t1 t2).fst (L08_ours t0 t1 t2).snd.fst (L08_ours t0 t1 t2).snd.snd cc == (R8_Thunk_Cond t0 t1 t2 cc (xflag_Thunk_Pack (L08_ours t0 t1 t2).fst (L08_ours t0 t1 t2).snd.fst (L08_ours t0 t1 t2).snd.snd H).snd).fst else !xflag_Thunk_Cond (L08_ours t0 t1 t2).fst (L08_ours t0 t1 t2).snd.fst (L08_ours t0 t1 t2).snd.snd cc == (R8_Thunk_Cond t0 t1 t2 cc (xflag_Thunk_Pack (L08_ours t0 t1 t2).fst (L08_ours t0 t1 t2).snd.fst (L08_ours t0 t1 t2).snd.snd H).snd).fst then K (AV.c (Cell.bool false)) (R8_Thunk_Cond t0 t1 t2 cc (xflag_Thunk_Pack (L08_ours t0 t1 t2).fst (L08_ours t0 t1 t2).snd.fst (L08_ours t0 t1 t2).snd.snd H).snd).snd else lp (Code.l (Code.l (Code.r (Code.l (Code.r (Code.r (Code.r (bodyOf Try.f10)))))))) { env := [(2, AV.lp 2 0), (5, AV.lp 5 0), (6, AV.c (Cell.int IntKind.i64 0))], loc := [(2, [Cell.bool t0, Cell.bool t1, Cell.int IntKind.u64 t2]), (5, [Cell.bool (L08_ours t0 t1 t2).fst, Cell.bool (L08_ours t0 t1 t2).snd.fst, Cell.int IntKind.u64 (L08_ours t0 t1 t2).snd.snd])], heap := (R8_Thunk_Cond t0 t1 t2 cc (xflag_Thunk_Pack (L08_ours t0 t1 t2).fst (L08_ours t0 t1 t2).snd.fst (L08_ours t0 t1 t2).snd.snd H).snd).snd } (blockK 0 (seqK (execL C10 lp (Code.r (Code.r (Code.r (Code.r (bodyOf Try.f10)))))) (retA C10 [ResultVar.tmp 4] K))) := by intros; kernel_rfl
theorem b10_5 : ∀ (R : Type) (t6 : Int) (b2_0 b2_1 : Bool) (b2_2 : Int) (b5_0 b5_1 : Bool) (b5_2 : Int) (H : Heap) (K : AExit → St → Option R) (f : St → (AExit → St → Option R) → Option R) (lp : Code → St → (AExit → St → Option R) → Option R), execL C10 lp (Code.l (Code.l (Code.r (Code.l (Code.r (Code.r (Code.r (bodyOf Try.f10)))))))) { env := [(2, AV.lp 2 0), (5, AV.lp 5 0), (6, AV.c (Cell.int IntKind.i64 t6))], loc := [(2, [Cell.bool b2_0, Cell.bool b2_1, Cell.int IntKind.u64 b2_2]), (5, [Cell.bool b5_0, Cell.bool b5_1, Cell.int IntKind.u64 b5_2])], heap := H } (loopK (keepOf C10.live (Code.l (Code.l (Code.r (Code.l (Code.r (Code.r (Code.r (bodyOf Try.f10))))))))) f K) = bif decide (t6 < 16) then bif bif true then xflag_Thunk_Cond b5_0 b5_1 b5_2 t6 == xflag_Thunk_Cond b5_0 b5_1 b5_2 (IntKind.i64.wrap (t6 + 1)) else !xflag_Thunk_Cond b5_0 b5_1 b5_2 t6 == xflag_Thunk_Cond b5_0 b5_1 b5_2 (IntKind.i64.wrap (t6 + 1)) then K AExit.ret { env := [(4, AV.c (Cell.bool false))], loc := [], heap := H } else bif bif false then xflag_Thunk_Cond b5_0 b5_1 b5_2 t6 == (R8_Thunk_Cond b2_0 b2_1 b2_2 t6 H).fst else !xflag_Thunk_Cond b5_0 b5_1 b5_2 t6 == (R8_Thunk_Cond b2_0 b2_1 b2_2 t6 H).fst then K AExit.ret { env := [(4, AV.c (Cell.bool false))], loc := [], heap := (R8_Thunk_Cond b2_0 b2_1 b2_2 t6 H).snd } else f { env := [(2, AV.lp 2 0), (5, AV.lp 5 0), (6, AV.c (Cell.int IntKind.i64 (IntKind.i64.wrap (t6 + 2))))], loc := [(2, [Cell.bool b2_0, Cell.bool b2_1, Cell.int IntKind.u64 b2_2]), (5, [Cell.bool b5_0, Cell.bool b5_1, Cell.int IntKind.u64 b5_2])], heap := (R8_Thunk_Cond b2_0 b2_1 b2_2 t6 H).snd } K else K (AExit.exit 0) { env := [], loc := [], heap := H } := by intros; kernel_rfl
theorem loop10 (R : Type) (t0 t1 : Bool) (t2 : Int) (hv : 0 ≤ t2 ∧ t2 < 18446744073709551616) (K : AExit → St → Option R) : ∀ (m n : Nat) (c : Int) (H : Heap), 0 ≤ c → c + 2 * m = 16 →
    loopN (exec C10 (Code.l (Code.l (Code.r (Code.l (Code.r (Code.r (Code.r (bodyOf Try.f10))))))))) (keepOf C10.live (Code.l (Code.l (Code.r (Code.l (Code.r (Code.r (Code.r (bodyOf Try.f10))))))))) (n + m + 1) { env := [(2, AV.lp 2 0), (5, AV.lp 5 0), (6, AV.c (Cell.int IntKind.i64 c))], loc := [(2, [Cell.bool t0, Cell.bool t1, Cell.int IntKind.u64 t2]), (5, [Cell.bool t0, Cell.bool t1, Cell.int IntKind.u64 t2])], heap := H } K
      = K (AExit.exit 0) { env := [], loc := [], heap := tellH t0 t1 t2 m c H }
  | 0, n, c, H, h0, hi => by
    have g : decide (c < 16) = false := by simp; omega
    rw [loopN_step, b10_5, g, cf]; rfl
  | m + 1, n, c, H, h0, hi => by
    have g : decide (c < 16) = true := by simp; omega
    have g2 : IntKind.i64.wrap (c + 2) = c + 2 := wrap_i64 (by omega) (by omega)
    have g3 : IntKind.i64.wrap (c + 1) = c + 1 := wrap_i64 (by omega) (by omega)
    rw [show n + (m + 1) + 1 = (n + m + 1) + 1 by omega, loopN_step, b10_5, g, g2, g3]
    rw [odd_not t0 t1 t2 h0 (by omega) (by omega), cond_ref t0 t1 hv (by omega) (by omega), nb]
    simp only [ct, cf]
    exact loop10 R t0 t1 t2 hv K m n (c + 2) _ (by omega) (by omega)
theorem s10 (R : Type) (t0 : Bool) (t1 : Bool) (t2 : Int) (cc : Int) (H : Heap) (K : AV → Heap → Option R) (hv : 0 ≤ t2 ∧ t2 < 18446744073709551616) (hc : -9223372036854775808 ≤ cc ∧ cc < 9223372036854775808) : fnL C10 (loops C10) Try.f10.results.toList (bodyOf Try.f10) [.agg [Cell.bool t0, Cell.bool t1, Cell.int .u64 t2], .c (Cell.int .i64 cc)] H K = K (oneOf [.c (Cell.bool (L08_FlagsTell t0 t1 t2 cc H).1)]) (L08_FlagsTell t0 t1 t2 cc H).2 := by
  rw [e10]
  have e1 : (L08_ours t0 t1 t2).1 = t0 := rfl
  have e2 : (L08_ours t0 t1 t2).2.1 = t1 := rfl
  have e3 : (L08_ours t0 t1 t2).2.2 = t2 := rfl
  have z1 : xflag_Thunk_Zero t0 t1 t2 = R8_Thunk_Zero t0 t1 t2 := rfl
  have z2 : xflag_Thunk_Even t0 t1 t2 = R8_Thunk_Even t0 t1 t2 := (even_ref hv.1).symm
  have z3 : ∀ x : Int, (x != x) = false := by intro x; simp
  simp only [e1, e2, e3, z1, z2, z3, sign_ref t0 t1 hv, pack_ref t0 t1 hv, cond_ref t0 t1 hv hc.1 hc.2, beq_self_eq_true, Bool.not_true, cf]
  obtain ⟨n, hn⟩ := loops_of C10 (Code.l (Code.l (Code.r (Code.l (Code.r (Code.r (Code.r (bodyOf Try.f10)))))))) { env := [(2, AV.lp 2 0), (5, AV.lp 5 0), (6, AV.c (Cell.int IntKind.i64 0))], loc := [(2, [Cell.bool t0, Cell.bool t1, Cell.int IntKind.u64 t2]), (5, [Cell.bool t0, Cell.bool t1, Cell.int IntKind.u64 t2])], heap := (R8_Thunk_Cond t0 t1 t2 cc (xflag_Thunk_Pack t0 t1 t2 H).2).2 } (blockK 0 (seqK (execL C10 (loops C10) (Code.r (Code.r (Code.r (Code.r (bodyOf Try.f10)))))) (retA C10 [ResultVar.tmp 4] K))) 8 (by decide)
  refine (show _ = _ from hn).trans ?_
  refine (loop10 R t0 t1 t2 hv _ 8 n 0 _ (by omega) (by omega)).trans ?_
  unfold L08_FlagsTell
  generalize tellH t0 t1 t2 8 0 (R8_Thunk_Cond t0 t1 t2 cc (xflag_Thunk_Pack t0 t1 t2 H).2).2 = H'
  show _ = _
  kernel_rfl
