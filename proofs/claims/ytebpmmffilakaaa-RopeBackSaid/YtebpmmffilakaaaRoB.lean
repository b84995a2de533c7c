/- RopeBack: the law holds for every input. -/
import Derived.Test.YtebpmmffilakaaaRo3
namespace Go.Proofs.Ytebpmmffilakaaa
open Go Go.Proofs.Ytebpmmffilakaaa.Ab
set_option linter.unusedVariables false
set_option maxRecDepth 100000
noncomputable section
theorem bnd {α β : Type} {o : Option α} {a : α} {f : α → Option β} {r : Option β} (h : o = some a) (h2 : f a = r) : o.bind f = r := by rw [h]; exact h2
theorem cdf {α : Type} {c : Bool} {a b r : α} (h : c = false) (h2 : b = r) : (bif c then a else b) = r := by rw [h]; exact h2
theorem cdt {α : Type} {c : Bool} {a b r : α} (h : c = true) (h2 : a = r) : (bif c then a else b) = r := by rw [h]; exact h2
theorem tail3 (Hp : Heap) (K : AV → Heap → Option Bool) (hKt : ∀ H : Heap, K (AV.c (Cell.bool true)) H = some true) (x : Option Sl) (vs : List Nat) (w : Nat) (hw : bits_Is (w : Int) = true) (hvs : vs.length ≤ 30) (hv64 : ∀ v ∈ vs, v < 18446744073709551616) (hx : RU Hp x vs) :
      (Option.bind (f10 none Hp) fun v8 => (f11 v8.fst (w : Int) x v8.snd).bind fun v7 => bif v7.fst != 0 then K (AV.c (Cell.bool false)) v7.snd else (f12 v8.fst v7.snd).bind fun v6 => bif v6.fst != IntKind.i64.wrap ((w : Int) * slen x) then K (AV.c (Cell.bool false)) v6.snd else (f13 v8.fst 0 v6.snd).bind fun v5 =>
        loops CC3 (Code.l (Code.l (Code.r (Code.l (Code.r (Code.r (Code.r (Code.r (Code.r (Code.r (bodyOf Try.f3))))))))))) { env := [(1, AV.c (Cell.int IntKind.i64 (w : Int))), (5, AV.c (Cell.ptr v8.fst)), (6, AV.c (Cell.ptr v5.fst)), (38, AV.c (Cell.slice x)), (39, AV.c (Cell.int IntKind.i64 (slen x))), (40, AV.c (Cell.int IntKind.i64 0))], loc := [], heap := v5.snd }
          (blockK 0 (seqK (execL CC3 (loops CC3) (Code.r (Code.r (Code.r (Code.r (Code.r (Code.r (Code.r (bodyOf Try.f3))))))))) (retA CC3 [ResultVar.tmp 4] K)))) = some true := by
  obtain ⟨H2, H3, s', H', a1, a2, a3, a4, a5, a6, a7⟩ := rope_tail x vs w hw hvs hv64 Hp hx
  have z : ((0 : Int) != 0) = false := by decide
  have z' : ((0 : Int) == 0) = true := by decide
  have zz : ∀ y : Int, (y != y) = false := by intro y; simp
  refine bnd a1 (bnd a2 (cdf z (bnd a3 (cdf (zz _) (bnd a4 ?_)))))
  rw [a7]
  refine ropeBack_end x vs w hw hvs hv64 _ _ _ a5 a6 _ fun H4 hI => ?_
  obtain ⟨sv, v1, v2, v3⟩ := hI.view
  refine (k3 Bool f10 f11 f12 f13 f15 f14 f16 f17 f18 f19 (some (H'.length, 0)) H4 K (loops CC3)).trans ?_
  have h8 : 0 < w ∧ w ≤ 8 := by rcases is_w hw with h | h | h | h <;> omega
  have hwm : w * vs.length ≤ 8 * 30 := Nat.mul_le_mul h8.2 hvs
  have h0 : IntKind.i64.wrap (((w * vs.length : Nat) : Int) - ((w * vs.length : Nat) : Int)) = 0 := by rw [Int.sub_self]; decide
  have g18 := f18_spec _ _ _ _ H4 v1
  have g19 := f19_spec _ _ _ H4 v1
  rw [v2.slen, flat_len, h0] at g19
  exact bnd g18 (cdt z' (bnd g19 (cdt z' (hKt _))))
theorem sub30 (sl : Sl) (h : sl.len > 30) (hc : sl.len ≤ sl.cap) : Sl.sub (some sl) 0 (some 30) = some (some ⟨sl.id, sl.off + 0 * sl.esz, 30, sl.cap, sl.esz⟩) := by
  unfold Sl.sub
  simp only [Option.getD_some]
  rw [if_pos (by omega)]
  rfl
theorem holdsK (Hp : Heap) (K : AV → Heap → Option Bool) (hKt : ∀ H : Heap, K (AV.c (Cell.bool true)) H = some true) (x : Option Sl) (vs : List Nat) (wi : Int) (hx : RU Hp x vs) (hv : ∀ v ∈ vs, v < 18446744073709551616) (hcap : ∀ sl, x = some sl → sl.cap = sl.len) :
    fnA CC3 Try.f3.results.toList (bodyOf Try.f3) Bool [TV.c (Cell.slice x), TV.c (Cell.int IntKind.i64 wi)] Hp K = some true := by
  rw [fnA_eq]
  refine (e3 Bool f10 f11 f12 f13 f15 f14 f16 f17 f18 f19 x wi Hp K (loops CC3)).trans ?_
  have hd0 : decide (slen none > 30) = false := by decide
  cases hR : R2_Is wi with
  | false =>
    cases x with
    | none => exact cdf hd0 (cdt rfl (hKt _))
    | some sl =>
      cases hd : decide (slen (some sl) > 30) with
      | false => exact cdf rfl (cdt rfl (hKt _))
      | true =>
        have hl : sl.len > 30 := by simp [slen] at hd; omega
        have he : esOk (some sl) 1 = true := by show (sl.esz == 1) = true; rw [hx.2.1]; rfl
        exact cdt rfl (bnd (sub30 sl hl (Nat.le_of_eq (hcap sl rfl).symm)) (cdt he (cdt rfl (hKt _))))
  | true =>
    have hb : bits_Is wi = true := hR
    obtain ⟨w, rfl⟩ : ∃ w : Nat, wi = (w : Int) := ⟨wi.toNat, by rcases is_w hb with h | h | h | h <;> omega⟩
    cases hd : decide (slen x > 30) with
    | false =>
      have hvs : vs.length ≤ 30 := by
        cases x with
        | none => cases hx; simp
        | some sl => obtain ⟨x1, _⟩ := hx; simp [slen] at hd; omega
      exact cdf rfl (cdf rfl (tail3 Hp K hKt x vs w hb hvs hv hx))
    | true =>
      cases x with
      | none => rw [hd0] at hd; cases hd
      | some sl =>
        have hl : sl.len > 30 := by simp [slen] at hd; omega
        have he : esOk (some sl) 1 = true := by show (sl.esz == 1) = true; rw [hx.2.1]; rfl
        refine cdt rfl (bnd (sub30 sl hl (Nat.le_of_eq (hcap sl rfl).symm)) (cdt he (cdf rfl (tail3 Hp K hKt _ (vs.take 30) w hb (by simp; omega) (fun v h => hv v (List.mem_of_mem_take h)) ?_))))
        obtain ⟨x1, x2, x3⟩ := hx
        refine ⟨by simp; omega, x2, fun hne => ?_⟩
        obtain ⟨row, x4, x5⟩ := x3 (fun e => hne (by rw [e]; rfl))
        refine ⟨row, x4, fun i v e => ?_⟩
        have hi := (List.getElem?_eq_some_iff.1 e).1
        rw [List.getElem?_take_of_lt (by simp at hi; omega)] at e
        simpa using x5 i v e
theorem holds3 (Hp : Heap) (xs : List TV) (_hn : NoOwn Hp) (hxs : TShAll Try.prog Hp 12 Try.f3.params.toList xs) : fnA CC3 Try.f3.results.toList (bodyOf Try.f3) Bool xs Hp (fun x _ => x.cell.bind Cell.toBool) = some true := by
  have hp : Try.f3.params.toList = [22, 3] := by kernel_rfl
  rw [hp] at hxs
  obtain ⟨x0, xr, rfl, t0, x1, xr1, rfl, t1, hnil⟩ := hxs
  subst hnil
  unfold TSh at t0 t1
  rw [Try.underlying22] at t0
  rw [Try.underlying3] at t1
  simp only at t0 t1
  obtain ⟨c0, rfl, s0⟩ := t0
  obtain ⟨c1, rfl, s1⟩ := t1
  obtain ⟨x, vs, rfl, hx, hv, hcap⟩ := ru_of (n := 10) s0
  unfold Sh at s1
  rw [Try.underlying3] at s1
  simp only at s1
  obtain ⟨wi, e, hw⟩ := s1
  cases e
  exact holdsK Hp (fun x _ => x.cell.bind Cell.toBool) (fun _ => rfl) x vs wi hx hv hcap
end
end Go.Proofs.Ytebpmmffilakaaa
