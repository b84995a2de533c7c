/- Layer 9: memory that is not there has nothing: MemNil holds. -/
import Derived.Test.YtdpmbfceadidkaaMe1
namespace Go.Proofs.Ytdpmbfceadidkaa
open Go Go.Proofs.Ytdpmbfceadidkaa.Ab
set_option linter.unusedVariables false
set_option linter.unusedSimpArgs false
set_option maxRecDepth 100000
noncomputable section
theorem nn : (none : Option (Nat × Nat)).isNone = true := rfl
theorem f31_nil (t : Int) (H : Heap) : f31 none t H = some (false, H) := by rw [q31]; rfl
theorem f12_nil (t x w : Int) (b : Bool) (H : Heap) : f12 none t x w b H = some (false, H) := by rw [q12, f31_nil]; rfl
theorem f15_nil (t x w : Int) (H : Heap) : f15 none t x w H = some ((0, false), H) := by rw [q15, f12_nil]; rfl
theorem f27_nil (x : Int) (H : Heap) : f27 none x H = some ((0, false), H) := by rw [q27]; rfl
theorem f16_nil (t x w v : Int) (H : Heap) : f16 none t x w v H = some (false, H) := by rw [q16, f12_nil]; rfl
theorem f17_nil (t x w v : Int) (H : Heap) : f17 none t x w v H = some (false, H) := by rw [q17, f12_nil]; rfl
theorem f21_nil (t : Int) (H : Heap) : f21 none t H = some (false, H) := by rw [q21, f31_nil]; rfl
theorem f28_nil (t : Int) (H : Heap) : f28 none t H = some (0, H) := by
  rw [q28]
  obtain ⟨n, e⟩ := LL28_2_of 0 (by omega) none t 0 H
  rw [e, D28_2_s, f21_nil, Ab.bs, cf, Ab.bs, J28_2_0]
theorem f10_nil (t k : Int) (H : Heap) : f10 none t k H = some (false, H) := by rw [q10, f31_nil]; rfl
theorem f20_nil (t : Int) (H : Heap) : f20 none t H = some (0, H) := by rw [q20, f31_nil]; rfl
theorem f29_nil (H : Heap) : f29 none H = some (none, H) := by rw [q29]; rfl
theorem f22_nil (n : Option (Nat × Nat)) (H : Heap) : f22 none n H = some (false, H) := by rw [q22]; rfl
theorem f24_nil (H : Heap) : f24 none H = some (none, H) := by rw [q24]; rfl
theorem f7_true (t a w : Int) (H : Heap) : f7 t a w H = some (true, H) := by
  rw [q7, f15_nil, Ab.bs, f27_nil, Ab.bs]
  simp only [Bool.not_false, ct, f12_nil, f16_nil, f17_nil, f21_nil, f28_nil, f10_nil, f20_nil, f29_nil, f22_nil, f24_nil, Ab.bs, beq_self_eq_true, nn, show slen none = 0 from rfl]
theorem holds7 (Hp : Heap) (xs : List TV) (_hn : NoOwn Hp) (hxs : TShAll Try.prog Hp 12 Try.f7.params.toList xs) : fnA CC7 Try.f7.results.toList (bodyOf Try.f7) Bool xs Hp (fun x _ => x.cell.bind Cell.toBool) = some true := by
  have hp : Try.f7.params.toList = [3, 23, 3] := by kernel_rfl
  rw [hp] at hxs
  obtain ⟨x0, xr0, rfl, t0, hxs⟩ := hxs
  obtain ⟨x1, xr1, rfl, t1, hxs⟩ := hxs
  obtain ⟨x2, xr2, rfl, t2, hnil⟩ := hxs
  subst hnil
  obtain ⟨c0, rfl, s0⟩ := tsh_c t0 (by simp [Try.underlying3]) (by simp [Try.underlying3])
  obtain ⟨c1, rfl, s1⟩ := tsh_c t1 (by simp [Try.underlying23]) (by simp [Try.underlying23])
  obtain ⟨c2, rfl, s2⟩ := tsh_c t2 (by simp [Try.underlying3]) (by simp [Try.underlying3])
  obtain ⟨y0, e0, _⟩ := sh_int s0 Try.underlying3
  obtain ⟨y1, e1, _⟩ := sh_int s1 Try.underlying23
  obtain ⟨y2, e2, _⟩ := sh_int s2 Try.underlying3
  cases e0; cases e1; cases e2
  have h := f7_true y0 y1 y2 Hp
  rw [f7_eq] at h
  exact law_of hN7 (fun v hv => by
    unfold dec7 at hv
    split at hv
    · cases hv; rfl
    · cases hv) h
end
end Go.Proofs.Ytdpmbfceadidkaa
