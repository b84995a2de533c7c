/- Layer 3: ElfWrites, ElfSize. -/
import Derived.Test.YtmjmhipfkbedaaaElY
namespace Go.Proofs.Ytmjmhipfkbedaaa
open Go Go.Proofs.Ytmjmhipfkbedaaa.Ab
set_option linter.unusedVariables false
set_option linter.unusedSimpArgs false
set_option maxRecDepth 100000
noncomputable section
theorem core_eq {a b : Sg} (h : sgCore a = sgCore b) : sgEq a b = true := by
  obtain ⟨a1, a2, a3, a4, a5, a6⟩ := a
  obtain ⟨b1, b2, b3, b4, b5, b6⟩ := b
  unfold sgCore at h
  simp only [Sg.mk.injEq] at h
  obtain ⟨rfl, rfl, rfl, rfl, _, rfl⟩ := h
  unfold sgEq; simp
theorem all2_core : ∀ l m : List Sg, l.map sgCore = m.map sgCore → all2 sgEq l m = true
  | [], m, _ => by cases m <;> rfl
  | a :: l, [], h => by cases h
  | a :: l, b :: m, h => by
    rw [List.map_cons, List.map_cons, List.cons.injEq] at h
    unfold all2
    rw [core_eq h.1, all2_core l m h.2]; rfl
theorem same_core (g : Fl) (l : List Sg) (h : l.map sgCore = g.sg.map sgCore) : sameF ⟨g.M, g.E, l, g.sy, g.rl⟩ g = true := by
  unfold sameF lenEq
  rw [all2_core l g.sg h, all2_refl syEq (fun x => by unfold syEq strEq; simp) g.sy, all2_refl rlEq (fun x => by unfold rlEq; simp) g.rl, core_len h]
  simp
theorem cutSg_f (x : Sg) : (cutSg x).addr = x.addr ∧ (cutSg x).size = x.size ∧ (cutSg x).data.length ≤ 60 := by
  unfold cutSg
  cases hd : decide (x.data.length > 60) with
  | true => refine ⟨rfl, rfl, ?_⟩; show (x.data.take 60).length ≤ 60; rw [List.length_take]; omega
  | false => refine ⟨rfl, rfl, ?_⟩; simp at hd; exact hd
theorem cutSy_f (x : Sy) : (cutSy x).addr = x.addr ∧ (cutSy x).size = x.size := by
  unfold cutSy
  cases decide (x.name.size > 40) <;> exact ⟨rfl, rfl⟩
theorem cut_ok {H : Heap} {s : FS} {f : Fl} (h : FA H s f) : FOk (cutF f) ∧ ∀ r ∈ (cutF f).rl, i64r r.add := by
  refine ⟨⟨h.e, fun x hx => ?_, fun x hx => ?_, fun x hx => (h.rl x (List.mem_of_mem_take hx)).1⟩, fun x hx => (h.rl x (List.mem_of_mem_take hx)).2⟩
  · obtain ⟨y, y1, rfl⟩ := List.mem_map.1 hx
    obtain ⟨c1, c2, _⟩ := cutSg_f y
    rw [c1, c2]
    exact (h.sg y (List.mem_of_mem_take y1)).1
  · obtain ⟨y, y1, rfl⟩ := List.mem_map.1 hx
    obtain ⟨c1, c2⟩ := cutSy_f y
    rw [c1, c2]
    exact (h.sy y (List.mem_of_mem_take y1)).1
theorem dataN_cut : ∀ l : List Sg, dataN (l.map cutSg) ≤ 60 * l.length
  | [] => Nat.le_refl _
  | x :: l => by
    have := dataN_cut l
    have := (cutSg_f x).2.2
    rw [List.map_cons]
    unfold dataN
    simp only [List.length_cons]; omega
theorem lenF_le {f : Fl} (h1 : f.sg.length ≤ 24) (h2 : f.sy.length ≤ 64) (h3 : f.rl.length ≤ 64) (hn : ∀ x ∈ f.sy, x.name.size ≤ 32) (hd : dataN f.sg ≤ 1500) : lenF f ≤ 1048576 := by
  have hs := (segN_data f.sg (64 + 56 * f.sg.length)).2
  have hl1 : len1 f.sg = segN (64 + 56 * f.sg.length) f.sg := rfl
  have hnn := namesN_le f.sy hn
  have a1 : up16 (len1 f.sg) ≤ len1 f.sg + 15 := by rw [up16_eq]; omega
  have v2 : len2 (len1 f.sg) f.sy = up16 (len1 f.sg) + 24 * (f.sy.length + 1) + (1 + namesN f.sy) := rfl
  have a2 : up16 (len2 (len1 f.sg) f.sy) ≤ len2 (len1 f.sg) f.sy + 15 := by rw [up16_eq]; omega
  have v3 : len3 (len2 (len1 f.sg) f.sy) f.rl = up16 (len2 (len1 f.sg) f.sy) + 24 * f.rl.length + 33 := rfl
  have a3 : up16 (len3 (len2 (len1 f.sg) f.sy) f.rl) ≤ len3 (len2 (len1 f.sg) f.sy) f.rl + 15 := by rw [up16_eq]; omega
  have v4 : lenF f = up16 (len3 (len2 (len1 f.sg) f.sy) f.rl) + 320 := rfl
  omega
theorem f4_x {H : Heap} {s : FS} {f : Fl} (hs : FA H s f) : ∃ H', f4 s.M s.E s.sg s.sy s.rl H = some (true, H') := by
  obtain ⟨a1, a2, a3⟩ := cutF_len f
  obtain ⟨ok, had⟩ := cut_ok hs
  obtain ⟨s1, H1, e1, k1, r1⟩ := f10_x hs.r hs.n
  obtain ⟨s2, H2, e2, k2, r2⟩ := f11_x r1 a1 a2 a3
  obtain ⟨w1, w2, w3⟩ := f6_x r2 ok
  cases hm : mayF (cutF f) with
  | false =>
    obtain ⟨H3, e3, k3⟩ := w1 hm
    obtain ⟨b, H4, e4, k4, c4, d4⟩ := f7_x ((r1.no k2).no k3) ok
    have hb : b = none := by
      rcases d4 with ⟨x, _⟩ | x
      · rw [hm] at x; cases x
      · exact x
    subst hb
    obtain ⟨H5, e5, k5⟩ := f12_x ((r2.no k3).no k4)
    obtain ⟨H6, e6, k6⟩ := f13_x ((((r1.no k2).no k3).no k4).no k5)
    obtain ⟨H7, e7, _⟩ := f9_x H6
    refine ⟨H7, ?_⟩
    rw [q4, e1, Ab.bs]
    dsimp only
    rw [e2, Ab.bs]
    dsimp only
    rw [e3, Ab.bs]
    dsimp only
    rw [e4, Ab.bs]
    dsimp only
    rw [e5, Ab.bs]
    dsimp only
    rw [e6, Ab.bs]
    dsimp only
    rw [show (mayF (cutF f) == mayF (cutF f)) = true by simp, Bool.not_true, cf]
    rw [show H6.str none = some ⟨#[]⟩ from rfl, Ab.bs, Ab.bs, show strEq ⟨#[]⟩ ⟨#[]⟩ = true from rfl, Bool.not_true, cf, show (slen none == 0) = true from rfl, ct, show ((20 : Int) == 20) = true from rfl, ct, e7, Ab.bs]
  | true =>
    obtain ⟨m1, m2, m3, m4, m5, m6, m7⟩ := may_ok hm ok
    have hL : lenF (cutF f) ≤ 1048576 := lenF_le m2 m3 m4 (fun x hx => (m6 x hx).n) (by
      have h1 : dataN (cutF f).sg ≤ 60 * (f.sg.take 26).length := dataN_cut _
      have h2 : (cutF f).sg.length = (f.sg.take 26).length := by show ((f.sg.take 26).map cutSg).length = _; rw [List.length_map]
      omega)
    obtain ⟨p, H3, e3, k3, o3, n3, l3⟩ := w3 hm hL
    obtain ⟨b, H4, e4, k4, c4, d4⟩ := f7_x ((r1.no k2).no k3) ok
    have rb := c4 hm hL
    obtain ⟨H5, e5, k5⟩ := f12_x ((r2.no k3).no k4)
    obtain ⟨H6, e6, k6⟩ := f13_x ((((r1.no k2).no k3).no k4).no k5)
    have g1 := ((((r1.no k2).no k3).no k4).no k5).no k6
    have g2 := (((r2.no k3).no k4).no k5).no k6
    have rp := (((o3.no k4).no k5).no k6).rs
    have rb' := (rb.no k5).no k6
    obtain ⟨sg', sy', rl', l'', H7, e7, k7, r7, c7⟩ := f14_x rp hm ok had hL l3
    obtain ⟨s8, H8, e8, k8, r8⟩ := f8_x r7 (by show l''.length ≤ _; rw [core_len c7]; omega) (by show (cutF f).sy.length ≤ _; omega) (by show (cutF f).rl.length ≤ _; omega)
    have e9 := f15_x r8 ((g1.no k7).no k8) (by show l''.length ≤ _; rw [core_len c7]; omega) (by show (cutF f).sy.length ≤ _; omega) (by show (cutF f).rl.length ≤ _; omega)
    have e10 := f16_x (r7.no k8) ((g2.no k7).no k8) (by show l''.length ≤ _; rw [core_len c7]; omega) (by show (cutF f).sy.length ≤ _; omega) (by show (cutF f).rl.length ≤ _; omega)
    obtain ⟨H9, e11, _⟩ := f9_x H8
    refine ⟨H9, ?_⟩
    have hb0 : (slen b == 0) = false := by
      rw [rb'.slenEq, l3]
      have : lenF (cutF f) = hpos (cutF f) + 320 := rfl
      simp; omega
    rw [same_core _ _ c7] at e9 e10
    rw [q4, e1, Ab.bs]
    dsimp only
    rw [e2, Ab.bs]
    dsimp only
    rw [e3, Ab.bs]
    dsimp only
    rw [e4, Ab.bs]
    dsimp only
    rw [e5, Ab.bs]
    dsimp only
    rw [e6, Ab.bs]
    dsimp only
    rw [show (mayF (cutF f) == mayF (cutF f)) = true by simp, Bool.not_true, cf]
    rw [rp.str, Ab.bs, rb'.str, Ab.bs, strEq_iff, show (outB (cutF f) == outB (cutF f)) = true by simp, Bool.not_true, cf, hb0, cf, e7, Ab.bs]
    dsimp only
    rw [show ((0 : Int) == 0) = true from rfl, ct, ct, e8, Ab.bs]
    dsimp only
    rw [e9, Ab.bs]
    dsimp only
    rw [ct, e10, Ab.bs]
    dsimp only
    rw [ct, e11, Ab.bs]
theorem holds4 (Hp : Heap) (xs : List TV) (_hn : NoOwn Hp) (hxs : TShAll Try.prog Hp 12 Try.f4.params.toList xs) : fnA CC4 Try.f4.results.toList (bodyOf Try.f4) Bool xs Hp (fun x _ => x.cell.bind Cell.toBool) = some true := by
  have hp : Try.f4.params.toList = [39] := by kernel_rfl
  rw [hp] at hxs
  obtain ⟨x0, xr0, rfl, t0, hnil⟩ := hxs
  subst hnil
  obtain ⟨cs, rfl, s0⟩ := tsh_agg t0 Try.underlying39
  obtain ⟨s, f, rfl, r0⟩ := fl_of cs s0
  obtain ⟨H', h⟩ := f4_x r0
  rw [f4_eq] at h
  exact law_of hN4 (fun v hv => by
    unfold dec4 at hv
    split at hv
    · cases hv; rfl
    · cases hv) h
end
end Go.Proofs.Ytmjmhipfkbedaaa
