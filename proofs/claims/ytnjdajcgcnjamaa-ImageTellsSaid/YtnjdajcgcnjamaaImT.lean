/- Layer 4: ImageTells holds. -/
import Derived.Test.YtnjdajcgcnjamaaImS
import Derived.Test.YtnjdajcgcnjamaaImL
namespace Go.Proofs.Ytnjdajcgcnjamaa
open Go Go.Proofs.Ytnjdajcgcnjamaa.Ab
set_option linter.unusedVariables false
set_option linter.unusedSimpArgs false
set_option maxRecDepth 100000
noncomputable section
theorem dt_flags {f : Fl} (hf : FOk f) : ∀ s ∈ (ofP f).2.dt, 0 ≤ s.flags ∧ s.flags ≤ 7 := by
  by_cases he : (ofP f).1 = 0
  · obtain ⟨m1, m2, m3, m4, ar, l, m5, m6, m7, m8⟩ := of_ok he
    rw [m8]
    intro s hs
    exact (kinds_may m1 s (List.mem_filter.1 (List.mem_filter.1 (mem_sortP hs)).1).1).2
  · rw [of_im0 he]; exact fun s hs => nomatch hs
theorem f5_x {H : Heap} {s : FS} {f : Fl} (h : FA H s f) {a near : Int} (ha : u64r a) : ∃ H', f5 s.M s.E s.sg s.sy s.rl a near H = some (true, H') := by
  obtain ⟨s1, s2, H1, H2, e1, e2, k1, k2, r1, r2⟩ := law_file h
  obtain ⟨hok, hcut⟩ := fok_of h
  obtain ⟨k, fl, ad, sz, sd, dt, st, en, fu, tk, H3, e3, k3, ia, oa, la⟩ := f7_y r2 hok hcut
  obtain ⟨k', fl', ad', sz', sd', dt', st', en', fu', tk', H4, e4, k4, ib⟩ := f14_x ((r1.no k2).no k3) hok hcut
  have hflg := dt_flags hok
  have hlen := cutF_len f
  have r4 := ((r1.no k2).no k3).no k4
  have ia4 := ia.no k4
  have hee : ((ofP (cutF f)).1 != (ofP (cutF f)).1) = false := by simp
  rw [q5, e1, Ab.bs]
  simp only []
  rw [e2, Ab.bs]
  simp only []
  rw [e3, Ab.bs]
  simp only []
  rw [e4, Ab.bs]
  simp only [hee, cf]
  by_cases he : (ofP (cutF f)).1 = 0
  · have hne : ((ofP (cutF f)).1 != 0) = false := by rw [he]; rfl
    rw [hne, cf]
    have hz : ∀ x ∈ (cutF f).sg, szOk x = true := by
      obtain ⟨m1, m2, m3, _⟩ := of_ok he
      unfold sizedP at m3
      simp only [Bool.and_eq_true, List.all_eq_true] at m3
      exact m3.2.2.2.1
    generalize (ofP (cutF f)).2 = m at *
    have fin : ∀ a', u64r a' → ∃ (b v : Int × Bool) (x : Bool) (ua ub : Option Sl) (G1 G2 G3 G4 : Heap), f15 k fl ad sz sd dt st en fu tk a' H4 = some (b, H4) ∧ f16 k' fl' ad' sz' sd' dt' st' en' fu' tk' a' H4 = some (b, G1) ∧ f17 k fl ad sz sd dt st en fu tk a' G1 = some (v, G1) ∧ f18 k' fl' ad' sz' sd' dt' st' en' fu' tk' a' G1 = some (v, G1) ∧ f19 k fl ad sz sd dt st en fu tk a' G1 = some (x, G1) ∧ f20 k' fl' ad' sz' sd' a' 1 G1 = some (x, G1) ∧ f13 k fl ad sz sd dt st en fu tk G1 = some (ua, G2) ∧ f21 k' fl' ad' sz' sd' dt' st' en' fu' tk' G2 = some (ub, G3) ∧ f12 ua ub G3 = some (true, G3) ∧ f9 G3 = some (true, G4) := by
      intro a' ha'
      obtain ⟨G1, y1, y2⟩ := f16_x ib oa ha'
      have iaG := ia4.no y2
      have ibG := ib.no y2
      obtain ⟨ua, G2, z1, z2, z3⟩ := f13_x iaG la
      obtain ⟨ub, G3, w1, w2, w3⟩ := f21_x (ibG.no z3) la
      have hroots : (rootsP m).length < 100000 := by
        have := rising_len (m.en :: (m.fu ++ m.tk))
        unfold rootsP
        simp at this ⊢; omega
      obtain ⟨G4, v1, _⟩ := f9_x G3
      have x1 : f19 k fl ad sz sd dt st en fu tk a' G1 = some (hasP m.o a' 1, G1) := by
        have := f19_x (c := { m.o with sl := sd }) oa.ou ha' dt st en fu tk G1
        rw [iaG.hk, iaG.hf, iaG.ha, iaG.hs]; exact this
      have x2 : f20 k' fl' ad' sz' sd' a' 1 G1 = some (hasP m.o a' 1, G1) := by
        have := f20_x (s := { m.o with sl := sd' }) (n := 1) oa.ou ha' G1
        rw [ibG.hk, ibG.hf, ibG.ha, ibG.hs]; exact this
      exact ⟨_, _, _, ua, ub, G1, G2, G3, G4, f15_x ia4 oa ha', y1, f17_x iaG oa ha', f18_x ibG oa hflg ha', x1, x2, z1, w1, f12_n (z2.no w3) w2 hroots, v1⟩
    by_cases g1 : near ≥ 0
    · rw [dT g1, ct, r1.sg.slenEq]
      by_cases g2 : near < ((cutF f).sg.length : Int)
      · rw [dT g2, ct]
        have hi : near.toNat < (cutF f).sg.length := by omega
        obtain ⟨sl, e0, c0, c1, c2, c3, c4, c5⟩ := getsSg r4.sg (List.getElem?_eq_getElem hi)
        have hnn : ((near.toNat : Nat) : Int) = near := by omega
        rw [hnn] at c0 c3 c4
        have c3' : H4.get sl.id (sl.off + near.toNat * 5 + 2) = some (.int .u64 (cutF f).sg[near.toNat].addr) := c3
        have c4' : H4.get sl.id (sl.off + near.toNat * 5 + 3) = some (.int .u64 (cutF f).sg[near.toNat].size) := c4
        have hzz := sz_of (hz _ (List.getElem_mem hi))
        have huu := hok.sg _ (List.getElem_mem hi)
        rw [show s1.sg.bind = (some sl).bind (β := Bool × Heap) by rw [e0]]
        simp only [Ab.bs, c0, ct, c3', c4', tInt]
        generalize (cutF f).sg[near.toNat] = x at *
        unfold u64r at huu
        have hq : (IntKind.u64.wrap (x.size + 16) == 0) = false := by rw [wrap_u64]; simp; omega
        obtain ⟨b, v, y, ua, ub, G1, G2, G3, G4, z1, z2, z3, z4, z5, z6, z7, z8, z9, z10⟩ := fin (IntKind.u64.wrap (IntKind.u64.wrap (x.addr + a.tmod (IntKind.u64.wrap (x.size + 16))) - 8)) (by unfold u64r; rw [wrap_u64 (IntKind.u64.wrap _ - 8)]; omega)
        exact ⟨G4, by simp only [hq, cf, z1, Ab.bs, z2, z3, z4, z5, z6, z7, z8, z9, z10, beq_self_eq_true, ct]⟩
      · obtain ⟨b, v, y, ua, ub, G1, G2, G3, G4, z1, z2, z3, z4, z5, z6, z7, z8, z9, z10⟩ := fin a ha
        exact ⟨G4, by simp only [dF g2, cf, z1, Ab.bs, z2, z3, z4, z5, z6, z7, z8, z9, z10, beq_self_eq_true, ct]⟩
    · obtain ⟨b, v, y, ua, ub, G1, G2, G3, G4, z1, z2, z3, z4, z5, z6, z7, z8, z9, z10⟩ := fin a ha
      exact ⟨G4, by simp only [dF g1, cf, z1, Ab.bs, z2, z3, z4, z5, z6, z7, z8, z9, z10, beq_self_eq_true, ct]⟩
  · have hne : ((ofP (cutF f)).1 != 0) = true := by simpa using he
    rw [hne, ct]
    obtain ⟨H7, e7, _⟩ := f9_x H4
    exact ⟨H7, by rw [e7, Ab.bs]⟩
theorem holds5 (Hp : Heap) (xs : List TV) (_hn : NoOwn Hp) (hxs : TShAll Try.prog Hp 12 Try.f5.params.toList xs) : fnA CC5 Try.f5.results.toList (bodyOf Try.f5) Bool xs Hp (fun x _ => x.cell.bind Cell.toBool) = some true := by
  have hp : Try.f5.params.toList = [27, 22, 3] := by kernel_rfl
  rw [hp] at hxs
  obtain ⟨x0, xr0, rfl, t0, hxs⟩ := hxs
  obtain ⟨x1, xr1, rfl, t1, hxs⟩ := hxs
  obtain ⟨x2, xr2, rfl, t2, hnil⟩ := hxs
  subst hnil
  obtain ⟨cs, rfl, s0⟩ := tsh_agg t0 Try.underlying27
  obtain ⟨c1, rfl, s1⟩ := tsh_c t1 (fun fs e => by rw [Try.underlying22] at e; cases e) (fun m e g => by rw [Try.underlying22] at g; cases g)
  obtain ⟨c2, rfl, s2⟩ := tsh_c t2 (fun fs e => by rw [Try.underlying3] at e; cases e) (fun m e g => by rw [Try.underlying3] at g; cases g)
  obtain ⟨s, f, rfl, r0⟩ := fl_of cs s0
  obtain ⟨a, ea, wa⟩ := sh_int s1 Try.underlying22
  obtain ⟨near, en, _⟩ := sh_int s2 Try.underlying3
  cases ea
  cases en
  obtain ⟨H', h⟩ := f5_x (near := near) r0 (wf64 wa)
  rw [f5_eq] at h
  exact law_of hN5 (fun v hv => by
    unfold dec5 at hv
    split at hv
    · cases hv; rfl
    · cases hv) h
end
end Go.Proofs.Ytnjdajcgcnjamaa
