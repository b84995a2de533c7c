/- Layer 4: ImageOrder holds. -/
import Derived.Test.YtnjdajcgcnjamaaImN
import Derived.Test.YtnjdajcgcnjamaaIm2d
namespace Go.Proofs.Ytnjdajcgcnjamaa
open Go Go.Proofs.Ytnjdajcgcnjamaa.Ab
set_option linter.unusedVariables false
set_option linter.unusedSimpArgs false
set_option maxRecDepth 100000
noncomputable section
def mapR (n : Nat) (r : Rl) : Rl := if 0 ≤ r.sym ∧ r.sym < (n : Int) then { r with sym := (n : Int) - 1 - r.sym } else r
def rev (f : Fl) : Fl := ⟨f.M, f.E, f.sg, f.sy.reverse, f.rl.reverse.map (mapR f.sy.length)⟩
theorem rlMay_map (n : Nat) (r : Rl) : rlMay n (mapR n r) = rlMay n r := by
  unfold mapR rlMay
  split
  · rename_i h
    have h1 : decide ((n : Int) - 1 - r.sym < 0) = false := dF (by omega)
    have h2 : decide ((n : Int) - 1 - r.sym ≥ (n : Int)) = false := dF (by omega)
    have h3 : decide (r.sym < 0) = false := dF (by omega)
    have h4 : decide (r.sym ≥ (n : Int)) = false := dF (by omega)
    simp only [h1, h2, h3, h4]
  · rfl
theorem may_rev (f : Fl) : mayF (rev f) = mayF f := by
  unfold mayF rev
  simp only [List.length_reverse, List.length_map, List.all_reverse, List.all_map, Function.comp_def, rlMay_map]
def okT (f : Fl) (l : List Rl) : Bool := l.all fun r => (heldP f r).2
theorem taken_eq (f : Fl) (c : Sg) : ∀ l : List Rl, takenP f c l = if okT f l = true then some ((l.map fun r => (heldP f r).1).filter fun v => hasP c v 1) else none
  | [] => rfl
  | r :: l => by
    unfold takenP okT
    rw [taken_eq f c l, List.all_cons]
    cases h : (heldP f r).2 with
    | false => simp
    | true =>
      simp only [Bool.not_true, cond_false, Bool.true_and]
      unfold okT
      split
      · rename_i h2
        simp only [Option.map_some, List.map_cons, List.filter_cons]
        cases hasP c (heldP f r).1 1 <;> rfl
      · rfl
theorem held_rev (f : Fl) (r : Rl) (h : rlMay f.sy.length r = true) : heldP (rev f) (mapR f.sy.length r) = heldP f r := by
  have hr : 0 ≤ r.sym ∧ r.sym < (f.sy.length : Int) := by
    unfold rlMay at h
    simp only [Bool.and_eq_true, Bool.not_eq_true', decide_eq_false_iff_not] at h
    omega
  unfold heldP mapR rev
  rw [if_pos hr]
  simp only []
  have hi : r.sym.toNat < f.sy.length := by omega
  have e : (f.sy.reverse)[((f.sy.length : Int) - 1 - r.sym).toNat]? = f.sy[r.sym.toNat]? := by
    rw [List.getElem?_reverse (by omega)]
    congr 1; omega
  rw [e]
theorem funcs_mem (c : Sg) (x : Int) : ∀ l : List Sy, x ∈ funcsP c l ↔ ∃ s, s ∈ l ∧ (s.kind == 2 && hasP c s.addr 1) = true ∧ s.addr = x
  | [] => ⟨(fun h => by cases h), (fun ⟨_, h, _⟩ => by cases h)⟩
  | s :: l => by
    have ih := funcs_mem c x l
    unfold funcsP
    cases hq : (s.kind == 2 && hasP c s.addr 1) with
    | true =>
      rw [cond_true, List.mem_cons, ih]
      constructor
      · rintro (e | ⟨t, h1, h2⟩)
        · exact ⟨s, List.mem_cons_self, hq, e.symm⟩
        · exact ⟨t, List.mem_cons_of_mem _ h1, h2⟩
      · rintro ⟨t, h1, h2, h3⟩
        rcases List.mem_cons.1 h1 with rfl | h1
        · exact .inl h3.symm
        · exact .inr ⟨t, h1, h2, h3⟩
    | false =>
      rw [cond_false, ih]
      constructor
      · rintro ⟨t, h1, h2⟩
        exact ⟨t, List.mem_cons_of_mem _ h1, h2⟩
      · rintro ⟨t, h1, h2, h3⟩
        rcases List.mem_cons.1 h1 with rfl | h1
        · rw [hq] at h2; cases h2
        · exact ⟨t, h1, h2, h3⟩
theorem of_rev (f : Fl) : ofP (rev f) = ofP f := by
  unfold ofP
  rw [may_rev]
  cases hm : mayF f with
  | false => rfl
  | true =>
  have hrl : ∀ r ∈ f.rl, rlMay f.sy.length r = true := by
    unfold mayF at hm
    simp only [Bool.and_eq_true, List.all_eq_true] at hm
    exact hm.2.2.2.2.2.2
  have e1 : loadsP (rev f) = loadsP f := rfl
  have e2 : sizedP (rev f) = sizedP f := rfl
  have e3 : (rev f).sg = f.sg := rfl
  have e4 : (rev f).M = f.M := rfl
  have e5 : (rev f).E = f.E := rfl
  rw [e1, e2, e3, e4, e5]
  cases f.M != 62 with
  | true => rfl
  | false =>
  cases sizedP f with
  | false => rfl
  | true =>
  cases (textP (loadsP f)).2 with
  | false => rfl
  | true =>
  simp only [Bool.not_true, cond_false]
  cases stP f.sg 0 f.sg with
  | none => rfl
  | some ar =>
  simp only []
  generalize (textP (loadsP f)).1 = c
  cases hasP c f.E 1 with
  | false => rfl
  | true =>
  simp only [Bool.not_true, cond_false]
  rw [taken_eq, taken_eq]
  have hh : ∀ r ∈ f.rl, heldP (rev f) (mapR f.sy.length r) = heldP f r := fun r hr => held_rev f r (hrl r hr)
  have hok : okT (rev f) (rev f).rl = okT f f.rl := by
    unfold okT
    rw [Bool.eq_iff_iff, List.all_eq_true, List.all_eq_true]
    constructor
    · intro h r hr
      have := h (mapR f.sy.length r) (by unfold rev; simp only [List.mem_map, List.mem_reverse]; exact ⟨r, hr, rfl⟩)
      rwa [hh r hr] at this
    · intro h r hr
      unfold rev at hr
      simp only [List.mem_map, List.mem_reverse] at hr
      obtain ⟨r', hr', rfl⟩ := hr
      rw [hh r' hr']; exact h r' hr'
  rw [hok]
  by_cases g : okT f f.rl = true
  · rw [if_pos g, if_pos g]
    have hf : risingP (funcsP c (rev f).sy) = risingP (funcsP c f.sy) := by
      refine rising_ext fun x => ?_
      rw [funcs_mem, funcs_mem]
      have e : ∀ s, s ∈ (rev f).sy ↔ s ∈ f.sy := fun s => by unfold rev; exact List.mem_reverse
      constructor
      · rintro ⟨s, h1, h2⟩
        exact ⟨s, (e s).1 h1, h2⟩
      · rintro ⟨s, h1, h2⟩
        exact ⟨s, (e s).2 h1, h2⟩
    have ht : risingP (((rev f).rl.map fun r => (heldP (rev f) r).1).filter fun v => hasP c v 1) = risingP ((f.rl.map fun r => (heldP f r).1).filter fun v => hasP c v 1) := by
      refine rising_ext fun x => ?_
      simp only [List.mem_filter, List.mem_map]
      constructor
      · rintro ⟨⟨r, hr, e⟩, h⟩
        unfold rev at hr
        simp only [List.mem_map, List.mem_reverse] at hr
        obtain ⟨r', hr', rfl⟩ := hr
        rw [hh r' hr'] at e
        exact ⟨⟨r', hr', e⟩, h⟩
      · rintro ⟨⟨r, hr, e⟩, h⟩
        exact ⟨⟨mapR f.sy.length r, by unfold rev; simp only [List.mem_map, List.mem_reverse]; exact ⟨r, hr, rfl⟩, by rw [hh r hr]; exact e⟩, h⟩
    simp only [hf, ht]
  · rw [if_neg g, if_neg g]
theorem mapR_at (n : Nat) (r : Rl) : (mapR n r).at' = r.at' := by unfold mapR; split <;> rfl
theorem fok_rev {f : Fl} (h : FOk f) : FOk (rev f) := by
  refine ⟨h.e, h.sg, fun s hs => h.sy s (by unfold rev at hs; simpa using hs), fun r hr => ?_⟩
  unfold rev at hr
  simp only [List.mem_map, List.mem_reverse] at hr
  obtain ⟨r', hr', rfl⟩ := hr
  rw [mapR_at]; exact h.rl r' hr'
/-! the walk -/
section
variable {H0 : Heap} {f : Fl}
theorem loop4a {t : Option Sl} {l : List Sy} (hR : RS 4 ESy H0 t l) (hl : l.length ≤ 1000) (a0 a1 : Int) (a2 a4 : Option Sl) (b0 b1 : Int) (b2 b4 : Option Sl) : ∀ (m n i : Nat) (u : Option Sl) (H : Heap), i + m = l.length → Kp No H0 H → OS 4 ESy H u (l.reverse.take i) → New H0.length u →
    ∃ u' H', D4_5 (n + m + 1) (l.length : Int) (l.length : Int) (i : Int) a0 a1 a2 t a4 b0 b1 b2 u b4 H = some (.exit 0, X4_5 (l.length : Int) a0 a1 a2 t a4 b0 b1 b2 u' b4 H') ∧ Kp No H0 H' ∧ OS 4 ESy H' u' l.reverse
  | 0, n, i, u, H, hm, hk, ho, hn => by
    refine ⟨u, H, by rw [D4_5_s, dF (by omega), cf], hk, ?_⟩
    rwa [List.take_of_length_le (by simp; omega)] at ho
  | m + 1, n, i, u, H, hm, hk, ho, hn => by
    have hi : l.length - 1 - i < l.length := by omega
    obtain ⟨sl, e0, g1, c0, c1, c2, c3⟩ := getsSy (hR.no hk) (List.getElem?_eq_getElem hi)
    have w1 : IntKind.i64.wrap ((l.length : Int) - 1) = ((l.length - 1 : Nat) : Int) := wm1 _ (by omega) (by omega)
    have w2 : IntKind.i64.wrap (((l.length - 1 : Nat) : Int) - (i : Int)) = ((l.length - 1 - i : Nat) : Int) := wmm _ i (by omega) (by omega)
    have hrev : l.reverse.take (i + 1) = l.reverse.take i ++ [l[l.length - 1 - i]] := by
      rw [List.take_succ_eq_append_getElem (by simp; omega), List.getElem_reverse]
    obtain ⟨u2, H2, p1, k2, o2, n2⟩ := grow ESy_len (by decide) (by' := 40) hk u _ ho hn l[l.length - 1 - i] (by simp [most]; omega)
    rw [← hrev] at o2
    obtain ⟨u', H', e', k', o'⟩ := loop4a hR hl a0 a1 a2 a4 b0 b1 b2 b4 m n (i + 1) u2 H2 (by omega) k2 o2 n2
    refine ⟨u', H', ?_, k', o'⟩
    rw [show n + (m + 1) + 1 = (n + m + 1) + 1 by omega, D4_5_s, dT (by omega), ct, w1, w2]
    rw [show t.bind = (some sl).bind (β := AExit × St) by rw [e0]]
    have p1' : (H ++ [Blk.row [Cell.str l[l.length - 1 - i].name, Cell.int IntKind.i64 l[l.length - 1 - i].kind, Cell.int IntKind.u64 l[l.length - 1 - i].addr, Cell.int IntKind.u64 l[l.length - 1 - i].size] false]).append 4 40 u (some ⟨H.length, 0, 1, 1, 4⟩) = some (u2, H2) := p1
    simp only [Ab.bs, g1, ct, c0, c1, c2, c3, tInt, tStr, p1', i64_succ i (by omega)]
    exact e'
theorem loop4b {t : Option Sl} {l : List Rl} (hR : RS 3 ERl H0 t l) (hl : l.length ≤ 1000) (ns : Nat) (hns : ns ≤ 1000) (a0 a1 : Int) (a2 a3 : Option Sl) (b0 b1 : Int) (b2 b3 : Option Sl) : ∀ (m n i : Nat) (u : Option Sl) (H : Heap), i + m = l.length → Kp No H0 H → OS 3 ERl H u ((l.reverse.map (mapR ns)).take i) → New H0.length u →
    ∃ u' H', D4_10 (n + m + 1) (ns : Int) (l.length : Int) (i : Int) a0 a1 a2 a3 t b0 b1 b2 b3 u H = some (.exit 2, X4_10 a0 a1 a2 a3 t b0 b1 b2 b3 u' H') ∧ Kp No H0 H' ∧ OS 3 ERl H' u' (l.reverse.map (mapR ns))
  | 0, n, i, u, H, hm, hk, ho, hn => by
    refine ⟨u, H, by rw [D4_10_s, dF (by omega), cf], hk, ?_⟩
    rwa [List.take_of_length_le (by simp; omega)] at ho
  | m + 1, n, i, u, H, hm, hk, ho, hn => by
    have hi : l.length - 1 - i < l.length := by omega
    have hRk := hR.no hk
    obtain ⟨sl, e0, g1, c0, c1, c2⟩ := getsRl hRk (List.getElem?_eq_getElem hi)
    have w1 : IntKind.i64.wrap ((l.length : Int) - 1) = ((l.length - 1 : Nat) : Int) := wm1 _ (by omega) (by omega)
    have w2 : IntKind.i64.wrap (((l.length - 1 : Nat) : Int) - (i : Int)) = ((l.length - 1 - i : Nat) : Int) := wmm _ i (by omega) (by omega)
    have hrev : (l.reverse.map (mapR ns)).take (i + 1) = (l.reverse.map (mapR ns)).take i ++ [mapR ns l[l.length - 1 - i]] := by
      rw [List.take_succ_eq_append_getElem (by simp; omega), List.getElem_map, List.getElem_reverse]
    obtain ⟨u2, H2, p1, k2, o2, n2⟩ := grow ERl_len (by decide) (by' := 24) hk u _ ho hn (mapR ns l[l.length - 1 - i]) (by simp [most]; omega)
    rw [← hrev] at o2
    obtain ⟨u', H', e', k', o'⟩ := loop4b hR hl ns hns a0 a1 a2 a3 b0 b1 b2 b3 m n (i + 1) u2 H2 (by omega) k2 o2 n2
    refine ⟨u', H', ?_, k', o'⟩
    have hsl := hRk.slenEq
    rw [show n + (m + 1) + 1 = (n + m + 1) + 1 by omega, D4_10_s, dT (by omega), ct, hsl, w1, w2]
    rw [show t.bind = (some sl).bind (β := AExit × St) by rw [e0]]
    simp only [Ab.bs, g1, ct, c0, c1, c2, tInt, i64_succ i (by omega)]
    generalize l[l.length - 1 - i] = r at *
    unfold mapR at p1
    by_cases g : 0 ≤ r.sym ∧ r.sym < (ns : Int)
    · rw [if_pos g] at p1
      have w3 : IntKind.i64.wrap ((ns : Int) - 1) = (ns : Int) - 1 := wrap_i64 (by omega) (by omega)
      have w4 : IntKind.i64.wrap ((ns : Int) - 1 - r.sym) = (ns : Int) - 1 - r.sym := wrap_i64 (by omega) (by omega)
      have p1' : (H ++ [Blk.row [Cell.int IntKind.u64 r.at', Cell.int IntKind.i64 ((ns : Int) - 1 - r.sym), Cell.int IntKind.i64 r.add] false]).append 3 24 u (some ⟨H.length, 0, 1, 1, 3⟩) = some (u2, H2) := p1
      rw [dT (show r.sym ≥ 0 by omega), ct, dT (show r.sym < (ns : Int) by omega), ct, w3, w4, p1', Ab.bs]
      exact e'
    · rw [if_neg g] at p1
      have p1' : (H ++ [Blk.row [Cell.int IntKind.u64 r.at', Cell.int IntKind.i64 r.sym, Cell.int IntKind.i64 r.add] false]).append 3 24 u (some ⟨H.length, 0, 1, 1, 3⟩) = some (u2, H2) := p1
      by_cases g1 : r.sym ≥ 0
      · rw [dT g1, ct, dF (show ¬ r.sym < (ns : Int) by omega), cf, p1', Ab.bs]
        exact e'
      · rw [dF g1, cf, p1', Ab.bs]
        exact e'
end
theorem f4_x {H : Heap} {s : FS} {f : Fl} (h : FA H s f) : ∃ H', f4 s.M s.E s.sg s.sy s.rl H = some (true, H') := by
  obtain ⟨s1, H1, e1, k1, r1⟩ := f6_x h.r h.n
  obtain ⟨hok, hcut⟩ := fok_of h
  have hl := cutF_len f
  generalize cutF f = F at *
  obtain ⟨n1, hn1⟩ := LL4_5_of F.sy.length (by omega) (F.sy.length : Int) (F.sy.length : Int) 0 s1.M s1.E s1.sg s1.sy s1.rl s1.M s1.E s1.sg none none H1
  obtain ⟨uy, H2, e2, k2, o2⟩ := loop4a r1.sy hl.2.1 s1.M s1.E s1.sg s1.rl s1.M s1.E s1.sg none F.sy.length n1 0 none H1 (by omega) (Kp.refl _ _) rfl fun _ e => nomatch e
  have r2 := r1.no k2
  obtain ⟨n2, hn2⟩ := LL4_10_of F.rl.length (by omega) (F.sy.length : Int) (F.rl.length : Int) 0 s1.M s1.E s1.sg s1.sy s1.rl s1.M s1.E s1.sg uy none H2
  obtain ⟨ur, H3, e3, k3, o3⟩ := loop4b r2.rl hl.2.2 F.sy.length hl.2.1 s1.M s1.E s1.sg s1.sy s1.M s1.E s1.sg uy F.rl.length n2 0 none H2 (by omega) (Kp.refl _ _) rfl fun _ e => nomatch e
  have r3 := r2.no k3
  have rg : FR H3 ⟨s1.M, s1.E, s1.sg, uy, ur⟩ (rev F) := ⟨r3.m, r3.e, r3.sg, (o2.no k3).rs, o3.rs, r3.sd⟩
  obtain ⟨s2, H4, e4, k4, r4⟩ := f8_x r3 hl.1 hl.2.1 hl.2.2
  obtain ⟨ka, fla, ada, sza, sda, dta, sta, ena, fua, tka, H5, e5, k5, ia, oa, la⟩ := f7_y r4 hok hcut
  have rg5 := (rg.no k4).no k5
  obtain ⟨s3, H6, e6, k6, r6⟩ := f8_x rg5 hl.1 (by unfold rev; simpa using hl.2.1) (by unfold rev; simpa using hl.2.2)
  obtain ⟨kb, flb, adb, szb, sdb, dtb, stb, enb, fub, tkb, H7, e7, k7, ib, ob, lb⟩ := f7_y r6 (fok_rev hok) hcut
  rw [of_rev] at e7 ib ob lb
  have ia7 := (ia.no k6).no k7
  obtain ⟨ua, H8, e8, q8, k8⟩ := f13_x ia7 la
  obtain ⟨ub, H9, e9, q9, k9⟩ := f13_x (ib.no k8) lb
  have hroots : (rootsP (ofP F).2).length < 100000 := by
    have := rising_len ((ofP F).2.en :: ((ofP F).2.fu ++ (ofP F).2.tk))
    unfold rootsP
    simp at this ⊢; omega
  have c1 := f12_n (q8.no k9) q9 hroots
  have ia9 := (ia7.no k8).no k9
  have ib9 := (ib.no k8).no k9
  have c2 := f12_n ia9.hfu ib9.hfu (by omega)
  have c3 := f12_n ia9.htk ib9.htk (by omega)
  obtain ⟨H10, e10, _⟩ := f9_x H9
  have hen : (ena != enb) = false := by rw [ia.hen, ib.hen]; simp
  have hdl : (slen dta != slen dtb) = false := by
    obtain ⟨l1, a1, a2, _⟩ := ia.hdt
    obtain ⟨l2, b1, b2, _⟩ := ib.hdt
    have : l1.length = l2.length := by have := congrArg List.length (a2.trans b2.symm); simpa using this
    rw [a1.slenEq, b1.slenEq, this]; simp
  have hee : ((ofP F).1 != (ofP F).1) = false := by simp
  refine ⟨H10, ?_⟩
  have e2' : D4_5 (n1 + F.sy.length + 1) (F.sy.length : Int) (F.sy.length : Int) 0 s1.M s1.E s1.sg s1.sy s1.rl s1.M s1.E s1.sg none none H1 = _ := e2
  have e3' : D4_10 (n2 + F.rl.length + 1) (F.sy.length : Int) (F.rl.length : Int) 0 s1.M s1.E s1.sg s1.sy s1.rl s1.M s1.E s1.sg uy none H2 = _ := e3
  rw [q4, e1, Ab.bs]
  simp only []
  rw [r1.sy.slenEq, hn1, e2', Ab.bs, J4_5_0, r2.rl.slenEq, hn2, e3', Ab.bs, J4_10_0, e4, Ab.bs]
  simp only []
  rw [e5, Ab.bs]
  simp only []
  rw [e6, Ab.bs]
  simp only []
  rw [e7, Ab.bs]
  simp only [hee, cf, hen, e8, Ab.bs, e9, c1, Bool.not_true, hdl, c2, c3, ct, e10]
theorem holds4 (Hp : Heap) (xs : List TV) (_hn : NoOwn Hp) (hxs : TShAll Try.prog Hp 12 Try.f4.params.toList xs) : fnA CC4 Try.f4.results.toList (bodyOf Try.f4) Bool xs Hp (fun x _ => x.cell.bind Cell.toBool) = some true := by
  have hp : Try.f4.params.toList = [27] := by kernel_rfl
  rw [hp] at hxs
  obtain ⟨x0, xr0, rfl, t0, hnil⟩ := hxs
  subst hnil
  obtain ⟨cs, rfl, s0⟩ := tsh_agg t0 Try.underlying27
  obtain ⟨s, f, rfl, r0⟩ := fl_of cs s0
  obtain ⟨H', h⟩ := f4_x r0
  rw [f4_eq] at h
  exact law_of hN4 (fun v hv => by
    unfold dec4 at hv
    split at hv
    · cases hv; rfl
    · cases hv) h
end
end Go.Proofs.Ytnjdajcgcnjamaa
