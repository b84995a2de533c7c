/- Layer 9: to a private area nobody comes but its thread: MemPrivate holds. -/
import Derived.Test.YtdpmbfceadidkaaMeO
namespace Go.Proofs.Ytdpmbfceadidkaa
open Go Go.Proofs.Ytdpmbfceadidkaa.Ab
set_option linter.unusedVariables false
set_option linter.unusedSimpArgs false
set_option maxRecDepth 100000
noncomputable section
/-! ### the document's New and Find -/
theorem loop13 {β : Type} {en : Nat} {eE : β → List Cell} (b L : Nat) (l : Option Sl) (zs : List Ar) (hz : zs.length ≤ 1000) (hl : ∀ sl, l = some sl → zs ≠ [] → sl.id < L) : ∀ (m n i : Nat) (s : Option Sl) (ars : List Ar) (H : Heap), i + m = zs.length →
    MRg en eE H b L s ars nils noRows → ars.length = i → RS 5 E5 H l zs → Src H L zs → Freshes zs ars →
    ∃ s' ars' H', D13_3 (n + m + 1) (some (b, 0)) l (zs.length : Int) (i : Int) H = some (.exit 0, X13_3 (some (b, 0)) H') ∧ MRg en eE H' b L s' ars' nils noRows ∧ ars'.length = zs.length ∧ Freshes zs ars' ∧ Kp (fun i => L ≤ i) H H'
  | 0, n, i, s, ars, H, hm, hM, hi, hR, hS, hF => by
    have g : decide ((i : Int) < (zs.length : Int)) = false := by simp; omega
    exact ⟨s, ars, H, by rw [D13_3_s, g, cf], hM, by omega, hF, Kp.refl _ _⟩
  | m + 1, n, i, s, ars, H, hm, hM, hi, hR, hS, hF => by
    have g : decide ((i : Int) < (zs.length : Int)) = true := by simp; omega
    have hlt : i < zs.length := by omega
    have hzi := List.getElem?_eq_getElem hlt
    have hmem : zs[i] ∈ zs := List.getElem_mem hlt
    obtain ⟨sl, rfl, g1, c0, c1, c2, c3, c4⟩ := gets5 hR hzi
    obtain ⟨d, H1, e1, e2, e3, e4⟩ := clone_x H zs[i].sl zs[i].data (hS.d _ hmem) (hS.dn _ hmem)
    have hM1 := hM.no e3
    have hL : L ≤ H.length := by
      have := hM.ge .hd b rfl; have := hM.lt .hd b rfl; omega
    obtain ⟨s', H2, H3, f1, f2, f3, f4⟩ := hM1.add (by omega) { lo := zs[i].lo, sl := d, data := zs[i].data, wr := zs[i].wr, pr := zs[i].pr, ow := -1 } H.length e2 e4 (fun x j hj => hM.lt x j hj) hL
    have hg : H1.get b (0 + 0) = some (.slice s) := by rw [get_of hM1.hd]; rfl
    have kk : Kp (fun i => L ≤ i) H H3 := (e3.mono (D := fun i => L ≤ i) fun i _ hf => absurd hf (fun h => h)).trans f4 (fun _ h => h) fun _ _ h => h
    obtain ⟨s4, ars4, H4, r1, r2, r3, r4, r5⟩ := loop13 b L (some sl) zs hz hl m n (i + 1) s' _ H3 (by omega) f3 (by simp; omega) (hR.kp kk fun sl e h0 => Nat.not_le_of_lt (hl sl e h0)) (hS.kp kk) (fun k a hk => by
      rcases Nat.lt_or_ge k ars.length with h1 | h1
      · rw [List.getElem?_append_left h1] at hk; exact hF k a hk
      · rw [List.getElem?_append_right h1] at hk
        cases hm : k - ars.length with
        | succ q => rw [hm] at hk; simp at hk
        | zero =>
          rw [hm] at hk
          simp at hk
          subst hk
          exact ⟨zs[i], by rw [show k = i by omega]; exact hzi, rfl, rfl, rfl, rfl, rfl⟩)
    refine ⟨s4, ars4, H4, ?_, r2, r3, r4, kk.trans r5 (fun _ h => h) fun _ _ h => h⟩
    rw [show n + (m + 1) + 1 = (n + m + 1) + 1 by omega, D13_3_s, g]
    simp only [ct, Ab.bs, g1, c0, c1, c2, c3, c4, tInt, tSlice, tBool, e1, hg]
    have f1 : (H1 ++ [Blk.row [Cell.int .u64 zs[i].lo, Cell.slice d, Cell.bool zs[i].wr, Cell.bool zs[i].pr, Cell.int .i64 (-1)] false]).append 5 48 s (some { id := List.length H1, off := 0, len := 1, cap := 1, esz := 5 }) = some (s', H2) := f1
    rw [f1, Ab.bs]
    dsimp only
    rw [show (0 : Nat) + 0 = 0 from rfl, f2, Ab.bs, i64_succ i (by omega)]
    exact r1
theorem f13_x {β : Type} {en : Nat} {eE : β → List Cell} (l : Option Sl) (zs : List Ar) (hz : zs.length ≤ 1000) (H : Heap) (hR : RS 5 E5 H l zs) (hS : Src H H.length zs) :
    ∃ s ars H', f13 l H = some (some (H.length, 0), H') ∧ MRg en eE H' H.length H.length s ars nils noRows ∧ ars.length = zs.length ∧ Freshes zs ars ∧ Kp No H H' := by
  rw [q13]
  have k0 := Kp.push1 H (Blk.row [Cell.slice none, Cell.slice none, Cell.slice none, Cell.slice none, Cell.slice none, Cell.slice none, Cell.slice none, Cell.slice none, Cell.slice none] false)
  have hR1 := hR.no k0
  have hS1 := hS.kp (k0.mono (D := fun i => H.length ≤ i) fun i _ hf => absurd hf (fun h => h))
  have hM := MRg.empty (en := en) (eE := eE) H
  generalize (H ++ [Blk.row [Cell.slice none, Cell.slice none, Cell.slice none, Cell.slice none, Cell.slice none, Cell.slice none, Cell.slice none, Cell.slice none, Cell.slice none] false]) = H1 at *
  obtain ⟨n, e⟩ := LL13_3_of zs.length (by omega) (some (H.length, 0)) l (slen l) 0 H1
  obtain ⟨s, ars, H', r1, r2, r3, r4, r5⟩ := loop13 H.length H.length l zs hz (fun sl e h0 => by subst e; exact RS.lt E5_len (by decide) hR h0) zs.length n 0 none [] H1 (by omega) hM rfl hR1 hS1 (fun k a hk => by simp at hk)
  refine ⟨s, ars, H', ?_, r2, r3, r4, k0.tr' r5⟩
  rw [e, hR.slenEq, show (0 : Int) = ((0 : Nat) : Int) from rfl, r1, Ab.bs, J13_3_0]
theorem loop14 (s : Option Sl) (ars : List Ar) (hn : ars.length < 9223372036854775807) (x : Int) (H : Heap) (h : RS 5 E5 H s ars) : ∀ (m n i : Nat), i + m = ars.length →
    (D14_2 (n + m + 1) x s (ars.length : Int) (i : Int) H).bind J14_2 = some (findFrom x (ars.drop i) i, H)
  | 0, n, i, hm => by
    have g : decide ((i : Int) < (ars.length : Int)) = false := by simp; omega
    rw [D14_2_s, g, cf, Ab.bs, J14_2_1, List.drop_eq_nil_of_le (by omega)]
    rfl
  | m + 1, n, i, hm => by
    have g : decide ((i : Int) < (ars.length : Int)) = true := by simp; omega
    have hi : i < ars.length := by omega
    obtain ⟨sl, rfl, g1, c0, c1, c2, c3, c4⟩ := gets5 h (List.getElem?_eq_getElem hi)
    have ih := loop14 (some sl) ars hn x H h m n (i + 1) (by omega)
    rw [show n + (m + 1) + 1 = (n + m + 1) + 1 by omega, D14_2_s, g]
    simp only [ct, Ab.bs, g1, c0, c1, c2, c3, c4, tInt, tSlice, tBool, i64_succ i (by omega)]
    rw [List.drop_eq_getElem_cons hi]
    unfold findFrom Ar.has
    cases decide (IntKind.u64.wrap (x - ars[i].lo) < IntKind.u64.wrap (slen ars[i].sl))
    · rw [cf, cf]; exact ih
    · rw [ct, ct, Ab.bs, J14_2_0]
theorem f14_x (p : Nat × Nat) (ars : List Ar) (x : Int) (H : Heap) (h : Rd H p ars) : f14 (some p) x H = some (findA ars x, H) := by
  obtain ⟨h0, s, h1, h2⟩ := h
  rw [q14]
  simp only [Ab.bs, h1, tSlice]
  obtain ⟨n, e⟩ := LL14_2_of ars.length (by omega) x s (slen s) 0 H
  have := loop14 s ars h0 x H h2 ars.length n 0 (by omega)
  rw [List.drop_zero] at this
  rw [e, h2.slenEq, show (0 : Int) = ((0 : Nat) : Int) from rfl, this]
  rfl
/-! ### the law -/
/-- Two lists of areas have the same addresses. -/
theorem find_same (x : Int) : ∀ (l m : List Ar) (i : Nat), l.length = m.length → (∀ (k : Nat) (a c : Ar), l[k]? = some a → m[k]? = some c → a.has x = c.has x) → findFrom x l i = findFrom x m i
  | [], [], i, _, _ => rfl
  | [], _ :: _, i, h, _ => by simp at h
  | _ :: _, [], i, h, _ => by simp at h
  | a :: l, c :: m, i, h, hs => by
    unfold findFrom
    rw [hs 0 a c rfl rfl, find_same x l m (i + 1) (by simpa using h) fun k => hs (k + 1)]
theorem has_of {H H' : Heap} {a c : Ar} (h1 : OS 1 E8 H a.sl a.data) (h2 : OS 1 E8 H' c.sl c.data) (e1 : a.lo = c.lo) (e2 : a.data = c.data) (x : Int) : a.has x = c.has x := by
  unfold Ar.has
  rw [h1.rs.slenEq, h2.rs.slenEq, e1, e2]
/-- A private area of another thread: its first byte may not be come to. -/
theorem may_not (ars : List Ar) (u x w : Int) (wr : Bool) (k : Nat) (a : Ar) (hk : ars[k]? = some a) (hf : findA ars x = (k : Int)) (hp : a.pr = true) (ho : a.ow ≠ u) (hx : 0 ≤ x ∧ x < 18446744073709551616) : mayA ars u x w wr = false := by
  unfold mayA
  cases hw : isW8 w with
  | false => simp
  | true =>
    have hw := isW8_w hw
    have : allThere ars u x wr 0 w.toNat = false := by
      obtain ⟨n, hn⟩ : ∃ n, w.toNat = n + 1 := ⟨w.toNat - 1, by omega⟩
      rw [hn]
      unfold allThere
      have hx0 : IntKind.u64.wrap (x + ((0 : Nat) : Int)) = x := by rw [wrap_u64]; omega
      rw [hx0]
      have : thereA ars u x wr = false := by
        unfold thereA
        rw [hf]
        have e4 : ars[((k : Nat) : Int).toNat]? = some a := hk
        rw [e4]
        simp only [hp, Bool.not_true, Bool.false_or, show (a.ow == u) = false by simpa using ho, Bool.false_and, Bool.and_false]
      rw [this, Bool.false_and]
    rw [this]
    simp
theorem f3_true (l : Option Sl) (xs : List Ar) (hx : xs.length ≤ 9223372036854775807) (k t u o0 o1 : Int) (o2 : Bool) (o3 o4 o5 o6 : Int) (H : Heap) (hR : RS 5 E5 H l xs) (hX : ∀ x, x ∈ xs → RS 1 E8 H x.sl x.data) :
    ∃ H', f3 l k t u o0 o1 o2 o3 o4 o5 o6 H = some (true, H') := by
  rw [q3]
  obtain ⟨o, ys, H1, a1, a2, _⟩ := f8_x l xs hx H hR hX
  rw [a1, Ab.bs]
  obtain ⟨b, s, ars, H2, b1, b2, b3, b4, b5, b6⟩ := f9_x o ys H1 a2
  rw [b1, Ab.bs]
  have hn : ars.length ≤ 1000 := by have := a2.n; omega
  obtain ⟨own0, own1⟩ := own_get b3 t k hn
  have hC2 := a2.no b6
  cases hO : ownA ars t k with
  | false =>
    rw [own0 hO, Ab.bs]
    exact ⟨H2, rfl⟩
  | true =>
  obtain ⟨a, H3, c1, c2, c3, c4, c5, _⟩ := own1 hO
  have c5 : Kp (fun i => b ≤ i) H2 H3 := c5.mono fun i _ ⟨sd, e, f⟩ => b3.ge .ar i (by rw [f]; exact idO_of e)
  rw [c3, Ab.bs]
  simp only [Bool.not_true, cf]
  by_cases htu : t = u
  · rw [show (t == u) = true by simpa using htu, ct]
    exact ⟨H3, rfl⟩
  rw [show (t == u) = false by simpa using htu, cf]
  -- what Own looked at
  have hk0 : 0 ≤ k ∧ thrd t = true := by
    unfold ownA at hO
    simp only [Bool.and_eq_true, Bool.not_eq_true', decide_eq_false_iff_not] at hO
    exact ⟨by omega, hO.1⟩
  obtain ⟨k, rfl⟩ := Int.eq_ofNat_of_zero_le hk0.1
  have c1 : ars[k]? = some a := c1
  have hlt : k < ys.length := by have := (List.getElem?_eq_some_iff.1 c1).1; omega
  -- the law's areas lie below memory's blocks
  have hoB : ∀ sl, o = some sl → ys ≠ [] → sl.id < b := fun sl e h0 => by
    have := a2.r
    rw [e] at this
    exact Nat.lt_of_lt_of_le (RS.lt E5_len (by decide) this h0) b2
  have hR3 : RS 5 E5 H3 o ys := hC2.r.kp c5 fun sl e h0 => Nat.not_le_of_lt (hoB sl e h0)
  have hD3 : ∀ y, y ∈ ys → RS 1 E8 H3 y.sl y.data := fun y hy => by
    refine (hC2.d y hy).1.kp c5 fun sl e h0 => Nat.not_le_of_lt ?_
    have := (a2.d y hy).1
    rw [e] at this
    exact Nat.lt_of_lt_of_le (RS.lt E8_len (by decide) this h0) b2
  have hC3 : Cutd H3 o ys := ⟨a2.n, hR3, fun y hy => ⟨hD3 y hy, (a2.d y hy).2⟩⟩
  obtain ⟨sl, rfl, g1, g2, _⟩ := gets5 hR3 (List.getElem?_eq_getElem hlt)
  have g2' : H3.get sl.id (sl.off + ((k : Nat) : Int).toNat * 5 + 0) = some (.int .u64 ys[k].lo) := g2
  simp only [Ab.bs, g1, ct, g2', tInt]
  generalize hxa : IntKind.u64.wrap (ys[k].lo + o4.tmod 16) = x
  have hxr : 0 ≤ x ∧ x < 18446744073709551616 := by
    rw [← hxa, wrap_u64]
    exact ⟨Int.emod_nonneg _ (by decide), Int.emod_lt_of_pos _ (by decide)⟩
  have hn' : (ars.set k { a with ow := t }).length ≤ 1000 := by simpa using hn
  have c4 : MR H3 b b s (ars.set k { a with ow := t }) nils noRows := c4
  have hget : (ars.set k { a with ow := t })[k]? = some { a with ow := t } := List.getElem?_set_self (List.getElem?_eq_some_iff.1 c1).1
  have rd3 := c4.rd (by omega)
  obtain ⟨H4, d1, d2⟩ := f12_x (b, 0) (ars.set k { a with ow := t }) t x o5 false H3 rd3
  rw [d1, Ab.bs]
  dsimp only
  cases hm : mayA (ars.set k { a with ow := t }) t x o5 false with
  | false => exact ⟨H4, rfl⟩
  | true =>
  simp only [Bool.not_true, cf]
  have c44 := c4.no d2
  obtain ⟨s5, brs, H5, e1, e2, e3, e4, e5⟩ := f13_x (en := 3) (eE := E3) (some sl) ys (by have := a2.n; omega) H4 (hC3.no d2).r (hC3.no d2).src
  rw [e1, Ab.bs, f14_x _ brs x H5 (e2.rd (by have := a2.n; omega)), Ab.bs]
  have c45 := c44.no e5
  -- both find the same
  have hfind : findA brs x = findA (ars.set k { a with ow := t }) x := by
    unfold findA
    refine find_same x _ _ 0 (by simp; omega) fun j c d hc hd => ?_
    obtain ⟨z, z1, z2, z3, _⟩ := e4 j c hc
    rcases set_at hd with ⟨rfl, rfl, _⟩ | ⟨_, hd⟩
    · obtain ⟨z', y1, y2, y3, _⟩ := b5 j a c1
      rw [y1] at z1; cases z1
      refine has_of (e2.dt j c hc) (c44.dt j _ hget) ?_ ?_ x
      · show c.lo = a.lo; rw [z2, y2]
      · show c.data = a.data; rw [z3, y3]
    · obtain ⟨z', y1, y2, y3, _⟩ := b5 j d hd
      rw [y1] at z1; cases z1
      exact has_of (e2.dt j c hc) (b3.dt j d hd) (by rw [z2, y2]) (by rw [z3, y3]) x
  -- Own again
  have noOwn : ∀ (H' : Heap) (v : Int), MR H' b b s (ars.set k { a with ow := t }) nils noRows → f10 (some (b, 0)) v ((k : Nat) : Int) H' = some (false, H') := by
    intro H' v hM
    refine (own_get hM v _ hn').1 ?_
    unfold ownA
    have e4 : (ars.set k { a with ow := t })[((k : Nat) : Int).toNat]? = some { a with ow := t } := hget
    rw [e4]
    have : (t == -1) = false := by
      have := hk0.2
      unfold thrd at this
      simp only [Bool.and_eq_true, decide_eq_true_eq] at this
      simp; omega
    simp only [this, Bool.and_false]
  have rd5 := c45.rd (by omega)
  cases hfe : findA brs x == ((k : Nat) : Int) with
  | false =>
    -- not the area itself: what Load says does not matter
    have hdat : ∀ c, c ∈ ars.set k { a with ow := t } → c.data.length ≤ 1048576 := fun c hc => by
      obtain ⟨j, hj⟩ := List.mem_iff_getElem?.1 hc
      have key : ∀ (j : Nat) (c : Ar), ars[j]? = some c → c.data.length ≤ 1048576 := fun j c hj => by
        obtain ⟨z, y1, _, y3, _⟩ := b5 j c hj
        rw [y3]
        have := (a2.d z (List.mem_of_getElem? y1)).2
        omega
      rcases set_at hj with ⟨_, rfl, _⟩ | ⟨_, hj⟩
      · exact key k a c1
      · exact key j c hj
    obtain ⟨v, H6, k1, k2⟩ := f15_any c45 hn' hdat u x o5 (fun l hl => by
      have : l = [] := List.eq_of_mem_replicate hl
      rw [this]; simp)
    rw [k1, Ab.bs]
    simp only [hfe, Bool.not_false, ct]
    have m6 := c45.no k2
    rw [noOwn H6 u m6, Ab.bs]
    simp only [Bool.not_false, ct]
    rw [noOwn H6 t m6, Ab.bs]
    exact ⟨H6, rfl⟩
  | true =>
    have hf : findA (ars.set k { a with ow := t }) x = ((k : Nat) : Int) := by rw [← hfind]; simpa using hfe
    have no := fun wr => may_not (ars.set k { a with ow := t }) u x o5 wr k _ hget hf c2 htu hxr
    obtain ⟨H6, k1, k2⟩ := f15_no (b, 0) _ u x o5 H5 rd5 (no false)
    rw [k1, Ab.bs]
    simp only [hfe, Bool.not_true, cf, Bool.not_false, ct]
    have m6 := c45.no k2
    obtain ⟨H7, k3, k4⟩ := f16_no (b, 0) _ u x o5 o6 H6 (m6.rd (by omega)) (no true)
    rw [k3, Ab.bs]
    simp only [Bool.not_false, ct]
    have m7 := m6.no k4
    obtain ⟨H8, k5, k6⟩ := f17_no (b, 0) _ u x o5 o6 H7 (m7.rd (by omega)) (no true)
    rw [k5, Ab.bs]
    simp only [Bool.not_false, ct]
    have m8 := m7.no k6
    rw [noOwn H8 u m8, Ab.bs]
    simp only [Bool.not_false, ct]
    rw [noOwn H8 t m8, Ab.bs]
    exact ⟨H8, rfl⟩
theorem holds3 (Hp : Heap) (xs : List TV) (_hn : NoOwn Hp) (hxs : TShAll Try.prog Hp 12 Try.f3.params.toList xs) : fnA CC3 Try.f3.results.toList (bodyOf Try.f3) Bool xs Hp (fun x _ => x.cell.bind Cell.toBool) = some true := by
  have hp : Try.f3.params.toList = [22, 3, 3, 3, 25] := by kernel_rfl
  rw [hp] at hxs
  obtain ⟨x0, xr0, rfl, t0, hxs⟩ := hxs
  obtain ⟨x1, xr1, rfl, t1, hxs⟩ := hxs
  obtain ⟨x2, xr2, rfl, t2, hxs⟩ := hxs
  obtain ⟨x3, xr3, rfl, t3, hxs⟩ := hxs
  obtain ⟨x4, xr4, rfl, t4, hnil⟩ := hxs
  subst hnil
  obtain ⟨c0, rfl, s0⟩ := tsh_c t0 (by simp [Try.underlying22]) (by simp [Try.underlying22])
  obtain ⟨c1, rfl, s1⟩ := tsh_c t1 (by simp [Try.underlying3]) (by simp [Try.underlying3])
  obtain ⟨c2, rfl, s2⟩ := tsh_c t2 (by simp [Try.underlying3]) (by simp [Try.underlying3])
  obtain ⟨c3, rfl, s3⟩ := tsh_c t3 (by simp [Try.underlying3]) (by simp [Try.underlying3])
  obtain ⟨cs, rfl, s4⟩ := tsh_agg t4 Try.underlying25
  obtain ⟨l, zs, e0, hR, hX, _, hm⟩ := sh_slice E5 (fun x => RS 1 E8 Hp x.sl x.data) E5_len s0 Try.underlying22 (k := 5) (by kernel_rfl) (fun cs h => area_of cs h)
  obtain ⟨y1, e1, _⟩ := sh_int s1 Try.underlying3
  obtain ⟨y2, e2, _⟩ := sh_int s2 Try.underlying3
  obtain ⟨y3, e3, _⟩ := sh_int s3 Try.underlying3
  obtain ⟨o, rfl, _⟩ := cal_of cs s4
  cases e0; cases e1; cases e2; cases e3
  obtain ⟨H', h⟩ := f3_true l zs hm y1 y2 y3 o.kind o.t o.near o.inn o.at' o.w o.v Hp hR hX
  rw [f3_eq] at h
  exact law_of hN3 (fun v hv => by
    unfold dec3 at hv
    split at hv
    · cases hv; rfl
    · cases hv) h
end
end Go.Proofs.Ytdpmbfceadidkaa
