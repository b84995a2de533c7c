/- Layer 9: the document's own memory: Drain, Flush, Store, Put, Own. -/
import Derived.Test.YtdpmbfceadidkaaMeU
namespace Go.Proofs.Ytdpmbfceadidkaa
open Go Go.Proofs.Ytdpmbfceadidkaa.Ab
set_option linter.unusedVariables false
set_option linter.unusedSimpArgs false
set_option maxRecDepth 100000
noncomputable section
theorem Rm.Is.step {R : Rm} {H H' : Heap} {L : Nat} {c c' : Co} (h : R.Is H L c) {ars' : List Ar} {rs' : List (Option Sl)} {rows' : List (List RSto)} (m : MRg 2 E2 H' R.b L R.s ars' rs' rows') (st : Stp R.b R.s R.ars R.rs ars' rs' H H')
    (hy : ∀ l, l ∈ rows' → ∀ x, x ∈ l → (∃ l0, l0 ∈ R.rows ∧ x ∈ l0) ∨ (OS 1 E8 H' x.sl x.bytes ∧ ∀ i, idO x.sl = some i → H.length ≤ i ∧ ¬ InM R.b R.s ars' rs' i)) (ha : nfs ars' = c'.ars) (hr : rows'.map (·.map RSto.abs) = c'.rows.map (·.map Sto.abs)) :
    Rm.Is ⟨R.b, R.s, ars', rs', rows'⟩ H' L c' ∧ R.To ⟨R.b, R.s, ars', rs', rows'⟩ H H' := by
  refine ⟨⟨m, fun l hl x hx => ?_, ha, hr⟩, ⟨rfl, st.k, st.ids, fun i hi => ?_⟩⟩
  · rcases hy l hl x hx with ⟨l0, h1, h2⟩ | ⟨h1, h2⟩
    · obtain ⟨y1, y2⟩ := h.y l0 h1 x h2
      refine ⟨OS.other y1 st.k fun i hi => (y2 i hi).2, fun i hi => ⟨(y2 i hi).1, fun hf => ?_⟩⟩
      rcases st.ids i hf with e | e
      · exact (y2 i hi).2 e
      · have := OS.idlt y1 hi; omega
    · refine ⟨h1, fun i hi => ⟨?_, (h2 i hi).2⟩⟩
      have := (h2 i hi).1
      have := h.ge (.inl ⟨.hd, rfl⟩ : R.In R.b)
      have := h.lt (.inl ⟨.hd, rfl⟩ : R.In R.b)
      omega
  · rcases hi with hi | ⟨l, hl, x, hx, hi⟩
    · rcases st.ids i hi with e | e
      · exact .inl (.inl e)
      · exact .inr e
    · rcases hy l hl x hx with ⟨l0, h1, h2⟩ | ⟨h1, h2⟩
      · exact .inl (.inr ⟨l0, h1, x, h2, hi⟩)
      · exact .inr (h2 i hi).1
theorem in_set {α : Type} {l : List α} {t : Nat} {y q : α} (h : q ∈ l.set t y) : q = y ∨ q ∈ l := by
  obtain ⟨k, hk⟩ := List.mem_iff_getElem?.1 h
  rcases set_at hk with ⟨_, e, _⟩ | ⟨_, hk⟩
  · exact .inl e
  · exact .inr (List.mem_of_getElem? hk)
theorem map_set' {α β : Type} (f : α → β) (l : List α) (t : Nat) (y : α) : (l.set t y).map f = (l.map f).set t (f y) := List.map_set ..
theorem thrd_lt {t : Int} (h : thrd t = false) : t < 0 ∨ t > 7 := by
  unfold thrd at h
  by_cases h0 : t < 0
  · exact .inl h0
  · rw [decide_eq_true (show t ≥ 0 by omega), Bool.true_and] at h
    have := of_decide_eq_false h
    omega
theorem thrd_nat {t : Nat} (h : t < 8) : decide (((t : Nat) : Int) < 0) = false ∧ decide (((t : Nat) : Int) > 7) = false := ⟨by simp, by simp; omega⟩
theorem rowR {R : Rm} {H : Heap} {L : Nat} {c : Co} (h : R.Is H L c) {t : Nat} (h8 : t < 8) : ∃ rt, R.rs[t]? = some rt := ⟨_, List.getElem?_eq_getElem (by rw [h.m.rl]; exact h8)⟩
theorem rdrain_x {R : Rm} {H : Heap} {L N : Nat} {c : Co} (h : R.Is H L c) (f : c.Fit N) (hN : N ≤ 1000000) (t : Int) :
    ∃ R' H', f40 R.p t H = some ((drainC c t).1, H') ∧ R'.Is H' L (drainC c t).2 ∧ R.To R' H H' := by
  unfold drainC
  rw [q40]
  cases ht : thrd t
  · refine ⟨R, H, ?_, h, Rm.To.no (Kp.refl _ _)⟩
    rcases thrd_lt ht with e | e
    · rw [decide_eq_true e]; rfl
    · rw [decide_eq_false (show ¬ t < 0 by omega), decide_eq_true e]; rfl
  · obtain ⟨i8, t, rfl, h8⟩ := inb8 ht
    obtain ⟨l, hl, h1, h2⟩ := f.row h8
    have hl' : c.rows[((t : Nat) : Int).toNat]? = some l := hl
    obtain ⟨q, hq, hqa⟩ := h.row hl
    obtain ⟨rt, hr⟩ := rowR h h8
    have hro := h.m.ro t _ _ hr hq
    have hs := hro.rs.slenEq
    have hrow : H.get R.b (0 + 1 + ((t : Nat) : Int).toNat * 1) = some (.slice rt) := head_row h.m hr
    rw [ct, hl', (thrd_nat h8).1, (thrd_nat h8).2]
    unfold Rm.p
    simp only [cf, Ab.bs, i8, ct, hrow, tSlice, hs]
    cases q with
    | nil =>
      have : l = [] := by cases l with
        | nil => rfl
        | cons a l => cases hqa
      rw [this]
      exact ⟨R, H, rfl, h, Rm.To.no (Kp.refl _ _)⟩
    | cons x q =>
      cases l with
      | nil => cases hqa
      | cons st l =>
        simp only [List.map_cons, List.cons.injEq] at hqa
        obtain ⟨hxa, hqa⟩ := hqa
        have hx1 : x.at' = st.at' := congrArg Prod.fst hxa
        have hx2 : x.bytes = bytesFrom st.v 0 st.w.toNat := congrArg Prod.snd hxa
        have hmem : x :: q ∈ R.rows := List.mem_of_getElem? hq
        obtain ⟨y1, y2⟩ := h.y _ hmem x (by simp)
        rw [hx2] at y1
        have gd := h2 st (by simp)
        have hw := isW8_w gd.w
        obtain ⟨sl, e0, g1, c0, c1⟩ := gets2 hro.rs (i := 0) (a := x) rfl
        have g1' : (inb 0 sl.len && sl.esz == 2) = true := g1
        have c0' : H.get sl.id (sl.off + 0) = some (.int .u64 x.at') := c0
        have c1' : H.get sl.id (sl.off + 0 + 1) = some (.slice x.sl) := c1
        obtain ⟨H1, w1, w2, w3⟩ := f55_x h.m (h.nl f) (h.dl f) x.at' st.v st.w.toNat (by omega) (by rw [hx1]; exact h.fnd (N := N) gd.f) y1 fun i hi => (y2 i hi).2
        have hro1 := w2.ro t _ _ hr hq
        have hrow1 : H1.get R.b (0 + 1 + ((t : Nat) : Int).toNat * 1) = some (.slice rt) := head_row w2 hr
        obtain ⟨s', s1, s2, s3⟩ := hro1.rs.subE E2_len 1 (by simp)
        have s2 : RS 2 E2 H1 s' q := by simpa using s2
        have hql : q.length = l.length := by simpa using congrArg List.length hqa
        have o0 : OS 2 E2 H1 none [] := rfl
        obtain ⟨r, H2, v1, v2, v3, v4⟩ := append_OS E2_len (by decide) (by' := 32) o0 s2 (by simp at h1; simp [most]; omega)
        obtain ⟨H3, p1, p2, p3⟩ := w2.setRow hr (v3.mono (D := Of rt) fun i _ ⟨_, e, _⟩ => nomatch e) v2 (fun i hi => by
          cases r with
          | none => cases hi
          | some sr =>
            cases hi
            rcases v4 sr rfl with ⟨_, e, _⟩ | e
            · cases e
            · exact .inr e)
        obtain ⟨u1, u2⟩ := h.step (c' := ⟨drained c.ars st, c.rows.set t l⟩) p2 (w3.trans p3) (fun l0 hl0 z hz => by
          rcases in_set hl0 with rfl | hl0
          · exact .inl ⟨_, hmem, List.mem_cons_of_mem _ (by simpa using hz)⟩
          · exact .inl ⟨l0, hl0, hz⟩) (by rw [← h.a]; rw [hx1]; exact drained_nf h.tru st) (by
          show (R.rows.set t _).map _ = (c.rows.set t l).map _
          rw [map_set', map_set', h.r]
          simp only [List.nil_append, hqa])
        refine ⟨_, H3, ?_, u1, u2⟩
        have hs0 : (((((x :: q).length : Nat) : Int)) == 0) = false := by simp; omega
        simp only [hs0, cf, e0, Ab.bs, g1', ct, c0', c1', tInt, tSlice, w1]
        subst e0
        simp only [hrow1, Ab.bs, tSlice]
        have s1 : Sl.sub (some sl) 1 none = some s' := s1
        rw [s1, Ab.bs, hro1.rs.esOkT, ct, v1, Ab.bs]
        simp only [p1, Ab.bs]
theorem rloop41 {L N : Nat} (hN : N ≤ 1000000) (t : Nat) (h8 : t < 8) (b : Nat) : ∀ (l : List Sto) (m k : Nat) (R : Rm) (c : Co) (H : Heap), R.b = b → R.Is H L c → c.Fit N → c.rows[t]? = some l → k + l.length ≤ 2000000 →
    ∃ R' H', (D41_2 (m + l.length + 1) (some (b, 0)) (t : Int) (k : Int) H).bind J41_2 = some (((k + l.length : Nat) : Int), H') ∧ R'.Is H' L ⟨l.foldl drained c.ars, c.rows.set t []⟩ ∧ R.To R' H H'
  | [], m, k, R, c, H, hb, h, f, hl, hk => by
    have ht : thrd (t : Int) = true := by simp [thrd]; omega
    obtain ⟨R1, H1, e1, e2, e3⟩ := rdrain_x h f hN (t : Int)
    have hl' : c.rows[((t : Nat) : Int).toNat]? = some [] := hl
    have hdr : drainC c (t : Int) = (false, c) := by
      unfold drainC; rw [ht, ct, hl']
    rw [hdr] at e1 e2
    refine ⟨R1, H1, ?_, ⟨e2.m, e2.y, e2.a, ?_⟩, e3⟩
    · have e1 : f40 (some (b, 0)) (t : Int) H = some (false, H1) := by rw [← hb]; exact e1
      rw [D41_2_s, e1, Ab.bs, cf, Ab.bs, J41_2_0]; rfl
    · rw [e2.r, set_self hl]
  | st :: l, m, k, R, c, H, hb, h, f, hl, hk => by
    have ht : thrd (t : Int) = true := by simp [thrd]; omega
    obtain ⟨R1, H1, e1, e2, e3⟩ := rdrain_x h f hN (t : Int)
    have f1 := drain_fit f (t : Int)
    have hl' : c.rows[((t : Nat) : Int).toNat]? = some (st :: l) := hl
    have hdr : drainC c (t : Int) = (true, ⟨drained c.ars st, c.rows.set t l⟩) := by
      unfold drainC; rw [ht, ct, hl']; rfl
    rw [hdr] at e1 e2 f1
    have hlt : t < c.rows.length := by rw [f.w]; exact h8
    obtain ⟨R2, H2, r1, r2, r3⟩ := rloop41 hN t h8 b l m (k + 1) R1 _ H1 (e3.b.trans hb) e2 f1 (List.getElem?_set_self hlt) (by simp at hk; omega)
    refine ⟨R2, H2, ?_, ?_, e3.trans r3⟩
    · have e1 : f40 (some (b, 0)) (t : Int) H = some (true, H1) := by rw [← hb]; exact e1
      rw [show m + (st :: l).length + 1 = (m + l.length + 1) + 1 by simp; omega, D41_2_s, e1, Ab.bs, ct, i64_succ k (by omega), r1]
      simp; omega
    · have : (c.rows.set t l).set t [] = c.rows.set t [] := List.set_set ..
      rw [← this]; exact r2
theorem rflush_x {R : Rm} {H : Heap} {L N : Nat} {c : Co} (h : R.Is H L c) (f : c.Fit N) (hN : N ≤ 1000000) (t : Int) :
    ∃ R' H', f41 R.p t H = some ((flushC c t).1, H') ∧ R'.Is H' L (flushC c t).2 ∧ R.To R' H H' := by
  rw [q41]
  unfold flushC
  cases ht : thrd t
  · obtain ⟨R1, H1, e1, e2, e3⟩ := rdrain_x h f hN t
    have hdr : drainC c t = (false, c) := by unfold drainC; rw [ht]; rfl
    rw [hdr] at e1 e2
    refine ⟨R1, H1, ?_, e2, e3⟩
    obtain ⟨n, e⟩ := LL41_2_of 0 (by omega) R.p t 0 H
    rw [e, D41_2_s, e1, Ab.bs, cf, Ab.bs, J41_2_0]; rfl
  · obtain ⟨_, t, rfl, h8⟩ := inb8 ht
    obtain ⟨l, hl, h1, h2⟩ := f.row h8
    have hl' : c.rows[((t : Nat) : Int).toNat]? = some l := hl
    rw [ct, hl']
    obtain ⟨n, e⟩ := LL41_2_of l.length (by omega) R.p (t : Int) 0 H
    obtain ⟨R', H', r1, r2, r3⟩ := rloop41 hN t h8 R.b l n 0 R c H rfl h f hl (by omega)
    refine ⟨R', H', ?_, r2, r3⟩
    rw [e]
    have r1 : (D41_2 (n + l.length + 1) R.p (t : Int) 0 H).bind J41_2 = _ := r1
    rw [r1]
    simp
theorem rput_x {R : Rm} {H : Heap} {L N : Nat} {c : Co} (h : R.Is H L c) (f : c.Fit N) (hN : N ≤ 1000000) (t x w v : Int) (hx : u64p x) (hv : u64p v) :
    ∃ R' H', f39 R.p t x w v H = some ((putC c t x w v).1, H') ∧ R'.Is H' L (putC c t x w v).2 ∧ R.To R' H H' := by
  have e1 : f43 R.p t x w true H = some (mayA c.ars t x w true, H) := by rw [← h.may]; exact f43_x (R.b, 0) R.ars t x w true H (h.m.rd (by have := h.nl f; omega)) hx
  rw [q39, e1, Ab.bs]
  unfold putC
  cases hm : mayA c.ars t x w true
  · exact ⟨R, H, rfl, h, Rm.To.no (Kp.refl _ _)⟩
  · obtain ⟨R2, H2, g1, g2, g3⟩ := rflush_x h f hN t
    have f2 := flush_fit f t
    obtain ⟨gd, ht⟩ := may_good (v := v) hm
    obtain ⟨B, H3, b1, b2, b3, b4⟩ := f54_x v w hv gd.w H2
    have g22 := g2.no b4
    have hw := isW8_w (w := w) gd.w
    have g3b : R2.b = R.b := g3.b
    obtain ⟨H4, w1, w2, w3⟩ := f55_x g22.m (g22.nl f2) (g22.dl f2) x v w.toNat (by omega) (g22.fnd (N := N) (gd.sh (flush_shape c t).symm).f) b2 (fun i hi hf => by
      have hge : H2.length ≤ i := by
        cases B with
        | none => cases hi
        | some sb => cases hi; exact b3 sb rfl
      have := g2.lt (.inl hf); omega)
    obtain ⟨u1, u2⟩ := g22.step (c' := ⟨writeN (flushC c t).2.ars x v 0 w.toNat, (flushC c t).2.rows⟩) w2 w3 (fun l0 hl0 z hz => .inl ⟨l0, hl0, hz⟩) (by rw [writeN_nf _ _ _ _ _ g22.tru, g22.a]) g22.r
    refine ⟨_, H4, ?_, u1, g3.trans ((Rm.To.no b4).trans u2)⟩
    have w1 : f55 R.p x B H3 = some ((), H4) := by rw [← w1]; show f55 (some (R.b, 0)) x B H3 = _; rw [g3.b]
    simp only [Bool.not_true, cf, g1, Ab.bs, b1, w1]
    rfl
theorem bytes_zx (v w : Int) (hw : isW8 w = true) : ∀ n i, i + n ≤ w.toNat → bytesFrom (zxv v w) i n = bytesFrom v i n
  | 0, _, _ => rfl
  | n + 1, i, h => by
    unfold bytesFrom
    rw [byte_zx v w hw i (by omega), bytes_zx v w hw n (i + 1) (by omega)]
theorem rstore_x {R : Rm} {H : Heap} {L N : Nat} {c : Co} (h : R.Is H L c) (f : c.Fit N) (hN : N < 65536) (t x w v : Int) (hx : u64p x) (hv : u64p v) :
    ∃ R' H', f38 R.p t x w v H = some ((storeC c t x w v).1, H') ∧ R'.Is H' L (storeC c t x w v).2 ∧ R.To R' H H' := by
  have e1 : f43 R.p t x w true H = some (mayA c.ars t x w true, H) := by rw [← h.may]; exact f43_x (R.b, 0) R.ars t x w true H (h.m.rd (by have := h.nl f; omega)) hx
  rw [q38, e1, Ab.bs]
  unfold storeC
  cases hm : mayA c.ars t x w true
  · exact ⟨R, H, rfl, h, Rm.To.no (Kp.refl _ _)⟩
  · obtain ⟨gd, ht⟩ := may_good (v := v) hm
    obtain ⟨i8, t, rfl, h8⟩ := inb8 ht
    obtain ⟨l, hl, h1, h2⟩ := f.row h8
    have hl' : c.rows[((t : Nat) : Int).toNat]? = some l := hl
    obtain ⟨q, hq, hqa⟩ := h.row hl
    have hql : q.length = l.length := by simpa using congrArg List.length hqa
    obtain ⟨rt, hr⟩ := rowR h h8
    have hro := h.m.ro t _ _ hr hq
    have hs := hro.rs.slenEq
    have hrow : H.get R.b (0 + 1 + ((t : Nat) : Int).toNat * 1) = some (.slice rt) := head_row h.m hr
    obtain ⟨B, H1, b1, b2, b3, b4⟩ := f54_x v w hv gd.w H
    have m1 := h.m.no b4
    have k2 := Kp.push1 H1 (Blk.row (E2 ⟨x, B, bytesFrom v 0 w.toNat⟩) false)
    have hro1 := m1.ro t _ _ hr hq
    obtain ⟨r, H2, a1, a2, a3, a4⟩ := append_OS E2_len (by decide) (by' := 32) (hro1.no k2) (row2 H1 ⟨x, B, bytesFrom v 0 w.toNat⟩) (by simp [most]; omega)
    have k12 : Kp (Of rt) H1 H2 := (k2.mono (D := Of rt) fun i _ hf => absurd hf (fun h => h)).trans a3 (fun _ h => h) fun _ _ h => h
    have rid : ∀ i, idO r = some i → idO rt = some i ∨ H1.length + 1 ≤ i := fun i hi => by
      cases r with
      | none => cases hi
      | some sr =>
        cases hi
        rcases a4 sr rfl with ⟨s0, f0, f1⟩ | f
        · exact .inl (by rw [f0]; show some s0.id = some sr.id; rw [f1])
        · exact .inr (by simpa using f)
    obtain ⟨H3, p1, p2, p3⟩ := m1.setRow hr k12 a2 (fun i hi => by
      rcases rid i hi with e | e
      · exact .inl e
      · exact .inr (by omega))
    have bid : ∀ i, idO B = some i → H.length ≤ i ∧ i < H1.length := fun i hi => ⟨by
      cases B with
      | none => cases hi
      | some sb => cases hi; exact b3 sb rfl, OS.idlt b2 hi⟩
    have hlt : t < R.rs.length := by rw [h.m.rl]; exact h8
    have nin : ∀ i, idO B = some i → ¬ InM R.b R.s R.ars (R.rs.set t r) i := fun i hi hf => by
      obtain ⟨y, hy⟩ := hf
      by_cases e : y = .row t
      · rw [(slot_row y hlt).1 e] at hy
        rcases rid i hy with e' | e'
        · have := h.m.lt (.row t) i (by simp only [idAt, hr, Option.bind_some]; exact e')
          have := (bid i hi).1; omega
        · have := (bid i hi).2; omega
      · rw [(slot_row y hlt).2 e] at hy
        have := h.m.lt y i hy
        have := (bid i hi).1; omega
    have hB3 : OS 1 E8 H3 B (bytesFrom v 0 w.toNat) := OS.other b2 p3.k fun i hi hf => by
      have := h.lt (.inl hf : R.In i)
      have := (bid i hi).1; omega
    obtain ⟨u1, u2⟩ := h.step (c' := ⟨c.ars, c.rows.set t (l ++ [⟨x, w, zxv v w⟩])⟩) p2 ((Stp.no b4).trans p3) (fun l0 hl0 z hz => by
      rcases in_set hl0 with rfl | hl0
      · rcases List.mem_append.1 hz with hz | hz
        · exact .inl ⟨q, List.mem_of_getElem? hq, hz⟩
        · simp at hz; subst hz
          exact .inr ⟨hB3, fun i hi => ⟨(bid i hi).1, nin i hi⟩⟩
      · exact .inl ⟨l0, hl0, hz⟩) h.a (by
      show (R.rows.set t _).map _ = (c.rows.set t _).map _
      rw [map_set', map_set', h.r]
      simp only [List.map_append, hqa]
      congr 2
      show [(x, bytesFrom v 0 w.toNat)] = [(x, bytesFrom (zxv v w) 0 w.toNat)]
      rw [bytes_zx v w gd.w _ _ (by omega)])
    rw [ct, hl']
    refine ⟨_, H3, ?_, u1, u2⟩
    have hs0 : decide (slen rt ≥ 65536) = false := by rw [hs]; simp; omega
    have sm : same R.b H H1 = true := b4.same1 (h.lt (.inl ⟨.hd, rfl⟩ : R.In R.b))
    unfold Rm.p
    simp only [Bool.not_true, cf, Ab.bs, i8, ct, hrow, tSlice, hs0, b1, sm]
    have a1 : (H1 ++ [Blk.row [Cell.int .u64 x, Cell.slice B] false]).append 2 32 rt (some { id := List.length H1, off := 0, len := 1, cap := 1, esz := 2 }) = some (r, H2) := a1
    simp only [a1, Ab.bs, p1]
/-! ### Own -/
def ownC (c : Co) (t k : Int) : Bool × Co :=
  bif ownA c.ars t k then match c.ars[k.toNat]? with
    | some a => (true, ⟨c.ars.set k.toNat { a with ow := t }, c.rows⟩)
    | none => (true, c)
  else (false, c)
theorem own_nf (l : List Ar) (t k : Int) : ownA (nfs l) t k = ownA l t k := by
  unfold ownA
  rw [nfs_at]
  cases l[k.toNat]? <;> rfl
theorem found_own {l : List Ar} {k : Nat} {a : Ar} (hk : l[k]? = some a) (t : Int) {x : Int} {i n : Nat} (h : Found l x i n) : Found (l.set k { a with ow := t }) x i n := by
  have hh : ∀ (j : Nat) (b d : Ar), l[j]? = some b → (l.set k { a with ow := t })[j]? = some d → ∀ x, b.has x = d.has x := fun j b d h1 h2 x => by
    rcases set_at h2 with ⟨rfl, rfl, _⟩ | ⟨_, h2⟩
    · rw [hk] at h1; cases h1; rfl
    · rw [h1] at h2; cases h2; rfl
  intro j h1 h2
  obtain ⟨m, b, e1, e2, e3⟩ := h j h1 h2
  have hlt : m < (l.set k { a with ow := t }).length := by simpa using (List.getElem?_eq_some_iff.1 e1).1
  refine ⟨m, _, List.getElem?_eq_getElem hlt, ?_, ?_⟩
  · rw [← hh m b _ e1 (List.getElem?_eq_getElem hlt)]; exact e2
  · rw [← e3]
    exact (find_same _ l _ 0 (by simp) fun j b d h1 h2 => hh j b d h1 h2 _).symm
theorem own_fit {c : Co} {N : Nat} (f : c.Fit N) (t k : Int) : (ownC c t k).2.Fit N := by
  unfold ownC
  cases ownA c.ars t k
  · exact f
  · rw [ct]
    cases hk : c.ars[k.toNat]? with
    | none => exact f
    | some a => exact ⟨by simpa using f.n, fun d hd => by
        rcases in_set hd with rfl | hd
        · exact f.d a (List.mem_of_getElem? hk)
        · exact f.d d hd, f.w, fun l hl => ⟨(f.g l hl).1, fun st hst => ⟨((f.g l hl).2 st hst).w, found_own hk t ((f.g l hl).2 st hst).f⟩⟩⟩
theorem nfs_own {l : List Ar} {k : Nat} (a : Ar) (t : Int) : nfs (l.set k { a with ow := t }) = (nfs l).set k { nfA a with ow := t } := by
  unfold nfs; rw [List.map_set]; rfl
theorem own_x {M : Mm} {H : Heap} {L N : Nat} {c : Co} (h : M.Is H L c) (f : c.Fit N) (t k : Int) :
    ∃ M' H', f10 M.p t k H = some ((ownC c t k).1, H') ∧ M'.Is H' L (ownC c t k).2 ∧ M.To M' H H' := by
  obtain ⟨o1, o2⟩ := own_get h.m t k (h.nl f)
  have ho : ownA c.ars t k = ownA M.ars t k := by rw [← h.a, own_nf]
  unfold ownC
  rw [ho]
  cases hO : ownA M.ars t k
  · exact ⟨M, H, o1 hO, h, Mm.To.no (Kp.refl _ _)⟩
  · obtain ⟨a, H', e1, e2, e3, e4, e5, e6⟩ := o2 hO
    have ec : c.ars[k.toNat]? = some (nfA a) := by rw [← h.a, nfs_at, e1]; rfl
    rw [ct, ec]
    refine ⟨⟨M.b, M.s, M.ars.set k.toNat { a with ow := t }, M.rs, M.rows⟩, H', e3, ⟨e4, by rw [nfs_own, h.a], h.r⟩, ⟨rfl, e5.mono fun i _ ⟨sl, q1, q2⟩ => ⟨.ar, by rw [q2]; exact idO_of q1⟩, fun i ⟨y, hy⟩ => .inl ⟨y, by rw [← e6]; exact hy⟩⟩⟩
theorem rown_x {R : Rm} {H : Heap} {L N : Nat} {c : Co} (h : R.Is H L c) (f : c.Fit N) (t k : Int) :
    ∃ R' H', f42 R.p t k H = some ((ownC c t k).1, H') ∧ R'.Is H' L (ownC c t k).2 ∧ R.To R' H H' := by
  have ho : ownA c.ars t k = ownA R.ars t k := by rw [← h.a, own_nf]
  have hg : H.get R.b (0 + 0) = some (.slice R.s) := by rw [get_of h.m.hd]; rfl
  have hs := h.m.ar.rs.slenEq
  have stay : ∀ q : Option (Bool × Heap), q = some (false, H) → ∃ R' H', q = some ((false, c).1, H') ∧ R'.Is H' L (false, c).2 ∧ R.To R' H H' := fun q e => ⟨R, H, e, h, Rm.To.no (Kp.refl _ _)⟩
  rw [q42]
  unfold ownC
  rw [ho]
  unfold ownA
  cases ht : thrd t
  · refine stay _ ?_
    rcases thrd_lt ht with e | e
    · rw [decide_eq_true e]; rfl
    · rw [decide_eq_false (show ¬ t < 0 by omega), decide_eq_true e]; rfl
  obtain ⟨i8, t, rfl, h8⟩ := inb8 ht
  rw [(thrd_nat h8).1, (thrd_nat h8).2]
  simp only [cf, Bool.true_and]
  by_cases h0 : k < 0
  · rw [decide_eq_true h0]
    exact stay _ rfl
  rw [decide_eq_false h0]
  unfold Rm.p
  simp only [cf, Bool.not_false, Bool.true_and, Ab.bs, hg, tSlice]
  obtain ⟨k, rfl⟩ := Int.eq_ofNat_of_zero_le (Int.not_lt.1 h0)
  by_cases h1 : ((k : Nat) : Int) ≥ slen R.s
  · rw [decide_eq_true h1]
    have hkk : R.ars[((k : Nat) : Int).toNat]? = none := List.getElem?_eq_none (by rw [hs] at h1; show R.ars.length ≤ k; omega)
    rw [hkk]
    exact stay _ rfl
  rw [decide_eq_false h1]
  have hlt : k < R.ars.length := by rw [hs] at h1; omega
  have hk := List.getElem?_eq_getElem hlt
  have hkk : R.ars[((k : Nat) : Int).toNat]? = some R.ars[k] := hk
  rw [hkk]
  obtain ⟨sl, hsl, g1, c0, c1, c2, c3, c4⟩ := gets5 h.m.ar.rs hk
  have c3' : H.get sl.id (sl.off + ((k : Nat) : Int).toNat * 5 + 3) = some (.bool R.ars[k].pr) := c3
  have c4' : H.get sl.id (sl.off + ((k : Nat) : Int).toNat * 5 + 4) = some (.int .i64 R.ars[k].ow) := c4
  simp only [cf, hsl, Ab.bs, g1, ct, c3', tBool]
  cases hpr : R.ars[k].pr
  · exact stay _ rfl
  simp only [Bool.not_true, cf, c4', Ab.bs, tInt, Bool.true_and]
  by_cases ho : R.ars[k].ow = -1
  · obtain ⟨sl', H', e, f1, f2, f3, f4⟩ := h.m.own hk ((t : Nat) : Int)
    rw [hsl] at e
    cases e
    have ec : c.ars[((k : Nat) : Int).toNat]? = some (nfA R.ars[k]) := by rw [← h.a, nfs_at, hkk]; rfl
    obtain ⟨u1, u2⟩ := h.step (c' := ⟨c.ars.set k { nfA R.ars[k] with ow := ((t : Nat) : Int) }, c.rows⟩) f2 ⟨f3.mono fun i _ ⟨sl, q1, q2⟩ => ⟨.ar, by rw [q2]; exact idO_of q1⟩, fun i ⟨y, hy⟩ => .inl ⟨y, by rw [← f4]; exact hy⟩⟩ (fun l0 hl0 z hz => .inl ⟨l0, hl0, hz⟩) (by rw [nfs_own, h.a]) h.r
    refine ⟨_, H', ?_, ?_, u2⟩
    · rw [ho, show ((-1 : Int) != -1) = false from rfl, cf, f1, Ab.bs]
      simp only [show ((-1 : Int) == -1) = true from rfl, ct]
      rw [ec]
    · simp only [ho, show ((-1 : Int) == -1) = true from rfl, ct]
      rw [ec]; exact u1
  · have e : (R.ars[k].ow == -1) = false := by simpa using ho
    unfold bne
    rw [e, Bool.not_false, ct]
    exact stay _ rfl
end
end Go.Proofs.Ytdpmbfceadidkaa
