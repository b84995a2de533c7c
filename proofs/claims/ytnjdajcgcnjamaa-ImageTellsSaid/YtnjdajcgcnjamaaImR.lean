/- Layer 4: the document's image is the program's. -/
import Derived.Test.YtnjdajcgcnjamaaImQ
namespace Go.Proofs.Ytnjdajcgcnjamaa
open Go Go.Proofs.Ytnjdajcgcnjamaa.Ab
set_option linter.unusedVariables false
set_option linter.unusedSimpArgs false
set_option maxRecDepth 100000
noncomputable section
def lastX (o : Sg) : List Sg → Sg
  | [] => o
  | s :: r => lastX (bif s.kind == 1 && isX s then s else o) r
def datas (dl : List Sg) : List Sg → List Sg
  | [] => dl
  | s :: r => datas (bif s.kind == 1 && !isX s then ins s dl else dl) r
def areas : List Sg → List (Int × Int × Bool)
  | [] => []
  | s :: r => bif s.kind != 1 then (s.addr, s.size, isX s) :: areas r else areas r
def insL (s : Sg) : Bool → List Sg → List Sg
  | b, [] => bif b then [] else [s]
  | b, t :: r => bif !b && decide (t.addr > s.addr) then s :: t :: insL s true r else t :: insL s b r
theorem insL_true (s : Sg) : ∀ l, insL s true l = l
  | [] => rfl
  | t :: r => by rw [insL, Bool.not_true, Bool.false_and, cf, insL_true s r]
theorem insL_ins (s : Sg) : ∀ l, insL s false l = ins s l
  | [] => rfl
  | t :: r => by
    rw [insL, Bool.not_false, Bool.true_and, ins, insL_true]
    by_cases g : t.addr > s.addr
    · rw [dT g, ct, if_pos g]
    · rw [dF g, cf, if_neg g, insL_ins s r]
theorem datas_sort : ∀ (l dl : List Sg), datas dl l = ((l.filter ld).filter fun s => !isX s).foldl (fun m s => ins s m) dl
  | [], dl => rfl
  | s :: r, dl => by
    rw [datas, datas_sort r, List.filter_cons]
    have : ld s = (s.kind == 1) := rfl
    rw [this]
    cases s.kind == 1 with
    | false => rfl
    | true =>
      rw [if_pos rfl, List.filter_cons]
      cases isX s <;> rfl
theorem tx_last : ∀ (l pre : List Sg) (many : Nat) (o : Sg), (tx pre many o (l.filter ld)).2 = true → (tx pre many o (l.filter ld)).1 = lastX o l
  | [], pre, many, o, h => rfl
  | s :: r, pre, many, o, h => by
    rw [List.filter_cons] at h ⊢
    have e : ld s = (s.kind == 1) := rfl
    rw [e] at h ⊢
    rw [lastX]
    cases hk : s.kind == 1 with
    | false =>
      rw [hk, if_neg Bool.false_ne_true] at h
      rw [if_neg Bool.false_ne_true]; exact tx_last r pre many o h
    | true =>
      rw [hk, if_pos rfl, tx] at h
      rw [if_pos rfl, tx]
      cases hp : pre.any (mt s) with
      | true => rw [hp] at h; cases h
      | false =>
        rw [hp, cf] at h
        rw [cf]
        cases hx : isX s with
        | true => rw [hx, ct] at h; exact tx_last r _ _ s h
        | false => rw [hx, cf] at h; exact tx_last r _ _ o h
theorem st_areas (l0 : List Sg) : ∀ (l : List Sg) (i : Nat) (ar : List (Int × Int × Bool)), (∀ s ∈ l, s.kind = 1 ∨ s.kind = 1610612737) → stP l0 i l = some ar → areas l = ar
  | [], i, ar, _, h => by cases h; rfl
  | s :: r, i, ar, hk, h => by
    unfold stP at h
    unfold areas
    have ih := fun ar => st_areas l0 r (i + 1) ar fun s hs => hk s (List.mem_cons_of_mem _ hs)
    rcases hk s (List.mem_cons_self ..) with e | e
    · have h1 : (s.kind != 1610612737) = true := by simp [e]
      have h2 : (s.kind != 1) = false := by simp [e]
      rw [h1, ct] at h
      rw [h2, cf]; exact ih ar h
    · have h1 : (s.kind != 1610612737) = false := by simp [e]
      have h2 : (s.kind != 1) = true := by simp [e]
      rw [h1, cf] at h
      rw [h2, ct]
      cases ha : aloneP l0 i s with
      | false => rw [ha] at h; cases h
      | true =>
        rw [ha, Bool.not_true, cf, Option.map_eq_some_iff] at h
        obtain ⟨ar', h1, rfl⟩ := h
        rw [ih ar' h1]
theorem ins_len (s : Sg) : ∀ m : List Sg, (ins s m).length = m.length + 1
  | [] => rfl
  | y :: l => by unfold ins; split <;> simp [ins_len s l]
section
variable {H0 : Heap} (t42 : Option Sl) (t43 : Int) (a0 a1 : Int) (a2 a3 a4 : Option Sl) (c0 c1 c2 c3 : Int) (c4 c5 c6 : Option Sl) (c7 : Int) (c8 c9 : Option Sl)
theorem loop14b {t : Option Sl} {l : List Sg} (hR : RS 5 ESg H0 t l) (hl : l.length < 1000) (i44 : Nat) (h44 : i44 < 1000) (k : Nat) (d0 d1 d2 d3 : Int) (d4 d6 : Option Sl) (d7 : Int) (d8 d9 : Option Sl) (s : Sg) : ∀ (m n i : Nat) (u : Option Sl) (b : Bool) (acc : List Sg) (H : Heap), i + m = l.length → acc.length ≤ 2 * i → Kp No H0 H → OS 5 ESg H u acc → New H0.length u →
    ∃ u' H', (D14_20 (n + m + 1) u b t42 t43 (i44 : Int) t (l.length : Int) (i : Int) a0 a1 a2 a3 a4 c0 c1 c2 c3 c4 c5 c6 c7 c8 c9 d0 d1 d2 d3 d4 t d6 d7 d8 d9 s.kind s.flags s.addr s.size s.sl H).bind (J14_20 k) = D14_11 k t42 t43 ((i44 + 1 : Nat) : Int) a0 a1 a2 a3 a4 c0 c1 c2 c3 c4 c5 c6 c7 c8 c9 d0 d1 d2 d3 d4 u' d6 d7 d8 d9 H' ∧ Kp No H0 H' ∧ OS 5 ESg H' u' (acc ++ insL s b (l.drop i)) ∧ New H0.length u'
  | 0, n, i, u, b, acc, H, hm, ha, hk, ho, hn => by
    rw [List.drop_eq_nil_of_le (by omega), D14_20_s, dF (by omega), cf, Ab.bs, J14_20_0, i64_succ i44 (by omega)]
    cases b with
    | true => exact ⟨u, H, by simp only [Bool.not_true, cf], hk, by simpa [insL] using ho, hn⟩
    | false =>
      obtain ⟨u2, H2, p1, k2, o2, n2⟩ := grow ESg_len (by decide) (by' := 56) hk u _ ho hn s (by simp [most]; omega)
      have p1' : (H ++ [Blk.row [Cell.int IntKind.i64 s.kind, Cell.int IntKind.i64 s.flags, Cell.int IntKind.u64 s.addr, Cell.int IntKind.u64 s.size, Cell.slice s.sl] false]).append 5 56 u (some ⟨H.length, 0, 1, 1, 5⟩) = some (u2, H2) := p1
      exact ⟨u2, H2, by simp only [Bool.not_false, ct, p1', Ab.bs], k2, o2, n2⟩
  | m + 1, n, i, u, b, acc, H, hm, ha, hk, ho, hn => by
    have hi : i < l.length := by omega
    obtain ⟨sl, e0, g1, q0, q1, q2, q3, q4⟩ := getsSg (hR.no hk) (List.getElem?_eq_getElem hi)
    rw [show n + (m + 1) + 1 = (n + m + 1) + 1 by omega, D14_20_s, dT (by omega), ct, List.drop_eq_getElem_cons hi, insL]
    rw [show t.bind = (some sl).bind (β := AExit × St) by rw [e0]]
    simp only [Ab.bs, g1, ct, q0, q1, q2, q3, q4, tInt, tSlice, i64_succ i (by omega)]
    generalize l[i] = x at *
    have gr : ∀ (w : Sg) (u : Option Sl) (acc : List Sg) (H : Heap), acc.length ≤ 2 * i + 1 → Kp No H0 H → OS 5 ESg H u acc → New H0.length u → ∃ u2 H2, (H ++ [Blk.row [Cell.int IntKind.i64 w.kind, Cell.int IntKind.i64 w.flags, Cell.int IntKind.u64 w.addr, Cell.int IntKind.u64 w.size, Cell.slice w.sl] false]).append 5 56 u (some ⟨H.length, 0, 1, 1, 5⟩) = some (u2, H2) ∧ Kp No H0 H2 ∧ OS 5 ESg H2 u2 (acc ++ [w]) ∧ New H0.length u2 :=
      fun w u acc H h1 h2 h3 h4 => grow ESg_len (by decide) (by' := 56) h2 u _ h3 h4 w (by simp [most]; omega)
    have ih := fun u b acc H => loop14b (t := t) hR hl i44 h44 k d0 d1 d2 d3 d4 d6 d7 d8 d9 s m n (i + 1) u b acc H (by omega)
    cases hb : (!b && decide (x.addr > s.addr)) with
    | true =>
      have hb2 : b = false ∧ decide (x.addr > s.addr) = true := by
        cases b
        · exact ⟨rfl, by simpa using hb⟩
        · cases hb
      obtain ⟨rfl, g⟩ := hb2
      obtain ⟨u1, H1, p1, k1, o1, n1⟩ := gr s u acc H (by omega) hk ho hn
      obtain ⟨u2, H2, p2, k2, o2, n2⟩ := gr x u1 _ H1 (by simp; omega) k1 o1 n1
      obtain ⟨u', H', e1, e2, e3, e4⟩ := ih u2 true _ H2 (by simp; omega) k2 o2 n2
      refine ⟨u', H', by simp only [Bool.not_false, ct, g, p1, p2, Ab.bs]; exact e1, e2, ?_, e4⟩
      simpa using e3
    | false =>
      obtain ⟨u2, H2, p2, k2, o2, n2⟩ := gr x u _ H (by omega) hk ho hn
      obtain ⟨u', H', e1, e2, e3, e4⟩ := ih u2 b _ H2 (by simp; omega) k2 o2 n2
      refine ⟨u', H', ?_, e2, by simpa using e3, e4⟩
      cases b with
      | true => simp only [Bool.not_true, cf, p2, Ab.bs]; exact e1
      | false =>
        rw [Bool.not_false, Bool.true_and] at hb
        simp only [Bool.not_false, ct, hb, cf, p2, Ab.bs]; exact e1
/-- What the loop over the segments leaves. -/
theorem loop14a {l : List Sg} (hR : RS 5 ESg H0 t42 l) (hl : l.length < 100) (hk : ∀ s ∈ l, 0 ≤ s.flags ∧ s.flags ≤ 7) (d7 : Int) (d8 d9 : Option Sl) : ∀ (m n i : Nat) (o : Sg) (dt st : Option Sl) (dl : List Sg) (ar : List (Int × Int × Bool)) (H : Heap), i + m = l.length → dl.length ≤ i → ar.length ≤ i → Kp No H0 H → OS 5 ESg H dt dl → OS 3 EAr H st ar → New H0.length st → (∀ p q, dt = some p → st = some q → p.id ≠ q.id) →
    ∃ dt' st' H', D14_11 (n + m + 1) t42 (l.length : Int) (i : Int) a0 a1 a2 a3 a4 c0 c1 c2 c3 c4 c5 c6 c7 c8 c9 o.kind o.flags o.addr o.size o.sl dt st d7 d8 d9 H =
        some (.exit 0, X14_11 a0 a1 a2 a3 a4 c0 c1 c2 c3 c4 c5 c6 c7 c8 c9 (lastX o (l.drop i)).kind (lastX o (l.drop i)).flags (lastX o (l.drop i)).addr (lastX o (l.drop i)).size (lastX o (l.drop i)).sl dt' st' d7 d8 d9 H') ∧
      Kp No H0 H' ∧ RS 5 ESg H' dt' (datas dl (l.drop i)) ∧ RS 3 EAr H' st' (ar ++ areas (l.drop i))
  | 0, n, i, o, dt, st, dl, ar, H, hm, hdl, har, k, hd, hs, hn, hsep => by
    rw [List.drop_eq_nil_of_le (by omega)]
    exact ⟨dt, st, H, by rw [D14_11_s, dF (by omega), cf]; rfl, k, hd.rs, by simpa [areas] using hs.rs⟩
  | m + 1, n, i, o, dt, st, dl, ar, H, hm, hdl, har, k, hd, hs, hn, hsep => by
    have hi : i < l.length := by omega
    obtain ⟨sl, e0, g1, q0, q1, q2, q3, q4⟩ := getsSg (hR.no k) (List.getElem?_eq_getElem hi)
    have hsk := hk _ (List.getElem_mem hi)
    rw [show n + (m + 1) + 1 = (n + m + 1) + 1 by omega, D14_11_s, dT (by omega), ct, List.drop_eq_getElem_cons hi, lastX, datas, areas]
    rw [show t42.bind = (some sl).bind (β := AExit × St) by rw [e0]]
    simp only [Ab.bs, g1, ct, q0, q1, q2, q3, q4, tInt, tSlice]
    generalize l[i] = s at *
    rw [isX_mod hsk]
    have ih := fun o dt st dl ar H => loop14a hR hl hk d7 d8 d9 m n (i + 1) o dt st dl ar H (by omega)
    cases hk1 : s.kind == 1 with
    | false =>
      have hk2 : (s.kind != 1) = true := by simp [bne, hk1]
      rw [hk2]
      obtain ⟨st2, H2, p1, o2, k2, n2⟩ := growK EAr_len (by decide) (by' := 24) st ar hs (s.addr, s.size, isX s) (by simp [most]; omega)
      have p1' : (H ++ [Blk.row [Cell.int IntKind.u64 s.addr, Cell.int IntKind.u64 s.size, Cell.bool (isX s)] false]).append 3 24 st (some ⟨H.length, 0, 1, 1, 3⟩) = some (st2, H2) := p1
      have kl := k.len
      have k02 : Kp No H0 H2 := k.trans k2 (fun _ h => h) fun j hj ⟨q, e, e2⟩ => by have := hn q e; omega
      have hd2 : OS 5 ESg H2 dt dl := hd.kp k2 fun q e ⟨p, e1, e2⟩ => hsep q p e e1 e2
      obtain ⟨dt', st', H', r1, r2, r3, r4⟩ := ih o dt st2 dl _ H2 (by omega) (by simp; omega) k02 hd2 o2 (fun q e => by
        rcases n2 q e with ⟨p, e1, e2⟩ | g
        · have := hn p e1; omega
        · omega) (fun p q e1 e2 e3 => by
        rcases n2 q e2 with ⟨p', e4, e5⟩ | g
        · exact hsep p p' e1 e4 (e3.trans e5)
        · subst e1; have := hd.lt; omega)
      refine ⟨dt', st', H', ?_, r2, r3, by simpa using r4⟩
      simp only [ct, p1', Ab.bs, i64_succ i (by omega), Bool.false_and, cf]
      exact r1
    | true =>
      have hk2 : (s.kind != 1) = false := by simp [bne, hk1]
      rw [hk2]
      cases hx : isX s with
      | true =>
        obtain ⟨dt', st', H', r1, r2, r3, r4⟩ := ih s dt st dl ar H (by omega) (by omega) k hd hs hn hsep
        refine ⟨dt', st', H', ?_, r2, r3, by simpa using r4⟩
        simp only [cf, ct, i64_succ i (by omega), Bool.true_and, Bool.not_true]
        exact r1
      | false =>
        obtain ⟨n1, hn1⟩ := LL14_20_of dl.length (by omega) none false t42 (l.length : Int) (i : Int) dt (dl.length : Int) 0 a0 a1 a2 a3 a4 c0 c1 c2 c3 c4 c5 c6 c7 c8 c9 o.kind o.flags o.addr o.size o.sl dt st d7 d8 d9 s.kind s.flags s.addr s.size s.sl H
        obtain ⟨u, H2, r1, k2, r2, n2⟩ := loop14b t42 (l.length : Int) a0 a1 a2 a3 a4 c0 c1 c2 c3 c4 c5 c6 c7 c8 c9 hd.rs (by omega) i (by omega) (n + m + 1) o.kind o.flags o.addr o.size o.sl st d7 d8 d9 s dl.length n1 0 none false [] H (by omega) (by simp) (Kp.refl _ _) rfl (fun _ h => by cases h)
        rw [List.drop_zero, List.nil_append, insL_ins] at r2
        obtain ⟨dt', st', H', s1, s2, s3, s4⟩ := ih o u st _ ar H2 (by rw [ins_len]; omega) (by omega) (k.tr k2) r2 (hs.no k2) hn (fun p q e1 e2 e3 => by
          have := n2 p e1; subst e2; have := hs.lt; omega)
        refine ⟨dt', st', H', ?_, s2, s3, by simpa using s4⟩
        simp only [cf, ct, hd.rs.slenEq, hn1, Bool.true_and, Bool.not_false, Bool.and_false]
        exact r1.trans s1
theorem loop14c {t : Option Sl} {l : List Sy} (hR : RS 4 ESy H0 t l) (hl : l.length < 1000) (hu : ∀ x ∈ l, u64r x.addr) {c : Sg} (hc : SgU c) (dt st : Option Sl) (en : Int) (tk : Option Sl) : ∀ (m n i : Nat) (fu : Option Sl) (fa : List Int) (H : Heap), i + m = l.length → fa.length ≤ i → Kp No H0 H → RS 1 E64 H fu fa →
    ∃ fu' H', D14_34 (n + m + 1) t (l.length : Int) (i : Int) a0 a1 a2 a3 a4 c0 c1 c2 c3 c4 c5 c6 c7 c8 c9 c.kind c.flags c.addr c.size c.sl dt st en fu tk H = some (.exit 4, X14_34 a0 a1 a2 a3 a4 c0 c1 c2 c3 c4 c5 c6 c7 c8 c9 c.kind c.flags c.addr c.size c.sl dt st en fu' tk H') ∧ Kp No H H' ∧ RS 1 E64 H' fu' (intoAll fa (funcsP c (l.drop i)))
  | 0, n, i, fu, fa, H, hm, ha, k, hr => by
    rw [List.drop_eq_nil_of_le (by omega)]
    exact ⟨fu, H, by rw [D14_34_s, dF (by omega), cf], Kp.refl _ _, hr⟩
  | m + 1, n, i, fu, fa, H, hm, ha, k, hr => by
    have hi : i < l.length := by omega
    obtain ⟨sl, e0, g1, q0, q1, q2, q3⟩ := getsSy (hR.no k) (List.getElem?_eq_getElem hi)
    have hxu := hu _ (List.getElem_mem hi)
    rw [show n + (m + 1) + 1 = (n + m + 1) + 1 by omega, D14_34_s, dT (by omega), ct, List.drop_eq_getElem_cons hi, funcsP]
    rw [show t.bind = (some sl).bind (β := AExit × St) by rw [e0]]
    simp only [Ab.bs, g1, ct, q0, q1, q2, q3, tInt, tStr, f20_x hc hxu, i64_succ i (by omega)]
    generalize l[i] = x at *
    have ih := fun fu fa H => loop14c (t := t) hR hl hu hc dt st en tk m n (i + 1) fu fa H (by omega)
    cases x.kind == 2 with
    | false =>
      simp only [cf, Bool.false_and]
      exact ih fu fa H (by omega) k hr
    | true =>
      simp only [ct, Bool.true_and]
      cases hasP c x.addr 1 with
      | false => simp only [cf]; exact ih fu fa H (by omega) k hr
      | true =>
        obtain ⟨u, H2, e1, k1, r1⟩ := f40_x hr (by omega) x.addr
        obtain ⟨fu', H', e2, k2, r2⟩ := ih u _ H2 (by have := into_len x.addr fa; omega) (k.tr k1) r1
        refine ⟨fu', H', ?_, k1.tr k2, r2⟩
        simp only [ct, e1, Ab.bs]; exact e2
theorem loop14d {s : FS} {f : Fl} (h0 : FR H0 s f) (hl : f.sg.length ≤ 100) (hlr : f.rl.length < 1000) (hu : ∀ s ∈ f.sg, SgU s) (hk : ∀ s ∈ f.sg, 0 ≤ s.flags ∧ s.flags ≤ 7) (hd : ∀ s ∈ f.sg, s.data.length ≤ 1000) (hrl : ∀ r ∈ f.rl, (0 ≤ r.sym ∧ r.sym < f.sy.length) ∧ u64r r.at') (hw : ∀ r : Rl, u64r (heldP f r).1) {c : Sg} (hc : SgU c) (dt st : Option Sl) (en : Int) (fu : Option Sl) : ∀ (m n i : Nat) (tk : Option Sl) (ta : List Int) (H : Heap), i + m = f.rl.length → ta.length ≤ i → Kp No H0 H → RS 1 E64 H tk ta →
    match takenP f c (f.rl.drop i) with
    | none => ∃ H', (D14_40 (n + m + 1) s.rl (f.rl.length : Int) (i : Int) s.M s.E s.sg s.sy s.rl c0 c1 c2 c3 c4 c5 c6 c7 c8 c9 c.kind c.flags c.addr c.size c.sl dt st en fu tk H).bind J14_40 = some ((0, 0, 0, 0, none, none, none, 0, none, none, 20), H') ∧ Kp No H H'
    | some l => ∃ tk' H', (D14_40 (n + m + 1) s.rl (f.rl.length : Int) (i : Int) s.M s.E s.sg s.sy s.rl c0 c1 c2 c3 c4 c5 c6 c7 c8 c9 c.kind c.flags c.addr c.size c.sl dt st en fu tk H).bind J14_40 = some ((c.kind, c.flags, c.addr, c.size, c.sl, dt, st, en, fu, tk', 0), H') ∧ Kp No H H' ∧ RS 1 E64 H' tk' (intoAll ta l)
  | 0, n, i, tk, ta, H, hm, ha, k, hr => by
    rw [List.drop_eq_nil_of_le (by omega)]
    exact ⟨tk, H, by rw [D14_40_s, dF (by omega), cf, Ab.bs, J14_40_1], Kp.refl _ _, hr⟩
  | m + 1, n, i, tk, ta, H, hm, ha, k, hr => by
    have hi : i < f.rl.length := by omega
    have h := h0.no k
    obtain ⟨sl, e0, g1, q0, q1, q2⟩ := getsRl h.rl (List.getElem?_eq_getElem hi)
    obtain ⟨hx1, hx2⟩ := hrl _ (List.getElem_mem hi)
    have e41 := f41_x h hl hu hk hd hx1 hx2
    rw [show n + (m + 1) + 1 = (n + m + 1) + 1 by omega, D14_40_s, dT (by omega), ct, List.drop_eq_getElem_cons hi, takenP]
    rw [show s.rl.bind = (some sl).bind (β := AExit × St) by rw [e0]]
    simp only [Ab.bs, g1, ct, q0, q1, q2, tInt, e41, i64_succ i (by omega), f20_x hc (hw _)]
    generalize f.rl[i] = x at *
    have ih := fun tk ta H => loop14d h0 hl hlr hu hk hd hrl hw hc dt st en fu m n (i + 1) tk ta H (by omega)
    cases (heldP f x).2 with
    | false => exact ⟨H, by simp only [Bool.not_false, ct, Ab.bs, J14_40_0], Kp.refl _ _⟩
    | true =>
      simp only [Bool.not_true, cf]
      cases hv : hasP c (heldP f x).1 1 with
      | false =>
        have ih1 := ih tk ta H (by omega) k hr
        simp only [cf, hv]
        cases ht : takenP f c (f.rl.drop (i + 1)) with
        | none => rw [ht] at ih1; exact ih1
        | some l => rw [ht] at ih1; exact ih1
      | true =>
        obtain ⟨u, H2, e1, k1, r1⟩ := f40_x hr (by omega) (heldP f x).1
        have ih1 := ih u _ H2 (by have := into_len (heldP f x).1 ta; omega) (k.tr k1) r1
        simp only [ct, e1, Ab.bs, hv]
        cases ht : takenP f c (f.rl.drop (i + 1)) with
        | none =>
          rw [ht] at ih1
          obtain ⟨H', e2, k2⟩ := ih1
          exact ⟨H', e2, k1.tr k2⟩
        | some l =>
          rw [ht] at ih1
          obtain ⟨tk', H', e2, k2, r2⟩ := ih1
          exact ⟨tk', H', e2, k1.tr k2, r2⟩
end
theorem IR0 (H : Heap) : IR H 0 0 0 0 none none none 0 none none im0 := ⟨rfl, rfl, rfl, rfl, rfl, ⟨[], rfl, rfl, (fun _ h => by cases h)⟩, rfl, rfl, rfl, rfl⟩
theorem f14_x {H : Heap} {s : FS} {f : Fl} (h : FR H s f) (hf : FOk f) (hcut : cutOk f) :
    ∃ k fl ad sz sd dt st en fu tk H', f14 s.M s.E s.sg s.sy s.rl H = some ((k, fl, ad, sz, sd, dt, st, en, fu, tk, (ofP f).1), H') ∧ Kp No H H' ∧ IR H' k fl ad sz sd dt st en fu tk (ofP f).2 := by
  obtain ⟨H1, e1, k1⟩ := f36_x h
  have bad : ∀ {e : Int} {G : Heap} (q : f14 s.M s.E s.sg s.sy s.rl H = some ((0, 0, 0, 0, none, none, none, 0, none, none, e), G)) (g : Kp No H G) (ho : ofP f = (e, im0)),
      ∃ k fl ad sz sd dt st en fu tk H', f14 s.M s.E s.sg s.sy s.rl H = some ((k, fl, ad, sz, sd, dt, st, en, fu, tk, (ofP f).1), H') ∧ Kp No H H' ∧ IR H' k fl ad sz sd dt st en fu tk (ofP f).2 := by
    intro e G q g ho
    rw [ho]
    exact ⟨_, _, _, _, _, _, _, _, _, _, G, q, g, IR0 G⟩
  cases hm : mayF f with
  | false => exact bad (e := 20) (by rw [q14, e1, Ab.bs]; simp only [hm, Bool.not_false, ct]) k1 (by unfold ofP; rw [hm]; rfl)
  | true =>
  cases hM : s.M != 62 with
  | true => exact bad (e := 20) (by rw [q14, e1, Ab.bs]; simp only [hm, hM, Bool.not_true, cf, ct]) k1 (by unfold ofP; rw [hm, ← h.m, hM]; rfl)
  | false =>
  obtain ⟨_, l1, l2, l3, _, _, hrl⟩ := may_ok hm hf
  have hkm := kinds_may hm
  have h1 := h.no k1
  have e2 := f37_x h1 (by omega) hf.sg (fun x hx => (hkm x hx).1)
  cases hz : sizedP f with
  | false => exact bad (e := 23) (by rw [q14, e1, Ab.bs]; simp only [hm, hM, Bool.not_true, cf, e2, hz, Ab.bs, Bool.not_false, ct]) k1 (by unfold ofP; rw [hm, ← h.m, hM, hz]; rfl)
  | true =>
  have hszs : ∀ x ∈ f.sg, SgU x ∧ szOk x = true := by
    unfold sizedP at hz
    simp only [Bool.and_eq_true, List.all_eq_true] at hz
    exact fun x hx => ⟨hf.sg x hx, hz.2.2.2.1 x hx⟩
  have e3 := f38_x h1 (by omega) hszs (fun x hx => (hkm x hx).2) hcut
  cases ht : (textP (loadsP f)).2 with
  | false => exact bad (e := 21) (by rw [q14, e1, Ab.bs]; simp only [hm, hM, Bool.not_true, cf, e2, hz, Ab.bs, e3, ht, Bool.not_false, ct]) k1 (by unfold ofP; rw [hm, ← h.m, hM, hz, ht]; rfl)
  | true =>
  have e4 := f39_x h1 (by omega) hszs (fun x hx => (hkm x hx).1)
  cases hst : stP f.sg 0 f.sg with
  | none => exact bad (e := 25) (by rw [q14, e1, Ab.bs]; simp only [hm, hM, Bool.not_true, cf, e2, hz, Ab.bs, e3, ht, e4, hst, Bool.not_false, ct, Option.isSome_none]) k1 (by unfold ofP; rw [hm, ← h.m, hM, hz, ht, hst]; rfl)
  | some ar =>
  have har := st_areas f.sg f.sg 0 ar (fun x hx => (hkm x hx).1) hst
  obtain ⟨n5, hn5⟩ := LL14_11_of f.sg.length (by omega) s.sg (f.sg.length : Int) 0 s.M s.E s.sg s.sy s.rl 0 0 0 0 none none none 0 none none 0 0 0 0 none none none s.E none none H1
  obtain ⟨dt, st, H5, e5, k5, rd, rs⟩ := loop14a s.sg s.M s.E s.sg s.sy s.rl 0 0 0 0 none none none 0 none none h1.sg (by omega) (fun x hx => (hkm x hx).2) s.E none none f.sg.length n5 0 z0 none none [] [] H1 (by omega) (by simp) (by simp) (Kp.refl _ _) rfl rfl (fun _ h => by cases h) (fun _ _ h => by cases h)
  rw [List.drop_zero] at e5 rd rs
  have hlx : lastX z0 f.sg = (textP (loadsP f)).1 := (tx_last f.sg [] 0 z0 ht).symm
  have hda : datas [] f.sg = sortP ((loadsP f).filter fun s => !isX s) := datas_sort f.sg []
  rw [hlx] at e5
  rw [hda] at rd
  rw [har, List.nil_append] at rs
  obtain ⟨c, hc⟩ : ∃ c, c = (textP (loadsP f)).1 := ⟨_, rfl⟩
  rw [← hc] at e5
  have hlm : ∀ x ∈ loadsP f, x ∈ f.sg := fun x hx => (List.mem_filter.1 hx).1
  have hcm : c = z0 ∨ c ∈ loadsP f := by rw [hc]; exact tx_mem _ _ _ _
  have hcu : SgU c := by
    rcases hcm with e | e
    · rw [e]; unfold SgU u64r z0; simp
    · exact hf.sg c (hlm c e)
  have hcd : RS 1 E8 H c.sl c.data := by
    rcases hcm with e | e
    · rw [e]; exact rfl
    · exact h.sd c (hlm c e)
  have hEu : u64r s.E := by rw [h.e]; exact hf.e
  have e6 : f20 c.kind c.flags c.addr c.size c.sl s.E 1 H5 = some (hasP c f.E 1, H5) := by rw [← h.e]; exact f20_x hcu hEu H5
  have hq : f14 s.M s.E s.sg s.sy s.rl H = bif !hasP c f.E 1 then some ((0, 0, 0, 0, none, none, none, 0, none, none, 7), H5) else (LL14_34 s.sy (f.sy.length : Int) 0 s.M s.E s.sg s.sy s.rl 0 0 0 0 none none none 0 none none c.kind c.flags c.addr c.size c.sl dt st s.E none none H5).bind J14_34 := by
    have e5' : D14_11 (n5 + f.sg.length + 1) s.sg (f.sg.length : Int) 0 s.M s.E s.sg s.sy s.rl 0 0 0 0 none none none 0 none none 0 0 0 0 none none none s.E none none H1 = _ := e5
    rw [q14, e1, Ab.bs]
    simp only [hm, hM, Bool.not_true, cf, e2, hz, Ab.bs, e3, ht, e4, hst, Option.isSome_some, h1.sg.slenEq, hn5, e5', J14_11_0, e6, h1.sy.slenEq]
  cases hh : hasP c f.E 1 with
  | false => exact bad (G := H5) (by rw [hq, hh]; rfl) (k1.tr k5) (by unfold ofP; rw [hm, ← h.m, hM, hz, ht, hst]; simp only [← hc, hh]; rfl)
  | true =>
  rw [hh, Bool.not_true, cf] at hq
  obtain ⟨n7, hn7⟩ := LL14_34_of f.sy.length (by omega) s.sy (f.sy.length : Int) 0 s.M s.E s.sg s.sy s.rl 0 0 0 0 none none none 0 none none c.kind c.flags c.addr c.size c.sl dt st s.E none none H5
  obtain ⟨fu, H7, e7, k7, r7⟩ := loop14c s.M s.E s.sg s.sy s.rl 0 0 0 0 none none none 0 none none (h1.no k5).sy (by omega) (fun x hx => (hf.sy x hx).1) hcu dt st s.E none f.sy.length n7 0 none [] H5 (by omega) (by simp) (Kp.refl _ _) rfl
  rw [List.drop_zero, all_rising] at r7
  rw [hn7, show D14_34 (n7 + f.sy.length + 1) s.sy (f.sy.length : Int) 0 s.M s.E s.sg s.sy s.rl 0 0 0 0 none none none 0 none none c.kind c.flags c.addr c.size c.sl dt st s.E none none H5 = _ from e7, Ab.bs, J14_34_0] at hq
  have h7 := (h1.no k5).no k7
  obtain ⟨n8, hn8⟩ := LL14_40_of f.rl.length (by omega) s.rl (f.rl.length : Int) 0 s.M s.E s.sg s.sy s.rl 0 0 0 0 none none none 0 none none c.kind c.flags c.addr c.size c.sl dt st s.E fu none H7
  have r8 := loop14d 0 0 0 0 none none none 0 none none h7 (by omega) (by omega) hf.sg (fun x hx => (hkm x hx).2) hcut (fun r hr => ⟨(hrl r hr).s, hf.rl r hr⟩) (fun r => held_u (by unfold u64r; rw [wrap_u64]; omega) _) hcu dt st s.E fu f.rl.length n8 0 none [] H7 (by omega) (by simp) (Kp.refl _ _) rfl
  rw [List.drop_zero] at r8
  rw [h7.rl.slenEq, hn8] at hq
  have K := (k1.tr k5).tr k7
  cases hta : takenP f c f.rl with
  | none =>
    rw [hta] at r8
    obtain ⟨H8, e8, k8⟩ := r8
    exact bad (G := H8) (hq.trans e8) (K.tr k8) (by unfold ofP; rw [hm, ← h.m, hM, hz, ht, hst]; simp only [← hc, hh, hta]; rfl)
  | some l =>
    rw [hta] at r8
    obtain ⟨tk, H8, e8, k8, r9⟩ := r8
    rw [all_rising] at r9
    have ho : ofP f = (0, ⟨c, sortP ((loadsP f).filter fun s => !isX s), ar, f.E, risingP (funcsP c f.sy), risingP l⟩) := by
      unfold ofP; rw [hm, ← h.m, hM, hz, ht, hst]; simp only [← hc, hh, hta]; rfl
    have K8 := K.tr k8
    rw [ho]
    refine ⟨_, _, _, _, _, _, _, _, _, _, H8, hq.trans e8, K8, ⟨rfl, rfl, rfl, rfl, hcd.no K8, ⟨_, (rd.no k7).no k8, rfl, fun x hx => ?_⟩, (rs.no k7).no k8, h.e, r7.no k8, r9⟩⟩
    exact (h.sd x (hlm x (List.mem_filter.1 (mem_sortP hx)).1)).no K8
end
end Go.Proofs.Ytnjdajcgcnjamaa
