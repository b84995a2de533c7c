/- Layer 28: CatFences holds. -/
import Derived.Test.YthakpjkmianglaaCaI
import Derived.Test.YthakpjkmianglaaCaJ
namespace Go.Proofs.Ythakpjkmianglaa
open Go Go.Proofs.Ythakpjkmianglaa.Ab
set_option linter.unusedVariables false
set_option linter.unusedSimpArgs false
set_option maxRecDepth 100000
noncomputable section
theorem f10_x (i : Int) (k : Nat) (h1 : -1000 ≤ i) (h2 : i ≤ 1000) (H : Heap) : f10 i (k : Int) H = some (lessI k i, H) := by
  rw [q10]
  unfold lessI
  by_cases h : i > (k : Int)
  · rw [if_pos h, show decide (i > (k : Int)) = true by simpa using h, ct, wrap_i64 (by omega) (by omega)]
  · rw [if_neg h, show decide (i > (k : Int)) = false by simpa using h, cf]
/-- One element more. -/
theorem ap1 {α : Type} {n : Nat} {E : α → List Cell} (hE : ∀ x, (E x).length = n) (hn : 0 < n) {H1 H : Heap} {y : Option Sl} {l : List α} {by' : Nat} (k : Kp No H1 H) (ho : OS n E H y l) (hy : ∀ q, y = some q → H1.length ≤ q.id) (v : α) (hb : (l.length + 1) * by' ≤ most) :
    ∃ y' H', (H ++ [Blk.row (E v) false]).append n by' y (some ⟨H.length, 0, 1, 1, n⟩) = some (y', H') ∧ Kp No H1 H' ∧ OS n E H' y' (l ++ [v]) ∧ (∀ q, y' = some q → H1.length ≤ q.id) ∧ Kp (Of y) H H' ∧ Fr2 H.length y y' := by
  have kP : Kp No H (H ++ [Blk.row (E v) false]) := Kp.push1 _ _
  have xr : RS n E (H ++ [Blk.row (E v) false]) (some ⟨H.length, 0, 1, 1, n⟩) [v] := rs_new [v] (ro := false) (by rw [push_get]; simp) rfl
  obtain ⟨y1, H2, f1, f2, f3, f4⟩ := append_OS hE hn (by' := by') (ho.no kP) xr (by simpa using hb)
  have hl : (H ++ [Blk.row (E v) false]).length = H.length + 1 := by simp
  refine ⟨y1, H2, f1, (k.tr kP).trans f3 (fun _ h => h) (fun j hj hf => ?_), f2, fun q e => ?_, kP.trans f3 (fun _ h => absurd h (fun x => x)) (fun _ _ h => h), fun q e => ?_⟩
  · obtain ⟨q, e1, e2⟩ := hf
    have := hy q e1; omega
  · rcases f4 q e with ⟨q', e1, e2⟩ | e1
    · have := hy q' e1; omega
    · have := k.len; omega
  · rcases f4 q e with ⟨q', e1, e2⟩ | e1
    · exact .inl ⟨q', e1, e2⟩
    · exact .inr (by omega)
theorem erase_same {α : Type} (L : List α) (k : Nat) (hk : k < L.length) : (L.take (k + 1)).eraseIdx k = (L.take k).eraseIdx k := by
  have h2 : (L.take k).length = k := by rw [List.length_take]; omega
  rw [List.take_succ_eq_append_getElem hk, List.eraseIdx_append_of_length_le (by omega), h2, Nat.sub_self, List.eraseIdx_of_length_le (l := L.take k) (by omega)]
  simp
theorem erase_step {α : Type} (L : List α) (k i : Nat) (hi : i < L.length) (hne : i ≠ k) : (L.take (i + 1)).eraseIdx k = (L.take i).eraseIdx k ++ [L[i]] := by
  have h2 : (L.take i).length = i := by rw [List.length_take]; omega
  rw [List.take_succ_eq_append_getElem hi]
  by_cases h : k < i
  · rw [List.eraseIdx_append_of_lt_length (by omega)]
  · rw [List.eraseIdx_append_of_length_le (by omega), h2, List.eraseIdx_of_length_le (l := L.take i) (by omega)]
    congr 1
    rw [List.eraseIdx_of_length_le]
    simp; omega
theorem er_len {α : Type} (L : List α) (k i : Nat) (h : L.length < 1000) : ((L.take i).eraseIdx k).length < 1000 := by
  have h1 := List.length_eraseIdx_le (L.take i) k
  have h2 : (L.take i).length ≤ L.length := by rw [List.length_take]; omega
  omega
theorem loop3a {s : XS} {x : Ex} {H1 : Heap} (h0 : RX H1 s x) (hM : MayI x) (k : Nat) (hk : k < x.L.length) : ∀ (m n i : Nat) (y0 y1 : Option Sl) (H : Heap), i + m = x.L.length → Kp No H1 H → OS 9 E9 H y0 ((x.L.take i).eraseIdx k) → OS 1 EI H y1 (((x.Rf.take i).eraseIdx k).map (lessI k)) →
    (∀ q, y0 = some q → H1.length ≤ q.id) → (∀ q, y1 = some q → H1.length ≤ q.id) → (∀ q q', y0 = some q → y1 = some q' → q.id ≠ q'.id) →
    ∃ y0' y1' H', D3_7 (n + m + 1) (k : Int) s.l (x.L.length : Int) (i : Int) s.l s.r s.c s.e y0 y1 none none H = some (.exit 0, X3_7 (k : Int) s.l s.r s.c s.e y0' y1' none none H') ∧ Kp No H1 H' ∧
      RS 9 E9 H' y0' (x.L.eraseIdx k) ∧ RS 1 EI H' y1' ((x.Rf.eraseIdx k).map (lessI k))
  | 0, n, i, y0, y1, H, hm, kk, o0, o1, q0, q1, hd => by
    have g : decide ((i : Int) < (x.L.length : Int)) = false := by simp; omega
    rw [List.take_of_length_le (by omega)] at o0
    rw [List.take_of_length_le (by rw [hM.rl]; omega)] at o1
    exact ⟨y0, y1, H, by rw [D3_7_s, g, cf], kk, o0.rs, o1.rs⟩
  | m + 1, n, i, y0, y1, H, hm, kk, o0, o1, q0, q1, hd => by
    have g : decide ((i : Int) < (x.L.length : Int)) = true := by simp; omega
    have hi : i < x.L.length := by omega
    have hir : i < x.Rf.length := by rw [hM.rl]; exact hi
    have h := h0.no kk
    have hb := h.bl
    obtain ⟨sl, e0, g1, c0, c1, c2, c3, c4, c5, c6, c7, c8⟩ := gets9 h.l (List.getElem?_eq_getElem hi)
    rw [show n + (m + 1) + 1 = (n + m + 1) + 1 by omega, D3_7_s, g, ct]
    rw [show s.l.bind = (some sl).bind (β := AExit × St) by rw [e0]]
    simp only [Ab.bs, g1, ct, c0, c1, c2, c3, c4, c5, c6, c7, c8, tInt, tBool, i64_succ i (by omega)]
    by_cases hik : i = k
    · rw [show ((i : Int) == (k : Int)) = true by simp [hik], ct]
      subst hik
      rw [← erase_same _ _ hi] at o0
      rw [← erase_same _ _ hir] at o1
      exact loop3a h0 hM i hk m n (i + 1) y0 y1 H (by omega) kk o0 o1 q0 q1 hd
    · rw [show ((i : Int) == (k : Int)) = false by simp; omega, cf]
      obtain ⟨z0, G1, a1, a2, a3, a4, a5, a6⟩ := ap1 E9_len (by omega) (by' := 48) kk o0 q0 x.L[i] (by have := er_len x.L k i hb; simp [most]; omega)
      rw [← erase_step _ _ _ hi hik] at a3
      have a1' : (H ++ [Blk.row [Cell.int IntKind.i64 x.L[i].T, Cell.int IntKind.i64 x.L[i].K, Cell.int IntKind.u64 x.L[i].A, Cell.int IntKind.i64 x.L[i].W, Cell.bool x.L[i].ac, Cell.bool x.L[i].q, Cell.bool x.L[i].re, Cell.bool x.L[i].ex, Cell.int IntKind.i64 x.L[i].F] false]).append 9 48 y0 (some { id := List.length H, off := 0, len := 1, cap := 1, esz := 9 }) = some (z0, G1) := a1
      have o1' : OS 1 EI G1 y1 (((x.Rf.take i).eraseIdx k).map (lessI k)) := o1.kp a5 fun q e => by
        rintro ⟨q', e1, e2⟩
        exact hd q' q e1 e e2.symm
      have h1 := h0.no a2
      obtain ⟨sr, e1, g2, d0⟩ := gets1 h1.r (List.getElem?_eq_getElem hir)
      obtain ⟨z1, G2, b1, b2, b3, b4, b5, b6⟩ := ap1 EI_len (by omega) (by' := 8) a2 o1' q1 (lessI k x.Rf[i]) (by have := er_len x.Rf k i h.br; rw [List.length_map]; simp [most]; omega)
      have e2 : ((x.Rf.take i).eraseIdx k).map (lessI k) ++ [lessI k x.Rf[i]] = ((x.Rf.take (i + 1)).eraseIdx k).map (lessI k) := by
        rw [erase_step _ _ _ hir hik]; simp
      rw [e2] at b3
      have b1' : (G1 ++ [Blk.row [Cell.int IntKind.i64 (lessI k x.Rf[i])] false]).append 1 8 y1 (some { id := List.length G1, off := 0, len := 1, cap := 1, esz := 1 }) = some (z1, G2) := b1
      have hbd : -1000 ≤ x.Rf[i] ∧ x.Rf[i] ≤ 1000 := by
        have := hM.rd i _ (List.getElem?_eq_getElem hir)
        unfold rdOk hasX at this
        simp only [Bool.or_eq_true, beq_iff_eq, Bool.and_eq_true, decide_eq_true_eq] at this
        omega
      have hzd : ∀ q q', z0 = some q → y1 = some q' → q.id ≠ q'.id := fun q q' e3 e4 => by
        rcases a6 q e3 with ⟨q2, e5, e6⟩ | e5
        · rw [e6]; exact hd q2 q' e5 e4
        · subst e4
          have := o1.lt; omega
      have o0' : OS 9 E9 G2 z0 ((x.L.take (i + 1)).eraseIdx k) := a3.kp b5 fun q e => by
        rintro ⟨q', e3, e4⟩
        exact hzd q q' e e3 e4
      obtain ⟨y0', y1', H', r1, r2⟩ := loop3a h0 hM k hk m n (i + 1) z0 z1 G2 (by omega) b2 o0' b3 a4 b4 (fun q q' e3 e4 => by
        rcases b6 q' e4 with ⟨q2, e5, e6⟩ | e5
        · rw [e6]; exact hzd q q2 e3 e5
        · subst e3
          have := a3.lt; omega)
      refine ⟨y0', y1', H', ?_, r2⟩
      rw [a1', Ab.bs]
      rw [show s.r.bind = (some sr).bind (β := AExit × St) by rw [e1]]
      simp only [Ab.bs, g2, ct, d0, tInt, f10_x x.Rf[i] k hbd.1 hbd.2]
      rw [b1', Ab.bs]
      exact r1
theorem loop3b {s : XS} {x : Ex} {H1 : Heap} (h0 : RX H1 s x) (hM : MayI x) (k : Nat) (y0 y1 : Option Sl) : ∀ (m n i : Nat) (y : Option Sl) (H : Heap), i + m = x.Co.length → Kp No H1 H → OS 1 EI H y ((x.Co.take i).map (lessI k)) → (∀ q, y = some q → H1.length ≤ q.id) →
    ∃ y' H', D3_14 (n + m + 1) (k : Int) s.c (x.Co.length : Int) (i : Int) s.l s.r s.c s.e y0 y1 y none H = some (.exit 2, X3_14 (k : Int) s.l s.r s.c s.e y0 y1 y' none H') ∧ Kp No H1 H' ∧ RS 1 EI H' y' (x.Co.map (lessI k))
  | 0, n, i, y, H, hm, kk, o, hy => by
    have g : decide ((i : Int) < (x.Co.length : Int)) = false := by simp; omega
    rw [List.take_of_length_le (by omega)] at o
    exact ⟨y, H, by rw [D3_14_s, g, cf], kk, o.rs⟩
  | m + 1, n, i, y, H, hm, kk, o, hy => by
    have g : decide ((i : Int) < (x.Co.length : Int)) = true := by simp; omega
    have hi : i < x.Co.length := by omega
    have h := h0.no kk
    have hb := h.bc
    obtain ⟨sl, e0, g1, c0⟩ := gets1 h.c (List.getElem?_eq_getElem hi)
    have hbd : -1000 ≤ x.Co[i] ∧ x.Co[i] ≤ 1000 := by
      have := (hM.co x.Co[i] (List.getElem_mem hi)).1
      have := hM.n
      unfold hasX at *
      simp only [Bool.and_eq_true, decide_eq_true_eq] at *
      omega
    obtain ⟨z, G, a1, a2, a3, a4, a5, a6⟩ := ap1 EI_len (by omega) (by' := 8) kk o hy (lessI k x.Co[i]) (by rw [List.length_map, List.length_take]; simp [most]; omega)
    have e2 : (x.Co.take i).map (lessI k) ++ [lessI k x.Co[i]] = (x.Co.take (i + 1)).map (lessI k) := by
      rw [List.take_succ_eq_append_getElem hi, List.map_append]; rfl
    rw [e2] at a3
    have a1' : (H ++ [Blk.row [Cell.int IntKind.i64 (lessI k x.Co[i])] false]).append 1 8 y (some { id := List.length H, off := 0, len := 1, cap := 1, esz := 1 }) = some (z, G) := a1
    obtain ⟨y', H', r1, r2⟩ := loop3b h0 hM k y0 y1 m n (i + 1) z G (by omega) a2 a3 a4
    refine ⟨y', H', ?_, r2⟩
    rw [show n + (m + 1) + 1 = (n + m + 1) + 1 by omega, D3_14_s, g, ct]
    rw [show s.c.bind = (some sl).bind (β := AExit × St) by rw [e0]]
    simp only [Ab.bs, g1, ct, c0, tInt, f10_x x.Co[i] k hbd.1 hbd.2, a1', i64_succ i (by omega)]
    exact r1
def adDel (k : Nat) (l : List (Int × Int)) : List (Int × Int) := (l.filter fun p => p.1 != (k : Int) && p.2 != (k : Int)).map fun p => (lessI k p.1, lessI k p.2)
theorem adDel_step (k : Nat) (l : List (Int × Int)) (p : Int × Int) : adDel k (l ++ [p]) = adDel k l ++ (bif p.1 != (k : Int) && p.2 != (k : Int) then [(lessI k p.1, lessI k p.2)] else []) := by
  unfold adDel
  rw [List.filter_append, List.map_append]
  congr 1
  rw [List.filter_cons]
  cases p.1 != (k : Int) && p.2 != (k : Int) <;> rfl
theorem loop3c {s : XS} {x : Ex} {H1 : Heap} (h0 : RX H1 s x) (hM : MayI x) (k : Nat) (y0 y1 y2 : Option Sl) : ∀ (m n i : Nat) (y : Option Sl) (H : Heap), i + m = x.Ad.length → Kp No H1 H → OS 2 EP H y (adDel k (x.Ad.take i)) → (∀ q, y = some q → H1.length ≤ q.id) →
    ∃ y' H', D3_19 (n + m + 1) (k : Int) s.e (x.Ad.length : Int) (i : Int) y0 y1 y2 y H = some (.exit 4, X3_19 y0 y1 y2 y' H') ∧ Kp No H1 H' ∧ RS 2 EP H' y' (adDel k x.Ad)
  | 0, n, i, y, H, hm, kk, o, hy => by
    have g : decide ((i : Int) < (x.Ad.length : Int)) = false := by simp; omega
    rw [List.take_of_length_le (by omega)] at o
    exact ⟨y, H, by rw [D3_19_s, g, cf], kk, o.rs⟩
  | m + 1, n, i, y, H, hm, kk, o, hy => by
    have g : decide ((i : Int) < (x.Ad.length : Int)) = true := by simp; omega
    have hi : i < x.Ad.length := by omega
    have h := h0.no kk
    have hb := h.be
    obtain ⟨sl, e0, g1, c0, c1⟩ := gets2 h.e (List.getElem?_eq_getElem hi)
    have hbd : (-1000 ≤ x.Ad[i].1 ∧ x.Ad[i].1 ≤ 1000) ∧ (-1000 ≤ x.Ad[i].2 ∧ x.Ad[i].2 ≤ 1000) := by
      have := hM.ad x.Ad[i] (List.getElem_mem hi)
      have := hM.n
      unfold hasX at *
      simp only [Bool.and_eq_true, decide_eq_true_eq] at *
      omega
    have hst := adDel_step k (x.Ad.take i) x.Ad[i]
    rw [← List.take_succ_eq_append_getElem hi] at hst
    rw [show n + (m + 1) + 1 = (n + m + 1) + 1 by omega, D3_19_s, g, ct]
    rw [show s.e.bind = (some sl).bind (β := AExit × St) by rw [e0]]
    simp only [Ab.bs, g1, ct, c0, c1, tInt, i64_succ i (by omega)]
    cases h1 : x.Ad[i].1 != (k : Int) with
    | false =>
      rw [h1, Bool.false_and, cf, List.append_nil] at hst
      rw [← hst] at o
      rw [cf]
      exact loop3c h0 hM k y0 y1 y2 m n (i + 1) y H (by omega) kk o hy
    | true =>
      rw [ct]
      cases h2 : x.Ad[i].2 != (k : Int) with
      | false =>
        rw [h1, h2, Bool.and_false, cf, List.append_nil] at hst
        rw [← hst] at o
        rw [cf]
        exact loop3c h0 hM k y0 y1 y2 m n (i + 1) y H (by omega) kk o hy
      | true =>
        rw [h1, h2, Bool.and_true, ct] at hst
        have hl : (adDel k (x.Ad.take i)).length < 1000 := by
          unfold adDel
          rw [List.length_map]
          have := List.length_filter_le (fun p : Int × Int => p.1 != (k : Int) && p.2 != (k : Int)) (x.Ad.take i)
          rw [List.length_take] at this
          omega
        obtain ⟨z, G, a1, a2, a3, a4, a5, a6⟩ := ap1 EP_len (by omega) (by' := 16) kk o hy (lessI k x.Ad[i].1, lessI k x.Ad[i].2) (by simp [most]; omega)
        rw [← hst] at a3
        have a1' : (H ++ [Blk.row [Cell.int IntKind.i64 (lessI k x.Ad[i].1), Cell.int IntKind.i64 (lessI k x.Ad[i].2)] false]).append 2 16 y (some { id := List.length H, off := 0, len := 1, cap := 1, esz := 2 }) = some (z, G) := a1
        obtain ⟨y', H', r1, r2⟩ := loop3c h0 hM k y0 y1 y2 m n (i + 1) z G (by omega) a2 a3 a4
        refine ⟨y', H', ?_, r2⟩
        rw [ct]
        simp only [Ab.bs, f10_x x.Ad[i].1 k hbd.1.1 hbd.1.2, f10_x x.Ad[i].2 k hbd.2.1 hbd.2.2, a1']
        exact r1
theorem f3_x {H : Heap} {s : XS} {x : Ex} (k : Int) (hl : RS 9 E9 H s.l x.L) (hr : RS 1 EI H s.r x.Rf) (hc : RS 1 EI H s.c x.Co) (he : RS 2 EP H s.e x.Ad) : ∃ H', f3 s.l s.r s.c s.e k H = some (true, H') := by
  rw [q3]
  obtain ⟨a, b, c, d, e1, h1⟩ := f6_x hl hr hc he
  rw [e1, Ab.bs]
  dsimp only
  obtain ⟨y, H1, e2, k2, h2⟩ := f8_x h1
  dsimp only at e2
  rw [e2, Ab.bs]
  dsimp only
  obtain ⟨so, ok, H2, e3, t3, k3⟩ := f7_x h2
  dsimp only at e3
  rw [e3, Ab.bs]
  dsimp only
  rw [t3.ok]
  cases hO : (orderX (cutX x)).isSome with
  | false =>
    obtain ⟨H', e⟩ := f9_t H2
    exact ⟨H', by rw [Bool.not_false, ct, e]; rfl⟩
  | true =>
    rw [Bool.not_true, cf]
    cases hk0 : decide (k < 0) with
    | true =>
      obtain ⟨H', e⟩ := f9_t H2
      exact ⟨H', by rw [ct, e]; rfl⟩
    | false =>
      rw [cf]
      cases hk1 : decide (k ≥ slen a) with
      | true =>
        obtain ⟨H', e⟩ := f9_t H2
        exact ⟨H', by rw [ct, e]; rfl⟩
      | false =>
        rw [cf]
        have hls : slen a = ((cutX x).L.length : Int) := h1.l.slenEq
        rw [hls] at hk1
        simp only [decide_eq_false_iff_not] at hk0 hk1
        obtain ⟨q, rfl⟩ : ∃ q : Nat, k = (q : Int) := ⟨k.toNat, by omega⟩
        have hq : q < (cutX x).L.length := by omega
        have h3 := h1.no (k2.tr k3)
        obtain ⟨sl, p0, p1, p2, p3, _⟩ := getsE h3.l (hasX_nat hq)
        dsimp only at p0
        rw [show a.bind = (some sl).bind (β := Bool × Heap) by rw [p0]]
        simp only [Ab.bs, p1, ct, p3, tInt, bne]
        cases hK : (atE (cutX x).L q).K == 3 with
        | false =>
          obtain ⟨H', e⟩ := f9_t H2
          exact ⟨H', by rw [Bool.not_false, ct, e]; rfl⟩
        | true =>
          rw [Bool.not_true, cf]
          have hM : MayI (cutX x) := by
            have hO' := hO
            unfold orderX at hO'
            cases hI : internalX (cutX x) && atomicX (cutX x) with
            | false => rw [hI] at hO'; cases hO'
            | true =>
              unfold internalX at hI
              simp only [Bool.and_eq_true] at hI
              exact (may_iff _).1 hI.1.1
          have hb := h3.bl
          obtain ⟨n1, l1⟩ := LL3_7_of (cutX x).L.length (by omega) (q : Int) a (slen a) 0 a b c d none none none none H2
          obtain ⟨y0, y1, G1, r1, r2, r3, r4⟩ := loop3a h3 hM q hq (cutX x).L.length n1 0 none none H2 (by omega) (Kp.refl _ _) (by simp [OS]) (by simp [OS]) (by simp) (by simp) (by simp)
          have h4 := h3.no r2
          obtain ⟨n2, l2⟩ := LL3_14_of (cutX x).Co.length (by have := h4.bc; omega) (q : Int) c (slen c) 0 a b c d y0 y1 none none G1
          obtain ⟨y2, G2, s1, s2, s3⟩ := loop3b h4 hM q y0 y1 (cutX x).Co.length n2 0 none G1 (by omega) (Kp.refl _ _) (by simp [OS]) (by simp)
          have h5 := h4.no s2
          obtain ⟨n3, l3⟩ := LL3_19_of (cutX x).Ad.length (by have := h5.be; omega) (q : Int) d (slen d) 0 y0 y1 y2 none G2
          obtain ⟨y3, G3, t1, t2, t3'⟩ := loop3c h5 hM q y0 y1 y2 (cutX x).Ad.length n3 0 none G2 (by omega) (Kp.refl _ _) (by simp [OS, adDel]) (by simp)
          have lL : ((cutX x).L.eraseIdx q).length ≤ (cutX x).L.length := List.length_eraseIdx_le ..
          have lR : ((cutX x).Rf.eraseIdx q).length ≤ (cutX x).Rf.length := List.length_eraseIdx_le ..
          have lA : (adDel q (cutX x).Ad).length ≤ (cutX x).Ad.length := by
            unfold adDel; rw [List.length_map]; exact List.length_filter_le ..
          have hx : RX G3 ⟨y0, y1, y2, y3⟩ (delX (cutX x) q) := ⟨(r3.no s2).no t2, (r4.no s2).no t2, s3.no t2, t3', by show ((cutX x).L.eraseIdx q).length < 1000; omega, by show (((cutX x).Rf.eraseIdx q).map (lessI q)).length < 1000; rw [List.length_map]; have := h3.br; omega, by show ((cutX x).Co.map (lessI q)).length < 1000; rw [List.length_map]; exact h3.bc, by show (adDel q (cutX x).Ad).length < 1000; have := h3.be; omega⟩
          obtain ⟨yy, G4, e7, k7, h7⟩ := f8_x hx
          obtain ⟨so2, ok2, G5, e8, t8, k8⟩ := f7_x h7
          obtain ⟨G6, e9⟩ := f9_t G5
          dsimp only at e7 e8
          refine ⟨G6, ?_⟩
          rw [hls] at l1
          have hc4 : slen c = ((cutX x).Co.length : Int) := h4.c.slenEq
          have hd5 : slen d = ((cutX x).Ad.length : Int) := h5.e.slenEq
          rw [hc4] at l2
          rw [hd5] at l3
          have z1 := l1.trans r1
          have z2 := l2.trans s1
          have z3 := l3.trans t1
          rw [hls, z1, Ab.bs, J3_7_0]
          dsimp only
          rw [hc4, z2, Ab.bs, J3_14_0]
          dsimp only
          rw [hd5, z3, Ab.bs, J3_19_0, e7, Ab.bs]
          dsimp only
          rw [e8, Ab.bs]
          dsimp only
          rw [t8.ok, fences_law q hq (by simpa using hK) hO, ct, e9]
          rfl
theorem holds3 (Hp : Heap) (xs : List TV) (_hn : NoOwn Hp) (hxs : TShAll Try.prog Hp 12 Try.f3.params.toList xs) : fnA CC3 Try.f3.results.toList (bodyOf Try.f3) Bool xs Hp (fun x _ => x.cell.bind Cell.toBool) = some true := by
  have hp : Try.f3.params.toList = [26, 3] := by kernel_rfl
  rw [hp] at hxs
  obtain ⟨x0, xr0, rfl, t0, hxs⟩ := hxs
  obtain ⟨x1, xr1, rfl, t1, hnil⟩ := hxs
  subst hnil
  obtain ⟨cs, rfl, s0⟩ := tsh_agg t0 Try.underlying26
  obtain ⟨c1, rfl, s1⟩ := tsh_c t1 (by simp [Try.underlying3]) (by simp [Try.underlying3])
  obtain ⟨s, x, rfl, r0, r1, r2, r3⟩ := ex_of cs s0
  obtain ⟨k, e1, _⟩ := sh_int s1 Try.underlying3
  cases e1
  obtain ⟨H', h⟩ := f3_x k r0 r1 r2 r3
  rw [f3_eq] at h
  exact law_of hN3 (fun v hv => by
    unfold dec3 at hv
    split at hv
    · cases hv; rfl
    · cases hv) h
end
end Go.Proofs.Ythakpjkmianglaa
