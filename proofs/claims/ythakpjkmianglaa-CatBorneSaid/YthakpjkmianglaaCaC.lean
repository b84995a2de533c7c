/- Layer 28: an execution is looked at. -/
import Derived.Test.YthakpjkmianglaaCaB
namespace Go.Proofs.Ythakpjkmianglaa
open Go Go.Proofs.Ythakpjkmianglaa.Ab
set_option linter.unusedVariables false
set_option linter.unusedSimpArgs false
set_option maxRecDepth 100000
noncomputable section
theorem fill30 (H : Heap) (a : Blk) : (H ++ [Blk.hole, Blk.hole, Blk.hole]).fill (H.length + 0) a = some (H ++ [a, Blk.hole, Blk.hole]) := by
  unfold Heap.fill
  have : (H ++ [Blk.hole, Blk.hole, Blk.hole])[H.length + 0]? = some Blk.hole := by simp
  rw [this]; simp
theorem fill31 (H : Heap) (a b : Blk) : (H ++ [a, Blk.hole, Blk.hole]).fill (H.length + 1) b = some (H ++ [a, b, Blk.hole]) := by
  unfold Heap.fill
  have : (H ++ [a, Blk.hole, Blk.hole])[H.length + 1]? = some Blk.hole := by simp
  rw [this]; simp
theorem fill32 (H : Heap) (a b c : Blk) : (H ++ [a, b, Blk.hole]).fill (H.length + 2) c = some (H ++ [a, b, c]) := by
  unfold Heap.fill
  have : (H ++ [a, b, Blk.hole])[H.length + 2]? = some Blk.hole := by simp
  rw [this]; simp
def CI (n : Int) : Cell := .int .i64 n
theorem splice_map (l : List Int) (k : Nat) (c : Int) (hk : k < l.length) : splice (l.map CI) (0 + k * 1) [CI c] = (l.set k c).map CI := by
  unfold splice
  apply List.ext_getElem?
  intro i
  simp only [Nat.zero_add, Nat.mul_one, List.length_singleton]
  rw [List.getElem?_append]
  simp only [List.length_take, List.length_map, Nat.min_eq_left (Nat.le_of_lt hk), List.getElem?_map, List.getElem?_set]
  by_cases h1 : i < k
  · simp [h1, show k ≠ i by omega]
  · rw [if_neg h1]
    by_cases h2 : k = i
    · subst h2; simp [hk]
    · rw [if_neg h2, List.getElem?_append_right (by simp; omega), List.getElem?_drop, List.getElem?_map]
      simp only [List.length_singleton]
      rw [show k + 1 + (i - k - 1) = i by omega]
theorem coFrom_app : ∀ (l : List Int) (a : Int) (k : Nat), coFrom (l ++ [a]) k = coFrom l k ++ [(a, ((k + l.length : Nat) : Int))]
  | [], a, k => rfl
  | b :: l, a, k => by simp [coFrom, coFrom_app l a (k + 1), Nat.add_assoc, Nat.add_comm 1]
theorem coFrom_keys : ∀ (l : List Int) (k : Nat), (coFrom l k).map (·.1) = l
  | [], _ => rfl
  | b :: l, k => by simp [coFrom, coFrom_keys l (k + 1)]
/-- While it is being looked at. -/
structure LR (H0 H : Heap) (s : XS) (x : Ex) (co : List (Int × Int)) (l : List Int) : Prop where
  hd : H[H0.length + 2]? = some (.row [.slice s.l, .slice s.r, .slice s.c, .slice s.e, .map (some H0.length), .slice (some ⟨H0.length + 1, 0, x.L.length, x.L.length, 1⟩)] false)
  at_ : IM VI H H0.length co
  pr : OS 1 EI H (some ⟨H0.length + 1, 0, x.L.length, x.L.length, 1⟩) l
  k : Kp No H0 H
theorem rep_EI (k : Nat) : (List.replicate k [Cell.int IntKind.i64 0]).flatten = (List.replicate k (0 : Int)).flatMap EI := by
  induction k with
  | zero => rfl
  | succ k ih => simp [List.replicate_succ, ih, EI]
theorem LR.init {H0 : Heap} {s : XS} {x : Ex} : LR H0 (H0 ++ [.map [] 0, .row (List.replicate x.L.length [Cell.int IntKind.i64 0]).flatten false, .row [.slice s.l, .slice s.r, .slice s.c, .slice s.e, .map (some H0.length), .slice (some ⟨H0.length + 1, 0, x.L.length, x.L.length, 1⟩)] false]) s x [] (List.replicate x.L.length 0) := by
  refine ⟨by simp, IM.new VI (by simp), ⟨by simp, rfl, Nat.le_refl _, _, by rw [List.getElem?_append_right (Nat.le_succ _), show H0.length.succ - H0.length = 1 by omega]; rfl, ?_, fun i c e => ?_⟩, Kp.push _ _ _⟩
  · rw [rep_EI, flat_len EI_len]; simp
  · rw [rep_EI, Nat.zero_add]; exact e
theorem loop14a {H0 : Heap} {s : XS} {x : Ex} (h0 : RX H0 s x) (hC : x.Co.Nodup) (l : List Int) : ∀ (m n i : Nat) (H : Heap), i + m = x.Co.length → LR H0 H s x (coFrom (x.Co.take i) 0) l →
    ∃ H', D14_3 (n + m + 1) (some (H0.length + 2, 0)) s.c (x.Co.length : Int) (i : Int) s.l s.r s.c s.e H = some (.exit 0, X14_3 (some (H0.length + 2, 0)) s.l s.r s.c s.e H') ∧ LR H0 H' s x (coFrom x.Co 0) l
  | 0, n, i, H, hm, hL => by
    have g : decide ((i : Int) < (x.Co.length : Int)) = false := by simp; omega
    rw [List.take_of_length_le (by omega)] at hL
    exact ⟨H, by rw [D14_3_s, g, cf], hL⟩
  | m + 1, n, i, H, hm, hL => by
    have g : decide ((i : Int) < (x.Co.length : Int)) = true := by simp; omega
    have hi : i < x.Co.length := by omega
    have h := h0.no hL.k
    have hb := h.bc
    obtain ⟨sl, e0, g1, c0⟩ := gets1 h.c (List.getElem?_eq_getElem hi)
    have w4 : H.get (H0.length + 2) (0 + 4) = some (.map (some H0.length)) := by rw [get_of hL.hd]; rfl
    have hk : (coFrom (x.Co.take i) 0).lookup x.Co[i] = none := by
      rw [lookup_keys, coFrom_keys]
      intro hmem
      obtain ⟨j, hj, e⟩ := List.getElem_of_mem hmem
      rw [List.length_take] at hj
      rw [List.getElem_take] at e
      have := (List.nodup_iff_pairwise_ne.1 hC)
      have := (List.pairwise_iff_getElem.1 this) j i (by omega) hi (by omega)
      exact this e
    obtain ⟨H', e1, e2, e3, e4⟩ := hL.at_.put x.Co[i] (i : Int) hk
    have e1' : H.mapPut (some H0.length) (Cell.int IntKind.i64 x.Co[i]) (TV.c (Cell.int IntKind.i64 (i : Int))) = some H' := e1
    have hL' : LR H0 H' s x (coFrom (x.Co.take (i + 1)) 0) l := by
      refine ⟨e3.at hL.hd (by unfold Ab.One; omega), ?_, hL.pr.kp e3 (fun sl e => by cases e; unfold Ab.One; simp), hL.k.trSet e3 (Nat.le_refl _)⟩
      rw [List.take_succ_eq_append_getElem hi, coFrom_app]
      rw [List.length_take, Nat.zero_add, Nat.min_eq_left (by omega)]
      exact e2
    obtain ⟨H2, r1, r2⟩ := loop14a h0 hC l m n (i + 1) H' (by omega) hL'
    refine ⟨H2, ?_, r2⟩
    rw [show n + (m + 1) + 1 = (n + m + 1) + 1 by omega, D14_3_s, g, ct]
    rw [show s.c.bind = (some sl).bind (β := AExit × St) by rw [e0]]
    simp only [ct, Ab.bs, g1, c0, tInt, w4, tMap, e1', i64_succ i (by omega)]
    exact r1
theorem loop14b (t : Option (Nat × Nat)) (a b c d : Option Sl) (H : Heap) : ∀ (m n i : Nat) (l : List Int), i + m = 8 → l.length = 8 → l.take i = List.replicate i (-1) →
    D14_9 (n + m + 1) t (i : Int) a b c d (l.map CI) H = some (.exit 2, X14_9 t a b c d (last0.map CI) H)
  | 0, n, i, l, hm, hl, ht => by
    have g : decide ((i : Int) < 8) = false := by simp; omega
    have : l = last0 := by
      rw [List.take_of_length_le (by omega)] at ht
      rw [ht, show i = 8 by omega]; rfl
    rw [D14_9_s, g, cf, this]
  | m + 1, n, i, l, hm, hl, ht => by
    have g : decide ((i : Int) < 8) = true := by simp; omega
    have g2 : inb (i : Int) 8 = true := by simp [inb]; omega
    have g3 : (0 + ((i : Nat) : Int).toNat * 1 + 1).ble (l.map CI).length = true := by simp [hl]; omega
    have hs := splice_map l ((i : Nat) : Int).toNat (-1) (by simp; omega)
    have hs' : splice (l.map CI) (0 + ((i : Nat) : Int).toNat * 1) [Cell.int IntKind.i64 (-1)] = (l.set i (-1)).map CI := by rw [Int.toNat_natCast] at hs ⊢; exact hs
    rw [show n + (m + 1) + 1 = (n + m + 1) + 1 by omega, D14_9_s, g, ct, g2, ct, g3, ct, hs', i64_succ i (by omega)]
    refine loop14b t a b c d H m n (i + 1) _ (by omega) (by simpa using hl) ?_
    rw [List.take_succ_eq_append_getElem (by simp; omega), List.replicate_succ', ← ht]
    simp [List.take_set_of_le]
/-- The last exclusive accesses are events that have been. -/
def LastOk (L : List Ev) (last : List Int) : Prop := last.length = 8 ∧ ∀ r ∈ last, r = -1 ∨ hasX L r = true
theorem LR.set {H0 H : Heap} {s : XS} {x : Ex} {co : List (Int × Int)} {l : List Int} (h : LR H0 H s x co l) (i : Nat) (hi : i < x.L.length) (v : Int) :
    ∃ H', H.put (H0.length + 1) (0 + ((i : Nat) : Int).toNat * 1) [.int .i64 v] = some H' ∧ LR H0 H' s x co (l.set i v) := by
  have hl : l.length = x.L.length := h.pr.1.symm
  obtain ⟨H', e1, e2, e3, e4⟩ := OS.put EI_len (vs := [.int .i64 v]) (y := v) (j := 0) h.pr (List.getElem?_eq_getElem (by omega : i < l.length)) (by simp) rfl
  exact ⟨H', e1, e3.at h.hd (by unfold Ab.One; simp), h.at_.kp e3 (by unfold Ab.One; simp), e2, h.k.trSet e3 (by simp)⟩
theorem LR.idx {H0 H : Heap} {s : XS} {x : Ex} {co : List (Int × Int)} {l : List Int} (h : LR H0 H s x co l) : H.get (H0.length + 2) (0 + 5) = some (.slice (some ⟨H0.length + 1, 0, x.L.length, x.L.length, 1⟩)) := by rw [get_of h.hd]; rfl
theorem loop14c {H0 : Heap} {s : XS} {x : Ex} (h0 : RX H0 s x) (hT : ∀ e ∈ x.L, 0 ≤ e.T ∧ e.T ≤ 7) (co : List (Int × Int)) : ∀ (m n i : Nat) (last : List Int) (l : List Int) (H : Heap), i + m = x.L.length → LR H0 H s x co l → LastOk x.L last →
    ∃ H', D14_14 (n + m + 1) (some (H0.length + 2, 0)) s.l (x.L.length : Int) (i : Int) s.l s.r s.c s.e (last.map CI) H = some (.exit 4, X14_14 (some (H0.length + 2, 0)) H') ∧ LR H0 H' s x co (l.take i ++ pairsFrom x.L (x.L.drop i) i last)
  | 0, n, i, last, l, H, hm, hL, hO => by
    have g : decide ((i : Int) < (x.L.length : Int)) = false := by simp; omega
    refine ⟨H, by rw [D14_14_s, g, cf], ?_⟩
    have : l.length = x.L.length := hL.pr.1.symm
    rw [List.drop_eq_nil_of_le (by omega), List.take_of_length_le (by omega)]
    simpa [pairsFrom] using hL
  | m + 1, n, i, last, l, H, hm, hL, hO => by
    have g : decide ((i : Int) < (x.L.length : Int)) = true := by simp; omega
    have hi : i < x.L.length := by omega
    have hll : l.length = x.L.length := hL.pr.1.symm
    have h := h0.no hL.k
    have hb := h.bl
    have hTi := hT x.L[i] (List.getElem_mem hi)
    obtain ⟨sl, e0, g1, c0, c1, c2, c3, c4, c5, c6, c7, c8⟩ := gets9 h.l (List.getElem?_eq_getElem hi)
    have gi : (inb (i : Int) x.L.length && 1 == 1) = true := by simp [inb]; omega
    obtain ⟨H1, f1, L1⟩ := hL.set i hi (-1)
    have hw := hL.idx
    have hw1 := L1.idx
    have h1 := h0.no L1.k
    have key : ∀ (H2 : Heap) (v : Int) (last2 : List Int), LR H0 H2 s x co (l.set i v) → LastOk x.L last2 → stepP x.L i x.L[i] last = (v, last2) →
        ∃ H', D14_14 (n + m + 1) (some (H0.length + 2, 0)) s.l (x.L.length : Int) ((i + 1 : Nat) : Int) s.l s.r s.c s.e (last2.map CI) H2 = some (.exit 4, X14_14 (some (H0.length + 2, 0)) H') ∧ LR H0 H' s x co (l.take i ++ pairsFrom x.L (x.L.drop i) i last) := by
      intro H2 v last2 L2 O2 e2
      obtain ⟨H', r1, r2⟩ := loop14c h0 hT co m n (i + 1) last2 (l.set i v) H2 (by omega) L2 O2
      refine ⟨H', r1, ?_⟩
      rw [List.drop_eq_getElem_cons hi]
      unfold pairsFrom
      rw [e2]
      rw [List.take_succ_eq_append_getElem (by simp; omega)] at r2
      simp [List.take_set_of_le] at r2
      simpa using r2
    rw [show n + (m + 1) + 1 = (n + m + 1) + 1 by omega, D14_14_s, g, ct]
    have hbl : ∀ (f : Sl → Option (AExit × St)), s.l.bind f = f sl := fun f => by rw [e0, Ab.bs]
    simp only [ct, Ab.bs, hbl, g1, c0, c1, c2, c3, c4, c5, c6, c7, c8, tInt, tBool, tSlice, hw, gi, f1, i64_succ i (by omega), f26_x]
    have hst : stepP x.L i x.L[i] last = bif x.L[i].ex && x.L[i].acc then
      (bif x.L[i].K == 2 && (decide ((last[x.L[i].T.toNat]?).getD 0 ≥ 0) && ((atE x.L ((last[x.L[i].T.toNat]?).getD 0)).K == 1 && (atE x.L ((last[x.L[i].T.toNat]?).getD 0)).place x.L[i])) then (last[x.L[i].T.toNat]?).getD 0 else -1, last.set x.L[i].T.toNat (i : Int))
      else (-1, last) := rfl
    cases hex : x.L[i].ex with
    | false =>
      rw [Bool.not_false, ct]
      exact key H1 (-1) last L1 hO (by rw [hst, hex]; rfl)
    | true =>
      rw [Bool.not_true, cf]
      cases hacc : x.L[i].acc with
      | false =>
        rw [Bool.not_false, ct]
        exact key H1 (-1) last L1 hO (by rw [hst, hex, hacc]; rfl)
      | true =>
        rw [Bool.not_true, cf]
        have hTl : x.L[i].T.toNat < last.length := by rw [hO.1]; omega
        have g8 : inb x.L[i].T 8 = true := by simp [inb]; omega
        have g9 : (0 + x.L[i].T.toNat * 1 + 1).ble (last.map CI).length = true := by simp [hO.1]; omega
        have hget : (last.map CI)[0 + x.L[i].T.toNat * 1]? = some (Cell.int .i64 ((last[x.L[i].T.toNat]?).getD 0)) := by
          rw [Nat.zero_add, Nat.mul_one, List.getElem?_map, List.getElem?_eq_getElem hTl]; rfl
        have hspl := splice_map last x.L[i].T.toNat (i : Int) hTl
        have hspl' : splice (last.map CI) (0 + x.L[i].T.toNat * 1) [Cell.int IntKind.i64 (i : Int)] = (last.set x.L[i].T.toNat (i : Int)).map CI := hspl
        have hO2 : LastOk x.L (last.set x.L[i].T.toNat (i : Int)) := by
          refine ⟨by rw [List.length_set]; exact hO.1, fun r hr => ?_⟩
          rcases List.mem_or_eq_of_mem_set hr with h | h
          · exact hO.2 r h
          · exact .inr (by rw [h]; exact hasX_nat hi)
        have hr := hO.2 last[x.L[i].T.toNat] (List.getElem_mem hTl)
        have hrd : (last[x.L[i].T.toNat]?).getD 0 = last[x.L[i].T.toNat] := by rw [List.getElem?_eq_getElem hTl]; rfl
        rw [hrd] at hget hst
        simp only [g8, g9, ct, hget, Ab.bs, tInt, hspl']
        rw [hex, hacc] at hst
        generalize last[x.L[i].T.toNat] = r at hget hst hr ⊢
        cases hK : x.L[i].K == 2 with
        | false => rw [cf]; exact key H1 (-1) _ L1 hO2 (by rw [hst, hK]; rfl)
        | true =>
          rw [ct]
          cases hr0 : decide (r ≥ 0) with
          | false => rw [cf]; exact key H1 (-1) _ L1 hO2 (by rw [hst, hK, hr0]; rfl)
          | true =>
            rw [ct]
            have hx : hasX x.L r = true := by
              rcases hr with e | e
              · rw [e] at hr0; cases hr0
              · exact e
            obtain ⟨sl2, e2, k1, d0, d1, d2, d3, d4, d5, d6, d7, d8⟩ := getsE h1.l hx
            have : sl2 = sl := by rw [e0] at e2; cases e2; rfl
            subst this
            have hf27 : ∀ G, f27 (atE x.L r).T (atE x.L r).K (atE x.L r).A (atE x.L r).W (atE x.L r).ac (atE x.L r).q (atE x.L r).re (atE x.L r).ex (atE x.L r).F x.L[i].T x.L[i].K x.L[i].A x.L[i].W x.L[i].ac x.L[i].q x.L[i].re true x.L[i].F G = some ((atE x.L r).place x.L[i], G) := fun G => by rw [← hex]; exact f27_x ..
            simp only [k1, ct, d0, d1, d2, d3, d4, d5, d6, d7, d8, Ab.bs, tInt, tBool, hf27, hw1, tSlice, gi]
            cases hK1 : (atE x.L r).K == 1 with
            | false => rw [cf]; exact key H1 (-1) _ L1 hO2 (by rw [hst, hK, hr0, hK1]; rfl)
            | true =>
              rw [ct]
              cases hP : (atE x.L r).place x.L[i] with
              | false => rw [cf]; exact key H1 (-1) _ L1 hO2 (by rw [hst, hK, hr0, hK1, hP]; rfl)
              | true =>
                rw [ct]
                obtain ⟨H2, f2, L2⟩ := L1.set i hi r
                rw [f2, Ab.bs]
                refine key H2 r _ (by simpa using L2) hO2 (by rw [hst, hK, hr0, hK1, hP]; rfl)
theorem f14_x {H : Heap} {s : XS} {x : Ex} (h : RX H s x) (hT : ∀ e ∈ x.L, 0 ≤ e.T ∧ e.T ≤ 7) (hC : x.Co.Nodup) :
    ∃ b H', f14 s.l s.r s.c s.e H = some (some (b, 0), H') ∧ Kp No H H' ∧ World H' b s x := by
  have hb := h.bl
  have hbc := h.bc
  have hmk : makeOk 8 (x.L.length : Int) (x.L.length : Int) = true := by simp [makeOk, most]; omega
  rw [q14, fill30, Ab.bs, h.l.slenEq, hmk, ct, fill31, Ab.bs, fill32, Ab.bs]
  obtain ⟨n1, e1⟩ := LL14_3_of x.Co.length (by omega) (some (H.length + 2, 0)) s.c (slen s.c) 0 s.l s.r s.c s.e (H ++ [.map [] 0, .row (List.replicate x.L.length [Cell.int IntKind.i64 0]).flatten false, .row [.slice s.l, .slice s.r, .slice s.c, .slice s.e, .map (some H.length), .slice (some ⟨H.length + 1, 0, x.L.length, x.L.length, 1⟩)] false])
  obtain ⟨H1, r1, L1⟩ := loop14a h hC _ x.Co.length n1 0 _ (by omega) (LR.init (H0 := H) (s := s) (x := x))
  obtain ⟨n2, e2⟩ := LL14_9_of 8 (by omega) (some (H.length + 2, 0)) 0 s.l s.r s.c s.e [Cell.int IntKind.i64 0, Cell.int IntKind.i64 0, Cell.int IntKind.i64 0, Cell.int IntKind.i64 0, Cell.int IntKind.i64 0, Cell.int IntKind.i64 0, Cell.int IntKind.i64 0, Cell.int IntKind.i64 0] H1
  have r2 := loop14b (some (H.length + 2, 0)) s.l s.r s.c s.e H1 8 n2 0 (List.replicate 8 0) (by omega) rfl rfl
  obtain ⟨n3, e3⟩ := LL14_14_of x.L.length (by omega) (some (H.length + 2, 0)) s.l (slen s.l) 0 s.l s.r s.c s.e (last0.map CI) H1
  obtain ⟨H3, r3, L3⟩ := loop14c h hT _ x.L.length n3 0 last0 _ H1 (by omega) L1 ⟨rfl, fun r hr => .inl (by simpa [last0] using hr)⟩
  have e1' : LL14_3 (some (H.length + 2, 0)) s.c (slen s.c) 0 s.l s.r s.c s.e (H ++ [.map [] 0, .row (List.replicate ((x.L.length : Nat) : Int).toNat [Cell.int IntKind.i64 0]).flatten false, .row [.slice s.l, .slice s.r, .slice s.c, .slice s.e, .map (some (H.length + 0)), .slice (some ⟨H.length + 1, 0, ((x.L.length : Nat) : Int).toNat, ((x.L.length : Nat) : Int).toNat, 1⟩)] false]) = D14_3 (n1 + x.Co.length + 1) (some (H.length + 2, 0)) s.c (slen s.c) 0 s.l s.r s.c s.e (H ++ [.map [] 0, .row (List.replicate x.L.length [Cell.int IntKind.i64 0]).flatten false, .row [.slice s.l, .slice s.r, .slice s.c, .slice s.e, .map (some H.length), .slice (some ⟨H.length + 1, 0, x.L.length, x.L.length, 1⟩)] false]) := e1
  rw [h.c.slenEq] at e1'
  have e1'' := e1'.trans r1
  rw [h.c.slenEq, e1'', Ab.bs, J14_3_0]
  have e2' : LL14_9 (some (H.length + 2, 0)) 0 s.l s.r s.c s.e [Cell.int IntKind.i64 0, Cell.int IntKind.i64 0, Cell.int IntKind.i64 0, Cell.int IntKind.i64 0, Cell.int IntKind.i64 0, Cell.int IntKind.i64 0, Cell.int IntKind.i64 0, Cell.int IntKind.i64 0] H1 = some (.exit 2, X14_9 (some (H.length + 2, 0)) s.l s.r s.c s.e (last0.map CI) H1) := e2.trans r2
  rw [e2', Ab.bs, J14_9_0, e3, h.l.slenEq, show (0 : Int) = ((0 : Nat) : Int) from rfl, r3, Ab.bs, J14_14_0]
  refine ⟨H.length + 2, H3, rfl, L3.k, _, _, L3.hd, L3.at_, ?_, h.no L3.k⟩
  have := L3.pr.rs
  rw [List.take_zero, List.nil_append, List.drop_zero] at this
  exact this
end
end Go.Proofs.Ythakpjkmianglaa
