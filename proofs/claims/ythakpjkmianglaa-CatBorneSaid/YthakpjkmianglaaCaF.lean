/- Layer 28: Internal, Atomic, Order, Ahead. -/
import Derived.Test.YthakpjkmianglaaCaE
namespace Go.Proofs.Ythakpjkmianglaa
open Go Go.Proofs.Ythakpjkmianglaa.Ab
set_option linter.unusedVariables false
set_option linter.unusedSimpArgs false
set_option maxRecDepth 100000
noncomputable section
theorem seenOk_nodup (L : List Ev) : ∀ (l d : List Int), seenOk L l d = true → d.Nodup → (d ++ l).Nodup
  | [], d, _, hd => by simpa using hd
  | i :: l, d, h, hd => by
    unfold seenOk at h
    simp only [Bool.and_eq_true, Bool.not_eq_true'] at h
    obtain ⟨h1, h2, h3, h4⟩ := h
    have h3' : i ∉ d := by simpa using h3
    have := seenOk_nodup L l (d ++ [i]) h4 (List.nodup_append.2 ⟨hd, by simp, fun a ha b hb => by simp at hb; subst hb; exact fun e => h3' (e ▸ ha)⟩)
    simpa using this
structure MayF (x : Ex) : Prop where
  t : ∀ e ∈ x.L, 0 ≤ e.T ∧ e.T ≤ 7
  c : x.Co.Nodup
  r : x.Rf.length = x.L.length
theorem may_f {x : Ex} (h : mayX x = true) : MayF x := by
  unfold mayX at h
  simp only [Bool.and_eq_true, List.all_eq_true] at h
  obtain ⟨_, h1, _, h2, h3, _⟩ := h
  refine ⟨fun e he => ?_, by simpa using seenOk_nodup x.L x.Co [] h2 List.nodup_nil, ?_⟩
  · have := h1 e he
    unfold Ev.mayE at this
    simp only [Bool.and_eq_true, decide_eq_true_eq] at this
    omega
  · unfold readsX at h3
    simp only [Bool.and_eq_true, beq_iff_eq] at h3
    exact h3.1
theorem stepP_ok (L : List Ev) (i : Nat) (e : Ev) (last : List Int) (hi : i < L.length) (h : LastOk L last) : ((stepP L i e last).1 = -1 ∨ hasX L (stepP L i e last).1 = true) ∧ LastOk L (stepP L i e last).2 := by
  unfold stepP
  cases e.ex && e.acc with
  | false => exact ⟨.inl rfl, h⟩
  | true =>
    rw [ct]
    refine ⟨?_, by rw [List.length_set]; exact h.1, fun r hr => ?_⟩
    · dsimp only
      cases hc : e.K == 2 && (decide ((last[e.T.toNat]?).getD 0 ≥ 0) && ((atE L ((last[e.T.toNat]?).getD 0)).K == 1 && (atE L ((last[e.T.toNat]?).getD 0)).place e)) with
      | false => exact .inl rfl
      | true =>
        rw [ct]
        cases hl : last[e.T.toNat]? with
        | some r => exact h.2 r (List.mem_of_getElem? hl)
        | none =>
          refine .inr ?_
          rw [Option.getD_none, hasX]
          simp; omega
    · rcases List.mem_or_eq_of_mem_set hr with h1 | h1
      · exact h.2 r h1
      · exact .inr (by rw [h1]; exact hasX_nat hi)
theorem pairsFrom_ok (L : List Ev) : ∀ (l : List Ev) (i : Nat) (last : List Int), i + l.length ≤ L.length → LastOk L last → ∀ r ∈ pairsFrom L l i last, r = -1 ∨ hasX L r = true
  | [], _, _, _, _, r, hr => by simp [pairsFrom] at hr
  | e :: l, i, last, hi, h, r, hr => by
    simp only [List.length_cons] at hi
    have hs := stepP_ok L i e last (by omega) h
    unfold pairsFrom at hr
    rcases List.mem_cons.1 hr with h1 | h1
    · rw [h1]; exact hs.1
    · exact pairsFrom_ok L l (i + 1) _ (by omega) hs.2 r h1
theorem last0_ok (L : List Ev) : LastOk L last0 := ⟨rfl, fun r hr => .inl (by simpa [last0] using hr)⟩
theorem pairsX_ok (x : Ex) (r : Int) (h : r ∈ pairsX x) : r = -1 ∨ hasX x.L r = true := pairsFrom_ok x.L x.L 0 last0 (by omega) (last0_ok x.L) r h
def internalX (x : Ex) : Bool := mayX x && (sortX (fun i j => insideX x i j) x.L.length x.L.length []).isSome
theorem f12_x {H : Heap} {s : XS} {x : Ex} (h : RX H s x) : Says (f12 s.l s.r s.c s.e H) H (internalX x) := by
  rw [q12]
  refine says_bind (f18_x h) fun H1 k1 => ?_
  unfold internalX
  cases hm : mayX x with
  | false => exact says_ret rfl
  | true =>
    have hf := may_f hm
    obtain ⟨b, H2, e2, k2, w2⟩ := f14_x (h.no k1) hf.t hf.c
    obtain ⟨so, ok, H3, e3, t3, k3⟩ := f15a_x w2 (fun i j => insideX x i j) fun G kG i j hi hj => f23_x (w2.no kG) hf.r i j (hasX_nat hi) (hasX_nat hj)
    refine ⟨H3, ?_, k2.tr k3⟩
    simp only [Bool.not_true, cf, e2, Ab.bs, e3]
    unfold Sorted1 at t3
    cases hs : sortX (fun i j => insideX x i j) x.L.length x.L.length [] with
    | none => rw [hs] at t3; rw [t3.1]; rfl
    | some o => rw [hs] at t3; rw [t3.1]; rfl
/-- Is there no Write of another thread between a pair? -/
def apart (x : Ex) (i : Nat) (r : Int) (j : Nat) (e : Ev) : Bool := !(!(e.T == (atE x.L i).T) && (frX x r j && coX x j i))
def atomicX (x : Ex) : Bool := mayX x && allFrom (fun i r => decide (r < 0) || allFrom (apart x i r) x.L 0) (pairsX x) 0
theorem loop13b {H : Heap} {b : Nat} {s : XS} {x : Ex} (h : World H b s x) (hr : x.Rf.length = x.L.length) (t16 : Option Sl) (t17 : Int) (N i : Nat) (hi : i < x.L.length) (r : Int) (hx : hasX x.L r = true) : ∀ (m n j : Nat), j + m = x.L.length →
    (D13_9 (n + m + 1) (some (b, 0)) (i : Int) r t16 t17 (i : Int) s.l (x.L.length : Int) (j : Int) H).bind (J13_9 N) =
      bif allFrom (apart x i r) (x.L.drop j) j then D13_5 N (some (b, 0)) t16 t17 (IntKind.i64.wrap ((i : Int) + 1)) H else some (.ret, X13_5a false H)
  | 0, n, j, hm => by
    have g : decide ((j : Int) < (x.L.length : Int)) = false := by simp; omega
    rw [D13_9_s, g, cf, Ab.bs, J13_9_1, List.drop_eq_nil_of_le (by omega)]; rfl
  | m + 1, n, j, hm => by
    have g : decide ((j : Int) < (x.L.length : Int)) = true := by simp; omega
    have hj : j < x.L.length := by omega
    have ih := loop13b h hr t16 t17 N i hi r hx m n (j + 1) (by omega)
    have hW := h
    obtain ⟨m', ps, h⟩ := h
    obtain ⟨w0, w1, w3, w4, w5⟩ := h.g
    have hb := h.x.bl
    obtain ⟨sl, e0, g1, c0, c1, c2, c3, c4, c5, c6, c7, c8⟩ := gets9 h.x.l (List.getElem?_eq_getElem hj)
    obtain ⟨sl2, e2, g2, d0, d1, d2, d3, d4, d5, d6, d7, d8⟩ := getsE h.x.l (hasX_nat hi)
    rw [e0] at e2; cases e2
    rw [show n + (m + 1) + 1 = (n + m + 1) + 1 by omega, D13_9_s, g, ct, List.drop_eq_getElem_cons hj]
    rw [e0] at w0 ih ⊢
    unfold allFrom
    simp only [az, za, Ab.bs, g1, ct, c0, c1, c2, c3, c4, c5, c6, c7, c8, tInt, tBool, w0, tSlice, g2, d0, bne, f24_x hW hr r j hx (hasX_nat hj), f25_x hW j i (hasX_nat hj) (hasX_nat hi), i64_succ j (by omega)]
    rw [show apart x i r j x.L[j] = !(!(x.L[j].T == (atE x.L i).T) && (frX x r j && coX x j i)) from rfl]
    cases x.L[j].T == (atE x.L i).T
    · cases frX x r j
      · simp only [Bool.not_false, ct, cf, ih, Bool.true_and, Bool.false_and]
      · cases coX x j i
        · simp only [Bool.not_false, ct, cf, ih, Bool.true_and, Bool.false_and]
        · simp only [Bool.not_false, ct, cf, Bool.true_and, Bool.not_true, Bool.false_and, Ab.bs, J13_9_0]
    · simp only [Bool.not_true, cf, ih, Bool.false_and, Bool.not_false, Bool.true_and]
theorem loop13a {H : Heap} {b : Nat} {s : XS} {x : Ex} (hW : World H b s x) (hr : x.Rf.length = x.L.length) (t : Option Sl) (ht : RS 1 EI H t (pairsX x)) : ∀ (m n i : Nat), i + m = x.L.length →
    (D13_5 (n + m + 1) (some (b, 0)) t (x.L.length : Int) (i : Int) H).bind J13_5 = some (allFrom (fun i r => decide (r < 0) || allFrom (apart x i r) x.L 0) ((pairsX x).drop i) i, H)
  | 0, n, i, hm => by
    have g : decide ((i : Int) < (x.L.length : Int)) = false := by simp; omega
    have hpl : (pairsX x).length = x.L.length := pairsFrom_length ..
    rw [D13_5_s, g, cf, Ab.bs, J13_5_0, List.drop_eq_nil_of_le (by omega)]; rfl
  | m + 1, n, i, hm => by
    have g : decide ((i : Int) < (x.L.length : Int)) = true := by simp; omega
    have hi : i < x.L.length := by omega
    have hpl : (pairsX x).length = x.L.length := pairsFrom_length ..
    have ih := loop13a hW hr t ht m n (i + 1) (by omega)
    have h := hW
    obtain ⟨m', ps, h⟩ := h
    obtain ⟨w0, w1, w3, w4, w5⟩ := h.g
    have hb := h.x.bl
    obtain ⟨sl, e0, g1, c0⟩ := gets1 ht (List.getElem?_eq_getElem (by omega : i < (pairsX x).length))
    rw [show n + (m + 1) + 1 = (n + m + 1) + 1 by omega, D13_5_s, g, ct, List.drop_eq_getElem_cons (by omega : i < (pairsX x).length)]
    rw [show t.bind = (some sl).bind (β := AExit × St) by rw [e0]]
    unfold allFrom
    simp only [az, za, Ab.bs, g1, ct, c0, tInt, w0, tSlice]
    rcases pairsX_ok x (pairsX x)[i] (List.getElem_mem _) with hp | hp
    · rw [hp]
      simp only [show decide ((-1 : Int) < 0) = true from rfl, ct, i64_succ i (by omega), Bool.true_or, Bool.true_and]
      exact ih
    · have hd : decide ((pairsX x)[i] < 0) = false := by
        unfold hasX at hp
        simp only [Bool.and_eq_true, decide_eq_true_eq] at hp
        simp; omega
      rw [hd, cf, Bool.false_or]
      obtain ⟨q, e⟩ := LL13_9_of x.L.length (by omega) (some (b, 0)) (i : Int) (pairsX x)[i] t (x.L.length : Int) (i : Int) s.l (slen s.l) 0 H
      have hL := loop13b hW hr t (x.L.length : Int) (n + m + 1) i hi (pairsX x)[i] hp x.L.length q 0 (by omega)
      rw [e, h.x.l.slenEq, show (0 : Int) = ((0 : Nat) : Int) from rfl, hL, List.drop_zero, i64_succ i (by omega)]
      cases allFrom (apart x i (pairsX x)[i]) x.L 0
      · rw [cf, Ab.bs, J13_5_1]; rfl
      · rw [ct, ih]; rfl
theorem f13_x {H : Heap} {s : XS} {x : Ex} (h : RX H s x) : Says (f13 s.l s.r s.c s.e H) H (atomicX x) := by
  rw [q13]
  refine says_bind (f18_x h) fun H1 k1 => ?_
  unfold atomicX
  cases hm : mayX x with
  | false => exact says_ret rfl
  | true =>
    have hf := may_f hm
    obtain ⟨b, H2, e2, k2, w2⟩ := f14_x (h.no k1) hf.t hf.c
    refine ⟨H2, ?_, k2⟩
    have hW := w2
    obtain ⟨m', ps, w2⟩ := w2
    obtain ⟨w0, w1, w3, w4, w5⟩ := w2.g
    have hpl : (pairsX x).length = x.L.length := pairsFrom_length ..
    have hb := h.bl
    obtain ⟨q, e⟩ := LL13_5_of x.L.length (by omega) (some (b, 0)) ps (x.L.length : Int) 0 H2
    have hL := loop13a hW hf.r ps w2.pr x.L.length q 0 (by omega)
    simp only [Bool.not_true, cf, e2, Ab.bs, za, w5, tSlice, w2.pr.slenEq, hpl]
    rw [e, show (0 : Int) = ((0 : Nat) : Int) from rfl, hL]
    rfl
def orderX (x : Ex) : Option (List Nat) := bif internalX x && atomicX x then sortX (aheadX x) x.L.length x.L.length [] else none
def Answers (x : Ex) (so : Option Sl) (ok : Bool) (H : Heap) : Prop :=
  match orderX x with
  | some o => ok = true ∧ RS 1 EI H so (nats o)
  | none => ok = false ∧ so = none
theorem f7_x {H : Heap} {s : XS} {x : Ex} (h : RX H s x) : ∃ so ok H', f7 s.l s.r s.c s.e H = some ((so, ok), H') ∧ Answers x so ok H' ∧ Kp No H H' := by
  rw [q7]
  obtain ⟨H1, e1, k1⟩ := f12_x h
  unfold Answers orderX
  rw [e1, Ab.bs]
  dsimp only
  cases hI : internalX x with
  | false => exact ⟨none, false, H1, rfl, ⟨rfl, rfl⟩, k1⟩
  | true =>
    obtain ⟨H2, e2, k2⟩ := f13_x (h.no k1)
    rw [Bool.not_true, cf, e2, Ab.bs]
    dsimp only
    cases hA : atomicX x with
    | false => exact ⟨none, false, H2, rfl, ⟨rfl, rfl⟩, k1.tr k2⟩
    | true =>
      have hm : mayX x = true := by
        unfold internalX at hI
        simp only [Bool.and_eq_true] at hI
        exact hI.1
      have hf := may_f hm
      obtain ⟨b, H3, e3, k3, w3⟩ := f14_x (h.no (k1.tr k2)) hf.t hf.c
      obtain ⟨so, ok, H4, e4, t4, k4⟩ := f15b_x w3 (aheadX x) fun G kG i j hi hj => f16_x (w3.no kG) hf.r i j hi hj
      refine ⟨so, ok, H4, ?_, ?_, ((k1.tr k2).tr k3).tr k4⟩
      · rw [Bool.not_true, cf, e3, Ab.bs]
        dsimp only
        rw [e4, Ab.bs]
      · exact t4
theorem f19_x {H : Heap} {s : XS} {x : Ex} (h : RX H s x) (i j : Nat) (hi : i < x.L.length) (hj : j < x.L.length) : Says (f19 s.l s.r s.c s.e (i : Int) (j : Int) H) H (mayX x && aheadX x i j) := by
  rw [q19]
  refine says_bind (f18_x h) fun H1 k1 => ?_
  cases hm : mayX x with
  | false => exact says_ret rfl
  | true =>
    have hf := may_f hm
    obtain ⟨b, H2, e2, k2, w2⟩ := f14_x (h.no k1) hf.t hf.c
    refine ⟨H2, ?_, k2⟩
    dsimp only
    rw [ct, f31_x (h.no k1).l, Ab.bs, f31_x (h.no k1).l]
    dsimp only
    rw [hasX_nat hi, ct, Ab.bs]
    dsimp only
    rw [hasX_nat hj, ct, e2, Ab.bs]
    dsimp only
    rw [f16_x w2 hf.r i j hi hj]
    rfl
end
end Go.Proofs.Ythakpjkmianglaa
