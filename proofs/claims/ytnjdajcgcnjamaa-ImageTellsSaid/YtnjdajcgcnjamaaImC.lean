/- Layer 4: sorting numbers, 3: slices.Sort sorts; slices.Compact, slices.Concat. -/
import Derived.Test.YtnjdajcgcnjamaaImB
namespace Go.Proofs.Ytnjdajcgcnjamaa
open Go Go.Proofs.Ytnjdajcgcnjamaa.Ab
set_option linter.unusedVariables false
set_option linter.unusedSimpArgs false
set_option maxRecDepth 100000
noncomputable section
def tP (rc : RC76) (n : Nat) (t0 : Option Sl) (t1 t2 lim piv : Int) (G : Heap) : Option (AExit × St) :=
  (f91 t0 t1 t2 piv G).bind fun v5 => bif decide (IntKind.i64.wrap (v5.fst.fst - t1) < IntKind.i64.wrap (t2 - v5.fst.fst)) then (rc.f t0 t1 v5.fst.fst lim v5.snd).bind fun v3 => D76r_2 rc n t0 (IntKind.i64.wrap (v5.fst.fst + 1)) t2 lim (decide (IntKind.i64.wrap (v5.fst.fst - t1) ≥ IntKind.i64.wrap ((IntKind.i64.wrap (t2 - t1)).tdiv 8))) v5.fst.snd v3.snd else (rc.f t0 (IntKind.i64.wrap (v5.fst.fst + 1)) t2 lim v5.snd).bind fun v4 => D76r_2 rc n t0 t1 v5.fst.fst lim (decide (IntKind.i64.wrap (t2 - v5.fst.fst) ≥ IntKind.i64.wrap ((IntKind.i64.wrap (t2 - t1)).tdiv 8))) v5.fst.snd v4.snd
def tQ (rc : RC76) (n : Nat) (t0 : Option Sl) (t1 t2 lim piv : Int) (t8 t9 : Bool) (G : Heap) : Option (AExit × St) :=
  bif decide (t1 > 0) then t0.bind fun v11 => bif inb (IntKind.i64.wrap (t1 - 1)) v11.len && v11.esz == 1 then (G.get v11.id (v11.off + (IntKind.i64.wrap (t1 - 1)).toNat * 1)).bind fun v10 => (Cell.toInt IntKind.u64 v10).bind fun v9 => t0.bind fun v8 => bif inb piv v8.len && v8.esz == 1 then (G.get v8.id (v8.off + piv.toNat * 1)).bind fun v7 => (Cell.toInt IntKind.u64 v7).bind fun v6 => bif !cmp_Less_uint64 v9 v6 then (f90 t0 t1 t2 piv G).bind fun v2 => D76r_2 rc n t0 v2.fst t2 lim t8 t9 v2.snd else tP rc n t0 t1 t2 lim piv G else none else none else tP rc n t0 t1 t2 lim piv G
def tF (rc : RC76) (n : Nat) (t0 : Option Sl) (t1 t2 lim piv : Int) (t8 t9 : Bool) (G : Heap) : Option (AExit × St) :=
  (f88 t0 t1 t2 G).bind fun v15 => bif v15.fst then some (AExit.ret, X76r_2 v15.snd) else tQ rc n t0 t1 t2 lim piv t8 t9 v15.snd
def tS (rc : RC76) (n : Nat) (t0 : Option Sl) (t1 t2 lim : Int) (t8 t9 : Bool) (G : Heap) : Option (AExit × St) :=
  (f86 t0 t1 t2 G).bind fun v96 => bif v96.fst.snd == 2 then (f87 t0 t1 t2 v96.snd).bind fun v42 => bif t8 then bif t9 then tF rc n t0 t1 t2 lim (IntKind.i64.wrap (IntKind.i64.wrap (t2 - 1) - IntKind.i64.wrap (v96.fst.fst - t1))) t8 t9 v42.snd else tQ rc n t0 t1 t2 lim (IntKind.i64.wrap (IntKind.i64.wrap (t2 - 1) - IntKind.i64.wrap (v96.fst.fst - t1))) t8 t9 v42.snd else tQ rc n t0 t1 t2 lim (IntKind.i64.wrap (IntKind.i64.wrap (t2 - 1) - IntKind.i64.wrap (v96.fst.fst - t1))) t8 t9 v42.snd
    else bif t8 then bif t9 then bif v96.fst.snd == 1 then tF rc n t0 t1 t2 lim v96.fst.fst t8 t9 v96.snd else tQ rc n t0 t1 t2 lim v96.fst.fst t8 t9 v96.snd else tQ rc n t0 t1 t2 lim v96.fst.fst t8 t9 v96.snd else tQ rc n t0 t1 t2 lim v96.fst.fst t8 t9 v96.snd
theorem D76_t (rc : RC76) (n : Nat) (t0 : Option Sl) (t1 t2 t3 : Int) (t8 t9 : Bool) (H : Heap) : D76r_2 rc (n + 1) t0 t1 t2 t3 t8 t9 H = bif decide (IntKind.i64.wrap (t2 - t1) ≤ 12) then (f83 t0 t1 t2 H).bind fun v0 => some (AExit.ret, X76r_2 v0.snd) else bif t3 == 0 then (f84 t0 t1 t2 H).bind fun v1 => some (AExit.ret, X76r_2 v1.snd) else bif !t8 then (f85 t0 t1 t2 H).bind fun v97 => tS rc n t0 t1 t2 (IntKind.i64.wrap (t3 - 1)) t8 t9 v97.snd else tS rc n t0 t1 t2 t3 t8 t9 H := by
  unfold tS tF tQ tP
  exact D76r_2_s rc n t0 t1 t2 t3 t8 t9 H
/-- What it is good for. -/
def RcOk (f : Ty76) (sl : Sl) (N : Nat) : Prop := ∀ (a b limit : Nat) (d : Array Int) (H : Heap), SA H sl d → a ≤ b → b ≤ d.size → Sort.Below Sort.ltInt a b d → b - a < N → limit < 1000000 →
  ∃ H', f (some sl) a b limit H = some ((), H') ∧ SA H' sl (Sort.pdq Sort.ltInt d a b limit true true) ∧ Kp (One sl.id) H H'
def DOk (rc : RC76) (sl : Sl) (n N : Nat) : Prop := ∀ (a b limit : Nat) (wb wp : Bool) (d : Array Int) (H : Heap), SA H sl d → a ≤ b → b ≤ d.size → Sort.Below Sort.ltInt a b d → b - a < N → limit < 1000000 →
  ∃ H', D76r_2 rc n (some sl) a b limit wb wp H = some (.ret, X76r_2 H') ∧ SA H' sl (Sort.pdq Sort.ltInt d a b limit wb wp) ∧ Kp (One sl.id) H H'
theorem L_true {x y : Int} : Sort.ltInt x y = true ↔ x < y := by simp [Sort.ltInt]
theorem L_false {x y : Int} : Sort.ltInt x y = false ↔ y ≤ x := by simp [Sort.ltInt]
theorem pdq_perm {d : Array Int} {a b limit : Nat} {wb wp : Bool} (hab : a ≤ b) (hb : b ≤ d.size) (hB : Sort.Below Sort.ltInt a b d) : Sort.PermIn a b d (Sort.pdq Sort.ltInt d a b limit wb wp) := (Sort.pdq_sorts Sort.ltInt Sort.swo_ltInt d a b limit wb wp hab hb hB).1
section
variable {d : Array Int} {a b limit : Nat} {wb wp : Bool}
theorem tQ_x (rc : RC76) (sl : Sl) (n N : Nat) (hrc : RcOk rc.f sl N) (hD : DOk rc sl n N) (hN : b - a ≤ N) (hab : ¬ b - a ≤ 12) (hl0 : ¬ limit = 0) (hlim : limit < 1000000) (hb : b ≤ d.size) (hB : Sort.Below Sort.ltInt a b d)
    (hpi : (Sort.rd Sort.ltInt d a b limit wb wp).pi.2 = false) {G : Heap} (h : SA G sl (Sort.rd Sort.ltInt d a b limit wb wp).pi.1) :
    ∃ H', tQ rc n (some sl) a b ((Sort.rd Sort.ltInt d a b limit wb wp).lim : Int) ((Sort.rd Sort.ltInt d a b limit wb wp).pivot : Int) wb wp G = some (.ret, X76r_2 H') ∧ SA H' sl (Sort.pdq Sort.ltInt d a b limit wb wp) ∧ Kp (One sl.id) G H' := by
  obtain ⟨_, _, _, _, _, pv, z3, B3⟩ := Sort.rd_facts (limit := limit) (wb := wb) (wp := wp) Sort.swo_ltInt Sort.partialInsertionSort_holds Sort.reverseRange_holds (show a < b by omega) hb hB
  have ll : (Sort.rd Sort.ltInt d a b limit wb wp).lim ≤ limit := Sort.rd_lim_le
  have hl := h.lt'
  have step : (decide (a > 0) && !Sort.ltInt (Sort.rd Sort.ltInt d a b limit wb wp).pi.1[a - 1]! (Sort.rd Sort.ltInt d a b limit wb wp).pi.1[(Sort.rd Sort.ltInt d a b limit wb wp).pivot]!) = false →
      ∃ H', tP rc n (some sl) a b ((Sort.rd Sort.ltInt d a b limit wb wp).lim : Int) ((Sort.rd Sort.ltInt d a b limit wb wp).pivot : Int) G = some (.ret, X76r_2 H') ∧ SA H' sl (Sort.pdq Sort.ltInt d a b limit wb wp) ∧ Kp (One sl.id) G H' := by
    intro hc
    obtain ⟨q1, q2, q3, q4, q5⟩ := Sort.partition_holds Sort.ltInt Sort.swo_ltInt (Sort.rd Sort.ltInt d a b limit wb wp).pi.1 a b (Sort.rd Sort.ltInt d a b limit wb wp).pivot pv.1 pv.2 (by omega)
    have hleft := fun h4 => Sort.pdq_left (lt := Sort.ltInt) hab hl0 hpi hc ⟨q1, q2⟩ h4
    have hright := fun h4 => Sort.pdq_right (lt := Sort.ltInt) hab hl0 hpi hc ⟨q1, q2⟩ h4
    obtain ⟨H1, e1, h1, k1⟩ := f91_x h a b (Sort.rd Sort.ltInt d a b limit wb wp).pivot (by omega) (by omega) (by omega)
    have B4 : Sort.Below Sort.ltInt a b (Sort.partition Sort.ltInt (Sort.rd Sort.ltInt d a b limit wb wp).pi.1 a b (Sort.rd Sort.ltInt d a b limit wb wp).pivot).2.2 := B3.perm (by omega) q3
    unfold tP
    rw [e1, bs]
    simp only []
    generalize Sort.partition Sort.ltInt (Sort.rd Sort.ltInt d a b limit wb wp).pi.1 a b (Sort.rd Sort.ltInt d a b limit wb wp).pivot = p at *
    generalize (Sort.rd Sort.ltInt d a b limit wb wp).lim = lim at *
    have z4 : p.2.2.size = d.size := by rw [q3.1, z3]
    have w1 := wmm p.1 a (by omega) q1
    have w2 := wmm b p.1 (by omega) (by omega)
    have w3 := wmm b a (by omega) (by omega)
    have w4 : IntKind.i64.wrap (((b - a : Nat) : Int).tdiv 8) = (((b - a) / 8 : Nat) : Int) := by rw [show (8 : Int) = ((8 : Nat) : Int) from rfl, tdivN, wrap_i64 (by omega) (by omega)]
    have w5 := wp1 p.1 (by omega)
    rw [w1, w2, w3, w4, w5]
    have Bup : ∀ d5 : Array Int, (∀ i, p.1 ≤ i → i < b → d5[i]! = p.2.2[i]!) → Sort.Below Sort.ltInt (p.1 + 1) b d5 := fun d5 hd => by
      refine .inr fun i hi1 hi2 => ?_
      rw [show p.1 + 1 - 1 = p.1 from rfl, hd i (by omega) hi2, hd p.1 (Nat.le_refl _) (by omega)]
      exact q5 i (by omega) hi2
    by_cases g : p.1 - a < b - p.1
    · rw [dT (by omega), ct, hleft g]
      have Bl : Sort.Below Sort.ltInt a p.1 p.2.2 := B4.mono (by omega)
      obtain ⟨H2, e2, h2, k2⟩ := hrc a p.1 lim p.2.2 H1 h1 q1 (by omega) Bl (by omega) (by omega)
      have pm := pdq_perm (limit := lim) (wb := true) (wp := true) q1 (show p.1 ≤ p.2.2.size by omega) Bl
      obtain ⟨H3, e3, h3, k3⟩ := hD (p.1 + 1) b lim (decide (p.1 - a ≥ (b - a) / 8)) p.2.1 _ H2 h2 (by omega) (by rw [pm.1]; omega) (Bup _ fun i hi _ => pm.2.1 i (.inr hi)) (by omega) (by omega)
      refine ⟨H3, ?_, h3, (k1.one k2).one k3⟩
      rw [e2, bs]
      rw [← e3]
      congr 1
      exact decide_eq_decide.2 (by omega)
    · rw [dF (by omega), cf, hright g]
      have Br : Sort.Below Sort.ltInt (p.1 + 1) b p.2.2 := Bup _ fun i _ _ => rfl
      obtain ⟨H2, e2, h2, k2⟩ := hrc (p.1 + 1) b lim p.2.2 H1 h1 (by omega) (by omega) Br (by omega) (by omega)
      have pm := pdq_perm (limit := lim) (wb := true) (wp := true) (show p.1 + 1 ≤ b by omega) (show b ≤ p.2.2.size by omega) Br
      have Bl : Sort.Below Sort.ltInt a p.1 (Sort.pdq Sort.ltInt p.2.2 (p.1 + 1) b lim true true) := by
        rcases B4 with e | B
        · exact .inl e
        · refine .inr fun i hi1 hi2 => ?_
          rw [pm.2.1 i (.inl (by omega)), pm.2.1 (a - 1) (.inl (by omega))]
          exact B i hi1 (by omega)
      obtain ⟨H3, e3, h3, k3⟩ := hD a p.1 lim (decide (b - p.1 ≥ (b - a) / 8)) p.2.1 _ H2 h2 q1 (by rw [pm.1]; omega) Bl (by omega) (by omega)
      refine ⟨H3, ?_, h3, (k1.one k2).one k3⟩
      rw [e2, bs]
      rw [← e3]
      congr 1
      exact decide_eq_decide.2 (by omega)
  unfold tQ
  by_cases g0 : a > 0
  · have s1 := h.inb (a - 1) (by omega)
    have s2 := h.get (a - 1) (by omega)
    have s3 := h.inb (Sort.rd Sort.ltInt d a b limit wb wp).pivot (by omega)
    have s4 := h.get (Sort.rd Sort.ltInt d a b limit wb wp).pivot (by omega)
    rw [dT (by omega), ct]
    simp only [wm1 a (by omega) (by omega), bs, s1, s2, s3, s4, ct, tInt, lt_eq]
    cases gl : Sort.ltInt (Sort.rd Sort.ltInt d a b limit wb wp).pi.1[a - 1]! (Sort.rd Sort.ltInt d a b limit wb wp).pi.1[(Sort.rd Sort.ltInt d a b limit wb wp).pivot]! with
    | true =>
      rw [Bool.not_true, cf]
      exact step (by rw [gl]; simp)
    | false =>
      rw [Bool.not_false, ct]
      have hc : (decide (a > 0) && !Sort.ltInt (Sort.rd Sort.ltInt d a b limit wb wp).pi.1[a - 1]! (Sort.rd Sort.ltInt d a b limit wb wp).pi.1[(Sort.rd Sort.ltInt d a b limit wb wp).pivot]!) = true := by rw [gl]; simp [g0]
      have hB3 : ∀ i, a ≤ i → i < b → (Sort.rd Sort.ltInt d a b limit wb wp).pi.1[a - 1]! ≤ (Sort.rd Sort.ltInt d a b limit wb wp).pi.1[i]! := fun i h1 h2 => by
        rcases B3 with e | B
        · omega
        · exact L_false.1 (B i h1 h2)
      have hp0 : (Sort.rd Sort.ltInt d a b limit wb wp).pi.1[(Sort.rd Sort.ltInt d a b limit wb wp).pivot]! ≤ (Sort.rd Sort.ltInt d a b limit wb wp).pi.1[a - 1]! := L_false.1 gl
      obtain ⟨q1, q2, q3, q4, q5⟩ := Sort.partitionEqual_holds Sort.ltInt Sort.swo_ltInt (Sort.rd Sort.ltInt d a b limit wb wp).pi.1 a b (Sort.rd Sort.ltInt d a b limit wb wp).pivot pv.1 pv.2 (by omega) (fun i h1 h2 => L_false.2 (by have := hB3 i h1 h2; omega))
      have he := Sort.pdq_eq (lt := Sort.ltInt) hab hl0 hpi hc ⟨q1, q2⟩
      obtain ⟨H1, e1, h1, k1⟩ := f90_x h a b (Sort.rd Sort.ltInt d a b limit wb wp).pivot (by omega) (by omega) (by omega)
      rw [e1, bs, he]
      simp only []
      generalize Sort.partitionEqual Sort.ltInt (Sort.rd Sort.ltInt d a b limit wb wp).pi.1 a b (Sort.rd Sort.ltInt d a b limit wb wp).pivot = p at *
      have z4 : p.2.size = d.size := by rw [q3.1, z3]
      have B5 : Sort.Below Sort.ltInt p.1 b p.2 := .inr fun i h1 h2 => by
        have t1 := L_true.1 (q5 i h1 h2)
        have t2 := L_false.1 (q4 (p.1 - 1) (by omega) (by omega))
        exact L_false.2 (by omega)
      obtain ⟨H2, e2, h2, k2⟩ := hD p.1 b (Sort.rd Sort.ltInt d a b limit wb wp).lim wb wp p.2 H1 h1 q2 (by omega) B5 (by omega) (by omega)
      exact ⟨H2, e2, h2, k1.one k2⟩
  · rw [dF (by omega), cf]
    exact step (by simp; omega)
theorem tS_x (rc : RC76) (sl : Sl) (n N : Nat) (hrc : RcOk rc.f sl N) (hD : DOk rc sl n N) (hN : b - a ≤ N) (hab : ¬ b - a ≤ 12) (hl0 : ¬ limit = 0) (hlim : limit < 1000000) (hb : b ≤ d.size) (hB : Sort.Below Sort.ltInt a b d)
    {G : Heap} (h : SA G sl (Sort.rd Sort.ltInt d a b limit wb wp).d1) :
    ∃ H', tS rc n (some sl) a b ((Sort.rd Sort.ltInt d a b limit wb wp).lim : Int) wb wp G = some (.ret, X76r_2 H') ∧ SA H' sl (Sort.pdq Sort.ltInt d a b limit wb wp) ∧ Kp (One sl.id) G H' := by
  obtain ⟨z1, _, pc, z2, _, _, _, _⟩ := Sort.rd_facts (limit := limit) (wb := wb) (wp := wp) Sort.swo_ltInt Sort.partialInsertionSort_holds Sort.reverseRange_holds (show a < b by omega) hb hB
  have hl := h.lt'
  obtain ⟨H1, e1, k1⟩ := f86_x h a b (by omega) (by omega)
  have h1 := h.kp k1 fun e => e
  have k1' : Kp (One sl.id) G H1 := k1.mono fun i _ hf => hf.elim
  have cc : Sort.choosePivot Sort.ltInt (Sort.rd Sort.ltInt d a b limit wb wp).d1 a b = (Sort.rd Sort.ltInt d a b limit wb wp).c := rfl
  rw [cc] at e1
  unfold tS
  rw [e1, bs]
  simp only []
  -- from the pivot on
  have fin : ∀ (G2 : Heap), SA G2 sl (Sort.rd Sort.ltInt d a b limit wb wp).d2 → ∀ e : Option (AExit × St),
      ((wb && wp && decide ((Sort.rd Sort.ltInt d a b limit wb wp).hint = .increasing)) = true → e = tF rc n (some sl) a b ((Sort.rd Sort.ltInt d a b limit wb wp).lim : Int) ((Sort.rd Sort.ltInt d a b limit wb wp).pivot : Int) wb wp G2) →
      ((wb && wp && decide ((Sort.rd Sort.ltInt d a b limit wb wp).hint = .increasing)) = false → e = tQ rc n (some sl) a b ((Sort.rd Sort.ltInt d a b limit wb wp).lim : Int) ((Sort.rd Sort.ltInt d a b limit wb wp).pivot : Int) wb wp G2) →
      ∃ H', e = some (.ret, X76r_2 H') ∧ SA H' sl (Sort.pdq Sort.ltInt d a b limit wb wp) ∧ Kp (One sl.id) G2 H' := by
    intro G2 h2 e he1 he2
    cases hc : (wb && wp && decide ((Sort.rd Sort.ltInt d a b limit wb wp).hint = .increasing)) with
    | false =>
      have hp := Sort.rd_pi_no (lt := Sort.ltInt) hc
      rw [he2 hc]
      exact tQ_x rc sl n N hrc hD hN hab hl0 hlim hb hB (by rw [hp]) (by rw [hp]; exact h2)
    | true =>
      have hp := Sort.rd_pi_yes (lt := Sort.ltInt) hc
      obtain ⟨H3, e3, h3, k3⟩ := f88_x h2 a b (by omega) (by omega)
      rw [he1 hc]
      unfold tF
      rw [e3, bs]
      rw [show Sort.partialInsertionSort Sort.ltInt (Sort.rd Sort.ltInt d a b limit wb wp).d2 a b = (Sort.rd Sort.ltInt d a b limit wb wp).pi from hp.symm] at h3 ⊢
      simp only []
      cases gp : (Sort.rd Sort.ltInt d a b limit wb wp).pi.2 with
      | true =>
        refine ⟨H3, by rw [ct], ?_, k3⟩
        rw [Sort.pdq_done hab hl0 gp]
        exact h3
      | false =>
        rw [cf]
        obtain ⟨H4, e4, h4, k4⟩ := tQ_x rc sl n N hrc hD hN hab hl0 hlim hb hB gp h3
        exact ⟨H4, e4, h4, k3.one k4⟩
  by_cases hh : (Sort.rd Sort.ltInt d a b limit wb wp).c.2 = .decreasing
  · obtain ⟨r1, r2, r3⟩ := Sort.rd_dec (lt := Sort.ltInt) hh
    obtain ⟨H2, e2, h2, k2⟩ := f87_x h1 a b (by omega) (by omega)
    have g : (Sort.hintCode (Sort.rd Sort.ltInt d a b limit wb wp).c.2 == 2) = true := by rw [hh]; rfl
    have hw : IntKind.i64.wrap (IntKind.i64.wrap ((b : Int) - 1) - IntKind.i64.wrap (((Sort.rd Sort.ltInt d a b limit wb wp).c.1 : Int) - (a : Int))) = ((Sort.rd Sort.ltInt d a b limit wb wp).pivot : Int) := by
      rw [r2, wm1 b (by omega) (by omega), wmm _ a (by omega) pc.1, wmm _ _ (by omega) (by omega)]
    rw [g, ct, e2, bs, hw]
    rw [← r1] at h2
    obtain ⟨H3, e3, h3, k3⟩ := fin H2 h2 (bif wb then bif wp then tF rc n (some sl) a b ((Sort.rd Sort.ltInt d a b limit wb wp).lim : Int) ((Sort.rd Sort.ltInt d a b limit wb wp).pivot : Int) wb wp H2 else tQ rc n (some sl) a b ((Sort.rd Sort.ltInt d a b limit wb wp).lim : Int) ((Sort.rd Sort.ltInt d a b limit wb wp).pivot : Int) wb wp H2 else tQ rc n (some sl) a b ((Sort.rd Sort.ltInt d a b limit wb wp).lim : Int) ((Sort.rd Sort.ltInt d a b limit wb wp).pivot : Int) wb wp H2)
      (fun hc => by
        simp only [Bool.and_eq_true] at hc
        rw [hc.1.1, ct, hc.1.2, ct])
      (fun hc => by
        rw [r3] at hc
        cases hb1 : wb
        · rw [cf]
        · cases hb2 : wp
          · rw [ct, cf]
          · rw [hb1, hb2] at hc
            simp at hc)
    exact ⟨H3, e3, h3, (k1'.one k2).one k3⟩
  · obtain ⟨r1, r2, r3⟩ := Sort.rd_not (lt := Sort.ltInt) hh
    have g : (Sort.hintCode (Sort.rd Sort.ltInt d a b limit wb wp).c.2 == 2) = false := by
      cases hx : (Sort.rd Sort.ltInt d a b limit wb wp).c.2 with
      | unknown => rfl
      | increasing => rfl
      | decreasing => exact absurd hx hh
    have g1 : (Sort.hintCode (Sort.rd Sort.ltInt d a b limit wb wp).c.2 == 1) = decide ((Sort.rd Sort.ltInt d a b limit wb wp).hint = .increasing) := by
      rw [r3]
      cases hx : (Sort.rd Sort.ltInt d a b limit wb wp).c.2 <;> rfl
    rw [g, cf, g1]
    rw [← r1] at h1
    rw [← r2]
    obtain ⟨H3, e3, h3, k3⟩ := fin H1 h1 (bif wb then bif wp then bif decide ((Sort.rd Sort.ltInt d a b limit wb wp).hint = .increasing) then tF rc n (some sl) a b ((Sort.rd Sort.ltInt d a b limit wb wp).lim : Int) ((Sort.rd Sort.ltInt d a b limit wb wp).pivot : Int) wb wp H1 else tQ rc n (some sl) a b ((Sort.rd Sort.ltInt d a b limit wb wp).lim : Int) ((Sort.rd Sort.ltInt d a b limit wb wp).pivot : Int) wb wp H1 else tQ rc n (some sl) a b ((Sort.rd Sort.ltInt d a b limit wb wp).lim : Int) ((Sort.rd Sort.ltInt d a b limit wb wp).pivot : Int) wb wp H1 else tQ rc n (some sl) a b ((Sort.rd Sort.ltInt d a b limit wb wp).lim : Int) ((Sort.rd Sort.ltInt d a b limit wb wp).pivot : Int) wb wp H1)
      (fun hc => by
        rw [Bool.and_eq_true, Bool.and_eq_true] at hc
        rw [hc.2, hc.1.1, ct, hc.1.2, ct, ct])
      (fun hc => by
        generalize decide ((Sort.rd Sort.ltInt d a b limit wb wp).hint = .increasing) = hd at *
        cases hb1 : wb
        · rw [cf]
        · cases hb2 : wp
          · rw [ct, cf]
          · rw [hb1, hb2] at hc
            have : hd = false := by simpa using hc
            rw [this, ct, ct, cf])
    exact ⟨H3, e3, h3, k1'.one k3⟩
end
theorem loop76 (rc : RC76) (sl : Sl) (N : Nat) (hrc : RcOk rc.f sl N) : ∀ (m n : Nat), m ≤ N → DOk rc sl (n + m + 1) (m + 1)
  | 0, n, hm => by
    intro a b limit wb wp d H h hab hb hB hN hlim
    have hl := h.lt'
    obtain ⟨H1, e1, h1, k1⟩ := f83_x h a b (by omega) hb
    refine ⟨H1, ?_, by rw [Sort.pdq_small (by omega)]; exact h1, k1⟩
    rw [show n + 0 + 1 = n + 1 from rfl, D76_t, wmm b a (by omega) hab, dT (by omega), ct, e1, bs]
  | m + 1, n, hm => by
    intro a b limit wb wp d H h hab hb hB hN hlim
    have hl := h.lt'
    rw [show n + (m + 1) + 1 = (n + m + 1) + 1 by omega, D76_t, wmm b a (by omega) hab]
    by_cases g1 : b - a ≤ 12
    · obtain ⟨H1, e1, h1, k1⟩ := f83_x h a b (by omega) hb
      refine ⟨H1, ?_, by rw [Sort.pdq_small g1]; exact h1, k1⟩
      rw [dT (by omega), ct, e1, bs]
    · rw [dF (by omega), cf]
      by_cases g2 : limit = 0
      · obtain ⟨H1, e1, h1, k1⟩ := f84_x h a b (by omega) hb
        refine ⟨H1, ?_, by rw [Sort.pdq_heap g1 g2]; exact h1, k1⟩
        have : ((limit : Int) == 0) = true := by simp [g2]
        rw [this, ct, e1, bs]
      · have : ((limit : Int) == 0) = false := by simp; omega
        rw [this, cf]
        have hD := loop76 rc sl N hrc m n (by omega)
        have hrc' : RcOk rc.f sl (m + 1) := fun a b limit d H h1 h2 h3 h4 h5 h6 => hrc a b limit d H h1 h2 h3 h4 (by omega) h6
        cases wb with
        | false =>
          obtain ⟨H1, e1, h1, k1⟩ := f85_x h a b hab hb
          obtain ⟨H2, e2, h2, k2⟩ := tS_x (wb := false) (wp := wp) (limit := limit) rc sl (n + m + 1) (m + 1) hrc' hD (by omega) g1 g2 hlim hb hB h1
          refine ⟨H2, ?_, h2, k1.one k2⟩
          rw [Bool.not_false, ct, e1, bs, wm1 limit (by omega) (by omega)]
          exact e2
        | true =>
          obtain ⟨H2, e2, h2, k2⟩ := tS_x (wb := true) (wp := wp) (limit := limit) rc sl (n + m + 1) (m + 1) hrc' hD (by omega) g1 g2 hlim hb hB h
          refine ⟨H2, ?_, h2, k2⟩
          rw [Bool.not_true, cf]
          exact e2
theorem rc_step (rc : RC76) (sl : Sl) (N : Nat) (hN : N < 70000) (hrc : RcOk rc.f sl N) : RcOk (f76r rc) sl (N + 1) := by
  intro a b limit d H h hab hb hB hN hlim
  obtain ⟨n, hn⟩ := LL76r_2_of rc N (by omega) (some sl) a b limit true true H
  obtain ⟨H1, e1, h1, k1⟩ := loop76 rc sl N hrc N n (Nat.le_refl _) a b limit true true d H h hab hb hB hN hlim
  exact ⟨H1, by rw [q76r, hn, e1, bs, J76r_2_0], h1, k1⟩
theorem lv_ok (sl : Sl) : ∀ N, N < 70000 → RcOk (lv76 N).f sl N
  | 0, _ => fun a b limit d H h hab hb hB hN => by omega
  | N + 1, h => rc_step (lv76 N) sl N (by omega) (lv_ok sl N (by omega))
theorem rc_mono {sl : Sl} : ∀ k N, N < 70000 → RcOk (lv76 (N + k)).f sl N
  | 0, N, h => lv_ok sl N h
  | k + 1, 0, h => fun a b limit d H h hab hb hB hN => by omega
  | k + 1, N + 1, h => by
    have := rc_step (lv76 (N + (k + 1))) sl N (by omega) (rc_mono (k + 1) N (by omega))
    rw [show N + 1 + (k + 1) = N + (k + 1) + 1 by omega]
    exact this
theorem f76_x {H : Heap} {sl : Sl} {d : Array Int} (h : SA H sl d) (a b limit : Nat) (hab : a ≤ b) (hb : b ≤ d.size) (hB : Sort.Below Sort.ltInt a b d) (hlim : limit < 1000000) :
    ∃ H', f76 (some sl) a b limit H = some ((), H') ∧ SA H' sl (Sort.pdq Sort.ltInt d a b limit true true) ∧ Kp (One sl.id) H H' := by
  have hl := h.lt'
  rw [f76_lv, show (1048576 : Nat) = 65600 + 982976 from rfl]
  exact rc_mono (sl := sl) 982976 65600 (by omega) a b limit d H h hab hb hB (by omega) hlim
theorem lv_f (n : Nat) : (lv76 (n + 1)).f = f76r (lv76 n) := rfl
/-- slices.Sort. -/
theorem f61_x {H : Heap} {s : Option Sl} {l : List Int} (h : OS 1 E64 H s l) (hl : l.length < 65536) :
    ∃ H', f61 s H = some ((), H') ∧ OS 1 E64 H' s (l.mergeSort fun x y => decide (x ≤ y)) ∧ Kp (Of s) H H' := by
  cases s with
  | none =>
    have e : l = [] := h
    subst e
    have e0 : f77 (IntKind.u64.wrap (slen none)) H = some (((Sort.bitsLen 0 : Nat) : Int), H) := f77_x 0 (by omega) H
    have q : f76 none 0 (slen none) ((Sort.bitsLen 0 : Nat) : Int) H = some ((), H) := by
      rw [f76_lv, show (1048576 : Nat) = 1048575 + 1 from rfl, lv_f]
      generalize lv76 1048575 = rc
      obtain ⟨n, hn⟩ := LL76r_2_of rc 0 (by omega) none 0 (slen none) ((Sort.bitsLen 0 : Nat) : Int) true true H
      obtain ⟨n2, hn2⟩ := LL83_1_of 0 (by omega) none 0 (slen none) 1 H
      have e83 : f83 none 0 (slen none) H = some ((), H) := by
        have w : IntKind.i64.wrap (0 + 1) = 1 := by decide
        have w2 : decide ((1 : Int) < slen none) = false := by decide
        rw [q83, w, hn2, D83_1_s, w2, cf, bs, J83_1_0]
      have w3 : decide (IntKind.i64.wrap (slen none - 0) ≤ 12) = true := by decide
      rw [q76r, hn, D76_t, w3, ct, e83, bs, bs, J76r_2_0]
    exact ⟨H, by rw [q61, e0, bs, q, bs], by simp [OS], Kp.refl _ _⟩
  | some sl =>
    have hlen : sl.len = l.length := h.1
    have hs : SA H sl l.toArray := ⟨h, by omega⟩
    have w : IntKind.u64.wrap (slen (some sl)) = ((l.length : Nat) : Int) := by rw [h.rs.slenEq, wrap_u64]; omega
    have b := bitsLen16 l.length hl
    obtain ⟨H1, e1, h1, k1⟩ := f76_x hs 0 l.length (Sort.bitsLen l.length) (Nat.zero_le _) (by simp) (.inl rfl) (by omega)
    have hsort : Sort.pdq Sort.ltInt l.toArray 0 l.length (Sort.bitsLen l.length) true true = (l.mergeSort fun x y => decide (x ≤ y)).toArray := by
      rw [← Sort.sortInt l]
      unfold Sort.sort
      simp
    rw [hsort] at h1
    refine ⟨H1, ?_, h1.os, k1.mono fun i _ hi => ⟨sl, rfl, hi⟩⟩
    rw [q61, w, f77_x l.length hl, bs, h.rs.slenEq]
    have e2 : f76 (some sl) 0 ((l.length : Nat) : Int) ((Sort.bitsLen l.length : Nat) : Int) H = some ((), H1) := e1
    simp only []
    rw [e2, bs]
end
end Go.Proofs.Ytnjdajcgcnjamaa
