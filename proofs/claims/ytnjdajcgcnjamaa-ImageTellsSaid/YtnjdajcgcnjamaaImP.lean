/- Layer 4: the document's image: what may be. -/
import Derived.Test.YtnjdajcgcnjamaaImN
import Derived.Test.YtnjdajcgcnjamaaIm2e
namespace Go.Proofs.Ytnjdajcgcnjamaa
open Go Go.Proofs.Ytnjdajcgcnjamaa.Ab
set_option linter.unusedVariables false
set_option linter.unusedSimpArgs false
set_option maxRecDepth 100000
noncomputable section
theorem gt_not (a b : Int) : decide (a > b) = !decide (a ≤ b) := by
  cases h : decide (a ≤ b) with
  | true => simp at h; simp; omega
  | false => simp at h; simp; omega
theorem lt_not (a b : Int) : decide (a < b) = !decide (a ≥ b) := by
  cases h : decide (a ≥ b) with
  | true => simp at h; simp; omega
  | false => simp at h; simp; omega
theorem loop36c {H : Heap} {s : Option Sl} {l : List Rl} (hs : RS 3 ERl H s l) (hl : l.length ≤ 1000) (b0 b1 : Int) (b2 b3 b4 : Option Sl) (k : Nat) (hk : slen b3 = (k : Int)) :
    ∀ (m n i : Nat), i + m = l.length → (D36_16 (n + m + 1) s (l.length : Int) (i : Int) b0 b1 b2 b3 b4 H).bind J36_16 = some ((l.drop i).all (rlMay k), H)
  | 0, n, i, hm => by
    have g : decide ((i : Int) < (l.length : Int)) = false := by simp; omega
    rw [D36_16_s, g, cf, Ab.bs, J36_16_1, List.drop_eq_nil_of_le (by omega)]; rfl
  | m + 1, n, i, hm => by
    have hlt : i < l.length := by omega
    have g : decide ((i : Int) < (l.length : Int)) = true := by simp; omega
    obtain ⟨sl, e0, g1, c0, c1, c2⟩ := getsRl hs (List.getElem?_eq_getElem hlt)
    have ih := loop36c hs hl b0 b1 b2 b3 b4 k hk m n (i + 1) (by omega)
    rw [show n + (m + 1) + 1 = (n + m + 1) + 1 by omega, D36_16_s, g, ct]
    rw [show s.bind = (some sl).bind (β := AExit × St) by rw [e0]]
    simp only [Ab.bs, g1, ct, c0, c1, c2, tInt, hk, i64_succ i (show i < 9223372036854775807 by omega)]
    rw [List.drop_eq_getElem_cons hlt, List.all_cons]
    unfold rlMay
    unfold rlMay at ih
    cases decide (l[i].sym < 0) with
    | true => simp only [Bool.not_true, ct, Ab.bs, J36_16_0, Bool.false_and]
    | false =>
    cases decide (l[i].sym ≥ (k : Int)) with
    | true => simp only [Bool.not_true, Bool.not_false, ct, cf, Ab.bs, J36_16_0, Bool.false_and, Bool.and_false]
    | false =>
      simp only [Bool.not_false, cf, Bool.true_and]
      exact ih
theorem loop36b {H0 : Heap} {s : Option Sl} {l : List Sy} (R : Bool) (hs : RS 4 ESy H0 s l) (hl : l.length ≤ 1000) (b0 b1 : Int) (b2 b3 b4 : Option Sl) (hR : ∀ H, Kp No H0 H → (LL36_16 b4 (slen b4) 0 b0 b1 b2 b3 b4 H).bind J36_16 = some (R, H)) :
    ∀ (m n i : Nat) (H : Heap), i + m = l.length → Kp No H0 H → ∃ H', (D36_10 (n + m + 1) s (l.length : Int) (i : Int) b0 b1 b2 b3 b4 H).bind J36_10 = some ((l.drop i).all syMay && R, H') ∧ Kp No H0 H'
  | 0, n, i, H, hm, k => by
    have g : decide ((i : Int) < (l.length : Int)) = false := by simp; omega
    exact ⟨H, by rw [D36_10_s, g, cf, Ab.bs, J36_10_1, List.drop_eq_nil_of_le (by omega), hR H k]; rfl, k⟩
  | m + 1, n, i, H, hm, k => by
    have hlt : i < l.length := by omega
    have g : decide ((i : Int) < (l.length : Int)) = true := by simp; omega
    obtain ⟨sl, e0, g1, c0, c1, c2, c3⟩ := getsSy (hs.no k) (List.getElem?_eq_getElem hlt)
    rw [show n + (m + 1) + 1 = (n + m + 1) + 1 by omega, D36_10_s, g, ct]
    rw [show s.bind = (some sl).bind (β := AExit × St) by rw [e0]]
    simp only [Ab.bs, g1, ct, c0, c1, c2, c3, tInt, tStr, i64_succ i (show i < 9223372036854775807 by omega)]
    rw [List.drop_eq_getElem_cons hlt, List.all_cons, gt_not]
    cases hz : decide ((l[i].name.size : Int) ≤ 32) with
    | false =>
      have e : syMay l[i] = false := by unfold syMay; rw [hz]; rfl
      rw [e]
      exact ⟨H, by simp only [Bool.not_false, ct, Ab.bs, J36_10_0, Bool.false_and], k⟩
    | true =>
      have hz' : l[i].name.size ≤ 32 := by simp at hz; omega
      have kP : Kp No H (H ++ [Blk.row (bytesCells l[i].name) false]) := Kp.push1 _ _
      have hrs : RS 1 E8 (H ++ [Blk.row (bytesCells l[i].name) false]) (some ⟨H.length, 0, l[i].name.size, l[i].name.size, 1⟩) l[i].name.data.toList := by
        have := rs_new (E := E8) (H := H ++ [Blk.row (bytesCells l[i].name) false]) (id := H.length) (n := 1) l[i].name.data.toList (ro := false) (by rw [push_get, bytesCells_flat]) rfl
        simpa using this
      have hf := f64_spec hrs (by simp; omega) 0 (by omega)
      rw [List.drop_zero] at hf
      obtain ⟨H', r1, r2⟩ := loop36b R hs hl b0 b1 b2 b3 b4 hR m n (i + 1) (H ++ [Blk.row (bytesCells l[i].name) false]) (by omega) (k.tr kP)
      have hi := ixs_ge l[i].name
      have hi' : decide (strings_IndexByte l[i].name 0 < 0) = !(fi l[i].name.data.toList).isSome := by rw [lt_not, hi]
      have e : syMay l[i] = (!(fi l[i].name.data.toList).isSome && (decide (l[i].kind ≥ 0) && decide (l[i].kind ≤ 2))) := by unfold syMay; rw [hz, hi', Bool.true_and]
      rw [e, Bool.not_true, cf, show decide (l[i].name.size ≤ 17592186044416) = true by simp; omega, ct]
      have hf' : f64 (some ⟨List.length H, 0, l[i].name.size, l[i].name.size, 1⟩) 0 (H ++ [Blk.row (bytesCells l[i].name) false]) = _ := hf
      rw [hf', Ab.bs]
      dsimp only
      cases hfi : fi l[i].name.data.toList with
      | some q =>
        refine ⟨_, ?_, k.tr kP⟩
        dsimp only
        rw [show decide (((0 + q : Nat) : Int) ≥ 0) = true by simp, ct, Ab.bs, J36_10_0]; rfl
      | none =>
        dsimp only
        rw [show decide ((-1 : Int) ≥ 0) = false from rfl, cf, lt_not, gt_not]
        cases decide (l[i].kind ≥ 0) with
        | false => exact ⟨_, by simp only [Bool.not_false, ct, Ab.bs, J36_10_0]; rfl, k.tr kP⟩
        | true =>
        cases decide (l[i].kind ≤ 2) with
        | false => exact ⟨_, by simp only [Bool.not_true, Bool.not_false, cf, ct, Ab.bs, J36_10_0]; rfl, k.tr kP⟩
        | true =>
          refine ⟨H', ?_, r2⟩
          simp only [Bool.not_true, cf]
          exact r1
theorem loop36a {H0 : Heap} {s : Option Sl} {l : List Sg} (R : Bool) (hs : RS 5 ESg H0 s l) (hl : l.length ≤ 1000) (dl : ∀ x ∈ l, RS 1 E8 H0 x.sl x.data) (b0 b1 : Int) (b2 b3 b4 : Option Sl) (hR : ∃ H', (LL36_10 b3 (slen b3) 0 b0 b1 b2 b3 b4 H0).bind J36_10 = some (R, H') ∧ Kp No H0 H') :
    ∀ (m n i : Nat), i + m = l.length → ∃ H', (D36_4 (n + m + 1) s (l.length : Int) (i : Int) b0 b1 b2 b3 b4 H0).bind J36_4 = some ((l.drop i).all sgMay && R, H') ∧ Kp No H0 H'
  | 0, n, i, hm => by
    have g : decide ((i : Int) < (l.length : Int)) = false := by simp; omega
    obtain ⟨H', r1, r2⟩ := hR
    exact ⟨H', by rw [D36_4_s, g, cf, Ab.bs, J36_4_1, List.drop_eq_nil_of_le (by omega), r1]; rfl, r2⟩
  | m + 1, n, i, hm => by
    have hlt : i < l.length := by omega
    have g : decide ((i : Int) < (l.length : Int)) = true := by simp; omega
    obtain ⟨sl, e0, g1, c0, c1, c2, c3, c4⟩ := getsSg hs (List.getElem?_eq_getElem hlt)
    obtain ⟨H', r1, r2⟩ := loop36a R hs hl dl b0 b1 b2 b3 b4 hR m n (i + 1) (by omega)
    rw [show n + (m + 1) + 1 = (n + m + 1) + 1 by omega, D36_4_s, g, ct]
    rw [show s.bind = (some sl).bind (β := AExit × St) by rw [e0]]
    simp only [Ab.bs, g1, ct, c0, c1, c2, c3, c4, tInt, tSlice, (dl _ (List.getElem_mem hlt)).slenEq, i64_succ i (show i < 9223372036854775807 by omega)]
    rw [List.drop_eq_getElem_cons hlt, List.all_cons, gt_not (IntKind.u64.wrap _)]
    have hp : decide ((l[i].data.length : Int) > 0) = !((l[i].data.length : Int) == 0) := by
      cases hd : ((l[i].data.length : Int) == 0) with
      | true => simp at hd; simp [hd]
      | false => simp at hd; simp; exact List.length_pos_iff.2 hd
    rw [hp]
    rw [show sgMay l[i] = ((l[i].kind == 1 || l[i].kind == 1610612737) && (!decide (l[i].flags < 0) && (!decide (l[i].flags > 7) && (!decide (l[i].size > 4294967296) && (!decide (l[i].addr > 9223372036854775808) && (decide (IntKind.u64.wrap (l[i].data.length : Int) ≤ l[i].size) && (l[i].kind == 1 || ((l[i].data.length : Int) == 0)))))))) from rfl]
    unfold bne
    generalize (l.drop (i + 1)).all sgMay = A at r1 ⊢
    have kr := Kp.refl No H0
    cases l[i].kind == 1 with
    | false =>
      cases l[i].kind == 1610612737 with
      | false => exact ⟨H0, by simp only [Bool.not_false, ct, Ab.bs, J36_4_0]; rfl, kr⟩
      | true =>
      cases ((l[i].data.length : Int) == 0) with
      | false => exact ⟨H0, by simp only [Bool.not_false, Bool.not_true, cf, ct, Ab.bs, J36_4_0, Bool.false_or, Bool.or_false, Bool.and_false, Bool.false_and], kr⟩
      | true =>
      cases decide (l[i].flags < 0) with
      | true => exact ⟨H0, by simp only [Bool.not_false, Bool.not_true, cf, ct, Ab.bs, J36_4_0, Bool.and_false, Bool.false_and], kr⟩
      | false =>
      cases decide (l[i].flags > 7) with
      | true => exact ⟨H0, by simp only [Bool.not_false, Bool.not_true, cf, ct, Ab.bs, J36_4_0, Bool.and_false, Bool.false_and], kr⟩
      | false =>
      cases decide (l[i].size > 4294967296) with
      | true => exact ⟨H0, by simp only [Bool.not_false, Bool.not_true, cf, ct, Ab.bs, J36_4_0, Bool.and_false, Bool.false_and], kr⟩
      | false =>
      cases decide (l[i].addr > 9223372036854775808) with
      | true => exact ⟨H0, by simp only [Bool.not_false, Bool.not_true, cf, ct, Ab.bs, J36_4_0, Bool.and_false, Bool.false_and], kr⟩
      | false =>
      cases decide (IntKind.u64.wrap (l[i].data.length : Int) ≤ l[i].size) with
      | false => exact ⟨H0, by simp only [Bool.not_false, Bool.not_true, cf, ct, Ab.bs, J36_4_0, Bool.and_false, Bool.false_and], kr⟩
      | true => exact ⟨H', by simp only [Bool.not_false, Bool.not_true, cf, ct, r1]; rfl, r2⟩
    | true =>
      cases decide (l[i].flags < 0) with
      | true => exact ⟨H0, by simp only [Bool.not_false, Bool.not_true, cf, ct, Ab.bs, J36_4_0, Bool.and_false, Bool.false_and], kr⟩
      | false =>
      cases decide (l[i].flags > 7) with
      | true => exact ⟨H0, by simp only [Bool.not_false, Bool.not_true, cf, ct, Ab.bs, J36_4_0, Bool.and_false, Bool.false_and], kr⟩
      | false =>
      cases decide (l[i].size > 4294967296) with
      | true => exact ⟨H0, by simp only [Bool.not_false, Bool.not_true, cf, ct, Ab.bs, J36_4_0, Bool.and_false, Bool.false_and], kr⟩
      | false =>
      cases decide (l[i].addr > 9223372036854775808) with
      | true => exact ⟨H0, by simp only [Bool.not_false, Bool.not_true, cf, ct, Ab.bs, J36_4_0, Bool.and_false, Bool.false_and], kr⟩
      | false =>
      cases decide (IntKind.u64.wrap (l[i].data.length : Int) ≤ l[i].size) with
      | false => exact ⟨H0, by simp only [Bool.not_false, Bool.not_true, cf, ct, Ab.bs, J36_4_0, Bool.and_false, Bool.false_and], kr⟩
      | true => exact ⟨H', by simp only [Bool.not_false, Bool.not_true, cf, ct, r1]; rfl, r2⟩
/-- The document's May. -/
theorem f36_x {H : Heap} {s : FS} {f : Fl} (h : FR H s f) : Says (f36 s.M s.E s.sg s.sy s.rl H) H (mayF f) := by
  have kr := Kp.refl No H
  have key : f.sg.length ≤ 24 → f.sy.length ≤ 64 → f.rl.length ≤ 64 → ∃ H', (LL36_4 s.sg (slen s.sg) 0 s.M s.E s.sg s.sy s.rl H).bind J36_4 = some (f.sg.all sgMay && (f.sy.all syMay && f.rl.all (rlMay f.sy.length)), H') ∧ Kp No H H' := by
    intro h1 h2 h3
    have r3 : ∀ G, Kp No H G → (LL36_16 s.rl (slen s.rl) 0 s.M s.E s.sg s.sy s.rl G).bind J36_16 = some (f.rl.all (rlMay f.sy.length), G) := fun G k => by
      obtain ⟨n, e⟩ := LL36_16_of f.rl.length (by omega) s.rl (slen s.rl) 0 s.M s.E s.sg s.sy s.rl G
      rw [e, h.rl.slenEq]
      exact loop36c (h.no k).rl (by omega) s.M s.E s.sg s.sy s.rl f.sy.length h.sy.slenEq f.rl.length n 0 (by omega)
    have r2 : ∃ H', (LL36_10 s.sy (slen s.sy) 0 s.M s.E s.sg s.sy s.rl H).bind J36_10 = some (f.sy.all syMay && f.rl.all (rlMay f.sy.length), H') ∧ Kp No H H' := by
      obtain ⟨n, e⟩ := LL36_10_of f.sy.length (by omega) s.sy (slen s.sy) 0 s.M s.E s.sg s.sy s.rl H
      rw [e, h.sy.slenEq]
      exact loop36b _ h.sy (by omega) s.M s.E s.sg s.sy s.rl r3 f.sy.length n 0 H (by omega) kr
    obtain ⟨n, e⟩ := LL36_4_of f.sg.length (by omega) s.sg (slen s.sg) 0 s.M s.E s.sg s.sy s.rl H
    rw [e, h.sg.slenEq]
    exact loop36a _ h.sg (by omega) h.sd s.M s.E s.sg s.sy s.rl r2 f.sg.length n 0 (by omega)
  have d1 : decide (slen s.sg > 24) = !decide (f.sg.length ≤ 24) := by rw [h.sg.slenEq, gt_not]; congr 1; simp; omega
  have d2 : decide (slen s.sy > 64) = !decide (f.sy.length ≤ 64) := by rw [h.sy.slenEq, gt_not]; congr 1; simp; omega
  have d3 : decide (slen s.rl > 64) = !decide (f.rl.length ≤ 64) := by rw [h.rl.slenEq, gt_not]; congr 1; simp; omega
  rw [q36, d1, d2, d3, show (s.M != 62) = !(f.M == 62) by rw [h.m]; rfl, show (s.M != 183) = !(f.M == 183) by rw [h.m]; rfl]
  unfold mayF
  cases e1 : decide (f.sg.length ≤ 24) with
  | false => exact ⟨H, by cases f.M == 62 <;> cases f.M == 183 <;> rfl, kr⟩
  | true =>
  cases e2 : decide (f.sy.length ≤ 64) with
  | false => exact ⟨H, by cases f.M == 62 <;> cases f.M == 183 <;> rfl, kr⟩
  | true =>
  cases e3 : decide (f.rl.length ≤ 64) with
  | false => exact ⟨H, by cases f.M == 62 <;> cases f.M == 183 <;> rfl, kr⟩
  | true =>
    obtain ⟨H', r1, r2⟩ := key (of_decide_eq_true e1) (of_decide_eq_true e2) (of_decide_eq_true e3)
    cases f.M == 62 with
    | true => exact ⟨H', by simp only [Bool.not_true, cf, r1]; rfl, r2⟩
    | false =>
    cases f.M == 183 with
    | true => exact ⟨H', by simp only [Bool.not_true, Bool.not_false, cf, ct, r1]; rfl, r2⟩
    | false => exact ⟨H, by simp only [Bool.not_false, ct]; rfl, kr⟩
/-! sizes -/
def nK (k : Int) (l : List Sg) : Nat := (l.filter fun s => s.kind == k).length
theorem nK_cons (k : Int) (s : Sg) (l : List Sg) : nK k (s :: l) = (if s.kind = k then 1 else 0) + nK k l := by
  unfold nK
  rw [List.filter_cons]
  by_cases h : s.kind = k
  · simp [h]; omega
  · simp [h]
theorem loop37 {H : Heap} {t : Option Sl} {l : List Sg} (hR : RS 5 ESg H t l) (hl : l.length ≤ 100) (hu : ∀ s ∈ l, u64r s.addr ∧ u64r s.size) (hk : ∀ s ∈ l, s.kind = 1 ∨ s.kind = 1610612737) : ∀ (m n i a b : Nat) (acc : Int), i + m = l.length → a ≤ i → b ≤ i → 0 ≤ acc → acc ≤ 65536 * (i : Int) →
    (D37_5 (n + m + 1) (a : Int) (b : Int) acc t (l.length : Int) (i : Int) H).bind J37_5 = some ((l.drop i).all szOk && (decide (a + nK 1 (l.drop i) ≤ 8) && (decide (1 ≤ b + nK 1610612737 (l.drop i)) && (decide (b + nK 1610612737 (l.drop i) ≤ 8) && decide (acc + sumL (l.drop i) ≤ 65536)))), H)
  | 0, n, i, a, b, acc, hm, ha, hb, h0, h1 => by
    rw [List.drop_eq_nil_of_le (by omega), D37_5_s, dF (by omega), cf, Ab.bs, J37_5_1]
    have n1 : nK 1 ([] : List Sg) = 0 := rfl
    have n2 : nK 1610612737 ([] : List Sg) = 0 := rfl
    have n3 : sumL ([] : List Sg) = 0 := rfl
    rw [n1, n2, n3, Nat.add_zero, Nat.add_zero, Int.add_zero, List.all_nil, Bool.true_and]
    by_cases e1 : a ≤ 8
    · rw [dT e1, dT (show (a : Int) ≤ 8 by omega)]
      by_cases e2 : 1 ≤ b
      · rw [dT e2, dT (show (b : Int) ≥ 1 by omega)]
        by_cases e3 : b ≤ 8
        · rw [dT e3, dT (show (b : Int) ≤ 8 by omega)]; rfl
        · rw [dF e3, dF (show ¬ (b : Int) ≤ 8 by omega)]; rfl
      · rw [dF e2, dF (show ¬ (b : Int) ≥ 1 by omega)]; rfl
    · rw [dF e1, dF (show ¬ (a : Int) ≤ 8 by omega)]; rfl
  | m + 1, n, i, a, b, acc, hm, ha, hb, h0, h1 => by
    have hi : i < l.length := by omega
    obtain ⟨sl, e0, g1, c0, c1, c2, c3, c4⟩ := getsSg hR (List.getElem?_eq_getElem hi)
    obtain ⟨u1, u2⟩ := hu _ (List.getElem_mem hi)
    have hkk := hk _ (List.getElem_mem hi)
    have wa : IntKind.i64.wrap ((a : Int) + 1) = ((a + 1 : Nat) : Int) := i64_succ a (by omega)
    have wb : IntKind.i64.wrap ((b : Int) + 1) = ((b + 1 : Nat) : Int) := i64_succ b (by omega)
    rw [show n + (m + 1) + 1 = (n + m + 1) + 1 by omega, D37_5_s, dT (by omega), ct, List.drop_eq_getElem_cons hi, List.all_cons, nK_cons, nK_cons]
    rw [show t.bind = (some sl).bind (β := AExit × St) by rw [e0]]
    simp only [Ab.bs, g1, ct, c0, c1, c2, c3, c4, tInt, tSlice, i64_succ i (by omega), wa, wb]
    generalize l[i] = s at *
    unfold u64r at u1 u2
    have hz : szOk s = (decide (s.size ≤ 65536) && (decide (s.addr ≤ 140737487306752) && decide (s.addr + s.size ≤ 140737487306752))) := rfl
    rw [hz]
    by_cases s1 : s.size ≤ 65536
    · by_cases s2 : s.addr ≤ 140737487306752
      · rw [dF (show ¬ s.size > 65536 by omega), dF (show ¬ s.addr > 140737487306752 by omega), cf, cf, show IntKind.u64.wrap (s.addr + s.size) = s.addr + s.size by rw [wrap_u64]; omega]
        by_cases s3 : s.addr + s.size ≤ 140737487306752
        · rw [dF (show ¬ s.addr + s.size > 140737487306752 by omega), cf, dT s1, dT s2, dT s3]
          rcases hkk with s4 | s4
          · have ih := loop37 hR hl hu hk m n (i + 1) (a + 1) b (acc + s.size) (by omega) (by omega) (by omega) (by omega) (by omega)
            have : (s.kind == 1) = true := by simp [s4]
            rw [this, ct, show IntKind.u64.wrap (acc + s.size) = acc + s.size by rw [wrap_u64]; omega, ih]
            simp only [sumL, if_pos s4, if_neg (show ¬ s.kind = 1610612737 by omega), Bool.true_and, Int.add_assoc, Nat.add_assoc, Nat.zero_add]
          · have ih := loop37 hR hl hu hk m n (i + 1) a (b + 1) acc (by omega) (by omega) (by omega) (by omega) (by omega)
            have : (s.kind == 1) = false := by simp [s4]
            rw [this, cf, ih]
            simp only [sumL, if_pos s4, if_neg (show ¬ s.kind = 1 by omega), Bool.true_and, Int.zero_add, Nat.add_assoc, Nat.zero_add]
        · rw [dT (show s.addr + s.size > 140737487306752 by omega), ct, Ab.bs, J37_5_0, dF s3]; simp
      · rw [dF (show ¬ s.size > 65536 by omega), dT (show s.addr > 140737487306752 by omega), cf, ct, Ab.bs, J37_5_0, dF s2]; simp
    · rw [dT (show s.size > 65536 by omega), ct, Ab.bs, J37_5_0, dF s1]; simp
theorem kinds_may {f : Fl} (h : mayF f = true) : ∀ t ∈ f.sg, (t.kind = 1 ∨ t.kind = 1610612737) ∧ 0 ≤ t.flags ∧ t.flags ≤ 7 := fun t ht => by
  unfold mayF at h
  simp only [Bool.and_eq_true, List.all_eq_true] at h
  have := h.2.2.2.2.1 t ht
  unfold sgMay at this
  simp only [Bool.and_eq_true, Bool.or_eq_true, beq_iff_eq, Bool.not_eq_true', decide_eq_false_iff_not] at this
  omega
theorem f37_x {H : Heap} {s : FS} {f : Fl} (h : FR H s f) (hl : f.sg.length ≤ 100) (hu : ∀ s ∈ f.sg, u64r s.addr ∧ u64r s.size) (hk : ∀ s ∈ f.sg, s.kind = 1 ∨ s.kind = 1610612737) : f37 s.M s.E s.sg s.sy s.rl H = some (sizedP f, H) := by
  obtain ⟨n, hn⟩ := LL37_5_of f.sg.length (by omega) 0 0 0 s.sg (f.sg.length : Int) 0 H
  have := loop37 h.sg hl hu hk f.sg.length n 0 0 0 0 (by omega) (Nat.le_refl _) (Nat.le_refl _) (by omega) (by omega)
  rw [q37, h.sg.slenEq, hn]
  rw [List.drop_zero] at this
  have e : ((f.sg.all szOk) && (decide (0 + nK 1 f.sg ≤ 8) && (decide (1 ≤ 0 + nK 1610612737 f.sg) && (decide (0 + nK 1610612737 f.sg ≤ 8) && decide (0 + sumL f.sg ≤ 65536))))) = sizedP f := by
    unfold sizedP nK
    rw [Nat.zero_add, Nat.zero_add, Int.zero_add]
    rw [Bool.eq_iff_iff]
    simp only [Bool.and_eq_true, decide_eq_true_eq]
    constructor
    · rintro ⟨a, b, c, d, e⟩; exact ⟨b, d, by omega, a, e⟩
    · rintro ⟨a, b, c, d, e⟩; exact ⟨d, a, by omega, b, e⟩
  rw [← e]
  exact this
/-! texts -/
theorem f65_x {s t : Sg} (hs : SgU s) (ht : SgU t) (h1 : s.addr + s.size < 18446744073709551616) (h2 : t.addr + t.size < 18446744073709551616) (H : Heap) : f65 s.addr s.size t.addr t.size H = some (mt s t, H) := by
  unfold SgU u64r at *
  rw [q65]
  unfold mt
  rw [show IntKind.u64.wrap (t.addr + t.size) = t.addr + t.size by rw [wrap_u64]; omega, show IntKind.u64.wrap (s.addr + s.size) = s.addr + s.size by rw [wrap_u64]; omega]
  by_cases g1 : 0 < s.size
  · rw [dT (show s.size > 0 by omega), ct, Bool.true_and]
    by_cases g2 : 0 < t.size
    · rw [dT (show t.size > 0 by omega), ct, Bool.true_and]
      by_cases g3 : s.addr < t.addr + t.size
      · rw [dT g3, ct, Bool.true_and]
      · rw [dF g3, cf]; rfl
    · rw [dF (show ¬ t.size > 0 by omega), cf]; rfl
  · rw [dF (show ¬ s.size > 0 by omega), cf]; rfl
theorem isX_mod {s : Sg} (h : 0 ≤ s.flags ∧ s.flags ≤ 7) : (s.flags.tmod 2 == 1) = isX s := by
  unfold isX
  have : s.flags = 0 ∨ s.flags = 1 ∨ s.flags = 2 ∨ s.flags = 3 ∨ s.flags = 4 ∨ s.flags = 5 ∨ s.flags = 6 ∨ s.flags = 7 := by omega
  rcases this with e | e | e | e | e | e | e | e <;> rw [e] <;> rfl
theorem isW_mod {s : Sg} (h : 0 ≤ s.flags ∧ s.flags ≤ 7) : ((IntKind.i64.wrap (s.flags.tdiv 2)).tmod 2 == 0) = !(band IntKind.i64 s.flags 2 != 0) := by
  have : s.flags = 0 ∨ s.flags = 1 ∨ s.flags = 2 ∨ s.flags = 3 ∨ s.flags = 4 ∨ s.flags = 5 ∨ s.flags = 6 ∨ s.flags = 7 := by omega
  rcases this with e | e | e | e | e | e | e | e <;> rw [e] <;> rfl
def ld (s : Sg) : Bool := s.kind == 1
def td (pre : List Sg) (many : Nat) : List Sg → Bool
  | [] => decide (many = 1)
  | s :: r => bif s.kind != 1 then td (pre ++ [s]) many r else bif isX s then (bif !goodX s then false else bif (pre.filter ld).any (mt s) then false else td (pre ++ [s]) (many + 1) r)
      else bif (pre.filter ld).any (mt s) then false else td (pre ++ [s]) many r
theorem tx_bad : ∀ (l pre : List Sg) (many : Nat) (o : Sg), (2 ≤ many ∨ (many = 1 ∧ goodX o = false)) → (tx pre many o l).2 = false
  | [], pre, many, o, h => by
    unfold tx
    rcases h with h | ⟨h, h2⟩
    · rw [dF (show ¬ many = 1 by omega)]; rfl
    · rw [h2, Bool.and_false]
  | s :: r, pre, many, o, h => by
    unfold tx
    cases pre.any (mt s) with
    | true => rfl
    | false =>
      cases isX s with
      | true => exact tx_bad r _ _ _ (.inl (by omega))
      | false => exact tx_bad r _ _ _ h
theorem td_tx : ∀ (l pre : List Sg) (many : Nat) (o : Sg), (many = 0 ∨ (many = 1 ∧ goodX o = true) ∨ 2 ≤ many) → td pre many l = (tx (pre.filter ld) many o (l.filter ld)).2
  | [], pre, many, o, h => by
    unfold td
    rw [List.filter_nil]
    unfold tx
    rcases h with h | ⟨h, h2⟩ | h
    · rw [dF (show ¬ many = 1 by omega)]; rfl
    · rw [dT h, h2]; rfl
    · rw [dF (show ¬ many = 1 by omega)]; rfl
  | s :: r, pre, many, o, h => by
    unfold td
    rw [List.filter_cons]
    have hld : ld s = (s.kind == 1) := rfl
    cases hk : s.kind == 1 with
    | false =>
      have hk2 : (s.kind != 1) = true := by unfold bne; rw [hk]; rfl
      rw [hk2, cond_true, hld, hk, if_neg Bool.false_ne_true, td_tx r (pre ++ [s]) many o h, List.filter_append]
      simp [ld, hk]
    | true =>
      have hk2 : (s.kind != 1) = false := by unfold bne; rw [hk]; rfl
      have hf : (pre ++ [s]).filter ld = pre.filter ld ++ [s] := by rw [List.filter_append]; simp [ld, hk]
      rw [hk2, cond_false, hld, hk, if_pos rfl]
      unfold tx
      rw [← hf]
      cases hx : isX s with
      | true =>
        simp only [cond_true]
        cases hg : goodX s with
        | false =>
          rw [Bool.not_false, cond_true]
          cases (pre.filter ld).any (mt s) with
          | true => rfl
          | false =>
            rw [cond_false, tx_bad]
            by_cases hm : many = 0
            · exact .inr ⟨by omega, hg⟩
            · exact .inl (by omega)
        | true =>
          rw [Bool.not_true, cond_false]
          cases (pre.filter ld).any (mt s) with
          | true => rfl
          | false =>
            rw [cond_false, cond_false]
            refine td_tx r (pre ++ [s]) (many + 1) s ?_
            by_cases hm : many = 0
            · exact .inr (.inl ⟨by omega, hg⟩)
            · exact .inr (.inr (by omega))
      | false =>
        simp only [cond_false]
        cases (pre.filter ld).any (mt s) with
        | true => rfl
        | false => exact td_tx r (pre ++ [s]) many o h
theorem loop38b {H : Heap} {t : Option Sl} {pre : List Sg} (hR : RS 5 ESg H t pre) (hl : pre.length < 1000) (hu : ∀ s ∈ pre, SgU s ∧ szOk s = true) {s : Sg} (hs : SgU s ∧ szOk s = true) (t3 : Int) (t9 : Option Sl) (t10 t11 b0 b1 : Int) (b2 b3 b4 : Option Sl) : ∀ (m n i : Nat), i + m = pre.length →
    D38_11 (n + m + 1) t3 t9 t10 t11 t (pre.length : Int) (i : Int) b0 b1 b2 b3 b4 s.kind s.flags s.addr s.size s.sl H =
      bif ((pre.drop i).filter ld).any (mt s) then some (.ret, X38_11 false t3 t9 t10 t11 b0 b1 b2 b3 b4 H) else some (.exit 2, X38_11a t3 t9 t10 t11 b0 b1 b2 b3 b4 H)
  | 0, n, i, hm => by
    rw [List.drop_eq_nil_of_le (by omega), D38_11_s, dF (by omega), cf]; rfl
  | m + 1, n, i, hm => by
    have hi : i < pre.length := by omega
    obtain ⟨sl, e0, g1, c0, c1, c2, c3, c4⟩ := getsSg hR (List.getElem?_eq_getElem hi)
    have ih := loop38b hR hl hu hs t3 t9 t10 t11 b0 b1 b2 b3 b4 m n (i + 1) (by omega)
    obtain ⟨x1, x2⟩ := hu _ (List.getElem_mem hi)
    have hm' := f65_x hs.1 x1 (by have := sz_of hs.2; omega) (by have := sz_of x2; omega) H
    rw [show n + (m + 1) + 1 = (n + m + 1) + 1 by omega, D38_11_s, dT (by omega), ct, List.drop_eq_getElem_cons hi, List.filter_cons]
    rw [show t.bind = (some sl).bind (β := AExit × St) by rw [e0]]
    simp only [Ab.bs, g1, ct, c0, c1, c2, c3, c4, tInt, tSlice, hm', i64_succ i (by omega), ih]
    rw [show ld pre[i] = (pre[i].kind == 1) from rfl]
    cases pre[i].kind == 1 with
    | false => rw [cf, if_neg Bool.false_ne_true]
    | true =>
      rw [ct, if_pos rfl, List.any_cons]
      cases mt s pre[i] with
      | true => rw [ct, Bool.true_or, ct]
      | false => rw [cf, Bool.false_or]
theorem loop38a {H : Heap} {t : Option Sl} {l : List Sg} (hR : RS 5 ESg H t l) (hl : l.length < 1000) (hu : ∀ s ∈ l, SgU s ∧ szOk s = true) (hk : ∀ s ∈ l, 0 ≤ s.flags ∧ s.flags ≤ 7) (hd : ∀ s ∈ l, slen s.sl = (s.data.length : Int) ∧ s.data.length ≤ 1000) (b0 b1 : Int) (b3 b4 : Option Sl) :
    ∀ (m n i many : Nat), i + m = l.length → many ≤ i → (D38_3 (n + m + 1) (many : Int) t (l.length : Int) (i : Int) b0 b1 t b3 b4 H).bind J38_3 = some (td (l.take i) many (l.drop i), H)
  | 0, n, i, many, hm, hmi => by
    rw [List.drop_eq_nil_of_le (by omega), D38_3_s, dF (by omega), cf, Ab.bs, J38_3_1]
    unfold td
    have e1 : ((many : Int) == 1) = decide (many = 1) := by
      rw [show ((many : Int) == 1) = decide ((many : Int) = 1) from rfl]
      exact decide_eq_decide.2 (by omega)
    rw [e1]
  | m + 1, n, i, many, hm, hmi => by
    have hi : i < l.length := by omega
    obtain ⟨sl, e0, g1, c0, c1, c2, c3, c4⟩ := getsSg hR (List.getElem?_eq_getElem hi)
    have hes := hR.esOkT
    obtain ⟨p, p1, p2, p3⟩ := hR.sub0 ESg_len i (by omega)
    have hpu : ∀ s ∈ l.take i, SgU s ∧ szOk s = true := fun s hs => hu s (List.mem_of_mem_take hs)
    have hsu := hu _ (List.getElem_mem hi)
    have hsd := hd _ (List.getElem_mem hi)
    have hsk := hk _ (List.getElem_mem hi)
    have htk : l.take i ++ [l[i]] = l.take (i + 1) := by rw [List.take_succ_eq_append_getElem hi]
    have hlp : (l.take i).length = i := by simp; omega
    have w : IntKind.i64.wrap ((many : Int) + 1) = ((many + 1 : Nat) : Int) := i64_succ many (by omega)
    rw [show n + (m + 1) + 1 = (n + m + 1) + 1 by omega, D38_3_s, dT (by omega), ct, List.drop_eq_getElem_cons hi, td, htk]
    rw [show t.bind = (some sl).bind (β := AExit × St) by rw [e0]]
    simp only [Ab.bs, g1, ct, c0, c1, c2, c3, c4, tInt, tSlice, p1, hes, p2.slenEq, w]
    generalize l[i] = s at *
    rw [isX_mod hsk]
    cases hk1 : s.kind != 1 with
    | true =>
      simp only [ct]
      rw [i64_succ i (by omega)]
      exact loop38a hR hl hu hk hd b0 b1 b3 b4 m n (i + 1) many (by omega) (by omega)
    | false =>
      simp only [cf]
      have go : ∀ many', many' ≤ i + 1 → ((LL38_11 (many' : Int) t (l.length : Int) (i : Int) p (((l.take i).length : Nat) : Int) 0 b0 b1 t b3 b4 s.kind s.flags s.addr s.size s.sl H).bind (J38_11 (n + m + 1))).bind J38_3 = some (bif ((l.take i).filter ld).any (mt s) then false else td (l.take (i + 1)) many' (l.drop (i + 1)), H) := by
        intro many' hm2
        obtain ⟨n1, hn1⟩ := LL38_11_of i (by omega) (many' : Int) t (l.length : Int) (i : Int) p (((l.take i).length : Nat) : Int) 0 b0 b1 t b3 b4 s.kind s.flags s.addr s.size s.sl H
        have hb := loop38b p2 (by omega) hpu hsu (many' : Int) t (l.length : Int) (i : Int) b0 b1 t b3 b4 i n1 0 (by omega)
        rw [List.drop_zero] at hb
        rw [hn1, show (0 : Int) = ((0 : Nat) : Int) from rfl, hb]
        cases ((l.take i).filter ld).any (mt s) with
        | true => simp only [ct, Ab.bs, J38_11_0, J38_3_0]
        | false =>
          simp only [cf, Ab.bs, J38_11_1, i64_succ i (by omega)]
          exact loop38a hR hl hu hk hd b0 b1 b3 b4 m n (i + 1) many' (by omega) (by omega)
      cases hx : isX s with
      | true =>
        simp only [ct]
        unfold goodX
        rw [hsd.1, u64_len _ (show s.data.length < 1000000 by omega)]
        by_cases q1 : s.flags = 5
        · have z1 : (s.flags != 5) = false := by simp [q1]
          have z1' : (s.flags == 5) = true := by simp [q1]
          rw [z1, cf, z1', Bool.true_and]
          by_cases q2 : s.size = (s.data.length : Int)
          · have z2 : (s.size != (s.data.length : Int)) = false := by simp [q2]
            have z2' : (s.size == (s.data.length : Int)) = true := by simp [q2]
            rw [z2, cf, z2', Bool.true_and]
            by_cases q3 : 0 < s.data.length
            · have z3 : (s.size == 0) = false := by rw [q2]; simp; intro e; rw [e] at q3; simp at q3
              rw [z3, cf, dT q3, Bool.true_and]
              by_cases q4 : s.data.length ≤ 4096
              · rw [dF (show ¬ s.size > 4096 by omega), cf, dT q4, Bool.not_true, cf]
                exact go (many + 1) (by omega)
              · rw [dT (show s.size > 4096 by omega), ct, dF q4, Bool.not_false, ct, Ab.bs, J38_3_0]
            · have z3 : (s.size == 0) = true := by rw [beq_iff_eq]; omega
              rw [z3, ct, dF q3, Bool.false_and, Bool.not_false, ct, Ab.bs, J38_3_0]
          · have z2 : (s.size != (s.data.length : Int)) = true := by simp [q2]
            have z2' : (s.size == (s.data.length : Int)) = false := by simp [q2]
            rw [z2, ct, z2', Bool.false_and, Bool.not_false, ct, Ab.bs, J38_3_0]
        · have z1 : (s.flags != 5) = true := by simp [q1]
          have z1' : (s.flags == 5) = false := by simp [q1]
          rw [z1, ct, z1', Bool.false_and, Bool.not_false, ct, Ab.bs, J38_3_0]
      | false =>
        simp only [cf]
        exact go many (by omega)
theorem f38_x {H : Heap} {s : FS} {f : Fl} (h : FR H s f) (hl : f.sg.length < 1000) (hu : ∀ s ∈ f.sg, SgU s ∧ szOk s = true) (hk : ∀ s ∈ f.sg, 0 ≤ s.flags ∧ s.flags ≤ 7) (hd : ∀ s ∈ f.sg, s.data.length ≤ 1000) : f38 s.M s.E s.sg s.sy s.rl H = some ((textP (loadsP f)).2, H) := by
  obtain ⟨n, hn⟩ := LL38_3_of f.sg.length (by omega) 0 s.sg (f.sg.length : Int) 0 s.M s.E s.sg s.sy s.rl H
  have := loop38a h.sg hl hu hk (fun x hx => ⟨(h.sd x hx).slenEq, hd x hx⟩) s.M s.E s.sy s.rl f.sg.length n 0 0 (by omega) (Nat.le_refl _)
  rw [List.drop_zero, List.take_zero, td_tx f.sg [] 0 z0 (.inl rfl)] at this
  rw [q38, h.sg.slenEq, hn]
  exact this
/-! stacks -/
theorem loop39b {H : Heap} {t : Option Sl} {l : List Sg} (hR : RS 5 ESg H t l) (hl : l.length < 1000) (hu : ∀ s ∈ l, SgU s ∧ szOk s = true) {s : Sg} (hs : SgU s ∧ szOk s = true) (i : Nat) (t9 : Option Sl) (t10 t11 b0 b1 : Int) (b2 b3 b4 : Option Sl) : ∀ (m n k : Nat), k + m = l.length →
    D39_11 (n + m + 1) (i : Int) (guardS s).addr t9 t10 t11 t (l.length : Int) (k : Int) b0 b1 b2 b3 b4 s.kind s.flags s.addr s.size s.sl H =
      bif noneM (guardS s) i k (l.drop k) then some (.exit 2, X39_11a t9 t10 t11 b0 b1 b2 b3 b4 H) else some (.ret, X39_11 false t9 t10 t11 b0 b1 b2 b3 b4 H)
  | 0, n, k, hm => by
    rw [List.drop_eq_nil_of_le (by omega), D39_11_s, dF (by omega), cf]; rfl
  | m + 1, n, k, hm => by
    have hi : k < l.length := by omega
    obtain ⟨sl, e0, g1, c0, c1, c2, c3, c4⟩ := getsSg hR (List.getElem?_eq_getElem hi)
    have ih := loop39b hR hl hu hs i t9 t10 t11 b0 b1 b2 b3 b4 m n (k + 1) (by omega)
    obtain ⟨x1, x2⟩ := hu _ (List.getElem_mem hi)
    have hg := guard_u hs.1 hs.2
    obtain ⟨z1, z2, z3⟩ := sz_of hs.2
    have hus := hs.1
    unfold SgU u64r at hus
    have hgs : (guardS s).size = s.addr + s.size + 4096 - (guardS s).addr := rfl
    have hga : 0 ≤ (guardS s).addr ∧ (guardS s).addr ≤ s.addr := by unfold guardS; simp only []; split <;> omega
    have hm' := f65_x hg x1 (by rw [hgs]; omega) (by have := sz_of x2; omega) H
    have w1 : IntKind.u64.wrap (IntKind.u64.wrap (IntKind.u64.wrap (s.addr + s.size) + 4096) - (guardS s).addr) = (guardS s).size := by
      rw [hgs, show IntKind.u64.wrap (s.addr + s.size) = s.addr + s.size by rw [wrap_u64]; omega, show IntKind.u64.wrap (s.addr + s.size + 4096) = s.addr + s.size + 4096 by rw [wrap_u64]; omega, wrap_u64]
      omega
    rw [show n + (m + 1) + 1 = (n + m + 1) + 1 by omega, D39_11_s, dT (by omega), ct, List.drop_eq_getElem_cons hi, noneM]
    rw [show t.bind = (some sl).bind (β := AExit × St) by rw [e0]]
    simp only [Ab.bs, g1, ct, c0, c1, c2, c3, c4, tInt, tSlice, w1, hm', i64_succ k (by omega), ih]
    by_cases hki : k = i
    · have : ((k : Int) != (i : Int)) = false := by simp [hki]
      rw [this, cf, dT hki, Bool.true_or, Bool.true_and]
    · have : ((k : Int) != (i : Int)) = true := by simp; omega
      rw [this, ct, dF hki, Bool.false_or]
      cases mt (guardS s) l[k] with
      | true => rw [ct]; rfl
      | false => rw [cf, Bool.not_false, Bool.true_and]
theorem loop39a {H : Heap} {t : Option Sl} {l : List Sg} (hR : RS 5 ESg H t l) (hl : l.length < 1000) (hu : ∀ s ∈ l, SgU s ∧ szOk s = true) (hk : ∀ s ∈ l, s.kind = 1 ∨ s.kind = 1610612737) (b0 b1 : Int) (b3 b4 : Option Sl) :
    ∀ (m n i : Nat), i + m = l.length → (D39_2 (n + m + 1) t (l.length : Int) (i : Int) b0 b1 t b3 b4 H).bind J39_2 = some ((stP l i (l.drop i)).isSome, H)
  | 0, n, i, hm => by
    rw [List.drop_eq_nil_of_le (by omega), D39_2_s, dF (by omega), cf, Ab.bs, J39_2_1]; rfl
  | m + 1, n, i, hm => by
    have hi : i < l.length := by omega
    obtain ⟨sl, e0, g1, c0, c1, c2, c3, c4⟩ := getsSg hR (List.getElem?_eq_getElem hi)
    have ih := loop39a hR hl hu hk b0 b1 b3 b4 m n (i + 1) (by omega)
    have hsu := hu _ (List.getElem_mem hi)
    have hsk := hk _ (List.getElem_mem hi)
    rw [show n + (m + 1) + 1 = (n + m + 1) + 1 by omega, D39_2_s, dT (by omega), ct, List.drop_eq_getElem_cons hi, stP]
    rw [show t.bind = (some sl).bind (β := AExit × St) by rw [e0]]
    simp only [Ab.bs, g1, ct, c0, c1, c2, c3, c4, tInt, tSlice, i64_succ i (by omega), hR.slenEq]
    generalize l[i] = s at *
    rcases hsk with s4 | s4
    · have z1 : (s.kind == 1) = true := by simp [s4]
      have z2 : (s.kind != 1610612737) = true := by simp [s4]
      rw [z1, ct, z2, ct]; exact ih
    · have z1 : (s.kind == 1) = false := by simp [s4]
      have z2 : (s.kind != 1610612737) = false := by simp [s4]
      rw [z1, cf, z2, cf]
      have hus := hsu.1
      unfold SgU u64r at hus
      obtain ⟨n1, hn1⟩ := LL39_11_of l.length (by omega) (i : Int) (guardS s).addr t (l.length : Int) (i : Int) t (l.length : Int) 0 b0 b1 t b3 b4 s.kind s.flags s.addr s.size s.sl H
      have hb := loop39b hR hl hu hsu i t (l.length : Int) (i : Int) b0 b1 t b3 b4 l.length n1 0 (by omega)
      rw [List.drop_zero] at hb
      have hb' : LL39_11 (i : Int) (guardS s).addr t (l.length : Int) (i : Int) t (l.length : Int) 0 b0 b1 t b3 b4 s.kind s.flags s.addr s.size s.sl H = _ := hn1.trans hb
      have key : ∀ e : Option (AExit × St), (e = bif s.addr.tmod 16 != 0 then some (AExit.ret, X39_2 false H) else bif s.size.tmod 16 != 0 then some (AExit.ret, X39_2 false H) else bif decide (s.size < 64) then some (AExit.ret, X39_2 false H) else (LL39_11 (i : Int) (guardS s).addr t (l.length : Int) (i : Int) t (l.length : Int) 0 b0 b1 t b3 b4 s.kind s.flags s.addr s.size s.sl H).bind (J39_11 (n + m + 1))) →
          e.bind J39_2 = some ((bif !aloneP l i s then none else (stP l (i + 1) (l.drop (i + 1))).map ((s.addr, s.size, isX s) :: ·)).isSome, H) := by
        intro e he
        rw [he, tmod16 (by omega), tmod16 (by omega)]
        unfold aloneP
        by_cases d1 : s.addr % 16 = 0
        · by_cases d2 : s.size % 16 = 0
          · by_cases d3 : 64 ≤ s.size
            · rw [dT d1, dT d2, dT d3, dF (show ¬ s.size < 64 by omega), hb']
              simp only [Bool.not_true, cf, Bool.true_and]
              cases noneM (guardS s) i 0 l with
              | true =>
                simp only [ct, Ab.bs, J39_11_1, i64_succ i (by omega), Bool.not_true, cf, ih]
                cases stP l (i + 1) (l.drop (i + 1)) <;> rfl
              | false => simp only [cf, Ab.bs, J39_11_0, J39_2_0, Bool.not_false, ct]; rfl
            · rw [dT d1, dT d2, dF d3, dT (show s.size < 64 by omega)]
              simp only [Bool.not_true, cf, ct, Ab.bs, J39_2_0, Bool.true_and, Bool.false_and, Bool.not_false]; rfl
          · rw [dT d1, dF d2]
            simp only [Bool.not_true, cf, ct, Ab.bs, J39_2_0, Bool.true_and, Bool.false_and, Bool.not_false]; rfl
        · rw [dF d1]
          simp only [Bool.not_false, ct, Ab.bs, J39_2_0, Bool.false_and]; rfl
      by_cases g : s.addr > 4096
      · have hg : (guardS s).addr = s.addr - 4096 := by unfold guardS; simp only []; rw [if_pos g]
        have w : IntKind.u64.wrap (s.addr - 4096) = s.addr - 4096 := by rw [wrap_u64]; omega
        rw [dT g, ct, w]
        exact key _ (by rw [hg])
      · have hg : (guardS s).addr = 0 := by unfold guardS; simp only []; rw [if_neg g]
        rw [dF g, cf]
        exact key _ (by rw [hg])
theorem f39_x {H : Heap} {s : FS} {f : Fl} (h : FR H s f) (hl : f.sg.length < 1000) (hu : ∀ s ∈ f.sg, SgU s ∧ szOk s = true) (hk : ∀ s ∈ f.sg, s.kind = 1 ∨ s.kind = 1610612737) : f39 s.M s.E s.sg s.sy s.rl H = some ((stP f.sg 0 f.sg).isSome, H) := by
  obtain ⟨n, hn⟩ := LL39_2_of f.sg.length (by omega) s.sg (f.sg.length : Int) 0 s.M s.E s.sg s.sy s.rl H
  have := loop39a h.sg hl hu hk s.M s.E s.sy s.rl f.sg.length n 0 (by omega)
  rw [List.drop_zero] at this
  rw [q39, h.sg.slenEq, hn]
  exact this
theorem f20_x {s : Sg} (hs : SgU s) {a n : Int} (ha : u64r a) (H : Heap) : f20 s.kind s.flags s.addr s.size s.sl a n H = some (hasP s a n, H) := by
  unfold SgU u64r at *
  rw [q20]
  unfold hasP
  by_cases g1 : a ≥ s.addr
  · rw [dF (show ¬ a < s.addr by omega), cf, dT g1, show IntKind.u64.wrap (a - s.addr) = a - s.addr by rw [wrap_u64]; omega, Bool.true_and]
    by_cases g2 : a - s.addr ≤ s.size
    · rw [dF (show ¬ a - s.addr > s.size by omega), cf, dT g2, show IntKind.u64.wrap (s.size - (a - s.addr)) = s.size - (a - s.addr) by rw [wrap_u64]; omega, Bool.true_and]
    · rw [dT (show a - s.addr > s.size by omega), ct, dF g2]; rfl
  · rw [dT (show a < s.addr by omega), ct, dF g1]; rfl
end
end Go.Proofs.Ytnjdajcgcnjamaa
