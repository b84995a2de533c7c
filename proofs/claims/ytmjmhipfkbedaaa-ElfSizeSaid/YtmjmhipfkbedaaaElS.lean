/- Layer 3: the document's May. -/
import Derived.Test.YtmjmhipfkbedaaaElR
namespace Go.Proofs.Ytmjmhipfkbedaaa
open Go Go.Proofs.Ytmjmhipfkbedaaa.Ab
set_option linter.unusedVariables false
set_option linter.unusedSimpArgs false
set_option maxRecDepth 100000
noncomputable section
theorem gt_not (a b : Int) : decide (a > b) = !decide (a ≤ b) := by
  cases h : decide (a ≤ b) with
  | true => simp at h; simp; omega
  | false => simp at h; simp; omega
theorem lt_not (a b : Int) : decide (a < b) = !decide (a ≥ b) := by
  cases h : decide (a ≥ b) with
  | true => simp at h; simp; omega
  | false => simp at h; simp; omega
theorem loop13c {H : Heap} {s : Option Sl} {l : List Rl} (hs : RS 3 ERl H s l) (hl : l.length ≤ 1000) (b0 b1 : Int) (b2 b3 b4 : Option Sl) (k : Nat) (hk : slen b3 = (k : Int)) :
    ∀ (m n i : Nat), i + m = l.length → (D13_16 (n + m + 1) s (l.length : Int) (i : Int) b0 b1 b2 b3 b4 H).bind J13_16 = some ((l.drop i).all (rlMay k), H)
  | 0, n, i, hm => by
    have g : decide ((i : Int) < (l.length : Int)) = false := by simp; omega
    rw [D13_16_s, g, cf, Ab.bs, J13_16_1, List.drop_eq_nil_of_le (by omega)]; rfl
  | m + 1, n, i, hm => by
    have hlt : i < l.length := by omega
    have g : decide ((i : Int) < (l.length : Int)) = true := by simp; omega
    obtain ⟨sl, e0, g1, c0, c1, c2⟩ := getsRl hs (List.getElem?_eq_getElem hlt)
    have ih := loop13c hs hl b0 b1 b2 b3 b4 k hk m n (i + 1) (by omega)
    rw [show n + (m + 1) + 1 = (n + m + 1) + 1 by omega, D13_16_s, g, ct]
    rw [show s.bind = (some sl).bind (β := AExit × St) by rw [e0]]
    simp only [Ab.bs, g1, ct, c0, c1, c2, tInt, hk, i64_succ i (show i < 9223372036854775807 by omega)]
    rw [List.drop_eq_getElem_cons hlt, List.all_cons]
    unfold rlMay
    unfold rlMay at ih
    cases decide (l[i].sym < 0) with
    | true => simp only [Bool.not_true, ct, Ab.bs, J13_16_0, Bool.false_and]
    | false =>
    cases decide (l[i].sym ≥ (k : Int)) with
    | true => simp only [Bool.not_true, Bool.not_false, ct, cf, Ab.bs, J13_16_0, Bool.false_and, Bool.and_false]
    | false =>
      simp only [Bool.not_false, cf, Bool.true_and]
      exact ih
theorem loop13b {H0 : Heap} {s : Option Sl} {l : List Sy} (R : Bool) (hs : RS 4 ESy H0 s l) (hl : l.length ≤ 1000) (b0 b1 : Int) (b2 b3 b4 : Option Sl) (hR : ∀ H, Kp No H0 H → (LL13_16 b4 (slen b4) 0 b0 b1 b2 b3 b4 H).bind J13_16 = some (R, H)) :
    ∀ (m n i : Nat) (H : Heap), i + m = l.length → Kp No H0 H → ∃ H', (D13_10 (n + m + 1) s (l.length : Int) (i : Int) b0 b1 b2 b3 b4 H).bind J13_10 = some ((l.drop i).all syMay && R, H') ∧ Kp No H0 H'
  | 0, n, i, H, hm, k => by
    have g : decide ((i : Int) < (l.length : Int)) = false := by simp; omega
    exact ⟨H, by rw [D13_10_s, g, cf, Ab.bs, J13_10_1, List.drop_eq_nil_of_le (by omega), hR H k]; rfl, k⟩
  | m + 1, n, i, H, hm, k => by
    have hlt : i < l.length := by omega
    have g : decide ((i : Int) < (l.length : Int)) = true := by simp; omega
    obtain ⟨sl, e0, g1, c0, c1, c2, c3⟩ := getsSy (hs.no k) (List.getElem?_eq_getElem hlt)
    rw [show n + (m + 1) + 1 = (n + m + 1) + 1 by omega, D13_10_s, g, ct]
    rw [show s.bind = (some sl).bind (β := AExit × St) by rw [e0]]
    simp only [Ab.bs, g1, ct, c0, c1, c2, c3, tInt, tStr, i64_succ i (show i < 9223372036854775807 by omega)]
    rw [List.drop_eq_getElem_cons hlt, List.all_cons, gt_not]
    cases hz : decide ((l[i].name.size : Int) ≤ 32) with
    | false =>
      have e : syMay l[i] = false := by unfold syMay; rw [hz]; rfl
      rw [e]
      exact ⟨H, by simp only [Bool.not_false, ct, Ab.bs, J13_10_0, Bool.false_and], k⟩
    | true =>
      have hz' : l[i].name.size ≤ 32 := by simp at hz; omega
      have kP : Kp No H (H ++ [Blk.row (bytesCells l[i].name) false]) := Kp.push1 _ _
      have hrs : RS 1 E8 (H ++ [Blk.row (bytesCells l[i].name) false]) (some ⟨H.length, 0, l[i].name.size, l[i].name.size, 1⟩) l[i].name.data.toList := by
        have := rs_new (E := E8) (H := H ++ [Blk.row (bytesCells l[i].name) false]) (id := H.length) (n := 1) l[i].name.data.toList (ro := false) (by rw [push_get, bytesCells_flat]) rfl
        simpa using this
      have hf := f38_spec hrs (by simp; omega) 0 (by omega)
      rw [List.drop_zero] at hf
      obtain ⟨H', r1, r2⟩ := loop13b R hs hl b0 b1 b2 b3 b4 hR m n (i + 1) (H ++ [Blk.row (bytesCells l[i].name) false]) (by omega) (k.tr kP)
      have hi := ixs_ge l[i].name
      have hi' : decide (strings_IndexByte l[i].name 0 < 0) = !(fi l[i].name.data.toList).isSome := by rw [lt_not, hi]
      have e : syMay l[i] = (!(fi l[i].name.data.toList).isSome && (decide (l[i].kind ≥ 0) && decide (l[i].kind ≤ 2))) := by unfold syMay; rw [hz, hi', Bool.true_and]
      rw [e, Bool.not_true, cf, show decide (l[i].name.size ≤ 17592186044416) = true by simp; omega, ct]
      have hf' : f38 (some ⟨List.length H, 0, l[i].name.size, l[i].name.size, 1⟩) 0 (H ++ [Blk.row (bytesCells l[i].name) false]) = _ := hf
      rw [hf', Ab.bs]
      dsimp only
      cases hfi : fi l[i].name.data.toList with
      | some q =>
        refine ⟨_, ?_, k.tr kP⟩
        dsimp only
        rw [show decide (((0 + q : Nat) : Int) ≥ 0) = true by simp, ct, Ab.bs, J13_10_0]; rfl
      | none =>
        dsimp only
        rw [show decide ((-1 : Int) ≥ 0) = false from rfl, cf, lt_not, gt_not]
        cases decide (l[i].kind ≥ 0) with
        | false => exact ⟨_, by simp only [Bool.not_false, ct, Ab.bs, J13_10_0]; rfl, k.tr kP⟩
        | true =>
        cases decide (l[i].kind ≤ 2) with
        | false => exact ⟨_, by simp only [Bool.not_true, Bool.not_false, cf, ct, Ab.bs, J13_10_0]; rfl, k.tr kP⟩
        | true =>
          refine ⟨H', ?_, r2⟩
          simp only [Bool.not_true, cf]
          exact r1
theorem loop13a {H0 : Heap} {s : Option Sl} {l : List Sg} (R : Bool) (hs : RS 5 ESg H0 s l) (hl : l.length ≤ 1000) (dl : ∀ x ∈ l, RS 1 E8 H0 x.sl x.data) (b0 b1 : Int) (b2 b3 b4 : Option Sl) (hR : ∃ H', (LL13_10 b3 (slen b3) 0 b0 b1 b2 b3 b4 H0).bind J13_10 = some (R, H') ∧ Kp No H0 H') :
    ∀ (m n i : Nat), i + m = l.length → ∃ H', (D13_4 (n + m + 1) s (l.length : Int) (i : Int) b0 b1 b2 b3 b4 H0).bind J13_4 = some ((l.drop i).all sgMay && R, H') ∧ Kp No H0 H'
  | 0, n, i, hm => by
    have g : decide ((i : Int) < (l.length : Int)) = false := by simp; omega
    obtain ⟨H', r1, r2⟩ := hR
    exact ⟨H', by rw [D13_4_s, g, cf, Ab.bs, J13_4_1, List.drop_eq_nil_of_le (by omega), r1]; rfl, r2⟩
  | m + 1, n, i, hm => by
    have hlt : i < l.length := by omega
    have g : decide ((i : Int) < (l.length : Int)) = true := by simp; omega
    obtain ⟨sl, e0, g1, c0, c1, c2, c3, c4⟩ := getsSg hs (List.getElem?_eq_getElem hlt)
    obtain ⟨H', r1, r2⟩ := loop13a R hs hl dl b0 b1 b2 b3 b4 hR m n (i + 1) (by omega)
    rw [show n + (m + 1) + 1 = (n + m + 1) + 1 by omega, D13_4_s, g, ct]
    rw [show s.bind = (some sl).bind (β := AExit × St) by rw [e0]]
    simp only [Ab.bs, g1, ct, c0, c1, c2, c3, c4, tInt, tSlice, (dl _ (List.getElem_mem hlt)).slenEq, i64_succ i (show i < 9223372036854775807 by omega)]
    rw [List.drop_eq_getElem_cons hlt, List.all_cons, gt_not (IntKind.u64.wrap _)]
    have hp : decide ((l[i].data.length : Int) > 0) = !((l[i].data.length : Int) == 0) := by
      cases hd : ((l[i].data.length : Int) == 0) with
      | true => simp at hd; simp [hd]
      | false => simp at hd; simp; exact List.length_pos_iff.2 hd
    rw [hp]
    rw [show sgMay l[i] = ((l[i].kind == 1 || l[i].kind == 1610612737) && (!decide (l[i].flags < 0) && (!decide (l[i].flags > 7) && (!decide (l[i].size > 4294967296) && (!decide (l[i].addr > 9223372036854775808) && (decide (IntKind.u64.wrap (l[i].data.length : Int) ≤ l[i].size) && (l[i].kind == 1 || ((l[i].data.length : Int) == 0)))))))) from rfl]
    unfold bne
    generalize (l.drop (i + 1)).all sgMay = A at r1 ⊢
    have kr := Kp.refl No H0
    cases l[i].kind == 1 with
    | false =>
      cases l[i].kind == 1610612737 with
      | false => exact ⟨H0, by simp only [Bool.not_false, ct, Ab.bs, J13_4_0]; rfl, kr⟩
      | true =>
      cases ((l[i].data.length : Int) == 0) with
      | false => exact ⟨H0, by simp only [Bool.not_false, Bool.not_true, cf, ct, Ab.bs, J13_4_0, Bool.false_or, Bool.or_false, Bool.and_false, Bool.false_and], kr⟩
      | true =>
      cases decide (l[i].flags < 0) with
      | true => exact ⟨H0, by simp only [Bool.not_false, Bool.not_true, cf, ct, Ab.bs, J13_4_0, Bool.and_false, Bool.false_and], kr⟩
      | false =>
      cases decide (l[i].flags > 7) with
      | true => exact ⟨H0, by simp only [Bool.not_false, Bool.not_true, cf, ct, Ab.bs, J13_4_0, Bool.and_false, Bool.false_and], kr⟩
      | false =>
      cases decide (l[i].size > 4294967296) with
      | true => exact ⟨H0, by simp only [Bool.not_false, Bool.not_true, cf, ct, Ab.bs, J13_4_0, Bool.and_false, Bool.false_and], kr⟩
      | false =>
      cases decide (l[i].addr > 9223372036854775808) with
      | true => exact ⟨H0, by simp only [Bool.not_false, Bool.not_true, cf, ct, Ab.bs, J13_4_0, Bool.and_false, Bool.false_and], kr⟩
      | false =>
      cases decide (IntKind.u64.wrap (l[i].data.length : Int) ≤ l[i].size) with
      | false => exact ⟨H0, by simp only [Bool.not_false, Bool.not_true, cf, ct, Ab.bs, J13_4_0, Bool.and_false, Bool.false_and], kr⟩
      | true => exact ⟨H', by simp only [Bool.not_false, Bool.not_true, cf, ct, r1]; rfl, r2⟩
    | true =>
      cases decide (l[i].flags < 0) with
      | true => exact ⟨H0, by simp only [Bool.not_false, Bool.not_true, cf, ct, Ab.bs, J13_4_0, Bool.and_false, Bool.false_and], kr⟩
      | false =>
      cases decide (l[i].flags > 7) with
      | true => exact ⟨H0, by simp only [Bool.not_false, Bool.not_true, cf, ct, Ab.bs, J13_4_0, Bool.and_false, Bool.false_and], kr⟩
      | false =>
      cases decide (l[i].size > 4294967296) with
      | true => exact ⟨H0, by simp only [Bool.not_false, Bool.not_true, cf, ct, Ab.bs, J13_4_0, Bool.and_false, Bool.false_and], kr⟩
      | false =>
      cases decide (l[i].addr > 9223372036854775808) with
      | true => exact ⟨H0, by simp only [Bool.not_false, Bool.not_true, cf, ct, Ab.bs, J13_4_0, Bool.and_false, Bool.false_and], kr⟩
      | false =>
      cases decide (IntKind.u64.wrap (l[i].data.length : Int) ≤ l[i].size) with
      | false => exact ⟨H0, by simp only [Bool.not_false, Bool.not_true, cf, ct, Ab.bs, J13_4_0, Bool.and_false, Bool.false_and], kr⟩
      | true => exact ⟨H', by simp only [Bool.not_false, Bool.not_true, cf, ct, r1]; rfl, r2⟩
/-- The document's May. -/
theorem f13_x {H : Heap} {s : FS} {f : Fl} (h : FR H s f) : Says (f13 s.M s.E s.sg s.sy s.rl H) H (mayF f) := by
  have kr := Kp.refl No H
  have key : f.sg.length ≤ 24 → f.sy.length ≤ 64 → f.rl.length ≤ 64 → ∃ H', (LL13_4 s.sg (slen s.sg) 0 s.M s.E s.sg s.sy s.rl H).bind J13_4 = some (f.sg.all sgMay && (f.sy.all syMay && f.rl.all (rlMay f.sy.length)), H') ∧ Kp No H H' := by
    intro h1 h2 h3
    have r3 : ∀ G, Kp No H G → (LL13_16 s.rl (slen s.rl) 0 s.M s.E s.sg s.sy s.rl G).bind J13_16 = some (f.rl.all (rlMay f.sy.length), G) := fun G k => by
      obtain ⟨n, e⟩ := LL13_16_of f.rl.length (by omega) s.rl (slen s.rl) 0 s.M s.E s.sg s.sy s.rl G
      rw [e, h.rl.slenEq]
      exact loop13c (h.no k).rl (by omega) s.M s.E s.sg s.sy s.rl f.sy.length h.sy.slenEq f.rl.length n 0 (by omega)
    have r2 : ∃ H', (LL13_10 s.sy (slen s.sy) 0 s.M s.E s.sg s.sy s.rl H).bind J13_10 = some (f.sy.all syMay && f.rl.all (rlMay f.sy.length), H') ∧ Kp No H H' := by
      obtain ⟨n, e⟩ := LL13_10_of f.sy.length (by omega) s.sy (slen s.sy) 0 s.M s.E s.sg s.sy s.rl H
      rw [e, h.sy.slenEq]
      exact loop13b _ h.sy (by omega) s.M s.E s.sg s.sy s.rl r3 f.sy.length n 0 H (by omega) kr
    obtain ⟨n, e⟩ := LL13_4_of f.sg.length (by omega) s.sg (slen s.sg) 0 s.M s.E s.sg s.sy s.rl H
    rw [e, h.sg.slenEq]
    exact loop13a _ h.sg (by omega) h.sd s.M s.E s.sg s.sy s.rl r2 f.sg.length n 0 (by omega)
  have d1 : decide (slen s.sg > 24) = !decide (f.sg.length ≤ 24) := by rw [h.sg.slenEq, gt_not]; congr 1; simp; omega
  have d2 : decide (slen s.sy > 64) = !decide (f.sy.length ≤ 64) := by rw [h.sy.slenEq, gt_not]; congr 1; simp; omega
  have d3 : decide (slen s.rl > 64) = !decide (f.rl.length ≤ 64) := by rw [h.rl.slenEq, gt_not]; congr 1; simp; omega
  rw [q13, d1, d2, d3, show (s.M != 62) = !(f.M == 62) by rw [h.m]; rfl, show (s.M != 183) = !(f.M == 183) by rw [h.m]; rfl]
  unfold mayF
  cases e1 : decide (f.sg.length ≤ 24) with
  | false => exact ⟨H, by cases f.M == 62 <;> cases f.M == 183 <;> rfl, kr⟩
  | true =>
  cases e2 : decide (f.sy.length ≤ 64) with
  | false => exact ⟨H, by cases f.M == 62 <;> cases f.M == 183 <;> rfl, kr⟩
  | true =>
  cases e3 : decide (f.rl.length ≤ 64) with
  | false => exact ⟨H, by cases f.M == 62 <;> cases f.M == 183 <;> rfl, kr⟩
  | true =>
    obtain ⟨H', r1, r2⟩ := key (of_decide_eq_true e1) (of_decide_eq_true e2) (of_decide_eq_true e3)
    cases f.M == 62 with
    | true => exact ⟨H', by simp only [Bool.not_true, cf, r1]; rfl, r2⟩
    | false =>
    cases f.M == 183 with
    | true => exact ⟨H', by simp only [Bool.not_true, Bool.not_false, cf, ct, r1]; rfl, r2⟩
    | false => exact ⟨H, by simp only [Bool.not_false, ct]; rfl, kr⟩
end
end Go.Proofs.Ytmjmhipfkbedaaa
