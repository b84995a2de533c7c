/- Layer 3: the document writes a file. -/
import Derived.Test.YtmjmhipfkbedaaaElX
namespace Go.Proofs.Ytmjmhipfkbedaaa
open Go Go.Proofs.Ytmjmhipfkbedaaa.Ab
set_option linter.unusedVariables false
set_option linter.unusedSimpArgs false
set_option maxRecDepth 100000
noncomputable section
def dataN : List Sg → Nat
  | [] => 0
  | s :: r => s.data.length + dataN r
theorem segN_data : ∀ (r : List Sg) (N : Nat), N + dataN r ≤ segN N r ∧ segN N r ≤ N + dataN r + 15 * r.length
  | [], N => ⟨Nat.le_refl _, Nat.le_refl _⟩
  | s :: r, N => by
    have ih := segN_data r (up16 N + s.data.length)
    have h1 := up16_ge N
    have h2 : up16 N ≤ N + 15 := by rw [up16_eq]; omega
    unfold dataN segN
    simp only [List.length_cons]
    omega
theorem loop7a {H : Heap} {s : FS} {f : Fl} (h : FR H s f) (hl : f.sg.length ≤ 24) : ∀ (r : List Sg) (n i acc : Nat), f.sg.drop i = r → acc ≤ 1048576 →
    (D7_5 (n + r.length + 1) (acc : Int) s.sg (f.sg.length : Int) (i : Int) s.M s.E s.sg s.sy s.rl H = some (.ret, X7_5 none s.M s.E s.sg s.sy s.rl H) ∧ 1048576 < acc + dataN r) ∨
    (D7_5 (n + r.length + 1) (acc : Int) s.sg (f.sg.length : Int) (i : Int) s.M s.E s.sg s.sy s.rl H = some (.exit 0, X7_5a s.M s.E s.sg s.sy s.rl H) ∧ acc + dataN r ≤ 1048576)
  | [], n, i, acc, hr, ha => by
    have hi : f.sg.length ≤ i := by
      rcases Nat.lt_or_ge i f.sg.length with h1 | h1
      · rw [List.drop_eq_getElem_cons h1] at hr; cases hr
      · exact h1
    have g : decide ((i : Int) < (f.sg.length : Int)) = false := by simp; omega
    exact .inr ⟨by rw [List.length_nil, Nat.add_zero, D7_5_s, g, cf], by unfold dataN; omega⟩
  | x :: r, n, i, acc, hr, ha => by
    have hi : i < f.sg.length := by
      rcases Nat.lt_or_ge i f.sg.length with h1 | h1
      · exact h1
      · rw [List.drop_eq_nil_of_le h1] at hr; cases hr
    rw [List.drop_eq_getElem_cons hi, List.cons.injEq] at hr
    obtain ⟨hs, hr⟩ := hr
    have hsi : f.sg[i]? = some x := by rw [List.getElem?_eq_getElem hi, hs]
    have hx := h.sd x (by rw [← hs]; exact List.getElem_mem hi)
    have g : decide ((i : Int) < (f.sg.length : Int)) = true := by simp; omega
    obtain ⟨sl, e0, g1, c0, c1, c2, c3, c4⟩ := getsSg h.sg hsi
    have hst := D7_5_s (n + r.length + 1) (acc : Int) s.sg (f.sg.length : Int) (i : Int) s.M s.E s.sg s.sy s.rl H
    rw [g, ct, show s.sg.bind = (some sl).bind (β := AExit × St) by rw [e0]] at hst
    simp only [Ab.bs, g1, ct, c0, c1, c2, c3, c4, tInt, tSlice, hx.slenEq, i64_succ i (show i < 9223372036854775807 by omega)] at hst
    have hw : IntKind.i64.wrap (1048576 - (acc : Int)) = ((1048576 - acc : Nat) : Int) := by rw [wrap_i64 (by omega) (by omega)]; omega
    rw [hw] at hst
    have hlen : n + (x :: r).length + 1 = (n + r.length + 1) + 1 := by simp; omega
    rw [hlen]
    unfold dataN
    by_cases hd : x.data.length ≤ 1048576 - acc
    · rw [show decide ((x.data.length : Int) > ((1048576 - acc : Nat) : Int)) = false by simp; omega, cf] at hst
      have hw2 : IntKind.i64.wrap ((acc : Int) + (x.data.length : Int)) = ((acc + x.data.length : Nat) : Int) := by rw [wrap_i64 (by omega) (by omega)]; omega
      rw [hw2] at hst
      rcases loop7a h hl r n (i + 1) (acc + x.data.length) hr (by omega) with ⟨q1, q2⟩ | ⟨q1, q2⟩
      · exact .inl ⟨hst.trans q1, by omega⟩
      · exact .inr ⟨hst.trans q1, by omega⟩
    · rw [show decide ((x.data.length : Int) > ((1048576 - acc : Nat) : Int)) = true by simp; omega, ct] at hst
      exact .inl ⟨hst, by omega⟩
theorem lenF_data (f : Fl) : dataN f.sg ≤ lenF f := by
  have h1 : len1 f.sg ≤ hpos f := (hpos_ge f).2.2
  have h2 := (segN_data f.sg (64 + 56 * f.sg.length)).1
  have h3 : len1 f.sg = segN (64 + 56 * f.sg.length) f.sg := rfl
  have h4 : lenF f = hpos f + 320 := rfl
  omega
/-- The document's Write. -/
theorem f7_x {H : Heap} {s : FS} {f : Fl} (h : FR H s f) (hf : FOk f) : ∃ b H', f7 s.M s.E s.sg s.sy s.rl H = some (b, H') ∧ Kp No H H' ∧ (mayF f = true → lenF f ≤ 1048576 → RS 1 E8 H' b (outB f)) ∧ ((mayF f = true ∧ lenF f ≤ 1048576) ∨ b = none) := by
  obtain ⟨H1, e1, k1⟩ := f13_x h
  have h1 := h.no k1
  cases hm : mayF f with
  | false =>
    rw [hm] at e1
    exact ⟨none, H1, by rw [q7, e1, Ab.bs]; rfl, k1, fun h => (by cases h), .inr rfl⟩
  | true =>
  rw [hm] at e1
  obtain ⟨m1, m2, m3, m4, m5, m6, m7⟩ := may_ok hm hf
  obtain ⟨n1, x1⟩ := LL7_5_of f.sg.length (by omega) 0 s.sg (slen s.sg) 0 s.M s.E s.sg s.sy s.rl H1
  rw [h.sg.slenEq] at x1
  have hq : f7 s.M s.E s.sg s.sy s.rl H = (LL7_5 0 s.sg (slen s.sg) 0 s.M s.E s.sg s.sy s.rl H1).bind J7_5 := by
    rw [q7, e1, Ab.bs]; rfl
  rw [hq, h.sg.slenEq]
  rcases loop7a h1 m2 f.sg n1 0 0 rfl (by omega) with ⟨r1, r2⟩ | ⟨r1, r2⟩
  · have hgt : 1048576 < lenF f := by have := lenF_data f; omega
    exact ⟨none, H1, by rw [x1.trans r1, Ab.bs, J7_5_0], k1, fun _ hh => (by omega), .inr rfl⟩
  · have hseg := segN_data f.sg (64 + 56 * f.sg.length)
    have hl1 : len1 f.sg = segN (64 + 56 * f.sg.length) f.sg := rfl
    rw [x1.trans r1, Ab.bs, J7_5_1, h.sg.slenEq]
    have hk : IntKind.i64.wrap (64 + IntKind.i64.wrap (56 * (f.sg.length : Int))) = ((64 + 56 * f.sg.length : Nat) : Int) := by
      rw [wrap_i64 (n := 56 * (f.sg.length : Int)) (by omega) (by omega), wrap_i64 (by omega) (by omega)]; omega
    obtain ⟨H2, y1, y2, y3, y4⟩ := make_OS E8_len H1 (0 : UInt8) (64 + 56 * f.sg.length) 1 (by unfold most; omega) (by unfold most; omega)
    have y1' : H1.make 1 1 [Cell.int IntKind.u8 0] ((64 + 56 * f.sg.length : Nat) : Int) ((64 + 56 * f.sg.length : Nat) : Int) = some (some ⟨H1.length, 0, 64 + 56 * f.sg.length, 64 + 56 * f.sg.length, 1⟩, H2) := y1
    have t2 : Two H1 H2 (some ⟨H1.length, 0, 64 + 56 * f.sg.length, 64 + 56 * f.sg.length, 1⟩) none (zs (64 + 56 * f.sg.length)) [] :=
      ⟨y2, rfl, (fun q sl e1 e2 => by cases e2), y3, (fun q e => by cases e; exact Nat.le_refl _), fun q e => by cases e⟩
    rw [hk, y1', Ab.bs]
    dsimp only
    obtain ⟨n3, x3⟩ := LL7_14_of f.sg.length (by omega) (some ⟨H1.length, 0, 64 + 56 * f.sg.length, 64 + 56 * f.sg.length, 1⟩) none s.sg (f.sg.length : Int) 0 s.M s.E s.sg s.sy s.rl H2
    have hz : (zs (64 + 56 * f.sg.length)).length = 64 + 56 * f.sg.length := zs_len _
    obtain ⟨b3, w3, H3, e3, t3⟩ := loop7b h1 m2 m5 s.M s.E s.sg s.sy s.rl f.sg n3 0 _ none _ [] H2 rfl t2 (by rw [hz]; omega) rfl
    rw [hz] at t3
    have lB : (zs (64 + 56 * f.sg.length) ++ segT (64 + 56 * f.sg.length) f.sg).length = len1 f.sg := by rw [List.length_append, hz]; exact segT_len _ _
    obtain ⟨b4, H4, e4, t4⟩ := f27_x t3 h1 lB m3 m4 m6 m7 (by rw [lB]; omega)
    have lF : (zs (64 + 56 * f.sg.length) ++ segT (64 + 56 * f.sg.length) f.sg ++ symsAll (len1 f.sg) f.sy ++ relsAll (len2 (len1 f.sg) f.sy) f.rl ++ zs (padN (len3 (len2 (len1 f.sg) f.sy) f.rl) 16) ++ zs 64 ++ secsB 0 (secsOf f)).length = lenF f := by
      rw [List.length_append, List.length_append, List.length_append, List.length_append, List.length_append, lB, symsAll_len, relsAll_len, zs_len, zs_len, secsB_len]
      have u1 : up16 (len1 f.sg) = len1 f.sg + padN (len1 f.sg) 16 := rfl
      have u2 : up16 (len2 (len1 f.sg) f.sy) = len2 (len1 f.sg) f.sy + padN (len2 (len1 f.sg) f.sy) 16 := rfl
      have u3 : lenF f = len3 (len2 (len1 f.sg) f.sy) f.rl + padN (len3 (len2 (len1 f.sg) f.sy) f.rl) 16 + 320 := rfl
      have v2 : len2 (len1 f.sg) f.sy = up16 (len1 f.sg) + 24 * (f.sy.length + 1) + (1 + namesN f.sy) := rfl
      have v3 : len3 (len2 (len1 f.sg) f.sy) f.rl = up16 (len2 (len1 f.sg) f.sy) + 24 * f.rl.length + 33 := rfl
      have v4 : (secsOf f).length = 4 := rfl
      rw [v4]
      omega
    have sl4 : slen b4 = ((lenF f : Nat) : Int) := by rw [t4.ob.rs.slenEq, lF]
    rw [(x3.trans e3), Ab.bs, J7_14_0, e4, Ab.bs]
    dsimp only
    rw [sl4]
    by_cases hL : lenF f ≤ 1048576
    · rw [show decide (((lenF f : Nat) : Int) > 1048576) = false by simp; omega, cf]
      have hhp : hpos f + 320 = lenF f := rfl
      obtain ⟨b5, H5, e5, o5, p5⟩ := f28_x (H := H4) (sy := s.sy) (rl := s.rl) m1 hf.e f.sg.length h.sg.slenEq m2 (hpos f) (by omega)
      have hME : f28 s.M s.E s.sg s.sy s.rl ((hpos f : Nat) : Int) H4 = some (b5, H5) := by rw [h.m, h.e]; exact e5
      have t5 := Three.of t4 p5 o5
      have lh : (hdA f.M.toNat f.E.toNat ++ leB 8 (hpos f) ++ hdB f.sg.length).length = 64 := by simp only [List.length_append, hdA_len, hdB_len, leB_length]
      obtain ⟨b6, H6, e6, o6, p6⟩ := ap_app (by' := 1) E8_len (by decide) t5.ow t5.oz.rs (by rw [lh]; simp only [List.nil_append]; rw [segR_len]; unfold most; omega)
      have t6 := t5.right p6 o6
      have l6 : (hdA f.M.toNat f.E.toNat ++ leB 8 (hpos f) ++ hdB f.sg.length ++ ([] ++ segR (64 + 56 * f.sg.length) f.sg)).length = 64 + 56 * f.sg.length := by rw [List.length_append, lh, List.nil_append, segR_len]
      have s6 : slen b6 = ((64 + 56 * f.sg.length : Nat) : Int) := by rw [o6.rs.slenEq, l6]
      obtain ⟨s', e7, r7, _⟩ := t6.ob.rs.subE E8_len (64 + 56 * f.sg.length) (by rw [lF]; have hg := (hpos_ge f).2.2; rw [hl1] at hg; omega)
      obtain ⟨b8, H8, e8, o8, p8⟩ := ap_app (by' := 1) E8_len (by decide) t6.ow r7 (by rw [l6, List.length_drop, lF]; unfold most; omega)
      have t8 := t6.right p8 o8
      refine ⟨b8, H8, ?_, k1.tr t8.k, fun _ _ => ?_, .inl ⟨rfl, hL⟩⟩
      · rw [hME, Ab.bs]
        dsimp only
        rw [e6, Ab.bs]
        dsimp only
        rw [s6, e7, Ab.bs, t6.ob.rs.esOkT, ct, e8, Ab.bs]
      · have hd : (zs (64 + 56 * f.sg.length) ++ segT (64 + 56 * f.sg.length) f.sg ++ symsAll (len1 f.sg) f.sy ++ relsAll (len2 (len1 f.sg) f.sy) f.rl ++ zs (padN (len3 (len2 (len1 f.sg) f.sy) f.rl) 16) ++ zs 64 ++ secsB 0 (secsOf f)).drop (64 + 56 * f.sg.length) =
            segT (64 + 56 * f.sg.length) f.sg ++ symsAll (len1 f.sg) f.sy ++ relsAll (len2 (len1 f.sg) f.sy) f.rl ++ zs (padN (len3 (len2 (len1 f.sg) f.sy) f.rl) 16) ++ zs 64 ++ secsB 0 (secsOf f) := by
          simp only [List.append_assoc]
          exact List.drop_left' hz
        have : hdA f.M.toNat f.E.toNat ++ leB 8 (hpos f) ++ hdB f.sg.length ++ ([] ++ segR (64 + 56 * f.sg.length) f.sg) ++ (zs (64 + 56 * f.sg.length) ++ segT (64 + 56 * f.sg.length) f.sg ++ symsAll (len1 f.sg) f.sy ++ relsAll (len2 (len1 f.sg) f.sy) f.rl ++ zs (padN (len3 (len2 (len1 f.sg) f.sy) f.rl) 16) ++ zs 64 ++ secsB 0 (secsOf f)).drop (64 + 56 * f.sg.length) = outB f := by
          rw [hd]
          unfold outB hpos
          simp only [List.append_assoc, List.nil_append]
        rw [← this]
        exact o8.rs
    · rw [show decide (((lenF f : Nat) : Int) > 1048576) = true by simp; omega, ct]
      exact ⟨none, H4, rfl, k1.tr t4.k, fun _ hh => absurd hh hL, .inr rfl⟩
end
end Go.Proofs.Ytmjmhipfkbedaaa
