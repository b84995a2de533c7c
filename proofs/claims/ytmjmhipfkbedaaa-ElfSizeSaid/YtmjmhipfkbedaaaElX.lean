/- Layer 3: the document's tail. -/
import Derived.Test.YtmjmhipfkbedaaaElW
namespace Go.Proofs.Ytmjmhipfkbedaaa
open Go Go.Proofs.Ytmjmhipfkbedaaa.Ab
set_option linter.unusedVariables false
set_option linter.unusedSimpArgs false
set_option maxRecDepth 100000
noncomputable section
theorem apz {H : Heap} {b : Option Sl} {B : List UInt8} (ho : OS 1 E8 H b B) (n : Nat) (hn : n ≤ 1000) (hB : B.length ≤ 1000000000000) (ni : Int) (hni : ni = (n : Int)) : ∃ b' H', H.appendZ 1 1 b [Cell.int IntKind.u8 0] ni = some (b', H') ∧ OS 1 E8 H' b' (B ++ zs n) ∧ Ap H b H' b' := by
  subst hni
  obtain ⟨b', H', a1, a2, a3, a4⟩ := app_OS E8_len (by' := 1) (m := zs n) ho (by rw [zs_len]; unfold most; omega)
  refine ⟨b', H', ?_, a2, a3, a4⟩
  unfold Heap.appendZ
  rw [if_pos (by unfold most; omega), Int.toNat_natCast]
  have e : (List.replicate n [Cell.int IntKind.u8 0]).flatten = (zs n).flatMap E8 := rep_flat (E := E8) (0 : UInt8) n
  rw [e]
  rw [zs_len] at a1
  exact a1
theorem len2_ge (n : Nat) (l : List Sy) : n ≤ len2 n l := by unfold len2; have := up16_ge n; omega
theorem f27_x {H0 H : Heap} {b z : Option Sl} {B Z : List UInt8} (h : Two H0 H b z B Z) {s : FS} {f : Fl} (hf : FR H0 s f) (hL : B.length = len1 f.sg) (hs : f.sy.length ≤ 64) (hr : f.rl.length ≤ 64) (oks : ∀ x ∈ f.sy, SyOk x) (okr : ∀ x ∈ f.rl, RlOk x f.sy.length) (hB : B.length ≤ 2000000) :
    ∃ b' H', f27 b s.M s.E s.sg s.sy s.rl H = some ((b', ((hpos f : Nat) : Int)), H') ∧ Two H0 H' b' z (B ++ symsAll (len1 f.sg) f.sy ++ relsAll (len2 (len1 f.sg) f.sy) f.rl ++ zs (padN (len3 (len2 (len1 f.sg) f.sy) f.rl) 16) ++ zs 64 ++ secsB 0 (secsOf f)) Z := by
  have hnn := namesN_le f.sy fun x hx => (oks x hx).n
  obtain ⟨b1, H1, e1, o1, p1⟩ := f25_x h.ob (by omega)
  have t1 := h.left p1 o1
  have l1 : (B ++ zs (padN B.length 16)).length = up16 (len1 f.sg) := by rw [List.length_append, zs_len, hL]; rfl
  have hU : up16 (len1 f.sg) ≤ 2000016 := by rw [up16_eq]; omega
  obtain ⟨b2, H2, e2, o2, p2⟩ := apz t1.ob 24 (by omega) (by omega) 24 rfl
  have t2 := t1.left p2 o2
  have kP : Kp No H2 (H2 ++ [Blk.row [Cell.int IntKind.u8 0] false]) := Kp.push1 _ _
  have xz : RS 1 E8 (H2 ++ [Blk.row [Cell.int IntKind.u8 0] false]) (some ⟨H2.length, 0, 1, 1, 1⟩) [(0 : UInt8)] := rs_new (E := E8) [(0 : UInt8)] (ro := false) (by rw [push_get]; rfl) rfl
  have on : OS 1 E8 (H2 ++ [Blk.row [Cell.int IntKind.u8 0] false]) none ([] : List UInt8) := rfl
  obtain ⟨w, H3, e3, o3, p3⟩ := ap_app (by' := 1) E8_len (by decide) on xz (by unfold most; simp)
  have o3' : OS 1 E8 H3 w [0] := o3
  have t3 := Three.of t2 ((Ap.no none kP).tr p3) o3'
  have l2 : (B ++ zs (padN B.length 16) ++ zs 24).length = up16 (len1 f.sg) + 24 := by rw [List.length_append, l1, zs_len]
  obtain ⟨n4, x4⟩ := LL27_7_of f.sy.length (by omega) b2 (slen b1) w s.sy (slen s.sy) 0 s.M s.E s.sg s.sy s.rl H3
  obtain ⟨b4, w4, H4, e4, t4⟩ := loop27a hf.sy hs oks (slen b1) s.M s.E s.sg s.sy s.rl z Z f.sy n4 0 b2 w _ _ H3 rfl t3 (by rw [l2]; omega) (by simp; omega)
  rw [hf.sy.slenEq] at x4
  have x4' := x4.trans e4
  have l4 : (B ++ zs (padN B.length 16) ++ zs 24 ++ symsB ([0] : List UInt8).length f.sy).length = up16 (len1 f.sg) + 24 * (f.sy.length + 1) := by rw [List.length_append, l2, symsB_len]; omega
  have lw : ([0] ++ namesB f.sy).length = 1 + namesN f.sy := by rw [List.length_append, namesB_len]; rfl
  obtain ⟨b5, H5, e5, o5, p5⟩ := ap_app (by' := 1) E8_len (by decide) t4.ob t4.ow.rs (by rw [l4, lw]; unfold most; omega)
  have t5 := t4.left p5 o5
  have l5 : (B ++ zs (padN B.length 16) ++ zs 24 ++ symsB ([0] : List UInt8).length f.sy ++ ([0] ++ namesB f.sy)).length = len2 (len1 f.sg) f.sy := by rw [List.length_append, l4, lw]; rfl
  have hl2 : len2 (len1 f.sg) f.sy ≤ 2100000 := by rw [← l5, List.length_append, l4, lw]; omega
  obtain ⟨b6, H6, e6, o6, p6⟩ := f25_x t5.ob (by rw [l5]; omega)
  have t6 := t5.left p6 o6
  rw [l5] at t6 o6
  have l6 : (B ++ zs (padN B.length 16) ++ zs 24 ++ symsB ([0] : List UInt8).length f.sy ++ ([0] ++ namesB f.sy) ++ zs (padN (len2 (len1 f.sg) f.sy) 16)).length = up16 (len2 (len1 f.sg) f.sy) := by rw [List.length_append, l5, zs_len]; rfl
  have hU2 : up16 (len2 (len1 f.sg) f.sy) ≤ 2100016 := by rw [up16_eq]; omega
  obtain ⟨n7, x7⟩ := LL27_18_of f.rl.length (by omega) b6 (slen b1) w4 (slen b4) (slen b6) s.rl (slen s.rl) 0 H6
  obtain ⟨b7, H7, e7, o7, p7⟩ := loop27b hf.rl hr f.sy.length hs okr (slen b1) (slen b4) (slen b6) w4 f.rl n7 0 b6 _ H6 rfl t6.ob t6.k t6.nb (by rw [l6]; omega)
  rw [hf.rl.slenEq] at x7
  have x7' := x7.trans e7
  have t7 := t6.left p7 o7
  have l7 : (B ++ zs (padN B.length 16) ++ zs 24 ++ symsB ([0] : List UInt8).length f.sy ++ ([0] ++ namesB f.sy) ++ zs (padN (len2 (len1 f.sg) f.sy) 16) ++ relsB f.rl).length = up16 (len2 (len1 f.sg) f.sy) + 24 * f.rl.length := by rw [List.length_append, l6, relsB_len]
  have kT : Kp No H7 (H7 ++ [Blk.row (textsB.flatMap E8) false]) := Kp.push1 _ _
  have xT : RS 1 E8 (H7 ++ [Blk.row (textsB.flatMap E8) false]) (some ⟨H7.length, 0, 33, 33, 1⟩) textsB := rs_new (E := E8) textsB (ro := false) (push_get _ _) rfl
  have t7' := t7.no kT
  obtain ⟨b8, H8, e8, o8, p8⟩ := ap_app (by' := 1) E8_len (by decide) t7'.ob xT (by rw [l7, textsB_len]; unfold most; omega)
  have t8 := t7'.left p8 o8
  have l8 : (B ++ zs (padN B.length 16) ++ zs 24 ++ symsB ([0] : List UInt8).length f.sy ++ ([0] ++ namesB f.sy) ++ zs (padN (len2 (len1 f.sg) f.sy) 16) ++ relsB f.rl ++ textsB).length = len3 (len2 (len1 f.sg) f.sy) f.rl := by rw [List.length_append, l7, textsB_len]; rfl
  have hl3 : len3 (len2 (len1 f.sg) f.sy) f.rl ≤ 2200000 := by rw [← l8, List.length_append, l7, textsB_len]; omega
  obtain ⟨b9, H9, e9, o9, p9⟩ := f25_x t8.ob (by rw [l8]; omega)
  have t9 := t8.left p9 o9
  rw [l8] at t9 o9
  have l9 : (B ++ zs (padN B.length 16) ++ zs 24 ++ symsB ([0] : List UInt8).length f.sy ++ ([0] ++ namesB f.sy) ++ zs (padN (len2 (len1 f.sg) f.sy) 16) ++ relsB f.rl ++ textsB ++ zs (padN (len3 (len2 (len1 f.sg) f.sy) f.rl) 16)).length = hpos f := by rw [List.length_append, l8, zs_len]; rfl
  have hH : hpos f ≤ 2200016 := by unfold hpos; rw [up16_eq]; omega
  obtain ⟨b10, H10, e10, o10, p10⟩ := apz t9.ob 64 (by omega) (by omega) 64 rfl
  have t10 := t9.left p10 o10
  have l10 : (B ++ zs (padN B.length 16) ++ zs 24 ++ symsB ([0] : List UInt8).length f.sy ++ ([0] ++ namesB f.sy) ++ zs (padN (len2 (len1 f.sg) f.sy) 16) ++ relsB f.rl ++ textsB ++ zs (padN (len3 (len2 (len1 f.sg) f.sy) f.rl) 16) ++ zs 64).length = hpos f + 64 := by rw [List.length_append, l9, zs_len]
  -- the numbers
  have s1 : slen b1 = ((up16 (len1 f.sg) : Nat) : Int) := by rw [o1.rs.slenEq, l1]
  have s4 : slen b4 = ((up16 (len1 f.sg) + 24 * (f.sy.length + 1) : Nat) : Int) := by rw [t4.ob.rs.slenEq, l4]
  have s6 : slen b6 = ((up16 (len2 (len1 f.sg) f.sy) : Nat) : Int) := by rw [o6.rs.slenEq, l6]
  have s7 : slen b7 = ((up16 (len2 (len1 f.sg) f.sy) + 24 * f.rl.length : Nat) : Int) := by rw [o7.rs.slenEq, l7]
  have s8 : slen b8 = ((len3 (len2 (len1 f.sg) f.sy) f.rl : Nat) : Int) := by rw [o8.rs.slenEq, l8]
  have s9 : slen b9 = ((hpos f : Nat) : Int) := by rw [o9.rs.slenEq, l9]
  have sw : slen w4 = ((1 + namesN f.sy : Nat) : Int) := by rw [t4.ow.rs.slenEq, lw]
  have v3 : len3 (len2 (len1 f.sg) f.sy) f.rl = up16 (len2 (len1 f.sg) f.sy) + 24 * f.rl.length + 33 := rfl
  obtain ⟨nF, xF⟩ := LL27_29_of 4 (by omega) b10 ((up16 (len1 f.sg) : Nat) : Int) w4 ((up16 (len1 f.sg) + 24 * (f.sy.length + 1) : Nat) : Int) ((up16 (len2 (len1 f.sg) f.sy) : Nat) : Int) ((up16 (len2 (len1 f.sg) f.sy) + 24 * f.rl.length : Nat) : Int) ((len3 (len2 (len1 f.sg) f.sy) f.rl : Nat) : Int) ((hpos f : Nat) : Int) 0 H10
  have hbig : up16 (len1 f.sg) + 24 * (f.sy.length + 1) + (1 + namesN f.sy) + (up16 (len2 (len1 f.sg) f.sy) + 24 * f.rl.length) + len3 (len2 (len1 f.sg) f.sy) f.rl ≤ 9000000000000 := by omega
  obtain ⟨c1, G1, y1, z1, w1⟩ := round29 (nF + 4) 0 (by omega) t10.ob (by omega) (up16 (len1 f.sg)) (up16 (len1 f.sg) + 24 * (f.sy.length + 1)) (up16 (len2 (len1 f.sg) f.sy)) (up16 (len2 (len1 f.sg) f.sy) + 24 * f.rl.length) (len3 (len2 (len1 f.sg) f.sy) f.rl) (1 + namesN f.sy) sw hbig ((hpos f : Nat) : Int) 1 2 _ _ 2 1 24 rfl rfl rfl rfl rfl rfl rfl (by omega) (by omega) (by omega)
  have m1 : (B ++ zs (padN B.length 16) ++ zs 24 ++ symsB ([0] : List UInt8).length f.sy ++ ([0] ++ namesB f.sy) ++ zs (padN (len2 (len1 f.sg) f.sy) 16) ++ relsB f.rl ++ textsB ++ zs (padN (len3 (len2 (len1 f.sg) f.sy) f.rl) 16) ++ zs 64 ++ secB 1 2 2 1 24 (((up16 (len1 f.sg) : Nat) : Int), ((up16 (len1 f.sg) + 24 * (f.sy.length + 1) - up16 (len1 f.sg) : Nat) : Int))).length ≤ 3000000 := by rw [List.length_append, l10, secB_len]; omega
  obtain ⟨c2, G2, y2, z2, w2⟩ := round29 (nF + 3) 1 (by omega) z1 (by omega) (up16 (len1 f.sg)) (up16 (len1 f.sg) + 24 * (f.sy.length + 1)) (up16 (len2 (len1 f.sg) f.sy)) (up16 (len2 (len1 f.sg) f.sy) + 24 * f.rl.length) (len3 (len2 (len1 f.sg) f.sy) f.rl) (1 + namesN f.sy) sw hbig ((hpos f : Nat) : Int) 9 3 _ _ 0 0 0 rfl rfl rfl rfl rfl rfl rfl (by omega) (by omega) (by omega)
  obtain ⟨c3, G3, y3, z3, w3⟩ := round29 (nF + 2) 2 (by omega) z2 (by rw [List.length_append, secB_len]; omega) (up16 (len1 f.sg)) (up16 (len1 f.sg) + 24 * (f.sy.length + 1)) (up16 (len2 (len1 f.sg) f.sy)) (up16 (len2 (len1 f.sg) f.sy) + 24 * f.rl.length) (len3 (len2 (len1 f.sg) f.sy) f.rl) (1 + namesN f.sy) sw hbig ((hpos f : Nat) : Int) 17 4 _ _ 1 0 24 rfl rfl rfl rfl rfl rfl rfl (by omega) (by omega) (by omega)
  obtain ⟨c4, G4, y4, z4, w4'⟩ := round29 (nF + 1) 3 (by omega) z3 (by rw [List.length_append, List.length_append, secB_len, secB_len]; omega) (up16 (len1 f.sg)) (up16 (len1 f.sg) + 24 * (f.sy.length + 1)) (up16 (len2 (len1 f.sg) f.sy)) (up16 (len2 (len1 f.sg) f.sy) + 24 * f.rl.length) (len3 (len2 (len1 f.sg) f.sy) f.rl) (1 + namesN f.sy) sw hbig ((hpos f : Nat) : Int) 23 3 _ _ 0 0 0 rfl rfl rfl rfl rfl rfl rfl (by omega) (by omega) (by omega)
  have t14 := (((t10.left w1 z1).left w2 z2).left w3 z3).left w4' z4
  have hfin : D27_29 (nF + 1) c4 ((up16 (len1 f.sg) : Nat) : Int) w4 ((up16 (len1 f.sg) + 24 * (f.sy.length + 1) : Nat) : Int) ((up16 (len2 (len1 f.sg) f.sy) : Nat) : Int) ((up16 (len2 (len1 f.sg) f.sy) + 24 * f.rl.length : Nat) : Int) ((len3 (len2 (len1 f.sg) f.sy) f.rl : Nat) : Int) ((hpos f : Nat) : Int) ((3 + 1 : Nat) : Int) G4 = some (.exit 4, X27_29 c4 ((hpos f : Nat) : Int) G4) := by
    rw [D27_29_s, show decide (((3 + 1 : Nat) : Int) < 4) = false from rfl, cf]
  have xF' := xF.trans (y1.trans (y2.trans (y3.trans (y4.trans hfin))))
  refine ⟨c4, G4, ?_, ?_⟩
  · have hown : (decide (0 < 33) && ownRow (H7 ++ [Blk.row (textsB.flatMap E8) false]) (List.length H7)) = true := by
      unfold ownRow; rw [push_get]; rfl
    have hJ : J27_18 (AExit.exit 2, X27_18 b7 (slen b1) w4 (slen b4) (slen b6) H7) = (bif decide (0 < 33) && ownRow (H7 ++ [Blk.row (textsB.flatMap E8) false]) (List.length H7) then (Heap.append (H7 ++ [Blk.row (textsB.flatMap E8) false]) 1 1 b7 (some ⟨List.length H7, 0, 33, 33, 1⟩)).bind fun v53 => (f25 v53.fst v53.snd).bind fun v52 => (v52.snd.appendZ 1 1 v52.fst [Cell.int IntKind.u8 0] 64).bind fun v51 => (LL27_29 v51.fst (slen b1) w4 (slen b4) (slen b6) (slen b7) (slen v53.fst) (slen v52.fst) 0 v51.snd).bind J27_29 else none) := J27_18_0 _ _ _ _ _ _
    rw [q27, e1, Ab.bs]
    dsimp only
    rw [e2, Ab.bs]
    dsimp only
    rw [e3, Ab.bs]
    dsimp only
    rw [hf.sy.slenEq, x4', Ab.bs, J27_7_0, e5, Ab.bs]
    dsimp only
    rw [e6, Ab.bs]
    dsimp only
    rw [hf.rl.slenEq, x7', Ab.bs, hJ, hown, ct, e8, Ab.bs]
    dsimp only
    rw [e9, Ab.bs]
    dsimp only
    rw [e10, Ab.bs]
    dsimp only
    rw [s1, s4, s6, s7, s8, s9, xF', Ab.bs, J27_29_0]
  · have : B ++ zs (padN B.length 16) ++ zs 24 ++ symsB ([0] : List UInt8).length f.sy ++ ([0] ++ namesB f.sy) ++ zs (padN (len2 (len1 f.sg) f.sy) 16) ++ relsB f.rl ++ textsB ++ zs (padN (len3 (len2 (len1 f.sg) f.sy) f.rl) 16) ++ zs 64 ++ secB 1 2 2 1 24 (((up16 (len1 f.sg) : Nat) : Int), ((up16 (len1 f.sg) + 24 * (f.sy.length + 1) - up16 (len1 f.sg) : Nat) : Int)) ++ secB 9 3 0 0 0 (((up16 (len1 f.sg) + 24 * (f.sy.length + 1) : Nat) : Int), ((up16 (len1 f.sg) + 24 * (f.sy.length + 1) + (1 + namesN f.sy) - (up16 (len1 f.sg) + 24 * (f.sy.length + 1)) : Nat) : Int)) ++ secB 17 4 1 0 24 (((up16 (len2 (len1 f.sg) f.sy) : Nat) : Int), ((up16 (len2 (len1 f.sg) f.sy) + 24 * f.rl.length - up16 (len2 (len1 f.sg) f.sy) : Nat) : Int)) ++ secB 23 3 0 0 0 (((up16 (len2 (len1 f.sg) f.sy) + 24 * f.rl.length : Nat) : Int), ((len3 (len2 (len1 f.sg) f.sy) f.rl - (up16 (len2 (len1 f.sg) f.sy) + 24 * f.rl.length) : Nat) : Int)) =
        B ++ symsAll (len1 f.sg) f.sy ++ relsAll (len2 (len1 f.sg) f.sy) f.rl ++ zs (padN (len3 (len2 (len1 f.sg) f.sy) f.rl) 16) ++ zs 64 ++ secsB 0 (secsOf f) := by
      unfold secsOf symsAll relsAll
      rw [secs4, hL, Nat.add_sub_cancel_left, Nat.add_sub_cancel_left, Nat.add_sub_cancel_left, show len3 (len2 (len1 f.sg) f.sy) f.rl - (up16 (len2 (len1 f.sg) f.sy) + 24 * f.rl.length) = 33 by rw [v3]; omega]
      simp only [List.append_assoc, List.append_nil, List.length_cons, List.length_nil, Nat.zero_add]
    rw [← this]
    exact t14.two
end
end Go.Proofs.Ytmjmhipfkbedaaa
