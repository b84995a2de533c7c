/- Layer 3: the document writes rows, heads; two slices that grow. -/
import Derived.Test.YtmjmhipfkbedaaaElT
namespace Go.Proofs.Ytmjmhipfkbedaaa
open Go Go.Proofs.Ytmjmhipfkbedaaa.Ab
set_option linter.unusedVariables false
set_option linter.unusedSimpArgs false
set_option maxRecDepth 100000
noncomputable section
theorem u64w {k : Int} (h : 0 ≤ k) (h2 : k < 18446744073709551616) : IntKind.u64.wrap k = ((k.toNat : Nat) : Int) := by rw [wrap_u64]; omega
theorem f26_x {H : Heap} {s : Sg} (hd : RS 1 E8 H s.sl s.data) (ok : SgOk s) (a : Nat) (ha : a < 18446744073709551616) (hdl : s.data.length < 18446744073709551616) :
    ∃ b' H', f26 s.kind s.flags s.addr s.size s.sl (a : Int) H = some (b', H') ∧ OS 1 E8 H' b' (rowB s a) ∧ Ap H none H' b' := by
  have hk := ok.k
  have hf := ok.f
  have hA := ok.a
  have hN := ok.n
  unfold u64r at hA hN
  obtain ⟨b1, H1, e1, o1, p1⟩ := nums_go (H := H) (b := none) (l := []) rfl (by simp) 4 (by omega) [s.kind.toNat, s.flags.toNat] (by intro v hv; simp at hv; omega) (by simp) 4 [Cell.int IntKind.u64 (IntKind.u64.wrap s.kind), Cell.int IntKind.u64 (IntKind.u64.wrap s.flags)] 2 rfl rfl (by rw [u64w hk.1 (by omega), u64w hf.1 (by omega)]; rfl)
  obtain ⟨b2, H2, e2, o2, p2⟩ := nums_go o1 (by simp [leB_length]) 8 (by omega) [a, s.addr.toNat, s.addr.toNat, s.data.length, s.size.toNat, 16] (by intro v hv; simp at hv; omega) (by simp) 8 [Cell.int IntKind.u64 (IntKind.u64.wrap (a : Int)), Cell.int IntKind.u64 s.addr, Cell.int IntKind.u64 s.addr, Cell.int IntKind.u64 (IntKind.u64.wrap (slen s.sl)), Cell.int IntKind.u64 s.size, Cell.int IntKind.u64 16] 6 rfl rfl (by
    rw [hd.slenEq, u64_nat a ha, u64_nat s.data.length hdl]
    simp only [List.flatMap_cons, List.flatMap_nil, EU, List.cons_append, List.nil_append, List.append_nil, nat_of hA.1, nat_of hN.1]
    rfl)
  refine ⟨b2, H2, ?_, ?_, p1.tr p2⟩
  · rw [q26, e1, Ab.bs]
    dsimp only
    rw [e2, Ab.bs]
  · have : ([] ++ [s.kind.toNat, s.flags.toNat].flatMap (leB 4) ++ [a, s.addr.toNat, s.addr.toNat, s.data.length, s.size.toNat, 16].flatMap (leB 8)) = rowB s a := by
      unfold rowB
      simp only [List.flatMap_cons, List.flatMap_nil, List.append_nil, List.nil_append, List.append_assoc]
    rw [← this]; exact o2
theorem f28_x {H : Heap} {M E : Int} {sg sy rl : Option Sl} (hM : M = 62 ∨ M = 183) (hE : u64r E) (n : Nat) (hn : slen sg = (n : Int)) (hn24 : n ≤ 24) (a : Nat) (ha : a < 18446744073709551616) :
    ∃ b' H', f28 M E sg sy rl (a : Int) H = some (b', H') ∧ OS 1 E8 H' b' (hdA M.toNat E.toNat ++ leB 8 a ++ hdB n) ∧ Ap H none H' b' := by
  have kP : Kp No H (H ++ [Blk.row ((magic ++ zs 9).flatMap E8) false]) := Kp.push1 _ _
  have o0 : OS 1 E8 (H ++ [Blk.row ((magic ++ zs 9).flatMap E8) false]) (some ⟨H.length, 0, 16, 16, 1⟩) (magic ++ zs 9) :=
    ⟨rfl, rfl, Nat.le_refl _, _, push_get _ _, by show 0 + 16 * 1 ≤ _; decide, fun i c e => by rw [za]; exact e⟩
  have p0 : Ap H none (H ++ [Blk.row ((magic ++ zs 9).flatMap E8) false]) (some ⟨H.length, 0, 16, 16, 1⟩) := ⟨kP.mono fun _ _ h => absurd h (fun x => x), fun q e => by cases e; exact .inr (Nat.le_refl _)⟩
  have hMi : IntKind.u64.wrap M = ((M.toNat : Nat) : Int) := by rcases hM with e | e <;> rw [e] <;> rfl
  have hMn : M.toNat < 18446744073709551616 := by rcases hM with e | e <;> rw [e] <;> decide
  have hEE := hE
  unfold u64r at hEE
  have hEn : E.toNat < 18446744073709551616 := by omega
  obtain ⟨b1, H1, e1, o1, p1⟩ := nums_go o0 (by simp [magic, zs]) 2 (by omega) [2, M.toNat] (by intro v hv; simp at hv; omega) (by simp) 2 [Cell.int IntKind.u64 2, Cell.int IntKind.u64 (IntKind.u64.wrap M)] 2 rfl rfl (by rw [hMi]; rfl)
  obtain ⟨b2, H2, e2, o2, p2⟩ := nums_go o1 (by simp [magic, zs, leB_length]) 4 (by omega) [1] (by intro v hv; simp at hv; omega) (by simp) 4 [Cell.int IntKind.u64 1] 1 rfl rfl rfl
  obtain ⟨b3, H3, e3, o3, p3⟩ := nums_go o2 (by simp [magic, zs, leB_length]) 8 (by omega) [E.toNat, 64, a] (by intro v hv; simp at hv; omega) (by simp) 8 [Cell.int IntKind.u64 E, Cell.int IntKind.u64 64, Cell.int IntKind.u64 (IntKind.u64.wrap (a : Int))] 3 rfl rfl (by
    rw [u64_nat a ha]
    simp only [List.flatMap_cons, List.flatMap_nil, EU, List.cons_append, List.nil_append, List.append_nil, nat_of hE.1]
    rfl)
  obtain ⟨b4, H4, e4, o4, p4⟩ := nums_go o3 (by simp [magic, zs, leB_length]) 4 (by omega) [0] (by intro v hv; simp at hv; omega) (by simp) 4 [Cell.int IntKind.u64 0] 1 rfl rfl rfl
  obtain ⟨b5, H5, e5, o5, p5⟩ := nums_go o4 (by simp [magic, zs, leB_length]) 2 (by omega) [64, 56, n, 64, 5, 4] (by intro v hv; simp at hv; omega) (by simp) 2 [Cell.int IntKind.u64 64, Cell.int IntKind.u64 56, Cell.int IntKind.u64 (IntKind.u64.wrap (slen sg)), Cell.int IntKind.u64 64, Cell.int IntKind.u64 5, Cell.int IntKind.u64 4] 6 rfl rfl (by rw [hn, u64_nat n (by omega)]; rfl)
  refine ⟨b5, H5, ?_, ?_, ((((p0.tr p1).tr p2).tr p3).tr p4).tr p5⟩
  · have e1' : f57 (some ⟨List.length H, 0, 16, 16, 1⟩) 2 (some ⟨List.length (H ++ [Blk.row [Cell.int IntKind.u8 127, Cell.int IntKind.u8 69, Cell.int IntKind.u8 76, Cell.int IntKind.u8 70, Cell.int IntKind.u8 2, Cell.int IntKind.u8 1, Cell.int IntKind.u8 1, Cell.int IntKind.u8 0, Cell.int IntKind.u8 0, Cell.int IntKind.u8 0, Cell.int IntKind.u8 0, Cell.int IntKind.u8 0, Cell.int IntKind.u8 0, Cell.int IntKind.u8 0, Cell.int IntKind.u8 0, Cell.int IntKind.u8 0] false]), 0, 2, 2, 1⟩) (H ++ [Blk.row [Cell.int IntKind.u8 127, Cell.int IntKind.u8 69, Cell.int IntKind.u8 76, Cell.int IntKind.u8 70, Cell.int IntKind.u8 2, Cell.int IntKind.u8 1, Cell.int IntKind.u8 1, Cell.int IntKind.u8 0, Cell.int IntKind.u8 0, Cell.int IntKind.u8 0, Cell.int IntKind.u8 0, Cell.int IntKind.u8 0, Cell.int IntKind.u8 0, Cell.int IntKind.u8 0, Cell.int IntKind.u8 0, Cell.int IntKind.u8 0] false] ++ [Blk.row [Cell.int IntKind.u64 2, Cell.int IntKind.u64 (IntKind.u64.wrap M)] false]) = some (b1, H1) := e1
    rw [q28, e1', Ab.bs]
    dsimp only
    rw [e2, Ab.bs]
    dsimp only
    rw [e3, Ab.bs]
    dsimp only
    rw [e4, Ab.bs]
    dsimp only
    rw [e5, Ab.bs]
  · have : (magic ++ zs 9 ++ [2, M.toNat].flatMap (leB 2) ++ [1].flatMap (leB 4) ++ [E.toNat, 64, a].flatMap (leB 8) ++ [0].flatMap (leB 4) ++ [64, 56, n, 64, 5, 4].flatMap (leB 2)) = hdA M.toNat E.toNat ++ leB 8 a ++ hdB n := by
      unfold hdA hdB
      simp only [List.flatMap_cons, List.flatMap_nil, List.append_nil, List.append_assoc]
    rw [← this]; exact o5
/-! two slices that grow -/
structure Two (H0 H : Heap) (b w : Option Sl) (B R : List UInt8) : Prop where
  ob : OS 1 E8 H b B
  ow : OS 1 E8 H w R
  ap : Apart b w
  k : Kp No H0 H
  nb : New H0.length b
  nw : New H0.length w
theorem Ap.new {H0 H H' : Heap} {b b' : Option Sl} (h : Ap H b H' b') (k : Kp No H0 H) (nb : New H0.length b) : Kp No H0 H' ∧ New H0.length b' := by
  refine ⟨k.trans h.k (fun _ h => h) fun i hi ⟨q, e1, e2⟩ => by have := nb q e1; omega, fun q e => ?_⟩
  rcases h.f q e with ⟨q', x1, x2⟩ | x
  · have := nb q' x1; omega
  · have := k.len; omega
theorem Two.left {H0 H H' : Heap} {b w b' : Option Sl} {B R B' : List UInt8} (h : Two H0 H b w B R) (a : Ap H b H' b') (o : OS 1 E8 H' b' B') : Two H0 H' b' w B' R := by
  obtain ⟨x1, x2⟩ := a.new h.k h.nb
  exact ⟨o, h.ow.kp a.k fun sl e ⟨q, e1, e2⟩ => h.ap q sl e1 e e2, a.apart h.ap (fun sl e => by have := h.ow; subst e; exact this.lt), x1, x2, h.nw⟩
theorem Two.sw {H0 H : Heap} {b w : Option Sl} {B R : List UInt8} (h : Two H0 H b w B R) : Two H0 H w b R B := ⟨h.ow, h.ob, fun q sl e1 e2 x => h.ap sl q e2 e1 x.symm, h.k, h.nw, h.nb⟩
theorem Two.right {H0 H H' : Heap} {b w w' : Option Sl} {B R R' : List UInt8} (h : Two H0 H b w B R) (a : Ap H w H' w') (o : OS 1 E8 H' w' R') : Two H0 H' b w' B R' := (h.sw.left a o).sw
theorem Two.no {H0 H H' : Heap} {b w : Option Sl} {B R : List UInt8} (h : Two H0 H b w B R) (k : Kp No H H') : Two H0 H' b w B R := ⟨h.ob.no k, h.ow.no k, h.ap, h.k.tr k, h.nb, h.nw⟩
theorem Ap.kno {H H' : Heap} {b' : Option Sl} (h : Ap H none H' b') : Kp No H H' := h.k.mono fun _ _ ⟨q, e, _⟩ => nomatch e
/-! rows and data -/
theorem loop7b {H0 : Heap} {s : FS} {f : Fl} (h : FR H0 s f) (hl : f.sg.length ≤ 24) (hok : ∀ x ∈ f.sg, SgOk x) (a0 a1 : Int) (a2 a3 a4 : Option Sl) :
    ∀ (r : List Sg) (n i : Nat) (b w : Option Sl) (B R : List UInt8) (H : Heap), f.sg.drop i = r → Two H0 H b w B R → segN B.length r ≤ 1099511627776 → R.length = 56 * i →
    ∃ b' w' H', D7_14 (n + r.length + 1) b w s.sg (f.sg.length : Int) (i : Int) a0 a1 a2 a3 a4 H = some (.exit 2, X7_14 b' w' a0 a1 a2 a3 a4 H') ∧ Two H0 H' b' w' (B ++ segT B.length r) (R ++ segR B.length r)
  | [], n, i, b, w, B, R, H, hr, h2, hN, hR => by
    have hi : f.sg.length ≤ i := by
      rcases Nat.lt_or_ge i f.sg.length with h1 | h1
      · rw [List.drop_eq_getElem_cons h1] at hr; cases hr
      · exact h1
    have g : decide ((i : Int) < (f.sg.length : Int)) = false := by simp; omega
    refine ⟨b, w, H, by rw [List.length_nil, Nat.add_zero, D7_14_s, g, cf], ?_⟩
    unfold segT segR
    rw [List.append_nil, List.append_nil]; exact h2
  | x :: r, n, i, b, w, B, R, H, hr, h2, hN, hR => by
    have hi : i < f.sg.length := by
      rcases Nat.lt_or_ge i f.sg.length with h1 | h1
      · exact h1
      · rw [List.drop_eq_nil_of_le h1] at hr; cases hr
    rw [List.drop_eq_getElem_cons hi, List.cons.injEq] at hr
    obtain ⟨hs, hr⟩ := hr
    have hsi : f.sg[i]? = some x := by rw [List.getElem?_eq_getElem hi, hs]
    have hxm : x ∈ f.sg := by rw [← hs]; exact List.getElem_mem hi
    have g : decide ((i : Int) < (f.sg.length : Int)) = true := by simp; omega
    obtain ⟨sl, e0, g1, c0, c1, c2, c3, c4⟩ := getsSg (h.no h2.k).sg hsi
    unfold segN at hN
    have hge := segN_ge r (up16 B.length + x.data.length)
    have hup := up16_ge B.length
    obtain ⟨b1, H1, r1, o1, p1⟩ := f25_x h2.ob (by omega)
    have hBl : (B ++ zs (padN B.length 16)).length = up16 B.length := by rw [List.length_append, zs_len]; rfl
    have t1 := h2.left p1 o1
    obtain ⟨v, H2, r2, o2, p2⟩ := f26_x ((h.no t1.k).sd x hxm) (hok x hxm) (up16 B.length) (by omega) (by omega)
    have t2 := t1.no p2.kno
    obtain ⟨w1, H3, r3, o3, p3⟩ := ap_app (by' := 1) E8_len (by decide) t2.ow o2.rs (by rw [rowB_len]; unfold most; omega)
    have t3 := t2.right p3 o3
    obtain ⟨b2, H4, r4, o4, p4⟩ := ap_app (by' := 1) E8_len (by decide) t3.ob ((h.no t3.k).sd x hxm) (by rw [hBl]; unfold most; omega)
    have t4 := t3.left p4 o4
    have hl4 : (B ++ zs (padN B.length 16) ++ x.data).length = up16 B.length + x.data.length := by rw [List.length_append, hBl]
    obtain ⟨b', w', H', q1, q2⟩ := loop7b h hl hok a0 a1 a2 a3 a4 r n (i + 1) b2 w1 _ _ H4 hr t4 (by rw [hl4]; exact hN) (by rw [List.length_append, rowB_len]; omega)
    rw [hl4] at q2
    refine ⟨b', w', H', ?_, ?_⟩
    · have hsl : slen b1 = ((up16 B.length : Nat) : Int) := by rw [o1.rs.slenEq, hBl]
      rw [show n + (x :: r).length + 1 = (n + r.length + 1) + 1 by simp; omega, D7_14_s, g, ct]
      rw [show s.sg.bind = (some sl).bind (β := AExit × St) by rw [e0]]
      simp only [Ab.bs, g1, ct, c0, c1, c2, c3, c4, tInt, tSlice, r1, hsl, r2, r3, r4, i64_succ i (show i < 9223372036854775807 by omega)]
      exact q1
    · have e1 : B ++ segT B.length (x :: r) = B ++ zs (padN B.length 16) ++ x.data ++ segT (up16 B.length + x.data.length) r := by
        show B ++ (zs (padN B.length 16) ++ x.data ++ segT _ r) = _
        simp only [List.append_assoc]
      have e2 : R ++ segR B.length (x :: r) = R ++ rowB x (up16 B.length) ++ segR (up16 B.length + x.data.length) r := by
        show R ++ (rowB x (up16 B.length) ++ segR _ r) = _
        simp only [List.append_assoc]
      rw [e1, e2]; exact q2
end
end Go.Proofs.Ytmjmhipfkbedaaa
