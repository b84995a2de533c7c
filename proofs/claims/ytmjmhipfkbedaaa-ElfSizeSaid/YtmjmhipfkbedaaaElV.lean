/- Layer 3: the document writes symbols, relocations. -/
import Derived.Test.YtmjmhipfkbedaaaElU
namespace Go.Proofs.Ytmjmhipfkbedaaa
open Go Go.Proofs.Ytmjmhipfkbedaaa.Ab
set_option linter.unusedVariables false
set_option linter.unusedSimpArgs false
set_option maxRecDepth 100000
noncomputable section
/-- A third slice, that stays. -/
structure Three (H0 H : Heap) (b w z : Option Sl) (B R Z : List UInt8) : Prop extends Two H0 H b w B R where
  oz : OS 1 E8 H z Z
  nz : New H0.length z
  az : Apart b z
  wz : Apart w z
theorem Three.left {H0 H H' : Heap} {b w z b' : Option Sl} {B R Z B' : List UInt8} (h : Three H0 H b w z B R Z) (a : Ap H b H' b') (o : OS 1 E8 H' b' B') : Three H0 H' b' w z B' R Z :=
  ⟨h.toTwo.left a o, h.oz.kp a.k fun sl e ⟨q, e1, e2⟩ => h.az q sl e1 e e2, h.nz, a.apart h.az (fun sl e => by have := h.oz; subst e; exact this.lt), h.wz⟩
theorem Three.right {H0 H H' : Heap} {b w z w' : Option Sl} {B R Z R' : List UInt8} (h : Three H0 H b w z B R Z) (a : Ap H w H' w') (o : OS 1 E8 H' w' R') : Three H0 H' b w' z B R' Z :=
  ⟨h.toTwo.right a o, h.oz.kp a.k fun sl e ⟨q, e1, e2⟩ => h.wz q sl e1 e e2, h.nz, h.az, a.apart h.wz (fun sl e => by have := h.oz; subst e; exact this.lt)⟩
theorem Three.no {H0 H H' : Heap} {b w z : Option Sl} {B R Z : List UInt8} (h : Three H0 H b w z B R Z) (k : Kp No H H') : Three H0 H' b w z B R Z := ⟨h.toTwo.no k, h.oz.no k, h.nz, h.az, h.wz⟩
theorem Three.of {H0 H H' : Heap} {b w z : Option Sl} {B R Z : List UInt8} (h : Two H0 H b z B Z) (a : Ap H none H' w) (o : OS 1 E8 H' w R) : Three H0 H' b w z B R Z := by
  have hw : ∀ sl, w = some sl → H.length ≤ sl.id := fun sl e => by
    rcases a.f sl e with ⟨q, x, _⟩ | x
    · cases x
    · exact x
  have hb : ∀ q, b = some q → q.id < H.length := fun q e => by have := h.ob; subst e; exact this.lt
  have hz : ∀ q, z = some q → q.id < H.length := fun q e => by have := h.ow; subst e; exact this.lt
  have k := a.kno
  exact ⟨⟨h.ob.no k, o, fun q sl e1 e2 => by have := hw sl e2; have := hb q e1; omega, h.k.tr k, h.nb, fun sl e => by have := hw sl e; have := h.k.len; omega⟩, h.ow.no k, h.nw, h.ap, fun q sl e1 e2 => by have := hw q e1; have := hz sl e2; omega⟩
theorem Three.two {H0 H : Heap} {b w z : Option Sl} {B R Z : List UInt8} (h : Three H0 H b w z B R Z) : Two H0 H b z B Z := ⟨h.ob, h.oz, h.az, h.k, h.nb, h.nz⟩
def k4 (s : Sy) : List UInt8 := [UInt8.ofNat (s.kind.toNat + 16), 0, 1, 0]
theorem k4_row {s : Sy} (h : 0 ≤ s.kind ∧ s.kind ≤ 2) : [Cell.int IntKind.u8 (IntKind.u8.wrap (IntKind.i64.wrap (s.kind + 16))), Cell.int IntKind.u8 0, Cell.int IntKind.u8 1, Cell.int IntKind.u8 0] = (k4 s).flatMap E8 := by
  unfold k4
  have : s.kind = 0 ∨ s.kind = 1 ∨ s.kind = 2 := by omega
  rcases this with e | e | e <;> rw [e] <;> rfl
theorem k4_symB (nm : Nat) (s : Sy) : symB nm s = [nm].flatMap (leB 4) ++ k4 s ++ [s.addr.toNat, s.size.toNat].flatMap (leB 8) := by
  unfold symB k4
  have : [s.kind.toNat + 16, 0].flatMap (leB 1) ++ [1].flatMap (leB 2) = [UInt8.ofNat (s.kind.toNat + 16), 0, 1, 0] := by
    simp only [List.flatMap_cons, List.flatMap_nil, leB, List.append_nil, List.cons_append, List.nil_append]
    rfl
  rw [← this]
  simp only [List.append_assoc]
theorem loop27a {H0 : Heap} {t : Option Sl} {l : List Sy} (ht : RS 4 ESy H0 t l) (hl : l.length ≤ 64) (hok : ∀ x ∈ l, SyOk x) (t6 a0 a1 : Int) (a2 a3 a4 z : Option Sl) (Z : List UInt8) :
    ∀ (r : List Sy) (n i : Nat) (b w : Option Sl) (B R : List UInt8) (H : Heap), l.drop i = r → Three H0 H b w z B R Z → B.length + 24 * r.length ≤ 1099511627776 → R.length + 33 * r.length ≤ 1000000 →
    ∃ b' w' H', D27_7 (n + r.length + 1) b t6 w t (l.length : Int) (i : Int) a0 a1 a2 a3 a4 H = some (.exit 0, X27_7 b' t6 w' a0 a1 a2 a3 a4 H') ∧ Three H0 H' b' w' z (B ++ symsB R.length r) (R ++ namesB r) Z
  | [], n, i, b, w, B, R, H, hr, h2, hB, hR => by
    have hi : l.length ≤ i := by
      rcases Nat.lt_or_ge i l.length with h1 | h1
      · rw [List.drop_eq_getElem_cons h1] at hr; cases hr
      · exact h1
    have g : decide ((i : Int) < (l.length : Int)) = false := by simp; omega
    refine ⟨b, w, H, by rw [List.length_nil, Nat.add_zero, D27_7_s, g, cf], ?_⟩
    unfold symsB namesB
    rw [List.append_nil, List.append_nil]; exact h2
  | x :: r, n, i, b, w, B, R, H, hr, h2, hB, hR => by
    have hi : i < l.length := by
      rcases Nat.lt_or_ge i l.length with h1 | h1
      · exact h1
      · rw [List.drop_eq_nil_of_le h1] at hr; cases hr
    rw [List.drop_eq_getElem_cons hi, List.cons.injEq] at hr
    obtain ⟨hs, hr⟩ := hr
    have hsi : l[i]? = some x := by rw [List.getElem?_eq_getElem hi, hs]
    have ok := hok x (by rw [← hs]; exact List.getElem_mem hi)
    have hA := ok.a
    have hZ := ok.s
    have hsz := ok.n
    unfold u64r at hA hZ
    simp only [List.length_cons] at hB hR
    have g : decide ((i : Int) < (l.length : Int)) = true := by simp; omega
    obtain ⟨sl, e0, g1, c0, c1, c2, c3⟩ := getsSy (ht.no h2.k) hsi
    have hw : slen w = (R.length : Int) := h2.ow.rs.slenEq
    obtain ⟨b1, H1, r1, o1, p1⟩ := nums_go h2.ob (by omega) 4 (by omega) [R.length] (by intro v hv; simp at hv; omega) (by simp) 4 [Cell.int IntKind.u64 (IntKind.u64.wrap (slen w))] 1 rfl rfl (by rw [hw, u64_nat R.length (by omega)]; rfl)
    have t1 := h2.left p1 o1
    have kP : Kp No H1 (H1 ++ [Blk.row ((k4 x).flatMap E8) false]) := Kp.push1 _ _
    have xr : RS 1 E8 (H1 ++ [Blk.row ((k4 x).flatMap E8) false]) (some ⟨H1.length, 0, 4, 4, 1⟩) (k4 x) := rs_new (E := E8) (k4 x) (ro := false) (push_get _ _) rfl
    have t1' := t1.no kP
    have l1 : ([R.length].flatMap (leB 4)).length = 4 := by simp [leB_length]
    obtain ⟨b2, H2, r2, o2, p2⟩ := ap_app (by' := 1) E8_len (by decide) t1'.ob xr (by rw [List.length_append, l1]; simp [k4]; unfold most; omega)
    have t2 := t1'.left p2 o2
    obtain ⟨b3, H3, r3, o3, p3⟩ := nums_go t2.ob (by rw [List.length_append, List.length_append, l1]; simp [k4]; omega) 8 (by omega) [x.addr.toNat, x.size.toNat] (by intro v hv; simp at hv; omega) (by simp) 8 [Cell.int IntKind.u64 x.addr, Cell.int IntKind.u64 x.size] 2 rfl rfl (by
      simp only [List.flatMap_cons, List.flatMap_nil, EU, List.cons_append, List.nil_append, List.append_nil, nat_of hA.1, nat_of hZ.1])
    have t3 := t2.left p3 o3
    have kQ : Kp No H3 (H3 ++ [Blk.row (bytesCells x.name) false]) := Kp.push1 _ _
    have xq : RS 1 E8 (H3 ++ [Blk.row (bytesCells x.name) false]) (some ⟨H3.length, 0, x.name.size, x.name.size, 1⟩) x.name.data.toList := by
      have := rs_new (E := E8) (H := H3 ++ [Blk.row (bytesCells x.name) false]) (id := H3.length) (n := 1) x.name.data.toList (ro := false) (by rw [push_get, bytesCells_flat]) rfl
      simpa using this
    have hxl : x.name.data.toList.length = x.name.size := by simp
    have t3' := t3.no kQ
    obtain ⟨w1, H4, r4, o4, p4⟩ := ap_app (by' := 1) E8_len (by decide) t3'.ow xq (by rw [hxl]; unfold most; omega)
    have t4 := t3'.right p4 o4
    have kR : Kp No H4 (H4 ++ [Blk.row [Cell.int IntKind.u8 0] false]) := Kp.push1 _ _
    have xz : RS 1 E8 (H4 ++ [Blk.row [Cell.int IntKind.u8 0] false]) (some ⟨H4.length, 0, 1, 1, 1⟩) [(0 : UInt8)] := rs_new (E := E8) [(0 : UInt8)] (ro := false) (by rw [push_get]; rfl) rfl
    have t4' := t4.no kR
    obtain ⟨w2, H5, r5, o5, p5⟩ := ap_app (by' := 1) E8_len (by decide) t4'.ow xz (by rw [List.length_append, hxl]; unfold most; simp; omega)
    have t5 := t4'.right p5 o5
    have eB : B ++ [R.length].flatMap (leB 4) ++ k4 x ++ [x.addr.toNat, x.size.toNat].flatMap (leB 8) = B ++ symB R.length x := by
      rw [k4_symB]; simp only [List.append_assoc]
    rw [eB] at t5
    have hR5 : (R ++ x.name.data.toList ++ [0]).length = R.length + (x.name.size + 1) := by rw [List.length_append, List.length_append, hxl]; rfl
    obtain ⟨b', w', H', q1, q2⟩ := loop27a ht hl hok t6 a0 a1 a2 a3 a4 z Z r n (i + 1) b3 w2 _ _ H5 hr t5 (by rw [List.length_append, symB_len]; omega) (by rw [hR5]; omega)
    rw [hR5] at q2
    refine ⟨b', w', H', ?_, ?_⟩
    · have r2' : Heap.append (H1 ++ [Blk.row [Cell.int IntKind.u8 (IntKind.u8.wrap (IntKind.i64.wrap (x.kind + 16))), Cell.int IntKind.u8 0, Cell.int IntKind.u8 1, Cell.int IntKind.u8 0] false]) 1 1 b1 (some ⟨List.length H1, 0, 4, 4, 1⟩) = some (b2, H2) := by rw [k4_row ok.k]; exact r2
      rw [show n + (x :: r).length + 1 = (n + r.length + 1) + 1 by simp; omega, D27_7_s, g, ct]
      rw [show t.bind = (some sl).bind (β := AExit × St) by rw [e0]]
      simp only [Ab.bs, g1, ct, c0, c1, c2, c3, tInt, tStr, r1, r2', r3, show decide (x.name.size ≤ 17592186044416) = true by simp; omega, r4, r5, i64_succ i (show i < 9223372036854775807 by omega)]
      exact q1
    · have e1 : B ++ symsB R.length (x :: r) = B ++ symB R.length x ++ symsB (R.length + (x.name.size + 1)) r := by
        show B ++ (symB R.length x ++ symsB _ r) = _
        rw [List.append_assoc]
      have e2 : R ++ namesB (x :: r) = R ++ x.name.data.toList ++ [0] ++ namesB r := by
        show R ++ (x.name.data.toList ++ [0] ++ namesB r) = _
        simp only [List.append_assoc]
      rw [e1, e2]; exact q2
theorem rel64 {k : Int} (h : 0 ≤ k ∧ k < 64) : IntKind.u64.wrap (1 + IntKind.u64.wrap (IntKind.u64.wrap (IntKind.i64.wrap (k + 1)) * 4294967296)) = ((1 + 4294967296 * (k.toNat + 1) : Nat) : Int) := by
  rw [wrap_i64 (by omega) (by omega), wrap_u64, wrap_u64, wrap_u64]; omega
theorem loop27b {H0 : Heap} {t : Option Sl} {l : List Rl} (ht : RS 3 ERl H0 t l) (hl : l.length ≤ 64) (ns : Nat) (hns : ns ≤ 64) (hok : ∀ x ∈ l, RlOk x ns) (t6 t10 t11 : Int) (w : Option Sl) :
    ∀ (r : List Rl) (n i : Nat) (b : Option Sl) (B : List UInt8) (H : Heap), l.drop i = r → OS 1 E8 H b B → Kp No H0 H → New H0.length b → B.length + 24 * r.length ≤ 1099511627776 →
    ∃ b' H', D27_18 (n + r.length + 1) b t6 w t10 t11 t (l.length : Int) (i : Int) H = some (.exit 2, X27_18 b' t6 w t10 t11 H') ∧ OS 1 E8 H' b' (B ++ relsB r) ∧ Ap H b H' b'
  | [], n, i, b, B, H, hr, ho, hk, hn, hB => by
    have hi : l.length ≤ i := by
      rcases Nat.lt_or_ge i l.length with h1 | h1
      · rw [List.drop_eq_getElem_cons h1] at hr; cases hr
      · exact h1
    have g : decide ((i : Int) < (l.length : Int)) = false := by simp; omega
    refine ⟨b, H, by rw [List.length_nil, Nat.add_zero, D27_18_s, g, cf], ?_, Ap.refl _ _⟩
    unfold relsB
    rw [List.append_nil]; exact ho
  | x :: r, n, i, b, B, H, hr, ho, hk, hn, hB => by
    have hi : i < l.length := by
      rcases Nat.lt_or_ge i l.length with h1 | h1
      · exact h1
      · rw [List.drop_eq_nil_of_le h1] at hr; cases hr
    rw [List.drop_eq_getElem_cons hi, List.cons.injEq] at hr
    obtain ⟨hs, hr⟩ := hr
    have hsi : l[i]? = some x := by rw [List.getElem?_eq_getElem hi, hs]
    have ok := hok x (by rw [← hs]; exact List.getElem_mem hi)
    have hA := ok.a
    have hS := ok.s
    unfold u64r at hA
    simp only [List.length_cons] at hB
    have g : decide ((i : Int) < (l.length : Int)) = true := by simp; omega
    obtain ⟨sl, e0, g1, c0, c1, c2⟩ := getsRl (ht.no hk) hsi
    have hadd := u64_lt x.add
    have hai : ((((IntKind.u64.wrap x.add).toNat : Nat)) : Int) = IntKind.u64.wrap x.add := nat_of (by rw [wrap_u64]; omega)
    obtain ⟨b1, H1, r1, o1, p1⟩ := nums_go ho (by omega) 8 (by omega) (relN x) (by
      have := lt64 (x.sym.toNat + 1) (by omega)
      intro v hv; unfold relN at hv; simp only [List.mem_cons, List.not_mem_nil, or_false] at hv
      rcases hv with e | e | e <;> omega) (by simp [relN]) 8 [Cell.int IntKind.u64 x.at', Cell.int IntKind.u64 (IntKind.u64.wrap (1 + IntKind.u64.wrap (IntKind.u64.wrap (IntKind.i64.wrap (x.sym + 1)) * 4294967296))), Cell.int IntKind.u64 (IntKind.u64.wrap x.add)] 3 rfl rfl (by
      rw [rel64 ⟨hS.1, by omega⟩]
      unfold relN
      simp only [List.flatMap_cons, List.flatMap_nil, EU, List.cons_append, List.nil_append, List.append_nil, nat_of hA.1, hai])
    obtain ⟨k1, n1⟩ := p1.new hk hn
    obtain ⟨b', H', q1, q2, q3⟩ := loop27b ht hl ns hns hok t6 t10 t11 w r n (i + 1) b1 _ H1 hr o1 k1 n1 (by
      have : ((relN x).flatMap (leB 8)).length = 24 := by simp [relN, leB_length]
      rw [List.length_append, this]; omega)
    refine ⟨b', H', ?_, ?_, p1.tr q3⟩
    · rw [show n + (x :: r).length + 1 = (n + r.length + 1) + 1 by simp; omega, D27_18_s, g, ct]
      rw [show t.bind = (some sl).bind (β := AExit × St) by rw [e0]]
      simp only [Ab.bs, g1, ct, c0, c1, c2, tInt, r1, i64_succ i (show i < 9223372036854775807 by omega)]
      exact q1
    · have e1 : B ++ relsB (x :: r) = B ++ (relN x).flatMap (leB 8) ++ relsB r := by
        show B ++ ((relN x).flatMap (leB 8) ++ relsB r) = _
        rw [List.append_assoc]
      rw [e1]; exact q2
end
end Go.Proofs.Ytmjmhipfkbedaaa
