/- Layer 9: areas told, memories compared and copied. -/
import Derived.Test.YtdpmbfceadidkaaMeY
import Derived.Test.YtdpmbfceadidkaaMe4
namespace Go.Proofs.Ytdpmbfceadidkaa
open Go Go.Proofs.Ytdpmbfceadidkaa.Ab
set_option linter.unusedVariables false
set_option linter.unusedSimpArgs false
set_option maxRecDepth 100000
noncomputable section
/-! ### Areas -/
def LikeA (z a : Ar) : Prop := z.lo = a.lo ∧ z.data = a.data ∧ z.wr = a.wr ∧ z.pr = a.pr
structure AL (H : Heap) (L : Nat) (s : Option Sl) (zs : List Ar) : Prop where
  r : OS 4 E4 H s zs
  d : ∀ (k : Nat) (z : Ar), zs[k]? = some z → OS 1 E8 H z.sl z.data
  rn : New L s
  dn : ∀ (k : Nat) (z : Ar), zs[k]? = some z → New L z.sl
  inj : ∀ (j k : Nat) (y z : Ar) (i : Nat), zs[j]? = some y → zs[k]? = some z → idO y.sl = some i → idO z.sl = some i → j = k
  sd : ∀ (k : Nat) (z : Ar) (i : Nat), zs[k]? = some z → idO z.sl = some i → idO s ≠ some i
theorem snoc_at {α : Type} {l : List α} {a : α} {k : Nat} {c : α} (hk : (l ++ [a])[k]? = some c) : (k < l.length ∧ l[k]? = some c) ∨ (k = l.length ∧ c = a) := by
  rcases Nat.lt_or_ge k l.length with hlt | hge
  · rw [List.getElem?_append_left hlt] at hk; exact .inl ⟨hlt, hk⟩
  · rw [List.getElem?_append_right hge] at hk
    cases hm : k - l.length with
    | zero => rw [hm] at hk; simp at hk; exact .inr ⟨by omega, hk.symm⟩
    | succ m => rw [hm] at hk; simp at hk
theorem idO_new {N : Nat} {s : Option Sl} (h : New N s) {i : Nat} (hi : idO s = some i) : N ≤ i := by
  cases s with
  | none => cases hi
  | some sl => cases hi; exact h sl rfl
theorem loop29 {M : Mm} {L N : Nat} {c : Co} (f : c.Fit N) (K : Nat) : ∀ (m n i : Nat) (s : Option Sl) (zs : List Ar) (H : Heap), i + m = M.ars.length → M.Is H L c → K ≤ H.length → AL H K s zs → zs.length = i → (∀ (k : Nat) (z : Ar), zs[k]? = some z → ∃ a, M.ars[k]? = some a ∧ LikeA z a) → (∀ j, M.In j → j < K) →
    ∃ s' zs' H', D29_5 (n + m + 1) s M.s (M.ars.length : Int) (i : Int) H = some (.exit 0, X29_5 s' H') ∧ AL H' K s' zs' ∧ zs'.length = M.ars.length ∧ (∀ (k : Nat) (z : Ar), zs'[k]? = some z → ∃ a, M.ars[k]? = some a ∧ LikeA z a) ∧ Kp (fun i => K ≤ i) H H'
  | 0, n, i, s, zs, H, hm, h, hK, hA, hl, hz, hlt => by
    have g : decide ((i : Int) < (M.ars.length : Int)) = false := by simp; omega
    exact ⟨s, zs, H, by rw [D29_5_s, g, cf], hA, by omega, hz, Kp.refl _ _⟩
  | m + 1, n, i, s, zs, H, hm, h, hK, hA, hl, hz, hlt => by
    have g : decide ((i : Int) < (M.ars.length : Int)) = true := by simp; omega
    have hi : i < M.ars.length := by omega
    have hai := List.getElem?_eq_getElem hi
    have hnl := h.nl f
    obtain ⟨sl, hsl, g1, c0, c1, c2, c3, c4⟩ := gets5 h.m.ar.rs hai
    obtain ⟨d, H1, e1, e2, e3, e4⟩ := f49_x M.ars[i].sl M.ars[i].data H (h.m.dt i _ hai).rs (h.dl f _ (List.getElem_mem hi))
    have k2 := Kp.push1 H1 (Blk.row (E4 { M.ars[i] with sl := d }) false)
    have kk : Kp No H1 (H1 ++ [Blk.row (E4 { M.ars[i] with sl := d }) false]) := k2
    obtain ⟨s1, H2, a1, a2, a3, a4⟩ := append_OS E4_len (by decide) (by' := 40) ((hA.r.no e3).no k2) (row4 H1 { M.ars[i] with sl := d }) (by simp [most]; omega)
    have k12 : Kp (Of s) H H2 := ((e3.tr k2).mono (D := Of s) fun i _ hf => absurd hf (fun h => h)).trans a3 (fun _ h => h) fun _ _ h => h
    have sid : ∀ i, Of s i → idO s = some i := fun i ⟨sd, e, e'⟩ => by rw [e, e']; rfl
    have s1id : ∀ i, idO s1 = some i → idO s = some i ∨ H1.length + 1 ≤ i := fun i hi => by
      cases s1 with
      | none => cases hi
      | some sr =>
        cases hi
        rcases a4 sr rfl with ⟨s0, f0, f1⟩ | f
        · exact .inl (by rw [f0]; show some s0.id = some sr.id; rw [f1])
        · exact .inr (by simpa using f)
    have did : ∀ i, idO d = some i → H.length ≤ i ∧ i < H1.length := fun i hi => ⟨idO_new e4 hi, OS.idlt e2 hi⟩
    have hlen := e3.len
    have od : OS 1 E8 H2 d M.ars[i].data := OS.other (e2.no k2) a3 fun j hj hf => by
      have := OS.idlt hA.r (sid j hf); have := (did j hj).1; omega
    have hA2 : AL H2 K s1 (zs ++ [{ M.ars[i] with sl := d }]) := by
      refine ⟨a2, fun k z hk => ?_, ?_, fun k z hk => ?_, fun j k y z q hj hk h1 h2 => ?_, fun k z q hk h1 h2 => ?_⟩
      · rcases snoc_at hk with ⟨_, hk⟩ | ⟨_, rfl⟩
        · exact OS.other (hA.d k z hk) k12 fun j hj hf => hA.sd k z j hk hj (sid j hf)
        · exact od
      · intro sr e
        rcases s1id sr.id (by rw [e]; rfl) with e' | e'
        · exact idO_new hA.rn e'
        · omega
      · rcases snoc_at hk with ⟨_, hk⟩ | ⟨_, rfl⟩
        · exact hA.dn k z hk
        · intro sr e
          have e : d = some sr := e
          have := (did sr.id (by rw [e]; rfl)).1; omega
      · rcases snoc_at hj with ⟨_, hj⟩ | ⟨e1, rfl⟩ <;> rcases snoc_at hk with ⟨_, hk⟩ | ⟨e2, rfl⟩
        · exact hA.inj j k y z q hj hk h1 h2
        · have := OS.idlt (hA.d j y hj) h1; have := (did q h2).1; omega
        · have := OS.idlt (hA.d k z hk) h2; have := (did q h1).1; omega
        · omega
      · rcases snoc_at hk with ⟨_, hk⟩ | ⟨_, rfl⟩
        · rcases s1id q h2 with e | e
          · exact hA.sd k z q hk h1 e
          · have := OS.idlt (hA.d k z hk) h1; omega
        · rcases s1id q h2 with e | e
          · have := OS.idlt hA.r e; have := (did q h1).1; omega
          · have := (did q h1).2; omega
    have ofK : ∀ i, Of s i → K ≤ i := fun i hi => idO_new hA.rn (sid i hi)
    have h2 : M.Is H2 L c := h.other k12 fun j hj hf => by have := hlt j hj; have := ofK j hf; omega
    obtain ⟨s', zs', H', r1, r2, r3, r4, r5⟩ := loop29 f K m n (i + 1) s1 (zs ++ [{ M.ars[i] with sl := d }]) H2 (by omega) h2 (Nat.le_trans hK k12.len) hA2 (by simp; omega) (fun k z hk => by
      rcases snoc_at hk with ⟨_, hk⟩ | ⟨e, rfl⟩
      · exact hz k z hk
      · exact ⟨M.ars[i], by rw [e, hl]; exact hai, rfl, rfl, rfl, rfl⟩) hlt
    refine ⟨s', zs', H', ?_, r2, r3, r4, (k12.mono (D := fun i => K ≤ i) fun i _ hf => ofK i hf).trans r5 (fun _ h => h) fun _ _ h => h⟩
    rw [show n + (m + 1) + 1 = (n + m + 1) + 1 by omega, D29_5_s, g]
    simp only [ct, hsl, Ab.bs, g1, c0, c1, c2, c3, c4, tInt, tSlice, tBool, e1]
    have a1 : (H1 ++ [Blk.row [Cell.int .u64 M.ars[i].lo, Cell.slice d, Cell.bool M.ars[i].wr, Cell.bool M.ars[i].pr] false]).append 4 40 s (some { id := List.length H1, off := 0, len := 1, cap := 1, esz := 4 }) = some (s1, H2) := a1
    rw [a1, Ab.bs, i64_succ i (by omega), ← hsl]
    exact r1
theorem areas_x {M : Mm} {H : Heap} {L N : Nat} {c : Co} (h : M.Is H L c) (f : c.Fit N) : ∃ s zs H', f29 M.p H = some (s, H') ∧ AL H' H.length s zs ∧ zs.length = M.ars.length ∧ (∀ (k : Nat) (z : Ar), zs[k]? = some z → ∃ a, M.ars[k]? = some a ∧ LikeA z a) ∧ Kp No H H' := by
  have gs : H.get M.b (0 + 0) = some (.slice M.s) := by rw [get_of h.m.hd]; rfl
  have hn := h.nl f
  rw [q29]
  unfold Mm.p
  simp only [nsome, cf, Ab.bs, gs, tSlice, h.m.ar.rs.slenEq]
  obtain ⟨n, e⟩ := LL29_5_of M.ars.length (by omega) none M.s (M.ars.length : Int) 0 H
  obtain ⟨s, zs, H', r1, r2, r3, r4, r5⟩ := loop29 f H.length M.ars.length n 0 none [] H (by omega) h (Nat.le_refl _) ⟨rfl, (fun k z hk => by simp at hk), (fun _ e => nomatch e), (fun k z hk => by simp at hk), (fun j k y z i hj => by simp at hj), (fun k z i hk => by simp at hk)⟩ rfl (fun k z hk => by simp at hk) (fun j hj => h.lt hj)
  refine ⟨s, zs, H', ?_, r2, r3, r4, (Kp.refl No H).tr' r5⟩
  rw [e, show (0 : Int) = ((0 : Nat) : Int) from rfl, r1, Ab.bs, J29_5_0]
/-! ### the law's Same -/
theorem loop23d {K : Nat} (t0 t1 : Option (Nat × Nat)) (s q : Option Sl) (zs : List Ar) (i : Nat) (hi : i < zs.length) (hn : zs.length ≤ 1000) (ql : Int) : ∀ (m n j : Nat) (d : List UInt8) (H : Heap), j + m = d.length → d.length ≤ 1048576 → RS 4 E4 H s zs → OS 1 E8 H zs[i].sl d → (∀ x, idO zs[i].sl = some x → idO s ≠ some x) → New K zs[i].sl →
    ∃ H', D23_10 (n + m + 1) t0 t1 s (i : Int) q ql (i : Int) (d.length : Int) (j : Int) H = some (.exit 2, X23_10 t0 t1 s q ql (i : Int) H') ∧ Kp (Of zs[i].sl) H H'
  | 0, n, j, d, H, hm, hd, hs, hO, hne, hN => by
    have g : decide ((j : Int) < (d.length : Int)) = false := by simp; omega
    exact ⟨H, by rw [D23_10_s, g, cf], Kp.refl _ _⟩
  | m + 1, n, j, d, H, hm, hd, hs, hO, hne, hN => by
    have g : decide ((j : Int) < (d.length : Int)) = true := by simp; omega
    have hj : j < d.length := by omega
    obtain ⟨sl, hsl, g1, c0, c1, c2, c3⟩ := gets4 hs (List.getElem?_eq_getElem hi)
    have hO' := hO
    obtain ⟨sd, hsd, b1, b2⟩ := hO.rs.idx1 (List.getElem?_eq_getElem hj) (e := fun c : UInt8 => Cell.int .u8 (c.toNat : Int)) (fun _ => rfl)
    rw [hsd] at hO
    have hbx : IntKind.u8.wrap (bxor .u8 (d[j].toNat : Int) 9) = bxor .u8 (d[j].toNat : Int) 9 := by
      unfold bxor
      simp only [wrap_u8]
      omega
    have hr := u8_range (bxor .u8 (d[j].toNat : Int) 9)
    rw [hbx] at hr
    obtain ⟨H', p1, p2, p3, p4⟩ := OS.put E8_len hO (i := j) (j := 0) (x := d[j]) (y := u8v (bxor .u8 (d[j].toNat : Int) 9)) (vs := [Cell.int .u8 (bxor .u8 (d[j].toNat : Int) 9)]) (List.getElem?_eq_getElem hj) (by simp) (by
      show [Cell.int .u8 ((u8v (bxor .u8 (d[j].toNat : Int) 9)).toNat : Int)] = _
      rw [u8v_eq hr.1 hr.2]; rfl)
    have kof : Kp (Of zs[i].sl) H H' := p3.mono fun x _ hx => ⟨sd, hsd, hx⟩
    have hs' : RS 4 E4 H' s zs := hs.kp p3 fun sl' e _ hf => by
      have : sl'.id = sd.id := hf
      exact hne sd.id (by rw [hsd]; rfl) (by rw [e]; show some sl'.id = some sd.id; rw [this])
    obtain ⟨H2, r1, r2⟩ := loop23d (K := K) t0 t1 s q zs i hi hn ql m n (j + 1) (d.set j (u8v (bxor .u8 (d[j].toNat : Int) 9))) H' (by simp; omega) (by simpa using hd) hs' (by rw [hsd]; exact p2) hne hN
    refine ⟨H2, ?_, kof.trans r2 (fun _ h => h) fun _ _ h => h⟩
    have p1 : H.put sd.id (sd.off + ((j : Nat) : Int).toNat * 1) [Cell.int .u8 (bxor .u8 (d[j].toNat : Int) 9)] = some H' := p1
    rw [show n + (m + 1) + 1 = (n + m + 1) + 1 by omega, D23_10_s, g]
    simp only [List.length_set] at r1
    rw [hsd] at c1
    simp only [ct, hsl, Ab.bs, g1, c1, tSlice, b1, b2, tInt, p1, i64_succ j (by omega)]
    rw [← hsl]
    exact r1
theorem loop23a {R : Rm} {L K N : Nat} {c : Co} (f : c.Fit N) (t0 t1 : Option (Nat × Nat)) (s : Option Sl) (zs : List Ar) (hzl : zs.length = R.ars.length) (hz : ∀ (k : Nat) (z : Ar), zs[k]? = some z → ∃ a, R.ars[k]? = some a ∧ LikeA z a) (hlt : ∀ j, R.In j → j < K)
    (inj : ∀ (j k : Nat) (y z : Ar) (i : Nat), zs[j]? = some y → zs[k]? = some z → idO y.sl = some i → idO z.sl = some i → j = k) (sd : ∀ (k : Nat) (z : Ar) (i : Nat), zs[k]? = some z → idO z.sl = some i → idO s ≠ some i) (dn : ∀ (k : Nat) (z : Ar), zs[k]? = some z → New K z.sl) :
    ∀ (m n i : Nat) (H : Heap), i + m = R.ars.length → R.Is H L c → RS 4 E4 H s zs → (∀ (k : Nat) (z : Ar), i ≤ k → zs[k]? = some z → OS 1 E8 H z.sl z.data) →
    ∃ H', D23_5 (n + m + 1) t0 t1 s R.s (R.ars.length : Int) (i : Int) H = some (.exit 0, X23_5a t0 t1 H') ∧ Kp (fun i => K ≤ i) H H'
  | 0, n, i, H, hm, h, hs, hO => by
    have g : decide ((i : Int) < (R.ars.length : Int)) = false := by simp; omega
    exact ⟨H, by rw [D23_5_s, g, cf], Kp.refl _ _⟩
  | m + 1, n, i, H, hm, h, hs, hO => by
    have g : decide ((i : Int) < (R.ars.length : Int)) = true := by simp; omega
    have hi : i < R.ars.length := by omega
    have hiz : i < zs.length := by omega
    have hai := List.getElem?_eq_getElem hi
    have hzi := List.getElem?_eq_getElem hiz
    obtain ⟨a, ha, l1, l2, l3, l4⟩ := hz i _ hzi
    rw [hai] at ha; cases ha
    have hnl := h.nl f
    obtain ⟨sl, hsl, g1, c0, c1, c2, c3, c4⟩ := gets5 h.m.ar.rs hai
    obtain ⟨sz, hsz, y1, d0, d1, d2, d3⟩ := gets4 hs hzi
    have d0' : H.get sz.id (sz.off + ((i : Nat) : Int).toNat * 4 + 0) = some (.int .u64 zs[i].lo) := d0
    have d2' : H.get sz.id (sz.off + ((i : Nat) : Int).toNat * 4 + 2) = some (.bool zs[i].wr) := d2
    have d3' : H.get sz.id (sz.off + ((i : Nat) : Int).toNat * 4 + 3) = some (.bool zs[i].pr) := d3
    have hOi := hO i _ (Nat.le_refl _) hzi
    have hdl : zs[i].data.length ≤ 1048576 := by rw [l2]; exact h.dl f _ (List.getElem_mem hi)
    obtain ⟨n', e⟩ := LL23_10_of zs[i].data.length (by omega) t0 t1 s (i : Int) R.s (R.ars.length : Int) (i : Int) (zs[i].data.length : Int) 0 H
    obtain ⟨H1, r1, r2⟩ := loop23d (K := K) t0 t1 s R.s zs i hiz (by omega) (R.ars.length : Int) zs[i].data.length n' 0 zs[i].data H (by omega) hdl hs hOi (fun x hx => sd i _ x hzi hx) (dn i _ hzi)
    have oid : ∀ x, Of zs[i].sl x → idO zs[i].sl = some x := fun x ⟨sd, e, e'⟩ => by rw [e, e']; rfl
    have kK : Kp (fun i => K ≤ i) H H1 := r2.mono fun x _ hx => idO_new (dn i _ hzi) (oid x hx)
    obtain ⟨H2, u1, u2⟩ := loop23a f t0 t1 s zs hzl hz hlt inj sd dn m n (i + 1) H1 (by omega) (h.other kK fun j hj hf => by have := hlt j hj; omega) (hs.kp r2 fun sl' e _ hf => sd i _ sl'.id hzi (oid _ hf) (by rw [e]; rfl)) (fun k z hk hz => OS.other (hO k z (by omega) hz) r2 fun x hx hf => by have := inj k i z zs[i] x hz hzi hx (oid x hf); omega)
    refine ⟨H2, ?_, kK.trans u2 (fun _ h => h) fun _ _ h => h⟩
    have e1 : (R.ars[i].lo != R.ars[i].lo) = false := by simp
    have e2 : (!R.ars[i].wr == R.ars[i].wr) = false := by cases R.ars[i].wr <;> rfl
    have e3 : (!R.ars[i].pr == R.ars[i].pr) = false := by cases R.ars[i].pr <;> rfl
    have s1 := hOi.rs.str
    have s2 := (h.m.dt i _ hai).rs.str
    have e4 : strEq ⟨zs[i].data.toArray⟩ ⟨R.ars[i].data.toArray⟩ = true := by rw [strEq_iff, l2]; simp
    have r1 : D23_10 (n' + zs[i].data.length + 1) t0 t1 s (i : Int) R.s (R.ars.length : Int) (i : Int) (zs[i].data.length : Int) 0 H = _ := r1
    have hslz := hOi.rs.slenEq
    rw [show n + (m + 1) + 1 = (n + m + 1) + 1 by omega, D23_5_s, g]
    subst hsz
    rw [hsl] at e r1
    simp only [ct, hsl, Ab.bs, g1, c0, c1, c2, c3, c4, y1, d0', d1, d2', d3', tInt, tSlice, tBool, l1, l3, l4, e1, e2, e3, cf, s1, s2, e4, Bool.not_true, hslz]
    rw [e, r1, Ab.bs, J23_10_0, i64_succ i (by omega), ← hsl]
    exact u1
theorem loop23p {M : Mm} {R : Rm} {L N : Nat} {c : Co} (f : c.Fit N) (H : Heap) (h : M.Is H L c) (r : R.Is H L c) : ∀ (m n i : Nat), i + m = 10 →
    (D23_16 (n + m + 1) M.p R.p ((i : Int) - 1) H).bind J23_16 = some (true, H)
  | 0, n, i, hm => by
    obtain rfl : i = 10 := by omega
    rw [D23_16_s, show decide ((((10 : Nat) : Int) - 1) < 9) = false from rfl, cf, Ab.bs, J23_16_1]
  | m + 1, n, i, hm => by
    have g : decide (((i : Int) - 1) < 9) = true := by apply decide_eq_true; omega
    have ih := loop23p f H h r m n (i + 1) (by omega)
    have e1 : (((i + 1 : Nat) : Int) - 1) = (i : Int) := by omega
    have e2 : IntKind.i64.wrap ((i : Int) - 1 + 1) = (((i + 1 : Nat) : Int) - 1) := by rw [wrap_i64 (by omega) (by omega)]; omega
    rw [show n + (m + 1) + 1 = (n + m + 1) + 1 by omega, D23_16_s, g, ct, e2]
    have nothing : ∀ t : Int, thrd t = false → f20 M.p t H = some (0, H) := fun t ht => by
      show f20 (some (M.b, 0)) t H = _
      rw [q20, f31_x, Ab.bs, ht]; rfl
    by_cases h0 : i = 0
    · subst h0
      rw [show decide ((((0 : Nat) : Int) - 1) ≥ 0) = false from rfl, cf, nothing _ (by decide), Ab.bs]
      dsimp only
      rw [show ((0 : Int) != 0) = false from rfl, cf]
      exact ih
    have g0 : decide (((i : Int) - 1) ≥ 0) = true := by apply decide_eq_true; omega
    rw [g0, ct]
    by_cases h8 : i = 9
    · subst h8
      rw [show decide ((((9 : Nat) : Int) - 1) < 8) = false from rfl, cf, nothing _ (by decide), Ab.bs]
      dsimp only
      rw [show ((0 : Int) != 0) = false from rfl, cf]
      exact ih
    have g8 : decide (((i : Int) - 1) < 8) = true := by apply decide_eq_true; omega
    obtain ⟨t, ht⟩ : ∃ t : Nat, (i : Int) - 1 = (t : Int) := ⟨i - 1, by omega⟩
    have ht8 : t < 8 := by omega
    obtain ⟨l, hl, _⟩ := f.row ht8
    obtain ⟨q, hq, hqa⟩ := r.row hl
    obtain ⟨rt, hr⟩ := rowR r ht8
    have hql : q.length = l.length := by simpa using congrArg List.length hqa
    have hrow : H.get R.b (0 + 1 + ((t : Nat) : Int).toNat * 1) = some (.slice rt) := head_row r.m hr
    have i8 : inb (t : Int) 8 = true := by simp [inb]; omega
    rw [g8, ct, ht]
    have hpd := pend_x h t ht8 hl
    have e3 : (((l.length : Nat) : Int) != ((l.length : Nat) : Int)) = false := by simp
    have hp : R.p = some (R.b, 0) := rfl
    rw [hp] at ih ⊢
    simp only [Ab.bs, i8, ct, hrow, tSlice, hpd, (r.m.ro t _ q hr hq).rs.slenEq, hql, e3, cf]
    exact ih
theorem same_law {M : Mm} {R : Rm} {H : Heap} {L N : Nat} {c : Co} (P : Par H L M R c c) (f : c.Fit N) : ∃ H', f23 M.p R.p H = some (true, H') ∧ Kp No H H' := by
  obtain ⟨s, zs, H1, e1, e2, e3, e4, e5⟩ := areas_x P.m f
  have r1 := P.r.no e5
  have m1 := P.m.no e5
  have gs : H1.get R.b (0 + 0) = some (.slice R.s) := by rw [get_of r1.m.hd]; rfl
  have hlen : zs.length = R.ars.length := by rw [e3, P.m.len, P.r.len]
  have hn := P.r.nl f
  have hzz : ∀ (k : Nat) (z : Ar), zs[k]? = some z → ∃ a, R.ars[k]? = some a ∧ LikeA z a := fun k z hk => by
    obtain ⟨a, a1, a2⟩ := e4 k z hk
    have h1 := congrArg (·[k]?) (P.m.a.trans P.r.a.symm)
    simp only [nfs_at, a1, Option.map_some] at h1
    cases hr : R.ars[k]? with
    | none => rw [hr] at h1; cases h1
    | some b =>
      rw [hr] at h1
      have h1 : nfA a = nfA b := Option.some.inj h1
      obtain ⟨y1, y2, y3, y4⟩ := a2
      have z1 : (nfA a).lo = (nfA b).lo := congrArg Ar.lo h1
      have z2 : (nfA a).data = (nfA b).data := congrArg Ar.data h1
      have z3 : (nfA a).wr = (nfA b).wr := congrArg Ar.wr h1
      have z4 : (nfA a).pr = (nfA b).pr := congrArg Ar.pr h1
      exact ⟨b, rfl, y1.trans z1, y2.trans z2, y3.trans z3, y4.trans z4⟩
  obtain ⟨n, e⟩ := LL23_5_of R.ars.length (by omega) M.p R.p s R.s (R.ars.length : Int) 0 H1
  obtain ⟨H2, u1, u2⟩ := loop23a (K := H.length) f M.p R.p s zs hlen hzz (fun j hj => P.r.lt hj) e2.inj e2.sd e2.dn R.ars.length n 0 H1 (by omega) r1 e2.r.rs fun k z _ hk => e2.d k z hk
  have kk : Kp No H H2 := e5.trans u2 (fun _ h => h) fun i hi hf => absurd hf (Nat.not_le_of_lt hi)
  have m2 := P.m.no kk
  have r2 := P.r.no kk
  obtain ⟨n', e'⟩ := LL23_16_of 10 (by omega) M.p R.p (-1) H2
  have hfin := loop23p f H2 m2 r2 10 n' 0 (by omega)
  refine ⟨H2, ?_, kk⟩
  have hne : ((((R.ars.length : Nat) : Int)) != ((R.ars.length : Nat) : Int)) = false := by simp
  have hp : R.p = some (R.b, 0) := rfl
  have hm : M.p.isNone = false := rfl
  rw [q23, e1, Ab.bs, hm, cf]
  rw [hp] at e u1 e' hfin ⊢
  simp only [Ab.bs, gs, tSlice, e2.r.rs.slenEq, hlen, r1.m.ar.rs.slenEq, hne, cf]
  rw [e, show (0 : Int) = ((0 : Nat) : Int) from rfl, u1, Ab.bs, J23_5_1, e']
  exact hfin
/-! ### Copy -/
theorem loop24a {M : Mm} {L N : Nat} {c : Co} (f : c.Fit N) (K b : Nat) (s : Option Sl) : ∀ (m n i : Nat) (ars : List Ar) (H : Heap), i + m = M.ars.length → M.Is H L c → MR H b K s ars nils noRows → ars.length = M.ars.length → (∀ (k : Nat) (a x : Ar), ars[k]? = some a → M.ars[k]? = some x → LikeA a x ∧ (k < i → a.ow = x.ow)) → (∀ j, M.In j → j < K) →
    ∃ ars' H', D24_5 (n + m + 1) M.p (some (b, 0)) (M.ars.length : Int) (i : Int) H = some (.exit 0, X24_5 M.p (some (b, 0)) H') ∧ MR H' b K s ars' nils noRows ∧ ars'.length = M.ars.length ∧ (∀ (k : Nat) (a x : Ar), ars'[k]? = some a → M.ars[k]? = some x → LikeA a x ∧ a.ow = x.ow) ∧ Kp (fun i => K ≤ i) H H'
  | 0, n, i, ars, H, hm, h, hC, hl, hk, hlt => by
    have g : decide ((i : Int) < (M.ars.length : Int)) = false := by simp; omega
    refine ⟨ars, H, by rw [D24_5_s, g, cf], hC, hl, fun k a x h1 h2 => ⟨(hk k a x h1 h2).1, (hk k a x h1 h2).2 ?_⟩, Kp.refl _ _⟩
    have := (List.getElem?_eq_some_iff.1 h2).1
    omega
  | m + 1, n, i, ars, H, hm, h, hC, hl, hk, hlt => by
    have g : decide ((i : Int) < (M.ars.length : Int)) = true := by simp; omega
    have hi : i < M.ars.length := by omega
    have hxi := List.getElem?_eq_getElem hi
    have hai := List.getElem?_eq_getElem (l := ars) (i := i) (by omega)
    have hnl := h.nl f
    have gs : H.get M.b (0 + 0) = some (.slice M.s) := by rw [get_of h.m.hd]; rfl
    have gc : H.get b (0 + 0) = some (.slice s) := by rw [get_of hC.hd]; rfl
    obtain ⟨sl, hsl, g1, c0, c1, c2, c3, c4⟩ := gets5 h.m.ar.rs hxi
    have c4' : H.get sl.id (sl.off + ((i : Nat) : Int).toNat * 5 + 4) = some (.int .i64 M.ars[i].ow) := c4
    obtain ⟨sc, hsc, y1, _⟩ := gets5 hC.ar.rs hai
    obtain ⟨sc', H1, e, p1, p2, p3, p4⟩ := hC.own hai M.ars[i].ow
    rw [hsc] at e
    cases e
    have kK : Kp (fun i => K ≤ i) H H1 := p3.mono fun j _ ⟨sd, e, f⟩ => hC.ge .ar j (by rw [f]; exact idO_of e)
    obtain ⟨ars', H2, r1, r2, r3, r4, r5⟩ := loop24a f K b s m n (i + 1) _ H1 (by omega) (h.other kK fun j hj hf => by have := hlt j hj; omega) p2 (by simpa using hl) (fun k a x h1 h2 => by
      rcases set_at h1 with ⟨rfl, rfl, _⟩ | ⟨hne, h1⟩
      · rw [hxi] at h2; cases h2
        exact ⟨(hk _ _ _ hai hxi).1, fun _ => rfl⟩
      · exact ⟨(hk k a x h1 h2).1, fun _ => (hk k a x h1 h2).2 (by omega)⟩) hlt
    refine ⟨ars', H2, ?_, r2, r3, r4, kK.trans r5 (fun _ h => h) fun _ _ h => h⟩
    have hp : M.p = some (M.b, 0) := rfl
    rw [show n + (m + 1) + 1 = (n + m + 1) + 1 by omega, D24_5_s, g]
    rw [hp] at r1 ⊢
    simp only [ct, Ab.bs, gs, gc, tSlice, hsl, hsc, g1, y1, c4', tInt, p1, i64_succ i (by omega)]
    exact r1
theorem loop25a {M : Rm} {L N : Nat} {c : Co} (f : c.Fit N) (K b : Nat) (s : Option Sl) : ∀ (m n i : Nat) (ars : List Ar) (H : Heap), i + m = M.ars.length → M.Is H L c → MRg 2 E2 H b K s ars nils noRows → ars.length = M.ars.length → (∀ (k : Nat) (a x : Ar), ars[k]? = some a → M.ars[k]? = some x → LikeA a x ∧ (k < i → a.ow = x.ow)) → (∀ j, M.In j → j < K) →
    ∃ ars' H', D25_3 (n + m + 1) M.p (some (b, 0)) (M.ars.length : Int) (i : Int) H = some (.exit 0, X25_3 M.p (some (b, 0)) H') ∧ MRg 2 E2 H' b K s ars' nils noRows ∧ ars'.length = M.ars.length ∧ (∀ (k : Nat) (a x : Ar), ars'[k]? = some a → M.ars[k]? = some x → LikeA a x ∧ a.ow = x.ow) ∧ Kp (fun i => K ≤ i) H H'
  | 0, n, i, ars, H, hm, h, hC, hl, hk, hlt => by
    have g : decide ((i : Int) < (M.ars.length : Int)) = false := by simp; omega
    refine ⟨ars, H, by rw [D25_3_s, g, cf], hC, hl, fun k a x h1 h2 => ⟨(hk k a x h1 h2).1, (hk k a x h1 h2).2 ?_⟩, Kp.refl _ _⟩
    have := (List.getElem?_eq_some_iff.1 h2).1
    omega
  | m + 1, n, i, ars, H, hm, h, hC, hl, hk, hlt => by
    have g : decide ((i : Int) < (M.ars.length : Int)) = true := by simp; omega
    have hi : i < M.ars.length := by omega
    have hxi := List.getElem?_eq_getElem hi
    have hai := List.getElem?_eq_getElem (l := ars) (i := i) (by omega)
    have hnl := h.nl f
    have gs : H.get M.b (0 + 0) = some (.slice M.s) := by rw [get_of h.m.hd]; rfl
    have gc : H.get b (0 + 0) = some (.slice s) := by rw [get_of hC.hd]; rfl
    obtain ⟨sl, hsl, g1, c0, c1, c2, c3, c4⟩ := gets5 h.m.ar.rs hxi
    have c4' : H.get sl.id (sl.off + ((i : Nat) : Int).toNat * 5 + 4) = some (.int .i64 M.ars[i].ow) := c4
    obtain ⟨sc, hsc, y1, _⟩ := gets5 hC.ar.rs hai
    obtain ⟨sc', H1, e, p1, p2, p3, p4⟩ := hC.own hai M.ars[i].ow
    rw [hsc] at e
    cases e
    have kK : Kp (fun i => K ≤ i) H H1 := p3.mono fun j _ ⟨sd, e, f⟩ => hC.ge .ar j (by rw [f]; exact idO_of e)
    obtain ⟨ars', H2, r1, r2, r3, r4, r5⟩ := loop25a f K b s m n (i + 1) _ H1 (by omega) (h.other kK fun j hj hf => by have := hlt j hj; omega) p2 (by simpa using hl) (fun k a x h1 h2 => by
      rcases set_at h1 with ⟨rfl, rfl, _⟩ | ⟨hne, h1⟩
      · rw [hxi] at h2; cases h2
        exact ⟨(hk _ _ _ hai hxi).1, fun _ => rfl⟩
      · exact ⟨(hk k a x h1 h2).1, fun _ => (hk k a x h1 h2).2 (by omega)⟩) hlt
    refine ⟨ars', H2, ?_, r2, r3, r4, kK.trans r5 (fun _ h => h) fun _ _ h => h⟩
    have hp : M.p = some (M.b, 0) := rfl
    rw [show n + (m + 1) + 1 = (n + m + 1) + 1 by omega, D25_3_s, g]
    rw [hp] at r1 ⊢
    simp only [ct, Ab.bs, gs, gc, tSlice, hsl, hsc, g1, y1, c4', tInt, p1, i64_succ i (by omega)]
    exact r1
theorem loop24b {M : Mm} {L N : Nat} {c : Co} (f : c.Fit N) (hN : N ≤ 1000000) (K b : Nat) (s : Option Sl) (ars : List Ar) : ∀ (m n t : Nat) (rs : List (Option Sl)) (rows : List (List Sto)) (H : Heap), t + m = 8 → M.Is H L c → MR H b K s ars rs rows → (∀ k, k < t → rows[k]? = M.rows[k]?) → (∀ j, M.In j → j < K) →
    ∃ rs' rows' H', D24_10 (n + m + 1) M.p (some (b, 0)) (t : Int) H = some (.exit 2, X24_10 (some (b, 0)) H') ∧ MR H' b K s ars rs' rows' ∧ (∀ k, k < 8 → rows'[k]? = M.rows[k]?) ∧ Kp (fun i => K ≤ i) H H'
  | 0, n, t, rs, rows, H, hm, h, hC, hk, hlt => by
    have g : decide ((t : Int) < 8) = false := by simp; omega
    exact ⟨rs, rows, H, by rw [D24_10_s, g, cf], hC, fun k h => hk k (by omega), Kp.refl _ _⟩
  | m + 1, n, t, rs, rows, H, hm, h, hC, hk, hlt => by
    have g : decide ((t : Int) < 8) = true := by simp; omega
    have h8 : t < 8 := by omega
    have i8 : inb (t : Int) 8 = true := by simp [inb]; omega
    obtain ⟨rt, hr⟩ : ∃ rt, M.rs[t]? = some rt := ⟨_, List.getElem?_eq_getElem (by rw [h.m.rl]; exact h8)⟩
    obtain ⟨l, hl⟩ : ∃ l, M.rows[t]? = some l := ⟨_, List.getElem?_eq_getElem (by rw [h.m.rw]; exact h8)⟩
    obtain ⟨ct', hct⟩ : ∃ r, rs[t]? = some r := ⟨_, List.getElem?_eq_getElem (by rw [hC.rl]; exact h8)⟩
    have hll : l.length ≤ 1000000 := by
      obtain ⟨l', h1, h2, _⟩ := f.row h8
      rw [h.r, h1] at hl; cases hl; omega
    have hro := (h.m.ro t _ l hr hl).rs
    have hrow : H.get M.b (0 + 1 + ((t : Nat) : Int).toNat * 1) = some (.slice rt) := head_row h.m hr
    obtain ⟨r, H1, v1, v2, v3, v4⟩ := f44_x rt l H hro (by omega)
    obtain ⟨H2, p1, p2, p3⟩ := hC.setRow hct (v3.mono (D := Of ct') fun _ _ hf => absurd hf (fun h => h)) v2 (fun i hi => .inr (idO_new v4 hi))
    have kK : Kp (fun i => K ≤ i) H H2 := p3.le hC
    obtain ⟨rs', rows', H', r1, r2, r3, r4⟩ := loop24b f hN K b s ars m n (t + 1) _ _ H2 (by omega) (h.other kK fun j hj hf => by have := hlt j hj; omega) p2 (fun k hkt => by
      by_cases e : t = k
      · subst e
        rw [List.getElem?_set_self (by rw [hC.rw]; exact h8), hl]
      · rw [List.getElem?_set_ne e]; exact hk k (by omega)) hlt
    refine ⟨rs', rows', H', ?_, r2, r3, kK.trans r4 (fun _ h => h) fun _ _ h => h⟩
    have hp : M.p = some (M.b, 0) := rfl
    rw [show n + (m + 1) + 1 = (n + m + 1) + 1 by omega, D24_10_s, g]
    rw [hp] at r1 ⊢
    simp only [ct, Ab.bs, i8, hrow, tSlice, v1, p1, i64_succ t (by omega)]
    exact r1
theorem loop25b {M : Rm} {L N : Nat} {c : Co} (f : c.Fit N) (hN : N ≤ 1000000) (K b : Nat) (s : Option Sl) (ars : List Ar) : ∀ (m n t : Nat) (rs : List (Option Sl)) (rows : List (List RSto)) (H : Heap), t + m = 8 → M.Is H L c → MRg 2 E2 H b K s ars rs rows → (∀ k, k < t → rows[k]? = M.rows[k]?) → (∀ j, M.In j → j < K) →
    ∃ rs' rows' H', D25_8 (n + m + 1) M.p (some (b, 0)) (t : Int) H = some (.exit 2, X25_8 (some (b, 0)) H') ∧ MRg 2 E2 H' b K s ars rs' rows' ∧ (∀ k, k < 8 → rows'[k]? = M.rows[k]?) ∧ Kp (fun i => K ≤ i) H H'
  | 0, n, t, rs, rows, H, hm, h, hC, hk, hlt => by
    have g : decide ((t : Int) < 8) = false := by simp; omega
    exact ⟨rs, rows, H, by rw [D25_8_s, g, cf], hC, fun k h => hk k (by omega), Kp.refl _ _⟩
  | m + 1, n, t, rs, rows, H, hm, h, hC, hk, hlt => by
    have g : decide ((t : Int) < 8) = true := by simp; omega
    have h8 : t < 8 := by omega
    have i8 : inb (t : Int) 8 = true := by simp [inb]; omega
    obtain ⟨rt, hr⟩ : ∃ rt, M.rs[t]? = some rt := ⟨_, List.getElem?_eq_getElem (by rw [h.m.rl]; exact h8)⟩
    obtain ⟨l, hl⟩ : ∃ l, M.rows[t]? = some l := ⟨_, List.getElem?_eq_getElem (by rw [h.m.rw]; exact h8)⟩
    obtain ⟨ct', hct⟩ : ∃ r, rs[t]? = some r := ⟨_, List.getElem?_eq_getElem (by rw [hC.rl]; exact h8)⟩
    have hll : l.length ≤ 1000000 := by
      obtain ⟨l', h1, h2, _⟩ := f.row h8
      obtain ⟨q, q1, q2⟩ := h.row h1
      rw [hl] at q1; cases q1
      have := congrArg List.length q2
      simp at this; omega
    have hro := (h.m.ro t _ l hr hl).rs
    have hrow : H.get M.b (0 + 1 + ((t : Nat) : Int).toNat * 1) = some (.slice rt) := head_row h.m hr
    have kp : Kp No H (H ++ [.row [] false]) := Kp.push _ _ _
    have hrow' : (H ++ [Blk.row [] false]).get M.b (0 + 1 + ((t : Nat) : Int).toNat * 1) = some (.slice rt) := kp.gt hrow
    obtain ⟨r, H1, v1, v2', v3', v4'⟩ := append_OS E2_len (by decide) (by' := 32) (OS_new (n := 2) (E := E2) H) (hro.no kp) (by simp [most]; omega)
    have v2 : OS 2 E2 H1 r l := by simpa using v2'
    have v3 : Kp No H H1 := kp.trans v3' (fun _ h => h) (fun i hi hf => by
      obtain ⟨sl0, e0, e1⟩ := hf; cases e0; exact absurd e1 (by show ¬ i = H.length; omega))
    have v4 : New H.length r := fun sl' e => by
      rcases v4' sl' e with ⟨sl0, e0, e1⟩ | h
      · cases e0; rw [e1]; exact Nat.le_refl _
      · simp at h; omega
    obtain ⟨H2, p1, p2, p3⟩ := hC.setRow hct (v3.mono (D := Of ct') fun _ _ hf => absurd hf (fun h => h)) v2 (fun i hi => .inr (idO_new v4 hi))
    have kK : Kp (fun i => K ≤ i) H H2 := p3.le hC
    obtain ⟨rs', rows', H', r1, r2, r3, r4⟩ := loop25b f hN K b s ars m n (t + 1) _ _ H2 (by omega) (h.other kK fun j hj hf => by have := hlt j hj; omega) p2 (fun k hkt => by
      by_cases e : t = k
      · subst e
        rw [List.getElem?_set_self (by rw [hC.rw]; exact h8), hl]
      · rw [List.getElem?_set_ne e]; exact hk k (by omega)) hlt
    refine ⟨rs', rows', H', ?_, r2, r3, kK.trans r4 (fun _ h => h) fun _ _ h => h⟩
    have hp : M.p = some (M.b, 0) := rfl
    rw [show n + (m + 1) + 1 = (n + m + 1) + 1 by omega, D25_8_s, g]
    rw [hp] at r1 ⊢
    simp only [ct, Ab.bs, i8, hrow', tSlice, v1, p1, i64_succ t (by omega)]
    exact r1
theorem nfs_like {l m : List Ar} (hl : l.length = m.length) (h : ∀ (k : Nat) (a x : Ar), l[k]? = some a → m[k]? = some x → LikeA a x ∧ a.ow = x.ow) : nfs l = nfs m := by
  refine List.ext_getElem? fun k => ?_
  rw [nfs_at, nfs_at]
  cases h1 : l[k]? with
  | none =>
    have : m[k]? = none := List.getElem?_eq_none (by have := List.getElem?_eq_none_iff.1 h1; omega)
    rw [this]
  | some a =>
    have hlt : k < m.length := by have := (List.getElem?_eq_some_iff.1 h1).1; omega
    have h2 := List.getElem?_eq_getElem hlt
    rw [h2]
    obtain ⟨⟨e1, e2, e3, e4⟩, e5⟩ := h k a _ h1 h2
    generalize m[k] = x at *
    obtain ⟨l1, s1, d1, w1, p1, o1⟩ := a
    obtain ⟨l2, s2, d2, w2, p2, o2⟩ := x
    simp only at e1 e2 e3 e4 e5
    subst e1 e2 e3 e4 e5
    rfl
theorem rows_eq {α : Type} {l m : List α} (h1 : l.length = 8) (h2 : m.length = 8) (h : ∀ k, k < 8 → l[k]? = m[k]?) : l = m := by
  refine List.ext_getElem? fun k => ?_
  by_cases hk : k < 8
  · exact h k hk
  · rw [List.getElem?_eq_none (by omega), List.getElem?_eq_none (by omega)]
theorem MRg.src {β : Type} {en : Nat} {eE : β → List Cell} {H : Heap} {b L : Nat} {s : Option Sl} {ars : List Ar} {rs : List (Option Sl)} {rows : List (List β)} (h : MRg en eE H b L s ars rs rows) (hd : ∀ a, a ∈ ars → a.data.length ≤ 1048576) : Src H H.length ars :=
  ⟨fun z hz => by
    obtain ⟨k, hk⟩ := List.mem_iff_getElem?.1 hz
    exact (h.dt k z hk).rs, fun z hz sl e _ => by
    obtain ⟨k, hk⟩ := List.mem_iff_getElem?.1 hz
    exact OS.idlt (h.dt k z hk) (by rw [e]; rfl), hd⟩
theorem copy_x {M : Mm} {H : Heap} {L N : Nat} {c : Co} (h : M.Is H L c) (f : c.Fit N) (hN : N ≤ 1000000) : ∃ (C : Mm) (H' : Heap), f24 M.p H = some (C.p, H') ∧ C.Is H' H.length c ∧ Kp No H H' := by
  obtain ⟨s, zs, H1, e1, e2, e3, e4, e5⟩ := areas_x h f
  have hn := h.nl f
  have hsrc : Src H1 H1.length zs := ⟨fun z hz => by
    obtain ⟨k, hk⟩ := List.mem_iff_getElem?.1 hz
    exact (e2.d k z hk).rs, fun z hz sl e _ => by
    obtain ⟨k, hk⟩ := List.mem_iff_getElem?.1 hz
    exact OS.idlt (e2.d k z hk) (by rw [e]; rfl), fun z hz => by
    obtain ⟨k, hk⟩ := List.mem_iff_getElem?.1 hz
    obtain ⟨a, a1, _, a3, _⟩ := e4 k z hk
    rw [a3]; exact h.dl f a (List.mem_of_getElem? a1)⟩
  obtain ⟨s2, ars, H2, g1, g2, g3, g4, g5⟩ := f30_x s zs (by omega) H1 e2.r.rs hsrc
  have k2 := e5.tr g5
  have m2 := h.no k2
  have hlt : ∀ j, M.In j → j < H1.length := fun j hj => Nat.lt_of_lt_of_le (h.lt hj) e5.len
  obtain ⟨n, l1⟩ := LL24_5_of M.ars.length (by omega) M.p (some (H1.length, 0)) (M.ars.length : Int) 0 H2
  obtain ⟨ars', H3, r1, r2, r3, r4, r5⟩ := loop24a f H1.length H1.length s2 M.ars.length n 0 ars H2 (by omega) m2 g2 (by omega) (fun k a x h1 h2 => by
    obtain ⟨z, z1, z2, z3, z4, z5, _⟩ := g4 k a h1
    obtain ⟨y, y1, y2, y3, y4, y5⟩ := e4 k z z1
    rw [h2] at y1; cases y1
    exact ⟨⟨z2.trans y2, z3.trans y3, z4.trans y4, z5.trans y5⟩, fun h => by omega⟩) hlt
  have m3 := m2.other r5 fun j hj hf => by have := hlt j hj; omega
  obtain ⟨n', l2⟩ := LL24_10_of 8 (by omega) M.p (some (H1.length, 0)) 0 H3
  obtain ⟨rs', rows', H4, u1, u2, u3, u4⟩ := loop24b f hN H1.length H1.length s2 ars' 8 n' 0 nils noRows H3 (by omega) m3 r2 (fun k hk => by omega) hlt
  refine ⟨⟨H1.length, s2, ars', rs', rows'⟩, H4, ?_, Mm.Is.mono (L := H1.length) ⟨u2, by rw [← h.a]; exact nfs_like r3 r4, by rw [← h.r]; exact rows_eq u2.rw h.m.rw u3⟩ e5.len, (k2.trans r5 (D := No) (fun _ h => h) fun i hi hf => absurd hf (by have := e5.len; omega)).trans u4 (fun _ h => h) fun i hi hf => absurd hf (by have := e5.len; omega)⟩
  have gs : H2.get M.b (0 + 0) = some (.slice M.s) := by rw [get_of m2.m.hd]; rfl
  have hp : M.p = some (M.b, 0) := rfl
  have hm : M.p.isNone = false := rfl
  have r1 : D24_5 (n + M.ars.length + 1) M.p (some (H1.length, 0)) (M.ars.length : Int) 0 H2 = _ := r1
  have u1 : D24_10 (n' + 8 + 1) M.p (some (H1.length, 0)) 0 H3 = _ := u1
  rw [q24, hm, cf, e1, Ab.bs]
  dsimp only
  rw [g1, Ab.bs]
  rw [hp] at l1 r1 l2 u1 ⊢
  simp only [Ab.bs, gs, tSlice, m2.m.ar.rs.slenEq]
  rw [l1, r1, Ab.bs, J24_5_0, l2, u1, Ab.bs, J24_10_0]
  rfl
theorem rcopy_x {R : Rm} {H : Heap} {L N : Nat} {c : Co} (h : R.Is H L c) (f : c.Fit N) (hN : N ≤ 1000000) : ∃ (S : Rm) (H' : Heap), f25 R.p H = some (S.p, H') ∧ S.Is H' L c ∧ (∀ i, S.Inm i → H.length ≤ i) ∧ (∀ i, S.In i → (R.In i ∧ ¬ R.Inm i) ∨ H.length ≤ i) ∧ Kp No H H' := by
  have hn := h.nl f
  obtain ⟨s2, ars, H2, g1, g2, g3, g4, g5⟩ := f13_x (en := 2) (eE := E2) R.s R.ars hn H h.m.ar.rs (h.m.src (h.dl f))
  have m2 := h.no g5
  have hlt : ∀ j, R.In j → j < H.length := fun j hj => h.lt hj
  obtain ⟨n, l1⟩ := LL25_3_of R.ars.length (by omega) R.p (some (H.length, 0)) (R.ars.length : Int) 0 H2
  obtain ⟨ars', H3, r1, r2, r3, r4, r5⟩ := loop25a f H.length H.length s2 R.ars.length n 0 ars H2 (by omega) m2 g2 (by omega) (fun k a x h1 h2 => by
    obtain ⟨z, z1, z2, z3, z4, z5, _⟩ := g4 k a h1
    rw [h2] at z1; cases z1
    exact ⟨⟨z2, z3, z4, z5⟩, fun h => by omega⟩) hlt
  have m3 := m2.other r5 fun j hj hf => by have := hlt j hj; omega
  obtain ⟨n', l2⟩ := LL25_8_of 8 (by omega) R.p (some (H.length, 0)) 0 H3
  obtain ⟨rs', rows', H4, u1, u2, u3, u4⟩ := loop25b f hN H.length H.length s2 ars' 8 n' 0 nils noRows H3 (by omega) m3 r2 (fun k hk => by omega) hlt
  have hrows : rows' = R.rows := rows_eq u2.rw h.m.rw u3
  subst hrows
  have kk : Kp No H H4 := (g5.trans r5 (D := No) (fun _ h => h) fun i hi hf => absurd hf (by omega)).trans u4 (fun _ h => h) fun i hi hf => absurd hf (by omega)
  have hL : L ≤ H.length := by
    have := h.ge (.inl ⟨.hd, rfl⟩ : R.In R.b)
    have := h.lt (.inl ⟨.hd, rfl⟩ : R.In R.b)
    omega
  have hge : ∀ i, InM H.length s2 ars' rs' i → H.length ≤ i := fun i ⟨x, e⟩ => u2.ge x i e
  refine ⟨⟨H.length, s2, ars', rs', R.rows⟩, H4, ?_, ⟨⟨u2.hd, u2.ar, u2.dt, u2.ro, u2.rl, u2.rw, u2.inj, fun x i e => Nat.le_trans hL (u2.ge x i e), u2.lt⟩, fun l hl x hx => ⟨OS.no (h.y l hl x hx).1 kk, fun i hi => ⟨((h.y l hl x hx).2 i hi).1, fun hf => by
      have := hge i hf
      have := OS.idlt (h.y l hl x hx).1 hi; omega⟩⟩, by rw [← h.a]; exact nfs_like r3 r4, h.r⟩, hge, fun i hi => ?_, kk⟩
  · have gs : H.get R.b (0 + 0) = some (.slice R.s) := by rw [get_of h.m.hd]; rfl
    have gs2 : H2.get R.b (0 + 0) = some (.slice R.s) := by rw [get_of m2.m.hd]; rfl
    have hp : R.p = some (R.b, 0) := rfl
    have r1 : D25_3 (n + R.ars.length + 1) R.p (some (H.length, 0)) (R.ars.length : Int) 0 H2 = _ := r1
    have u1 : D25_8 (n' + 8 + 1) R.p (some (H.length, 0)) 0 H3 = _ := u1
    rw [q25]
    rw [hp] at l1 r1 l2 u1 ⊢
    simp only [Ab.bs, gs, tSlice, g1, gs2, m2.m.ar.rs.slenEq]
    rw [l1, r1, Ab.bs, J25_3_0, l2, u1, Ab.bs, J25_8_0]
    rfl
  · rcases hi with hi | hi
    · exact .inr (hge i hi)
    · obtain ⟨l, h1, x, h2, h3⟩ := hi
      exact .inl ⟨.inr ⟨l, h1, x, h2, h3⟩, ((h.y l h1 x h2).2 i h3).2⟩
/-! ### the document's Same -/
theorem not_eq_b (x y : Bool) : (!x == y) = !(x == y) := by cases x <;> cases y <;> rfl
theorem loop26 {R S : Rm} {H : Heap} {L K N : Nat} {c d : Co} (h : R.Is H L c) (g0 : S.Is H K d) (f : c.Fit N) (hl : R.ars.length = S.ars.length) : ∀ (m n i : Nat), i + m = R.ars.length →
    (D26_4 (n + m + 1) S.p R.s (R.ars.length : Int) (i : Int) H).bind J26_4 = some (sameFrom (R.ars.drop i) (S.ars.drop i), H)
  | 0, n, i, hm => by
    have g : decide ((i : Int) < (R.ars.length : Int)) = false := by simp; omega
    rw [D26_4_s, g, cf, Ab.bs, J26_4_1, List.drop_eq_nil_of_le (by omega)]; rfl
  | m + 1, n, i, hm => by
    have g : decide ((i : Int) < (R.ars.length : Int)) = true := by simp; omega
    have h1 : i < R.ars.length := by omega
    have h2 : i < S.ars.length := by omega
    have x1 := List.getElem?_eq_getElem h1
    have x2 := List.getElem?_eq_getElem h2
    have hn := h.nl f
    have ih := loop26 h g0 f hl m n (i + 1) (by omega)
    obtain ⟨sl, hsl, y1, c0, c1, c2, c3, c4⟩ := gets5 h.m.ar.rs x1
    obtain ⟨sm, hsm, y2, d0, d1, d2, d3, d4⟩ := gets5 g0.m.ar.rs x2
    have gs : H.get S.b (0 + 0) = some (.slice S.s) := by rw [get_of g0.m.hd]; rfl
    have s1 := (h.m.dt i _ x1).rs.str
    have s2 := (g0.m.dt i _ x2).rs.str
    have hp : S.p = some (S.b, 0) := rfl
    rw [show n + (m + 1) + 1 = (n + m + 1) + 1 by omega, D26_4_s, g]
    rw [hp] at ih ⊢
    simp only [ct, hsl, Ab.bs, y1, c0, c1, c2, c3, c4, gs, hsm, y2, d0, d1, d2, d3, d4, tInt, tSlice, tBool, not_eq_b, bne, s1, s2, strEq_iff, i64_succ i (by omega)]
    rw [List.drop_eq_getElem_cons h1, List.drop_eq_getElem_cons h2]
    unfold sameFrom sameA
    rw [hsl] at ih
    cases R.ars[i].lo == S.ars[i].lo
    · simp only [Bool.not_false, ct, Ab.bs, J26_4_0, Bool.false_and]
    cases R.ars[i].wr == S.ars[i].wr
    · simp only [Bool.not_false, Bool.not_true, ct, cf, Ab.bs, J26_4_0, Bool.false_and, Bool.true_and]
    cases R.ars[i].pr == S.ars[i].pr
    · simp only [Bool.not_false, Bool.not_true, ct, cf, Ab.bs, J26_4_0, Bool.false_and, Bool.true_and]
    cases R.ars[i].data == S.ars[i].data
    · simp only [Bool.not_false, Bool.not_true, ct, cf, Ab.bs, J26_4_0, Bool.false_and, Bool.true_and]
    simp only [Bool.not_true, cf, Bool.true_and]
    exact ih
theorem rsame_x {R S : Rm} {H : Heap} {L K N : Nat} {c d : Co} (h : R.Is H L c) (g : S.Is H K d) (f : c.Fit N) (hl : c.ars.length = d.ars.length) : f26 R.p S.p H = some (sameFrom c.ars d.ars, H) := by
  have hl' : R.ars.length = S.ars.length := by rw [h.len, g.len]; exact hl
  have hn := h.nl f
  have gs : H.get R.b (0 + 0) = some (.slice R.s) := by rw [get_of h.m.hd]; rfl
  have gs2 : H.get S.b (0 + 0) = some (.slice S.s) := by rw [get_of g.m.hd]; rfl
  obtain ⟨n, e⟩ := LL26_4_of R.ars.length (by omega) S.p R.s (R.ars.length : Int) 0 H
  have := loop26 h g f hl' R.ars.length n 0 (by omega)
  have this : (D26_4 (n + R.ars.length + 1) S.p R.s (R.ars.length : Int) 0 H).bind J26_4 = _ := this
  have hne : ((((S.ars.length : Nat) : Int)) != ((S.ars.length : Nat) : Int)) = false := by simp
  have hp : S.p = some (S.b, 0) := rfl
  rw [q26]
  unfold Rm.p at *
  simp only [Ab.bs, gs, gs2, tSlice, h.m.ar.rs.slenEq, g.m.ar.rs.slenEq]
  rw [hl', hne, cf, ← hl', e, this, List.drop_zero, List.drop_zero, ← h.a, ← g.a, same_nf]
/-! ### four memories -/
structure Quad (H : Heap) (L : Nat) (M : Mm) (R : Rm) (C : Mm) (S : Rm) (c d : Co) : Prop where
  p : Par H L M R c c
  q : Par H L C S d d
  mc : ∀ i, M.In i → ¬ C.In i
  ms : ∀ i, M.In i → ¬ S.In i
  cr : ∀ i, C.In i → ¬ R.In i
  rs : ∀ i, R.Inm i → ¬ S.In i
  sr : ∀ i, S.Inm i → ¬ R.In i
theorem Quad.swap {H : Heap} {L : Nat} {M : Mm} {R : Rm} {C : Mm} {S : Rm} {c d : Co} (h : Quad H L M R C S c d) : Quad H L C S M R d c :=
  ⟨h.q, h.p, fun i a b => h.mc i b a, h.cr, h.ms, h.sr, h.rs⟩
theorem Par.no {H H' : Heap} {L : Nat} {M : Mm} {R : Rm} {c d : Co} (h : Par H L M R c d) (k : Kp No H H') : Par H' L M R c d := ⟨h.m.no k, h.r.no k, h.dj⟩
theorem Quad.no {H H' : Heap} {L : Nat} {M : Mm} {R : Rm} {C : Mm} {S : Rm} {c d : Co} (h : Quad H L M R C S c d) (k : Kp No H H') : Quad H' L M R C S c d := ⟨h.p.no k, h.q.no k, h.mc, h.ms, h.cr, h.rs, h.sr⟩
theorem Quad.step {H H' : Heap} {L : Nat} {M M' : Mm} {R R' : Rm} {C : Mm} {S : Rm} {c c' d : Co} (h : Quad H L M R C S c d) (p : Par H' L M' R' c' c') (g : Go2 M R M' R' H H') : Quad H' L M' R' C S c' d :=
  ⟨p, ⟨h.q.m.other g.k fun i hi hf => by
    rcases hf with hf | hf
    · exact h.mc i hf hi
    · exact h.cr i hi (.inl hf), h.q.r.other g.k fun i hi hf => by
    rcases hf with hf | hf
    · exact h.ms i hf hi
    · exact h.rs i hf hi, h.q.dj⟩, fun i a b => by
    rcases g.im i a with e | e
    · exact h.mc i e b
    · have := h.q.m.lt b; omega, fun i a b => by
    rcases g.im i a with e | e
    · exact h.ms i e b
    · have := h.q.r.lt b; omega, fun i a b => by
    rcases g.ir i b with e | e
    · exact h.cr i a e
    · have := h.q.m.lt a; omega, fun i a b => by
    rcases g.irm i a with e | e
    · exact h.rs i e b
    · have := h.q.r.lt b; omega, fun i a b => by
    rcases g.ir i b with e | e
    · exact h.sr i a e
    · have := h.q.r.lt (.inl a); omega⟩
theorem step_len (o : Cal) (a : Int) (c : Co) : (stepC o a c).ars.length = c.ars.length := by
  unfold stepC
  cases o.kind == 2 || o.kind == 3
  · cases o.kind == 4
    · cases o.kind == 5
      · cases o.kind == 6
        · cases o.kind == 7
          · rfl
          · simp only [cf, ct]
            unfold ownC
            cases ownA c.ars o.t o.w
            · rfl
            · rw [ct]
              cases c.ars[o.w.toNat]? with
              | none => rfl
              | some a => simp
        · exact len_shape (flush_shape c o.t)
      · simp only [cf, ct]
        unfold drainC
        cases thrd o.t
        · rfl
        · rw [ct]
          cases c.rows[o.t.toNat]? with
          | none => rfl
          | some l => cases l with
            | nil => rfl
            | cons st l => exact len_shape (writeN_shape _ _ _ _ _)
    · simp only [cf, ct]
      unfold putC
      cases mayA c.ars o.t a o.w true
      · rfl
      · exact (len_shape (writeN_shape _ _ _ _ _)).trans (len_shape (flush_shape c o.t))
  · simp only [ct]
    unfold storeC
    cases mayA c.ars o.t a o.w true
    · rfl
    · rw [ct]
      cases c.rows[o.t.toNat]? <;> rfl
/-! ### the loop -/
def body6 (n : Nat) (t2 : Int) (t7 t8 t10 t11 : Option (Nat × Nat)) (t24 : Option Sl) (t25 t26 v26 v25 : Int) (v24 : Bool) (v23 v22 v21 v20 : Int) (H : Heap) : Option (AExit × St) :=
  (f19 t7 t8 v26 v25 v24 v23 v22 v21 v20 H).bind fun v19 => bif v19.fst then (f23 t7 t8 v19.snd).bind fun v18 => bif v18.fst then bif !t10.isNone then bif t26.tmod 2 == 0 then (f23 t10 t11 v18.snd).bind fun v13 => bif v13.fst then (f22 t7 t10 v13.snd).bind fun v12 => (f26 t8 t11 v12.snd).bind fun v11 => D6_7 n t2 t7 t8 (v12.fst == v11.fst) t10 t11 t24 t25 (IntKind.i64.wrap (t26 + 1)) v11.snd else D6_7 n t2 t7 t8 false t10 t11 t24 t25 (IntKind.i64.wrap (t26 + 1)) v13.snd else (f19 t10 t11 v26 v25 v24 v23 v22 v21 v20 v18.snd).bind fun v17 => bif v17.fst then (f23 t10 t11 v17.snd).bind fun v16 => bif v16.fst then (f22 t7 t10 v16.snd).bind fun v15 => (f26 t8 t11 v15.snd).bind fun v14 => D6_7 n t2 t7 t8 (v15.fst == v14.fst) t10 t11 t24 t25 (IntKind.i64.wrap (t26 + 1)) v14.snd else D6_7 n t2 t7 t8 false t10 t11 t24 t25 (IntKind.i64.wrap (t26 + 1)) v16.snd else D6_7 n t2 t7 t8 false t10 t11 t24 t25 (IntKind.i64.wrap (t26 + 1)) v17.snd else D6_7 n t2 t7 t8 v18.fst t10 t11 t24 t25 (IntKind.i64.wrap (t26 + 1)) v18.snd else D6_7 n t2 t7 t8 v18.fst t10 t11 t24 t25 (IntKind.i64.wrap (t26 + 1)) v18.snd else D6_7 n t2 t7 t8 false t10 t11 t24 t25 (IntKind.i64.wrap (t26 + 1)) v19.snd
def St6 (H : Heap) (L : Nat) (M : Mm) (R : Rm) (c : Co) (t10 t11 : Option (Nat × Nat)) (N : Nat) : Prop :=
  (t10 = none ∧ Par H L M R c c) ∨ ∃ (C : Mm) (S : Rm) (d : Co), t10 = C.p ∧ t11 = S.p ∧ d.Fit N ∧ d.ars.length = c.ars.length ∧ Quad H L M R C S c d
theorem Co.Fit.up {c : Co} {N K : Nat} (f : c.Fit N) (h : N ≤ K) : c.Fit K := ⟨f.n, f.d, f.w, fun l hl => ⟨by have := (f.g l hl).1; omega, (f.g l hl).2⟩⟩
theorem body6_x {H : Heap} {L : Nat} {M : Mm} {R : Rm} {c : Co} {pm pr t10 t11 : Option (Nat × Nat)} {N : Nat} (hN : N ≤ 50000) (f : c.Fit N) (hpm : M.p = pm) (hpr : R.p = pr) (h : St6 H L M R c t10 t11 N) (n : Nat) (t2 : Int) (calls : Option Sl) (t25 t26 : Int) (o : Cal) (hw : o.Wf) :
    ∃ (M' : Mm) (R' : Rm) (c' : Co) (H' : Heap), body6 n t2 pm pr t10 t11 calls t25 t26 o.kind o.t o.near o.inn o.at' o.w o.v H = D6_7 n t2 pm pr true t10 t11 calls t25 (IntKind.i64.wrap (t26 + 1)) H' ∧ M'.p = pm ∧ R'.p = pr ∧ c'.Fit (N + 1) ∧ St6 H' L M' R' c' t10 t11 (N + 1) ∧ Kp (fun i => L ≤ i) H H' := by
  have hP : Par H L M R c c := by
    rcases h with ⟨_, h⟩ | ⟨C, S, d, _, _, _, _, h⟩
    · exact h
    · exact h.p
  obtain ⟨M1, R1, H1, s1, s2, s3⟩ := step_x hP f f (by omega) o hw
  have f1 := step_fit f o (atA o c.ars)
  have hlen := step_len o (atA o c.ars) c
  rw [step_self, hpm, hpr] at s1
  generalize stepC o (atA o c.ars) c = c1 at *
  have hp1 : M1.p = pm := by rw [← hpm]; unfold Mm.p; rw [s3.bm]
  have hp2 : R1.p = pr := by rw [← hpr]; unfold Rm.p; rw [s3.br]
  obtain ⟨H2, e1, e2⟩ := same_law s2 f1
  rw [hp1, hp2] at e1
  have low : ∀ {M : Mm} {R : Rm} {H : Heap} {c d : Co}, Par H L M R c d → ∀ i, (M.In i ∨ R.Inm i) → L ≤ i := fun P i hi => by
    rcases hi with hi | hi
    · exact P.m.ge hi
    · exact P.r.ge (.inl hi)
  have k1 : Kp (fun i => L ≤ i) H H1 := s3.k.mono fun i _ hf => low hP i hf
  have k2 : Kp (fun i => L ≤ i) H1 H2 := e2.mono fun i _ hf => absurd hf (fun h => h)
  have k12 : Kp (fun i => L ≤ i) H H2 := k1.trans k2 (fun _ h => h) fun _ _ h => h
  unfold body6
  rw [s1, Ab.bs]
  simp only [ct]
  rw [e1, Ab.bs]
  simp only [ct]
  rcases h with ⟨rfl, h⟩ | ⟨C, S, d, rfl, rfl, fd, hdl, h⟩
  · exact ⟨M1, R1, c1, H2, rfl, hp1, hp2, f1, .inl ⟨rfl, s2.no e2⟩, k12⟩
  · have q1 := (h.step s2 s3).no e2
    have hnn : C.p.isNone = false := rfl
    rw [hnn]
    simp only [Bool.not_false, ct]
    cases t26.tmod 2 == 0
    · -- the copy goes on, too
      simp only [cf]
      obtain ⟨C1, S1, H3, u1, u2, u3⟩ := step_x q1.q fd fd (by omega) o hw
      have fd1 := step_fit fd o (atA o d.ars)
      have hlen2 := step_len o (atA o d.ars) d
      rw [step_self] at u1
      generalize stepC o (atA o d.ars) d = d1 at *
      have hc1 : C1.p = C.p := by unfold Mm.p; rw [u3.bm]
      have hc2 : S1.p = S.p := by unfold Rm.p; rw [u3.br]
      have q2 := (q1.swap.step u2 u3).swap
      obtain ⟨H4, w1, w2⟩ := same_law q2.q fd1
      rw [hc1, hc2] at w1
      have q3 := q2.no w2
      have x1 := same_x q3.p.m q3.q.m (by omega) f1.n
      have x2 := rsame_x q3.p.r q3.q.r f1 (by omega)
      rw [hp1, hc1] at x1
      rw [hp2, hc2] at x2
      have k3 : Kp (fun i => L ≤ i) H2 H3 := u3.k.mono fun i _ hf => low q1.q i hf
      have k4 : Kp (fun i => L ≤ i) H3 H4 := w2.mono fun i _ hf => absurd hf (fun h => h)
      refine ⟨M1, R1, c1, H4, ?_, hp1, hp2, f1, .inr ⟨C1, S1, d1, hc1.symm, hc2.symm, fd1, by omega, q3⟩, (k12.trans k3 (fun _ h => h) fun _ _ h => h).trans k4 (fun _ h => h) fun _ _ h => h⟩
      rw [u1, Ab.bs]
      simp only [ct]
      rw [w1, Ab.bs]
      simp only [ct]
      rw [x1, Ab.bs]
      dsimp only
      rw [x2, Ab.bs]
      simp only [beq_self_eq_true]
    · simp only [ct]
      obtain ⟨H4, w1, w2⟩ := same_law q1.q fd
      have q3 := q1.no w2
      have x1 := same_x q3.p.m q3.q.m (by omega) f1.n
      have x2 := rsame_x q3.p.r q3.q.r f1 (by omega)
      rw [hp1] at x1
      rw [hp2] at x2
      have k4 : Kp (fun i => L ≤ i) H2 H4 := w2.mono fun i _ hf => absurd hf (fun h => h)
      refine ⟨M1, R1, c1, H4, ?_, hp1, hp2, f1, .inr ⟨C, S, d, rfl, rfl, fd.up (by omega), by omega, q3⟩, k12.trans k4 (fun _ h => h) fun _ _ h => h⟩
      rw [w1, Ab.bs]
      simp only [ct]
      rw [x1, Ab.bs]
      dsimp only
      rw [x2, Ab.bs]
      simp only [beq_self_eq_true]
theorem quad_new {H : Heap} {L : Nat} {M : Mm} {R : Rm} {c : Co} {N : Nat} (P : Par H L M R c c) (f : c.Fit N) (hN : N ≤ 50000) : ∃ (C : Mm) (S : Rm) (H1 H2 : Heap), f24 M.p H = some (C.p, H1) ∧ f25 R.p H1 = some (S.p, H2) ∧ Quad H2 L M R C S c c ∧ Kp No H H2 := by
  obtain ⟨C, H1, c1, c2, c3⟩ := copy_x P.m f (by omega)
  have P1 := P.no c3
  obtain ⟨S, H2, s1, s2, s3, s4, s5⟩ := rcopy_x P1.r f (by omega)
  have hL : L ≤ H.length := by
    have := P.m.ge (⟨.hd, rfl⟩ : M.In M.b)
    have := P.m.lt (⟨.hd, rfl⟩ : M.In M.b)
    omega
  refine ⟨C, S, H1, H2, c1, s1, ⟨P1.no s5, ⟨(c2.no s5).mono hL, s2, fun i a b => ?_⟩, fun i a b => ?_, fun i a b => ?_, fun i a b => ?_, fun i a b => ?_, fun i a b => ?_⟩, c3.tr s5⟩
  · rcases s4 i b with ⟨e, _⟩ | e
    · have := P.r.lt e; have := c2.ge a; omega
    · have := c2.lt a; omega
  · have := P.m.lt a; have := c2.ge b; omega
  · rcases s4 i b with ⟨e, _⟩ | e
    · exact P.dj i a e
    · have := P1.m.lt a; omega
  · have := P.r.lt b; have := c2.ge a; omega
  · rcases s4 i b with ⟨_, e⟩ | e
    · exact e a
    · have := P1.r.lt (.inl a); omega
  · have := s3 i a; have := P1.r.lt b; omega
theorem loop6 (L : Nat) (calls : Option Sl) (xs : List Cal) (hx : xs.length ≤ 9223372036854775807) (hxw : ∀ x, x ∈ xs → x.Wf) (cut : Int) (pm pr : Option (Nat × Nat)) : ∀ (m n i : Nat) (M : Mm) (R : Rm) (c : Co) (t10 t11 : Option (Nat × Nat)) (H : Heap), M.p = pm → R.p = pr → i + m = xs.length → i ≤ 50 → c.Fit i → St6 H L M R c t10 t11 i → RSL 7 E7 H L calls xs →
    ∃ H', D6_7 (n + m + 1) cut pm pr true t10 t11 calls (xs.length : Int) (i : Int) H = some (.exit 0, X6_7 true H')
  | 0, n, i, M, R, c, t10, t11, H, hp1, hp2, hm, h50, f, h, hS => by
    have g : decide ((i : Int) < (xs.length : Int)) = false := by simp; omega
    exact ⟨H, by rw [D6_7_s, g, cf]⟩
  | m + 1, n, i, M, R, c, t10, t11, H, hp1, hp2, hm, h50, f, h, hS => by
    have g : decide ((i : Int) < (xs.length : Int)) = true := by simp; omega
    have hlt : i < xs.length := by omega
    obtain ⟨sl, hsl, g1, c0, c1, c2, c3, c4, c5, c6⟩ := gets7 hS.1 (List.getElem?_eq_getElem hlt)
    have ho := hxw xs[i] (List.getElem_mem hlt)
    rw [show n + (m + 1) + 1 = (n + m + 1) + 1 by omega, D6_7_s, g, ct]
    subst hsl
    simp only [Ab.bs, g1, ct, c0, c1, c2, c3, c4, c5, c6, tInt, tBool]
    by_cases h50' : (i : Int) ≥ 50
    · rw [decide_eq_true h50', ct]
      exact ⟨H, rfl⟩
    rw [decide_eq_false h50', cf, Bool.not_true, cf]
    have fin : ∀ (t10 t11 : Option (Nat × Nat)) (H1 : Heap), St6 H1 L M R c t10 t11 i → RSL 7 E7 H1 L (some sl) xs → ∃ H', body6 (n + m + 1) cut pm pr t10 t11 (some sl) (xs.length : Int) (i : Int) xs[i].kind xs[i].t xs[i].near xs[i].inn xs[i].at' xs[i].w xs[i].v H1 = some (.exit 0, X6_7 true H') := by
      intro t10 t11 H1 h1 hS1
      obtain ⟨M1, R1, c1, H2, e1, e2, e3, e4, e5, e6⟩ := body6_x (by omega) f hp1 hp2 h1 (n + m + 1) cut (some sl) (xs.length : Int) (i : Int) xs[i] ho
      obtain ⟨H', r⟩ := loop6 L (some sl) xs hx hxw cut pm pr m n (i + 1) M1 R1 c1 t10 t11 H2 e2 e3 (by omega) (by omega) e4 e5 (hS1.kp e6 fun _ h => h)
      exact ⟨H', by rw [e1, i64_succ i (by omega)]; exact r⟩
    cases hcut : (i : Int) == cut
    · rw [cf]
      obtain ⟨H', e⟩ := fin t10 t11 H h hS
      unfold body6 at e
      exact ⟨H', e⟩
    · rw [ct]
      have hP : Par H L M R c c := by
        rcases h with ⟨_, h⟩ | ⟨C, S, d, _, _, _, _, h⟩
        · exact h
        · exact h.p
      obtain ⟨C, S, H1, H2, u1, u2, u3, u4⟩ := quad_new hP f (by omega)
      rw [hp1] at u1
      rw [hp2] at u2
      rw [u1, Ab.bs]
      dsimp only
      rw [u2, Ab.bs]
      obtain ⟨H', e⟩ := fin C.p S.p H2 (.inr ⟨C, S, c, rfl, rfl, f, rfl, u3⟩) (hS.kp u4 fun _ h => absurd h (fun h => h))
      unfold body6 at e
      exact ⟨H', e⟩
theorem f6_true (l calls : Option Sl) (zs : List Ar) (xs : List Cal) (hz : zs.length ≤ 9223372036854775807) (hx : xs.length ≤ 9223372036854775807) (hxw : ∀ x, x ∈ xs → x.Wf) (cut : Int) (H : Heap) (hR : RS 5 E5 H l zs) (hX : ∀ x, x ∈ zs → RS 1 E8 H x.sl x.data) (hS : RS 7 E7 H calls xs) :
    ∃ H', f6 l calls cut H = some (true, H') := by
  rw [q6]
  obtain ⟨o, ys, H1, a1, a2, a3⟩ := f8_x l zs hz H hR hX
  rw [a1, Ab.bs]
  obtain ⟨M, H2, b1, b2, b3, b4⟩ := ours_x o ys H1 a2
  dsimp only
  rw [b1, Ab.bs]
  obtain ⟨R, H3, c1, c2, c3, c4⟩ := rnew_x o ys H2 (a2.no b4)
  dsimp only
  rw [c1, Ab.bs]
  have hb : M.b < H2.length := b3.lt ⟨.hd, rfl⟩
  have P : Par H3 M.b M R (freshC ys) (freshC ys) := ⟨b3.no c4, c3.mono (by omega), fun i h1 h2 => by
    have := b3.lt h1; have := c3.ge h2; omega⟩
  have fit := fresh_fit a2
  obtain ⟨H4, d1, d2⟩ := same_law P fit
  dsimp only
  rw [d1, Ab.bs]
  have hS4 : RSL 7 E7 H4 M.b calls xs := (RSL.of E7_len (by decide) (hS.no a3) b2).kp ((b4.tr c4).tr d2) fun _ h => absurd h (fun h => h)
  obtain ⟨n, e⟩ := LL6_7_of xs.length (by omega) cut M.p R.p true none R.p calls (slen calls) 0 H4
  obtain ⟨H', r⟩ := loop6 M.b calls xs hx hxw cut M.p R.p xs.length n 0 M R (freshC ys) none R.p H4 rfl rfl (by omega) (by omega) fit (.inl ⟨rfl, P.no d2⟩) hS4
  refine ⟨H', ?_⟩
  dsimp only
  rw [e, hS.slenEq, show (0 : Int) = ((0 : Nat) : Int) from rfl, r, Ab.bs, J6_7_0, ct]
theorem holds6 (Hp : Heap) (xs : List TV) (_hn : NoOwn Hp) (hxs : TShAll Try.prog Hp 12 Try.f6.params.toList xs) : fnA CC6 Try.f6.results.toList (bodyOf Try.f6) Bool xs Hp (fun x _ => x.cell.bind Cell.toBool) = some true := by
  have hp : Try.f6.params.toList = [22, 42, 3] := by kernel_rfl
  rw [hp] at hxs
  obtain ⟨x0, xr0, rfl, t0, hxs⟩ := hxs
  obtain ⟨x1, xr1, rfl, t1, hxs⟩ := hxs
  obtain ⟨x2, xr2, rfl, t2, hnil⟩ := hxs
  subst hnil
  obtain ⟨c0, rfl, s0⟩ := tsh_c t0 (by simp [Try.underlying22]) (by simp [Try.underlying22])
  obtain ⟨c1, rfl, s1⟩ := tsh_c t1 (by simp [Try.underlying42]) (by simp [Try.underlying42])
  obtain ⟨c2, rfl, s2⟩ := tsh_c t2 (by simp [Try.underlying3]) (by simp [Try.underlying3])
  obtain ⟨l, zs, e0, hR, hX, _, hm⟩ := sh_slice E5 (fun x => RS 1 E8 Hp x.sl x.data) E5_len s0 Try.underlying22 (k := 5) (by kernel_rfl) (fun cs h => area_of cs h)
  obtain ⟨l', ws, e1, hS, hW, _, hm'⟩ := sh_slice E7 (fun x => x.Wf) E7_len s1 Try.underlying42 (k := 7) (by kernel_rfl) (fun cs h => cal_of cs h)
  obtain ⟨y2, e2, _⟩ := sh_int s2 Try.underlying3
  cases e0; cases e1; cases e2
  obtain ⟨H', h⟩ := f6_true l l' zs ws hm hm' hW y2 Hp hR hX hS
  rw [f6_eq] at h
  exact law_of hN6 (fun v hv => by
    unfold dec6 at hv
    split at hv
    · cases hv; rfl
    · cases hv) h
end
end Go.Proofs.Ytdpmbfceadidkaa
