/- Layer 9: stores come into memory in their order. -/
import Derived.Test.YtdpmbfceadidkaaMeS
namespace Go.Proofs.Ytdpmbfceadidkaa
open Go Go.Proofs.Ytdpmbfceadidkaa.Ab
set_option linter.unusedVariables false
set_option linter.unusedSimpArgs false
set_option maxRecDepth 100000
noncomputable section
/-! ### a law's memory -/
def freshC (ys : List Ar) : Co := ⟨nfs (ys.map fun z => { z with ow := -1 }), noRows⟩
theorem fresh_nf {ys ars : List Ar} (hl : ars.length = ys.length) (h : Freshes ys ars) : nfs ars = (freshC ys).ars := by
  refine List.ext_getElem? fun j => ?_
  show (nfs ars)[j]? = (nfs (ys.map fun z => { z with ow := -1 }))[j]?
  rw [nfs_at, nfs_at, List.getElem?_map]
  cases hj : ars[j]? with
  | none =>
    have : ys[j]? = none := List.getElem?_eq_none (by have := List.getElem?_eq_none_iff.1 hj; omega)
    rw [this]; rfl
  | some a =>
    obtain ⟨z, e1, e2, e3, e4, e5, e6⟩ := h j a hj
    rw [e1]
    obtain ⟨l1, s1, d1, w1, p1, o1⟩ := a
    obtain ⟨l2, s2, d2, w2, p2, o2⟩ := z
    simp only at e2 e3 e4 e5 e6
    subst e2 e3 e4 e5 e6
    rfl
theorem fresh_fit {H : Heap} {o : Option Sl} {ys : List Ar} (h : Cutd H o ys) : (freshC ys).Fit 0 :=
  ⟨by have := h.n; simp [freshC, nfs]; omega, fun a ha => by
    simp only [freshC, nfs, List.map_map, List.mem_map] at ha
    obtain ⟨z, hz, rfl⟩ := ha
    have := (h.d z hz).2
    show z.data.length ≤ 1048576
    omega, rfl, fun l hl => by
    have : l = [] := List.eq_of_mem_replicate hl
    rw [this]; exact ⟨Nat.le_refl _, fun st h => by simp at h⟩⟩
theorem Mm.Is.mono {M : Mm} {H : Heap} {L K : Nat} {c : Co} (h : M.Is H L c) (hk : K ≤ L) : M.Is H K c :=
  ⟨⟨h.m.hd, h.m.ar, h.m.dt, h.m.ro, h.m.rl, h.m.rw, h.m.inj, fun x i e => Nat.le_trans hk (h.m.ge x i e), h.m.lt⟩, h.a, h.r⟩
theorem ours_x (o : Option Sl) (ys : List Ar) (H : Heap) (h : Cutd H o ys) : ∃ (M : Mm) (H' : Heap), f9 o H = some (M.p, H') ∧ H.length ≤ M.b ∧ M.Is H' M.b (freshC ys) ∧ Kp No H H' := by
  obtain ⟨b, s, ars, H', e1, e2, e3, e4, e5, e6⟩ := f9_x o ys H h
  exact ⟨⟨b, s, ars, nils, noRows⟩, H', e1, e2, ⟨e3, fresh_nf e4 e5, rfl⟩, e6⟩
/-! ### what lies below -/
def RSL {α : Type} (n : Nat) (E : α → List Cell) (H : Heap) (L : Nat) (s : Option Sl) (l : List α) : Prop := RS n E H s l ∧ ∀ sl, s = some sl → l ≠ [] → sl.id < L
theorem RSL.kp {α : Type} {n : Nat} {E : α → List Cell} {F : Nat → Prop} {H H' : Heap} {L : Nat} {s : Option Sl} {l : List α} (h : RSL n E H L s l) (k : Kp F H H') (hF : ∀ i, F i → L ≤ i) : RSL n E H' L s l :=
  ⟨h.1.kp k fun sl e h0 hf => Nat.not_le_of_lt (h.2 sl e h0) (hF _ hf), h.2⟩
theorem RSL.of {α : Type} {n : Nat} {E : α → List Cell} (hE : ∀ x, (E x).length = n) (hn : 0 < n) {H : Heap} {L : Nat} {s : Option Sl} {l : List α} (h : RS n E H s l) (hL : H.length ≤ L) : RSL n E H L s l :=
  ⟨h, fun sl e h0 => by rw [e] at h; exact Nat.lt_of_lt_of_le (RS.lt hE hn h h0) hL⟩
theorem Two.other {F : Nat → Prop} {H H' : Heap} {L : Nat} {M N : Mm} {c d : Co} (h : Two H L M N c d) (k : Kp F H H') (h1 : ∀ i, M.In i → ¬ F i) (h2 : ∀ i, N.In i → ¬ F i) : Two H' L M N c d := ⟨h.m.other k h1, h.n.other k h2, h.d⟩
theorem gets7 {H : Heap} {s : Option Sl} {l : List Cal} (h : RS 7 E7 H s l) {i : Nat} {a : Cal} (hi : l[i]? = some a) :
    ∃ sl, s = some sl ∧ (inb (i : Int) sl.len && sl.esz == 7) = true ∧ H.get sl.id (sl.off + ((i : Nat) : Int).toNat * 7) = some (.int .i64 a.kind) ∧ H.get sl.id (sl.off + ((i : Nat) : Int).toNat * 7 + 1) = some (.int .i64 a.t) ∧
      H.get sl.id (sl.off + ((i : Nat) : Int).toNat * 7 + 1 + 1) = some (.bool a.near) ∧ H.get sl.id (sl.off + ((i : Nat) : Int).toNat * 7 + 1 + 1 + 1) = some (.int .i64 a.inn) ∧ H.get sl.id (sl.off + ((i : Nat) : Int).toNat * 7 + 1 + 1 + 1 + 1) = some (.int .u64 a.at') ∧
      H.get sl.id (sl.off + ((i : Nat) : Int).toNat * 7 + 1 + 1 + 1 + 1 + 1) = some (.int .i64 a.w) ∧ H.get sl.id (sl.off + ((i : Nat) : Int).toNat * 7 + 1 + 1 + 1 + 1 + 1 + 1) = some (.int .u64 a.v) := by
  obtain ⟨sl, e, h1, h2⟩ := h.idx E7_len hi
  exact ⟨sl, e, h1, by simpa using h2 0 _ rfl, by simpa using h2 1 _ rfl, by simpa using h2 2 _ rfl, by simpa using h2 3 _ rfl, by simpa using h2 4 _ rfl, by simpa using h2 5 _ rfl, by simpa using h2 6 _ rfl⟩
def Cal.put (o : Cal) (a : Int) : Cal := { o with at' := a }
theorem row7 (H : Heap) (a : Cal) : RS 7 E7 (H ++ [Blk.row (E7 a) false]) (some { id := H.length, off := 0, len := 1, cap := 1, esz := 7 }) [a] :=
  ⟨rfl, rfl, Nat.le_refl _, fun j c e => by rw [Nat.zero_add, get_of (push_get _ _)]; simpa using e⟩
/-! ### the stores -/
def stoOf (o : Cal) : Sto := ⟨o.at', o.w, zxv o.v o.w⟩
def one (l : List Sto) : List (List Sto) := noRows.set 0 l
theorem one_set (l m : List Sto) : (one l).set 0 m = one m := List.set_set ..
theorem one_fit {a : List Ar} (f : Co.Fit ⟨a, noRows⟩ 0) {ds : List Cal} (hn : ds.length ≤ 30) (h : ∀ x, x ∈ ds → mayA a 0 x.at' x.w true = true) : Co.Fit ⟨a, one (ds.map stoOf)⟩ 30 :=
  fit_set f (by omega) rfl f.d 0 _ (by simpa using hn) fun st hst => by
    obtain ⟨x, hx, rfl⟩ := List.mem_map.1 hst
    exact (may_good (h x hx)).1
theorem store_one {a : List Ar} (l : List Sto) (x w v : Int) : storeC ⟨a, one l⟩ 0 x w v = bif mayA a 0 x w true then (true, ⟨a, one (l ++ [⟨x, w, zxv v w⟩])⟩) else (false, ⟨a, one l⟩) := by
  unfold storeC
  have : (one l)[(0 : Int).toNat]? = some l := rfl
  rw [this]
  dsimp only
  rw [show (0 : Int).toNat = 0 from rfl, one_set]
theorem loop5a (L : Nat) (o stores : Option Sl) (ys : List Ar) (hy : ys.length ≤ 1000) (xs : List Cal) (hx : xs.length ≤ 9223372036854775807) (a : List Ar) (f : Co.Fit ⟨a, noRows⟩ 0) (N : Mm) (p : Option (Nat × Nat)) : ∀ (m n i : Nat) (d : Option Sl) (ds : List Cal) (M : Mm) (H : Heap), M.p = p → i + m = xs.length → i ≤ 30 → ds.length ≤ i →
    Two H L M N ⟨a, one (ds.map stoOf)⟩ ⟨a, noRows⟩ → OS 7 E7 H d ds → New L d → (∀ i, idO d = some i → ¬ M.In i ∧ ¬ N.In i) → L ≤ H.length → RSL 5 E5 H L o ys → RSL 7 E7 H L stores xs → (∀ x, x ∈ ds → mayA a 0 x.at' x.w true = true) →
    ∃ M' d' ds' H', D5_5 (n + m + 1) o p N.p d stores (xs.length : Int) (i : Int) H = some (.exit 0, X5_5 p N.p d' H') ∧ M'.p = p ∧ ds'.length ≤ 30 ∧ Two H' L M' N ⟨a, one (ds'.map stoOf)⟩ ⟨a, noRows⟩ ∧ OS 7 E7 H' d' ds' ∧ (∀ i, idO d' = some i → ¬ M'.In i ∧ ¬ N.In i) ∧ (∀ x, x ∈ ds' → mayA a 0 x.at' x.w true = true)
  | 0, n, i, d, ds, M, H, hp, hm, h30, hd, h2, hO, hN, hdj, hL, hR, hS, hM => by
    have g : decide ((i : Int) < (xs.length : Int)) = false := by simp; omega
    exact ⟨M, d, ds, H, by rw [D5_5_s, g, cf], hp, by omega, h2, hO, hdj, hM⟩
  | m + 1, n, i, d, ds, M, H, hp, hm, h30, hd, h2, hO, hN, hdj, hL, hR, hS, hM => by
    have g : decide ((i : Int) < (xs.length : Int)) = true := by simp; omega
    have hlt : i < xs.length := by omega
    obtain ⟨sl, hsl, g1, c0, c1, c2, c3, c4, c5, c6⟩ := gets7 hS.1 (List.getElem?_eq_getElem hlt)
    rw [show n + (m + 1) + 1 = (n + m + 1) + 1 by omega, D5_5_s, g, ct]
    subst hsl
    simp only [Ab.bs, g1, ct, c0, c1, c2, c3, c4, c5, c6, tInt, tBool]
    by_cases h30' : (i : Int) ≥ 30
    · rw [decide_eq_true h30', ct]
      exact ⟨M, d, ds, H, rfl, hp, by omega, h2, hO, hdj, hM⟩
    rw [decide_eq_false h30', cf, f18_x xs[i] o ys H hR.1 hy, Ab.bs]
    dsimp only
    obtain ⟨M1, H1, s1, s2, s3⟩ := store_x h2.m (one_fit f (by omega) hM) (by omega) 0 (atA xs[i] ys) xs[i].w xs[i].v
    rw [hp] at s1
    rw [s1, Ab.bs]
    have hp1 : M1.p = p := by rw [← hp]; unfold Mm.p; rw [s3.b]
    have kl : ∀ i, M.In i → L ≤ i := fun i hi => h2.m.ge hi
    have hO1 : OS 7 E7 H1 d ds := OS.other hO s3.k fun i hi => (hdj i hi).1
    have dlt : ∀ i, idO d = some i → i < H.length := fun i hi => by
      cases d with
      | none => cases hi
      | some sd => cases hi; exact OS.lt hO
    have hdj1 : ∀ i, idO d = some i → ¬ M1.In i ∧ ¬ N.In i := fun i hi => ⟨fun hf => by
      rcases s3.ids i hf with e | e
      · exact (hdj i hi).1 e
      · have := dlt i hi; omega, (hdj i hi).2⟩
    rw [store_one] at s2 ⊢
    have t2 := h2.step s2 s3
    have hR1 := hR.kp s3.k kl
    have hS1 := hS.kp s3.k kl
    have hL1 := Nat.le_trans hL s3.k.len
    rw [i64_succ i (by omega)]
    cases hmy : mayA a 0 (atA xs[i] ys) xs[i].w true
    · rw [hmy] at t2
      exact loop5a L o (some sl) ys hy xs hx a f N p m n (i + 1) d ds M1 H1 hp1 (by omega) (by omega) (by omega) t2 hO1 hN hdj1 hL1 hR1 hS1 hM
    · rw [hmy] at t2
      simp only [ct]
      have k2 := Kp.push1 H1 (Blk.row (E7 (xs[i].put (atA xs[i] ys))) false)
      obtain ⟨d', H2, a1, a2, a3, a4⟩ := append_OS E7_len (by decide) (by' := 56) (hO1.no k2) (row7 H1 (xs[i].put (atA xs[i] ys))) (by simp [most]; omega)
      have k12 : Kp (Of d) H1 H2 := (k2.mono (D := Of d) fun i _ hf => absurd hf (fun h => h)).trans a3 (fun _ h => h) fun _ _ h => h
      have od : ∀ i, Of d i → idO d = some i := fun i ⟨sd, e, e'⟩ => by rw [e, e']; rfl
      have t3 := t2.other k12 (fun i hi hf => (hdj1 i (od i hf)).1 hi) (fun i hi hf => (hdj1 i (od i hf)).2 hi)
      have ofL : ∀ i, Of d i → L ≤ i := fun i ⟨sd, e, e'⟩ => by rw [e']; exact hN sd e
      have nid : ∀ i, idO d' = some i → idO d = some i ∨ H1.length + 1 ≤ i := fun i hi => by
        cases d' with
        | none => cases hi
        | some sd =>
          cases hi
          rcases a4 sd rfl with ⟨s0, e0, e1⟩ | e
          · exact .inl (by rw [e0]; show some s0.id = some sd.id; rw [e1])
          · exact .inr (by simpa using e)
      obtain ⟨M', d2, ds2, H', r1, r⟩ := loop5a L o (some sl) ys hy xs hx a f N p m n (i + 1) d' (ds ++ [(xs[i].put (atA xs[i] ys))]) M1 H2 hp1 (by omega) (by omega) (by simp; omega)
        (by
          have t3 : Two H2 L M1 N ⟨a, one (ds.map stoOf ++ [stoOf (xs[i].put (atA xs[i] ys))])⟩ ⟨a, noRows⟩ := t3
          rw [List.map_append]; exact t3) a2 (fun sd e => by
          rcases nid sd.id (by rw [e]; rfl) with e' | e'
          · cases d with
            | none => cases e'
            | some s0 => have e' : s0.id = sd.id := Option.some.inj e'; have := hN s0 rfl; omega
          · omega) (fun i hi => by
          rcases nid i hi with e' | e'
          · exact hdj1 i e'
          · exact ⟨fun hf => by have := t2.m.lt hf; omega, fun hf => by have := t2.n.lt hf; omega⟩) (Nat.le_trans hL1 k12.len) (hR1.kp k12 ofL) (hS1.kp k12 ofL) (fun x hx => by
          rcases List.mem_append.1 hx with hx | hx
          · exact hM x hx
          · simp at hx; rw [hx]; exact hmy)
      refine ⟨M', d2, ds2, H', ?_, r⟩
      have a1 : (H1 ++ [Blk.row [Cell.int .i64 xs[i].kind, Cell.int .i64 xs[i].t, Cell.bool xs[i].near, Cell.int .i64 xs[i].inn, Cell.int .u64 (atA xs[i] ys), Cell.int .i64 xs[i].w, Cell.int .u64 xs[i].v] false]).append 7 56 d (some { id := List.length H1, off := 0, len := 1, cap := 1, esz := 7 }) = some (d', H2) := a1
      rw [a1, Ab.bs]
      exact r1
/-! ### a number that is cut is written as itself -/
theorem sh8 : ∀ i, i < 8 → min (IntKind.u64.wrap (8 * ((i : Nat) : Int))).toNat IntKind.u64.bits = 8 * i := by decide
theorem byte_cut (v : Int) (k m : Nat) (h : k + 8 ≤ m) : v % 2 ^ m / 2 ^ k % 256 = v / 2 ^ k % 256 := by
  obtain ⟨d, rfl⟩ : ∃ d, m = k + 8 + d := ⟨m - (k + 8), by omega⟩
  have hk : (0 : Int) < 2 ^ k := Int.pow_pos (by decide)
  have e : (2 : Int) ^ (k + 8 + d) = 2 ^ k * (256 * 2 ^ d) := by rw [Int.pow_add, Int.pow_add, Int.mul_assoc]; rfl
  rw [e, Int.emod_def v, Int.mul_assoc, Int.sub_eq_add_neg, ← Int.mul_neg, Int.add_mul_ediv_left _ _ (Int.ne_of_gt hk), ← Int.mul_neg, ← Int.mul_assoc, Int.mul_assoc 256]
  generalize 2 ^ d * -(v / (2 ^ k * (256 * 2 ^ d))) = q
  omega
theorem byte_zx (v w : Int) (hw : isW8 w = true) (i : Nat) (hi : i < w.toNat) : byteOf (zxv v w) i = byteOf v i := by
  rw [mask_eq v w hw]
  unfold byteOf ishr
  have h8 : i < 8 := by rcases isW8_w hw with e | e | e | e <;> omega
  rw [sh8 i h8]
  have hp : (0 : Int) ≤ 2 ^ (8 * i) := Int.le_of_lt (Int.pow_pos (by decide))
  rw [Int.fdiv_eq_ediv_of_nonneg _ hp, Int.fdiv_eq_ediv_of_nonneg _ hp]
  have := byte_cut v (8 * i) (8 * w.toNat) (by omega)
  simp only [IntKind.wrap, IntKind.bits, IntKind.signed]
  simpa using this
theorem write_zx (x v w : Int) (hw : isW8 w = true) : ∀ (n i : Nat) (l : List Ar), i + n ≤ w.toNat → writeN l x (zxv v w) i n = writeN l x v i n
  | 0, _, _, _ => rfl
  | n + 1, i, l, h => by
    unfold writeN
    rw [byte_zx v w hw i (by omega), write_zx x v w hw n (i + 1) _ (by omega)]
/-! ### the second loop -/
theorem drain_one {a : List Ar} (st : Sto) (l : List Sto) : drainC ⟨a, one (st :: l)⟩ 0 = (true, ⟨drained a st, one l⟩) := by
  unfold drainC
  have : (one (st :: l))[(0 : Int).toNat]? = some (st :: l) := rfl
  rw [this]
  show (true, (⟨drained a st, (one (st :: l)).set 0 l⟩ : Co)) = _
  rw [one_set]
theorem put_none {a : List Ar} (x w v : Int) (h : mayA a 0 x w true = true) : putC ⟨a, noRows⟩ 0 x w v = (true, ⟨writeN a x v 0 w.toNat, noRows⟩) := by
  unfold putC
  rw [h]; rfl
theorem loop5b (L : Nat) (ds : List Cal) (hds : ds.length ≤ 30) (d : Option Sl) (p q : Option (Nat × Nat)) : ∀ (l : List Cal) (n i : Nat) (a : List Ar) (M N : Mm) (H : Heap), M.p = p → N.p = q → ds.drop i = l → i + l.length = ds.length →
    Two H L M N ⟨a, one (l.map stoOf)⟩ ⟨a, noRows⟩ → Co.Fit ⟨a, noRows⟩ 0 → OS 7 E7 H d ds → (∀ i, idO d = some i → ¬ M.In i ∧ ¬ N.In i) → (∀ x, x ∈ l → mayA a 0 x.at' x.w true = true) →
    ∃ H', (D5_15 (n + l.length + 1) p q d (ds.length : Int) (i : Int) H).bind J5_15 = some (true, H')
  | [], n, i, a, M, N, H, hp, hq, hdr, hm, h2, f, hO, hdj, hM => by
    have g : decide ((i : Int) < (ds.length : Int)) = false := by simp at hm ⊢; omega
    have hpd := pend_x h2.m 0 (by decide) (l := []) rfl
    rw [hp] at hpd
    refine ⟨H, ?_⟩
    rw [D5_15_s, g, cf, Ab.bs, J5_15_1, show (0 : Int) = ((0 : Nat) : Int) from rfl, hpd]
    rfl
  | x :: l, n, i, a, M, N, H, hp, hq, hdr, hm, h2, f, hO, hdj, hM => by
    have g : decide ((i : Int) < (ds.length : Int)) = true := by simp at hm ⊢; omega
    have hlt : i < ds.length := by simp at hm; omega
    have hxi : ds[i]? = some x := by
      have := List.getElem?_drop (xs := ds) (i := i) (j := 0)
      rw [hdr] at this
      simpa using this.symm
    have hmx := hM x (by simp)
    obtain ⟨gd, _⟩ := may_good (v := x.v) hmx
    obtain ⟨sl, rfl, g1, c0, c1, c2, c3, c4, c5, c6⟩ := gets7 hO.rs hxi
    have fd := one_fit f (ds := x :: l) (by simp at hm ⊢; omega) hM
    obtain ⟨M1, H1, s1, s2, s3⟩ := drain_x h2.m fd (by omega) 0
    have hdo := drain_one (a := a) (stoOf x) (l.map stoOf)
    rw [show List.map stoOf (x :: l) = stoOf x :: l.map stoOf from rfl, hdo] at s1 s2
    have hda : drained a (stoOf x) = writeN a x.at' x.v 0 x.w.toNat := write_zx x.at' x.v x.w gd.w _ _ _ (by show 0 + x.w.toNat ≤ x.w.toNat; omega)
    rw [hda] at s2
    have t2 := h2.step s2 s3
    obtain ⟨N1, H2, u1, u2, u3⟩ := put_x t2.n f (by omega) 0 x.at' x.w x.v
    have hfp := put_fit f 0 x.at' x.w x.v
    rw [put_none x.at' x.w x.v hmx] at u1 u2 hfp
    have t3 := (t2.swap.step u2 u3).swap
    have hsh : shapes (writeN a x.at' x.v 0 x.w.toNat) = shapes a := writeN_shape _ _ _ _ _
    have hsm := same_x t3.m t3.n rfl (by show (writeN a x.at' x.v 0 x.w.toNat).length ≤ 1000; rw [len_shape hsh]; exact f.n)
    rw [same_self] at hsm
    rw [hp] at s1
    rw [hq] at u1
    have hp1 : M1.p = p := by rw [← hp]; unfold Mm.p; rw [s3.b]
    have hq1 : N1.p = q := by rw [← hq]; unfold Mm.p; rw [u3.b]
    rw [hp1, hq1] at hsm
    have dlt : sl.id < H.length := OS.lt hO
    have hO1 : OS 7 E7 H1 (some sl) ds := OS.other hO s3.k fun i hi => (hdj i hi).1
    have hO2 : OS 7 E7 H2 (some sl) ds := OS.other hO1 u3.k fun i hi => (hdj i hi).2
    obtain ⟨H', r⟩ := loop5b L ds hds (some sl) p q l n (i + 1) _ M1 N1 H2 hp1 hq1 (by
      have := congrArg (List.drop 1) hdr
      rw [List.drop_drop] at this
      simpa [Nat.add_comm] using this) (by simp at hm; omega) t3 hfp hO2 (fun i hi => by
        have hi' : sl.id = i := Option.some.inj hi
        refine ⟨fun hf => ?_, fun hf => ?_⟩
        · rcases s3.ids i hf with e | e
          · exact (hdj i hi).1 e
          · omega
        · rcases u3.ids i hf with e | e
          · exact (hdj i hi).2 e
          · have := s3.k.len; omega) (fun y hy => by
        rw [may_shape hsh]; exact hM y (by simp [hy]))
    refine ⟨H', ?_⟩
    rw [show n + (x :: l).length + 1 = (n + l.length + 1) + 1 by simp; omega, D5_15_s, g]
    simp only [ct, Ab.bs, g1, c0, c1, c2, c3, c4, c5, c6, tInt, tBool, s1, u1, hsm, Bool.not_true, cf, i64_succ i (by omega)]
    exact r
theorem f5_true (l stores : Option Sl) (zs : List Ar) (xs : List Cal) (hz : zs.length ≤ 9223372036854775807) (hx : xs.length ≤ 9223372036854775807) (H : Heap) (hR : RS 5 E5 H l zs) (hX : ∀ x, x ∈ zs → RS 1 E8 H x.sl x.data) (hS : RS 7 E7 H stores xs) :
    ∃ H', f5 l stores H = some (true, H') := by
  rw [q5]
  obtain ⟨o, ys, H1, a1, a2, a3⟩ := f8_x l zs hz H hR hX
  rw [a1, Ab.bs]
  obtain ⟨M, H2, b1, b2, b3, b4⟩ := ours_x o ys H1 a2
  dsimp only
  rw [b1, Ab.bs]
  obtain ⟨N, H3, c1, c2, c3, c4⟩ := ours_x o ys H2 (a2.no b4)
  dsimp only
  rw [c1, Ab.bs]
  have hbl : M.b < H2.length := b3.lt ⟨.hd, rfl⟩
  have two : Two H3 M.b M N (freshC ys) (freshC ys) := ⟨b3.no c4, c3.mono (by omega), fun i h1 h2 => by
    have := b3.lt h1; have := c3.ge h2; omega⟩
  have fit := fresh_fit a2
  have hR3 : RSL 5 E5 H3 M.b o ys := (RSL.of E5_len (by decide) a2.r b2).kp ((b4.tr c4).mono (D := No) fun _ _ h => h) (fun _ h => absurd h (fun h => h))
  have hS3 : RSL 7 E7 H3 M.b stores xs := (RSL.of E7_len (by decide) (hS.no a3) b2).kp ((b4.tr c4).mono (D := No) fun _ _ h => h) (fun _ h => absurd h (fun h => h))
  obtain ⟨n, e⟩ := LL5_5_of xs.length (by omega) o M.p N.p none stores (slen stores) 0 H3
  have e0 : freshC ys = ⟨(freshC ys).ars, one (([] : List Cal).map stoOf)⟩ := rfl
  obtain ⟨M', d, ds, H4, r1, r2, r3, r4, r5, r6, r7⟩ := loop5a M.b o stores ys (by have := a2.n; omega) xs hx (freshC ys).ars fit N M.p xs.length n 0 none [] M H3 rfl (by omega) (by omega) (by simp) two rfl (fun _ e => nomatch e) (fun _ e => nomatch e) (by have := c4.len; omega) hR3 hS3 (fun x hx => by simp at hx)
  rw [e, hS.slenEq, show (0 : Int) = ((0 : Nat) : Int) from rfl, r1, Ab.bs, J5_5_0]
  have hsm := same_x r4.m r4.n rfl fit.n
  rw [same_self, r2] at hsm
  have hpd := pend_x r4.m 0 (by decide) (l := ds.map stoOf) rfl
  rw [r2] at hpd
  rw [hsm, Ab.bs]
  simp only [Bool.not_true, cf]
  rw [show (0 : Int) = ((0 : Nat) : Int) from rfl, hpd, Ab.bs]
  have e1 : ((((ds.map stoOf).length : Nat) : Int) != slen d) = false := by rw [r5.rs.slenEq]; simp
  simp only [e1, cf]
  obtain ⟨n', e'⟩ := LL5_15_of ds.length (by omega) M.p N.p d (slen d) 0 H4
  rw [show ((0 : Nat) : Int) = 0 from rfl, e', r5.rs.slenEq]
  exact loop5b M.b ds r3 d M.p N.p ds n' 0 (freshC ys).ars M' N H4 r2 rfl rfl (by omega) r4 fit r5 r6 r7
theorem holds5 (Hp : Heap) (xs : List TV) (_hn : NoOwn Hp) (hxs : TShAll Try.prog Hp 12 Try.f5.params.toList xs) : fnA CC5 Try.f5.results.toList (bodyOf Try.f5) Bool xs Hp (fun x _ => x.cell.bind Cell.toBool) = some true := by
  have hp : Try.f5.params.toList = [22, 42] := by kernel_rfl
  rw [hp] at hxs
  obtain ⟨x0, xr0, rfl, t0, hxs⟩ := hxs
  obtain ⟨x1, xr1, rfl, t1, hnil⟩ := hxs
  subst hnil
  obtain ⟨c0, rfl, s0⟩ := tsh_c t0 (by simp [Try.underlying22]) (by simp [Try.underlying22])
  obtain ⟨c1, rfl, s1⟩ := tsh_c t1 (by simp [Try.underlying42]) (by simp [Try.underlying42])
  obtain ⟨l, zs, e0, hR, hX, _, hm⟩ := sh_slice E5 (fun x => RS 1 E8 Hp x.sl x.data) E5_len s0 Try.underlying22 (k := 5) (by kernel_rfl) (fun cs h => area_of cs h)
  obtain ⟨l', ws, e1, hS, hW, _, hm'⟩ := sh_slice E7 (fun x => x.Wf) E7_len s1 Try.underlying42 (k := 7) (by kernel_rfl) (fun cs h => cal_of cs h)
  cases e0; cases e1
  obtain ⟨H', h⟩ := f5_true l l' zs ws hm hm' Hp hR hX hS
  rw [f5_eq] at h
  exact law_of hN5 (fun v hv => by
    unfold dec5 at hv
    split at hv
    · cases hv; rfl
    · cases hv) h
end
end Go.Proofs.Ytdpmbfceadidkaa
