/- SqJ to SqL. -/
import Derived.Test.YtnipccoenalnkaaGreatSqI
namespace Go.Proofs.YtnipccoenalnkaaGreat
open Go Go.Proofs.YtnipccoenalnkaaGreat.Ab
set_option linter.unusedVariables false
set_option linter.unusedSimpArgs false
set_option maxRecDepth 100000
noncomputable section
/-! ### what does not load does not look at memory's bytes -/
theorem bcong {α : Type} {b : Bool} {y y' z z' : α} (h1 : b = true → y = y') (h2 : b = false → z = z') : (bif b then y else z) = bif b then y' else z' := by
  cases b
  · exact h2 rfl
  · exact h1 rfl
section
variable {V V' : View}
theorem wrX_eq (hm : V.my = V'.my) (x : TRun) (a w v : Int) : wrX V x a w v = wrX V' x a w v := by unfold wrX; rw [hm]
theorem setX_eq (hm : V.my = V'.my) (x : TRun) (o : TOpd) (w v : Int) : setX V x o w v = setX V' x o w v := by unfold setX; rw [wrX_eq hm]
theorem pushX_eq (hm : V.my = V'.my) (x : TRun) (v : Int) : pushX V x v = pushX V' x v := by unfold pushX; rw [wrX_eq hm]
theorem swapX_eq (hm : V.my = V'.my) (x : TRun) (a v : Int) : swapX V x a v = swapX V' x a v := by unfold swapX; rw [wrX_eq hm]
theorem exK_eq (hm : V.my = V'.my) (x y : TRun) (p a b : Int) : exK V x y p a b = exK V' x y p a b := by unfold exK; simp only [swapX_eq hm]
theorem resX_eq (hm : V.my = V'.my) (x y : TRun) (p : Int × TThunk) : resX V x y p = resX V' x y p := by unfold resX; rw [setX_eq hm]
theorem strS_eq (hm : V.my = V'.my) (y : TRun) (w v : Int) : strS V y w v = strS V' y w v := by unfold strS; rw [wrX_eq hm]
end
theorem getX_eq {V V' : View} {o : TOpd} (ho : (o.kind == 2) = false) (x : TRun) (w : Int) : getX V x o w = getX V' x o w := by unfold getX; rw [ho, cf, cf]
theorem loads_f {i : TInst} (hl : xLoads i = false) : i.op ≠ 15 ∧ i.op ≠ 39 ∧ i.op ≠ 42 ∧ (((i.A.kind == 2) = false ∧ (i.B.kind == 2) = false) ∨ i.op = 13 ∨ i.op = 45 ∨ i.op = 35 ∨ (i.op = 10 ∧ (i.A.kind == 2) = true)) := by
  unfold xLoads at hl
  simp only [Bool.or_eq_false_iff, beq_eq_false_iff_ne, ne_eq] at hl
  obtain ⟨h1, h2, h3, h4⟩ := hl
  refine ⟨h1, h2, h3, ?_⟩
  have hc : ∀ k : Int, ((2 : Int) == k) = (k == 2) := fun k => by rw [Bool.eq_iff_iff]; simp; omega
  by_cases e13 : i.op = 13
  · exact .inr (.inl e13)
  by_cases e45 : i.op = 45
  · exact .inr (.inr (.inl e45))
  by_cases e35 : i.op = 35
  · exact .inr (.inr (.inr (.inl e35)))
  have b13 : (i.op == 13) = false := by simpa using e13
  have b45 : (i.op == 45) = false := by simpa using e45
  have b35 : (i.op == 35) = false := by simpa using e35
  rw [b13, b45, b35] at h4
  unfold xMem at h4
  rw [hc, hc] at h4
  cases hA : i.A.kind == 2 with
  | true =>
    rw [hA] at h4
    simp at h4
    exact .inr (.inr (.inr (.inr ⟨h4, rfl⟩)))
  | false =>
    rw [hA, cf] at h4
    cases hB : i.B.kind == 2 with
    | true => rw [hB] at h4; simp at h4
    | false => exact .inl ⟨rfl, rfl⟩
theorem do_blind {V V' : View} (hm : V.my = V'.my) (x : TRun) (hl : xLoads x.i = false) (hmay : xmay x.i = true) : doX V x = doX V' x := by
  obtain ⟨n15, n39, n42, h⟩ := loads_f hl
  have s1 := setX_eq hm; have s2 := pushX_eq hm; have s3 := swapX_eq hm; have s4 := exK_eq hm; have s5 := resX_eq hm; have s6 := strS_eq hm
  have f15 : (x.i.op == 14) = true ∨ ¬ (x.i.op ≤ 15 ∧ ¬ x.i.op ≤ 13) := by
    by_cases e : x.i.op = 14
    · exact .inl (by rw [e]; rfl)
    · exact .inr (by omega)
  have n42' : (x.i.op == 42) = false := by simpa using n42
  by_cases hk : (x.i.A.kind == 2) = false ∧ (x.i.B.kind == 2) = false
  · have gA : ∀ z w, getX V z x.i.A w = getX V' z x.i.A w := fun z w => getX_eq hk.1 z w
    have gB : ∀ z w, getX V z x.i.B w = getX V' z x.i.B w := fun z w => getX_eq hk.2 z w
    have tg : targetX V x = targetX V' x := by unfold targetX; rw [gA]
    unfold doX
    refine bcong (fun _ => by unfold twoP; simp only [gA, gB, s5]) fun c0 => ?_
    refine bcong (fun _ => by unfold moveX; simp only [gA, gB, s1]) fun c1 => ?_
    refine bcong (fun c => ?_) fun c2 => ?_
    · rcases f15 with e | e
      · unfold stackX; rw [e, ct, ct, gA, s2]
      · exact absurd ⟨decT c, decF' c1⟩ e
    refine bcong (fun _ => by simp only [gA, s5]) fun c3 => ?_
    refine bcong (fun _ => by unfold productX quotientX; simp only [gA, gB]) fun c4 => ?_
    refine bcong (fun _ => by simp only [gA, s5]) fun c5 => ?_
    refine bcong (fun _ => by unfold exchangeX; simp only [gA, gB, s4]) fun c6 => ?_
    refine bcong (fun _ => by unfold chooseX; simp only [gB, s1]) fun c7 => ?_
    refine bcong (fun c => ?_) fun c8 => ?_
    · have := decT c; have := decF' c7
      unfold jumpX
      refine bcong (fun _ => by rw [tg]) fun d0 => bcong (fun _ => by rw [tg]) fun d1 => bcong (fun _ => by rw [tg, s2]) fun d2 => ?_
      simp at d0 d1 d2; omega
    refine bcong (fun _ => ?_) fun c9 => rfl
    unfold otherX stringsX strV
    simp only [n42', cf, s6]
  · have h' : x.i.op = 13 ∨ x.i.op = 45 ∨ x.i.op = 35 ∨ (x.i.op = 10 ∧ (x.i.A.kind == 2) = true) := h.resolve_left hk
    rcases h' with e | e | e | ⟨e, eA⟩
    · unfold doX moveX
      simp only [e, s1, show decide ((13 : Int) ≤ 9) = false from rfl, show decide ((13 : Int) ≤ 13) = true from rfl, ct, cf, show ((13 : Int) == 10) = false from rfl, show ((13 : Int) == 11) = false from rfl, show ((13 : Int) == 12) = false from rfl, show ((13 : Int) == 13) = true from rfl]
    · unfold doX
      simp only [e, show decide ((45 : Int) ≤ 9) = false from rfl, show decide ((45 : Int) ≤ 13) = false from rfl, show decide ((45 : Int) ≤ 15) = false from rfl, show decide ((45 : Int) ≤ 19) = false from rfl, show decide ((45 : Int) ≤ 25) = false from rfl, show decide ((45 : Int) ≤ 30) = false from rfl, show decide ((45 : Int) ≤ 33) = false from rfl, show decide ((45 : Int) ≤ 35) = false from rfl, show decide ((45 : Int) ≤ 39) = false from rfl, show decide ((45 : Int) ≤ 43) = false from rfl, show ((45 : Int) == 46) = false from rfl, show ((45 : Int) == 47) = false from rfl, cf]
    · unfold doX chooseX
      simp only [e, s1, show decide ((35 : Int) ≤ 9) = false from rfl, show decide ((35 : Int) ≤ 13) = false from rfl, show decide ((35 : Int) ≤ 15) = false from rfl, show decide ((35 : Int) ≤ 19) = false from rfl, show decide ((35 : Int) ≤ 25) = false from rfl, show decide ((35 : Int) ≤ 30) = false from rfl, show decide ((35 : Int) ≤ 33) = false from rfl, show decide ((35 : Int) ≤ 35) = true from rfl, show ((35 : Int) == 35) = true from rfl, ct, cf]
    · have hB : (x.i.B.kind == 2) = false := by
        unfold xmay at hmay
        simp only [Bool.and_eq_true, Bool.or_eq_true] at hmay
        have x10 : ∀ lo hi : Int, (10 < lo ∨ hi < 10) → xin x.i lo hi = false := fun lo hi a => by unfold xin; rw [e]; simp; omega
        rcases hmay.2.2 with q | q
        · unfold xtwo at q
          rw [x10 1 8 (by omega), cf, show (x.i.op == 9) = false by rw [e]; rfl, cf, show (x.i.op == 10) = true by rw [e]; rfl, ct] at q
          simp only [Bool.and_eq_true] at q
          have := q.2.2.2.1
          unfold xboth at this
          rw [eA] at this
          simpa using this
        · unfold xone TOpd.nil at q
          cases hn : x.i.B.kind == 0 with
          | true => have : x.i.B.kind = 0 := by simpa using hn
                    rw [this]; rfl
          | false => rw [hn] at q; cases q
      unfold doX moveX
      simp only [e, s1, getX_eq hB, show decide ((10 : Int) ≤ 9) = false from rfl, show decide ((10 : Int) ≤ 13) = true from rfl, ct, cf, show ((10 : Int) == 10) = true from rfl]
      rw [getX_eq (V' := V') hB]
/-! ### memories of one shape -/
structure Lk (c d : Co) : Prop where
  s : shapes c.ars = shapes d.ars
  r : c.rows = d.rows
theorem Lk.may {c d : Co} (h : Lk c d) (t x w : Int) (wr : Bool) : mayA c.ars t x w wr = mayA d.ars t x w wr := may_shape h.s t x w wr
theorem Lk.store {c d : Co} (h : Lk c d) (t x w v : Int) : Lk (storeC c t x w v).2 (storeC d t x w v).2 := by
  unfold storeC
  rw [h.may, h.r]
  cases mayA d.ars t x w true
  · exact h
  · rw [cond_true, cond_true]
    split
    · exact ⟨h.s, rfl⟩
    · exact h
theorem Lk.flush {c d : Co} (h : Lk c d) (t : Int) : Lk (flushC c t).2 (flushC d t).2 := by
  refine ⟨((flush_shape c t).trans h.s).trans (flush_shape d t).symm, ?_⟩
  unfold flushC
  rw [h.r]
  cases thrd t
  · exact h.r
  · rw [cond_true, cond_true]
    split
    · rfl
    · exact h.r
theorem Lk.put {c d : Co} (h : Lk c d) (t x w v : Int) : Lk (putC c t x w v).2 (putC d t x w v).2 := by
  unfold putC
  rw [h.may]
  cases mayA d.ars t x w true
  · exact h
  · exact ⟨((writeN_shape _ _ _ _ _).trans (h.flush t).s).trans (writeN_shape _ _ _ _ _).symm, (h.flush t).r⟩
theorem Lk.co1 {c d : Co} (h : Lk c d) (t : Int) (i : TInst) : Lk (co1 c t i) (co1 d t i) := by
  unfold Go.Proofs.YtnipccoenalnkaaGreat.co1
  cases flushes i
  · exact h
  · exact h.flush t
theorem Lk.co2 {c d : Co} (h : Lk c d) (t : Int) (i : TInst) (y : TRun) : Lk (co2 c t i y) (co2 d t i y) := by
  unfold Go.Proofs.YtnipccoenalnkaaGreat.co2
  cases y.stores
  · exact h
  · cases lkd i
    · exact h.store _ _ _ _
    · exact h.put _ _ _ _
theorem Lk.my {c d : Co} (h : Lk c d) (t : Int) : (view c t).my = (view d t).my := by
  funext a w
  exact h.may t a w true
theorem stepY_blind {c d : Co} (h : Lk c d) (x : TCpu) (i : TInst) (hl : xLoads i = false) (hm : xmay i = true) : stepY c x 0 i = stepY d x 0 i := by
  have hi : (run0 x 0 i).i = i := rfl
  have e := fun a b => do_blind ((h.co1 0 i).my 0) (run0 x 0 i) a b
  rw [hi] at e
  exact e hl hm
theorem stepF_no {i : TInst} (h : xmay i = false) (c : Co) (x : TCpu) : stepF c x 0 i = (4, x, c) := by
  unfold stepF
  rw [h, Bool.not_false, ct]
theorem stepF_yes {i : TInst} (h : xmay i = true) (c : Co) (x : TCpu) : stepF c x 0 i = bif fault (stepY c x 0 i).end0 then ((stepY c x 0 i).end0, x, co1 c 0 i) else ((stepY c x 0 i).end0, (stepY c x 0 i).cpu, co2 (co1 c 0 i) 0 i (stepY c x 0 i)) := by
  unfold stepF
  rw [h, Bool.not_true, cf]
theorem step_blind {c d : Co} (h : Lk c d) (x : TCpu) (i : TInst) (hl : xLoads i = false) : (stepF c x 0 i).1 = (stepF d x 0 i).1 ∧ (stepF c x 0 i).2.1 = (stepF d x 0 i).2.1 ∧ Lk (stepF c x 0 i).2.2 (stepF d x 0 i).2.2 := by
  cases hm : xmay i with
  | false => rw [stepF_no hm, stepF_no hm]; exact ⟨rfl, rfl, h⟩
  | true =>
    rw [stepF_yes hm, stepF_yes hm, stepY_blind h x i hl hm]
    generalize stepY d x 0 i = y
    have a := (h.co1 0 i).co2 0 i y
    have b := h.co1 0 i
    cases fault y.end0
    · rw [cf, cf]; exact ⟨rfl, rfl, a⟩
    · rw [ct, ct]; exact ⟨rfl, rfl, b⟩
/-! ### the worlds -/
def sk (z : Ar) : Int × Nat × Bool × Bool × Int := (z.lo, z.data.length, z.wr, z.pr, z.ow)
def kI (p : Int × List UInt8 × Bool × Bool × Int) : Int × Nat × Bool × Bool × Int := (p.1, p.2.1.length, p.2.2)
def capK (p : Int × Nat × Bool × Bool × Int) : Int × Nat × Bool × Bool × Int := (p.1, min 64 p.2.1, p.2.2)
theorem sk_inf (l : List Ar) : l.map sk = (l.map Ar.inf).map kI := by rw [List.map_map]; rfl
theorem cut_sk (l : List Ar) : ((l.take 8).map cutI).map kI = ((l.map sk).take 8).map capK := by
  rw [List.map_map, ← List.map_take, List.map_map]
  refine List.map_congr_left fun z _ => ?_
  simp [kI, cutI, capK, sk, List.length_take]
theorem cap_cap (l : List (Int × Nat × Bool × Bool × Int)) : (((l.take 8).map capK).take 8).map capK = (l.take 8).map capK := by
  rw [← List.map_take, List.map_map, List.take_take, show min 8 8 = 8 from rfl]
  refine List.map_congr_left fun z _ => ?_
  simp [capK]
theorem shapes_sk (l : List Ar) : shapes (nfs l) = (l.map sk).map fun p => (p.1, some ⟨0, 0, p.2.1, p.2.1, 1⟩, p.2.2.1, p.2.2.2.1, p.2.2.2.2) := by
  unfold shapes nfs
  rw [List.map_map, List.map_map]
  rfl
theorem fresh_lk {l m : List Ar} (h : l.map sk = m.map sk) : Lk (freshC l) (freshC m) := by
  refine ⟨?_, rfl⟩
  show shapes (nfs _) = shapes (nfs _)
  rw [shapes_sk, shapes_sk]
  have : ∀ l : List Ar, (l.map fun z => { z with ow := -1 }).map sk = (l.map sk).map fun p => (p.1, p.2.1, p.2.2.1, p.2.2.2.1, -1) := fun l => by rw [List.map_map, List.map_map]; rfl
  rw [this, this, h]
theorem own_lk {c d : Co} (h : Lk c d) (t k : Int) : Lk (ownC c t k).2 (ownC d t k).2 := by
  have ho : ownA c.ars t k = ownA d.ars t k := by
    unfold ownA
    have := shape_at h.s k.toNat
    have hl := len_shape h.s
    cases hc : c.ars[k.toNat]? with
    | none =>
      rw [hc] at this
      cases hd : d.ars[k.toNat]? with
      | none => simp only [hl]
      | some b => rw [hd] at this; cases this
    | some a =>
      rw [hc] at this
      cases hd : d.ars[k.toNat]? with
      | none => rw [hd] at this; cases this
      | some b =>
        rw [hd] at this
        obtain ⟨_, _, _, e4, e5⟩ := shape_iff (Option.some.inj this)
        simp only [hl, e4, e5]
  unfold ownC
  rw [ho]
  cases ownA d.ars t k
  · exact h
  · rw [cond_true, cond_true]
    have := shape_at h.s k.toNat
    cases hc : c.ars[k.toNat]? with
    | none =>
      rw [hc] at this
      cases hd : d.ars[k.toNat]? with
      | none => exact h
      | some b => rw [hd] at this; cases this
    | some a =>
      rw [hc] at this
      cases hd : d.ars[k.toNat]? with
      | none => rw [hd] at this; cases this
      | some b =>
        rw [hd] at this
        obtain ⟨e1, e2, e3, e4, e5⟩ := shape_iff (Option.some.inj this)
        refine ⟨?_, h.r⟩
        show shapes (c.ars.set k.toNat _) = shapes (d.ars.set k.toNat _)
        have hs := h.s
        unfold shapes at hs ⊢
        rw [List.map_set, List.map_set, hs]
        congr 1
        simp only [Ar.shape, e1, e2, e3, e4]
theorem ops_lk (lo : Option Int) : ∀ (xs : List Cal) (n : Nat) {c d : Co}, Lk c d → Lk (opsC lo xs n c) (opsC lo xs n d)
  | [], _, _, _, h => h
  | _ :: _, 0, _, _, h => h
  | x :: l, n + 1, _, _, h => ops_lk lo l n (h.store _ _ _ _)
theorem world_lk {l m : List Ar} (h : l.map sk = m.map sk) (xs : List Cal) (mine : Bool) : Lk (worldC l xs mine) (worldC m xs mine) := by
  have hlo : l.head?.map Ar.lo = m.head?.map Ar.lo := by
    cases l with
    | nil => cases m with | nil => rfl | cons => cases h
    | cons a l => cases m with
      | nil => cases h
      | cons b m =>
        simp only [List.map_cons, List.cons.injEq] at h
        simp only [List.head?_cons, Option.map_some]
        exact congrArg some (congrArg Prod.fst h.1)
  unfold worldC
  rw [hlo]
  refine ops_lk _ _ _ ?_
  cases mine
  · exact fresh_lk h
  · exact own_lk (fresh_lk h) 0 1
/-! ### other bytes -/
theorem E8v (x : UInt8) : E8 x = [Cell.int .u8 (x.toNat : Int)] := rfl
theorem blind11 (b3 : TStart) (b7 : TInst) (b8 : TStart) (ot d : Option Sl) (obs : List UInt8) (t9 t39 t40 : Int) : ∀ (m n j : Nat) (data : List UInt8) (H : Heap), j + m = data.length → data.length ≤ 64 → OS 1 E8 H d data → RS 1 E8 H ot obs → (∀ so, ot = some so → obs ≠ [] → ¬ Of d so.id) →
    ∃ data' H', D6_11 (n + m + 1) (S6_11 ot t9 d t39 t40 (data.length : Int) (j : Int) b3 b7 b8 H) = some (.exit 2, X6_11 ot t9 d t39 t40 b3 b7 b8 H') ∧ data'.length = data.length ∧ OS 1 E8 H' d data' ∧ Kp (Of d) H H'
  | 0, n, j, data, H, h, h64, hd, ho, hne => ⟨data, H, by rw [D6_11_s, dF (by omega), cf], rfl, hd, Kp.refl _ _⟩
  | m + 1, n, j, data, H, h, h64, hd, ho, hne => by
    have hj : j < data.length := by omega
    rw [show n + (m + 1) + 1 = (n + m + 1) + 1 by omega, D6_11_s, dT (show (j : Int) < (data.length : Int) by omega), ct, ho.slenEq, i64_succ j (by omega)]
    by_cases hjo : j < obs.length
    · obtain ⟨so, rfl, g1, g2⟩ := ho.idx1 (List.getElem?_eq_getElem hjo) E8v
      rw [Int.toNat_natCast] at g2
      cases d with
      | none => cases hd; cases hj
      | some sd =>
        obtain ⟨H1, p1, p2, p3, _⟩ := hd.put E8_len (i := j) (j := 0) (y := obs[j]) (vs := [Cell.int .u8 (obs[j].toNat : Int)]) (List.getElem?_eq_getElem hj) (by simp) rfl
        have hs : inb (j : Int) sd.len = true := by simp [inb]; have := hd.1; omega
        have k1 : Kp (Of (some sd)) H H1 := p3.mono fun i _ e => ⟨sd, rfl, e⟩
        have hob : obs ≠ [] := fun e => by rw [e] at hjo; cases hjo
        obtain ⟨data', H', r1, r2, r3, r4⟩ := blind11 b3 b7 b8 (some so) (some sd) obs t9 t39 t40 m n (j + 1) (data.set j obs[j]) H1 (by simp; omega) (by simp; omega) p2 (ho.kp k1 fun s e h0 => by cases e; exact hne so rfl hob) hne
        rw [List.length_set] at r1 r2
        refine ⟨data', H', ?_, r2, r3, k1.trans r4 (fun _ h => h) fun _ _ h => h⟩
        simp only [dT (show (j : Int) < (obs.length : Int) by omega), ct, Ab.bs, g1, g2, tInt, hs, hd.2.1, beq_self_eq_true, Bool.and_self, Int.toNat_natCast]
        rw [show sd.off + j * 1 = sd.off + j * 1 + 0 from rfl, p1, Ab.bs]
        exact r1
    · obtain ⟨data', H', r1, r2, r3, r4⟩ := blind11 b3 b7 b8 ot d obs t9 t39 t40 m n (j + 1) data H (by omega) h64 hd ho hne
      exact ⟨data', H', by rw [dF (show ¬ (j : Int) < (obs.length : Int) by omega), cf]; exact r1, r2, r3, r4⟩
/-- The areas of the other world, as they are being made. -/
structure Wd (H : Heap) (B : Nat) (r : Option Sl) (zs : List Ar) : Prop where
  o : OS 5 E5 H r zs
  b : ∀ sl, r = some sl → B ≤ sl.id
  d : ∀ z ∈ zs, RS 1 E8 H z.sl z.data ∧ (∀ sl, z.sl = some sl → z.data ≠ [] → ¬ Of r sl.id) ∧ z.data.length ≤ 64
theorem blind7 (b3 : TStart) (b7 : TInst) (b8 : TStart) (B : Nat) (ot : Option Sl) (obs : List UInt8) (hot : ∀ so, ot = some so → obs ≠ [] → so.id < B) : ∀ (m n k : Nat) (zs : List Ar) (H : Heap), k + m = zs.length → zs.length ≤ 8 → B ≤ H.length → Wd H B b8.L zs → RS 1 E8 H ot obs →
    ∃ zs' H', D6_7 (n + m + 1) (S6_7 ot (zs.length : Int) (k : Int) b3 b7 b8 H) = some (.exit 0, X6_7 b3 b7 b8 H') ∧ zs'.map sk = zs.map sk ∧ Wd H' B b8.L zs' ∧ Kp (fun i => B ≤ i) H H'
  | 0, n, k, zs, H, h, h8, hB, w, ho => ⟨zs, H, by rw [D6_7_s, dF (by omega), cf], rfl, w, Kp.refl _ _⟩
  | m + 1, n, k, zs, H, h, h8, hB, w, ho => by
    have hk : k < zs.length := by omega
    rw [show n + (m + 1) + 1 = (n + m + 1) + 1 by omega, D6_7_s, dT (show (k : Int) < (zs.length : Int) by omega), ct]
    obtain ⟨hz, hnz, h64⟩ := w.d zs[k] (List.getElem_mem hk)
    have k0 : Kp No H (H ++ [Blk.row [] false]) := Kp.push1 _ _
    obtain ⟨sr, er, g1, g2⟩ := (w.o.rs.no k0).idx E5_len (List.getElem?_eq_getElem hk)
    have hwo := w.o
    rw [er] at hwo
    have hsr := hwo.lt
    have hbr := w.b sr er
    have gs : (H ++ [Blk.row [] false] : Heap).get sr.id (sr.off + (k : Int).toNat * 5 + 1) = some (.slice zs[k].sl) := g2 1 _ rfl
    have e0 : OS 1 E8 (H ++ [Blk.row [] false]) (some (Sl.mk (List.length H) 0 0 0 1)) ([] : List UInt8) := ⟨rfl, rfl, Nat.le_refl _, [], push_get _ _, Nat.le_refl _, fun i c e => by simp at e⟩
    obtain ⟨d, H1, a1, a2, a3, a4⟩ := append_OS E8_len (by decide) (by' := 1) e0 (hz.no k0) (by simp [most]; omega)
    rw [List.nil_append] at a2
    have hdid : ∀ sd, d = some sd → H.length ≤ sd.id := fun sd e => by
      rcases a4 sd e with ⟨s0, e1, e2⟩ | e1
      · cases e1; rw [e2]; exact Nat.le_refl _
      · simp at e1; omega
    have k1 : Kp (fun i => H.length ≤ i) H H1 := (k0.mono fun _ _ h => h.elim).trans (a3.mono (D := fun i => H.length ≤ i) fun i _ hf => by obtain ⟨s, e, f⟩ := hf; cases e; rw [f]; exact Nat.le_refl _) (fun _ h => h) fun _ _ h => h
    have ho1 : RS 1 E8 H1 ot obs := ho.kp k1 fun so e h0 => by have := hot so e h0; omega
    obtain ⟨n', hn'⟩ := LL6_11_of zs[k].data.length (by omega) (S6_11 ot (k : Int) d (zs.length : Int) (k : Int) (slen d) 0 b3 b7 b8 H1)
    obtain ⟨data', H2, b1, b2, bO, b4⟩ := blind11 b3 b7 b8 ot d obs (k : Int) (zs.length : Int) (k : Int) zs[k].data.length n' 0 zs[k].data H1 (by omega) h64 a2 ho1 fun so e h0 hf => by
      obtain ⟨sd, e1, e2⟩ := hf
      have := hot so e h0
      have := hdid sd e1
      omega
    have k2 : Kp (fun i => H.length ≤ i) H H2 := k1.trans (b4.mono (D := fun i => H.length ≤ i) fun i _ hf => by obtain ⟨s, e, f⟩ := hf; rw [f]; exact hdid s e) (fun _ h => h) fun _ _ h => h
    have w2 : OS 5 E5 H2 (some sr) zs := hwo.kp k2 fun s e => by cases e; omega
    obtain ⟨H3, p1, p2, p3, p4⟩ := w2.put E5_len (i := k) (j := 1) (y := { zs[k] with sl := d, data := data' }) (vs := [Cell.slice d]) (List.getElem?_eq_getElem hk) (by simp) rfl
    have kall : Kp (fun i => i = sr.id ∨ H.length ≤ i) H H3 := k2.trans p3 (fun _ h => .inr h) fun i _ e => .inl e
    have kB : Kp (fun i => B ≤ i) H H3 := kall.mono fun i _ e => by rcases e with e | e <;> omega
    have hskz : (zs.set k { zs[k] with sl := d, data := data' }).map sk = zs.map sk := by
      rw [List.map_set]
      refine List.ext_getElem? fun i => ?_
      by_cases e : k = i
      · subst e
        rw [List.getElem?_set_self (by simpa using hk), List.getElem?_map, List.getElem?_eq_getElem hk]
        simp [sk, b2]
      · rw [List.getElem?_set_ne e]
    have w3 : Wd H3 B b8.L (zs.set k { zs[k] with sl := d, data := data' }) := by
      refine ⟨by rw [er]; exact p2, w.b, fun z hzm => ?_⟩
      rcases List.mem_or_eq_of_mem_set hzm with hzm | rfl
      · obtain ⟨q1, q2, q3⟩ := w.d z hzm
        refine ⟨q1.kp kall fun s e h0 => ?_, q2, q3⟩
        rintro (f | f)
        · exact q2 s e h0 ⟨sr, er, f⟩
        · have := q1; rw [e] at this; have := RS.lt E8_len (by decide) this h0; omega
      · refine ⟨bO.rs.kp p3 fun s e h0 f => ?_, fun s e h0 => ?_, by rw [b2]; exact h64⟩
        · have := hdid s e; have f : s.id = sr.id := f; omega
        · rintro ⟨s2, e2, f⟩
          rw [er] at e2; cases e2
          have := hdid s e; omega
    obtain ⟨zs', H', r1, r2, r3, r4⟩ := blind7 b3 b7 b8 B ot obs hot m n (k + 1) (zs.set k { zs[k] with sl := d, data := data' }) H3 (by simp; omega) (by simpa using h8) (Nat.le_trans hB kB.len) w3 (ho.kp kB fun so e h0 => by have := hot so e h0; omega)
    rw [List.length_set] at r1
    refine ⟨zs', H', ?_, r2.trans hskz, r3, kB.trans r4 (fun _ h => h) fun _ _ h => h⟩
    rw [er]
    have gi : (inb (k : Int) sr.len && sr.esz == 5) = true := g1
    simp only [Ab.bs, gi, ct, gs, tSlice, a1]
    rw [hn', a2.rs.slenEq, show (0 : Int) = ((0 : Nat) : Int) from rfl, b1, Ab.bs, J6_11_0, er, Ab.bs, gi, ct, Int.toNat_natCast, p1, Ab.bs, i64_succ k (by omega)]
    exact r1
theorem f6_x (s : TStart) (zs : List Ar) (hz : zs.length ≤ 9223372036854775807) (xs : List Cal) (hx : xs.length ≤ 9223372036854775807) (hxw : ∀ x, x ∈ xs → x.Wf) (ot : Option Sl) (obs : List UInt8) (H : Heap) (hR : RS 5 E5 H s.L zs) (hX : ∀ x, x ∈ zs → RS 1 E8 H x.sl x.data) (hS : RS 7 E7 H s.ops xs) (hO : RS 1 E8 H ot obs) (i : TInst) (hi : i.Wf) :
    ∃ H', f6 s i ot H = some (true, H') := by
  obtain ⟨H0, em, k0⟩ := f18_x i hi H
  rw [← may_eq i hi] at em
  rw [q6]
  simp only [f14_x, Ab.bs, em]
  cases hm : xmay i with
  | false => exact ⟨_, rfl⟩
  | true =>
  cases hl : xLoads i with
  | true => exact ⟨_, rfl⟩
  | false =>
    simp only [Bool.not_true, cf]
    have kp := Kp.push1 H0 (Blk.row [] false)
    have k01 := k0.tr kp
    have idl : ∀ sl, s.L = some sl → zs ≠ [] → sl.id < H.length := fun sl e h0 => by have := hR; rw [e] at this; exact RS.lt E5_len (by decide) this h0
    have idx : ∀ x, x ∈ zs → ∀ sl, x.sl = some sl → x.data ≠ [] → sl.id < H.length := fun x hx sl e h0 => by have := hX x hx; rw [e] at this; exact RS.lt E8_len (by decide) this h0
    have ido : ∀ so, ot = some so → obs ≠ [] → so.id < H.length := fun sl e h0 => by have := hO; rw [e] at this; exact RS.lt E8_len (by decide) this h0
    have ids : ∀ so, s.ops = some so → xs ≠ [] → so.id < H.length := fun sl e h0 => by have := hS; rw [e] at this; exact RS.lt E7_len (by decide) this h0
    obtain ⟨o, ys, H1, c1, c2, c3, c4, c5, c6⟩ := f22_z (H0.length + 1) s.L zs hz (H0 ++ [Blk.row [] false]) (by simp) (fun sl e h0 => Nat.lt_succ_of_lt (Nat.lt_of_lt_of_le (idl sl e h0) k0.len)) (hR.no k01) fun x hx => ⟨(hX x hx).no k01, fun sl e h0 => Nat.lt_succ_of_lt (Nat.lt_of_lt_of_le (idx x hx sl e h0) k0.len)⟩
    have hB1 : H0.length + 1 ≤ H1.length := Nat.le_trans (by simp) c3.len
    have row1 : H1[H0.length]? = some (.row [] false) := c3.at (push_get _ _) (by omega)
    have hy : ∀ y, y ∈ ys → ∀ sl, y.sl = some sl → y.data ≠ [] → sl.id < H0.length := fun y hy sl e h0 => by
      have h1 := c6 y hy sl e h0
      have h2 := (c2.d y hy).1
      rw [e] at h2
      by_cases he : sl.id = H0.length
      · obtain ⟨b, bs, hb⟩ := List.exists_cons_of_ne_nil h0
        have := h2.2.2.2 0 (Cell.int .u8 (b.toNat : Int)) (by rw [hb]; rfl)
        rw [he, get_of row1] at this
        simp at this
      · omega
    rw [c1, Ab.bs]
    have e0 : OS 5 E5 H1 (some (Sl.mk H0.length 0 0 0 5)) ([] : List Ar) := ⟨rfl, rfl, Nat.le_refl _, [], row1, Nat.le_refl _, fun i c e => by simp at e⟩
    obtain ⟨r, H2, a1, a2, a3, a4⟩ := append_OS E5_len (by decide) (by' := 48) e0 c2.r (by have := c2.n; simp [most]; omega)
    rw [List.nil_append] at a2
    have hrB : ∀ sl, r = some sl → H0.length ≤ sl.id := fun sl e => by
      rcases a4 sl e with ⟨s0, e1, e2⟩ | e1
      · cases e1; rw [e2]; exact Nat.le_refl _
      · omega
    have k12 : Kp (fun j => H0.length ≤ j) H1 H2 := a3.mono fun j _ hf => by obtain ⟨s0, e, f⟩ := hf; cases e; rw [f]; exact Nat.le_refl _
    have k02 : Kp (fun j => H0.length ≤ j) H H2 := (k01.trans c3 (D := fun j => H0.length ≤ j) (fun _ h => h.elim) fun j _ h => by omega).trans k12 (fun _ h => h) fun _ _ h => h
    have lt0 := k0.len
    have W2 : Wd H2 H0.length r ys := ⟨a2, hrB, fun y hym => ⟨(c2.d y hym).1.kp k12 fun sl e h0 => by have := hy y hym sl e h0; omega, fun sl e h0 hf => by
      obtain ⟨s0, e1, e2⟩ := hf
      have := hrB s0 e1; have := hy y hym sl e h0; omega, (c2.d y hym).2⟩⟩
    obtain ⟨n', hn'⟩ := LL6_7_of ys.length (by have := c2.n; omega) (S6_7 ot (slen r) 0 s i (TStart.mk s.C r s.ops s.mine) H2)
    have hB2 : H0.length ≤ H2.length := by have := k12.len; omega
    obtain ⟨zs', H3, b1, b2, W3, k23⟩ := blind7 s i (TStart.mk s.C r s.ops s.mine) H0.length ot obs (fun so e h0 => by have := ido so e h0; omega) ys.length n' 0 ys H2 (by omega) c2.n hB2 W2 (hO.kp k02 fun so e h0 => by have := ido so e h0; omega)
    have k03 : Kp (fun j => H0.length ≤ j) H H3 := k02.trans k23 (fun _ h => h) fun _ _ h => h
    simp only [a1, Ab.bs, hn']
    rw [a2.rs.slenEq, show (0 : Int) = ((0 : Nat) : Int) from rfl, b1, Ab.bs, J6_7_0]
    -- the two worlds
    have hz' : zs'.length ≤ 8 := by have := congrArg List.length b2; simp at this; have := c2.n; omega
    have hS3 : RS 7 E7 H3 s.ops xs := hS.kp k03 fun so e h0 => by have := ids so e h0; omega
    obtain ⟨M, q, c, N, L, H4, e8, m, f, hN, k34, hge, ys1, hy1, hc⟩ := f8_y s zs hz xs hx hxw H3 (hR.kp k03 fun sl e h0 => by have := idl sl e h0; omega) (fun x hxm => (hX x hxm).kp k03 fun sl e h0 => by have := idx x hxm sl e h0; omega) hS3
    obtain ⟨M2, q2, c', N2, L2, H5, e8', m2, f2, hN2, k45, hge2, ys2, hy2, hc'⟩ := f8_y (TStart.mk s.C r s.ops s.mine) zs' (by omega) xs hx hxw H4 (W3.o.rs.no k34) (fun z hzm => (W3.d z hzm).1.no k34) (hS3.no k34)
    have lk : Lk c c' := by
      rw [hc, hc']
      refine world_lk ?_ xs s.mine
      rw [sk_inf ys1, hy1, cut_sk, sk_inf ys2, hy2, cut_sk, b2, sk_inf ys, c4, cut_sk, cap_cap]
    rw [e8, Ab.bs]
    simp only [e8', Ab.bs, q9]
    -- the two steps
    have m5 := m.no k45
    have p5 := Kp.push1 H5 (Blk.row s.C.row false)
    have p6 := Kp.push1 (H5 ++ [Blk.row s.C.row false]) (Blk.row s.C.row false)
    have hl5 : (H5 ++ [Blk.row s.C.row false]).length = H5.length + 1 := by simp
    have hl6 : ((H5 ++ [Blk.row s.C.row false]) ++ [Blk.row s.C.row false]).length = H5.length + 2 := by simp
    have C1 := (ca_new m5 f s.C).no p6
    have hMlt : ∀ j, M.In j → j < H4.length := fun j hj => m.lt hj
    have hM2 : ∀ j, M2.In j → H4.length ≤ j ∧ j < H5.length := fun j hj => ⟨hge2 j hj, m2.lt hj⟩
    have k45l := k45.len
    obtain ⟨M', H8, e1, C1', m8⟩ := f12_x C1 (by omega) 0 i
    have m2' : M2.Is H8 L2 c' := ((m2.no p5).no p6).other m8.k fun j hj e => by
      have := hM2 j hj
      rcases e with e | e
      · omega
      · have := hMlt j e; omega
    have cpu2 : H8[H5.length + 1]? = some (.row s.C.row false) := by
      have : ((H5 ++ [Blk.row s.C.row false]) ++ [Blk.row s.C.row false])[H5.length + 1]? = some (.row s.C.row false) := by rw [← hl5]; exact push_get _ _
      exact m8.k.at this fun e => by rcases e with e | e
                                     · omega
                                     · have := hMlt _ e; omega
    obtain ⟨M2', H9, e2, C2', m9⟩ := f12_x (⟨cpu2, m2', f2, fun g => by have := hM2 _ g; omega⟩ : CA H8 L2 N2 (H5.length + 1) s.C M2 c') (by omega) 0 i
    rw [hl5]
    simp only [e1, e2, Ab.bs]
    obtain ⟨r1, r2, r3⟩ := step_blind lk s.C i hl
    rw [r1, beq_self_eq_true, ct]
    have hM' : ∀ j, M'.In j → M.In j ∨ H5.length + 2 ≤ j := fun j hj => by
      rcases m8.ids j hj with e | e
      · exact .inl e
      · exact .inr (by omega)
    have C1'' : CA H9 L (N + 1) H5.length (stepF c s.C 0 i).2.1 M' (stepF c s.C 0 i).2.2 := ⟨m9.k.at C1'.cpu fun e => by
        rcases e with e | e
        · omega
        · have := hM2 _ e; omega, C1'.m.other m9.k fun j hj e => by
        rcases hM' j hj with g | g
        · have := hMlt j g
          rcases e with e | e
          · omega
          · have := hM2 j e; omega
        · rcases e with e | e
          · omega
          · have := hM2 j e; omega, C1'.fit, C1'.out⟩
    have pl1 := f10_x C1''.cpu
    have pl2 := f10_x C2'.cpu
    obtain ⟨l1, hl1, ep1⟩ := pend0 C1''.m C1''.fit
    obtain ⟨l2, hl2, ep2⟩ := pend0 C2'.m C2'.fit
    rw [show M'.p = M.p by unfold Mm.p; rw [m8.b]] at ep1
    rw [show M2'.p = M2.p by unfold Mm.p; rw [m9.b]] at ep2
    rw [r3.r, hl2] at hl1
    cases hl1
    simp only [pl1, pl2, ep1, ep2, Ab.bs, r2, eqA16, beq_self_eq_true, Bool.and_self, ct]
    exact ⟨_, rfl⟩
theorem holds6 (Hp : Heap) (xs : List TV) (_hn : NoOwn Hp) (hxs : TShAll Tryz.prog Hp 12 Tryz.f6.params.toList xs) : fnA CC6 Tryz.f6.results.toList (bodyOf Tryz.f6) Bool xs Hp (fun x _ => x.cell.bind Cell.toBool) = some true := by
  have hp : Tryz.f6.params.toList = [31, 56, 65] := by kernel_rfl
  rw [hp] at hxs
  obtain ⟨x0, xr0, rfl, t0, hxs⟩ := hxs
  obtain ⟨x1, xr1, rfl, t1, hxs⟩ := hxs
  obtain ⟨x2, xr2, rfl, t2, hnil⟩ := hxs
  subst hnil
  obtain ⟨cs, rfl, s0⟩ := tsh_agg t0 Tryz.underlying31
  obtain ⟨ds, rfl, s1⟩ := tsh_agg t1 Tryz.underlying56
  obtain ⟨c2, rfl, s2⟩ := tsh_c t2 (fun fs e => by rw [Tryz.underlying65] at e; cases e) (fun m e g => by rw [Tryz.underlying65] at g; cases g)
  obtain ⟨s, zs, ws, rfl, hR, hX, hm, hS, hW, hm'⟩ := start_of cs s0
  obtain ⟨i, rfl, hi⟩ := inst_of s1
  obtain ⟨ot, obs, e2, hO, _⟩ := sh_slice E8 (fun _ => True) E8_len s2 Tryz.underlying65 (k := 1) (by kernel_rfl) (fun cs h => u8_of Tryz.underlying5 cs h)
  cases e2
  obtain ⟨H', h⟩ := f6_x s zs hm ws hm' hW ot obs Hp hR hX hS hO i hi
  exact law_ofN h6 (mkC_nat _ _ _ _) h
end
end Go.Proofs.YtnipccoenalnkaaGreat
