/- Layer 9: a thread reads what it stored, whatever others do. -/
import Derived.Test.YtdpmbfceadidkaaMeX
namespace Go.Proofs.Ytdpmbfceadidkaa
open Go Go.Proofs.Ytdpmbfceadidkaa.Ab
set_option linter.unusedVariables false
set_option linter.unusedSimpArgs false
set_option maxRecDepth 100000
noncomputable section
structure CutL (H : Heap) (L : Nat) (o : Option Sl) (ys : List Ar) : Prop where
  n : ys.length ≤ 8
  r : RSL 5 E5 H L o ys
  d : ∀ y, y ∈ ys → RSL 1 E8 H L y.sl y.data ∧ y.data.length ≤ 64
theorem CutL.kp {F : Nat → Prop} {H H' : Heap} {L : Nat} {o : Option Sl} {ys : List Ar} (h : CutL H L o ys) (k : Kp F H H') (hF : ∀ i, F i → L ≤ i) : CutL H' L o ys := ⟨h.n, h.r.kp k hF, fun y hy => ⟨(h.d y hy).1.kp k hF, (h.d y hy).2⟩⟩
theorem CutL.no {H H' : Heap} {L : Nat} {o : Option Sl} {ys : List Ar} (h : CutL H L o ys) (k : Kp No H H') : CutL H' L o ys := h.kp k fun _ h => absurd h (fun h => h)
theorem CutL.cut {H : Heap} {L : Nat} {o : Option Sl} {ys : List Ar} (h : CutL H L o ys) : Cutd H o ys := ⟨h.n, h.r.1, fun y hy => ⟨(h.d y hy).1.1, (h.d y hy).2⟩⟩
theorem Cutd.low {H : Heap} {L : Nat} {o : Option Sl} {ys : List Ar} (h : Cutd H o ys) (hL : H.length ≤ L) : CutL H L o ys :=
  ⟨h.n, RSL.of E5_len (by decide) h.r hL, fun y hy => ⟨RSL.of E8_len (by decide) (h.d y hy).1 hL, (h.d y hy).2⟩⟩
theorem Rm.Is.mono {M : Rm} {H : Heap} {L K : Nat} {c : Co} (h : M.Is H L c) (hk : K ≤ L) : M.Is H K c :=
  ⟨⟨h.m.hd, h.m.ar, h.m.dt, h.m.ro, h.m.rl, h.m.rw, h.m.inj, fun x i e => Nat.le_trans hk (h.m.ge x i e), h.m.lt⟩, fun l hl x hx => ⟨(h.y l hl x hx).1, fun i hi => ⟨Nat.le_trans hk ((h.y l hl x hx).2 i hi).1, ((h.y l hl x hx).2 i hi).2⟩⟩, h.a, h.r⟩
theorem rnew_x (o : Option Sl) (ys : List Ar) (H : Heap) (h : Cutd H o ys) : ∃ (R : Rm) (H' : Heap), f13 o H = some (R.p, H') ∧ R.b = H.length ∧ R.Is H' H.length (freshC ys) ∧ Kp No H H' := by
  obtain ⟨s, ars, H', e1, e2, e3, e4, e5⟩ := f13_x (en := 2) (eE := E2) o ys (by have := h.n; omega) H h.r h.src
  exact ⟨⟨H.length, s, ars, nils, noRows⟩, H', e1, rfl, ⟨e2, fun l hl x hx => by
    have : l = [] := List.eq_of_mem_replicate hl
    rw [this] at hx; simp at hx, fresh_nf e3 e4, rfl⟩, e5⟩
/-! ### what others do -/
theorem there_own {l : List Ar} {k : Nat} {a : Ar} (hk : l[k]? = some a) (hp : a.pr = true) (ho : a.ow = -1) (u t x : Int) (ht : 0 ≤ t) (w : Bool) (h : thereA l t x w = true) : thereA (l.set k { a with ow := u }) t x w = true := by
  have hf : findA (l.set k { a with ow := u }) x = findA l x := by
    refine (find_same x l _ 0 (by simp) fun j b d h1 h2 => ?_).symm
    rcases set_at h2 with ⟨rfl, rfl, _⟩ | ⟨_, h2⟩
    · rw [hk] at h1; cases h1; rfl
    · rw [h1] at h2; cases h2; rfl
  have h0 := h
  unfold thereA at h ⊢
  rw [hf]
  by_cases e : k = (findA l x).toNat
  · rw [← e, hk] at h
    simp only [hp, ho] at h
    have : ((-1 : Int) == t) = false := by simp; omega
    rw [this] at h
    simp at h
  · rw [List.getElem?_set_ne e]; exact h
theorem all_own {l : List Ar} {k : Nat} {a : Ar} (hk : l[k]? = some a) (hp : a.pr = true) (ho : a.ow = -1) (u t x : Int) (ht : 0 ≤ t) (w : Bool) : ∀ n i, allThere l t x w i n = true → allThere (l.set k { a with ow := u }) t x w i n = true
  | 0, _, _ => rfl
  | n + 1, i, h => by
    unfold allThere at h ⊢
    simp only [Bool.and_eq_true] at h ⊢
    exact ⟨there_own hk hp ho u t _ ht w h.1, all_own hk hp ho u t x ht w n (i + 1) h.2⟩
theorem there_rd {l : List Ar} {t x : Int} (h : thereA l t x true = true) : thereA l t x false = true := by
  unfold thereA at h ⊢
  cases hl : l[(findA l x).toNat]? with
  | none => rw [hl] at h; exact h
  | some a =>
    rw [hl] at h
    dsimp only at h ⊢
    simp only [Bool.and_eq_true] at h ⊢
    exact ⟨h.1, h.2.1, by simp⟩
theorem all_rd {l : List Ar} {t x : Int} : ∀ n i, allThere l t x true i n = true → allThere l t x false i n = true
  | 0, _, _ => rfl
  | n + 1, i, h => by
    unfold allThere at h ⊢
    simp only [Bool.and_eq_true] at h ⊢
    exact ⟨there_rd h.1, all_rd n (i + 1) h.2⟩
theorem may_rd {l : List Ar} {t x w : Int} (h : mayA l t x w true = true) : mayA l t x w false = true := by
  unfold mayA at h ⊢
  simp only [Bool.and_eq_true] at h ⊢
  exact ⟨h.1, h.2.1, h.2.2.1, all_rd _ _ h.2.2.2⟩
theorem may_own {c : Co} (u k t x w : Int) (ht : thrd t = true) (h : mayA c.ars t x w false = true) : mayA (ownC c u k).2.ars t x w false = true := by
  unfold ownC
  cases ho : ownA c.ars u k
  · exact h
  · rw [ct]
    unfold ownA at ho
    cases hk : c.ars[k.toNat]? with
    | none => exact h
    | some a =>
      rw [hk] at ho
      simp only [Bool.and_eq_true, beq_iff_eq] at ho
      obtain ⟨_, t, rfl, h8⟩ := inb8 ht
      dsimp only
      unfold mayA at h ⊢
      simp only [Bool.and_eq_true] at h ⊢
      exact ⟨h.1, h.2.1, h.2.2.1, all_own hk ho.2.2.1 ho.2.2.2 u _ x (by omega) false _ _ h.2.2.2⟩
theorem row_ne {rows : List (List Sto)} {u : Int} {t : Nat} (hu : thrd u = true) (hne : u ≠ (t : Int)) (l : List Sto) : (rows.set u.toNat l)[t]? = rows[t]? := by
  obtain ⟨_, u, rfl, _⟩ := inb8 hu
  exact List.getElem?_set_ne fun e => hne (by rw [← e]; rfl)
/-- Another thread's step. -/
theorem step_other {c : Co} {N : Nat} (f : c.Fit N) (o : Cal) (a : Int) (t : Nat) (h8 : t < 8) (hne : o.t ≠ (t : Int)) : (stepC o a c).rows[t]? = c.rows[t]? ∧ ∀ x w, mayA c.ars (t : Int) x w false = true → mayA (stepC o a c).ars (t : Int) x w false = true := by
  have hth : thrd (t : Int) = true := by simp [thrd]; omega
  have fl : (flushC c o.t).2.rows[t]? = c.rows[t]? := by
    unfold flushC
    cases hu : thrd o.t
    · rfl
    · rw [ct]
      cases c.rows[o.t.toNat]? with
      | none => rfl
      | some l => exact row_ne hu hne []
  unfold stepC
  cases o.kind == 2 || o.kind == 3
  · rw [cf]
    cases o.kind == 4
    · rw [cf]
      cases o.kind == 5
      · rw [cf]
        cases o.kind == 6
        · rw [cf]
          cases o.kind == 7
          · exact ⟨rfl, fun _ _ h => h⟩
          · rw [ct]
            refine ⟨?_, fun x w h => may_own o.t o.w _ x w hth h⟩
            unfold ownC
            cases ownA c.ars o.t o.w
            · rfl
            · rw [ct]
              cases c.ars[o.w.toNat]? <;> rfl
        · rw [ct]
          exact ⟨fl, fun x w h => by rw [may_shape (flush_shape c o.t)]; exact h⟩
      · rw [ct]
        unfold drainC
        cases hu : thrd o.t
        · exact ⟨rfl, fun _ _ h => h⟩
        · rw [ct]
          cases c.rows[o.t.toNat]? with
          | none => exact ⟨rfl, fun _ _ h => h⟩
          | some l =>
            cases l with
            | nil => exact ⟨rfl, fun _ _ h => h⟩
            | cons st l => exact ⟨row_ne hu hne l, fun x w h => by
                show mayA (drained c.ars st) _ x w false = true
                have hsd : shapes (drained c.ars st) = shapes c.ars := writeN_shape _ _ _ _ _
                rw [may_shape hsd]; exact h⟩
    · rw [ct]
      unfold putC
      cases mayA c.ars o.t a o.w true
      · exact ⟨rfl, fun _ _ h => h⟩
      · exact ⟨fl, fun x w h => by
          show mayA (writeN (flushC c o.t).2.ars a o.v 0 o.w.toNat) _ x w false = true
          rw [may_shape (writeN_shape _ _ _ _ _), may_shape (flush_shape c o.t)]; exact h⟩
  · rw [ct]
    unfold storeC
    cases hm : mayA c.ars o.t a o.w true
    · exact ⟨rfl, fun _ _ h => h⟩
    · rw [ct]
      cases hl : c.rows[o.t.toNat]? with
      | none => exact ⟨rfl, fun _ _ h => h⟩
      | some l => exact ⟨row_ne (may_thrd hm).1 hne _, fun _ _ h => h⟩
/-- The bytes of one's own store. -/
theorem sees_own (a w v : Int) (hw : isW8 w = true) (l m : List Ar) (j : Nat) (hj : j < w.toNat) : seesA l [⟨a, w, v⟩] (IntKind.u64.wrap (a + (j : Int))) = seesA m [⟨a, w, v⟩] (IntKind.u64.wrap (a + (j : Int))) := by
  have hw := isW8_w hw
  have hh : Sto.has ⟨a, w, v⟩ (IntKind.u64.wrap (a + (j : Int))) = true := by
    unfold Sto.has
    simp only [wrap_u64]
    apply decide_eq_true
    omega
  have h1 : hitN [⟨a, w, v⟩] (IntKind.u64.wrap (a + (j : Int))) 1 = some ⟨a, w, v⟩ := by
    show (bif Sto.has ⟨a, w, v⟩ (IntKind.u64.wrap (a + (j : Int))) then some (⟨a, w, v⟩ : Sto) else _) = _
    rw [hh]; rfl
  unfold seesA
  show (match hitN [⟨a, w, v⟩] (IntKind.u64.wrap (a + (j : Int))) 1 with | some s => s.byte _ | none => _) = (match hitN [⟨a, w, v⟩] (IntKind.u64.wrap (a + (j : Int))) 1 with | some s => s.byte _ | none => _)
  rw [h1]
theorem load_own (a w v : Int) (hw : isW8 w = true) (l m : List Ar) : ∀ n i z, i + n ≤ w.toNat → loadN l [⟨a, w, v⟩] a i n z = loadN m [⟨a, w, v⟩] a i n z
  | 0, _, _, _ => rfl
  | n + 1, i, z, h => by
    unfold loadN
    rw [sees_own a w v hw l m i (by omega), load_own a w v hw l m n (i + 1) _ (by omega)]
theorem loadC_own {c d : Co} {t : Nat} {a w v : Int} (hw : isW8 w = true) (h1 : c.rows[t]? = some [⟨a, w, v⟩]) (h2 : d.rows[t]? = some [⟨a, w, v⟩]) (m1 : mayA c.ars (t : Int) a w false = true) (m2 : mayA d.ars (t : Int) a w false = true) : loadC c (t : Int) a w = loadC d (t : Int) a w := by
  have r : ∀ e : Co, e.rows[t]? = some [⟨a, w, v⟩] → rowC e (t : Int) = [⟨a, w, v⟩] := fun e h => by
    unfold rowC
    have h : e.rows[((t : Nat) : Int).toNat]? = _ := h
    rw [h]; rfl
  unfold loadC
  rw [m1, m2, r c h1, r d h2, load_own a w v hw c.ars d.ars _ _ _ (by omega)]
theorem loop4 (L : Nat) (o calls : Option Sl) (ys : List Ar) (xs : List Cal) (hx : xs.length ≤ 9223372036854775807) (hxw : ∀ x, x ∈ xs → x.Wf) (t : Nat) (h8 : t < 8) (a w v first : Int) (hw : isW8 w = true) (p : Option (Nat × Nat)) (k0 k1 : Int) (k2 : Bool) (k3 k4 k6 : Int) : ∀ (m n i : Nat) (M : Mm) (c : Co) (H : Heap), M.p = p → i + m = xs.length → i ≤ 40 →
    M.Is H L c → c.Fit (1 + i) → c.rows[t]? = some [⟨a, w, v⟩] → mayA c.ars (t : Int) a w false = true → loadC c (t : Int) a w = (first, true) → L ≤ H.length → CutL H L o ys → RSL 7 E7 H L calls xs →
    ∃ (M' : Mm) (c' : Co) (H' : Heap), D4_8 (n + m + 1) o (t : Int) p a first true calls (xs.length : Int) (i : Int) k0 k1 k2 k3 k4 w k6 H = some (.exit 0, X4_8 (t : Int) p true H') ∧ M'.Is H' L c' ∧ M'.p = p ∧ c'.Fit 41 ∧ c'.rows[t]? = some [⟨a, w, v⟩]
  | 0, n, i, M, c, H, hp, hm, h40, h, f, hr, hmy, hld, hL, hC, hS => by
    have g : decide ((i : Int) < (xs.length : Int)) = false := by simp; omega
    exact ⟨M, c, H, by rw [D4_8_s, g, cf], h, hp, ⟨f.n, f.d, f.w, fun l hl => ⟨by have := (f.g l hl).1; omega, (f.g l hl).2⟩⟩, hr⟩
  | m + 1, n, i, M, c, H, hp, hm, h40, h, f, hr, hmy, hld, hL, hC, hS => by
    have g : decide ((i : Int) < (xs.length : Int)) = true := by simp; omega
    have hlt : i < xs.length := by omega
    obtain ⟨sl, hsl, g1, c0, c1, c2, c3, c4, c5, c6⟩ := gets7 hS.1 (List.getElem?_eq_getElem hlt)
    have ho := hxw xs[i] (List.getElem_mem hlt)
    rw [show n + (m + 1) + 1 = (n + m + 1) + 1 by omega, D4_8_s, g, ct]
    subst hsl
    simp only [Ab.bs, g1, ct, c0, c1, c2, c3, c4, c5, c6, tInt, tBool]
    by_cases h40' : (i : Int) ≥ 40
    · rw [decide_eq_true h40', ct]
      exact ⟨M, c, H, rfl, h, hp, ⟨f.n, f.d, f.w, fun l hl => ⟨by have := (f.g l hl).1; omega, (f.g l hl).2⟩⟩, hr⟩
    rw [decide_eq_false h40', cf]
    have fin : ∀ (M1 : Mm) (c1 : Co) (H1 : Heap), M1.p = p → M1.Is H1 L c1 → c1.Fit (1 + (i + 1)) → c1.rows[t]? = some [⟨a, w, v⟩] → mayA c1.ars (t : Int) a w false = true → loadC c1 (t : Int) a w = (first, true) → L ≤ H1.length → CutL H1 L o ys → RSL 7 E7 H1 L (some sl) xs →
        ∃ (M' : Mm) (c' : Co) (H' : Heap), ((f15 p (t : Int) a w H1).bind fun v0 => bif v0.fst.fst != first then some (AExit.ret, X4_8a (t : Int) false p true v0.snd) else bif !v0.fst.snd then some (AExit.ret, X4_8a (t : Int) false p true v0.snd) else D4_8 (n + m + 1) o (t : Int) p a first true (some sl) (xs.length : Int) (IntKind.i64.wrap ((i : Int) + 1)) k0 k1 k2 k3 k4 w k6 v0.snd) = some (.exit 0, X4_8 (t : Int) p true H') ∧ M'.Is H' L c' ∧ M'.p = p ∧ c'.Fit 41 ∧ c'.rows[t]? = some [⟨a, w, v⟩] := by
      intro M1 c1 H1 hp1 h1 f1 r1 m1 l1 hL1 hC1 hS1
      obtain ⟨M2, H2, e1, e2, e3⟩ := load_x h1 f1 (by omega) (t : Int) a w
      rw [hp1, l1] at e1
      have kl : ∀ i, M1.In i → L ≤ i := fun i hi => h1.ge hi
      have hne : (first != first) = false := by simp
      rw [e1, Ab.bs]
      simp only [hne, cf, Bool.not_true, i64_succ i (by omega)]
      exact loop4 L o (some sl) ys xs hx hxw t h8 a w v first hw p k0 k1 k2 k3 k4 k6 m n (i + 1) M2 c1 H2 (by rw [← hp1]; unfold Mm.p; rw [e3.b]) (by omega) (by omega) e2 f1 r1 m1 l1 (Nat.le_trans hL1 e3.k.len) (hC1.kp e3.k kl) (hS1.kp e3.k kl)
    by_cases hne : xs[i].t = (t : Int)
    · have hb : (xs[i].t != (t : Int)) = false := by simp [hne]
      rw [hb, cf]
      exact fin M c H hp h ⟨f.n, f.d, f.w, fun l hl => ⟨by have := (f.g l hl).1; omega, (f.g l hl).2⟩⟩ hr hmy hld hL hC hS
    · have hb : (xs[i].t != (t : Int)) = true := by simp [hne]
      rw [hb, ct]
      obtain ⟨R, H1, e1, e2, e3, e4⟩ := rnew_x o ys H hC.cut
      rw [e1, Ab.bs]
      have hlR : ∀ j, M.In j → ¬ R.In j := fun j h1 h2 => by
        have := h.lt h1; have := e3.ge h2; omega
      have P : Par H1 L M R c (freshC ys) := ⟨h.no e4, e3.mono hL, hlR⟩
      have ff := fresh_fit hC.cut
      have ff' : (freshC ys).Fit (1 + i) := ⟨ff.n, ff.d, ff.w, fun l hl => ⟨by have := (ff.g l hl).1; omega, (ff.g l hl).2⟩⟩
      obtain ⟨M1, R1, H2, s1, s2, s3⟩ := step_x P f ff' (by omega) xs[i] ho
      rw [hp] at s1
      dsimp only
      rw [s1, Ab.bs]
      dsimp only
      obtain ⟨q1, q2⟩ := step_other f xs[i] (atA xs[i] (freshC ys).ars) t h8 hne
      have m1 := q2 a w hmy
      rw [hr] at q1
      have kl : ∀ i, (M.In i ∨ R.Inm i) → L ≤ i := fun i hi => by
        rcases hi with hi | hi
        · exact h.ge hi
        · have := e3.ge (.inl hi); omega
      exact fin M1 _ H2 (by rw [← hp]; unfold Mm.p; rw [s3.bm]) s2.m (step_fit f xs[i] _) q1 m1 (by rw [loadC_own hw q1 hr m1 hmy]; exact hld) (Nat.le_trans hL (Nat.le_trans e4.len s3.k.len)) ((hC.no e4).kp s3.k kl) ((hS.kp e4 fun _ h => absurd h (fun h => h)).kp s3.k kl)
theorem f4_true (l calls : Option Sl) (zs : List Ar) (xs : List Cal) (hz : zs.length ≤ 9223372036854775807) (hx : xs.length ≤ 9223372036854775807) (hxw : ∀ x, x ∈ xs → x.Wf) (t : Int) (o : Cal) (H : Heap) (hR : RS 5 E5 H l zs) (hX : ∀ x, x ∈ zs → RS 1 E8 H x.sl x.data) (hS : RS 7 E7 H calls xs) :
    ∃ H', f4 l calls t o.kind o.t o.near o.inn o.at' o.w o.v H = some (true, H') := by
  rw [q4]
  obtain ⟨c, ys, H1, a1, a2, a3⟩ := f8_x l zs hz H hR hX
  rw [a1, Ab.bs]
  obtain ⟨M, H2, b1, b2, b3, b4⟩ := ours_x c ys H1 a2
  dsimp only
  rw [b1, Ab.bs]
  dsimp only
  rw [f18_x o c ys H2 (a2.no b4).r (by have := a2.n; omega), Ab.bs]
  dsimp only
  generalize atA o ys = a
  have fit := fresh_fit a2
  obtain ⟨M1, H3, c1, c2, c3⟩ := store_x b3 fit (by omega) t a o.w o.v
  rw [c1, Ab.bs]
  unfold storeC at c2 ⊢
  have f1 := store_fit fit t a o.w o.v
  unfold storeC at f1
  cases hm : mayA (freshC ys).ars t a o.w true
  · exact ⟨H3, rfl⟩
  rw [hm] at c2 f1
  obtain ⟨hth, hw, _⟩ := may_thrd hm
  obtain ⟨_, t, rfl, h8⟩ := inb8 hth
  have hl0 : (freshC ys).rows[((t : Nat) : Int).toNat]? = some [] := by
    show (noRows : List (List Sto))[t]? = some []
    unfold noRows
    rw [List.getElem?_replicate, if_pos h8]
  rw [hl0, ct] at c2 f1 ⊢
  dsimp only at c2 f1 ⊢
  have hmr := may_rd hm
  generalize hc1 : (⟨(freshC ys).ars, (freshC ys).rows.set ((t : Nat) : Int).toNat ([] ++ [⟨a, o.w, zxv o.v o.w⟩])⟩ : Co) = d at *
  have hrow : d.rows[t]? = some [⟨a, o.w, zxv o.v o.w⟩] := by
    rw [← hc1]
    exact List.getElem?_set_self (by rw [fit.w]; exact h8)
  have hmd : mayA d.ars (t : Int) a o.w false = true := by rw [← hc1]; exact hmr
  obtain ⟨M2, H4, d1, d2, d3⟩ := load_x c2 f1 (by omega) (t : Int) a o.w
  have hp1 : M1.p = M.p := by unfold Mm.p; rw [c3.b]
  have hp2 : M2.p = M.p := by rw [← hp1]; unfold Mm.p; rw [d3.b]
  rw [hp1] at d1
  simp only [Bool.not_true, cf]
  rw [d1, Ab.bs]
  have hld : loadC d (t : Int) a o.w = ((loadC d (t : Int) a o.w).1, true) := by
    unfold loadC; rw [hmd]; rfl
  generalize (loadC d (t : Int) a o.w).1 = first at hld
  rw [hld]
  dsimp only
  have kl : ∀ i, M.In i → M.b ≤ i := fun i hi => b3.ge hi
  have kl1 : ∀ i, M1.In i → M.b ≤ i := fun i hi => c2.ge hi
  have hb : M.b < H2.length := b3.lt ⟨.hd, rfl⟩
  have hC : CutL H4 M.b c ys := (((a2.low b2).no b4).kp c3.k kl).kp d3.k kl1
  have hS4 : RSL 7 E7 H4 M.b calls xs := (((RSL.of E7_len (by decide) (hS.no a3) b2).kp b4 fun _ h => absurd h (fun h => h)).kp c3.k kl).kp d3.k kl1
  obtain ⟨n, e⟩ := LL4_8_of xs.length (by omega) c (t : Int) M.p a first true calls (slen calls) 0 o.kind o.t o.near o.inn o.at' o.w o.v H4
  obtain ⟨M', c', H', r1, r2, r3, r4, r5⟩ := loop4 M.b c calls ys xs hx hxw t h8 a o.w (zxv o.v o.w) first hw M.p o.kind o.t o.near o.inn o.at' o.v xs.length n 0 M2 d H4 hp2 (by omega) (by omega) d2 f1 hrow hmd hld (by have := c3.k.len; have := d3.k.len; omega) hC hS4
  rw [e, hS.slenEq, show (0 : Int) = ((0 : Nat) : Int) from rfl, r1, Ab.bs, J4_8_0, ct]
  have hpd := pend_x r2 t h8 r5
  rw [r3] at hpd
  rw [hpd, Ab.bs]
  simp only [show ((((([⟨a, o.w, zxv o.v o.w⟩] : List Sto).length : Nat) : Int)) == 1) = true from rfl, ct]
  have hth' : thrd ((t : Nat) : Int) = true := hth
  have hr5 : c'.rows[((t : Nat) : Int).toNat]? = some [⟨a, o.w, zxv o.v o.w⟩] := r5
  obtain ⟨M5, H5, u1, u2, u3⟩ := drain_x r2 r4 (by omega) (t : Int)
  have fd := drain_fit r4 (t : Int)
  have hdr : drainC c' (t : Int) = (true, ⟨drained c'.ars ⟨a, o.w, zxv o.v o.w⟩, c'.rows.set t []⟩) := by
    unfold drainC; rw [hth', ct, hr5]; rfl
  rw [hdr] at u1 u2 fd
  rw [r3] at u1
  rw [u1, Ab.bs]
  simp only [ct]
  obtain ⟨M6, H6, w1, w2, w3⟩ := drain_x u2 fd (by omega) (t : Int)
  have hp5 : M5.p = M.p := by rw [← r3]; unfold Mm.p; rw [u3.b]
  rw [hp5] at w1
  have hr6 : (c'.rows.set t [])[((t : Nat) : Int).toNat]? = some [] := List.getElem?_set_self (by rw [r4.w]; exact h8)
  have hdr2 : (drainC ⟨drained c'.ars ⟨a, o.w, zxv o.v o.w⟩, c'.rows.set t []⟩ (t : Int)).1 = false := by
    unfold drainC; rw [hth', ct]
    dsimp only
    rw [hr6]
  rw [hdr2] at w1
  rw [w1, Ab.bs]
  exact ⟨H6, rfl⟩
theorem holds4 (Hp : Heap) (xs : List TV) (_hn : NoOwn Hp) (hxs : TShAll Try.prog Hp 12 Try.f4.params.toList xs) : fnA CC4 Try.f4.results.toList (bodyOf Try.f4) Bool xs Hp (fun x _ => x.cell.bind Cell.toBool) = some true := by
  have hp : Try.f4.params.toList = [22, 42, 3, 25] := by kernel_rfl
  rw [hp] at hxs
  obtain ⟨x0, xr0, rfl, t0, hxs⟩ := hxs
  obtain ⟨x1, xr1, rfl, t1, hxs⟩ := hxs
  obtain ⟨x2, xr2, rfl, t2, hxs⟩ := hxs
  obtain ⟨x3, xr3, rfl, t3, hnil⟩ := hxs
  subst hnil
  obtain ⟨c0, rfl, s0⟩ := tsh_c t0 (by simp [Try.underlying22]) (by simp [Try.underlying22])
  obtain ⟨c1, rfl, s1⟩ := tsh_c t1 (by simp [Try.underlying42]) (by simp [Try.underlying42])
  obtain ⟨c2, rfl, s2⟩ := tsh_c t2 (by simp [Try.underlying3]) (by simp [Try.underlying3])
  obtain ⟨cs, rfl, s3⟩ := tsh_agg t3 Try.underlying25
  obtain ⟨l, zs, e0, hR, hX, _, hm⟩ := sh_slice E5 (fun x => RS 1 E8 Hp x.sl x.data) E5_len s0 Try.underlying22 (k := 5) (by kernel_rfl) (fun cs h => area_of cs h)
  obtain ⟨l', ws, e1, hS, hW, _, hm'⟩ := sh_slice E7 (fun x => x.Wf) E7_len s1 Try.underlying42 (k := 7) (by kernel_rfl) (fun cs h => cal_of cs h)
  obtain ⟨y2, e2, _⟩ := sh_int s2 Try.underlying3
  obtain ⟨o, rfl, _⟩ := cal_of cs s3
  cases e0; cases e1; cases e2
  obtain ⟨H', h⟩ := f4_true l l' zs ws hm hm' hW y2 o Hp hR hX hS
  rw [f4_eq] at h
  exact law_of hN4 (fun v hv => by
    unfold dec4 at hv
    split at hv
    · cases hv; rfl
    · cases hv) h
end
end Go.Proofs.Ytdpmbfceadidkaa
