/- Layer 10: memory, of layer 9: a thread reads what it stored, whatever others do. -/
import Derived.Test.YtnipccoenalnkaaGreatSmX
namespace Go.Proofs.YtnipccoenalnkaaGreat
open Go Go.Proofs.YtnipccoenalnkaaGreat.Ab
set_option linter.unusedVariables false
set_option linter.unusedSimpArgs false
set_option maxRecDepth 100000
noncomputable section
structure CutL (H : Heap) (L : Nat) (o : Option Sl) (ys : List Ar) : Prop where
  n : ys.length ≤ 8
  r : RSL 5 E5 H L o ys
  d : ∀ y, y ∈ ys → RSL 1 E8 H L y.sl y.data ∧ y.data.length ≤ 64
theorem CutL.kp {F : Nat → Prop} {H H' : Heap} {L : Nat} {o : Option Sl} {ys : List Ar} (h : CutL H L o ys) (k : Kp F H H') (hF : ∀ i, F i → L ≤ i) : CutL H' L o ys := ⟨h.n, h.r.kp k hF, fun y hy => ⟨(h.d y hy).1.kp k hF, (h.d y hy).2⟩⟩
theorem CutL.no {H H' : Heap} {L : Nat} {o : Option Sl} {ys : List Ar} (h : CutL H L o ys) (k : Kp No H H') : CutL H' L o ys := h.kp k fun _ h => absurd h (fun h => h)
theorem CutL.cut {H : Heap} {L : Nat} {o : Option Sl} {ys : List Ar} (h : CutL H L o ys) : Cutd H o ys := ⟨h.n, h.r.1, fun y hy => ⟨(h.d y hy).1.1, (h.d y hy).2⟩⟩
theorem Cutd.low {H : Heap} {L : Nat} {o : Option Sl} {ys : List Ar} (h : Cutd H o ys) (hL : H.length ≤ L) : CutL H L o ys :=
  ⟨h.n, RSL.of E5_len (by decide) h.r hL, fun y hy => ⟨RSL.of E8_len (by decide) (h.d y hy).1 hL, (h.d y hy).2⟩⟩
theorem Rm.Is.mono {M : Rm} {H : Heap} {L K : Nat} {c : Co} (h : M.Is H L c) (hk : K ≤ L) : M.Is H K c :=
  ⟨⟨h.m.hd, h.m.ar, h.m.dt, h.m.ro, h.m.rl, h.m.rw, h.m.inj, fun x i e => Nat.le_trans hk (h.m.ge x i e), h.m.lt⟩, fun l hl x hx => ⟨(h.y l hl x hx).1, fun i hi => ⟨Nat.le_trans hk ((h.y l hl x hx).2 i hi).1, ((h.y l hl x hx).2 i hi).2⟩⟩, h.a, h.r⟩
theorem rnew_x (o : Option Sl) (ys : List Ar) (H : Heap) (h : Cutd H o ys) : ∃ (R : Rm) (H' : Heap), f29 o H = some (R.p, H') ∧ R.b = H.length ∧ R.Is H' H.length (freshC ys) ∧ Kp No H H' := by
  obtain ⟨s, ars, H', e1, e2, e3, e4, e5⟩ := f29_x (en := 2) (eE := E2) o ys (by have := h.n; omega) H h.r h.src
  exact ⟨⟨H.length, s, ars, nils, noRows⟩, H', e1, rfl, ⟨e2, fun l hl x hx => by
    have : l = [] := List.eq_of_mem_replicate hl
    rw [this] at hx; simp at hx, fresh_nf e3 e4, rfl⟩, e5⟩
/-! ### what others do -/
theorem there_own {l : List Ar} {k : Nat} {a : Ar} (hk : l[k]? = some a) (hp : a.pr = true) (ho : a.ow = -1) (u t x : Int) (ht : 0 ≤ t) (w : Bool) (h : thereA l t x w = true) : thereA (l.set k { a with ow := u }) t x w = true := by
  have hf : findA (l.set k { a with ow := u }) x = findA l x := by
    refine (find_same x l _ 0 (by simp) fun j b d h1 h2 => ?_).symm
    rcases set_at h2 with ⟨rfl, rfl, _⟩ | ⟨_, h2⟩
    · rw [hk] at h1; cases h1; rfl
    · rw [h1] at h2; cases h2; rfl
  have h0 := h
  unfold thereA at h ⊢
  rw [hf]
  by_cases e : k = (findA l x).toNat
  · rw [← e, hk] at h
    simp only [hp, ho] at h
    have : ((-1 : Int) == t) = false := by simp; omega
    rw [this] at h
    simp at h
  · rw [List.getElem?_set_ne e]; exact h
theorem all_own {l : List Ar} {k : Nat} {a : Ar} (hk : l[k]? = some a) (hp : a.pr = true) (ho : a.ow = -1) (u t x : Int) (ht : 0 ≤ t) (w : Bool) : ∀ n i, allThere l t x w i n = true → allThere (l.set k { a with ow := u }) t x w i n = true
  | 0, _, _ => rfl
  | n + 1, i, h => by
    unfold allThere at h ⊢
    simp only [Bool.and_eq_true] at h ⊢
    exact ⟨there_own hk hp ho u t _ ht w h.1, all_own hk hp ho u t x ht w n (i + 1) h.2⟩
theorem there_rd {l : List Ar} {t x : Int} (h : thereA l t x true = true) : thereA l t x false = true := by
  unfold thereA at h ⊢
  cases hl : l[(findA l x).toNat]? with
  | none => rw [hl] at h; exact h
  | some a =>
    rw [hl] at h
    dsimp only at h ⊢
    simp only [Bool.and_eq_true] at h ⊢
    exact ⟨h.1, h.2.1, by simp⟩
theorem all_rd {l : List Ar} {t x : Int} : ∀ n i, allThere l t x true i n = true → allThere l t x false i n = true
  | 0, _, _ => rfl
  | n + 1, i, h => by
    unfold allThere at h ⊢
    simp only [Bool.and_eq_true] at h ⊢
    exact ⟨there_rd h.1, all_rd n (i + 1) h.2⟩
theorem may_rd {l : List Ar} {t x w : Int} (h : mayA l t x w true = true) : mayA l t x w false = true := by
  unfold mayA at h ⊢
  simp only [Bool.and_eq_true] at h ⊢
  exact ⟨h.1, h.2.1, h.2.2.1, all_rd _ _ h.2.2.2⟩
theorem may_own {c : Co} (u k t x w : Int) (ht : thrd t = true) (h : mayA c.ars t x w false = true) : mayA (ownC c u k).2.ars t x w false = true := by
  unfold ownC
  cases ho : ownA c.ars u k
  · exact h
  · rw [ct]
    unfold ownA at ho
    cases hk : c.ars[k.toNat]? with
    | none => exact h
    | some a =>
      rw [hk] at ho
      simp only [Bool.and_eq_true, beq_iff_eq] at ho
      obtain ⟨_, t, rfl, h8⟩ := inb8 ht
      dsimp only
      unfold mayA at h ⊢
      simp only [Bool.and_eq_true] at h ⊢
      exact ⟨h.1, h.2.1, h.2.2.1, all_own hk ho.2.2.1 ho.2.2.2 u _ x (by omega) false _ _ h.2.2.2⟩
theorem row_ne {rows : List (List Sto)} {u : Int} {t : Nat} (hu : thrd u = true) (hne : u ≠ (t : Int)) (l : List Sto) : (rows.set u.toNat l)[t]? = rows[t]? := by
  obtain ⟨_, u, rfl, _⟩ := inb8 hu
  exact List.getElem?_set_ne fun e => hne (by rw [← e]; rfl)
/-- The bytes of one's own store. -/
theorem sees_own (a w v : Int) (hw : isW8 w = true) (l m : List Ar) (j : Nat) (hj : j < w.toNat) : seesA l [⟨a, w, v⟩] (IntKind.u64.wrap (a + (j : Int))) = seesA m [⟨a, w, v⟩] (IntKind.u64.wrap (a + (j : Int))) := by
  have hw := isW8_w hw
  have hh : Sto.has ⟨a, w, v⟩ (IntKind.u64.wrap (a + (j : Int))) = true := by
    unfold Sto.has
    simp only [wrap_u64]
    apply decide_eq_true
    omega
  have h1 : hitN [⟨a, w, v⟩] (IntKind.u64.wrap (a + (j : Int))) 1 = some ⟨a, w, v⟩ := by
    show (bif Sto.has ⟨a, w, v⟩ (IntKind.u64.wrap (a + (j : Int))) then some (⟨a, w, v⟩ : Sto) else _) = _
    rw [hh]; rfl
  unfold seesA
  show (match hitN [⟨a, w, v⟩] (IntKind.u64.wrap (a + (j : Int))) 1 with | some s => s.byte _ | none => _) = (match hitN [⟨a, w, v⟩] (IntKind.u64.wrap (a + (j : Int))) 1 with | some s => s.byte _ | none => _)
  rw [h1]
theorem load_own (a w v : Int) (hw : isW8 w = true) (l m : List Ar) : ∀ n i z, i + n ≤ w.toNat → loadN l [⟨a, w, v⟩] a i n z = loadN m [⟨a, w, v⟩] a i n z
  | 0, _, _, _ => rfl
  | n + 1, i, z, h => by
    unfold loadN
    rw [sees_own a w v hw l m i (by omega), load_own a w v hw l m n (i + 1) _ (by omega)]
theorem loadC_own {c d : Co} {t : Nat} {a w v : Int} (hw : isW8 w = true) (h1 : c.rows[t]? = some [⟨a, w, v⟩]) (h2 : d.rows[t]? = some [⟨a, w, v⟩]) (m1 : mayA c.ars (t : Int) a w false = true) (m2 : mayA d.ars (t : Int) a w false = true) : loadC c (t : Int) a w = loadC d (t : Int) a w := by
  have r : ∀ e : Co, e.rows[t]? = some [⟨a, w, v⟩] → rowC e (t : Int) = [⟨a, w, v⟩] := fun e h => by
    unfold rowC
    have h : e.rows[((t : Nat) : Int).toNat]? = _ := h
    rw [h]; rfl
  unfold loadC
  rw [m1, m2, r c h1, r d h2, load_own a w v hw c.ars d.ars _ _ _ (by omega)]
end
end Go.Proofs.YtnipccoenalnkaaGreat
