/- Layer 10: memory, of layer 9: a thread reads what it stored, whatever others do. -/
import Derived.Test.YtnipccoenalnkaaGreatSmX
namespace Go.Proofs.YtnipccoenalnkaaGreat
open Go Go.Proofs.YtnipccoenalnkaaGreat.Ab
set_option linter.unusedVariables false
set_option linter.unusedSimpArgs false
set_option maxRecDepth 100000
noncomputable section
structure CutL (H : Heap) (L : Nat) (o : Option Sl) (ys : List Ar) : Prop where
  n : ys.length ≤ 8
  r : RSL 5 E5 H L o ys
  d : ∀ y, y ∈ ys → RSL 1 E8 H L y.sl y.data ∧ y.data.length ≤ 64
theorem CutL.kp {F : Nat → Prop} {H H' : Heap} {L : Nat} {o : Option Sl} {ys : List Ar} (h : CutL H L o ys) (k : Kp F H H') (hF : ∀ i, F i → L ≤ i) : CutL H' L o ys := ⟨h.n, h.r.kp k hF, fun y hy => ⟨(h.d y hy).1.kp k hF, (h.d y hy).2⟩⟩
theorem CutL.no {H H' : Heap} {L : Nat} {o : Option Sl} {ys : List Ar} (h : CutL H L o ys) (k : Kp No H H') : CutL H' L o ys := h.kp k fun _ h => absurd h (fun h => h)
theorem CutL.cut {H : Heap} {L : Nat} {o : Option Sl} {ys : List Ar} (h : CutL H L o ys) : Cutd H o ys := ⟨h.n, h.r.1, fun y hy => ⟨(h.d y hy).1.1, (h.d y hy).2⟩⟩
theorem Rm.Is.mono {M : Rm} {H : Heap} {L K : Nat} {c : Co} (h : M.Is H L c) (hk : K ≤ L) : M.Is H K c :=
  ⟨⟨h.m.hd, h.m.ar, h.m.dt, h.m.ro, h.m.rl, h.m.rw, h.m.inj, fun x i e => Nat.le_trans hk (h.m.ge x i e), h.m.lt⟩, fun l hl x hx => ⟨(h.y l hl x hx).1, fun i hi => ⟨Nat.le_trans hk ((h.y l hl x hx).2 i hi).1, ((h.y l hl x hx).2 i hi).2⟩⟩, h.a, h.r⟩
theorem rnew_x (o : Option Sl) (ys : List Ar) (H : Heap) (h : Cutd H o ys) : ∃ (R : Rm) (H' : Heap), f29 o H = some (R.p, H') ∧ R.b = H.length ∧ R.Is H' H.length (freshC ys) ∧ Kp No H H' := by
  obtain ⟨s, ars, H', e1, e2, e3, e4, e5⟩ := f29_x (en := 2) (eE := E2) o ys (by have := h.n; omega) H h.r h.src
  exact ⟨⟨H.length, s, ars, nils, noRows⟩, H', e1, rfl, ⟨e2, fun l hl x hx => by
    have : l = [] := List.eq_of_mem_replicate hl
    rw [this] at hx; simp at hx, fresh_nf e3 e4, rfl⟩, e5⟩
/-! ### what others do -/
theorem there_rd {l : List Ar} {t x : Int} (h : thereA l t x true = true) : thereA l t x false = true := by
  unfold thereA at h ⊢
  cases hl : l[(findA l x).toNat]? with
  | none => rw [hl] at h; exact h
  | some a =>
    rw [hl] at h
    dsimp only at h ⊢
    simp only [Bool.and_eq_true] at h ⊢
    exact ⟨h.1, h.2.1, by simp⟩
theorem all_rd {l : List Ar} {t x : Int} : ∀ n i, allThere l t x true i n = true → allThere l t x false i n = true
  | 0, _, _ => rfl
  | n + 1, i, h => by
    unfold allThere at h ⊢
    simp only [Bool.and_eq_true] at h ⊢
    exact ⟨there_rd h.1, all_rd n (i + 1) h.2⟩
theorem may_rd {l : List Ar} {t x w : Int} (h : mayA l t x w true = true) : mayA l t x w false = true := by
  unfold mayA at h ⊢
  simp only [Bool.and_eq_true] at h ⊢
  exact ⟨h.1, h.2.1, h.2.2.1, all_rd _ _ h.2.2.2⟩
end
end Go.Proofs.YtnipccoenalnkaaGreat
