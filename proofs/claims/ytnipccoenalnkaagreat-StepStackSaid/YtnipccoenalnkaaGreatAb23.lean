/- The abstract machine, 23: code goes by what follows in one way alone; a function's own meaning as a callee. -/
import Derived.Test.YtnipccoenalnkaaGreatAb22
namespace Go.Proofs.YtnipccoenalnkaaGreat.Ab
open Go
set_option linter.unusedVariables false
set_option linter.unusedSimpArgs false

/-- Tests that are decided (proved not by rfl: the kernel would compare whole trees). -/
theorem ct {α : Type} (x y : α) : cond true x y = x := by
  have h : ∀ b, b = true → cond b x y = x := by intro b hb; cases b with | true => simp | false => cases hb
  exact h true rfl
theorem cf {α : Type} (x y : α) : cond false x y = y := by
  have h : ∀ b, b = false → cond b x y = y := by intro b hb; cases b with | false => simp | true => cases hb
  exact h false rfl

section
variable {C : Ctx}

theorem agop_uni (hN : CtxNat C) {ops : Array Oper} {o : Oper} {st : St} {R0 : Type} {K0 : St → Option R0} {r0 : R0} (h : agop C ops o st K0 = some r0) :
    ∃ st', K0 st' = some r0 ∧ ∀ (R : Type) (K : St → Option R), agop C ops o st K = K st' := by
  unfold agop at h ⊢
  cases hr : inRange C.nt o.dst with
  | false => rw [hr] at h; cases h
  | true =>
    rw [hr] at h
    simp only [cond_true] at h ⊢
    have hs : ∀ (s : St), astep C o s K0 = some r0 → ∃ st', K0 st' = some r0 ∧ ∀ (R : Type) (K : St → Option R), astep C o s K = K st' := fun s hs => by
      obtain ⟨e, h1, _, h2⟩ := uniform hN hs
      exact ⟨_, h1, fun R K => h2 s (Agree.refl o s) R K⟩
    cases hg : o.guard with
    | none => rw [hg] at h; exact hs st h
    | some p =>
      obtain ⟨j, want⟩ := p
      rw [hg] at h
      simp only at h ⊢
      cases ht : (ops[j]?).bind (·.dst) with
      | none => rw [ht] at h; cases h
      | some t =>
        rw [ht] at h
        simp only at h ⊢
        cases ha : look st.env t with
        | none => rw [ha] at h; cases h
        | some a =>
          rw [ha] at h
          simp only [Option.bind_some] at h ⊢
          cases a with
          | tup vs =>
            cases vs with
            | nil => exact ⟨_, h, fun _ _ => rfl⟩
            | cons => cases h
          | agg => cases h
          | lp => cases h
          | c x =>
            simp only at h ⊢
            cases hx : x.toBool with
            | none => rw [hx] at h; cases h
            | some b =>
              rw [hx] at h
              cases b <;> cases want <;> simp only [Option.bind_some, cond_true, cond_false] at h ⊢ <;> first | exact ⟨_, h, fun _ _ => rfl⟩ | exact hs _ h

theorem runOps_uni (hN : CtxNat C) {ops : Array Oper} {R0 : Type} {r0 : R0} : ∀ (l : List Oper) (st : St) (K0 : St → Option R0), runOps C ops l st K0 = some r0 →
    ∃ st', K0 st' = some r0 ∧ ∀ (R : Type) (K : St → Option R), runOps C ops l st K = K st'
  | [], st, K0, h => ⟨st, h, fun _ _ => rfl⟩
  | o :: l, st, K0, h => by
    obtain ⟨s1, h1, h2⟩ := agop_uni hN (show agop C ops o st _ = some r0 from h)
    obtain ⟨s2, h3, h4⟩ := runOps_uni hN l s1 K0 h1
    exact ⟨s2, h3, fun R K => by rw [← h4 R K]; exact h2 R _⟩

theorem runAny_uni (hN : CtxNat C) {ops : Array Oper} {R0 : Type} {r0 : R0} : ∀ (l : List Oper) (done : List (Foot × Oper)) (ms : List Nat) (st : St) (K0 : St → Option R0), runAny C ops l done ms st K0 = some r0 →
    ∃ st', K0 st' = some r0 ∧ ∀ (R : Type) (K : St → Option R), runAny C ops l done ms st K = K st'
  | [], done, ms, st, K0, h => ⟨st, h, fun _ _ => rfl⟩
  | o :: l, done, ms, st, K0, h => by
    unfold runAny at h
    cases hc : edgesOk o done.length with
    | false => rw [hc] at h; cases h
    | true =>
      rw [hc] at h
      simp only [cond_true, fitsK_eq] at h
      obtain ⟨s1, h1, h2⟩ := agop_uni hN h
      cases hf : fits ops (maskOf o ms) o (tagF (foot C st o) st.heap s1.heap) done 0 with
      | false => rw [hf] at h1; cases h1
      | true =>
        rw [hf, cond_true] at h1
        obtain ⟨s2, h3, h4⟩ := runAny_uni hN l _ _ s1 K0 h1
        refine ⟨s2, h3, fun R K => ?_⟩
        unfold runAny
        rw [hc, cond_true, ← h4 R K]
        refine (h2 R _).trans ?_
        rw [fitsK_eq, hf, cond_true]

/-- A piece of code that goes by what follows in one way alone. -/
def Uni (f : (R : Type) → St → (AExit → St → Option R) → Option R) : Prop :=
  ∀ (R0 : Type) (r0 : R0) (st : St) (K0 : AExit → St → Option R0), f R0 st K0 = some r0 → ∃ e st', K0 e st' = some r0 ∧ ∀ (R : Type) (K : AExit → St → Option R), f R st K = K e st'

theorem loopN_uni {f : (R : Type) → St → (AExit → St → Option R) → Option R} (hf : Uni f) {k : Option Keep} {R0 : Type} {r0 : R0} : ∀ (n : Nat) (st : St) (K0 : AExit → St → Option R0), loopN (f R0) k n st K0 = some r0 →
    ∃ e st', K0 e st' = some r0 ∧ ∀ (R : Type) (K : AExit → St → Option R), loopN (f R) k n st K = K e st'
  | 0, st, K0, h => by cases h
  | n + 1, st, K0, h => by
    obtain ⟨e, s1, h1, h2⟩ := hf R0 r0 st _ (show f R0 st _ = some r0 from h)
    cases e with
    | normal =>
      obtain ⟨e2, s2, h3, h4⟩ := loopN_uni hf n _ K0 h1
      exact ⟨e2, s2, h3, fun R K => by rw [← h4 R K]; exact h2 R _⟩
    | exit id => exact ⟨.exit id, _, h1, fun R K => h2 R _⟩
    | ret => exact ⟨.ret, _, h1, fun R K => h2 R _⟩

theorem loadA_uni {P : Program} {st : St} {t : TypeId} {a : AV} {R0 : Type} {K0 : AV → Option R0} {r0 : R0} (h : loadA P st t a K0 = some r0) :
    ∃ v, K0 v = some r0 ∧ ∀ (R : Type) (K : AV → Option R), loadA P st t a K = K v := by
  unfold loadA at h ⊢
  simp only [Option.bind_eq_some_iff] at h
  obtain ⟨g, hg, n, hn, h⟩ := h
  simp only [hg, hn, Option.bind_some]
  have hptr : ∀ q : Nat × Nat, (bif g then cellsAt st.heap q.1 n q.2 (fun cs => K0 (.agg cs)) else (st.heap.get q.1 q.2).bind fun c => K0 (.c c)) = some r0 →
      ∃ v, K0 v = some r0 ∧ ∀ (R : Type) (K : AV → Option R), (bif g then cellsAt st.heap q.1 n q.2 (fun cs => K (.agg cs)) else (st.heap.get q.1 q.2).bind fun c => K (.c c)) = K v := by
    intro q h
    cases g with
    | true =>
      simp only [cond_true] at h ⊢
      obtain ⟨l, hl, _, h1, hn0⟩ := cellsAt_some h
      exact ⟨_, h1, fun R K => by rw [cellsAt_of _ hn0 hl]⟩
    | false =>
      simp only [cond_false, Option.bind_eq_some_iff] at h ⊢
      obtain ⟨c, hc, h⟩ := h
      exact ⟨_, h, fun R K => by simp only [hc, Option.bind_some]⟩
  cases a with
  | lp k off =>
    simp only [Option.bind_eq_some_iff] at h
    obtain ⟨cs, hcs, h⟩ := h
    simp only [hcs, Option.bind_some]
    cases g with
    | true =>
      simp only [cond_true] at h ⊢
      cases hb : Nat.ble (off + n) cs.length with
      | true => rw [hb] at h; exact ⟨_, h, fun _ _ => rfl⟩
      | false => rw [hb] at h; cases h
    | false =>
      simp only [cond_false, Option.bind_eq_some_iff] at h ⊢
      obtain ⟨c, hc, h⟩ := h
      exact ⟨_, h, fun R K => by simp only [hc, Option.bind_some]⟩
  | agg => cases h
  | tup => cases h
  | c x =>
    cases x with
    | ptr p =>
      simp only [Option.bind_eq_some_iff] at h
      obtain ⟨q, rfl, h⟩ := h
      exact hptr q h
    | _ => simp [Cell.toPtr] at h

theorem caught_uni {P : Program} {ts : TypeId} {id off : Nat} {H : Heap} {R0 : Type} {K0 : Option Sl → Option R0} {r0 : R0} (h : caught P ts id off H K0 = some r0) :
    ∃ x, K0 x = some r0 ∧ ∀ (R : Type) (K : Option Sl → Option R), caught P ts id off H K = K x := by
  unfold caught at h ⊢
  obtain ⟨v, h, h1⟩ := loadA_uni h
  obtain ⟨h, h2⟩ := reAV_uni h
  simp only [Option.bind_eq_some_iff] at h
  obtain ⟨c, hc, x, hx, h⟩ := h
  exact ⟨x, h, fun R K => by simp only [h1, h2, hc, hx, Option.bind_some]⟩
theorem rangeN_uni {C : Ctx} {ts te id off t1 t2 : Nat} {fa fb : (R : Type) → St → (AExit → St → Option R) → Option R} (ha : Uni fa) (hb : Uni fb) {env : List (Nat × AV)} {R0 : Type} {r0 : R0} :
    ∀ (n : Nat) (H : Heap) (K0 : AExit → Heap → Option R0), rangeN C ts te id off t1 t2 (fa R0) (fb R0) env n H K0 = some r0 →
      ∃ e H', K0 e H' = some r0 ∧ ∀ (R : Type) (K : AExit → Heap → Option R), rangeN C ts te id off t1 t2 (fa R) (fb R) env n H K = K e H'
  | 0, H, K0, h => ⟨.normal, H, h, fun _ _ => rfl⟩
  | n + 1, H, K0, h => by
    simp only [rangeN] at h ⊢
    obtain ⟨x, h, h1⟩ := caught_uni h
    obtain ⟨y, h, _, _, h2⟩ := indexA_uni h
    obtain ⟨v, h, h3⟩ := loadA_uni h
    obtain ⟨h, h4⟩ := reAV_uni h
    simp only [Option.bind_eq_some_iff] at h
    obtain ⟨tv, ht, h⟩ := h
    obtain ⟨e, s, h, h5⟩ := ha _ _ _ _ h
    cases e with
    | exit j => cases h
    | ret => cases h
    | normal =>
      obtain ⟨e, s2, h, h6⟩ := hb _ _ _ _ (show fb R0 s _ = some r0 from h)
      cases e with
      | normal =>
        obtain ⟨e, H', h, h7⟩ := rangeN_uni ha hb n s2.heap K0 h
        exact ⟨e, H', h, fun R K => by simp only [h1, h2, h3, h4, ht, Option.bind_some, h5, roundA, h6, roundB, h7]⟩
      | exit j => exact ⟨.exit j, s2.heap, h, fun R K => by simp only [h1, h2, h3, h4, ht, Option.bind_some, h5, roundA, h6, roundB]⟩
      | ret => exact ⟨.ret, s2.heap, h, fun R K => by simp only [h1, h2, h3, h4, ht, Option.bind_some, h5, roundA, h6, roundB]⟩
theorem rangeX_uni {C : Ctx} {g : Operand} {ps : Array Tmp} {kp : Option Keep} {fa fb : (R : Type) → St → (AExit → St → Option R) → Option R} (ha : Uni fa) (hb : Uni fb) {st : St} {R0 : Type} {r0 : R0} {K0 : AExit → St → Option R0}
    (h : rangeX C g ps kp (fa R0) (fb R0) st K0 = some r0) : ∃ e s, K0 e s = some r0 ∧ ∀ (R : Type) (K : AExit → St → Option R), rangeX C g ps kp (fa R) (fb R) st K = K e s := by
  unfold rangeX at h ⊢
  split at h
  case h_2 => cases h
  rename_i t1 t2 hps
  simp only [Option.bind_eq_some_iff] at h
  obtain ⟨c, hc, h⟩ := h
  split at h
  case h_2 => cases h
  rename_i gf id off
  simp only [Option.bind_eq_some_iff] at h
  obtain ⟨ty, hty, h⟩ := h
  cases hlt : Nat.blt t1 C.nt && Nat.blt t2 C.nt with
  | false => rw [hlt, cond_false] at h; cases h
  | true =>
  rw [hlt, cond_true] at h
  obtain ⟨x, h, h1⟩ := caught_uni h
  cases hlen : decide (slen x ≤ 9223372036854775807) with
  | false => rw [hlen, cond_false] at h; cases h
  | true =>
  rw [hlen, cond_true] at h
  obtain ⟨e, H', h, h2⟩ := rangeN_uni ha hb _ _ _ h
  exact ⟨e, _, h, fun R K => by simp only [hc, hty, Option.bind_some, cond_true, h1, hlen, h2]⟩
theorem exec_loop {R : Type} (c : Code) (st : St) (K : AExit → St → Option R) : exec C (.loop c) st K = bif isRF c then none else loopN (exec C c) (keepOf C.live c) big (tidy1 (keepOf C.live c) st) K := rfl
theorem exec_range {R : Type} (g : Operand) (ps : Array Tmp) (a b : Code) (st : St) (K : AExit → St → Option R) : exec C (.rangeFunc g ps a b) st K = bif noRF a && noRF b then rangeX C g ps (keepOf C.live a) (exec C a) (exec C b) (tidy1 (keepOf C.live a) st) K else none := rfl
theorem exec_uni (hN : CtxNat C) : ∀ c : Code, Uni fun R => exec (R := R) C c
  | .skip => fun R0 r0 st K0 h => ⟨.normal, st, h, fun _ _ => rfl⟩
  | .ret => fun R0 r0 st K0 h => ⟨.ret, st, h, fun _ _ => rfl⟩
  | .exit id => fun R0 r0 st K0 h => ⟨.exit id, st, h, fun _ _ => rfl⟩
  | .region id ops false => fun R0 r0 st K0 h => by
    obtain ⟨s, h1, h2⟩ := runOps_uni hN _ _ _ h
    exact ⟨.normal, s, h1, fun R K => h2 R _⟩
  | .region id ops true => fun R0 r0 st K0 h => by
    obtain ⟨s, h1, h2⟩ := runAny_uni (placed_nat hN) _ _ _ _ _ h
    exact ⟨.normal, s, h1, fun R K => h2 R _⟩
  | .seq a b => fun R0 r0 st K0 h => by
    obtain ⟨e, s, h1, h2⟩ := exec_uni hN a R0 r0 st _ h
    cases e with
    | normal =>
      obtain ⟨e', s', h3, h4⟩ := exec_uni hN b R0 r0 s _ h1
      exact ⟨e', s', h3, fun R K => by rw [← h4 R K]; exact h2 R _⟩
    | exit id => exact ⟨.exit id, s, h1, fun R K => h2 R _⟩
    | ret => exact ⟨.ret, s, h1, fun R K => h2 R _⟩
  | .cond c a b => fun R0 r0 st K0 h => by
    simp only [exec] at h ⊢
    cases hx : evc st c with
    | none => rw [hx] at h; cases h
    | some x =>
      rw [hx] at h
      simp only [Option.bind_some] at h ⊢
      cases ht : x.toBool with
      | none => rw [ht] at h; cases h
      | some t =>
        rw [ht] at h
        cases t
        · exact exec_uni hN b R0 r0 st _ h
        · exact exec_uni hN a R0 r0 st _ h
  | .block id c => fun R0 r0 st K0 h => by
    obtain ⟨e, s, h1, h2⟩ := exec_uni hN c R0 r0 st _ h
    cases e with
    | normal => exact ⟨.normal, s, h1, fun R K => h2 R _⟩
    | ret => exact ⟨.ret, s, h1, fun R K => h2 R _⟩
    | exit j =>
      simp only [blockK] at h1
      cases hj : (j == id) with
      | true =>
        rw [hj] at h1
        exact ⟨.normal, s, h1, fun R K => (show exec C (.block id c) st K = _ from h2 R _).trans (by simp only [blockK, hj, cond_true])⟩
      | false =>
        rw [hj] at h1
        exact ⟨.exit j, s, h1, fun R K => (show exec C (.block id c) st K = _ from h2 R _).trans (by simp only [blockK, hj, cond_false])⟩
  | .loop c => fun R0 r0 st K0 h => by
    have h : exec C (.loop c) st K0 = some r0 := h
    rw [exec_loop] at h
    cases hx : isRF c with
    | true => rw [hx] at h; cases h
    | false =>
      rw [hx, cond_false] at h
      obtain ⟨e, s, h1, h2⟩ := loopN_uni (exec_uni hN c) _ _ _ h
      exact ⟨e, s, h1, fun R K => (exec_loop c st K).trans (by rw [hx, cond_false]; exact h2 R K)⟩
  | .label .. => fun R0 r0 st K0 h => by cases h
  | .goto .. => fun R0 r0 st K0 h => by cases h
  | .rangeFunc g ps a b => fun R0 r0 st K0 h => by
    have h : exec C (.rangeFunc g ps a b) st K0 = some r0 := h
    rw [exec_range] at h
    cases hx : noRF a && noRF b with
    | false => rw [hx] at h; cases h
    | true =>
      rw [hx, cond_true] at h
      obtain ⟨e, s, h1, h2⟩ := rangeX_uni (exec_uni hN a) (exec_uni hN b) h
      exact ⟨e, s, h1, fun R K => (exec_range g ps a b st K).trans (by rw [hx, cond_true]; exact h2 R K)⟩
  | .scope .. => fun R0 r0 st K0 h => by cases h
  | .refuse .. => fun R0 r0 st K0 h => by cases h

/-- Loops and ranges go by what follows in one way. -/
theorem loops_uni (hN : CtxNat C) (c : Code) : Uni fun R => loops (R := R) C c := fun R0 r0 st K0 h => by
  have h : loops C c st K0 = some r0 := h
  cases hx : isRF c with
  | false =>
    rw [loops_loop _ _ _ _ hx] at h
    obtain ⟨e, s, h1, h2⟩ := loopN_uni (exec_uni hN c) _ _ _ h
    exact ⟨e, s, h1, fun R K => (loops_loop _ _ _ _ hx).trans (h2 R K)⟩
  | true =>
    cases c <;> first | (simp [isRF] at hx; done) | skip
    rename_i g ps a b h0
    have h : (bif noRF a && noRF b then rangeX C g ps (keepOf C.live a) (exec C a) (exec C b) st K0 else none) = some r0 := h0
    cases hxy : noRF a && noRF b with
    | false => rw [hxy] at h; cases h
    | true =>
      rw [hxy, cond_true] at h
      obtain ⟨e, s, h1, h2⟩ := rangeX_uni (exec_uni hN a) (exec_uni hN b) h
      exact ⟨e, s, h1, fun R K => by
        show (bif noRF a && noRF b then rangeX C g ps (keepOf C.live a) (exec C a) (exec C b) st K else none) = _
        rw [hxy, cond_true]; exact h2 R K⟩
theorem resultsA_uni {P : Program} {st : St} {R0 : Type} {r0 : R0} : ∀ (l : List ResultVar) (K0 : List TV → Option R0), resultsA P st l K0 = some r0 → ∃ vs, K0 vs = some r0 ∧ ∀ (R : Type) (K : List TV → Option R), resultsA P st l K = K vs
  | [], K0, h => ⟨[], h, fun _ _ => rfl⟩
  | .tmp t :: l, K0, h => by
    simp only [resultsA, Option.bind_eq_some_iff] at h
    obtain ⟨v, ⟨a, ha, hv⟩, h⟩ := h
    obtain ⟨vs, h1, h2⟩ := resultsA_uni l _ h
    exact ⟨v :: vs, h1, fun R K => by simp only [resultsA, ha, hv, Option.bind_some, h2]⟩
  | .cell x t :: l, K0, h => by
    simp only [resultsA, Option.bind_eq_some_iff] at h
    obtain ⟨a, ha, h⟩ := h
    obtain ⟨v, h, h3⟩ := loadA_uni h
    obtain ⟨h, hre⟩ := reAV_uni h
    simp only [Option.bind_eq_some_iff] at h
    obtain ⟨o, ho, h⟩ := h
    obtain ⟨vs, h1, h2⟩ := resultsA_uni l _ h
    exact ⟨o :: vs, h1, fun R K => by simp only [resultsA, ha, Option.bind_some, h3, hre, ho, h2]⟩

/-- What a function makes of arguments and of a heap. -/
abbrev ASem := List TV → Heap → Option (List TV × Heap)
/-- As a callee. -/
def natF (S : ASem) : FnSem := fun _ args H K => (S args H).bind fun p => K (oneOf p.1) p.2
theorem natF_nat (S : ASem) : FnNat (natF S) := by
  intro args H
  refine ⟨(S args H).map fun p => (oneOf p.1, p.2), ?_, ?_⟩
  · intro p hp
    simp only [Option.map_eq_some_iff] at hp
    obtain ⟨q, _, rfl⟩ := hp
    exact nolp_one q.1
  · intro R K
    simp only [natF]
    cases S args H <;> rfl
/-- How a frame ends: its results, its heap. -/
def retS (P : Program) (rs : List ResultVar) : AExit → St → Option (List TV × Heap)
  | .exit _, _ => none
  | .normal, st => resultsA P st rs fun vs => some (vs, st.heap)
  | .ret, st => resultsA P st rs fun vs => some (vs, st.heap)
/-- What a body does. -/
noncomputable def runS (C : Ctx) (rs : List ResultVar) (c : Code) : ASem := fun args H => exec C c ⟨initEnv 0 args, [], H⟩ (retS C.P rs)
theorem runS_uni (hN : CtxNat C) {rs : List ResultVar} {c : Code} {args : List TV} {H : Heap} {p : List TV × Heap} (h : runS C rs c args H = some p) {R : Type} {K : AV → Heap → Option R} : fnA C rs c R args H K = K (oneOf p.1) p.2 := by
  obtain ⟨e, s, h1, h2⟩ := exec_uni hN c _ p _ _ h
  rw [show fnA C rs c R args H K = _ from h2 R _]
  cases e with
  | exit id => cases h1
  | normal =>
    obtain ⟨vs, h3, h4⟩ := resultsA_uni _ _ h1
    cases h3
    exact h4 R _
  | ret =>
    obtain ⟨vs, h3, h4⟩ := resultsA_uni _ _ h1
    cases h3
    exact h4 R _
/-- A function does what its body does. -/
theorem runS_ok {g : Nat} {fn : Func} {c : Code} (hE : EnvOk C) (hN : CtxNat C) (hm : C.P.follows .mixedOrders = true) (hf : C.P.funcs[g]? = some fn) (hb : fn.body = some c)
    (hname : (fn.name == "runtime.NumGoroutine") = false) (hnt : C.nt ≤ fn.ntmps) : FnOk C.P g (natF (runS C fn.results.toList c)) := by
  refine fn_ok hE hN hm hf hb hname hnt fun R args H K r h => ?_
  simp only [natF, Option.bind_eq_some_iff] at h
  obtain ⟨p, h1, h2⟩ := h
  rw [runS_uni hN h1]
  exact h2
/-- One callee more, by its own body. -/
theorem Callees.run {P : Program} {fns : List (Nat × FnSem)} {pures nums : List Nat} (h : Callees P fns pures nums) {g : Nat} {fn : Func} {c : Code} (hP : C.P = P) (h1 : C.fns = fns) (h2 : C.pures = pures) (h3 : C.nums = nums) (hm : P.follows .mixedOrders = true)
    (hf : P.funcs[g]? = some fn) (hb : fn.body = some c) (hname : (fn.name == "runtime.NumGoroutine") = false) (hnt : C.nt ≤ fn.ntmps) (h4 : C.slices = [] := by rfl) (h5 : C.iters = [] := by rfl) :
    Callees P ((g, natF (runS C fn.results.toList c)) :: fns) (pures.filter (· != g)) (nums.filter (· != g)) := by
  subst hP
  exact h.cons (runS_ok (h.env h1) (h.ctx h1 h2 h3 h4 h5) hm hf hb hname hnt) (natF_nat _)
end
end Go.Proofs.YtnipccoenalnkaaGreat.Ab
