/- The abstract machine, 28: loops and functions in direct style: what they come to, without a continuation. -/
import Derived.Test.YtnipccoenalnkaaGreatAb27
namespace Go.Proofs.YtnipccoenalnkaaGreat.Ab
open Go
set_option linter.unusedVariables false
set_option linter.unusedSimpArgs false

/-- A value that is not to be opened. -/
noncomputable def hide.{u} {α : Sort u} (a : α) : α := Classical.choose (⟨a, rfl⟩ : ∃ x, x = a)
theorem hide_eq.{u} {α : Sort u} (a : α) : hide a = a := Classical.choose_spec (⟨a, rfl⟩ : ∃ x, x = a)

def retD (e : AExit) (s : St) : Option (AExit × St) := some (e, s)
/-- What a loop comes to. -/
noncomputable def loopsD (C : Ctx) (c : Code) (st : St) : Option (AExit × St) := hide (loops C c st retD)
/-- The same, and what follows. -/
noncomputable def lpD {R : Type} (C : Ctx) (c : Code) (st : St) (K : AExit → St → Option R) : Option R := (loopsD C c st).bind fun p => K p.1 p.2

section
variable {C : Ctx} {R : Type}
theorem loops_lpD (hN : CtxNat C) (c : Code) (st : St) (K : AExit → St → Option R) : loops C c st K = lpD C c st K := by
  unfold lpD loopsD
  rw [hide_eq]
  cases h : loops C c st retD with
  | some p =>
    obtain ⟨e, s, h1, h2⟩ := loops_uni hN c _ _ _ _ h
    cases h1
    exact h2 R K
  | none =>
    cases h' : loops C c st K with
    | none => rfl
    | some r =>
      obtain ⟨e, s, h1, h2⟩ := loops_uni hN c _ _ _ _ h'
      have : loops C c st retD = retD e s := h2 _ retD
      rw [h] at this
      cases this
theorem loops_lpD' (hN : CtxNat C) : (loops C : Code → St → (AExit → St → Option R) → Option R) = lpD C := by
  funext c st K; exact loops_lpD hN c st K
theorem fnA_lpD (hN : CtxNat C) (rs : List ResultVar) (c : Code) (args : List TV) (H : Heap) (K : AV → Heap → Option R) : fnA C rs c R args H K = fnL C (lpD C) rs c args H K := by
  rw [fnA_eq, loops_lpD' hN]
theorem loopN_stepD (hN : CtxNat C) (c : Code) (n : Nat) (st : St) (K : AExit → St → Option R) :
    loopN (exec C c) (keepOf C.live c) (n + 1) st K = execL C (lpD C) c st (loopK (keepOf C.live c) (loopN (exec C c) (keepOf C.live c) n) K) := by
  rw [loopN_step, loops_lpD' hN]
/-- A loop has so many rounds left. -/
theorem loopsD_of (C : Ctx) (c : Code) (st : St) (m : Nat) (hm : m < 18446744073709551616) (hc : isRF c = false := by kernel_rfl) : ∃ n, loopsD C c st = loopN (exec C c) (keepOf C.live c) (n + m + 1) st retD := by
  obtain ⟨n, hn⟩ := loops_of C c st retD m hm hc
  exact ⟨n, by rw [loopsD, hide_eq]; exact hn⟩
/-- What the rounds of a range come to. -/
def retH (e : AExit) (H : Heap) : Option (AExit × Heap) := some (e, H)
theorem exec_lpD (hN : CtxNat C) (c : Code) : (exec (R := R) C c) = execL C (lpD C) c := by
  funext st K; rw [exec_eq, loops_lpD' hN]
theorem rangeN_stepD (hN : CtxNat C) (ts te id off t1 t2 : Nat) (a b : Code) (env : List (Nat × AV)) (n : Nat) (H : Heap) (K : AExit → Heap → Option R) :
    rangeN C ts te id off t1 t2 (exec C a) (exec C b) env (n + 1) H K = caught C.P ts id off H fun x => indexA C.P ts (.c (.slice x)) ((n : Nat) : Int) fun y => loadA C.P ⟨[], [], H⟩ te y fun v => reAV C.P te v fun v => v.out.bind fun tv =>
      execL C (lpD C) a ((St.set ⟨env, [], H⟩ (some t1) (.c (.int .i64 ((n : Nat) : Int)))).set (some t2) tv.av) (roundA (execL C (lpD C) b) (roundB (fun H => rangeN C ts te id off t1 t2 (exec C a) (exec C b) env n H K) K)) := by
  rw [rangeN, exec_lpD hN b, exec_lpD hN a]
theorem loopsD_range (hN : CtxNat C) (g : Operand) (ps : Array Tmp) (a b : Code) (st : St) (ts te id off t1 t2 gf : Nat) (h1 : ps.toList = [t1, t2]) (h2 : evc st g = some (.fn gf [] [.ptr (some (id, off))]))
    (h3 : look C.iters gf = some (ts, te)) (h4 : (Nat.blt t1 C.nt && Nat.blt t2 C.nt) = true) (h5 : (noRF a && noRF b) = true) :
    loopsD C (.rangeFunc g ps a b) st = caught C.P ts id off st.heap fun x => bif decide (slen x ≤ 9223372036854775807) then
      (rangeN C ts te id off t1 t2 (exec C a) (exec C b) (envOf (keepOf C.live a) st.env) (slen x).toNat st.heap retH).bind fun p => some (p.1, tidy2 (keepOf C.live a) (st.withHeap p.2)) else none := by
  rw [loopsD, hide_eq]
  show (bif noRF a && noRF b then rangeX C g ps (keepOf C.live a) (exec C a) (exec C b) st retD else none) = _
  rw [h5, cond_true]
  unfold rangeX
  rw [h1]
  simp only [h2, Option.bind_some, h3, h4, cond_true]
  congr 1
  funext x
  cases decide (slen x ≤ 9223372036854775807)
  · rfl
  · simp only [cond_true]
    generalize (slen x).toNat = n
    generalize envOf (keepOf C.live a) st.env = env
    cases h : rangeN C ts te id off t1 t2 (exec C a) (exec C b) env n st.heap retH with
    | some p =>
      obtain ⟨e, H', k1, k2⟩ := rangeN_uni (exec_uni hN a) (exec_uni hN b) n st.heap _ h
      cases k1
      exact k2 _ _
    | none =>
      cases h' : rangeN C ts te id off t1 t2 (exec C a) (exec C b) env n st.heap fun e H => retD e (tidy2 (keepOf C.live a) (st.withHeap H)) with
      | none => rfl
      | some r =>
        obtain ⟨e, H', k1, k2⟩ := rangeN_uni (exec_uni hN a) (exec_uni hN b) n st.heap _ h'
        have := k2 _ retH
        rw [h] at this
        cases this
end
theorem bnd {α β : Type} {o : Option α} {a : α} {f : α → Option β} {r : Option β} (h : o = some a) (h2 : f a = r) : o.bind f = r := by rw [h]; exact h2
theorem cdf {α : Type} {c : Bool} {a b r : α} (h : c = false) (h2 : b = r) : (bif c then a else b) = r := by rw [h]; exact h2
theorem cdt {α : Type} {c : Bool} {a b r : α} (h : c = true) (h2 : a = r) : (bif c then a else b) = r := by rw [h]; exact h2
end Go.Proofs.YtnipccoenalnkaaGreat.Ab
