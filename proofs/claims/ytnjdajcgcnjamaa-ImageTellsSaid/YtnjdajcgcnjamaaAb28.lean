/- The abstract machine, 28: loops and functions in direct style: what they come to, without a continuation. -/
import Derived.Test.YtnjdajcgcnjamaaAb27
namespace Go.Proofs.Ytnjdajcgcnjamaa.Ab
open Go
set_option linter.unusedVariables false
set_option linter.unusedSimpArgs false

/-- A value that is not to be opened. -/
noncomputable def hide.{u} {α : Sort u} (a : α) : α := Classical.choose (⟨a, rfl⟩ : ∃ x, x = a)
theorem hide_eq.{u} {α : Sort u} (a : α) : hide a = a := Classical.choose_spec (⟨a, rfl⟩ : ∃ x, x = a)

def retD (e : AExit) (s : St) : Option (AExit × St) := some (e, s)
/-- What a loop comes to. -/
noncomputable def loopsD (C : Ctx) (c : Code) (st : St) : Option (AExit × St) := hide (loops C c st retD)
/-- The same, and what follows. -/
noncomputable def lpD {R : Type} (C : Ctx) (c : Code) (st : St) (K : AExit → St → Option R) : Option R := (loopsD C c st).bind fun p => K p.1 p.2

section
variable {C : Ctx} {R : Type}
theorem loops_lpD (hN : CtxNat C) (c : Code) (st : St) (K : AExit → St → Option R) : loops C c st K = lpD C c st K := by
  unfold lpD loopsD
  rw [hide_eq]
  cases h : loops C c st retD with
  | some p =>
    obtain ⟨e, s, h1, h2⟩ := loops_uni hN c _ _ _ _ h
    cases h1
    exact h2 R K
  | none =>
    cases h' : loops C c st K with
    | none => rfl
    | some r =>
      obtain ⟨e, s, h1, h2⟩ := loops_uni hN c _ _ _ _ h'
      have : loops C c st retD = retD e s := h2 _ retD
      rw [h] at this
      cases this
theorem loops_lpD' (hN : CtxNat C) : (loops C : Code → St → (AExit → St → Option R) → Option R) = lpD C := by
  funext c st K; exact loops_lpD hN c st K
theorem fnA_lpD (hN : CtxNat C) (rs : List ResultVar) (c : Code) (args : List TV) (H : Heap) (K : AV → Heap → Option R) : fnA C rs c R args H K = fnL C (lpD C) rs c args H K := by
  rw [fnA_eq, loops_lpD' hN]
theorem loopN_stepD (hN : CtxNat C) (c : Code) (n : Nat) (st : St) (K : AExit → St → Option R) :
    loopN (exec C c) (keepOf C.live c) (n + 1) st K = execL C (lpD C) c st (loopK (keepOf C.live c) (loopN (exec C c) (keepOf C.live c) n) K) := by
  rw [loopN_step, loops_lpD' hN]
/-- A loop has so many rounds left. -/
theorem loopsD_of (C : Ctx) (c : Code) (st : St) (m : Nat) (hm : m < 18446744073709551616) (hc : isRF c = false := by kernel_rfl) : ∃ n, loopsD C c st = loopN (exec C c) (keepOf C.live c) (n + m + 1) st retD := by
  obtain ⟨n, hn⟩ := loops_of C c st retD m hm hc
  exact ⟨n, by rw [loopsD, hide_eq]; exact hn⟩
end
theorem bnd {α β : Type} {o : Option α} {a : α} {f : α → Option β} {r : Option β} (h : o = some a) (h2 : f a = r) : o.bind f = r := by rw [h]; exact h2
end Go.Proofs.Ytnjdajcgcnjamaa.Ab
