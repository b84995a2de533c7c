/- The abstract machine, 22: loops. -/
import Derived.Test.YtnipccoenalnkaaGreatAb21
import Derived.KernelRfl
namespace Go.Proofs.YtnipccoenalnkaaGreat.Ab
open Go
set_option linter.unusedVariables false
set_option linter.unusedSimpArgs false

theorem loopN_step {R : Type} (C : Ctx) (c : Code) (n : Nat) (st : St) (K : AExit → St → Option R) :
    loopN (exec C c) (keepOf C.live c) (n + 1) st K = execL C (loops C) c st (loopK (keepOf C.live c) (loopN (exec C c) (keepOf C.live c) n) K) := by
  rw [loopN, exec_eq]
theorem loops_loop {R : Type} (C : Ctx) (c : Code) (st : St) (K : AExit → St → Option R) (hc : isRF c = false) : loops C c st K = loopN (exec C c) (keepOf C.live c) big st K := by
  unfold loops
  split
  · simp [isRF] at hc
  · rfl
/-- A loop has so many rounds left. -/
theorem loops_of {R : Type} (C : Ctx) (c : Code) (st : St) (K : AExit → St → Option R) (m : Nat) (hm : m < 18446744073709551616) (hc : isRF c = false := by kernel_rfl) :
    ∃ n, loops C c st K = loopN (exec C c) (keepOf C.live c) (n + m + 1) st K := by
  refine ⟨big - m - 1, ?_⟩
  rw [loops_loop _ _ _ _ hc]
  have : big - m - 1 + m + 1 = big := by unfold big; omega
  rw [this]
end Go.Proofs.YtnipccoenalnkaaGreat.Ab
