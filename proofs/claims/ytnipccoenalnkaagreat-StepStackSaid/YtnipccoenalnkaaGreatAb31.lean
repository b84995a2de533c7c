/- The abstract machine, 31: bytealg.IndexByte, of strings and of slices, as callees. -/
import Derived.Test.YtnipccoenalnkaaGreatAb30
import Derived.Lib.BytesEntry
namespace Go.Proofs.YtnipccoenalnkaaGreat.Ab
open Go
set_option linter.unusedSimpArgs false
set_option linter.unusedVariables false

theorem TLR.pair {ρ : Rho} {x y : TV} {args' : Array Value} (h : TLR ρ [x, y] args'.toList) : ∃ a b, args' = #[a, b] ∧ TR ρ x a ∧ TR ρ y b := by
  obtain ⟨l⟩ := args'
  cases h with
  | cons h1 h => cases h with
    | cons h2 h => cases h; exact ⟨_, _, rfl, h1, h2⟩
end Go.Proofs.YtnipccoenalnkaaGreat.Ab
