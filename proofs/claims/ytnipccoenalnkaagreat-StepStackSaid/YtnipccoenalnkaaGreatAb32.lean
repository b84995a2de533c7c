/- The abstract machine, 32: a function whose new blocks nobody sees any more is one without a heap. -/
import Derived.Test.YtnipccoenalnkaaGreatAb31
namespace Go.Proofs.YtnipccoenalnkaaGreat.Ab
open Go
set_option linter.unusedVariables false
set_option linter.unusedSimpArgs false

def plainC : Cell → Bool
  | .bool _ => true
  | .int _ _ => true
  | .str _ => true
  | _ => false
def plainTV : TV → Bool
  | .c x => plainC x
  | .agg l => l.all plainC
theorem CR.plain {ρ ρ' : Rho} {x : Cell} {v : Value} (h : CR ρ x v) (hp : plainC x = true) : CR ρ' x v := by
  cases h <;> simp [plainC] at hp <;> constructor
theorem LR.plain {ρ ρ' : Rho} : ∀ {xs : List Cell} {vs : List Value}, LR ρ xs vs → xs.all plainC = true → LR ρ' xs vs
  | _, _, .nil, _ => .nil
  | _, _, .cons a t, h => by
    simp only [List.all_cons, Bool.and_eq_true] at h
    exact .cons (CR.plain a h.1) (LR.plain t h.2)
theorem TR.plain {ρ ρ' : Rho} {x : TV} {v : Value} (h : TR ρ x v) (hp : plainTV x = true) : TR ρ' x v := by
  cases h with
  | c h => exact .c (h.plain hp)
  | agg h => exact .agg (h.plain hp)
theorem TLR.plain {ρ ρ' : Rho} : ∀ {xs : List TV} {vs : List Value}, TLR ρ xs vs → xs.all plainTV = true → TLR ρ' xs vs
  | _, _, .nil, _ => .nil
  | _, _, .cons a t, h => by
    simp only [List.all_cons, Bool.and_eq_true] at h
    exact .cons (TR.plain a h.1) (TLR.plain t h.2)
theorem AR.plain {ρ ρ' : Rho} {L : Nat → Option Nat} {vs : List TV} {v : Value} (h : AR ρ L (oneOf vs) v) (hp : vs.all plainTV = true) : AR ρ' L (oneOf vs) v := by
  cases vs with
  | nil => cases h with | tup h => exact .tup (TLR.plain h hp)
  | cons x t =>
    cases t with
    | nil =>
      cases x with
      | c x => cases h with | c h => exact .c (CR.plain h (by simpa [plainTV] using hp))
      | agg l => cases h with | agg h => exact .agg (LR.plain h (by simpa [plainTV] using hp))
    | cons y t => cases h with | tup h => exact .tup (TLR.plain h hp)
end Go.Proofs.YtnipccoenalnkaaGreat.Ab
