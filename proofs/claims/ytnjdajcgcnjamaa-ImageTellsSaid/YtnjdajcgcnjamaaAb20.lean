/- The abstract machine, 20: callees without a body. -/
import Derived.Test.YtnjdajcgcnjamaaAb19
import Derived.Laws.Externs
import Derived.Shelf.Spec.BitsCarry
namespace Go.Proofs.Ytnjdajcgcnjamaa.Ab
open Go
set_option linter.unusedVariables false
set_option linter.unusedSimpArgs false

theorem numF_ok {P : Program} {g : Nat} {f : List TV → Option (List TV)}
    (h : ∀ args vs, f args = some vs → ∀ (ρ : Rho) (args' : Array Value), TLR ρ args args'.toList → ∃ v, (∀ w, (callFunc g args').run P w = .ok (.value v) w) ∧ AR ρ (fun _ => none) (oneOf vs) v) : FnOk P g (numF f) := by
  intro R args H K r hF ρ w args' hH ha rd o a next Q hn
  simp only [numF, Option.bind_eq_some_iff] at hF
  obtain ⟨vs, hvs, hK⟩ := hF
  obtain ⟨v, h1, h2⟩ := h args vs hvs ρ args' ha
  rw [h1 w, Oper.uponIn_value]
  exact hn _ _ ρ v w hK hH h2 (Fr.refl _ _ _)

theorem TR.int {ρ : Rho} {k : IntKind} {n : Int} {v : Value} (h : TR ρ (.c (.int k n)) v) : v = .int k n := by
  cases h with
  | c h => cases h; rfl

def m64 : Int := 18446744073709551616
def addF : List TV → Option (List TV)
  | [.c (.int .u64 x), .c (.int .u64 y), .c (.int .u64 c)] => some [.c (.int .u64 ((x + y + c) % m64)), .c (.int .u64 ((x + y + c) / m64))]
  | _ => none
end Go.Proofs.Ytnjdajcgcnjamaa.Ab
