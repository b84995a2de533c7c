/- The abstract machine, 31: bytealg.IndexByte, of strings and of slices, as callees. -/
import Derived.Test.YtnjdajcgcnjamaaAb30
import Derived.Lib.BytesEntry
namespace Go.Proofs.Ytnjdajcgcnjamaa.Ab
open Go
set_option linter.unusedSimpArgs false
set_option linter.unusedVariables false

def idxS : List TV → Option (List TV)
  | [.c (.str s), .c (.int .u8 c)] => some [.c (.int .i64 (Lib.indexByte s.data.toList c.toNat.toUInt8))]
  | _ => none
theorem TLR.pair {ρ : Rho} {x y : TV} {args' : Array Value} (h : TLR ρ [x, y] args'.toList) : ∃ a b, args' = #[a, b] ∧ TR ρ x a ∧ TR ρ y b := by
  obtain ⟨l⟩ := args'
  cases h with
  | cons h1 h => cases h with
    | cons h2 h => cases h; exact ⟨_, _, rfl, h1, h2⟩
theorem TR.cell' {ρ : Rho} {x : Cell} {v : Value} (h : TR ρ (.c x) v) : CR ρ x v := by cases h; assumption
theorem idxS_ok {P : Program} {g : Nat} {fn : Func} (hf : P.funcs[g]? = some fn) (h1 : (fn.name == "runtime.NumGoroutine") = false) (h2 : fn.body.isNone = true) (h3 : Extern.findNext fn = none)
    (h4 : Extern.find fn = some Extern.BytealgIndexByte.indexByte) : FnOk P g (numF idxS) := by
  refine numF_ok fun args vs h ρ args' ha => ?_
  unfold idxS at h
  split at h
  · rename_i s c
    simp only [Option.some.injEq] at h
    subst h
    obtain ⟨a, b, rfl, ha, hb⟩ := ha.pair
    rw [hb.int]
    cases ha.cell'
    refine ⟨.int .i64 (Lib.indexByte s.data.toList c.toNat.toUInt8), fun w => ?_, .c (.int _ _)⟩
    rw [run_callFunc_extern hf h1 h2 h3 h4, Lib.run_indexByteString]
    rfl
  · cases h
theorem numX_ok {P : Program} {g : Nat} {f f' : List TV → Option (List TV)} (h : FnOk P g (numF f)) (hS : ∀ args vs, f' args = some vs → f args = some vs) : FnOk P g (numF f') := by
  intro R args H K r hr
  refine h R args H K r ?_
  simp only [numF, Option.bind_eq_some_iff] at hr
  obtain ⟨x, h1, h2⟩ := hr
  simp only [numF, hS _ _ h1, Option.bind_some]
  exact h2
end Go.Proofs.Ytnjdajcgcnjamaa.Ab
