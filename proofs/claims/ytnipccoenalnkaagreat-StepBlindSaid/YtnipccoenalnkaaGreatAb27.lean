/- The abstract machine, 27: typed functions that leave the heap alone: their callers may load beside them. -/
import Derived.Test.YtnipccoenalnkaaGreatAb26
namespace Go.Proofs.YtnipccoenalnkaaGreat.Ab
open Go
set_option linter.unusedVariables false
set_option linter.unusedSimpArgs false

open Classical in
/-- What a function comes to that leaves the heap as it was. -/
noncomputable def readOf {α : Type} (q : Option (α × Heap)) (H : Heap) : Option α := q.bind fun p => if p.2 = H then some p.1 else none
/-- Such a function as a callee. -/
def readF {α : Type} (enc : α → List TV) (S : List TV → Heap → Option α) : FnSem := fun _ args H K => (S args H).bind fun r => K (oneOf (enc r)) H
theorem readF_pure {α : Type} (enc : α → List TV) (S : List TV → Heap → Option α) : FnPure (readF enc S) := by
  intro args H
  refine ⟨(S args H).map fun r => oneOf (enc r), ?_, ?_⟩
  · intro v hv
    simp only [Option.map_eq_some_iff] at hv
    obtain ⟨q, _, rfl⟩ := hv
    exact nolp_one _
  · intro R K
    simp only [readF]
    cases S args H <;> rfl
end Go.Proofs.YtnipccoenalnkaaGreat.Ab
