/- The abstract machine, 27: typed functions that leave the heap alone: their callers may load beside them. -/
import Derived.Test.YtnipccoenalnkaaGreatAb26
namespace Go.Proofs.YtnipccoenalnkaaGreat.Ab
open Go
set_option linter.unusedVariables false
set_option linter.unusedSimpArgs false

open Classical in
/-- What a function comes to that leaves the heap as it was. -/
noncomputable def readOf {α : Type} (q : Option (α × Heap)) (H : Heap) : Option α := q.bind fun p => if p.2 = H then some p.1 else none
end Go.Proofs.YtnipccoenalnkaaGreat.Ab
