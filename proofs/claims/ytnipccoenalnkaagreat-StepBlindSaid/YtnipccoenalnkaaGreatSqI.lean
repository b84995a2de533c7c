/- Layer 10's laws: StepPrecise. -/
import Derived.Test.YtnipccoenalnkaaGreatSqH
import Derived.Test.YtnipccoenalnkaaGreatSmZ
namespace Go.Proofs.YtnipccoenalnkaaGreat
open Go Go.Proofs.YtnipccoenalnkaaGreat.Ab
set_option linter.unusedVariables false
set_option linter.unusedSimpArgs false
set_option maxRecDepth 100000
noncomputable section
theorem eqA16 (r : TA16u64) : (r.a0 == r.a0 && (r.a1 == r.a1 && (r.a2 == r.a2 && (r.a3 == r.a3 && (r.a4 == r.a4 && (r.a5 == r.a5 && (r.a6 == r.a6 && (r.a7 == r.a7 && (r.a8 == r.a8 && (r.a9 == r.a9 && (r.a10 == r.a10 && (r.a11 == r.a11 && (r.a12 == r.a12 && (r.a13 == r.a13 && (r.a14 == r.a14 && (r.a15 == r.a15 && true)))))))))))))))) = true := by simp
end
end Go.Proofs.YtnipccoenalnkaaGreat
