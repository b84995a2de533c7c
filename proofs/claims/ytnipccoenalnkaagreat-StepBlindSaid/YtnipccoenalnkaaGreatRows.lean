/-
  No cell of these rows narrows 'for every input' (looked for: loops, veiled, ifaces, maps, wideKeys, modest, calm, conditions, laid).
  DERIVED. THE GIVEN ROWS OF THIS SEAT. 5 by the template 'for every input the law returns true; each argument reads behind the call as it read before'; 0 by the template 'total and deterministic' (their statements: YtnipccoenalnkaaGreatTotals.lean).
  GIVEN WITH THE SEED: the statements are not yours to turn. If you find one false, say at which input.
  Laid BY PROGRAM, IN A SANDBOX (cutbox-rows.mjs): the forced cells as the released guide's own fill.sh prints them over the translation 87610a81f0059ce0… (all of the seat's roots in one cut). By AI agents, Wed Nov 11 2026. No macro, syntax, notation, axiom, sorry.
-/
import Derived.Test.YtnipccoenalnkaaGreatChecked
import GoSem.Claim
import GoSem.ClaimJoined
import GoSem.ClaimMapViews
import Derived.JoinedTies
import Derived.KernelRfl
namespace Go.Proofs.YtnipccoenalnkaaGreat
/- THE CELL 'sum', in the pinned program and in every row, IS THE sha256 OF THE DUMP (.gsa) THAT YtnipccoenalnkaaGreatProg.lean LOADS. Nothing in Lean hashes anything: it is a label: what it is worth is what the hold of that sum in a sandbox is worth. -/
noncomputable def Tryz.pinned : Pinned := { name := "ytnipccoenalnkaagreat", sum := "87610a81f0059ce0e669ee31ca61110538984dc8ee5f014029e178ada6a4b782", checked := Tryz.checked }
namespace Rows
def none {H : Type} : Left H := { results := [], args := [] }

/-- 'calquelaw10.StepStack': WHATEVER THE INPUT: true; the input reads as it did. -/
def stepStackSpec : ChangeSpec := { name := "stepStack", fn := fun _ => fun
  | [d1, d2, d3, d4] => { results := [.lit (.bool true)], args := [d1, d2, d3, d4] }
  | _ => none }
def stepStackRow : OpenClaim := { program := "ytnipccoenalnkaagreat", sum := "87610a81f0059ce0e669ee31ca61110538984dc8ee5f014029e178ada6a4b782", func := "calque/calquelaw10.StepStack", spec := "stepStack", inPlace := ["math/bits.Add64", "math/bits.Sub64"], unfollowed := true, recurses := true, apart := false }
def StepStackSaid : Prop := stepStackRow.holds Tryz.pinned (OpenSpec.ofChange stepStackSpec)

/-- ITS FALSE NEIGHBOUR: 'it returns false'. Refute it at one input. -/
def stepStackWrong : ChangeSpec := { name := "stepStack", fn := fun _ => fun
  | [d1, d2, d3, d4] => { results := [.lit (.bool false)], args := [d1, d2, d3, d4] }
  | _ => none }
def StepStackWrongFalsely : Prop := stepStackRow.holds Tryz.pinned (OpenSpec.ofChange stepStackWrong)

/-- 'calquelaw10.StepDoes': WHATEVER THE INPUT: true; the input reads as it did. -/
def stepDoesSpec : ChangeSpec := { name := "stepDoes", fn := fun _ => fun
  | [d1, d2, d3] => { results := [.lit (.bool true)], args := [d1, d2, d3] }
  | _ => none }
def stepDoesRow : OpenClaim := { program := "ytnipccoenalnkaagreat", sum := "87610a81f0059ce0e669ee31ca61110538984dc8ee5f014029e178ada6a4b782", func := "calque/calquelaw10.StepDoes", spec := "stepDoes", inPlace := ["math/bits.Add64", "math/bits.Sub64"], unfollowed := true, recurses := true, apart := false }
def StepDoesSaid : Prop := stepDoesRow.holds Tryz.pinned (OpenSpec.ofChange stepDoesSpec)

/-- ITS FALSE NEIGHBOUR: 'it returns false'. Refute it at one input. -/
def stepDoesWrong : ChangeSpec := { name := "stepDoes", fn := fun _ => fun
  | [d1, d2, d3] => { results := [.lit (.bool false)], args := [d1, d2, d3] }
  | _ => none }
def StepDoesWrongFalsely : Prop := stepDoesRow.holds Tryz.pinned (OpenSpec.ofChange stepDoesWrong)

/-- 'calquelaw10.StepSets': WHATEVER THE INPUT: true; the input reads as it did. -/
def stepSetsSpec : ChangeSpec := { name := "stepSets", fn := fun _ => fun
  | [d1, d2] => { results := [.lit (.bool true)], args := [d1, d2] }
  | _ => none }
def stepSetsRow : OpenClaim := { program := "ytnipccoenalnkaagreat", sum := "87610a81f0059ce0e669ee31ca61110538984dc8ee5f014029e178ada6a4b782", func := "calque/calquelaw10.StepSets", spec := "stepSets", inPlace := ["math/bits.Add64", "math/bits.Sub64"], unfollowed := true, recurses := true, apart := false }
def StepSetsSaid : Prop := stepSetsRow.holds Tryz.pinned (OpenSpec.ofChange stepSetsSpec)

/-- ITS FALSE NEIGHBOUR: 'it returns false'. Refute it at one input. -/
def stepSetsWrong : ChangeSpec := { name := "stepSets", fn := fun _ => fun
  | [d1, d2] => { results := [.lit (.bool false)], args := [d1, d2] }
  | _ => none }
def StepSetsWrongFalsely : Prop := stepSetsRow.holds Tryz.pinned (OpenSpec.ofChange stepSetsWrong)

/-- 'calquelaw10.StepBlind': WHATEVER THE INPUT: true; the input reads as it did. -/
def stepBlindSpec : ChangeSpec := { name := "stepBlind", fn := fun _ => fun
  | [d1, d2, d3] => { results := [.lit (.bool true)], args := [d1, d2, d3] }
  | _ => none }
def stepBlindRow : OpenClaim := { program := "ytnipccoenalnkaagreat", sum := "87610a81f0059ce0e669ee31ca61110538984dc8ee5f014029e178ada6a4b782", func := "calque/calquelaw10.StepBlind", spec := "stepBlind", inPlace := ["math/bits.Add64", "math/bits.Sub64"], unfollowed := true, recurses := true, apart := false }
def StepBlindSaid : Prop := stepBlindRow.holds Tryz.pinned (OpenSpec.ofChange stepBlindSpec)

/-- ITS FALSE NEIGHBOUR: 'it returns false'. Refute it at one input. -/
def stepBlindWrong : ChangeSpec := { name := "stepBlind", fn := fun _ => fun
  | [d1, d2, d3] => { results := [.lit (.bool false)], args := [d1, d2, d3] }
  | _ => none }
def StepBlindWrongFalsely : Prop := stepBlindRow.holds Tryz.pinned (OpenSpec.ofChange stepBlindWrong)

/-- 'calquelaw10.StepPrecise': WHATEVER THE INPUT: true; the input reads as it did. -/
def stepPreciseSpec : ChangeSpec := { name := "stepPrecise", fn := fun _ => fun
  | [d1, d2] => { results := [.lit (.bool true)], args := [d1, d2] }
  | _ => none }
def stepPreciseRow : OpenClaim := { program := "ytnipccoenalnkaagreat", sum := "87610a81f0059ce0e669ee31ca61110538984dc8ee5f014029e178ada6a4b782", func := "calque/calquelaw10.StepPrecise", spec := "stepPrecise", inPlace := ["math/bits.Add64", "math/bits.Sub64"], unfollowed := true, recurses := true, apart := false }
def StepPreciseSaid : Prop := stepPreciseRow.holds Tryz.pinned (OpenSpec.ofChange stepPreciseSpec)

/-- ITS FALSE NEIGHBOUR: 'it returns false'. Refute it at one input. -/
def stepPreciseWrong : ChangeSpec := { name := "stepPrecise", fn := fun _ => fun
  | [d1, d2] => { results := [.lit (.bool false)], args := [d1, d2] }
  | _ => none }
def StepPreciseWrongFalsely : Prop := stepPreciseRow.holds Tryz.pinned (OpenSpec.ofChange stepPreciseWrong)

/- THE SECOND FORM. 'bulk': how many values and letters a reading holds, each counted each time it is reached (what is shared counts as often as it is met; a slice's spare places count too). A statement '..UptoSaid' is the law's where the arguments, and the package variables that the reading takes, are together of bulk at most 1048576: NARROWER than '..Said'. Prove '..Said' where nothing that the law and all that it calls make is longer than what came in: it says more and counts as full. Else prove '..UptoSaid'. A law counts once. -/
mutual
def uptoBulk {H : Type} : DataW H → Nat
  | .lit (.string bytes) => bytes.length + 1
  | .lit _ => 1
  | .nil => 1
  | .ptr d => uptoBulk d + 1
  | .slice elems spare => uptoBulkAll elems + uptoBulkAll spare + 1
  | .agg parts => uptoBulkAll parts + 1
  | .iface _ d => uptoBulk d + 1
  | .map entries => uptoBulkEntries entries + 1
  | .held _ => 1
def uptoBulkAll {H : Type} : List (DataW H) → Nat
  | [] => 0
  | d :: r => uptoBulk d + uptoBulkAll r
def uptoBulkEntries {H : Type} : List (Lit × DataW H) → Nat
  | [] => 0
  | x :: r => uptoBulkEntry x + uptoBulkEntries r
def uptoBulkEntry {H : Type} : Lit × DataW H → Nat
  | (.string bytes, d) => bytes.length + uptoBulk d + 1
  | (_, d) => uptoBulk d + 1
 end
def uptoSmall : (H : Type) → List (DataW H) → Bool := fun _ ds => decide (uptoBulkAll ds ≤ 1048576)
def OpenSpec.upto (s : _root_.Go.ChangeSpec) : _root_.Go.OpenSpec := { _root_.Go.OpenSpec.ofChange s with cond := some uptoSmall }

/-- 'calquelaw10.StepStack', WHERE WHAT IT READS IS OF BULK AT MOST 1048576: true; the input reads as it did. -/
def stepStackUptoRow : OpenClaim := { program := "ytnipccoenalnkaagreat", sum := "87610a81f0059ce0e669ee31ca61110538984dc8ee5f014029e178ada6a4b782", func := "calque/calquelaw10.StepStack", spec := "stepStack", inPlace := ["math/bits.Add64", "math/bits.Sub64"], unfollowed := true, recurses := true, apart := false, narrowed := true }
def StepStackUptoSaid : Prop := stepStackUptoRow.holds Tryz.pinned (OpenSpec.upto stepStackSpec)

/-- 'calquelaw10.StepDoes', WHERE WHAT IT READS IS OF BULK AT MOST 1048576: true; the input reads as it did. -/
def stepDoesUptoRow : OpenClaim := { program := "ytnipccoenalnkaagreat", sum := "87610a81f0059ce0e669ee31ca61110538984dc8ee5f014029e178ada6a4b782", func := "calque/calquelaw10.StepDoes", spec := "stepDoes", inPlace := ["math/bits.Add64", "math/bits.Sub64"], unfollowed := true, recurses := true, apart := false, narrowed := true }
def StepDoesUptoSaid : Prop := stepDoesUptoRow.holds Tryz.pinned (OpenSpec.upto stepDoesSpec)

/-- 'calquelaw10.StepSets', WHERE WHAT IT READS IS OF BULK AT MOST 1048576: true; the input reads as it did. -/
def stepSetsUptoRow : OpenClaim := { program := "ytnipccoenalnkaagreat", sum := "87610a81f0059ce0e669ee31ca61110538984dc8ee5f014029e178ada6a4b782", func := "calque/calquelaw10.StepSets", spec := "stepSets", inPlace := ["math/bits.Add64", "math/bits.Sub64"], unfollowed := true, recurses := true, apart := false, narrowed := true }
def StepSetsUptoSaid : Prop := stepSetsUptoRow.holds Tryz.pinned (OpenSpec.upto stepSetsSpec)

/-- 'calquelaw10.StepBlind', WHERE WHAT IT READS IS OF BULK AT MOST 1048576: true; the input reads as it did. -/
def stepBlindUptoRow : OpenClaim := { program := "ytnipccoenalnkaagreat", sum := "87610a81f0059ce0e669ee31ca61110538984dc8ee5f014029e178ada6a4b782", func := "calque/calquelaw10.StepBlind", spec := "stepBlind", inPlace := ["math/bits.Add64", "math/bits.Sub64"], unfollowed := true, recurses := true, apart := false, narrowed := true }
def StepBlindUptoSaid : Prop := stepBlindUptoRow.holds Tryz.pinned (OpenSpec.upto stepBlindSpec)

/-- 'calquelaw10.StepPrecise', WHERE WHAT IT READS IS OF BULK AT MOST 1048576: true; the input reads as it did. -/
def stepPreciseUptoRow : OpenClaim := { program := "ytnipccoenalnkaagreat", sum := "87610a81f0059ce0e669ee31ca61110538984dc8ee5f014029e178ada6a4b782", func := "calque/calquelaw10.StepPrecise", spec := "stepPrecise", inPlace := ["math/bits.Add64", "math/bits.Sub64"], unfollowed := true, recurses := true, apart := false, narrowed := true }
def StepPreciseUptoSaid : Prop := stepPreciseUptoRow.holds Tryz.pinned (OpenSpec.upto stepPreciseSpec)

end Rows
end Go.Proofs.YtnipccoenalnkaaGreat
