/-
  No cell of these rows narrows 'for every input' (looked for: loops, veiled, ifaces, maps, wideKeys, modest, calm, conditions, laid).
  DERIVED. THE GIVEN ROWS OF THIS SEAT. 5 by the template 'for every input the law returns true; each argument reads behind the call as it read before'; 0 by the template 'total and deterministic' (their statements: YtebpmmffilakaaaTotals.lean).
  GIVEN WITH THE SEED: the statements are not yours to turn. If you find one false, say at which input.
  Laid BY PROGRAM, IN A SANDBOX (cutbox-rows.mjs): the forced cells as the released guide's own fill.sh prints them over the translation 71c4d97bbc585116… (all of the seat's roots in one cut). By AI agents, Wed Nov 11 2026. No macro, syntax, notation, axiom, sorry.
-/
import Derived.Test.YtebpmmffilakaaaChecked
import GoSem.Claim
import GoSem.ClaimJoined
import GoSem.ClaimMapViews
import Derived.JoinedTies
import Derived.KernelRfl
namespace Go.Proofs.Ytebpmmffilakaaa
/- THE CELL 'sum', in the pinned program and in every row, IS THE sha256 OF THE DUMP (.gsa) THAT YtebpmmffilakaaaProg.lean LOADS. Nothing in Lean hashes anything: it is a label: what it is worth is what the hold of that sum in a sandbox is worth. -/
noncomputable def Try.pinned : Pinned := { name := "ytebpmmffilakaaa", sum := "71c4d97bbc585116201a08d739c43ee482182aa70af44ff3ec24e9942bceb882", checked := Try.checked }
namespace Rows
def none {H : Type} : Left H := { results := [], args := [] }

/-- 'calquelaw02.RopeBack': WHATEVER THE INPUT: true; the input reads as it did. -/
def ropeBackSpec : ChangeSpec := { name := "ropeBack", fn := fun _ => fun
  | [d1, d2] => { results := [.lit (.bool true)], args := [d1, d2] }
  | _ => none }
def ropeBackRow : OpenClaim := { program := "ytebpmmffilakaaa", sum := "71c4d97bbc585116201a08d739c43ee482182aa70af44ff3ec24e9942bceb882", func := "calque/calquelaw02.RopeBack", spec := "ropeBack", apart := false }
def RopeBackSaid : Prop := ropeBackRow.holds Try.pinned (OpenSpec.ofChange ropeBackSpec)

/-- ITS FALSE NEIGHBOUR: 'it returns false'. Refute it at one input. -/
def ropeBackWrong : ChangeSpec := { name := "ropeBack", fn := fun _ => fun
  | [d1, d2] => { results := [.lit (.bool false)], args := [d1, d2] }
  | _ => none }
def RopeBackWrongFalsely : Prop := ropeBackRow.holds Try.pinned (OpenSpec.ofChange ropeBackWrong)

/-- 'calquelaw02.RopeReads': WHATEVER THE INPUT: true; the input reads as it did. -/
def ropeReadsSpec : ChangeSpec := { name := "ropeReads", fn := fun _ => fun
  | [d1, d2, d3] => { results := [.lit (.bool true)], args := [d1, d2, d3] }
  | _ => none }
def ropeReadsRow : OpenClaim := { program := "ytebpmmffilakaaa", sum := "71c4d97bbc585116201a08d739c43ee482182aa70af44ff3ec24e9942bceb882", func := "calque/calquelaw02.RopeReads", spec := "ropeReads", apart := false }
def RopeReadsSaid : Prop := ropeReadsRow.holds Try.pinned (OpenSpec.ofChange ropeReadsSpec)

/-- ITS FALSE NEIGHBOUR: 'it returns false'. Refute it at one input. -/
def ropeReadsWrong : ChangeSpec := { name := "ropeReads", fn := fun _ => fun
  | [d1, d2, d3] => { results := [.lit (.bool false)], args := [d1, d2, d3] }
  | _ => none }
def RopeReadsWrongFalsely : Prop := ropeReadsRow.holds Try.pinned (OpenSpec.ofChange ropeReadsWrong)

/-- 'calquelaw02.RopeMost': WHATEVER THE INPUT: true; the input reads as it did. -/
def ropeMostSpec : ChangeSpec := { name := "ropeMost", fn := fun _ => fun
  | [d1, d2] => { results := [.lit (.bool true)], args := [d1, d2] }
  | _ => none }
def ropeMostRow : OpenClaim := { program := "ytebpmmffilakaaa", sum := "71c4d97bbc585116201a08d739c43ee482182aa70af44ff3ec24e9942bceb882", func := "calque/calquelaw02.RopeMost", spec := "ropeMost", inPlace := ["internal/bytealg.IndexByteString"], apart := false }
def RopeMostSaid : Prop := ropeMostRow.holds Try.pinned (OpenSpec.ofChange ropeMostSpec)

/-- ITS FALSE NEIGHBOUR: 'it returns false'. Refute it at one input. -/
def ropeMostWrong : ChangeSpec := { name := "ropeMost", fn := fun _ => fun
  | [d1, d2] => { results := [.lit (.bool false)], args := [d1, d2] }
  | _ => none }
def RopeMostWrongFalsely : Prop := ropeMostRow.holds Try.pinned (OpenSpec.ofChange ropeMostWrong)

/-- 'calquelaw02.RopePlays': WHATEVER THE INPUT: true; the input reads as it did. -/
def ropePlaysSpec : ChangeSpec := { name := "ropePlays", fn := fun _ => fun
  | [d1, d2] => { results := [.lit (.bool true)], args := [d1, d2] }
  | _ => none }
def ropePlaysRow : OpenClaim := { program := "ytebpmmffilakaaa", sum := "71c4d97bbc585116201a08d739c43ee482182aa70af44ff3ec24e9942bceb882", func := "calque/calquelaw02.RopePlays", spec := "ropePlays", inPlace := ["internal/bytealg.IndexByteString", "internal/bytealg.IndexByte"], apart := false }
def RopePlaysSaid : Prop := ropePlaysRow.holds Try.pinned (OpenSpec.ofChange ropePlaysSpec)

/-- ITS FALSE NEIGHBOUR: 'it returns false'. Refute it at one input. -/
def ropePlaysWrong : ChangeSpec := { name := "ropePlays", fn := fun _ => fun
  | [d1, d2] => { results := [.lit (.bool false)], args := [d1, d2] }
  | _ => none }
def RopePlaysWrongFalsely : Prop := ropePlaysRow.holds Try.pinned (OpenSpec.ofChange ropePlaysWrong)

/-- 'calquelaw02.RopeNil': WHATEVER THE INPUT: true; the input reads as it did. -/
def ropeNilSpec : ChangeSpec := { name := "ropeNil", fn := fun _ => fun
  | [d1, d2] => { results := [.lit (.bool true)], args := [d1, d2] }
  | _ => none }
def ropeNilRow : OpenClaim := { program := "ytebpmmffilakaaa", sum := "71c4d97bbc585116201a08d739c43ee482182aa70af44ff3ec24e9942bceb882", func := "calque/calquelaw02.RopeNil", spec := "ropeNil", inPlace := ["internal/bytealg.IndexByte", "internal/bytealg.IndexByteString"], apart := false }
def RopeNilSaid : Prop := ropeNilRow.holds Try.pinned (OpenSpec.ofChange ropeNilSpec)

/-- ITS FALSE NEIGHBOUR: 'it returns false'. Refute it at one input. -/
def ropeNilWrong : ChangeSpec := { name := "ropeNil", fn := fun _ => fun
  | [d1, d2] => { results := [.lit (.bool false)], args := [d1, d2] }
  | _ => none }
def RopeNilWrongFalsely : Prop := ropeNilRow.holds Try.pinned (OpenSpec.ofChange ropeNilWrong)

/- THE SECOND FORM. 'bulk': how many values and letters a reading holds, each counted each time it is reached (what is shared counts as often as it is met; a slice's spare places count too). A statement '..UptoSaid' is the law's where the arguments, and the package variables that the reading takes, are together of bulk at most 1048576: NARROWER than '..Said'. Prove '..Said' where nothing that the law and all that it calls make is longer than what came in: it says more and counts as full. Else prove '..UptoSaid'. A law counts once. -/
mutual
def uptoBulk {H : Type} : DataW H → Nat
  | .lit (.string bytes) => bytes.length + 1
  | .lit _ => 1
  | .nil => 1
  | .ptr d => uptoBulk d + 1
  | .slice elems spare => uptoBulkAll elems + uptoBulkAll spare + 1
  | .agg parts => uptoBulkAll parts + 1
  | .iface _ d => uptoBulk d + 1
  | .map entries => uptoBulkEntries entries + 1
  | .held _ => 1
def uptoBulkAll {H : Type} : List (DataW H) → Nat
  | [] => 0
  | d :: r => uptoBulk d + uptoBulkAll r
def uptoBulkEntries {H : Type} : List (Lit × DataW H) → Nat
  | [] => 0
  | x :: r => uptoBulkEntry x + uptoBulkEntries r
def uptoBulkEntry {H : Type} : Lit × DataW H → Nat
  | (.string bytes, d) => bytes.length + uptoBulk d + 1
  | (_, d) => uptoBulk d + 1
 end
def uptoSmall : (H : Type) → List (DataW H) → Bool := fun _ ds => decide (uptoBulkAll ds ≤ 1048576)
def OpenSpec.upto (s : _root_.Go.ChangeSpec) : _root_.Go.OpenSpec := { _root_.Go.OpenSpec.ofChange s with cond := some uptoSmall }

/-- 'calquelaw02.RopeBack', WHERE WHAT IT READS IS OF BULK AT MOST 1048576: true; the input reads as it did. -/
def ropeBackUptoRow : OpenClaim := { program := "ytebpmmffilakaaa", sum := "71c4d97bbc585116201a08d739c43ee482182aa70af44ff3ec24e9942bceb882", func := "calque/calquelaw02.RopeBack", spec := "ropeBack", apart := false, narrowed := true }
def RopeBackUptoSaid : Prop := ropeBackUptoRow.holds Try.pinned (OpenSpec.upto ropeBackSpec)

/-- 'calquelaw02.RopeReads', WHERE WHAT IT READS IS OF BULK AT MOST 1048576: true; the input reads as it did. -/
def ropeReadsUptoRow : OpenClaim := { program := "ytebpmmffilakaaa", sum := "71c4d97bbc585116201a08d739c43ee482182aa70af44ff3ec24e9942bceb882", func := "calque/calquelaw02.RopeReads", spec := "ropeReads", apart := false, narrowed := true }
def RopeReadsUptoSaid : Prop := ropeReadsUptoRow.holds Try.pinned (OpenSpec.upto ropeReadsSpec)

/-- 'calquelaw02.RopeMost', WHERE WHAT IT READS IS OF BULK AT MOST 1048576: true; the input reads as it did. -/
def ropeMostUptoRow : OpenClaim := { program := "ytebpmmffilakaaa", sum := "71c4d97bbc585116201a08d739c43ee482182aa70af44ff3ec24e9942bceb882", func := "calque/calquelaw02.RopeMost", spec := "ropeMost", inPlace := ["internal/bytealg.IndexByteString"], apart := false, narrowed := true }
def RopeMostUptoSaid : Prop := ropeMostUptoRow.holds Try.pinned (OpenSpec.upto ropeMostSpec)

/-- 'calquelaw02.RopePlays', WHERE WHAT IT READS IS OF BULK AT MOST 1048576: true; the input reads as it did. -/
def ropePlaysUptoRow : OpenClaim := { program := "ytebpmmffilakaaa", sum := "71c4d97bbc585116201a08d739c43ee482182aa70af44ff3ec24e9942bceb882", func := "calque/calquelaw02.RopePlays", spec := "ropePlays", inPlace := ["internal/bytealg.IndexByteString", "internal/bytealg.IndexByte"], apart := false, narrowed := true }
def RopePlaysUptoSaid : Prop := ropePlaysUptoRow.holds Try.pinned (OpenSpec.upto ropePlaysSpec)

/-- 'calquelaw02.RopeNil', WHERE WHAT IT READS IS OF BULK AT MOST 1048576: true; the input reads as it did. -/
def ropeNilUptoRow : OpenClaim := { program := "ytebpmmffilakaaa", sum := "71c4d97bbc585116201a08d739c43ee482182aa70af44ff3ec24e9942bceb882", func := "calque/calquelaw02.RopeNil", spec := "ropeNil", inPlace := ["internal/bytealg.IndexByte", "internal/bytealg.IndexByteString"], apart := false, narrowed := true }
def RopeNilUptoSaid : Prop := ropeNilUptoRow.holds Try.pinned (OpenSpec.upto ropeNilSpec)

end Rows
end Go.Proofs.Ytebpmmffilakaaa
