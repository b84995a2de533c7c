/-
  No cell of these rows narrows 'for every input' (looked for: loops, veiled, ifaces, maps, wideKeys, modest, calm, conditions, laid).
  DERIVED. THE GIVEN ROWS OF THIS SEAT. 8 by the template 'for every input the law returns true; each argument reads behind the call as it read before'; 0 by the template 'total and deterministic' (their statements: YtmdcmjlhnbodmaaTotals.lean).
  GIVEN WITH THE SEED: the statements are not yours to turn. If you find one false, say at which input.
  Laid BY PROGRAM, IN A SANDBOX (cutbox-rows.mjs): the forced cells as the released guide's own fill.sh prints them over the translation 8f6c7894b4176b06… (all of the seat's roots in one cut). By AI agents, Wed Nov 11 2026. No macro, syntax, notation, axiom, sorry.
-/
import Derived.Test.YtmdcmjlhnbodmaaChecked
import GoSem.Claim
import GoSem.ClaimJoined
import GoSem.ClaimMapViews
import Derived.JoinedTies
import Derived.KernelRfl
namespace Go.Proofs.Ytmdcmjlhnbodmaa
/- THE CELL 'sum', in the pinned program and in every row, IS THE sha256 OF THE DUMP (.gsa) THAT YtmdcmjlhnbodmaaProg.lean LOADS. Nothing in Lean hashes anything: it is a label: what it is worth is what the hold of that sum in a sandbox is worth. -/
noncomputable def Try.pinned : Pinned := { name := "ytmdcmjlhnbodmaa", sum := "8f6c7894b4176b068225d2614fb32f8ab4d1f5d4b0eb256a86cb80226ef7f791", checked := Try.checked }
namespace Rows
def none {H : Type} : Left H := { results := [], args := [] }

/-- 'calquelaw08.FlagsTwo': WHATEVER THE INPUT: true; the input reads as it did. -/
def flagsTwoSpec : ChangeSpec := { name := "flagsTwo", fn := fun _ => fun
  | [d1, d2, d3, d4, d5] => { results := [.lit (.bool true)], args := [d1, d2, d3, d4, d5] }
  | _ => none }
def flagsTwoRow : OpenClaim := { program := "ytmdcmjlhnbodmaa", sum := "8f6c7894b4176b068225d2614fb32f8ab4d1f5d4b0eb256a86cb80226ef7f791", func := "calque/calquelaw08.FlagsTwo", spec := "flagsTwo", inPlace := ["math/bits.Add64", "math/bits.Sub64"], apart := false }
def FlagsTwoSaid : Prop := flagsTwoRow.holds Try.pinned (OpenSpec.ofChange flagsTwoSpec)

/-- ITS FALSE NEIGHBOUR: 'it returns false'. Refute it at one input. -/
def flagsTwoWrong : ChangeSpec := { name := "flagsTwo", fn := fun _ => fun
  | [d1, d2, d3, d4, d5] => { results := [.lit (.bool false)], args := [d1, d2, d3, d4, d5] }
  | _ => none }
def FlagsTwoWrongFalsely : Prop := flagsTwoRow.holds Try.pinned (OpenSpec.ofChange flagsTwoWrong)

/-- 'calquelaw08.FlagsTurn': WHATEVER THE INPUT: true; the input reads as it did. -/
def flagsTurnSpec : ChangeSpec := { name := "flagsTurn", fn := fun _ => fun
  | [d1, d2, d3, d4, d5] => { results := [.lit (.bool true)], args := [d1, d2, d3, d4, d5] }
  | _ => none }
def flagsTurnRow : OpenClaim := { program := "ytmdcmjlhnbodmaa", sum := "8f6c7894b4176b068225d2614fb32f8ab4d1f5d4b0eb256a86cb80226ef7f791", func := "calque/calquelaw08.FlagsTurn", spec := "flagsTurn", inPlace := ["math/bits.Add64", "math/bits.Sub64"], apart := false }
def FlagsTurnSaid : Prop := flagsTurnRow.holds Try.pinned (OpenSpec.ofChange flagsTurnSpec)

/-- ITS FALSE NEIGHBOUR: 'it returns false'. Refute it at one input. -/
def flagsTurnWrong : ChangeSpec := { name := "flagsTurn", fn := fun _ => fun
  | [d1, d2, d3, d4, d5] => { results := [.lit (.bool false)], args := [d1, d2, d3, d4, d5] }
  | _ => none }
def FlagsTurnWrongFalsely : Prop := flagsTurnRow.holds Try.pinned (OpenSpec.ofChange flagsTurnWrong)

/-- 'calquelaw08.FlagsProduct': WHATEVER THE INPUT: true; the input reads as it did. -/
def flagsProductSpec : ChangeSpec := { name := "flagsProduct", fn := fun _ => fun
  | [d1, d2, d3, d4] => { results := [.lit (.bool true)], args := [d1, d2, d3, d4] }
  | _ => none }
def flagsProductRow : OpenClaim := { program := "ytmdcmjlhnbodmaa", sum := "8f6c7894b4176b068225d2614fb32f8ab4d1f5d4b0eb256a86cb80226ef7f791", func := "calque/calquelaw08.FlagsProduct", spec := "flagsProduct", inPlace := ["math/bits.Add64", "math/bits.Sub64"], apart := false }
def FlagsProductSaid : Prop := flagsProductRow.holds Try.pinned (OpenSpec.ofChange flagsProductSpec)

/-- ITS FALSE NEIGHBOUR: 'it returns false'. Refute it at one input. -/
def flagsProductWrong : ChangeSpec := { name := "flagsProduct", fn := fun _ => fun
  | [d1, d2, d3, d4] => { results := [.lit (.bool false)], args := [d1, d2, d3, d4] }
  | _ => none }
def FlagsProductWrongFalsely : Prop := flagsProductRow.holds Try.pinned (OpenSpec.ofChange flagsProductWrong)

/-- 'calquelaw08.FlagsQuotient': WHATEVER THE INPUT: true; the input reads as it did. -/
def flagsQuotientSpec : ChangeSpec := { name := "flagsQuotient", fn := fun _ => fun
  | [d1, d2, d3, d4, d5] => { results := [.lit (.bool true)], args := [d1, d2, d3, d4, d5] }
  | _ => none }
def flagsQuotientRow : OpenClaim := { program := "ytmdcmjlhnbodmaa", sum := "8f6c7894b4176b068225d2614fb32f8ab4d1f5d4b0eb256a86cb80226ef7f791", func := "calque/calquelaw08.FlagsQuotient", spec := "flagsQuotient", inPlace := ["math/bits.Add64", "math/bits.Sub64"], apart := false }
def FlagsQuotientSaid : Prop := flagsQuotientRow.holds Try.pinned (OpenSpec.ofChange flagsQuotientSpec)

/-- ITS FALSE NEIGHBOUR: 'it returns false'. Refute it at one input. -/
def flagsQuotientWrong : ChangeSpec := { name := "flagsQuotient", fn := fun _ => fun
  | [d1, d2, d3, d4, d5] => { results := [.lit (.bool false)], args := [d1, d2, d3, d4, d5] }
  | _ => none }
def FlagsQuotientWrongFalsely : Prop := flagsQuotientRow.holds Try.pinned (OpenSpec.ofChange flagsQuotientWrong)

/-- 'calquelaw08.FlagsOne': WHATEVER THE INPUT: true; the input reads as it did. -/
def flagsOneSpec : ChangeSpec := { name := "flagsOne", fn := fun _ => fun
  | [d1, d2, d3, d4] => { results := [.lit (.bool true)], args := [d1, d2, d3, d4] }
  | _ => none }
def flagsOneRow : OpenClaim := { program := "ytmdcmjlhnbodmaa", sum := "8f6c7894b4176b068225d2614fb32f8ab4d1f5d4b0eb256a86cb80226ef7f791", func := "calque/calquelaw08.FlagsOne", spec := "flagsOne", inPlace := ["math/bits.Add64", "math/bits.Sub64"], apart := false }
def FlagsOneSaid : Prop := flagsOneRow.holds Try.pinned (OpenSpec.ofChange flagsOneSpec)

/-- ITS FALSE NEIGHBOUR: 'it returns false'. Refute it at one input. -/
def flagsOneWrong : ChangeSpec := { name := "flagsOne", fn := fun _ => fun
  | [d1, d2, d3, d4] => { results := [.lit (.bool false)], args := [d1, d2, d3, d4] }
  | _ => none }
def FlagsOneWrongFalsely : Prop := flagsOneRow.holds Try.pinned (OpenSpec.ofChange flagsOneWrong)

/-- 'calquelaw08.FlagsBack': WHATEVER THE INPUT: true; the input reads as it did. -/
def flagsBackSpec : ChangeSpec := { name := "flagsBack", fn := fun _ => fun
  | [d1, d2] => { results := [.lit (.bool true)], args := [d1, d2] }
  | _ => none }
def flagsBackRow : OpenClaim := { program := "ytmdcmjlhnbodmaa", sum := "8f6c7894b4176b068225d2614fb32f8ab4d1f5d4b0eb256a86cb80226ef7f791", func := "calque/calquelaw08.FlagsBack", spec := "flagsBack", inPlace := ["math/bits.Add64", "math/bits.Sub64"], apart := false }
def FlagsBackSaid : Prop := flagsBackRow.holds Try.pinned (OpenSpec.ofChange flagsBackSpec)

/-- ITS FALSE NEIGHBOUR: 'it returns false'. Refute it at one input. -/
def flagsBackWrong : ChangeSpec := { name := "flagsBack", fn := fun _ => fun
  | [d1, d2] => { results := [.lit (.bool false)], args := [d1, d2] }
  | _ => none }
def FlagsBackWrongFalsely : Prop := flagsBackRow.holds Try.pinned (OpenSpec.ofChange flagsBackWrong)

/-- 'calquelaw08.FlagsCompare': WHATEVER THE INPUT: true; the input reads as it did. -/
def flagsCompareSpec : ChangeSpec := { name := "flagsCompare", fn := fun _ => fun
  | [d1, d2, d3, d4] => { results := [.lit (.bool true)], args := [d1, d2, d3, d4] }
  | _ => none }
def flagsCompareRow : OpenClaim := { program := "ytmdcmjlhnbodmaa", sum := "8f6c7894b4176b068225d2614fb32f8ab4d1f5d4b0eb256a86cb80226ef7f791", func := "calque/calquelaw08.FlagsCompare", spec := "flagsCompare", inPlace := ["math/bits.Add64", "math/bits.Sub64"], apart := false }
def FlagsCompareSaid : Prop := flagsCompareRow.holds Try.pinned (OpenSpec.ofChange flagsCompareSpec)

/-- ITS FALSE NEIGHBOUR: 'it returns false'. Refute it at one input. -/
def flagsCompareWrong : ChangeSpec := { name := "flagsCompare", fn := fun _ => fun
  | [d1, d2, d3, d4] => { results := [.lit (.bool false)], args := [d1, d2, d3, d4] }
  | _ => none }
def FlagsCompareWrongFalsely : Prop := flagsCompareRow.holds Try.pinned (OpenSpec.ofChange flagsCompareWrong)

/-- 'calquelaw08.FlagsTell': WHATEVER THE INPUT: true; the input reads as it did. -/
def flagsTellSpec : ChangeSpec := { name := "flagsTell", fn := fun _ => fun
  | [d1, d2] => { results := [.lit (.bool true)], args := [d1, d2] }
  | _ => none }
def flagsTellRow : OpenClaim := { program := "ytmdcmjlhnbodmaa", sum := "8f6c7894b4176b068225d2614fb32f8ab4d1f5d4b0eb256a86cb80226ef7f791", func := "calque/calquelaw08.FlagsTell", spec := "flagsTell", inPlace := ["math/bits.Add64", "math/bits.Sub64"], apart := false }
def FlagsTellSaid : Prop := flagsTellRow.holds Try.pinned (OpenSpec.ofChange flagsTellSpec)

/-- ITS FALSE NEIGHBOUR: 'it returns false'. Refute it at one input. -/
def flagsTellWrong : ChangeSpec := { name := "flagsTell", fn := fun _ => fun
  | [d1, d2] => { results := [.lit (.bool false)], args := [d1, d2] }
  | _ => none }
def FlagsTellWrongFalsely : Prop := flagsTellRow.holds Try.pinned (OpenSpec.ofChange flagsTellWrong)

/- THE SECOND FORM. 'bulk': how many values and letters a reading holds, each counted each time it is reached (what is shared counts as often as it is met; a slice's spare places count too). A statement '..UptoSaid' is the law's where the arguments, and the package variables that the reading takes, are together of bulk at most 1048576: NARROWER than '..Said'. Prove '..Said' where nothing that the law and all that it calls make is longer than what came in: it says more and counts as full. Else prove '..UptoSaid'. A law counts once. -/
mutual
def uptoBulk {H : Type} : DataW H → Nat
  | .lit (.string bytes) => bytes.length + 1
  | .lit _ => 1
  | .nil => 1
  | .ptr d => uptoBulk d + 1
  | .slice elems spare => uptoBulkAll elems + uptoBulkAll spare + 1
  | .agg parts => uptoBulkAll parts + 1
  | .iface _ d => uptoBulk d + 1
  | .map entries => uptoBulkEntries entries + 1
  | .held _ => 1
def uptoBulkAll {H : Type} : List (DataW H) → Nat
  | [] => 0
  | d :: r => uptoBulk d + uptoBulkAll r
def uptoBulkEntries {H : Type} : List (Lit × DataW H) → Nat
  | [] => 0
  | x :: r => uptoBulkEntry x + uptoBulkEntries r
def uptoBulkEntry {H : Type} : Lit × DataW H → Nat
  | (.string bytes, d) => bytes.length + uptoBulk d + 1
  | (_, d) => uptoBulk d + 1
 end
def uptoSmall : (H : Type) → List (DataW H) → Bool := fun _ ds => decide (uptoBulkAll ds ≤ 1048576)
def OpenSpec.upto (s : _root_.Go.ChangeSpec) : _root_.Go.OpenSpec := { _root_.Go.OpenSpec.ofChange s with cond := some uptoSmall }

/-- 'calquelaw08.FlagsTwo', WHERE WHAT IT READS IS OF BULK AT MOST 1048576: true; the input reads as it did. -/
def flagsTwoUptoRow : OpenClaim := { program := "ytmdcmjlhnbodmaa", sum := "8f6c7894b4176b068225d2614fb32f8ab4d1f5d4b0eb256a86cb80226ef7f791", func := "calque/calquelaw08.FlagsTwo", spec := "flagsTwo", inPlace := ["math/bits.Add64", "math/bits.Sub64"], apart := false, narrowed := true }
def FlagsTwoUptoSaid : Prop := flagsTwoUptoRow.holds Try.pinned (OpenSpec.upto flagsTwoSpec)

/-- 'calquelaw08.FlagsTurn', WHERE WHAT IT READS IS OF BULK AT MOST 1048576: true; the input reads as it did. -/
def flagsTurnUptoRow : OpenClaim := { program := "ytmdcmjlhnbodmaa", sum := "8f6c7894b4176b068225d2614fb32f8ab4d1f5d4b0eb256a86cb80226ef7f791", func := "calque/calquelaw08.FlagsTurn", spec := "flagsTurn", inPlace := ["math/bits.Add64", "math/bits.Sub64"], apart := false, narrowed := true }
def FlagsTurnUptoSaid : Prop := flagsTurnUptoRow.holds Try.pinned (OpenSpec.upto flagsTurnSpec)

/-- 'calquelaw08.FlagsProduct', WHERE WHAT IT READS IS OF BULK AT MOST 1048576: true; the input reads as it did. -/
def flagsProductUptoRow : OpenClaim := { program := "ytmdcmjlhnbodmaa", sum := "8f6c7894b4176b068225d2614fb32f8ab4d1f5d4b0eb256a86cb80226ef7f791", func := "calque/calquelaw08.FlagsProduct", spec := "flagsProduct", inPlace := ["math/bits.Add64", "math/bits.Sub64"], apart := false, narrowed := true }
def FlagsProductUptoSaid : Prop := flagsProductUptoRow.holds Try.pinned (OpenSpec.upto flagsProductSpec)

/-- 'calquelaw08.FlagsQuotient', WHERE WHAT IT READS IS OF BULK AT MOST 1048576: true; the input reads as it did. -/
def flagsQuotientUptoRow : OpenClaim := { program := "ytmdcmjlhnbodmaa", sum := "8f6c7894b4176b068225d2614fb32f8ab4d1f5d4b0eb256a86cb80226ef7f791", func := "calque/calquelaw08.FlagsQuotient", spec := "flagsQuotient", inPlace := ["math/bits.Add64", "math/bits.Sub64"], apart := false, narrowed := true }
def FlagsQuotientUptoSaid : Prop := flagsQuotientUptoRow.holds Try.pinned (OpenSpec.upto flagsQuotientSpec)

/-- 'calquelaw08.FlagsOne', WHERE WHAT IT READS IS OF BULK AT MOST 1048576: true; the input reads as it did. -/
def flagsOneUptoRow : OpenClaim := { program := "ytmdcmjlhnbodmaa", sum := "8f6c7894b4176b068225d2614fb32f8ab4d1f5d4b0eb256a86cb80226ef7f791", func := "calque/calquelaw08.FlagsOne", spec := "flagsOne", inPlace := ["math/bits.Add64", "math/bits.Sub64"], apart := false, narrowed := true }
def FlagsOneUptoSaid : Prop := flagsOneUptoRow.holds Try.pinned (OpenSpec.upto flagsOneSpec)

/-- 'calquelaw08.FlagsBack', WHERE WHAT IT READS IS OF BULK AT MOST 1048576: true; the input reads as it did. -/
def flagsBackUptoRow : OpenClaim := { program := "ytmdcmjlhnbodmaa", sum := "8f6c7894b4176b068225d2614fb32f8ab4d1f5d4b0eb256a86cb80226ef7f791", func := "calque/calquelaw08.FlagsBack", spec := "flagsBack", inPlace := ["math/bits.Add64", "math/bits.Sub64"], apart := false, narrowed := true }
def FlagsBackUptoSaid : Prop := flagsBackUptoRow.holds Try.pinned (OpenSpec.upto flagsBackSpec)

/-- 'calquelaw08.FlagsCompare', WHERE WHAT IT READS IS OF BULK AT MOST 1048576: true; the input reads as it did. -/
def flagsCompareUptoRow : OpenClaim := { program := "ytmdcmjlhnbodmaa", sum := "8f6c7894b4176b068225d2614fb32f8ab4d1f5d4b0eb256a86cb80226ef7f791", func := "calque/calquelaw08.FlagsCompare", spec := "flagsCompare", inPlace := ["math/bits.Add64", "math/bits.Sub64"], apart := false, narrowed := true }
def FlagsCompareUptoSaid : Prop := flagsCompareUptoRow.holds Try.pinned (OpenSpec.upto flagsCompareSpec)

/-- 'calquelaw08.FlagsTell', WHERE WHAT IT READS IS OF BULK AT MOST 1048576: true; the input reads as it did. -/
def flagsTellUptoRow : OpenClaim := { program := "ytmdcmjlhnbodmaa", sum := "8f6c7894b4176b068225d2614fb32f8ab4d1f5d4b0eb256a86cb80226ef7f791", func := "calque/calquelaw08.FlagsTell", spec := "flagsTell", inPlace := ["math/bits.Add64", "math/bits.Sub64"], apart := false, narrowed := true }
def FlagsTellUptoSaid : Prop := flagsTellUptoRow.holds Try.pinned (OpenSpec.upto flagsTellSpec)

end Rows
end Go.Proofs.Ytmdcmjlhnbodmaa
