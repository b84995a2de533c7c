/-
  No cell of these rows narrows 'for every input' (looked for: loops, veiled, ifaces, maps, wideKeys, modest, calm, conditions, laid).
  DERIVED. THE GIVEN ROWS OF THIS SEAT. 3 by the template 'for every input the law returns true; each argument reads behind the call as it read before'; 0 by the template 'total and deterministic' (their statements: YtmjmhipfkbedaaaTotals.lean).
  GIVEN WITH THE SEED: the statements are not yours to turn. If you find one false, say at which input.
  Laid BY PROGRAM, IN A SANDBOX (cutbox-rows.mjs): the forced cells as the released guide's own fill.sh prints them over the translation a690553237369cb0… (all of the seat's roots in one cut). By AI agents, Wed Nov 11 2026. No macro, syntax, notation, axiom, sorry.
-/
import Derived.Test.YtmjmhipfkbedaaaChecked
import GoSem.Claim
import GoSem.ClaimJoined
import GoSem.ClaimMapViews
import Derived.JoinedTies
import Derived.KernelRfl
namespace Go.Proofs.Ytmjmhipfkbedaaa
/- THE CELL 'sum', in the pinned program and in every row, IS THE sha256 OF THE DUMP (.gsa) THAT YtmjmhipfkbedaaaProg.lean LOADS. Nothing in Lean hashes anything: it is a label: what it is worth is what the hold of that sum in a sandbox is worth. -/
noncomputable def Try.pinned : Pinned := { name := "ytmjmhipfkbedaaa", sum := "a690553237369cb0eda6383baf78d83f4bad98b66b0e1d7d518d3b92a249839f", checked := Try.checked }
namespace Rows
def none {H : Type} : Left H := { results := [], args := [] }

/-- 'calquelaw03.ElfSize': WHATEVER THE INPUT: true; the input reads as it did. -/
def elfSizeSpec : ChangeSpec := { name := "elfSize", fn := fun _ => fun
  | [d] => { results := [.lit (.bool true)], args := [d] }
  | _ => none }
def elfSizeRow : OpenClaim := { program := "ytmjmhipfkbedaaa", sum := "a690553237369cb0eda6383baf78d83f4bad98b66b0e1d7d518d3b92a249839f", func := "calque/calquelaw03.ElfSize", spec := "elfSize", inPlace := ["internal/bytealg.IndexByteString", "internal/bytealg.IndexByte"], unfollowed := true, recurses := true, apart := false }
def ElfSizeSaid : Prop := elfSizeRow.holds Try.pinned (OpenSpec.ofChange elfSizeSpec)

/-- ITS FALSE NEIGHBOUR: 'it returns false'. Refute it at one input. -/
def elfSizeWrong : ChangeSpec := { name := "elfSize", fn := fun _ => fun
  | [d] => { results := [.lit (.bool false)], args := [d] }
  | _ => none }
def ElfSizeWrongFalsely : Prop := elfSizeRow.holds Try.pinned (OpenSpec.ofChange elfSizeWrong)

/-- 'calquelaw03.ElfWrites': WHATEVER THE INPUT: true; the input reads as it did. -/
def elfWritesSpec : ChangeSpec := { name := "elfWrites", fn := fun _ => fun
  | [d] => { results := [.lit (.bool true)], args := [d] }
  | _ => none }
def elfWritesRow : OpenClaim := { program := "ytmjmhipfkbedaaa", sum := "a690553237369cb0eda6383baf78d83f4bad98b66b0e1d7d518d3b92a249839f", func := "calque/calquelaw03.ElfWrites", spec := "elfWrites", inPlace := ["internal/bytealg.IndexByteString", "internal/bytealg.IndexByte"], unfollowed := true, recurses := true, apart := false }
def ElfWritesSaid : Prop := elfWritesRow.holds Try.pinned (OpenSpec.ofChange elfWritesSpec)

/-- ITS FALSE NEIGHBOUR: 'it returns false'. Refute it at one input. -/
def elfWritesWrong : ChangeSpec := { name := "elfWrites", fn := fun _ => fun
  | [d] => { results := [.lit (.bool false)], args := [d] }
  | _ => none }
def ElfWritesWrongFalsely : Prop := elfWritesRow.holds Try.pinned (OpenSpec.ofChange elfWritesWrong)

/-- 'calquelaw03.ElfSame': WHATEVER THE INPUT: true; the input reads as it did. -/
def elfSameSpec : ChangeSpec := { name := "elfSame", fn := fun _ => fun
  | [d1, d2] => { results := [.lit (.bool true)], args := [d1, d2] }
  | _ => none }
def elfSameRow : OpenClaim := { program := "ytmjmhipfkbedaaa", sum := "a690553237369cb0eda6383baf78d83f4bad98b66b0e1d7d518d3b92a249839f", func := "calque/calquelaw03.ElfSame", spec := "elfSame", inPlace := ["internal/bytealg.IndexByteString", "internal/bytealg.IndexByte"], unfollowed := true, recurses := true, apart := false }
def ElfSameSaid : Prop := elfSameRow.holds Try.pinned (OpenSpec.ofChange elfSameSpec)

/-- ITS FALSE NEIGHBOUR: 'it returns false'. Refute it at one input. -/
def elfSameWrong : ChangeSpec := { name := "elfSame", fn := fun _ => fun
  | [d1, d2] => { results := [.lit (.bool false)], args := [d1, d2] }
  | _ => none }
def ElfSameWrongFalsely : Prop := elfSameRow.holds Try.pinned (OpenSpec.ofChange elfSameWrong)

/- THE SECOND FORM. 'bulk': how many values and letters a reading holds, each counted each time it is reached (what is shared counts as often as it is met; a slice's spare places count too). A statement '..UptoSaid' is the law's where the arguments, and the package variables that the reading takes, are together of bulk at most 1048576: NARROWER than '..Said'. Prove '..Said' where nothing that the law and all that it calls make is longer than what came in: it says more and counts as full. Else prove '..UptoSaid'. A law counts once. -/
mutual
def uptoBulk {H : Type} : DataW H → Nat
  | .lit (.string bytes) => bytes.length + 1
  | .lit _ => 1
  | .nil => 1
  | .ptr d => uptoBulk d + 1
  | .slice elems spare => uptoBulkAll elems + uptoBulkAll spare + 1
  | .agg parts => uptoBulkAll parts + 1
  | .iface _ d => uptoBulk d + 1
  | .map entries => uptoBulkEntries entries + 1
  | .held _ => 1
def uptoBulkAll {H : Type} : List (DataW H) → Nat
  | [] => 0
  | d :: r => uptoBulk d + uptoBulkAll r
def uptoBulkEntries {H : Type} : List (Lit × DataW H) → Nat
  | [] => 0
  | x :: r => uptoBulkEntry x + uptoBulkEntries r
def uptoBulkEntry {H : Type} : Lit × DataW H → Nat
  | (.string bytes, d) => bytes.length + uptoBulk d + 1
  | (_, d) => uptoBulk d + 1
 end
def uptoSmall : (H : Type) → List (DataW H) → Bool := fun _ ds => decide (uptoBulkAll ds ≤ 1048576)
def OpenSpec.upto (s : _root_.Go.ChangeSpec) : _root_.Go.OpenSpec := { _root_.Go.OpenSpec.ofChange s with cond := some uptoSmall }

/-- 'calquelaw03.ElfSize', WHERE WHAT IT READS IS OF BULK AT MOST 1048576: true; the input reads as it did. -/
def elfSizeUptoRow : OpenClaim := { program := "ytmjmhipfkbedaaa", sum := "a690553237369cb0eda6383baf78d83f4bad98b66b0e1d7d518d3b92a249839f", func := "calque/calquelaw03.ElfSize", spec := "elfSize", inPlace := ["internal/bytealg.IndexByteString", "internal/bytealg.IndexByte"], unfollowed := true, recurses := true, apart := false, narrowed := true }
def ElfSizeUptoSaid : Prop := elfSizeUptoRow.holds Try.pinned (OpenSpec.upto elfSizeSpec)

/-- 'calquelaw03.ElfWrites', WHERE WHAT IT READS IS OF BULK AT MOST 1048576: true; the input reads as it did. -/
def elfWritesUptoRow : OpenClaim := { program := "ytmjmhipfkbedaaa", sum := "a690553237369cb0eda6383baf78d83f4bad98b66b0e1d7d518d3b92a249839f", func := "calque/calquelaw03.ElfWrites", spec := "elfWrites", inPlace := ["internal/bytealg.IndexByteString", "internal/bytealg.IndexByte"], unfollowed := true, recurses := true, apart := false, narrowed := true }
def ElfWritesUptoSaid : Prop := elfWritesUptoRow.holds Try.pinned (OpenSpec.upto elfWritesSpec)

/-- 'calquelaw03.ElfSame', WHERE WHAT IT READS IS OF BULK AT MOST 1048576: true; the input reads as it did. -/
def elfSameUptoRow : OpenClaim := { program := "ytmjmhipfkbedaaa", sum := "a690553237369cb0eda6383baf78d83f4bad98b66b0e1d7d518d3b92a249839f", func := "calque/calquelaw03.ElfSame", spec := "elfSame", inPlace := ["internal/bytealg.IndexByteString", "internal/bytealg.IndexByte"], unfollowed := true, recurses := true, apart := false, narrowed := true }
def ElfSameUptoSaid : Prop := elfSameUptoRow.holds Try.pinned (OpenSpec.upto elfSameSpec)

end Rows
end Go.Proofs.Ytmjmhipfkbedaaa
