/-
  No cell of these rows narrows 'for every input' (looked for: loops, veiled, ifaces, maps, wideKeys, modest, calm, conditions, laid).
  DERIVED. THE GIVEN ROWS OF THIS SEAT. 3 by the template 'for every input the law returns true; each argument reads behind the call as it read before'; 0 by the template 'total and deterministic' (their statements: YthakpjkmianglaaTotals.lean).
  GIVEN WITH THE SEED: the statements are not yours to turn. If you find one false, say at which input.
  Laid BY PROGRAM, IN A SANDBOX (cutbox-rows.mjs): the forced cells as the released guide's own fill.sh prints them over the translation 6fa7063baa827364… (all of the seat's roots in one cut). By AI agents, Wed Nov 11 2026. No macro, syntax, notation, axiom, sorry.
-/
import Derived.Test.YthakpjkmianglaaChecked
import GoSem.Claim
import GoSem.ClaimJoined
import GoSem.ClaimMapViews
import Derived.JoinedTies
import Derived.KernelRfl
namespace Go.Proofs.Ythakpjkmianglaa
/- THE CELL 'sum', in the pinned program and in every row, IS THE sha256 OF THE DUMP (.gsa) THAT YthakpjkmianglaaProg.lean LOADS. Nothing in Lean hashes anything: it is a label: what it is worth is what the hold of that sum in a sandbox is worth. -/
noncomputable def Try.pinned : Pinned := { name := "ythakpjkmianglaa", sum := "6fa7063baa82736478cbec1af500ac5c34c78722e84fa59d5d3c8c2e49e5d423", checked := Try.checked }
namespace Rows
def none {H : Type} : Left H := { results := [], args := [] }

/-- 'calquelaw28.CatFences': WHATEVER THE INPUT: true; the input reads as it did. -/
def catFencesSpec : ChangeSpec := { name := "catFences", fn := fun _ => fun
  | [d1, d2] => { results := [.lit (.bool true)], args := [d1, d2] }
  | _ => none }
def catFencesRow : OpenClaim := { program := "ythakpjkmianglaa", sum := "6fa7063baa82736478cbec1af500ac5c34c78722e84fa59d5d3c8c2e49e5d423", func := "calque/calquelaw28.CatFences", spec := "catFences", unfollowed := true, recurses := true, apart := false }
def CatFencesSaid : Prop := catFencesRow.holds Try.pinned (OpenSpec.ofChange catFencesSpec)

/-- ITS FALSE NEIGHBOUR: 'it returns false'. Refute it at one input. -/
def catFencesWrong : ChangeSpec := { name := "catFences", fn := fun _ => fun
  | [d1, d2] => { results := [.lit (.bool false)], args := [d1, d2] }
  | _ => none }
def CatFencesWrongFalsely : Prop := catFencesRow.holds Try.pinned (OpenSpec.ofChange catFencesWrong)

/-- 'calquelaw28.CatBorne': WHATEVER THE INPUT: true; the input reads as it did. -/
def catBorneSpec : ChangeSpec := { name := "catBorne", fn := fun _ => fun
  | [d] => { results := [.lit (.bool true)], args := [d] }
  | _ => none }
def catBorneRow : OpenClaim := { program := "ythakpjkmianglaa", sum := "6fa7063baa82736478cbec1af500ac5c34c78722e84fa59d5d3c8c2e49e5d423", func := "calque/calquelaw28.CatBorne", spec := "catBorne", unfollowed := true, recurses := true, apart := false }
def CatBorneSaid : Prop := catBorneRow.holds Try.pinned (OpenSpec.ofChange catBorneSpec)

/-- ITS FALSE NEIGHBOUR: 'it returns false'. Refute it at one input. -/
def catBorneWrong : ChangeSpec := { name := "catBorne", fn := fun _ => fun
  | [d] => { results := [.lit (.bool false)], args := [d] }
  | _ => none }
def CatBorneWrongFalsely : Prop := catBorneRow.holds Try.pinned (OpenSpec.ofChange catBorneWrong)

/-- 'calquelaw28.CatWeaker': WHATEVER THE INPUT: true; the input reads as it did. -/
def catWeakerSpec : ChangeSpec := { name := "catWeaker", fn := fun _ => fun
  | [d1, d2] => { results := [.lit (.bool true)], args := [d1, d2] }
  | _ => none }
def catWeakerRow : OpenClaim := { program := "ythakpjkmianglaa", sum := "6fa7063baa82736478cbec1af500ac5c34c78722e84fa59d5d3c8c2e49e5d423", func := "calque/calquelaw28.CatWeaker", spec := "catWeaker", unfollowed := true, recurses := true, apart := false }
def CatWeakerSaid : Prop := catWeakerRow.holds Try.pinned (OpenSpec.ofChange catWeakerSpec)

/-- ITS FALSE NEIGHBOUR: 'it returns false'. Refute it at one input. -/
def catWeakerWrong : ChangeSpec := { name := "catWeaker", fn := fun _ => fun
  | [d1, d2] => { results := [.lit (.bool false)], args := [d1, d2] }
  | _ => none }
def CatWeakerWrongFalsely : Prop := catWeakerRow.holds Try.pinned (OpenSpec.ofChange catWeakerWrong)

/- THE SECOND FORM. 'bulk': how many values and letters a reading holds, each counted each time it is reached (what is shared counts as often as it is met; a slice's spare places count too). A statement '..UptoSaid' is the law's where the arguments, and the package variables that the reading takes, are together of bulk at most 1048576: NARROWER than '..Said'. Prove '..Said' where nothing that the law and all that it calls make is longer than what came in: it says more and counts as full. Else prove '..UptoSaid'. A law counts once. -/
mutual
def uptoBulk {H : Type} : DataW H → Nat
  | .lit (.string bytes) => bytes.length + 1
  | .lit _ => 1
  | .nil => 1
  | .ptr d => uptoBulk d + 1
  | .slice elems spare => uptoBulkAll elems + uptoBulkAll spare + 1
  | .agg parts => uptoBulkAll parts + 1
  | .iface _ d => uptoBulk d + 1
  | .map entries => uptoBulkEntries entries + 1
  | .held _ => 1
def uptoBulkAll {H : Type} : List (DataW H) → Nat
  | [] => 0
  | d :: r => uptoBulk d + uptoBulkAll r
def uptoBulkEntries {H : Type} : List (Lit × DataW H) → Nat
  | [] => 0
  | x :: r => uptoBulkEntry x + uptoBulkEntries r
def uptoBulkEntry {H : Type} : Lit × DataW H → Nat
  | (.string bytes, d) => bytes.length + uptoBulk d + 1
  | (_, d) => uptoBulk d + 1
 end
def uptoSmall : (H : Type) → List (DataW H) → Bool := fun _ ds => decide (uptoBulkAll ds ≤ 1048576)
def OpenSpec.upto (s : _root_.Go.ChangeSpec) : _root_.Go.OpenSpec := { _root_.Go.OpenSpec.ofChange s with cond := some uptoSmall }

/-- 'calquelaw28.CatFences', WHERE WHAT IT READS IS OF BULK AT MOST 1048576: true; the input reads as it did. -/
def catFencesUptoRow : OpenClaim := { program := "ythakpjkmianglaa", sum := "6fa7063baa82736478cbec1af500ac5c34c78722e84fa59d5d3c8c2e49e5d423", func := "calque/calquelaw28.CatFences", spec := "catFences", unfollowed := true, recurses := true, apart := false, narrowed := true }
def CatFencesUptoSaid : Prop := catFencesUptoRow.holds Try.pinned (OpenSpec.upto catFencesSpec)

/-- 'calquelaw28.CatBorne', WHERE WHAT IT READS IS OF BULK AT MOST 1048576: true; the input reads as it did. -/
def catBorneUptoRow : OpenClaim := { program := "ythakpjkmianglaa", sum := "6fa7063baa82736478cbec1af500ac5c34c78722e84fa59d5d3c8c2e49e5d423", func := "calque/calquelaw28.CatBorne", spec := "catBorne", unfollowed := true, recurses := true, apart := false, narrowed := true }
def CatBorneUptoSaid : Prop := catBorneUptoRow.holds Try.pinned (OpenSpec.upto catBorneSpec)

/-- 'calquelaw28.CatWeaker', WHERE WHAT IT READS IS OF BULK AT MOST 1048576: true; the input reads as it did. -/
def catWeakerUptoRow : OpenClaim := { program := "ythakpjkmianglaa", sum := "6fa7063baa82736478cbec1af500ac5c34c78722e84fa59d5d3c8c2e49e5d423", func := "calque/calquelaw28.CatWeaker", spec := "catWeaker", unfollowed := true, recurses := true, apart := false, narrowed := true }
def CatWeakerUptoSaid : Prop := catWeakerUptoRow.holds Try.pinned (OpenSpec.upto catWeakerSpec)

end Rows
end Go.Proofs.Ythakpjkmianglaa
