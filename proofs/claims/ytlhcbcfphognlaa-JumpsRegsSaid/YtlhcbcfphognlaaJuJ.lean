/- Layer 11: which registers an instruction reads and changes: the document's own functions. -/
import Derived.Test.YtlhcbcfphognlaaJuI
namespace Go.Proofs.Ytlhcbcfphognlaa
open Go Go.Proofs.Ytlhcbcfphognlaa.Ab
set_option linter.unusedVariables false
set_option linter.unusedSimpArgs false
set_option maxRecDepth 100000
noncomputable section
def ES (x : ByteArray) : List Cell := [Cell.str x]
theorem rsS (H : Heap) (b : Bool) (ls : List ByteArray) : RS 1 ES (H ++ [Blk.row (ls.map Cell.str) b]) (some { id := H.length, off := 0, len := ls.length, cap := ls.length, esz := 1 }) ls := by
  refine ⟨rfl, rfl, Nat.le_refl _, fun j c e => ?_⟩
  rw [Nat.zero_add, get_of (push_get _ _)]
  have : ∀ l : List ByteArray, l.flatMap ES = l.map Cell.str := fun l => by
    induction l with
    | nil => rfl
    | cons a l ih => rw [List.flatMap_cons, ih]; rfl
  rw [← this]; exact e
theorem loop30 (w : ByteArray) (sl : Option Sl) (ls : List ByteArray) (hk : ls.length ≤ 100) (H : Heap) (h : RS 1 ES H sl ls) : ∀ (m n i : Nat), i + m = ls.length →
    (D30_2 (n + m + 1) w sl (ls.length : Int) (i : Int) H).bind J30_2 = some ((ls.drop i).any fun s => strEq s w, H)
  | 0, n, i, hm => by
    have g : decide ((i : Int) < (ls.length : Int)) = false := by simp; omega
    rw [D30_2_s, g, cf, List.drop_eq_nil_of_le (by omega)]
    exact J30_2_1 H
  | m + 1, n, i, hm => by
    have g : decide ((i : Int) < (ls.length : Int)) = true := by simp; omega
    have hi : i < ls.length := by omega
    obtain ⟨q, rfl, g2, g4⟩ := h.idx1 (List.getElem?_eq_getElem hi) (e := Cell.str) (fun _ => rfl)
    have g5 : IntKind.i64.wrap ((i : Int) + 1) = ((i + 1 : Nat) : Int) := by rw [wrap_i64 (by omega) (by omega)]; rfl
    have ih := loop30 w (some q) ls hk H h m n (i + 1) (by omega)
    rw [show n + (m + 1) + 1 = (n + m + 1) + 1 by omega, D30_2_s, g]
    simp only [ct, Ab.bs, g2, g4, tStr, g5]
    rw [List.drop_eq_getElem_cons hi, List.any_cons]
    cases strEq ls[i] w
    · rw [cf, Bool.false_or]; exact ih
    · rw [ct, Bool.true_or, Ab.bs]; exact J30_2_0 true H
theorem g30_rs (w : ByteArray) (sl : Option Sl) (ls : List ByteArray) (hk : ls.length ≤ 100) (H : Heap) (h : RS 1 ES H sl ls) : g30 w sl H = some (ls.any fun s => strEq s w) := by
  rw [g30_eq]
  refine readOf_eq ?_
  rw [q30]
  obtain ⟨n, e⟩ := LL30_2_of ls.length (by omega) w sl (slen sl) 0 H
  have := loop30 w sl ls hk H h ls.length n 0 (by omega)
  rw [List.drop_zero] at this
  rw [e, h.slenEq, ← this]
  rfl
theorem wordAt_k (op : Int) (h1 : 1 ≤ op) (h2 : op ≤ 47) : ∃ k : Fin 48, op.toNat = k.val ∧ k.val ≠ 0 ∧ wordAt op = wordList[k.val]'k.isLt := by
  have hk : op.toNat < 48 := by omega
  exact ⟨⟨op.toNat, hk⟩, rfl, by show op.toNat ≠ 0; omega, by unfold wordAt; rw [List.getElem?_eq_getElem hk]; rfl⟩
theorem inL_k (op : Int) (l : List Nat) (h1 : 1 ≤ op) (h2 : op ≤ 47) : inL op l = l.contains op.toNat := by
  unfold inL
  rw [decide_eq_false (by omega), decide_eq_false (by omega)]; rfl
theorem one_v (op : Int) (h1 : 1 ≤ op) (h2 : op ≤ 47) (ls : List ByteArray) (nums : List Nat) (hl : ls.length ≤ 100)
    (h : ∀ k : Fin 48, k.val ≠ 0 → (ls.any fun s => strEq s (wordList[k.val]'k.isLt)) = nums.contains k.val) (X : Heap) :
    g30 (wordAt op) (some { id := X.length, off := 0, len := ls.length, cap := ls.length, esz := 1 }) (X ++ [Blk.row (ls.map Cell.str) false]) = some (inL op nums) := by
  rw [g30_rs _ _ ls hl _ (rsS X false ls)]
  obtain ⟨k, e, h0, hw⟩ := wordAt_k op h1 h2
  rw [hw, h k h0, inL_k op nums h1 h2, e]
theorem weq_v (op : Int) (h1 : 1 ≤ op) (h2 : op ≤ 47) (w : ByteArray) (nums : List Nat)
    (h : ∀ k : Fin 48, k.val ≠ 0 → strEq (wordList[k.val]'k.isLt) w = nums.contains k.val) : strEq (wordAt op) w = inL op nums := by
  obtain ⟨k, e, h0, hw⟩ := wordAt_k op h1 h2
  rw [hw, h k h0, inL_k op nums h1 h2, e]
theorem one_a (op : Int) (h1 : 1 ≤ op) (h2 : op ≤ 47) (X : Heap) : g30 (wordAt op) (some { id := X.length, off := 0, len := 9, cap := 9, esz := 1 }) (X ++ [Blk.row [Cell.str ({ data := #[UInt8.ofNat 99, UInt8.ofNat 109, UInt8.ofNat 112] } : ByteArray), Cell.str ({ data := #[UInt8.ofNat 116, UInt8.ofNat 101, UInt8.ofNat 115, UInt8.ofNat 116] } : ByteArray), Cell.str ({ data := #[UInt8.ofNat 112, UInt8.ofNat 117, UInt8.ofNat 115, UInt8.ofNat 104] } : ByteArray), Cell.str ({ data := #[UInt8.ofNat 109, UInt8.ofNat 117, UInt8.ofNat 108] } : ByteArray), Cell.str ({ data := #[UInt8.ofNat 115, UInt8.ofNat 109, UInt8.ofNat 117, UInt8.ofNat 108] } : ByteArray), Cell.str ({ data := #[UInt8.ofNat 100, UInt8.ofNat 105, UInt8.ofNat 118] } : ByteArray), Cell.str ({ data := #[UInt8.ofNat 115, UInt8.ofNat 100, UInt8.ofNat 105, UInt8.ofNat 118] } : ByteArray), Cell.str ({ data := #[UInt8.ofNat 106, UInt8.ofNat 109, UInt8.ofNat 112] } : ByteArray), Cell.str ({ data := #[UInt8.ofNat 99, UInt8.ofNat 97, UInt8.ofNat 108, UInt8.ofNat 108] } : ByteArray)] false]) = some (inL op [8, 9, 14, 20, 21, 22, 23, 37, 38]) :=
  one_v op h1 h2 [({ data := #[UInt8.ofNat 99, UInt8.ofNat 109, UInt8.ofNat 112] } : ByteArray), ({ data := #[UInt8.ofNat 116, UInt8.ofNat 101, UInt8.ofNat 115, UInt8.ofNat 116] } : ByteArray), ({ data := #[UInt8.ofNat 112, UInt8.ofNat 117, UInt8.ofNat 115, UInt8.ofNat 104] } : ByteArray), ({ data := #[UInt8.ofNat 109, UInt8.ofNat 117, UInt8.ofNat 108] } : ByteArray), ({ data := #[UInt8.ofNat 115, UInt8.ofNat 109, UInt8.ofNat 117, UInt8.ofNat 108] } : ByteArray), ({ data := #[UInt8.ofNat 100, UInt8.ofNat 105, UInt8.ofNat 118] } : ByteArray), ({ data := #[UInt8.ofNat 115, UInt8.ofNat 100, UInt8.ofNat 105, UInt8.ofNat 118] } : ByteArray), ({ data := #[UInt8.ofNat 106, UInt8.ofNat 109, UInt8.ofNat 112] } : ByteArray), ({ data := #[UInt8.ofNat 99, UInt8.ofNat 97, UInt8.ofNat 108, UInt8.ofNat 108] } : ByteArray)] [8, 9, 14, 20, 21, 22, 23, 37, 38] (by decide) (by decide +kernel) X
theorem one_b (op : Int) (h1 : 1 ≤ op) (h2 : op ≤ 47) (X : Heap) : g30 (wordAt op) (some { id := X.length, off := 0, len := 7, cap := 7, esz := 1 }) (X ++ [Blk.row [Cell.str ({ data := #[UInt8.ofNat 109, UInt8.ofNat 117, UInt8.ofNat 108] } : ByteArray), Cell.str ({ data := #[UInt8.ofNat 115, UInt8.ofNat 109, UInt8.ofNat 117, UInt8.ofNat 108] } : ByteArray), Cell.str ({ data := #[UInt8.ofNat 100, UInt8.ofNat 105, UInt8.ofNat 118] } : ByteArray), Cell.str ({ data := #[UInt8.ofNat 115, UInt8.ofNat 100, UInt8.ofNat 105, UInt8.ofNat 118] } : ByteArray), Cell.str ({ data := #[UInt8.ofNat 99, UInt8.ofNat 97, UInt8.ofNat 115] } : ByteArray), Cell.str ({ data := #[UInt8.ofNat 119, UInt8.ofNat 105, UInt8.ofNat 100, UInt8.ofNat 101] } : ByteArray), Cell.str ({ data := #[UInt8.ofNat 115, UInt8.ofNat 121, UInt8.ofNat 115] } : ByteArray)] false]) = some (inL op [20, 21, 22, 23, 32, 40, 46]) :=
  one_v op h1 h2 [({ data := #[UInt8.ofNat 109, UInt8.ofNat 117, UInt8.ofNat 108] } : ByteArray), ({ data := #[UInt8.ofNat 115, UInt8.ofNat 109, UInt8.ofNat 117, UInt8.ofNat 108] } : ByteArray), ({ data := #[UInt8.ofNat 100, UInt8.ofNat 105, UInt8.ofNat 118] } : ByteArray), ({ data := #[UInt8.ofNat 115, UInt8.ofNat 100, UInt8.ofNat 105, UInt8.ofNat 118] } : ByteArray), ({ data := #[UInt8.ofNat 99, UInt8.ofNat 97, UInt8.ofNat 115] } : ByteArray), ({ data := #[UInt8.ofNat 119, UInt8.ofNat 105, UInt8.ofNat 100, UInt8.ofNat 101] } : ByteArray), ({ data := #[UInt8.ofNat 115, UInt8.ofNat 121, UInt8.ofNat 115] } : ByteArray)] [20, 21, 22, 23, 32, 40, 46] (by decide) (by decide +kernel) X
theorem one_c (op : Int) (h1 : 1 ≤ op) (h2 : op ≤ 47) (X : Heap) : g30 (wordAt op) (some { id := X.length, off := 0, len := 4, cap := 4, esz := 1 }) (X ++ [Blk.row [Cell.str ({ data := #[UInt8.ofNat 109, UInt8.ofNat 117, UInt8.ofNat 108] } : ByteArray), Cell.str ({ data := #[UInt8.ofNat 115, UInt8.ofNat 109, UInt8.ofNat 117, UInt8.ofNat 108] } : ByteArray), Cell.str ({ data := #[UInt8.ofNat 100, UInt8.ofNat 105, UInt8.ofNat 118] } : ByteArray), Cell.str ({ data := #[UInt8.ofNat 115, UInt8.ofNat 100, UInt8.ofNat 105, UInt8.ofNat 118] } : ByteArray)] false]) = some (inL op [20, 21, 22, 23]) :=
  one_v op h1 h2 [({ data := #[UInt8.ofNat 109, UInt8.ofNat 117, UInt8.ofNat 108] } : ByteArray), ({ data := #[UInt8.ofNat 115, UInt8.ofNat 109, UInt8.ofNat 117, UInt8.ofNat 108] } : ByteArray), ({ data := #[UInt8.ofNat 100, UInt8.ofNat 105, UInt8.ofNat 118] } : ByteArray), ({ data := #[UInt8.ofNat 115, UInt8.ofNat 100, UInt8.ofNat 105, UInt8.ofNat 118] } : ByteArray)] [20, 21, 22, 23] (by decide) (by decide +kernel) X
theorem one_d (op : Int) (h1 : 1 ≤ op) (h2 : op ≤ 47) (X : Heap) : g30 (wordAt op) (some { id := X.length, off := 0, len := 4, cap := 4, esz := 1 }) (X ++ [Blk.row [Cell.str ({ data := #[UInt8.ofNat 112, UInt8.ofNat 117, UInt8.ofNat 115, UInt8.ofNat 104] } : ByteArray), Cell.str ({ data := #[UInt8.ofNat 112, UInt8.ofNat 111, UInt8.ofNat 112] } : ByteArray), Cell.str ({ data := #[UInt8.ofNat 99, UInt8.ofNat 97, UInt8.ofNat 108, UInt8.ofNat 108] } : ByteArray), Cell.str ({ data := #[UInt8.ofNat 114, UInt8.ofNat 101, UInt8.ofNat 116] } : ByteArray)] false]) = some (inL op [14, 15, 38, 39]) :=
  one_v op h1 h2 [({ data := #[UInt8.ofNat 112, UInt8.ofNat 117, UInt8.ofNat 115, UInt8.ofNat 104] } : ByteArray), ({ data := #[UInt8.ofNat 112, UInt8.ofNat 111, UInt8.ofNat 112] } : ByteArray), ({ data := #[UInt8.ofNat 99, UInt8.ofNat 97, UInt8.ofNat 108, UInt8.ofNat 108] } : ByteArray), ({ data := #[UInt8.ofNat 114, UInt8.ofNat 101, UInt8.ofNat 116] } : ByteArray)] [14, 15, 38, 39] (by decide) (by decide +kernel) X
theorem one_e (op : Int) (h1 : 1 ≤ op) (h2 : op ≤ 47) (X : Heap) : g30 (wordAt op) (some { id := X.length, off := 0, len := 9, cap := 9, esz := 1 }) (X ++ [Blk.row [Cell.str ({ data := #[UInt8.ofNat 109, UInt8.ofNat 117, UInt8.ofNat 108] } : ByteArray), Cell.str ({ data := #[UInt8.ofNat 115, UInt8.ofNat 109, UInt8.ofNat 117, UInt8.ofNat 108] } : ByteArray), Cell.str ({ data := #[UInt8.ofNat 100, UInt8.ofNat 105, UInt8.ofNat 118] } : ByteArray), Cell.str ({ data := #[UInt8.ofNat 115, UInt8.ofNat 100, UInt8.ofNat 105, UInt8.ofNat 118] } : ByteArray), Cell.str ({ data := #[UInt8.ofNat 99, UInt8.ofNat 97, UInt8.ofNat 115] } : ByteArray), Cell.str ({ data := #[UInt8.ofNat 119, UInt8.ofNat 105, UInt8.ofNat 100, UInt8.ofNat 101] } : ByteArray), Cell.str ({ data := #[UInt8.ofNat 115, UInt8.ofNat 105, UInt8.ofNat 103, UInt8.ofNat 110] } : ByteArray), Cell.str ({ data := #[UInt8.ofNat 115, UInt8.ofNat 116, UInt8.ofNat 111, UInt8.ofNat 115] } : ByteArray), Cell.str ({ data := #[UInt8.ofNat 115, UInt8.ofNat 121, UInt8.ofNat 115] } : ByteArray)] false]) = some (inL op [20, 21, 22, 23, 32, 40, 41, 43, 46]) :=
  one_v op h1 h2 [({ data := #[UInt8.ofNat 109, UInt8.ofNat 117, UInt8.ofNat 108] } : ByteArray), ({ data := #[UInt8.ofNat 115, UInt8.ofNat 109, UInt8.ofNat 117, UInt8.ofNat 108] } : ByteArray), ({ data := #[UInt8.ofNat 100, UInt8.ofNat 105, UInt8.ofNat 118] } : ByteArray), ({ data := #[UInt8.ofNat 115, UInt8.ofNat 100, UInt8.ofNat 105, UInt8.ofNat 118] } : ByteArray), ({ data := #[UInt8.ofNat 99, UInt8.ofNat 97, UInt8.ofNat 115] } : ByteArray), ({ data := #[UInt8.ofNat 119, UInt8.ofNat 105, UInt8.ofNat 100, UInt8.ofNat 101] } : ByteArray), ({ data := #[UInt8.ofNat 115, UInt8.ofNat 105, UInt8.ofNat 103, UInt8.ofNat 110] } : ByteArray), ({ data := #[UInt8.ofNat 115, UInt8.ofNat 116, UInt8.ofNat 111, UInt8.ofNat 115] } : ByteArray), ({ data := #[UInt8.ofNat 115, UInt8.ofNat 121, UInt8.ofNat 115] } : ByteArray)] [20, 21, 22, 23, 32, 40, 41, 43, 46] (by decide) (by decide +kernel) X
theorem one_f (op : Int) (h1 : 1 ≤ op) (h2 : op ≤ 47) (X : Heap) : g30 (wordAt op) (some { id := X.length, off := 0, len := 3, cap := 3, esz := 1 }) (X ++ [Blk.row [Cell.str ({ data := #[UInt8.ofNat 109, UInt8.ofNat 117, UInt8.ofNat 108] } : ByteArray), Cell.str ({ data := #[UInt8.ofNat 115, UInt8.ofNat 109, UInt8.ofNat 117, UInt8.ofNat 108] } : ByteArray), Cell.str ({ data := #[UInt8.ofNat 115, UInt8.ofNat 105, UInt8.ofNat 103, UInt8.ofNat 110] } : ByteArray)] false]) = some (inL op [20, 21, 41]) :=
  one_v op h1 h2 [({ data := #[UInt8.ofNat 109, UInt8.ofNat 117, UInt8.ofNat 108] } : ByteArray), ({ data := #[UInt8.ofNat 115, UInt8.ofNat 109, UInt8.ofNat 117, UInt8.ofNat 108] } : ByteArray), ({ data := #[UInt8.ofNat 115, UInt8.ofNat 105, UInt8.ofNat 103, UInt8.ofNat 110] } : ByteArray)] [20, 21, 41] (by decide) (by decide +kernel) X
theorem one_g (op : Int) (h1 : 1 ≤ op) (h2 : op ≤ 47) (X : Heap) : g30 (wordAt op) (some { id := X.length, off := 0, len := 3, cap := 3, esz := 1 }) (X ++ [Blk.row [Cell.str ({ data := #[UInt8.ofNat 109, UInt8.ofNat 111, UInt8.ofNat 118, UInt8.ofNat 115] } : ByteArray), Cell.str ({ data := #[UInt8.ofNat 115, UInt8.ofNat 116, UInt8.ofNat 111, UInt8.ofNat 115] } : ByteArray), Cell.str ({ data := #[UInt8.ofNat 115, UInt8.ofNat 121, UInt8.ofNat 115] } : ByteArray)] false]) = some (inL op [42, 43, 46]) :=
  one_v op h1 h2 [({ data := #[UInt8.ofNat 109, UInt8.ofNat 111, UInt8.ofNat 118, UInt8.ofNat 115] } : ByteArray), ({ data := #[UInt8.ofNat 115, UInt8.ofNat 116, UInt8.ofNat 111, UInt8.ofNat 115] } : ByteArray), ({ data := #[UInt8.ofNat 115, UInt8.ofNat 121, UInt8.ofNat 115] } : ByteArray)] [42, 43, 46] (by decide) (by decide +kernel) X
theorem one_h (op : Int) (h1 : 1 ≤ op) (h2 : op ≤ 47) (X : Heap) : g30 (wordAt op) (some { id := X.length, off := 0, len := 5, cap := 5, esz := 1 }) (X ++ [Blk.row [Cell.str ({ data := #[UInt8.ofNat 109, UInt8.ofNat 111, UInt8.ofNat 118] } : ByteArray), Cell.str ({ data := #[UInt8.ofNat 109, UInt8.ofNat 111, UInt8.ofNat 118, UInt8.ofNat 122, UInt8.ofNat 120] } : ByteArray), Cell.str ({ data := #[UInt8.ofNat 109, UInt8.ofNat 111, UInt8.ofNat 118, UInt8.ofNat 115, UInt8.ofNat 120] } : ByteArray), Cell.str ({ data := #[UInt8.ofNat 108, UInt8.ofNat 101, UInt8.ofNat 97] } : ByteArray), Cell.str ({ data := #[UInt8.ofNat 105, UInt8.ofNat 109, UInt8.ofNat 117, UInt8.ofNat 108, UInt8.ofNat 105] } : ByteArray)] false]) = some (inL op [10, 11, 12, 13, 25]) :=
  one_v op h1 h2 [({ data := #[UInt8.ofNat 109, UInt8.ofNat 111, UInt8.ofNat 118] } : ByteArray), ({ data := #[UInt8.ofNat 109, UInt8.ofNat 111, UInt8.ofNat 118, UInt8.ofNat 122, UInt8.ofNat 120] } : ByteArray), ({ data := #[UInt8.ofNat 109, UInt8.ofNat 111, UInt8.ofNat 118, UInt8.ofNat 115, UInt8.ofNat 120] } : ByteArray), ({ data := #[UInt8.ofNat 108, UInt8.ofNat 101, UInt8.ofNat 97] } : ByteArray), ({ data := #[UInt8.ofNat 105, UInt8.ofNat 109, UInt8.ofNat 117, UInt8.ofNat 108, UInt8.ofNat 105] } : ByteArray)] [10, 11, 12, 13, 25] (by decide) (by decide +kernel) X
theorem weq_xchg (op : Int) (h1 : 1 ≤ op) (h2 : op ≤ 47) : strEq (wordAt op) ({ data := #[UInt8.ofNat 120, UInt8.ofNat 99, UInt8.ofNat 104, UInt8.ofNat 103] } : ByteArray) = inL op [31] := weq_v op h1 h2 ({ data := #[UInt8.ofNat 120, UInt8.ofNat 99, UInt8.ofNat 104, UInt8.ofNat 103] } : ByteArray) [31] (by decide +kernel)
theorem weq_xadd (op : Int) (h1 : 1 ≤ op) (h2 : op ≤ 47) : strEq (wordAt op) ({ data := #[UInt8.ofNat 120, UInt8.ofNat 97, UInt8.ofNat 100, UInt8.ofNat 100] } : ByteArray) = inL op [33] := weq_v op h1 h2 ({ data := #[UInt8.ofNat 120, UInt8.ofNat 97, UInt8.ofNat 100, UInt8.ofNat 100] } : ByteArray) [33] (by decide +kernel)
theorem weq_sys (op : Int) (h1 : 1 ≤ op) (h2 : op ≤ 47) : strEq (wordAt op) ({ data := #[UInt8.ofNat 115, UInt8.ofNat 121, UInt8.ofNat 115] } : ByteArray) = inL op [46] := weq_v op h1 h2 ({ data := #[UInt8.ofNat 115, UInt8.ofNat 121, UInt8.ofNat 115] } : ByteArray) [46] (by decide +kernel)
theorem weq_sign (op : Int) (h1 : 1 ≤ op) (h2 : op ≤ 47) : strEq (wordAt op) ({ data := #[UInt8.ofNat 115, UInt8.ofNat 105, UInt8.ofNat 103, UInt8.ofNat 110] } : ByteArray) = inL op [41] := weq_v op h1 h2 ({ data := #[UInt8.ofNat 115, UInt8.ofNat 105, UInt8.ofNat 103, UInt8.ofNat 110] } : ByteArray) [41] (by decide +kernel)
theorem weq_movs (op : Int) (h1 : 1 ≤ op) (h2 : op ≤ 47) : strEq (wordAt op) ({ data := #[UInt8.ofNat 109, UInt8.ofNat 111, UInt8.ofNat 118, UInt8.ofNat 115] } : ByteArray) = inL op [42] := weq_v op h1 h2 ({ data := #[UInt8.ofNat 109, UInt8.ofNat 111, UInt8.ofNat 118, UInt8.ofNat 115] } : ByteArray) [42] (by decide +kernel)
theorem weq_stos (op : Int) (h1 : 1 ≤ op) (h2 : op ≤ 47) : strEq (wordAt op) ({ data := #[UInt8.ofNat 115, UInt8.ofNat 116, UInt8.ofNat 111, UInt8.ofNat 115] } : ByteArray) = inL op [43] := weq_v op h1 h2 ({ data := #[UInt8.ofNat 115, UInt8.ofNat 116, UInt8.ofNat 111, UInt8.ofNat 115] } : ByteArray) [43] (by decide +kernel)
theorem weq_div (op : Int) (h1 : 1 ≤ op) (h2 : op ≤ 47) : strEq (wordAt op) ({ data := #[UInt8.ofNat 100, UInt8.ofNat 105, UInt8.ofNat 118] } : ByteArray) = inL op [22] := weq_v op h1 h2 ({ data := #[UInt8.ofNat 100, UInt8.ofNat 105, UInt8.ofNat 118] } : ByteArray) [22] (by decide +kernel)
theorem weq_sdiv (op : Int) (h1 : 1 ≤ op) (h2 : op ≤ 47) : strEq (wordAt op) ({ data := #[UInt8.ofNat 115, UInt8.ofNat 100, UInt8.ofNat 105, UInt8.ofNat 118] } : ByteArray) = inL op [23] := weq_v op h1 h2 ({ data := #[UInt8.ofNat 115, UInt8.ofNat 100, UInt8.ofNat 105, UInt8.ofNat 118] } : ByteArray) [23] (by decide +kernel)
theorem weq_pop (op : Int) (h1 : 1 ≤ op) (h2 : op ≤ 47) : strEq (wordAt op) ({ data := #[UInt8.ofNat 112, UInt8.ofNat 111, UInt8.ofNat 112] } : ByteArray) = inL op [15] := weq_v op h1 h2 ({ data := #[UInt8.ofNat 112, UInt8.ofNat 111, UInt8.ofNat 112] } : ByteArray) [15] (by decide +kernel)
def Ins.wsw (x : Ins) (r : Int) : Bool :=
  bif r == 0 then inL x.op [20, 21, 22, 23, 32, 40, 46]
  else bif r == 1 then inL x.op [46] || x.rep
  else bif r == 2 then inL x.op [41] || (x.w != 1 && inL x.op [20, 21, 22, 23])
  else bif r == 4 then inL x.op [14, 15, 38, 39]
  else bif r == 6 then inL x.op [42]
  else bif r == 7 then inL x.op [42] || inL x.op [43]
  else bif r == 11 then inL x.op [46] else false
def Ins.wr (x : Ins) (r : Int) : Bool :=
  (x.a.k == 1 && (x.a.r == r && !inL x.op [8, 9, 14, 20, 21, 22, 23, 37, 38])) ||
  ((x.b.k == 1 && (x.b.r == r && (inL x.op [31] || inL x.op [33]))) || x.wsw r)
theorem f10_x (x : Ins) (h1 : 1 ≤ x.op) (h2 : x.op ≤ 47) (r : Int) (H : Heap) : Says (f10 x.op x.w x.w2 x.a.k x.a.r x.a.b x.a.i x.a.s x.a.d x.b.k x.b.r x.b.b x.b.i x.b.s x.b.d x.imm x.cc x.lock x.rep x.len r H) H (x.wr r) := by
  obtain ⟨w1, w2⟩ := get_word H x.op (by omega) h2
  rw [q10, f29_v]
  simp only [Ab.bs, w1, w2, beq_self_eq_true, Bool.and_self, ct, tStr]
  refine says_push (b := Blk.row (wordList.map Cell.str) false) ?_
  generalize H ++ [Blk.row (wordList.map Cell.str) false] = X
  simp only [one_a x.op h1 h2, one_b x.op h1 h2, one_c x.op h1 h2, one_d x.op h1 h2, one_e x.op h1 h2, one_f x.op h1 h2, one_g x.op h1 h2, one_h x.op h1 h2, weq_xchg x.op h1 h2, weq_xadd x.op h1 h2, weq_sys x.op h1 h2, weq_sign x.op h1 h2, weq_movs x.op h1 h2, weq_stos x.op h1 h2, weq_div x.op h1 h2, weq_sdiv x.op h1 h2, weq_pop x.op h1 h2, Ab.bs]
  clear w1 w2
  unfold Ins.wr Ins.wsw bne
  repeat' (first
    | exact says_ret rfl
    | exact says_push (says_ret rfl)
    | exact says_push (says_push (says_ret rfl))
    | (refine says_ifn (fun hc => ?_) (fun hc => ?_) <;> try simp only [*, ct, cf, Bool.true_and, Bool.false_and, Bool.and_false, Bool.and_true, Bool.true_or, Bool.false_or, Bool.or_false, Bool.or_true, Bool.not_true, Bool.not_false])
    | (refine says_if (fun hc => ?_) (fun hc => ?_) <;> try simp only [*, ct, cf, Bool.true_and, Bool.false_and, Bool.and_false, Bool.and_true, Bool.true_or, Bool.false_or, Bool.or_false, Bool.or_true, Bool.not_true, Bool.not_false]))
def Ins.rsw (x : Ins) (r : Int) : Bool :=
  bif r == 0 then inL x.op [20, 21, 22, 23, 32, 40, 41, 43, 46]
  else bif r == 1 then x.rep
  else bif r == 2 then inL x.op [22] || (inL x.op [23] || (x.w == 2 && inL x.op [20, 21, 41]))
  else bif r == 4 then inL x.op [14, 15, 38, 39]
  else bif r == 6 then inL x.op [42] || inL x.op [46]
  else bif r == 7 then inL x.op [42, 43, 46] else false
def Ins.rd (x : Ins) (r : Int) : Bool :=
  (x.a.k == 2 && (x.a.b == r || x.a.i == r)) || ((x.b.k == 2 && (x.b.b == r || x.b.i == r)) || ((x.b.k == 1 && x.b.r == r) ||
  ((x.a.k == 1 && (x.a.r == r && (!inL x.op [15] && !(decide (x.w ≥ 4) && inL x.op [10, 11, 12, 13, 25])))) || x.rsw r)))
theorem J11_x (x : Ins) (h1 : 1 ≤ x.op) (h2 : x.op ≤ 47) (r : Int) (H : Heap) :
    Says (J11_3 (AExit.exit 0, X11_3a r (wordAt x.op) x.op x.w x.w2 x.a.k x.a.r x.a.b x.a.i x.a.s x.a.d x.b.k x.b.r x.b.b x.b.i x.b.s x.b.d x.imm x.cc x.lock x.rep x.len H)) H
      ((x.b.k == 1 && x.b.r == r) || ((x.a.k == 1 && (x.a.r == r && (!inL x.op [15] && !(decide (x.w ≥ 4) && inL x.op [10, 11, 12, 13, 25])))) || x.rsw r)) := by
  rw [J11_3_1]
  simp only [one_a x.op h1 h2, one_b x.op h1 h2, one_c x.op h1 h2, one_d x.op h1 h2, one_e x.op h1 h2, one_f x.op h1 h2, one_g x.op h1 h2, one_h x.op h1 h2, weq_xchg x.op h1 h2, weq_xadd x.op h1 h2, weq_sys x.op h1 h2, weq_sign x.op h1 h2, weq_movs x.op h1 h2, weq_stos x.op h1 h2, weq_div x.op h1 h2, weq_sdiv x.op h1 h2, weq_pop x.op h1 h2, Ab.bs]
  unfold Ins.rsw
  repeat' (first
    | exact says_ret rfl
    | exact says_push (says_ret rfl)
    | exact says_push (says_push (says_ret rfl))
    | (refine says_ifn (fun hc => ?_) (fun hc => ?_) <;> try simp only [*, ct, cf, Bool.true_and, Bool.false_and, Bool.and_false, Bool.and_true, Bool.true_or, Bool.false_or, Bool.or_false, Bool.or_true, Bool.not_true, Bool.not_false])
    | (refine says_if (fun hc => ?_) (fun hc => ?_) <;> try simp only [*, ct, cf, Bool.true_and, Bool.false_and, Bool.and_false, Bool.and_true, Bool.true_or, Bool.false_or, Bool.or_false, Bool.or_true, Bool.not_true, Bool.not_false]))
theorem get_row (H : Heap) (cs : List Cell) (b : Bool) (i : Nat) : (H ++ [Blk.row cs b]).get H.length i = cs[i]? := get_of (push_get _ _) i
theorem says_lp {q : Option (AExit × St)} {k : AExit × St → Option (Bool × Heap)} {c : Bool} {s : St} {H : Heap} {v : Bool} {e : Option (AExit × St)} (h : q = bif c then some (AExit.ret, s) else e) (h1 : Says (k (AExit.ret, s)) H true) (h2 : Says (e.bind k) H v) : Says (q.bind k) H (c || v) := by
  rw [h]
  cases c
  · exact h2
  · exact h1
theorem f11_x (x : Ins) (h1 : 1 ≤ x.op) (h2 : x.op ≤ 47) (r : Int) (H : Heap) : Says (f11 x.op x.w x.w2 x.a.k x.a.r x.a.b x.a.i x.a.s x.a.d x.b.k x.b.r x.b.b x.b.i x.b.s x.b.d x.imm x.cc x.lock x.rep x.len r H) H (x.rd r) := by
  obtain ⟨w1, w2⟩ := get_word H x.op (by omega) h2
  rw [q11, f29_v]
  simp only [Ab.bs, w1, w2, beq_self_eq_true, Bool.and_self, ct, tStr]
  refine says_push (b := Blk.row (wordList.map Cell.str) false) ?_
  generalize H ++ [Blk.row (wordList.map Cell.str) false] = X
  clear w1 w2
  refine says_push (b := Blk.row [Cell.int .i64 x.a.k, Cell.int .i64 x.a.r, Cell.int .i64 x.a.b, Cell.int .i64 x.a.i, Cell.int .i64 x.a.s, Cell.int .i64 x.a.d, Cell.int .i64 x.b.k, Cell.int .i64 x.b.r, Cell.int .i64 x.b.b, Cell.int .i64 x.b.i, Cell.int .i64 x.b.s, Cell.int .i64 x.b.d] false) ?_
  obtain ⟨n, e⟩ := LL11_3_of 2 (by omega) r (wordAt x.op) (some { id := X.length, off := 0, len := 2, cap := 2, esz := 6 }) (slen (some { id := X.length, off := 0, len := 2, cap := 2, esz := 6 })) 0 x.op x.w x.w2 x.a.k x.a.r x.a.b x.a.i x.a.s x.a.d x.b.k x.b.r x.b.b x.b.i x.b.s x.b.d x.imm x.cc x.lock x.rep x.len (X ++ [Blk.row [Cell.int .i64 x.a.k, Cell.int .i64 x.a.r, Cell.int .i64 x.a.b, Cell.int .i64 x.a.i, Cell.int .i64 x.a.s, Cell.int .i64 x.a.d, Cell.int .i64 x.b.k, Cell.int .i64 x.b.r, Cell.int .i64 x.b.b, Cell.int .i64 x.b.i, Cell.int .i64 x.b.s, Cell.int .i64 x.b.d] false])
  rw [e]
  have hs : slen (some { id := X.length, off := 0, len := 2, cap := 2, esz := 6 }) = 2 := rfl
  have a0 : inb 0 2 = true := by decide
  have a1 : inb 1 2 = true := by decide
  have s0 : IntKind.i64.wrap (0 + 1) = 1 := by decide
  have s1 : IntKind.i64.wrap (1 + 1) = 2 := by decide
  have d0 : decide ((0 : Int) < 2) = true := by decide
  have d1 : decide ((1 : Int) < 2) = true := by decide
  have d2 : decide ((2 : Int) < 2) = false := by decide
  rw [hs]
  have g0 : (X ++ [Blk.row [Cell.int .i64 x.a.k, Cell.int .i64 x.a.r, Cell.int .i64 x.a.b, Cell.int .i64 x.a.i, Cell.int .i64 x.a.s, Cell.int .i64 x.a.d, Cell.int .i64 x.b.k, Cell.int .i64 x.b.r, Cell.int .i64 x.b.b, Cell.int .i64 x.b.i, Cell.int .i64 x.b.s, Cell.int .i64 x.b.d] false]).get X.length (0 + (0 : Int).toNat * 6) = some (Cell.int .i64 x.a.k) := row_get _ _ _ _ _ rfl
  have g1 : (X ++ [Blk.row [Cell.int .i64 x.a.k, Cell.int .i64 x.a.r, Cell.int .i64 x.a.b, Cell.int .i64 x.a.i, Cell.int .i64 x.a.s, Cell.int .i64 x.a.d, Cell.int .i64 x.b.k, Cell.int .i64 x.b.r, Cell.int .i64 x.b.b, Cell.int .i64 x.b.i, Cell.int .i64 x.b.s, Cell.int .i64 x.b.d] false]).get X.length (0 + (0 : Int).toNat * 6 + 1) = some (Cell.int .i64 x.a.r) := row_get _ _ _ _ _ rfl
  have g2 : (X ++ [Blk.row [Cell.int .i64 x.a.k, Cell.int .i64 x.a.r, Cell.int .i64 x.a.b, Cell.int .i64 x.a.i, Cell.int .i64 x.a.s, Cell.int .i64 x.a.d, Cell.int .i64 x.b.k, Cell.int .i64 x.b.r, Cell.int .i64 x.b.b, Cell.int .i64 x.b.i, Cell.int .i64 x.b.s, Cell.int .i64 x.b.d] false]).get X.length (0 + (0 : Int).toNat * 6 + 1 + 1) = some (Cell.int .i64 x.a.b) := row_get _ _ _ _ _ rfl
  have g3 : (X ++ [Blk.row [Cell.int .i64 x.a.k, Cell.int .i64 x.a.r, Cell.int .i64 x.a.b, Cell.int .i64 x.a.i, Cell.int .i64 x.a.s, Cell.int .i64 x.a.d, Cell.int .i64 x.b.k, Cell.int .i64 x.b.r, Cell.int .i64 x.b.b, Cell.int .i64 x.b.i, Cell.int .i64 x.b.s, Cell.int .i64 x.b.d] false]).get X.length (0 + (0 : Int).toNat * 6 + 1 + 1 + 1) = some (Cell.int .i64 x.a.i) := row_get _ _ _ _ _ rfl
  have g4 : (X ++ [Blk.row [Cell.int .i64 x.a.k, Cell.int .i64 x.a.r, Cell.int .i64 x.a.b, Cell.int .i64 x.a.i, Cell.int .i64 x.a.s, Cell.int .i64 x.a.d, Cell.int .i64 x.b.k, Cell.int .i64 x.b.r, Cell.int .i64 x.b.b, Cell.int .i64 x.b.i, Cell.int .i64 x.b.s, Cell.int .i64 x.b.d] false]).get X.length (0 + (0 : Int).toNat * 6 + 1 + 1 + 1 + 1) = some (Cell.int .i64 x.a.s) := row_get _ _ _ _ _ rfl
  have g5 : (X ++ [Blk.row [Cell.int .i64 x.a.k, Cell.int .i64 x.a.r, Cell.int .i64 x.a.b, Cell.int .i64 x.a.i, Cell.int .i64 x.a.s, Cell.int .i64 x.a.d, Cell.int .i64 x.b.k, Cell.int .i64 x.b.r, Cell.int .i64 x.b.b, Cell.int .i64 x.b.i, Cell.int .i64 x.b.s, Cell.int .i64 x.b.d] false]).get X.length (0 + (0 : Int).toNat * 6 + 1 + 1 + 1 + 1 + 1) = some (Cell.int .i64 x.a.d) := row_get _ _ _ _ _ rfl
  have g6 : (X ++ [Blk.row [Cell.int .i64 x.a.k, Cell.int .i64 x.a.r, Cell.int .i64 x.a.b, Cell.int .i64 x.a.i, Cell.int .i64 x.a.s, Cell.int .i64 x.a.d, Cell.int .i64 x.b.k, Cell.int .i64 x.b.r, Cell.int .i64 x.b.b, Cell.int .i64 x.b.i, Cell.int .i64 x.b.s, Cell.int .i64 x.b.d] false]).get X.length (0 + (1 : Int).toNat * 6) = some (Cell.int .i64 x.b.k) := row_get _ _ _ _ _ rfl
  have g7 : (X ++ [Blk.row [Cell.int .i64 x.a.k, Cell.int .i64 x.a.r, Cell.int .i64 x.a.b, Cell.int .i64 x.a.i, Cell.int .i64 x.a.s, Cell.int .i64 x.a.d, Cell.int .i64 x.b.k, Cell.int .i64 x.b.r, Cell.int .i64 x.b.b, Cell.int .i64 x.b.i, Cell.int .i64 x.b.s, Cell.int .i64 x.b.d] false]).get X.length (0 + (1 : Int).toNat * 6 + 1) = some (Cell.int .i64 x.b.r) := row_get _ _ _ _ _ rfl
  have g8 : (X ++ [Blk.row [Cell.int .i64 x.a.k, Cell.int .i64 x.a.r, Cell.int .i64 x.a.b, Cell.int .i64 x.a.i, Cell.int .i64 x.a.s, Cell.int .i64 x.a.d, Cell.int .i64 x.b.k, Cell.int .i64 x.b.r, Cell.int .i64 x.b.b, Cell.int .i64 x.b.i, Cell.int .i64 x.b.s, Cell.int .i64 x.b.d] false]).get X.length (0 + (1 : Int).toNat * 6 + 1 + 1) = some (Cell.int .i64 x.b.b) := row_get _ _ _ _ _ rfl
  have g9 : (X ++ [Blk.row [Cell.int .i64 x.a.k, Cell.int .i64 x.a.r, Cell.int .i64 x.a.b, Cell.int .i64 x.a.i, Cell.int .i64 x.a.s, Cell.int .i64 x.a.d, Cell.int .i64 x.b.k, Cell.int .i64 x.b.r, Cell.int .i64 x.b.b, Cell.int .i64 x.b.i, Cell.int .i64 x.b.s, Cell.int .i64 x.b.d] false]).get X.length (0 + (1 : Int).toNat * 6 + 1 + 1 + 1) = some (Cell.int .i64 x.b.i) := row_get _ _ _ _ _ rfl
  have g10 : (X ++ [Blk.row [Cell.int .i64 x.a.k, Cell.int .i64 x.a.r, Cell.int .i64 x.a.b, Cell.int .i64 x.a.i, Cell.int .i64 x.a.s, Cell.int .i64 x.a.d, Cell.int .i64 x.b.k, Cell.int .i64 x.b.r, Cell.int .i64 x.b.b, Cell.int .i64 x.b.i, Cell.int .i64 x.b.s, Cell.int .i64 x.b.d] false]).get X.length (0 + (1 : Int).toNat * 6 + 1 + 1 + 1 + 1) = some (Cell.int .i64 x.b.s) := row_get _ _ _ _ _ rfl
  have g11 : (X ++ [Blk.row [Cell.int .i64 x.a.k, Cell.int .i64 x.a.r, Cell.int .i64 x.a.b, Cell.int .i64 x.a.i, Cell.int .i64 x.a.s, Cell.int .i64 x.a.d, Cell.int .i64 x.b.k, Cell.int .i64 x.b.r, Cell.int .i64 x.b.b, Cell.int .i64 x.b.i, Cell.int .i64 x.b.s, Cell.int .i64 x.b.d] false]).get X.length (0 + (1 : Int).toNat * 6 + 1 + 1 + 1 + 1 + 1) = some (Cell.int .i64 x.b.d) := row_get _ _ _ _ _ rfl
  simp only [D11_3_s, d0, d1, d2, s0, s1, ct, cf, Ab.bs, a0, a1, beq_self_eq_true, Bool.and_self, g0, g1, g2, g3, g4, g5, g6, g7, g8, g9, g10, g11, tInt]
  clear g0 g1 g2 g3 g4 g5 g6 g7 g8 g9 g10 g11
  have J := J11_x x h1 h2 r (X ++ [Blk.row [Cell.int .i64 x.a.k, Cell.int .i64 x.a.r, Cell.int .i64 x.a.b, Cell.int .i64 x.a.i, Cell.int .i64 x.a.s, Cell.int .i64 x.a.d, Cell.int .i64 x.b.k, Cell.int .i64 x.b.r, Cell.int .i64 x.b.b, Cell.int .i64 x.b.i, Cell.int .i64 x.b.s, Cell.int .i64 x.b.d] false])
  generalize (X ++ [Blk.row [Cell.int .i64 x.a.k, Cell.int .i64 x.a.r, Cell.int .i64 x.a.b, Cell.int .i64 x.a.i, Cell.int .i64 x.a.s, Cell.int .i64 x.a.d, Cell.int .i64 x.b.k, Cell.int .i64 x.b.r, Cell.int .i64 x.b.b, Cell.int .i64 x.b.i, Cell.int .i64 x.b.s, Cell.int .i64 x.b.d] false]) = Y at *
  unfold Ins.rd
  have ret : Says (J11_3 (AExit.ret, X11_3 r true (wordAt x.op) x.op x.w x.w2 x.a.k x.a.r x.a.b x.a.i x.a.s x.a.d x.b.k x.b.r x.b.b x.b.i x.b.s x.b.d x.imm x.cc x.lock x.rep x.len Y)) Y true := by rw [J11_3_0]; exact says_ret rfl
  generalize J11_3 = k at ret J ⊢
  generalize x.rsw r = z at J ⊢
  cases x.a.k == 2 <;> cases x.a.b == r <;> cases x.a.i == r <;> cases x.b.k == 2 <;> cases x.b.b == r <;> cases x.b.i == r <;> simp only [ct, cf, Ab.bs, Bool.true_and, Bool.false_and, Bool.and_false, Bool.and_true, Bool.true_or, Bool.false_or, Bool.or_false, Bool.or_true] <;> first | exact ret | exact J
end
end Go.Proofs.Ytlhcbcfphognlaa
