/- SrA to SrC. -/
import Derived.Test.YtnipccoenalnkaaGreatSqG
import Derived.Test.YtnipccoenalnkaaGreatXl
namespace Go.Proofs.YtnipccoenalnkaaGreat
open Go Go.Proofs.YtnipccoenalnkaaGreat.Ab
set_option linter.unusedVariables false
set_option linter.unusedSimpArgs false
set_option maxRecDepth 100000
noncomputable section
def w248 (w : Int) : Bool := w == 2 || (w == 4 || w == 8)
theorem row_get (H : Heap) (cs : List Cell) (b : Bool) (i : Nat) (c : Cell) (h : cs[i]? = some c) : (H ++ [Blk.row cs b]).get H.length i = some c := by
  rw [get_of (row := cs) (ro := b) (by simp)]
  exact h
/-- Has a number 8, 16, 32 bits, with a sign? -/
def fitsI (v m : Int) : Bool := decide (-m ≤ v) && decide (v < m)
theorem wrap_i64_e (n : Int) : IntKind.i64.wrap n = (n + 9223372036854775808) % 18446744073709551616 - 9223372036854775808 := by
  simp [IntKind.wrap, IntKind.bits, IntKind.signed]
  omega
theorem shl_e (v : Int) (s : Nat) (h : s ≤ 64) : ishl .i64 v (s : Int) = IntKind.i64.wrap (v * 2 ^ s) := by
  unfold ishl
  rw [show min ((s : Int).toNat) IntKind.i64.bits = s by simp [IntKind.bits]; omega]
theorem shr_e (v : Int) (s : Nat) (h : s ≤ 64) : ishr .i64 v (s : Int) = v / 2 ^ s := by
  unfold ishr
  rw [show min ((s : Int).toNat) IntKind.i64.bits = s by simp [IntKind.bits]; omega, Int.fdiv_eq_ediv_of_nonneg _ (Int.le_of_lt (Int.pow_pos (by decide)))]
theorem beq_dec {a b m : Int} (h : a = b ↔ (-m ≤ b ∧ b < m)) : (a == b) = fitsI b m := by
  unfold fitsI
  rw [← Bool.decide_and, Bool.eq_iff_iff]
  simpa using h
theorem fits8 (v : Int) (h1 : -9223372036854775808 ≤ v) (h2 : v < 9223372036854775808) : (ishr .i64 (ishl .i64 v 56) 56 == v) = fitsI v 128 := by
  refine beq_dec ?_
  rw [show (56 : Int) = ((56 : Nat) : Int) from rfl, shl_e v 56 (by omega), shr_e _ 56 (by omega), wrap_i64_e]
  omega
theorem fits16 (v : Int) (h1 : -9223372036854775808 ≤ v) (h2 : v < 9223372036854775808) : (ishr .i64 (ishl .i64 v 48) 48 == v) = fitsI v 32768 := by
  refine beq_dec ?_
  rw [show (48 : Int) = ((48 : Nat) : Int) from rfl, shl_e v 48 (by omega), shr_e _ 48 (by omega), wrap_i64_e]
  omega
theorem fits32 (v : Int) (h1 : -9223372036854775808 ≤ v) (h2 : v < 9223372036854775808) : (ishr .i64 (ishl .i64 v 32) 32 == v) = fitsI v 2147483648 := by
  refine beq_dec ?_
  rw [show (32 : Int) = ((32 : Nat) : Int) from rfl, shl_e v 32 (by omega), shr_e _ 32 (by omega), wrap_i64_e]
  omega
/-- The bound of so many bits. -/
def halfOf (n : Int) : Int := if n = 8 then 128 else if n = 16 then 32768 else 2147483648
def fitsR (v n : Int) : Bool :=
  decide (n ≥ 64) || ((decide (v ≥ 0) && decide (IntKind.u64.wrap v < ishl .u64 1 (IntKind.u64.wrap (IntKind.i64.wrap (n - 1))))) ||
    (decide (v < 0) && decide (IntKind.u64.wrap (IntKind.i64.wrap (0 - IntKind.i64.wrap (v + 1))) < ishl .u64 1 (IntKind.u64.wrap (IntKind.i64.wrap (n - 1))))))
theorem f102_g (v n : Int) (H : Heap) : f102 v n H = some (fitsR v n, H) := by
  rw [q102]
  unfold fitsR
  rw [show decide (IntKind.u64.wrap (IntKind.i64.wrap (n - 1)) < 0) = false by rw [wrap_u64]; simp; omega]
  generalize decide (IntKind.u64.wrap v < _) = a
  generalize decide (IntKind.u64.wrap (IntKind.i64.wrap (0 - _)) < _) = b
  cases decide (n ≥ 64) <;> cases decide (v ≥ 0) <;> cases a <;> cases decide (v < 0) <;> cases b <;> rfl
theorem f102_v (v n : Int) (hn : n = 8 ∨ n = 16 ∨ n = 32) (h1 : -9223372036854775808 ≤ v) (h2 : v < 9223372036854775808) (H : Heap) : f102 v n H = some (fitsI v (halfOf n), H) := by
  rw [q102]
  have key : ∀ (k m : Int), (∀ x : Int, 0 ≤ x → x < 9223372036854775808 → IntKind.u64.wrap x = x) →
      IntKind.u64.wrap (IntKind.i64.wrap (n - 1)) = k → decide (k < 0) = false → decide (n ≥ 64) = false → ishl .u64 1 k = m → 0 < m → halfOf n = m →
      (bif decide (n ≥ 64) then some (true, H) else bif decide (v ≥ 0) then bif decide (k < 0) then none else bif decide (IntKind.u64.wrap v < ishl .u64 1 k) then some (true, H) else bif decide (v < 0) then bif decide (k < 0) then none else some (decide (IntKind.u64.wrap (IntKind.i64.wrap (0 - IntKind.i64.wrap (v + 1))) < ishl .u64 1 k), H) else some (false, H) else bif decide (v < 0) then bif decide (k < 0) then none else some (decide (IntKind.u64.wrap (IntKind.i64.wrap (0 - IntKind.i64.wrap (v + 1))) < ishl .u64 1 k), H) else some (false, H)) = some (fitsI v (halfOf n), H) := by
    intro k m hw e1 e2 e3 e4 hm e5
    rw [e2, e3, e4, e5]
    unfold fitsI
    by_cases hv : v ≥ 0
    · rw [decide_eq_true hv, hw v hv h2, show decide (v < 0) = false by simp; omega, show decide (-m ≤ v) = true by simp; omega]
      cases decide (v < m) <;> rfl
    · have a1 : IntKind.i64.wrap (v + 1) = v + 1 := wrap_i64 (by omega) (by omega)
      have a2 : IntKind.i64.wrap (0 - (v + 1)) = -1 - v := by rw [wrap_i64 (by omega) (by omega)]; omega
      rw [decide_eq_false hv, show decide (v < 0) = true by simp; omega, a1, a2, hw (-1 - v) (by omega) (by omega), show decide (v < m) = true by simp; omega, show decide (-1 - v < m) = decide (-m ≤ v) by rw [decide_eq_decide]; omega]
      cases decide (-m ≤ v) <;> rfl
  have hw : ∀ x : Int, 0 ≤ x → x < 9223372036854775808 → IntKind.u64.wrap x = x := fun x a b => by rw [wrap_u64]; omega
  rcases hn with rfl | rfl | rfl
  · exact key 7 128 hw (by decide) rfl rfl (by decide) (by decide) rfl
  · exact key 15 32768 hw (by decide) rfl rfl (by decide) (by decide) rfl
  · exact key 31 2147483648 hw (by decide) rfl rfl (by decide) (by decide) rfl
theorem fitsR_eq (v n : Int) (hn : n = 8 ∨ n = 16 ∨ n = 32) (h1 : -9223372036854775808 ≤ v) (h2 : v < 9223372036854775808) : fitsR v n = fitsI v (halfOf n) := by
  have a := f102_g v n []
  rw [f102_v v n hn h1 h2] at a
  exact (Prod.mk.inj (Option.some.inj a)).1.symm
/-- Stands a word at a place of a text, by itself? -/
def hitAt (W w : List UInt8) (k : Nat) : Bool :=
  ((W.drop k).take w.length == w) && ((k == 0 || W[k - 1]? == some 32) && (k + w.length == W.length || W[k + w.length]? == some 32))
def findAt (W w : List UInt8) : Nat → Nat → Bool
  | _, 0 => false
  | k, m + 1 => hitAt W w k || findAt W w (k + 1) m
theorem strSub_take (W : ByteArray) (k n : Nat) (h : k + n ≤ W.size) : strSub W (k : Int) (some ((k + n : Nat) : Int)) = some (W.extract k (k + n)) := by
  unfold strSub
  have h1 : (some ((k + n : Nat) : Int)).getD (W.size : Int) = ((k + n : Nat) : Int) := rfl
  rw [h1, if_pos ⟨by omega, by omega, by omega⟩, Int.toNat_natCast, Int.toNat_natCast]
theorem extract_list (W : ByteArray) (k n : Nat) : (W.extract k (k + n)).data.toList = (W.data.toList.drop k).take n := by
  rw [ByteArray.data_extract, Array.toList_extract, List.extract_eq_take_drop, Nat.add_sub_cancel_left]
theorem beq_32 (c : UInt8) : (((c.toNat : Nat) : Int) == 32) = (some c == some 32) := by
  rw [Bool.eq_iff_iff]
  simp only [beq_iff_eq, Option.some.injEq]
  constructor
  · intro h; exact UInt8.toNat_inj.1 (by have : c.toNat = 32 := by omega
                                         rw [this]; rfl)
  · intro h; rw [h]; rfl
theorem loop_R5_Inst_is (W w : ByteArray) (hW : W.size ≤ 1000) (hw : w.size ≤ 1000) (h0 : 0 < w.size) (H : Heap) : ∀ (m n k : Nat), W.size + 1 - (k + w.size) = m → k ≤ 1000 →
    (D51_5 (n + m + 1) (S51_5 W w (k : Int) H)).bind J51_5 = some (findAt W.data.toList w.data.toList k m, H)
  | 0, n, k, h, hk0 => by
    have e : IntKind.i64.wrap ((k : Int) + (w.size : Int)) = ((k + w.size : Nat) : Int) := by rw [wrap_i64 (by omega) (by omega)]; rfl
    have g : decide (((k + w.size : Nat) : Int) ≤ (W.size : Int)) = false := by simp; omega
    rw [D51_5_s, e, g, cf, Ab.bs, J51_5_1]
    rfl
  | m + 1, n, k, h, hk0 => by
    have e : IntKind.i64.wrap ((k : Int) + (w.size : Int)) = ((k + w.size : Nat) : Int) := by rw [wrap_i64 (by omega) (by omega)]; rfl
    have g : decide (((k + w.size : Nat) : Int) ≤ (W.size : Int)) = true := by simp; omega
    have e2 : IntKind.i64.wrap ((k : Int) + 1) = ((k + 1 : Nat) : Int) := by rw [wrap_i64 (by omega) (by omega)]; rfl
    have lw : w.data.toList.length = w.size := by simp
    have lW : W.data.toList.length = W.size := by simp
    have ih := loop_R5_Inst_is W w hW hw h0 H m n (k + 1) (by omega) (by omega)
    rw [show n + (m + 1) + 1 = (n + m + 1) + 1 by omega, D51_5_s, e, g]
    simp only [ct, strSub_take W k w.size (by omega), Ab.bs, e2]
    have hs : strEq (W.extract k (k + w.size)) w = ((W.data.toList.drop k).take w.data.toList.length == w.data.toList) := by
      unfold strEq; rw [extract_list, lw]
    rw [hs]
    show _ = some (hitAt W.data.toList w.data.toList k || _, H)
    unfold hitAt
    have hend : ∀ T F : Option (AExit × St), (bif ((k + w.size : Nat) : Int) == (W.size : Int) then T else bif inb ((k + w.size : Nat) : Int) W.size then (W.data.toList[((k + w.size : Nat) : Int).toNat]?).bind fun v0 => bif (v0.toNat : Int) == 32 then T else F else none) = bif (k + w.data.toList.length == W.data.toList.length || W.data.toList[k + w.data.toList.length]? == some 32) then T else F := by
      intro T F
      rw [lw, lW]
      by_cases hk : k + w.size = W.size
      · rw [show (((k + w.size : Nat) : Int) == (W.size : Int)) = true by simp; omega, ct, show (k + w.size == W.size) = true by simpa using hk, Bool.true_or, ct]
      · have hl : k + w.size < W.data.toList.length := by omega
        rw [show (((k + w.size : Nat) : Int) == (W.size : Int)) = false by simp; omega, cf, show (k + w.size == W.size) = false by simpa using hk, Bool.false_or, show inb ((k + w.size : Nat) : Int) W.size = true by simp [inb]; omega, ct, Int.toNat_natCast, List.getElem?_eq_getElem hl, Ab.bs, beq_32]
    simp only [hend]
    cases ((W.data.toList.drop k).take w.data.toList.length == w.data.toList) with
    | false => rw [cf, ih]; rfl
    | true =>
      rw [ct, Bool.true_and]
      by_cases hk : k = 0
      · subst hk
        rw [show (((0 : Nat) : Int) == 0) = true from rfl, ct, show ((0 : Nat) == 0) = true from rfl, Bool.true_or, Bool.true_and]
        cases (0 + w.data.toList.length == W.data.toList.length || W.data.toList[0 + w.data.toList.length]? == some 32) with
        | true => rw [ct, Ab.bs, J51_5_0]; rfl
        | false => rw [cf, ih]; rfl
      · have hl : k - 1 < W.data.toList.length := by omega
        rw [show ((k : Int) == 0) = false by simp; omega, cf, show (k == 0) = false by simpa using hk, Bool.false_or, show IntKind.i64.wrap ((k : Int) - 1) = ((k - 1 : Nat) : Int) by rw [wrap_i64 (by omega) (by omega)]; omega,
          show inb ((k - 1 : Nat) : Int) W.size = true by simp [inb]; omega, ct, Int.toNat_natCast, List.getElem?_eq_getElem hl, Ab.bs, beq_32]
        cases (some W.data.toList[k - 1] == some 32) with
        | false => rw [cf, ih]; rfl
        | true =>
          rw [ct, Bool.true_and]
          cases (k + w.data.toList.length == W.data.toList.length || W.data.toList[k + w.data.toList.length]? == some 32) with
          | true => rw [ct, Ab.bs, J51_5_0]; rfl
          | false => rw [cf, ih]; rfl
def wordList : List ByteArray := [{ data := #[] }, { data := #[UInt8.ofNat 97, UInt8.ofNat 100, UInt8.ofNat 100] }, { data := #[UInt8.ofNat 111, UInt8.ofNat 114] }, { data := #[UInt8.ofNat 97, UInt8.ofNat 100, UInt8.ofNat 99] }, { data := #[UInt8.ofNat 115, UInt8.ofNat 98, UInt8.ofNat 98] }, { data := #[UInt8.ofNat 97, UInt8.ofNat 110, UInt8.ofNat 100] }, { data := #[UInt8.ofNat 115, UInt8.ofNat 117, UInt8.ofNat 98] }, { data := #[UInt8.ofNat 120, UInt8.ofNat 111, UInt8.ofNat 114] }, { data := #[UInt8.ofNat 99, UInt8.ofNat 109, UInt8.ofNat 112] }, { data := #[UInt8.ofNat 116, UInt8.ofNat 101, UInt8.ofNat 115, UInt8.ofNat 116] }, { data := #[UInt8.ofNat 109, UInt8.ofNat 111, UInt8.ofNat 118] }, { data := #[UInt8.ofNat 109, UInt8.ofNat 111, UInt8.ofNat 118, UInt8.ofNat 122, UInt8.ofNat 120] }, { data := #[UInt8.ofNat 109, UInt8.ofNat 111, UInt8.ofNat 118, UInt8.ofNat 115, UInt8.ofNat 120] }, { data := #[UInt8.ofNat 108, UInt8.ofNat 101, UInt8.ofNat 97] }, { data := #[UInt8.ofNat 112, UInt8.ofNat 117, UInt8.ofNat 115, UInt8.ofNat 104] }, { data := #[UInt8.ofNat 112, UInt8.ofNat 111, UInt8.ofNat 112] }, { data := #[UInt8.ofNat 105, UInt8.ofNat 110, UInt8.ofNat 99] }, { data := #[UInt8.ofNat 100, UInt8.ofNat 101, UInt8.ofNat 99] }, { data := #[UInt8.ofNat 110, UInt8.ofNat 111, UInt8.ofNat 116] }, { data := #[UInt8.ofNat 110, UInt8.ofNat 101, UInt8.ofNat 103] }, { data := #[UInt8.ofNat 109, UInt8.ofNat 117, UInt8.ofNat 108] }, { data := #[UInt8.ofNat 115, UInt8.ofNat 109, UInt8.ofNat 117, UInt8.ofNat 108] }, { data := #[UInt8.ofNat 100, UInt8.ofNat 105, UInt8.ofNat 118] }, { data := #[UInt8.ofNat 115, UInt8.ofNat 100, UInt8.ofNat 105, UInt8.ofNat 118] }, { data := #[UInt8.ofNat 105, UInt8.ofNat 109, UInt8.ofNat 117, UInt8.ofNat 108] }, { data := #[UInt8.ofNat 105, UInt8.ofNat 109, UInt8.ofNat 117, UInt8.ofNat 108, UInt8.ofNat 105] }, { data := #[UInt8.ofNat 114, UInt8.ofNat 111, UInt8.ofNat 108] }, { data := #[UInt8.ofNat 114, UInt8.ofNat 111, UInt8.ofNat 114] }, { data := #[UInt8.ofNat 115, UInt8.ofNat 104, UInt8.ofNat 108] }, { data := #[UInt8.ofNat 115, UInt8.ofNat 104, UInt8.ofNat 114] }, { data := #[UInt8.ofNat 115, UInt8.ofNat 97, UInt8.ofNat 114] }, { data := #[UInt8.ofNat 120, UInt8.ofNat 99, UInt8.ofNat 104, UInt8.ofNat 103] }, { data := #[UInt8.ofNat 99, UInt8.ofNat 97, UInt8.ofNat 115] }, { data := #[UInt8.ofNat 120, UInt8.ofNat 97, UInt8.ofNat 100, UInt8.ofNat 100] }, { data := #[UInt8.ofNat 99, UInt8.ofNat 109, UInt8.ofNat 111, UInt8.ofNat 118] }, { data := #[UInt8.ofNat 115, UInt8.ofNat 101, UInt8.ofNat 116] }, { data := #[UInt8.ofNat 106, UInt8.ofNat 99, UInt8.ofNat 99] }, { data := #[UInt8.ofNat 106, UInt8.ofNat 109, UInt8.ofNat 112] }, { data := #[UInt8.ofNat 99, UInt8.ofNat 97, UInt8.ofNat 108, UInt8.ofNat 108] }, { data := #[UInt8.ofNat 114, UInt8.ofNat 101, UInt8.ofNat 116] }, { data := #[UInt8.ofNat 119, UInt8.ofNat 105, UInt8.ofNat 100, UInt8.ofNat 101] }, { data := #[UInt8.ofNat 115, UInt8.ofNat 105, UInt8.ofNat 103, UInt8.ofNat 110] }, { data := #[UInt8.ofNat 109, UInt8.ofNat 111, UInt8.ofNat 118, UInt8.ofNat 115] }, { data := #[UInt8.ofNat 115, UInt8.ofNat 116, UInt8.ofNat 111, UInt8.ofNat 115] }, { data := #[UInt8.ofNat 102, UInt8.ofNat 101, UInt8.ofNat 110, UInt8.ofNat 99, UInt8.ofNat 101] }, { data := #[UInt8.ofNat 110, UInt8.ofNat 111, UInt8.ofNat 112] }, { data := #[UInt8.ofNat 115, UInt8.ofNat 121, UInt8.ofNat 115] }, { data := #[UInt8.ofNat 117, UInt8.ofNat 100] }]
theorem words_ok : ∀ k : Nat, k < 48 → 1 ≤ k → ∃ w, wordList[k]? = some w ∧ 0 < w.size ∧ w.size ≤ 1000 := by
  intro k hk h1
  have hl : k < wordList.length := hk
  refine ⟨wordList[k], List.getElem?_eq_getElem hl, ?_⟩
  have : ∀ k : Fin 48, 1 ≤ k.val → 0 < (wordList[k.val]'k.isLt).size ∧ (wordList[k.val]'k.isLt).size ≤ 1000 := by decide
  exact this ⟨k, hk⟩ h1
/-- The word of an operation. -/
def wordAt (op : Int) : ByteArray := (wordList[op.toNat]?).getD ⟨#[]⟩
/-- Is an operation one of a text's words? -/
def isW (op : Int) (W : ByteArray) : Bool :=
  !decide (op < 1) && (!decide (op > 47) && findAt W.data.toList (wordAt op).data.toList 0 (W.size + 1 - (wordAt op).size))
theorem f25_v (H : Heap) : f25 H = some (some { id := H.length, off := 0, len := 48, cap := 48, esz := 1 }, H ++ [Blk.row (wordList.map Cell.str) false]) := q25 H
theorem get_word (H : Heap) (op : Int) (h1 : 0 ≤ op) (h2 : op ≤ 47) : inb op 48 = true ∧ (H ++ [Blk.row (wordList.map Cell.str) false]).get H.length (0 + op.toNat * 1) = some (Cell.str (wordAt op)) := by
  refine ⟨by simp [inb]; omega, ?_⟩
  rw [show 0 + op.toNat * 1 = op.toNat by omega]
  refine row_get _ _ _ _ _ ?_
  have hl : op.toNat < wordList.length := by show op.toNat < 48; omega
  unfold wordAt
  rw [List.getElem?_map, List.getElem?_eq_getElem hl]
  rfl
theorem f51_x (i : TInst) (W : ByteArray) (hW : W.size ≤ 900) (H : Heap) : Says (f51 i W H) H (isW i.op W) := by
  rw [q51]
  unfold isW
  by_cases h1 : i.op < 1
  · rw [decide_eq_true h1]; exact says_ret rfl
  · by_cases h2 : i.op > 47
    · rw [decide_eq_false h1, decide_eq_true h2]; exact says_ret rfl
    · rw [decide_eq_false h1, decide_eq_false h2, cf, cf, f25_v]
      refine says_push (b := Blk.row (wordList.map Cell.str) false) ?_
      obtain ⟨g1, g2⟩ := get_word H i.op (by omega) (by omega)
      obtain ⟨w, e1, e2, e3⟩ := words_ok i.op.toNat (by omega) (by omega)
      have hw : wordAt i.op = w := by unfold wordAt; rw [e1]; rfl
      simp only [Ab.bs, g1, beq_self_eq_true, Bool.and_self, ct, g2, show (Cell.str (wordAt i.op)).toStr = some (wordAt i.op) from rfl]
      rw [hw]
      obtain ⟨n, e⟩ := LL51_5_of (W.size + 1 - w.size) (by omega) (S51_5 W w 0 (H ++ [Blk.row (wordList.map Cell.str) false]))
      rw [e, show (0 : Int) = ((0 : Nat) : Int) from rfl, loop_R5_Inst_is W w (by omega) e3 e2 _ _ n 0 (by omega) (by omega)]
      exact says_ret rfl
def widthL (W : List UInt8) (w : Int) : Bool := W.any fun c => w == IntKind.i64.wrap (IntKind.u8.wrap ((c.toNat : Int) - 48))
theorem loop_R5_Inst_width (x : TInst) (W : ByteArray) (hW : W.size ≤ 900) (H : Heap) : ∀ (m n i : Nat), i + m = W.size →
    (D100_2 (n + m + 1) (S100_2 W (i : Int) x H)).bind J100_2 = some (widthL (W.data.toList.drop i) x.W, H)
  | 0, n, i, h => by
    have lW : W.data.toList.length = W.size := by simp
    have g : decide ((i : Int) < (W.size : Int)) = false := by simp; omega
    rw [D100_2_s, g, cf, Ab.bs, J100_2_1, List.drop_eq_nil_of_le (by omega)]
    rfl
  | m + 1, n, i, h => by
    have lW : W.data.toList.length = W.size := by simp
    have hl : i < W.data.toList.length := by omega
    have g : decide ((i : Int) < (W.size : Int)) = true := by simp; omega
    have g2 : inb (i : Int) W.size = true := by simp [inb]; omega
    have e2 : IntKind.i64.wrap ((i : Int) + 1) = ((i + 1 : Nat) : Int) := by rw [wrap_i64 (by omega) (by omega)]; rfl
    rw [show n + (m + 1) + 1 = (n + m + 1) + 1 by omega, D100_2_s, g, g2, Int.toNat_natCast, List.getElem?_eq_getElem hl, e2, ct, ct, Ab.bs, List.drop_eq_getElem_cons hl]
    unfold widthL
    rw [List.any_cons]
    cases (x.W == IntKind.i64.wrap (IntKind.u8.wrap ((W.data.toList[i].toNat : Int) - 48))) with
    | true => rw [ct, Ab.bs, J100_2_0]; rfl
    | false => rw [cf, loop_R5_Inst_width x W hW H m n (i + 1) (by omega)]; rfl
def widthB (W : ByteArray) (w : Int) : Bool := widthL W.data.toList w
theorem f100_x (x : TInst) (W : ByteArray) (hW : W.size ≤ 900) (H : Heap) : f100 x W H = some (widthB W x.W, H) := by
  unfold widthB
  rw [q100]
  obtain ⟨n, e⟩ := LL100_2_of W.size (by omega) (S100_2 W 0 x H)
  rw [e, show (0 : Int) = ((0 : Nat) : Int) from rfl, loop_R5_Inst_width x W hW H W.size n 0 (by omega), List.drop_zero]
def kindsL (W : List UInt8) (k : Int) : Bool :=
  W.any fun c => (k == 0 && (c.toNat : Int) == 110) || ((k == 1 && (c.toNat : Int) == 114) || ((k == 2 && (c.toNat : Int) == 109) || (k == 3 && (c.toNat : Int) == 105)))
theorem loop_R5_kinds (o : TOpd) (W : ByteArray) (hW : W.size ≤ 900) (H : Heap) : ∀ (m n i : Nat), i + m = W.size →
    (D101_2 (n + m + 1) (S101_2 W (i : Int) o H)).bind J101_2 = some (kindsL (W.data.toList.drop i) o.kind, H)
  | 0, n, i, h => by
    have lW : W.data.toList.length = W.size := by simp
    have g : decide ((i : Int) < (W.size : Int)) = false := by simp; omega
    rw [D101_2_s, g, cf, Ab.bs, J101_2_1, List.drop_eq_nil_of_le (by omega)]
    rfl
  | m + 1, n, i, h => by
    have lW : W.data.toList.length = W.size := by simp
    have hl : i < W.data.toList.length := by omega
    have g : decide ((i : Int) < (W.size : Int)) = true := by simp; omega
    have g2 : inb (i : Int) W.size = true := by simp [inb]; omega
    have e2 : IntKind.i64.wrap ((i : Int) + 1) = ((i + 1 : Nat) : Int) := by rw [wrap_i64 (by omega) (by omega)]; rfl
    have ih := loop_R5_kinds o W hW H m n (i + 1) (by omega)
    rw [show n + (m + 1) + 1 = (n + m + 1) + 1 by omega, D101_2_s, List.drop_eq_getElem_cons hl]
    generalize o.kind = k at ih ⊢
    rw [show kindsL (W.data.toList[i] :: W.data.toList.drop (i + 1)) k = (((k == 0 && (W.data.toList[i].toNat : Int) == 110) || ((k == 1 && (W.data.toList[i].toNat : Int) == 114) || ((k == 2 && (W.data.toList[i].toNat : Int) == 109) || (k == 3 && (W.data.toList[i].toNat : Int) == 105)))) || kindsL (W.data.toList.drop (i + 1)) k) from by unfold kindsL; rw [List.any_cons]]
    simp only [g, g2, ct, Int.toNat_natCast, List.getElem?_eq_getElem hl, Ab.bs, e2]
    generalize (W.data.toList[i].toNat : Int) = c
    generalize kindsL (W.data.toList.drop (i + 1)) k = V at ih ⊢
    by_cases h0 : k = 0
    · subst h0
      simp only [show ((0 : Int) == 0) = true from rfl, show ((0 : Int) == 1) = false from rfl, show ((0 : Int) == 2) = false from rfl, show ((0 : Int) == 3) = false from rfl, ct, cf, Bool.true_and, Bool.false_and, Bool.or_false]
      cases (c == 110) with
      | true => rw [ct, Ab.bs, J101_2_0]; rfl
      | false => rw [cf, ih]; rfl
    · by_cases h1 : k = 1
      · subst h1
        simp only [show ((1 : Int) == 0) = false from rfl, show ((1 : Int) == 1) = true from rfl, show ((1 : Int) == 2) = false from rfl, show ((1 : Int) == 3) = false from rfl, ct, cf, Bool.true_and, Bool.false_and, Bool.or_false, Bool.false_or]
        cases (c == 114) with
        | true => rw [ct, Ab.bs, J101_2_0]; rfl
        | false => rw [cf, ih]; rfl
      · by_cases h2 : k = 2
        · subst h2
          simp only [show ((2 : Int) == 0) = false from rfl, show ((2 : Int) == 1) = false from rfl, show ((2 : Int) == 2) = true from rfl, show ((2 : Int) == 3) = false from rfl, ct, cf, Bool.true_and, Bool.false_and, Bool.or_false, Bool.false_or]
          cases (c == 109) with
          | true => rw [ct, Ab.bs, J101_2_0]; rfl
          | false => rw [cf, ih]; rfl
        · by_cases h3 : k = 3
          · subst h3
            simp only [show ((3 : Int) == 0) = false from rfl, show ((3 : Int) == 1) = false from rfl, show ((3 : Int) == 2) = false from rfl, show ((3 : Int) == 3) = true from rfl, ct, cf, Bool.true_and, Bool.false_and, Bool.or_false, Bool.false_or]
            cases (c == 105) with
            | true => rw [ct, Ab.bs, J101_2_0]; rfl
            | false => rw [cf, ih]; rfl
          · simp only [show (k == 0) = false by simpa using h0, show (k == 1) = false by simpa using h1, show (k == 2) = false by simpa using h2, show (k == 3) = false by simpa using h3, ct, cf, Bool.false_and, Bool.or_false, Bool.false_or]
            exact ih
def kindsB (W : ByteArray) (k : Int) : Bool := kindsL W.data.toList k
theorem f101_x (o : TOpd) (W : ByteArray) (hW : W.size ≤ 900) (H : Heap) : f101 o W H = some (kindsB W o.kind, H) := by
  unfold kindsB
  rw [q101]
  obtain ⟨n, e⟩ := LL101_2_of W.size (by omega) (S101_2 W 0 o H)
  rw [e, show (0 : Int) = ((0 : Nat) : Int) from rfl, loop_R5_kinds o W hW H W.size n 0 (by omega), List.drop_zero]
/-! the closed texts -/
theorem w1248 (w : Int) : widthB s_1248 w = isW8 w := by
  show (w == 1 || (w == 2 || (w == 4 || (w == 8 || false)))) = _
  rw [Bool.or_false]; rfl
theorem w248_ (w : Int) : widthB s_248 w = w248 w := by
  show (w == 2 || (w == 4 || (w == 8 || false))) = _
  rw [Bool.or_false]; rfl
theorem w124 (w : Int) : widthB s_124 w = (w == 1 || (w == 2 || w == 4)) := by
  show (w == 1 || (w == 2 || (w == 4 || false))) = _
  rw [Bool.or_false]
theorem w8_ (w : Int) : widthB s_8 w = (w == 8) := by
  show (w == 8 || false) = _
  rw [Bool.or_false]
theorem w1_ (w : Int) : widthB s_1 w = (w == 1) := by
  show (w == 1 || false) = _
  rw [Bool.or_false]
theorem kinds_of (W : List UInt8) (k : Int) : kindsL W k = ((k == 0 && W.contains 110) || ((k == 1 && W.contains 114) || ((k == 2 && W.contains 109) || (k == 3 && W.contains 105)))) := by
  unfold kindsL
  induction W with
  | nil => simp
  | cons c W ih =>
    rw [List.any_cons, ih]
    simp only [List.contains_cons]
    have e : ∀ n : Nat, n < 256 → (((c.toNat : Nat) : Int) == (n : Int)) = (UInt8.ofNat n == c) := fun n hn => by
      rw [Bool.eq_iff_iff]; simp only [beq_iff_eq]
      constructor
      · intro h; apply UInt8.toNat_inj.1; simp; omega
      · intro h; rw [← h]; simp; omega
    have e1 := e 110 (by decide); have e2 := e 114 (by decide); have e3 := e 109 (by decide); have e4 := e 105 (by decide)
    simp only [show ((110 : Nat) : Int) = 110 from rfl, show ((114 : Nat) : Int) = 114 from rfl, show ((109 : Nat) : Int) = 109 from rfl, show ((105 : Nat) : Int) = 105 from rfl] at e1 e2 e3 e4
    rw [e1, e2, e3, e4]
    have key : ∀ a0 a1 a2 a3 p0 p1 p2 p3 d0 d1 d2 d3 : Bool, ((a0 && p0 || (a1 && p1 || (a2 && p2 || a3 && p3))) || (a0 && d0 || (a1 && d1 || (a2 && d2 || a3 && d3)))) = (a0 && (p0 || d0) || (a1 && (p1 || d1) || (a2 && (p2 || d2) || a3 && (p3 || d3)))) := by
      intro a0 a1 a2 a3 p0 p1 p2 p3 d0 d1 d2 d3
      cases a0 <;> cases a1 <;> cases a2 <;> cases a3 <;> simp [Bool.or_assoc, Bool.or_comm, Bool.or_left_comm]
    exact key ..
theorem krm (k : Int) : kindsB s_rm k = (k == 1 || k == 2) := by
  unfold kindsB
  rw [kinds_of]
  show (k == 0 && false || (k == 1 && true || (k == 2 && true || k == 3 && false))) = _
  simp
theorem krmi (k : Int) : kindsB s_rmi k = (k == 1 || (k == 2 || k == 3)) := by
  unfold kindsB
  rw [kinds_of]
  show (k == 0 && false || (k == 1 && true || (k == 2 && true || k == 3 && true))) = _
  simp
theorem kri (k : Int) : kindsB s_ri k = (k == 1 || k == 3) := by
  unfold kindsB
  rw [kinds_of]
  show (k == 0 && false || (k == 1 && true || (k == 2 && false || k == 3 && true))) = _
  simp
theorem kr (k : Int) : kindsB s_r k = (k == 1) := by
  unfold kindsB
  rw [kinds_of]
  show (k == 0 && false || (k == 1 && true || (k == 2 && false || k == 3 && false))) = _
  simp
theorem km (k : Int) : kindsB s_m k = (k == 2) := by
  unfold kindsB
  rw [kinds_of]
  show (k == 0 && false || (k == 1 && false || (k == 2 && true || k == 3 && false))) = _
  simp
theorem ki (k : Int) : kindsB s_i k = (k == 3) := by
  unfold kindsB
  rw [kinds_of]
  show (k == 0 && false || (k == 1 && false || (k == 2 && false || k == 3 && true))) = _
  simp
theorem kn (k : Int) : kindsB s_n k = (k == 0) := by
  unfold kindsB
  rw [kinds_of]
  show (k == 0 && true || (k == 1 && false || (k == 2 && false || k == 3 && false))) = _
  simp
theorem knrm (k : Int) : kindsB s_nrm k = (k == 0 || (k == 1 || k == 2)) := by
  unfold kindsB
  rw [kinds_of]
  show (k == 0 && true || (k == 1 && true || (k == 2 && true || k == 3 && false))) = _
  simp
/-- Is an operation one of some? -/
def inL (op : Int) (l : List Nat) : Bool := !decide (op < 1) && (!decide (op > 47) && l.contains op.toNat)
theorem isW_of {W : ByteArray} {l : List Nat} (h : ∀ k : Fin 48, findAt W.data.toList (wordList[k.val]'k.isLt).data.toList 0 (W.size + 1 - (wordList[k.val]'k.isLt).size) = true ↔ (k.val = 0 ∧ findAt W.data.toList [] 0 (W.size + 1) = true ∨ l.contains k.val = true)) (h0 : l.contains 0 = false) (op : Int) : isW op W = inL op l := by
  unfold isW inL
  by_cases h1 : op < 1
  · rw [decide_eq_true h1]; rfl
  · by_cases h2 : op > 47
    · rw [decide_eq_false h1, decide_eq_true h2]; rfl
    · rw [decide_eq_false h1, decide_eq_false h2]
      have hk : op.toNat < 48 := by omega
      have hw : wordAt op = wordList[op.toNat]'hk := by unfold wordAt; rw [List.getElem?_eq_getElem hk]; rfl
      have := h ⟨op.toNat, hk⟩
      rw [hw, Bool.not_false, Bool.true_and, Bool.true_and, Bool.eq_iff_iff, this]
      constructor
      · rintro (⟨a, _⟩ | a)
        · exact absurd a (by show op.toNat ≠ 0; omega)
        · exact a
      · exact .inr
theorem is_add_or_adc_sbb_and_sub_xor_cmp_mov (op : Int) : isW op s_add_or_adc_sbb_and_sub_xor_cmp_mov = inL op [1, 2, 3, 4, 5, 6, 7, 8, 10] := isW_of (by decide +kernel) rfl op
theorem is_add_or_adc_sbb_and_sub_xor_inc_dec_not_neg_xchg_cas_xadd (op : Int) : isW op s_add_or_adc_sbb_and_sub_xor_inc_dec_not_neg_xchg_cas_xadd = inL op [1, 2, 3, 4, 5, 6, 7, 16, 17, 18, 19, 31, 32, 33] := isW_of (by decide +kernel) rfl op
theorem is_cmov_set_jcc (op : Int) : isW op s_cmov_set_jcc = inL op [34, 35, 36] := isW_of (by decide +kernel) rfl op
theorem is_div_sdiv (op : Int) : isW op s_div_sdiv = inL op [22, 23] := isW_of (by decide +kernel) rfl op
theorem is_imuli_jcc (op : Int) : isW op s_imuli_jcc = inL op [25, 36] := isW_of (by decide +kernel) rfl op
theorem is_inc_dec_not_neg_mul_smul (op : Int) : isW op s_inc_dec_not_neg_mul_smul = inL op [16, 17, 18, 19, 20, 21] := isW_of (by decide +kernel) rfl op
theorem is_jcc_ret_fence_nop_sys_ud (op : Int) : isW op s_jcc_ret_fence_nop_sys_ud = inL op [36, 39, 44, 45, 46, 47] := isW_of (by decide +kernel) rfl op
theorem is_jmp_call (op : Int) : isW op s_jmp_call = inL op [37, 38] := isW_of (by decide +kernel) rfl op
theorem is_lea (op : Int) : isW op s_lea = inL op [13] := isW_of (by decide +kernel) rfl op
theorem is_mov (op : Int) : isW op s_mov = inL op [10] := isW_of (by decide +kernel) rfl op
theorem is_movs_stos (op : Int) : isW op s_movs_stos = inL op [42, 43] := isW_of (by decide +kernel) rfl op
theorem is_movsx (op : Int) : isW op s_movsx = inL op [12] := isW_of (by decide +kernel) rfl op
theorem is_movzx_movsx (op : Int) : isW op s_movzx_movsx = inL op [11, 12] := isW_of (by decide +kernel) rfl op
theorem is_movzx_movsx_imul_imuli_cmov (op : Int) : isW op s_movzx_movsx_imul_imuli_cmov = inL op [11, 12, 24, 25, 34] := isW_of (by decide +kernel) rfl op
theorem is_pop (op : Int) : isW op s_pop = inL op [15] := isW_of (by decide +kernel) rfl op
theorem is_push (op : Int) : isW op s_push = inL op [14] := isW_of (by decide +kernel) rfl op
theorem is_rol_ror_shl_shr_sar (op : Int) : isW op s_rol_ror_shl_shr_sar = inL op [26, 27, 28, 29, 30] := isW_of (by decide +kernel) rfl op
theorem is_set (op : Int) : isW op s_set = inL op [35] := isW_of (by decide +kernel) rfl op
theorem is_test (op : Int) : isW op s_test = inL op [9] := isW_of (by decide +kernel) rfl op
theorem is_wide_sign (op : Int) : isW op s_wide_sign = inL op [40, 41] := isW_of (by decide +kernel) rfl op
theorem is_xchg_cas_xadd (op : Int) : isW op s_xchg_cas_xadd = inL op [31, 32, 33] := isW_of (by decide +kernel) rfl op
structure TInst.Wf (x : TInst) : Prop where
  i1 : -9223372036854775808 ≤ x.imm
  i2 : x.imm < 9223372036854775808
  a1 : -9223372036854775808 ≤ x.A.addr.disp
  a2 : x.A.addr.disp < 9223372036854775808
  b1 : -9223372036854775808 ≤ x.B.addr.disp
  b2 : x.B.addr.disp < 9223372036854775808
theorem bitsFits_v (v n : Int) (hn : n = 8 ∨ n = 16 ∨ n = 32) (h1 : -9223372036854775808 ≤ v) (h2 : v < 9223372036854775808) : bits_Fits v n = fitsI v (halfOf n) := by
  unfold bits_Fits
  rcases hn with rfl | rfl | rfl
  · rw [show (64 : Int) - 8 = 56 by decide, fits8 v h1 h2]; rfl
  · rw [show (64 : Int) - 16 = 48 by decide, fits16 v h1 h2]; rfl
  · rw [show (64 : Int) - 32 = 32 by decide, fits32 v h1 h2]; rfl
theorem f49_v (o : TOpd) (h1 : -9223372036854775808 ≤ o.addr.disp) (h2 : o.addr.disp < 9223372036854775808) (H : Heap) : f49 o H = some (xomay o, H) := by
  rw [q49]
  simp only [f102_v o.addr.disp 32 (by omega) h1 h2, show halfOf 32 = 2147483648 from rfl, Ab.bs, Bool.and_true, Bool.true_and]
  unfold xomay TAddr.nil xamay isW8
  simp only [bitsFits_v o.addr.disp 32 (by omega) h1 h2, show halfOf 32 = 2147483648 from rfl]
  by_cases k2 : o.kind = 2
  · simp only [k2, show ((2 : Int) == 2) = true from rfl, show ((2 : Int) == 1) = false from rfl, ct, cf, bne]
    cases (o.reg == 0) <;> cases decide (o.addr.base < -1) <;> cases decide (o.addr.base > 16) <;> cases decide (o.addr.index < -1) <;> cases decide (o.addr.index > 15) <;> cases (o.addr.index == 4) <;> cases fitsI o.addr.disp 2147483648 <;> cases (o.addr.index == -1) <;> cases (o.addr.base == 16) <;> cases (o.addr.scale == 1) <;> cases (o.addr.scale == 2) <;> cases (o.addr.scale == 4) <;> rfl
  · simp only [show (o.kind == 2) = false by simpa using k2, ct, cf]
    generalize (o.addr.base == 0 && (o.addr.index == 0 && (o.addr.scale == 0 && o.addr.disp == 0))) = z
    by_cases k1 : o.kind = 1
    · simp only [k1, show ((1 : Int) == 1) = true from rfl, show ((1 : Int) == 0) = false from rfl, show ((1 : Int) == 3) = false from rfl, ct, cf]
      by_cases r0 : o.reg = 0
      · rw [r0]; cases z <;> rfl
      · rw [show (o.reg == 0) = false by simpa using r0, show decide (o.reg ≥ 0) = decide (o.reg > 0) by rw [decide_eq_decide]; omega, show decide (o.reg ≤ 15) = decide (o.reg < 16) by rw [decide_eq_decide]; omega]
        cases z <;> cases decide (o.reg > 0) <;> cases decide (o.reg < 16) <;> rfl
    · simp only [show (o.kind == 1) = false by simpa using k1, ct, cf]
      cases z <;> cases (o.kind == 0) <;> cases (o.kind == 3) <;> cases (o.reg == 0) <;> rfl
def TInst.shape (x : TInst) : Bool :=
  bif inL x.op [1, 2, 3, 4, 5, 6, 7, 8, 10] then isW8 x.W && ((x.A.kind == 1 || x.A.kind == 2) && ((x.B.kind == 1 || (x.B.kind == 2 || x.B.kind == 3)) && (!(x.A.kind == 2) || !(x.B.kind == 2))))
  else bif inL x.op [9] then isW8 x.W && ((x.A.kind == 1 || x.A.kind == 2) && (x.B.kind == 1 || x.B.kind == 3))
  else bif inL x.op [11, 12, 24, 25, 34] then xwide x && (x.A.kind == 1 && (x.B.kind == 1 || x.B.kind == 2))
  else bif inL x.op [13] then xwide x && (x.A.kind == 1 && x.B.kind == 2)
  else bif inL x.op [14] then x.W == 8 && ((x.A.kind == 1 || (x.A.kind == 2 || x.A.kind == 3)) && x.B.kind == 0)
  else bif inL x.op [15] then x.W == 8 && ((x.A.kind == 1 || x.A.kind == 2) && x.B.kind == 0)
  else bif inL x.op [16, 17, 18, 19, 20, 21] then isW8 x.W && ((x.A.kind == 1 || x.A.kind == 2) && x.B.kind == 0)
  else bif inL x.op [22, 23] then (x.W == 1 || (x.W == 2 || x.W == 4)) && ((x.A.kind == 1 || x.A.kind == 2) && x.B.kind == 0)
  else bif inL x.op [26, 27, 28, 29, 30] then isW8 x.W && ((x.A.kind == 1 || x.A.kind == 2) && (x.B.kind == 3 || (x.B.kind == 1 && x.B.reg == 1)))
  else bif inL x.op [31, 32, 33] then isW8 x.W && ((x.A.kind == 1 || x.A.kind == 2) && x.B.kind == 1)
  else bif inL x.op [35] then x.W == 1 && ((x.A.kind == 1 || x.A.kind == 2) && x.B.kind == 0)
  else bif inL x.op [37, 38] then x.W == 8 && ((x.A.kind == 0 || (x.A.kind == 1 || x.A.kind == 2)) && x.B.kind == 0)
  else bif inL x.op [40, 41] then xwide x && (x.A.kind == 0 && x.B.kind == 0)
  else bif inL x.op [42, 43] then isW8 x.W && (x.A.kind == 0 && x.B.kind == 0)
  else inL x.op [36, 39, 44, 45, 46, 47] && (x.W == 8 && (x.A.kind == 0 && x.B.kind == 0))
def TInst.hasImm (x : TInst) : Bool := x.A.kind == 3 || (x.B.kind == 3 || (inL x.op [25, 36] || (inL x.op [37, 38] && x.A.kind == 0)))
def TInst.immR (x : TInst) : Bool :=
  bif !x.hasImm then x.imm == 0
  else bif inL x.op [26, 27, 28, 29, 30] then decide (x.imm ≥ 0) && decide (x.imm ≤ 255)
  else bif inL x.op [10] && (x.W == 8 && x.A.kind == 1) then true
  else bif decide (IntKind.i64.wrap (8 * x.W) > 32) then fitsR x.imm 32 else fitsR x.imm (IntKind.i64.wrap (8 * x.W))
def TInst.w2R (x : TInst) : Bool := x.w2 == 1 || ((x.w2 == 2 && decide (x.W ≥ 4)) || (x.w2 == 4 && (x.W == 8 && inL x.op [12])))
def TInst.rmay (x : TInst) : Bool :=
  x.shape && (xomay x.A && (xomay x.B && (x.immR && (!decide (x.len < 0) && (!decide (x.len > 15) &&
    ((bif inL x.op [34, 35, 36] then !decide (x.cc < 0) && !decide (x.cc > 15) else x.cc == 0) &&
    ((bif inL x.op [11, 12] then x.w2R else x.w2 == 0) &&
    (!(x.lock && (!(x.A.kind == 2) || !inL x.op [1, 2, 3, 4, 5, 6, 7, 16, 17, 18, 19, 31, 32, 33])) &&
    (!x.rep || inL x.op [42, 43])))))))))
theorem says_ifn {α : Type} {c : Bool} {a b : Option (α × Heap)} {H : Heap} {v : α} (h1 : c = false → Says a H v) (h2 : c = true → Says b H v) : Says (bif !c then a else b) H v := by
  cases c
  · exact h1 rfl
  · exact h2 rfl
theorem f103_x (x : TInst) (H : Heap) : Says (f103 x H) H x.hasImm := by
  rw [q103]
  unfold TInst.hasImm
  repeat' (first
    | exact says_ret rfl
    | (refine says_ifn (fun hc => ?_) (fun hc => ?_) <;> try simp only [*, cond_true, cond_false, Bool.true_and, Bool.false_and, Bool.and_false, Bool.and_true, Bool.true_or, Bool.false_or, Bool.or_false, Bool.or_true, Bool.not_true, Bool.not_false])
    | (refine says_if (fun hc => ?_) (fun hc => ?_) <;> try simp only [*, cond_true, cond_false, Bool.true_and, Bool.false_and, Bool.and_false, Bool.and_true, Bool.true_or, Bool.false_or, Bool.or_false, Bool.or_true, Bool.not_true, Bool.not_false])
    | (refine says_bind (f51_x _ _ (by decide) _) fun H' _ => ?_
       dsimp only
       try simp only [is_add_or_adc_sbb_and_sub_xor_cmp_mov, is_add_or_adc_sbb_and_sub_xor_inc_dec_not_neg_xchg_cas_xadd, is_cmov_set_jcc, is_div_sdiv, is_imuli_jcc, is_inc_dec_not_neg_mul_smul, is_jcc_ret_fence_nop_sys_ud, is_jmp_call, is_lea, is_mov, is_movs_stos, is_movsx, is_movzx_movsx, is_movzx_movsx_imul_imuli_cmov, is_pop, is_push, is_rol_ror_shl_shr_sar, is_set, is_test, is_wide_sign, is_xchg_cas_xadd]
       try simp only [*, cond_true, cond_false, Bool.true_and, Bool.false_and, Bool.and_false, Bool.and_true, Bool.true_or, Bool.false_or, Bool.or_false, Bool.or_true, Bool.not_true, Bool.not_false]))
theorem f50_x (x : TInst) (H : Heap) : Says (f50 x H) H x.immR := by
  rw [q50]
  simp only [f102_g, Ab.bs]
  refine says_bind (f103_x x H) fun H' _ => ?_
  unfold TInst.immR
  dsimp only
  repeat' (first
    | exact says_ret rfl
    | (refine says_ifn (fun hc => ?_) (fun hc => ?_) <;> try simp only [*, cond_true, cond_false, Bool.true_and, Bool.false_and, Bool.and_false, Bool.and_true, Bool.true_or, Bool.false_or, Bool.or_false, Bool.or_true, Bool.not_true, Bool.not_false])
    | (refine says_if (fun hc => ?_) (fun hc => ?_) <;> try simp only [*, cond_true, cond_false, Bool.true_and, Bool.false_and, Bool.and_false, Bool.and_true, Bool.true_or, Bool.false_or, Bool.or_false, Bool.or_true, Bool.not_true, Bool.not_false])
    | (refine says_bind (f51_x _ _ (by decide) _) fun H' _ => ?_
       dsimp only
       try simp only [is_add_or_adc_sbb_and_sub_xor_cmp_mov, is_add_or_adc_sbb_and_sub_xor_inc_dec_not_neg_xchg_cas_xadd, is_cmov_set_jcc, is_div_sdiv, is_imuli_jcc, is_inc_dec_not_neg_mul_smul, is_jcc_ret_fence_nop_sys_ud, is_jmp_call, is_lea, is_mov, is_movs_stos, is_movsx, is_movzx_movsx, is_movzx_movsx_imul_imuli_cmov, is_pop, is_push, is_rol_ror_shl_shr_sar, is_set, is_test, is_wide_sign, is_xchg_cas_xadd]
       try simp only [*, cond_true, cond_false, Bool.true_and, Bool.false_and, Bool.and_false, Bool.and_true, Bool.true_or, Bool.false_or, Bool.or_false, Bool.or_true, Bool.not_true, Bool.not_false]))
theorem f48_x (x : TInst) (H : Heap) : Says (f48 x H) H x.shape := by
  rw [q48]
  simp (disch := decide) only [f100_x x, f101_x x.A, f101_x x.B, Ab.bs]
  simp only [w1248, w248_, w124, w8_, w1_, krm, krmi, kri, kr, km, ki, kn, knrm]
  unfold TInst.shape
  simp only [bne, show xwide x = w248 x.W from rfl]
  repeat' (first
    | exact says_ret rfl
    | (refine says_ifn (fun hc => ?_) (fun hc => ?_) <;> try simp only [*, cond_true, cond_false, Bool.true_and, Bool.false_and, Bool.and_false, Bool.and_true, Bool.true_or, Bool.false_or, Bool.or_false, Bool.or_true, Bool.not_true, Bool.not_false])
    | (refine says_if (fun hc => ?_) (fun hc => ?_) <;> try simp only [*, cond_true, cond_false, Bool.true_and, Bool.false_and, Bool.and_false, Bool.and_true, Bool.true_or, Bool.false_or, Bool.or_false, Bool.or_true, Bool.not_true, Bool.not_false])
    | (refine says_bind (f51_x _ _ (by decide) _) fun H' _ => ?_
       dsimp only
       try simp only [is_add_or_adc_sbb_and_sub_xor_cmp_mov, is_add_or_adc_sbb_and_sub_xor_inc_dec_not_neg_xchg_cas_xadd, is_cmov_set_jcc, is_div_sdiv, is_imuli_jcc, is_inc_dec_not_neg_mul_smul, is_jcc_ret_fence_nop_sys_ud, is_jmp_call, is_lea, is_mov, is_movs_stos, is_movsx, is_movzx_movsx, is_movzx_movsx_imul_imuli_cmov, is_pop, is_push, is_rol_ror_shl_shr_sar, is_set, is_test, is_wide_sign, is_xchg_cas_xadd]
       try simp only [*, cond_true, cond_false, Bool.true_and, Bool.false_and, Bool.and_false, Bool.and_true, Bool.true_or, Bool.false_or, Bool.or_false, Bool.or_true, Bool.not_true, Bool.not_false]))
theorem f18_x (x : TInst) (h : x.Wf) (H : Heap) : Says (f18 x H) H x.rmay := by
  rw [q18]
  simp only [f49_v x.A h.a1 h.a2, f49_v x.B h.b1 h.b2, Ab.bs]
  refine says_bind (f48_x x H) fun H1 _ => ?_
  unfold TInst.rmay
  dsimp only
  refine says_if (fun hc => ?_) (fun hc => ?_)
  · rw [show x.shape = false by simpa using hc]; exact says_ret rfl
  rw [show x.shape = true by simpa using hc, Bool.true_and]
  refine says_if (fun hc => ?_) (fun hc => ?_)
  · rw [show xomay x.A = false by simpa using hc]; exact says_ret rfl
  rw [show xomay x.A = true by simpa using hc, Bool.true_and]
  refine says_if (fun hc => ?_) (fun hc => ?_)
  · rw [show xomay x.B = false by simpa using hc]; exact says_ret rfl
  rw [show xomay x.B = true by simpa using hc, Bool.true_and]
  refine says_bind (f50_x x H1) fun H2 _ => ?_
  dsimp only
  refine says_if (fun hc => ?_) (fun hc => ?_)
  · rw [show x.immR = false by simpa using hc]; exact says_ret rfl
  rw [show x.immR = true by simpa using hc, Bool.true_and]
  unfold TInst.w2R
  simp only [bne]
  repeat' (first
    | exact says_ret rfl
    | (refine says_ifn (fun hc => ?_) (fun hc => ?_) <;> try simp only [*, cond_true, cond_false, Bool.true_and, Bool.false_and, Bool.and_false, Bool.and_true, Bool.true_or, Bool.false_or, Bool.or_false, Bool.or_true, Bool.not_true, Bool.not_false])
    | (refine says_if (fun hc => ?_) (fun hc => ?_) <;> try simp only [*, cond_true, cond_false, Bool.true_and, Bool.false_and, Bool.and_false, Bool.and_true, Bool.true_or, Bool.false_or, Bool.or_false, Bool.or_true, Bool.not_true, Bool.not_false])
    | (refine says_bind (f51_x _ _ (by decide) _) fun H' _ => ?_
       dsimp only
       try simp only [is_add_or_adc_sbb_and_sub_xor_cmp_mov, is_add_or_adc_sbb_and_sub_xor_inc_dec_not_neg_xchg_cas_xadd, is_cmov_set_jcc, is_div_sdiv, is_imuli_jcc, is_inc_dec_not_neg_mul_smul, is_jcc_ret_fence_nop_sys_ud, is_jmp_call, is_lea, is_mov, is_movs_stos, is_movsx, is_movzx_movsx, is_movzx_movsx_imul_imuli_cmov, is_pop, is_push, is_rol_ror_shl_shr_sar, is_set, is_test, is_wide_sign, is_xchg_cas_xadd]
       try simp only [*, cond_true, cond_false, Bool.true_and, Bool.false_and, Bool.and_false, Bool.and_true, Bool.true_or, Bool.false_or, Bool.or_false, Bool.or_true, Bool.not_true, Bool.not_false]))
theorem odMay_nil (o : TOpd) (h : o.kind = 0) : xomay o = (o.reg == 0 && o.addr.nil) := by
  unfold xomay
  rw [h]
  rfl
theorem odMay_k (o : TOpd) (h : xomay o = true) : o.kind = 0 ∨ o.kind = 1 ∨ o.kind = 2 ∨ o.kind = 3 := by
  unfold xomay at h
  by_cases h1 : o.kind = 1
  · omega
  · by_cases h2 : o.kind = 2
    · omega
    · by_cases h0 : o.kind = 0
      · omega
      · by_cases h3 : o.kind = 3
        · omega
        · simp [h0, h1, h2, h3] at h
theorem odMay_r1 (o : TOpd) (h : o.kind = 1) (hr : o.reg = 1) : xomay o = o.addr.nil := by
  unfold xomay
  rw [h, hr]
  simp
/-- The fits of both. -/
def TInst.F (x : TInst) : Bool := fitsI x.imm (halfOf (8 * min x.W 4))
theorem half_pos (n : Int) : 0 < halfOf n := by
  unfold halfOf
  split
  · decide
  · split <;> decide
theorem F_zero (x : TInst) (h : x.imm = 0) : x.F = true := by
  unfold TInst.F fitsI
  rw [h]
  have := half_pos (8 * min x.W 4)
  simp; omega
theorem dTr {h : Decidable True} : @decide True h = true := decide_eq_true trivial
theorem dFa {h : Decidable False} : @decide False h = false := decide_eq_false id
theorem mm_min (a b : Int) : mm Builtin.min a b = min a b := by
  unfold mm
  by_cases h : a ≤ b <;> simp [h, Int.min_def] <;> omega
theorem ximm_eq (x : TInst) (h : x.Wf) (hw : isW8 x.W = true) : ximm x = x.F := by
  have : x.W = 1 ∨ x.W = 2 ∨ x.W = 4 ∨ x.W = 8 := by simpa [isW8] using hw
  unfold ximm TInst.F
  rw [mm_min, wrap_i64 (by omega) (by omega)]
  exact bitsFits_v _ _ (by omega) h.i1 h.i2
/-- What both know of immediates. -/
def Hy (x : TInst) : Prop := (x.W = 1 ∨ x.W = 2 ∨ x.W = 4 ∨ x.W = 8) ∧ ximm x = x.F ∧ (bif decide (IntKind.i64.wrap (8 * x.W) > 32) then fitsR x.imm 32 else fitsR x.imm (IntKind.i64.wrap (8 * x.W))) = x.F
theorem may_0 (x : TInst) (h : Hy x) (e : x.op = 1 ∨ x.op = 2 ∨ x.op = 3 ∨ x.op = 4) : xmay x = x.rmay := by
  obtain ⟨hw, hF, hR⟩ := h
  have h1 := odMay_k x.A
  have h2 := odMay_k x.B
  have h3 := odMay_nil x.B
  have h4 := odMay_r1 x.B
  have h5 := F_zero x
  rcases e with e | e | e | e <;>
  (unfold xmay TInst.rmay xtwo xone TInst.shape TInst.immR TInst.hasImm TInst.w2R xlocked xplain ximmO ximmB TOpd.nil isK xboth xwide
   rw [hF, hR]
   simp only [xin, inL, e, isW8]
   simp (decide := true) only [e, List.contains_cons, List.contains_nil, dTr, dFa, Int.reduceBEq, Nat.reduceBEq, Int.reduceToNat, Int.reduceLE, Int.reduceLT, Int.reduceGT, cond_true, cond_false, Bool.true_and, Bool.false_and, Bool.and_false, Bool.and_true, Bool.true_or, Bool.false_or, Bool.or_false, Bool.or_true, Bool.not_true, Bool.not_false]
   by_cases hA : xomay x.A = true
   · by_cases hB : xomay x.B = true
     · rw [hA, hB]
       rcases h1 hA with ea | ea | ea | ea <;> simp only [ea] <;> simp (decide := true) only [ea, List.contains_cons, List.contains_nil, dTr, dFa, Int.reduceBEq, Nat.reduceBEq, Int.reduceToNat, Int.reduceLE, Int.reduceLT, Int.reduceGT, cond_true, cond_false, Bool.true_and, Bool.false_and, Bool.and_false, Bool.and_true, Bool.true_or, Bool.false_or, Bool.or_false, Bool.or_true, Bool.not_true, Bool.not_false] <;> rcases h2 hB with eb | eb | eb | eb <;> (try simp only [eb]) <;> (try simp (decide := true) only [eb, List.contains_cons, List.contains_nil, dTr, dFa, Int.reduceBEq, Nat.reduceBEq, Int.reduceToNat, Int.reduceLE, Int.reduceLT, Int.reduceGT, cond_true, cond_false, Bool.true_and, Bool.false_and, Bool.and_false, Bool.and_true, Bool.true_or, Bool.false_or, Bool.or_false, Bool.or_true, Bool.not_true, Bool.not_false]) <;> (try rfl) <;> grind
     · grind
   · grind)
theorem may_1 (x : TInst) (h : Hy x) (e : x.op = 5 ∨ x.op = 6 ∨ x.op = 7 ∨ x.op = 8) : xmay x = x.rmay := by
  obtain ⟨hw, hF, hR⟩ := h
  have h1 := odMay_k x.A
  have h2 := odMay_k x.B
  have h3 := odMay_nil x.B
  have h4 := odMay_r1 x.B
  have h5 := F_zero x
  rcases e with e | e | e | e <;>
  (unfold xmay TInst.rmay xtwo xone TInst.shape TInst.immR TInst.hasImm TInst.w2R xlocked xplain ximmO ximmB TOpd.nil isK xboth xwide
   rw [hF, hR]
   simp only [xin, inL, e, isW8]
   simp (decide := true) only [e, List.contains_cons, List.contains_nil, dTr, dFa, Int.reduceBEq, Nat.reduceBEq, Int.reduceToNat, Int.reduceLE, Int.reduceLT, Int.reduceGT, cond_true, cond_false, Bool.true_and, Bool.false_and, Bool.and_false, Bool.and_true, Bool.true_or, Bool.false_or, Bool.or_false, Bool.or_true, Bool.not_true, Bool.not_false]
   by_cases hA : xomay x.A = true
   · by_cases hB : xomay x.B = true
     · rw [hA, hB]
       rcases h1 hA with ea | ea | ea | ea <;> simp only [ea] <;> simp (decide := true) only [ea, List.contains_cons, List.contains_nil, dTr, dFa, Int.reduceBEq, Nat.reduceBEq, Int.reduceToNat, Int.reduceLE, Int.reduceLT, Int.reduceGT, cond_true, cond_false, Bool.true_and, Bool.false_and, Bool.and_false, Bool.and_true, Bool.true_or, Bool.false_or, Bool.or_false, Bool.or_true, Bool.not_true, Bool.not_false] <;> rcases h2 hB with eb | eb | eb | eb <;> (try simp only [eb]) <;> (try simp (decide := true) only [eb, List.contains_cons, List.contains_nil, dTr, dFa, Int.reduceBEq, Nat.reduceBEq, Int.reduceToNat, Int.reduceLE, Int.reduceLT, Int.reduceGT, cond_true, cond_false, Bool.true_and, Bool.false_and, Bool.and_false, Bool.and_true, Bool.true_or, Bool.false_or, Bool.or_false, Bool.or_true, Bool.not_true, Bool.not_false]) <;> (try rfl) <;> grind
     · grind
   · grind)
theorem may_2 (x : TInst) (h : Hy x) (e : x.op = 9 ∨ x.op = 10 ∨ x.op = 11 ∨ x.op = 12) : xmay x = x.rmay := by
  obtain ⟨hw, hF, hR⟩ := h
  have h1 := odMay_k x.A
  have h2 := odMay_k x.B
  have h3 := odMay_nil x.B
  have h4 := odMay_r1 x.B
  have h5 := F_zero x
  rcases e with e | e | e | e <;>
  (unfold xmay TInst.rmay xtwo xone TInst.shape TInst.immR TInst.hasImm TInst.w2R xlocked xplain ximmO ximmB TOpd.nil isK xboth xwide
   rw [hF, hR]
   simp only [xin, inL, e, isW8]
   simp (decide := true) only [e, List.contains_cons, List.contains_nil, dTr, dFa, Int.reduceBEq, Nat.reduceBEq, Int.reduceToNat, Int.reduceLE, Int.reduceLT, Int.reduceGT, cond_true, cond_false, Bool.true_and, Bool.false_and, Bool.and_false, Bool.and_true, Bool.true_or, Bool.false_or, Bool.or_false, Bool.or_true, Bool.not_true, Bool.not_false]
   by_cases hA : xomay x.A = true
   · by_cases hB : xomay x.B = true
     · rw [hA, hB]
       rcases h1 hA with ea | ea | ea | ea <;> simp only [ea] <;> simp (decide := true) only [ea, List.contains_cons, List.contains_nil, dTr, dFa, Int.reduceBEq, Nat.reduceBEq, Int.reduceToNat, Int.reduceLE, Int.reduceLT, Int.reduceGT, cond_true, cond_false, Bool.true_and, Bool.false_and, Bool.and_false, Bool.and_true, Bool.true_or, Bool.false_or, Bool.or_false, Bool.or_true, Bool.not_true, Bool.not_false] <;> rcases h2 hB with eb | eb | eb | eb <;> (try simp only [eb]) <;> (try simp (decide := true) only [eb, List.contains_cons, List.contains_nil, dTr, dFa, Int.reduceBEq, Nat.reduceBEq, Int.reduceToNat, Int.reduceLE, Int.reduceLT, Int.reduceGT, cond_true, cond_false, Bool.true_and, Bool.false_and, Bool.and_false, Bool.and_true, Bool.true_or, Bool.false_or, Bool.or_false, Bool.or_true, Bool.not_true, Bool.not_false]) <;> (try rfl) <;> grind
     · grind
   · grind)
theorem may_3 (x : TInst) (h : Hy x) (e : x.op = 13 ∨ x.op = 14 ∨ x.op = 15 ∨ x.op = 16) : xmay x = x.rmay := by
  obtain ⟨hw, hF, hR⟩ := h
  have h1 := odMay_k x.A
  have h2 := odMay_k x.B
  have h3 := odMay_nil x.B
  have h4 := odMay_r1 x.B
  have h5 := F_zero x
  rcases e with e | e | e | e <;>
  (unfold xmay TInst.rmay xtwo xone TInst.shape TInst.immR TInst.hasImm TInst.w2R xlocked xplain ximmO ximmB TOpd.nil isK xboth xwide
   rw [hF, hR]
   simp only [xin, inL, e, isW8]
   simp (decide := true) only [e, List.contains_cons, List.contains_nil, dTr, dFa, Int.reduceBEq, Nat.reduceBEq, Int.reduceToNat, Int.reduceLE, Int.reduceLT, Int.reduceGT, cond_true, cond_false, Bool.true_and, Bool.false_and, Bool.and_false, Bool.and_true, Bool.true_or, Bool.false_or, Bool.or_false, Bool.or_true, Bool.not_true, Bool.not_false]
   by_cases hA : xomay x.A = true
   · by_cases hB : xomay x.B = true
     · rw [hA, hB]
       rcases h1 hA with ea | ea | ea | ea <;> simp only [ea] <;> simp (decide := true) only [ea, List.contains_cons, List.contains_nil, dTr, dFa, Int.reduceBEq, Nat.reduceBEq, Int.reduceToNat, Int.reduceLE, Int.reduceLT, Int.reduceGT, cond_true, cond_false, Bool.true_and, Bool.false_and, Bool.and_false, Bool.and_true, Bool.true_or, Bool.false_or, Bool.or_false, Bool.or_true, Bool.not_true, Bool.not_false] <;> rcases h2 hB with eb | eb | eb | eb <;> (try simp only [eb]) <;> (try simp (decide := true) only [eb, List.contains_cons, List.contains_nil, dTr, dFa, Int.reduceBEq, Nat.reduceBEq, Int.reduceToNat, Int.reduceLE, Int.reduceLT, Int.reduceGT, cond_true, cond_false, Bool.true_and, Bool.false_and, Bool.and_false, Bool.and_true, Bool.true_or, Bool.false_or, Bool.or_false, Bool.or_true, Bool.not_true, Bool.not_false]) <;> (try rfl) <;> grind
     · grind
   · grind)
theorem may_4 (x : TInst) (h : Hy x) (e : x.op = 17 ∨ x.op = 18 ∨ x.op = 19 ∨ x.op = 20) : xmay x = x.rmay := by
  obtain ⟨hw, hF, hR⟩ := h
  have h1 := odMay_k x.A
  have h2 := odMay_k x.B
  have h3 := odMay_nil x.B
  have h4 := odMay_r1 x.B
  have h5 := F_zero x
  rcases e with e | e | e | e <;>
  (unfold xmay TInst.rmay xtwo xone TInst.shape TInst.immR TInst.hasImm TInst.w2R xlocked xplain ximmO ximmB TOpd.nil isK xboth xwide
   rw [hF, hR]
   simp only [xin, inL, e, isW8]
   simp (decide := true) only [e, List.contains_cons, List.contains_nil, dTr, dFa, Int.reduceBEq, Nat.reduceBEq, Int.reduceToNat, Int.reduceLE, Int.reduceLT, Int.reduceGT, cond_true, cond_false, Bool.true_and, Bool.false_and, Bool.and_false, Bool.and_true, Bool.true_or, Bool.false_or, Bool.or_false, Bool.or_true, Bool.not_true, Bool.not_false]
   by_cases hA : xomay x.A = true
   · by_cases hB : xomay x.B = true
     · rw [hA, hB]
       rcases h1 hA with ea | ea | ea | ea <;> simp only [ea] <;> simp (decide := true) only [ea, List.contains_cons, List.contains_nil, dTr, dFa, Int.reduceBEq, Nat.reduceBEq, Int.reduceToNat, Int.reduceLE, Int.reduceLT, Int.reduceGT, cond_true, cond_false, Bool.true_and, Bool.false_and, Bool.and_false, Bool.and_true, Bool.true_or, Bool.false_or, Bool.or_false, Bool.or_true, Bool.not_true, Bool.not_false] <;> rcases h2 hB with eb | eb | eb | eb <;> (try simp only [eb]) <;> (try simp (decide := true) only [eb, List.contains_cons, List.contains_nil, dTr, dFa, Int.reduceBEq, Nat.reduceBEq, Int.reduceToNat, Int.reduceLE, Int.reduceLT, Int.reduceGT, cond_true, cond_false, Bool.true_and, Bool.false_and, Bool.and_false, Bool.and_true, Bool.true_or, Bool.false_or, Bool.or_false, Bool.or_true, Bool.not_true, Bool.not_false]) <;> (try rfl) <;> grind
     · grind
   · grind)
theorem may_5 (x : TInst) (h : Hy x) (e : x.op = 21 ∨ x.op = 22 ∨ x.op = 23 ∨ x.op = 24) : xmay x = x.rmay := by
  obtain ⟨hw, hF, hR⟩ := h
  have h1 := odMay_k x.A
  have h2 := odMay_k x.B
  have h3 := odMay_nil x.B
  have h4 := odMay_r1 x.B
  have h5 := F_zero x
  rcases e with e | e | e | e <;>
  (unfold xmay TInst.rmay xtwo xone TInst.shape TInst.immR TInst.hasImm TInst.w2R xlocked xplain ximmO ximmB TOpd.nil isK xboth xwide
   rw [hF, hR]
   simp only [xin, inL, e, isW8]
   simp (decide := true) only [e, List.contains_cons, List.contains_nil, dTr, dFa, Int.reduceBEq, Nat.reduceBEq, Int.reduceToNat, Int.reduceLE, Int.reduceLT, Int.reduceGT, cond_true, cond_false, Bool.true_and, Bool.false_and, Bool.and_false, Bool.and_true, Bool.true_or, Bool.false_or, Bool.or_false, Bool.or_true, Bool.not_true, Bool.not_false]
   by_cases hA : xomay x.A = true
   · by_cases hB : xomay x.B = true
     · rw [hA, hB]
       rcases h1 hA with ea | ea | ea | ea <;> simp only [ea] <;> simp (decide := true) only [ea, List.contains_cons, List.contains_nil, dTr, dFa, Int.reduceBEq, Nat.reduceBEq, Int.reduceToNat, Int.reduceLE, Int.reduceLT, Int.reduceGT, cond_true, cond_false, Bool.true_and, Bool.false_and, Bool.and_false, Bool.and_true, Bool.true_or, Bool.false_or, Bool.or_false, Bool.or_true, Bool.not_true, Bool.not_false] <;> rcases h2 hB with eb | eb | eb | eb <;> (try simp only [eb]) <;> (try simp (decide := true) only [eb, List.contains_cons, List.contains_nil, dTr, dFa, Int.reduceBEq, Nat.reduceBEq, Int.reduceToNat, Int.reduceLE, Int.reduceLT, Int.reduceGT, cond_true, cond_false, Bool.true_and, Bool.false_and, Bool.and_false, Bool.and_true, Bool.true_or, Bool.false_or, Bool.or_false, Bool.or_true, Bool.not_true, Bool.not_false]) <;> (try rfl) <;> grind
     · grind
   · grind)
theorem may_6 (x : TInst) (h : Hy x) (e : x.op = 25 ∨ x.op = 26 ∨ x.op = 27 ∨ x.op = 28) : xmay x = x.rmay := by
  obtain ⟨hw, hF, hR⟩ := h
  have h1 := odMay_k x.A
  have h2 := odMay_k x.B
  have h3 := odMay_nil x.B
  have h4 := odMay_r1 x.B
  have h5 := F_zero x
  rcases e with e | e | e | e <;>
  (unfold xmay TInst.rmay xtwo xone TInst.shape TInst.immR TInst.hasImm TInst.w2R xlocked xplain ximmO ximmB TOpd.nil isK xboth xwide
   rw [hF, hR]
   simp only [xin, inL, e, isW8]
   simp (decide := true) only [e, List.contains_cons, List.contains_nil, dTr, dFa, Int.reduceBEq, Nat.reduceBEq, Int.reduceToNat, Int.reduceLE, Int.reduceLT, Int.reduceGT, cond_true, cond_false, Bool.true_and, Bool.false_and, Bool.and_false, Bool.and_true, Bool.true_or, Bool.false_or, Bool.or_false, Bool.or_true, Bool.not_true, Bool.not_false]
   by_cases hA : xomay x.A = true
   · by_cases hB : xomay x.B = true
     · rw [hA, hB]
       rcases h1 hA with ea | ea | ea | ea <;> simp only [ea] <;> simp (decide := true) only [ea, List.contains_cons, List.contains_nil, dTr, dFa, Int.reduceBEq, Nat.reduceBEq, Int.reduceToNat, Int.reduceLE, Int.reduceLT, Int.reduceGT, cond_true, cond_false, Bool.true_and, Bool.false_and, Bool.and_false, Bool.and_true, Bool.true_or, Bool.false_or, Bool.or_false, Bool.or_true, Bool.not_true, Bool.not_false] <;> rcases h2 hB with eb | eb | eb | eb <;> (try simp only [eb]) <;> (try simp (decide := true) only [eb, List.contains_cons, List.contains_nil, dTr, dFa, Int.reduceBEq, Nat.reduceBEq, Int.reduceToNat, Int.reduceLE, Int.reduceLT, Int.reduceGT, cond_true, cond_false, Bool.true_and, Bool.false_and, Bool.and_false, Bool.and_true, Bool.true_or, Bool.false_or, Bool.or_false, Bool.or_true, Bool.not_true, Bool.not_false]) <;> (try rfl) <;> grind
     · grind
   · grind)
theorem may_7 (x : TInst) (h : Hy x) (e : x.op = 29 ∨ x.op = 30 ∨ x.op = 31 ∨ x.op = 32) : xmay x = x.rmay := by
  obtain ⟨hw, hF, hR⟩ := h
  have h1 := odMay_k x.A
  have h2 := odMay_k x.B
  have h3 := odMay_nil x.B
  have h4 := odMay_r1 x.B
  have h5 := F_zero x
  rcases e with e | e | e | e <;>
  (unfold xmay TInst.rmay xtwo xone TInst.shape TInst.immR TInst.hasImm TInst.w2R xlocked xplain ximmO ximmB TOpd.nil isK xboth xwide
   rw [hF, hR]
   simp only [xin, inL, e, isW8]
   simp (decide := true) only [e, List.contains_cons, List.contains_nil, dTr, dFa, Int.reduceBEq, Nat.reduceBEq, Int.reduceToNat, Int.reduceLE, Int.reduceLT, Int.reduceGT, cond_true, cond_false, Bool.true_and, Bool.false_and, Bool.and_false, Bool.and_true, Bool.true_or, Bool.false_or, Bool.or_false, Bool.or_true, Bool.not_true, Bool.not_false]
   by_cases hA : xomay x.A = true
   · by_cases hB : xomay x.B = true
     · rw [hA, hB]
       rcases h1 hA with ea | ea | ea | ea <;> simp only [ea] <;> simp (decide := true) only [ea, List.contains_cons, List.contains_nil, dTr, dFa, Int.reduceBEq, Nat.reduceBEq, Int.reduceToNat, Int.reduceLE, Int.reduceLT, Int.reduceGT, cond_true, cond_false, Bool.true_and, Bool.false_and, Bool.and_false, Bool.and_true, Bool.true_or, Bool.false_or, Bool.or_false, Bool.or_true, Bool.not_true, Bool.not_false] <;> rcases h2 hB with eb | eb | eb | eb <;> (try simp only [eb]) <;> (try simp (decide := true) only [eb, List.contains_cons, List.contains_nil, dTr, dFa, Int.reduceBEq, Nat.reduceBEq, Int.reduceToNat, Int.reduceLE, Int.reduceLT, Int.reduceGT, cond_true, cond_false, Bool.true_and, Bool.false_and, Bool.and_false, Bool.and_true, Bool.true_or, Bool.false_or, Bool.or_false, Bool.or_true, Bool.not_true, Bool.not_false]) <;> (try rfl) <;> grind
     · grind
   · grind)
theorem may_8 (x : TInst) (h : Hy x) (e : x.op = 33 ∨ x.op = 34 ∨ x.op = 35 ∨ x.op = 36) : xmay x = x.rmay := by
  obtain ⟨hw, hF, hR⟩ := h
  have h1 := odMay_k x.A
  have h2 := odMay_k x.B
  have h3 := odMay_nil x.B
  have h4 := odMay_r1 x.B
  have h5 := F_zero x
  rcases e with e | e | e | e <;>
  (unfold xmay TInst.rmay xtwo xone TInst.shape TInst.immR TInst.hasImm TInst.w2R xlocked xplain ximmO ximmB TOpd.nil isK xboth xwide
   rw [hF, hR]
   simp only [xin, inL, e, isW8]
   simp (decide := true) only [e, List.contains_cons, List.contains_nil, dTr, dFa, Int.reduceBEq, Nat.reduceBEq, Int.reduceToNat, Int.reduceLE, Int.reduceLT, Int.reduceGT, cond_true, cond_false, Bool.true_and, Bool.false_and, Bool.and_false, Bool.and_true, Bool.true_or, Bool.false_or, Bool.or_false, Bool.or_true, Bool.not_true, Bool.not_false]
   by_cases hA : xomay x.A = true
   · by_cases hB : xomay x.B = true
     · rw [hA, hB]
       rcases h1 hA with ea | ea | ea | ea <;> simp only [ea] <;> simp (decide := true) only [ea, List.contains_cons, List.contains_nil, dTr, dFa, Int.reduceBEq, Nat.reduceBEq, Int.reduceToNat, Int.reduceLE, Int.reduceLT, Int.reduceGT, cond_true, cond_false, Bool.true_and, Bool.false_and, Bool.and_false, Bool.and_true, Bool.true_or, Bool.false_or, Bool.or_false, Bool.or_true, Bool.not_true, Bool.not_false] <;> rcases h2 hB with eb | eb | eb | eb <;> (try simp only [eb]) <;> (try simp (decide := true) only [eb, List.contains_cons, List.contains_nil, dTr, dFa, Int.reduceBEq, Nat.reduceBEq, Int.reduceToNat, Int.reduceLE, Int.reduceLT, Int.reduceGT, cond_true, cond_false, Bool.true_and, Bool.false_and, Bool.and_false, Bool.and_true, Bool.true_or, Bool.false_or, Bool.or_false, Bool.or_true, Bool.not_true, Bool.not_false]) <;> (try rfl) <;> grind
     · grind
   · grind)
theorem may_9 (x : TInst) (h : Hy x) (e : x.op = 37 ∨ x.op = 38 ∨ x.op = 39 ∨ x.op = 40) : xmay x = x.rmay := by
  obtain ⟨hw, hF, hR⟩ := h
  have h1 := odMay_k x.A
  have h2 := odMay_k x.B
  have h3 := odMay_nil x.B
  have h4 := odMay_r1 x.B
  have h5 := F_zero x
  rcases e with e | e | e | e <;>
  (unfold xmay TInst.rmay xtwo xone TInst.shape TInst.immR TInst.hasImm TInst.w2R xlocked xplain ximmO ximmB TOpd.nil isK xboth xwide
   rw [hF, hR]
   simp only [xin, inL, e, isW8]
   simp (decide := true) only [e, List.contains_cons, List.contains_nil, dTr, dFa, Int.reduceBEq, Nat.reduceBEq, Int.reduceToNat, Int.reduceLE, Int.reduceLT, Int.reduceGT, cond_true, cond_false, Bool.true_and, Bool.false_and, Bool.and_false, Bool.and_true, Bool.true_or, Bool.false_or, Bool.or_false, Bool.or_true, Bool.not_true, Bool.not_false]
   by_cases hA : xomay x.A = true
   · by_cases hB : xomay x.B = true
     · rw [hA, hB]
       rcases h1 hA with ea | ea | ea | ea <;> simp only [ea] <;> simp (decide := true) only [ea, List.contains_cons, List.contains_nil, dTr, dFa, Int.reduceBEq, Nat.reduceBEq, Int.reduceToNat, Int.reduceLE, Int.reduceLT, Int.reduceGT, cond_true, cond_false, Bool.true_and, Bool.false_and, Bool.and_false, Bool.and_true, Bool.true_or, Bool.false_or, Bool.or_false, Bool.or_true, Bool.not_true, Bool.not_false] <;> rcases h2 hB with eb | eb | eb | eb <;> (try simp only [eb]) <;> (try simp (decide := true) only [eb, List.contains_cons, List.contains_nil, dTr, dFa, Int.reduceBEq, Nat.reduceBEq, Int.reduceToNat, Int.reduceLE, Int.reduceLT, Int.reduceGT, cond_true, cond_false, Bool.true_and, Bool.false_and, Bool.and_false, Bool.and_true, Bool.true_or, Bool.false_or, Bool.or_false, Bool.or_true, Bool.not_true, Bool.not_false]) <;> (try rfl) <;> grind
     · grind
   · grind)
theorem may_10 (x : TInst) (h : Hy x) (e : x.op = 41 ∨ x.op = 42 ∨ x.op = 43 ∨ x.op = 44) : xmay x = x.rmay := by
  obtain ⟨hw, hF, hR⟩ := h
  have h1 := odMay_k x.A
  have h2 := odMay_k x.B
  have h3 := odMay_nil x.B
  have h4 := odMay_r1 x.B
  have h5 := F_zero x
  rcases e with e | e | e | e <;>
  (unfold xmay TInst.rmay xtwo xone TInst.shape TInst.immR TInst.hasImm TInst.w2R xlocked xplain ximmO ximmB TOpd.nil isK xboth xwide
   rw [hF, hR]
   simp only [xin, inL, e, isW8]
   simp (decide := true) only [e, List.contains_cons, List.contains_nil, dTr, dFa, Int.reduceBEq, Nat.reduceBEq, Int.reduceToNat, Int.reduceLE, Int.reduceLT, Int.reduceGT, cond_true, cond_false, Bool.true_and, Bool.false_and, Bool.and_false, Bool.and_true, Bool.true_or, Bool.false_or, Bool.or_false, Bool.or_true, Bool.not_true, Bool.not_false]
   by_cases hA : xomay x.A = true
   · by_cases hB : xomay x.B = true
     · rw [hA, hB]
       rcases h1 hA with ea | ea | ea | ea <;> simp only [ea] <;> simp (decide := true) only [ea, List.contains_cons, List.contains_nil, dTr, dFa, Int.reduceBEq, Nat.reduceBEq, Int.reduceToNat, Int.reduceLE, Int.reduceLT, Int.reduceGT, cond_true, cond_false, Bool.true_and, Bool.false_and, Bool.and_false, Bool.and_true, Bool.true_or, Bool.false_or, Bool.or_false, Bool.or_true, Bool.not_true, Bool.not_false] <;> rcases h2 hB with eb | eb | eb | eb <;> (try simp only [eb]) <;> (try simp (decide := true) only [eb, List.contains_cons, List.contains_nil, dTr, dFa, Int.reduceBEq, Nat.reduceBEq, Int.reduceToNat, Int.reduceLE, Int.reduceLT, Int.reduceGT, cond_true, cond_false, Bool.true_and, Bool.false_and, Bool.and_false, Bool.and_true, Bool.true_or, Bool.false_or, Bool.or_false, Bool.or_true, Bool.not_true, Bool.not_false]) <;> (try rfl) <;> grind
     · grind
   · grind)
theorem may_11 (x : TInst) (h : Hy x) (e : x.op = 45 ∨ x.op = 46 ∨ x.op = 47) : xmay x = x.rmay := by
  obtain ⟨hw, hF, hR⟩ := h
  have h1 := odMay_k x.A
  have h2 := odMay_k x.B
  have h3 := odMay_nil x.B
  have h4 := odMay_r1 x.B
  have h5 := F_zero x
  rcases e with e | e | e <;>
  (unfold xmay TInst.rmay xtwo xone TInst.shape TInst.immR TInst.hasImm TInst.w2R xlocked xplain ximmO ximmB TOpd.nil isK xboth xwide
   rw [hF, hR]
   simp only [xin, inL, e, isW8]
   simp (decide := true) only [e, List.contains_cons, List.contains_nil, dTr, dFa, Int.reduceBEq, Nat.reduceBEq, Int.reduceToNat, Int.reduceLE, Int.reduceLT, Int.reduceGT, cond_true, cond_false, Bool.true_and, Bool.false_and, Bool.and_false, Bool.and_true, Bool.true_or, Bool.false_or, Bool.or_false, Bool.or_true, Bool.not_true, Bool.not_false]
   by_cases hA : xomay x.A = true
   · by_cases hB : xomay x.B = true
     · rw [hA, hB]
       rcases h1 hA with ea | ea | ea | ea <;> simp only [ea] <;> simp (decide := true) only [ea, List.contains_cons, List.contains_nil, dTr, dFa, Int.reduceBEq, Nat.reduceBEq, Int.reduceToNat, Int.reduceLE, Int.reduceLT, Int.reduceGT, cond_true, cond_false, Bool.true_and, Bool.false_and, Bool.and_false, Bool.and_true, Bool.true_or, Bool.false_or, Bool.or_false, Bool.or_true, Bool.not_true, Bool.not_false] <;> rcases h2 hB with eb | eb | eb | eb <;> (try simp only [eb]) <;> (try simp (decide := true) only [eb, List.contains_cons, List.contains_nil, dTr, dFa, Int.reduceBEq, Nat.reduceBEq, Int.reduceToNat, Int.reduceLE, Int.reduceLT, Int.reduceGT, cond_true, cond_false, Bool.true_and, Bool.false_and, Bool.and_false, Bool.and_true, Bool.true_or, Bool.false_or, Bool.or_false, Bool.or_true, Bool.not_true, Bool.not_false]) <;> (try rfl) <;> grind
     · grind
   · grind)
theorem may_out (x : TInst) (e : x.op < 1 ∨ x.op > 47) : (xmay x) = x.rmay := by
  have o : ∀ lo hi : Int, 1 ≤ lo → hi ≤ 47 → xin x lo hi = false := fun lo hi a b => by unfold xin; rcases e with e | e <;> simp <;> omega
  have c : ∀ k : Int, 1 ≤ k → k ≤ 47 → (x.op == k) = false := fun k a b => by simp; omega
  have l : ∀ L, inL x.op L = false := fun L => by unfold inL; rcases e with e | e <;> simp [e]
  have h1 : (xtwo x) = false := by
    unfold xtwo
    simp (disch := decide) only [o, c, cond_false, Bool.false_and]
  have h2 : (xone x) = false := by
    unfold xone
    simp (disch := decide) only [o, c, cond_false, Bool.false_and, Bool.or_self]
    cases x.B.nil <;> rfl
  have h3 : x.shape = false := by
    unfold TInst.shape
    simp only [l, cond_false, Bool.false_and]
  unfold xmay TInst.rmay
  rw [h1, h2, h3]
  simp
theorem may_w (x : TInst) (hw : isW8 x.W = false) : (xmay x) = x.rmay := by
  unfold isW8 at hw
  simp only [Bool.or_eq_false_iff] at hw
  obtain ⟨w1, w2, w4, w8⟩ := hw
  have h1 : (xtwo x) = false := by
    unfold xtwo isW8 xwide
    simp only [w1, w2, w4, w8, Bool.or_self, Bool.false_and, Bool.and_false]
    simp
  have h2 : (xone x) = false := by
    unfold xone isW8 xwide
    simp only [w1, w2, w4, w8, Bool.or_self, Bool.false_and, Bool.and_false]
    simp
  have h3 : x.shape = false := by
    unfold TInst.shape isW8 xwide
    simp only [w1, w2, w4, w8, Bool.or_self, Bool.false_and, Bool.and_false]
    simp
  unfold xmay TInst.rmay
  rw [h1, h2, h3]
  simp
theorem may_eq (x : TInst) (h : x.Wf) : (xmay x) = x.rmay := by
  cases hw : isW8 x.W with
  | false => exact may_w x hw
  | true =>
    have w : x.W = 1 ∨ x.W = 2 ∨ x.W = 4 ∨ x.W = 8 := by simpa [isW8] using hw
    have hF : (ximm x) = x.F := ximm_eq x h hw
    have hR : (bif decide (IntKind.i64.wrap (8 * x.W) > 32) then fitsR x.imm 32 else fitsR x.imm (IntKind.i64.wrap (8 * x.W))) = x.F := by
      unfold TInst.F
      rw [wrap_i64 (by omega) (by omega)]
      rcases w with w | w | w | w <;> rw [w]
      · exact fitsR_eq _ _ (by omega) h.i1 h.i2
      · exact fitsR_eq _ _ (by omega) h.i1 h.i2
      · exact fitsR_eq _ _ (by omega) h.i1 h.i2
      · exact fitsR_eq _ _ (by omega) h.i1 h.i2
    by_cases o : x.op < 1 ∨ x.op > 47
    · exact may_out x o
    · have hy : Hy x := ⟨w, hF, hR⟩
      by_cases c0 : x.op ≤ 4
      · exact may_0 x hy (by omega)
      by_cases c1 : x.op ≤ 8
      · exact may_1 x hy (by omega)
      by_cases c2 : x.op ≤ 12
      · exact may_2 x hy (by omega)
      by_cases c3 : x.op ≤ 16
      · exact may_3 x hy (by omega)
      by_cases c4 : x.op ≤ 20
      · exact may_4 x hy (by omega)
      by_cases c5 : x.op ≤ 24
      · exact may_5 x hy (by omega)
      by_cases c6 : x.op ≤ 28
      · exact may_6 x hy (by omega)
      by_cases c7 : x.op ≤ 32
      · exact may_7 x hy (by omega)
      by_cases c8 : x.op ≤ 36
      · exact may_8 x hy (by omega)
      by_cases c9 : x.op ≤ 40
      · exact may_9 x hy (by omega)
      by_cases c10 : x.op ≤ 44
      · exact may_10 x hy (by omega)
      exact may_11 x hy (by omega)
end
end Go.Proofs.YtnipccoenalnkaaGreat
