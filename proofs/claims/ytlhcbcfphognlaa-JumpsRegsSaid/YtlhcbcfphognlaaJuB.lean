/- Layer 11: which instructions may be: the program's, the document's. -/
import Derived.Test.YtlhcbcfphognlaaJuA
namespace Go.Proofs.Ytlhcbcfphognlaa
open Go Go.Proofs.Ytlhcbcfphognlaa.Ab
set_option linter.unusedVariables false
set_option linter.unusedSimpArgs false
set_option maxRecDepth 100000
noncomputable section
theorem g27_v (r : Int) (H : Heap) : g27 r H = some (1, r, 0, 0, 0, 0) := by
  rw [g27_eq]
  refine readOf_eq ?_
  rw [q27]
theorem f34_x (x : Ins) (h : x.Wf) (H : Heap) : Says (f34 x.op x.w x.w2 x.a.k x.a.r x.a.b x.a.i x.a.s x.a.d x.b.k x.b.r x.b.b x.b.i x.b.s x.b.d x.imm x.cc x.lock x.rep x.len H) H x.two := by
  rw [q34]
  simp only [g44_v, g31_x, g47_x, g48_x, g46_x, g27_v, g45_1 x.a h.a1 h.a2, g45_2 x.a h.a1 h.a2, g45_3 x.a h.a1 h.a2, g45_1 x.b h.b1 h.b2, g45_2 x.b h.b1 h.b2, g45_3 x.b h.b1 h.b2, Ab.bs, Bool.and_true]
  unfold Ins.two nilA
  simp only [bne]
  repeat' (first
    | exact says_ret rfl
    | exact says_push (says_ret rfl)
    | exact says_push (says_push (says_ret rfl))
    | (refine says_if (fun hc => ?_) (fun hc => ?_) <;> simp only [hc, cond_true, cond_false, Bool.true_and, Bool.false_and, Bool.and_false, Bool.and_true, Bool.true_or, Bool.false_or, Bool.or_false, Bool.or_true, Bool.not_true, Bool.not_false]))
theorem f15_x (x : Ins) (h : x.Wf) (H : Heap) : Says (f15 x.op x.w x.w2 x.a.k x.a.r x.a.b x.a.i x.a.s x.a.d x.b.k x.b.r x.b.b x.b.i x.b.s x.b.d x.imm x.cc x.lock x.rep x.len H) H x.may := by
  have k : ∀ _i _c _w : Bool, Says ((f34 x.op x.w x.w2 x.a.k x.a.r x.a.b x.a.i x.a.s x.a.d x.b.k x.b.r x.b.b x.b.i x.b.s x.b.d x.imm x.cc x.lock x.rep x.len H).bind fun v1 => bif v1.fst then some (true, v1.snd) else (f35 x.op x.w x.w2 x.a.k x.a.r x.a.b x.a.i x.a.s x.a.d x.b.k x.b.r x.b.b x.b.i x.b.s x.b.d x.imm x.cc x.lock x.rep x.len v1.snd).bind fun v0 => some (v0.fst, v0.snd)) H (x.two || x.one) := by
    intro _ _ _
    refine says_bind (f34_x x h H) fun H' _ => ?_
    cases x.two
    · rw [Bool.false_or, cf]; exact says_bind (f35_x x h H') fun H2 _ => says_ret rfl
    · exact says_ret rfl
  rw [q15]
  simp only [g31_x, g32_x, g33_x, Ab.bs]
  unfold Ins.may
  refine says_if (fun hc => ?_) (fun hc => ?_)
  · simp only [hc, Bool.true_or]
    cases x.locked <;> simp only [ct, cf, Bool.true_and, Bool.false_and]
    · exact says_ret rfl
    · cases x.plain true (x.inn 34 36) (x.inn 11 12) <;> simp only [ct, cf, Bool.true_and, Bool.false_and]
      · exact says_ret rfl
      · exact k true true true
  · simp only [hc, Bool.false_or]
    refine says_if (fun hc => ?_) (fun hc => ?_)
    · simp only [hc, Bool.true_or]
      cases x.locked <;> simp only [ct, cf, Bool.true_and, Bool.false_and]
      · exact says_ret rfl
      · cases x.plain true (x.inn 34 36) (x.inn 11 12) <;> simp only [ct, cf, Bool.true_and, Bool.false_and]
        · exact says_ret rfl
        · exact k true true true
    · simp only [hc, Bool.false_or]
      refine says_if (fun hc => ?_) (fun hc => ?_)
      · simp only [hc, Bool.true_or]
        cases x.locked <;> simp only [ct, cf, Bool.true_and, Bool.false_and]
        · exact says_ret rfl
        · cases x.plain true (x.inn 34 36) (x.inn 11 12) <;> simp only [ct, cf, Bool.true_and, Bool.false_and]
          · exact says_ret rfl
          · exact k true true true
      · simp only [hc, Bool.false_or]
        cases x.locked <;> simp only [ct, cf, Bool.true_and, Bool.false_and]
        · exact says_ret rfl
        · cases x.plain (x.inn 36 38) (x.inn 34 36) (x.inn 11 12) <;> simp only [ct, cf, Bool.true_and, Bool.false_and]
          · exact says_ret rfl
          · exact k true true true
/-! ### the document's -/
/-- Stands a word at a place of a text, by itself? -/
def hitAt (W w : List UInt8) (k : Nat) : Bool :=
  ((W.drop k).take w.length == w) && ((k == 0 || W[k - 1]? == some 32) && (k + w.length == W.length || W[k + w.length]? == some 32))
def findAt (W w : List UInt8) : Nat → Nat → Bool
  | _, 0 => false
  | k, m + 1 => hitAt W w k || findAt W w (k + 1) m
theorem strSub_take (W : ByteArray) (k n : Nat) (h : k + n ≤ W.size) : strSub W (k : Int) (some ((k + n : Nat) : Int)) = some (W.extract k (k + n)) := by
  unfold strSub
  have h1 : (some ((k + n : Nat) : Int)).getD (W.size : Int) = ((k + n : Nat) : Int) := rfl
  rw [h1, if_pos ⟨by omega, by omega, by omega⟩, Int.toNat_natCast, Int.toNat_natCast]
theorem extract_list (W : ByteArray) (k n : Nat) : (W.extract k (k + n)).data.toList = (W.data.toList.drop k).take n := by
  rw [ByteArray.data_extract, Array.toList_extract, List.extract_eq_take_drop, Nat.add_sub_cancel_left]
theorem beq_32 (c : UInt8) : (((c.toNat : Nat) : Int) == 32) = (some c == some 32) := by
  rw [Bool.eq_iff_iff]
  simp only [beq_iff_eq, Option.some.injEq]
  constructor
  · intro h; exact UInt8.toNat_inj.1 (by have : c.toNat = 32 := by omega
                                         rw [this]; rfl)
  · intro h; rw [h]; rfl
theorem loop25 (W w : ByteArray) (hW : W.size ≤ 1000) (hw : w.size ≤ 1000) (h0 : 0 < w.size) (H : Heap) : ∀ (m n k : Nat), W.size + 1 - (k + w.size) = m → k ≤ 1000 →
    (D25_5 (n + m + 1) W w (k : Int) H).bind J25_5 = some (findAt W.data.toList w.data.toList k m, H)
  | 0, n, k, h, hk0 => by
    have e : IntKind.i64.wrap ((k : Int) + (w.size : Int)) = ((k + w.size : Nat) : Int) := by rw [wrap_i64 (by omega) (by omega)]; rfl
    have g : decide (((k + w.size : Nat) : Int) ≤ (W.size : Int)) = false := by simp; omega
    rw [D25_5_s, e, g, cf, Ab.bs, J25_5_1]
    rfl
  | m + 1, n, k, h, hk0 => by
    have e : IntKind.i64.wrap ((k : Int) + (w.size : Int)) = ((k + w.size : Nat) : Int) := by rw [wrap_i64 (by omega) (by omega)]; rfl
    have g : decide (((k + w.size : Nat) : Int) ≤ (W.size : Int)) = true := by simp; omega
    have e2 : IntKind.i64.wrap ((k : Int) + 1) = ((k + 1 : Nat) : Int) := by rw [wrap_i64 (by omega) (by omega)]; rfl
    have lw : w.data.toList.length = w.size := by simp
    have lW : W.data.toList.length = W.size := by simp
    have ih := loop25 W w hW hw h0 H m n (k + 1) (by omega) (by omega)
    rw [show n + (m + 1) + 1 = (n + m + 1) + 1 by omega, D25_5_s, e, g]
    simp only [ct, strSub_take W k w.size (by omega), Ab.bs, e2]
    have hs : strEq (W.extract k (k + w.size)) w = ((W.data.toList.drop k).take w.data.toList.length == w.data.toList) := by
      unfold strEq; rw [extract_list, lw]
    rw [hs]
    show _ = some (hitAt W.data.toList w.data.toList k || _, H)
    unfold hitAt
    have hend : ∀ T F : Option (AExit × St), (bif ((k + w.size : Nat) : Int) == (W.size : Int) then T else bif inb ((k + w.size : Nat) : Int) W.size then (W.data.toList[((k + w.size : Nat) : Int).toNat]?).bind fun v0 => bif (v0.toNat : Int) == 32 then T else F else none) = bif (k + w.data.toList.length == W.data.toList.length || W.data.toList[k + w.data.toList.length]? == some 32) then T else F := by
      intro T F
      rw [lw, lW]
      by_cases hk : k + w.size = W.size
      · rw [show (((k + w.size : Nat) : Int) == (W.size : Int)) = true by simp; omega, ct, show (k + w.size == W.size) = true by simpa using hk, Bool.true_or, ct]
      · have hl : k + w.size < W.data.toList.length := by omega
        rw [show (((k + w.size : Nat) : Int) == (W.size : Int)) = false by simp; omega, cf, show (k + w.size == W.size) = false by simpa using hk, Bool.false_or, show inb ((k + w.size : Nat) : Int) W.size = true by simp [inb]; omega, ct, Int.toNat_natCast, List.getElem?_eq_getElem hl, Ab.bs, beq_32]
    simp only [hend]
    cases ((W.data.toList.drop k).take w.data.toList.length == w.data.toList) with
    | false => rw [cf, ih]; rfl
    | true =>
      rw [ct, Bool.true_and]
      by_cases hk : k = 0
      · subst hk
        rw [show (((0 : Nat) : Int) == 0) = true from rfl, ct, show ((0 : Nat) == 0) = true from rfl, Bool.true_or, Bool.true_and]
        cases (0 + w.data.toList.length == W.data.toList.length || W.data.toList[0 + w.data.toList.length]? == some 32) with
        | true => rw [ct, Ab.bs, J25_5_0]; rfl
        | false => rw [cf, ih]; rfl
      · have hl : k - 1 < W.data.toList.length := by omega
        rw [show ((k : Int) == 0) = false by simp; omega, cf, show (k == 0) = false by simpa using hk, Bool.false_or, show IntKind.i64.wrap ((k : Int) - 1) = ((k - 1 : Nat) : Int) by rw [wrap_i64 (by omega) (by omega)]; omega,
          show inb ((k - 1 : Nat) : Int) W.size = true by simp [inb]; omega, ct, Int.toNat_natCast, List.getElem?_eq_getElem hl, Ab.bs, beq_32]
        cases (some W.data.toList[k - 1] == some 32) with
        | false => rw [cf, ih]; rfl
        | true =>
          rw [ct, Bool.true_and]
          cases (k + w.data.toList.length == W.data.toList.length || W.data.toList[k + w.data.toList.length]? == some 32) with
          | true => rw [ct, Ab.bs, J25_5_0]; rfl
          | false => rw [cf, ih]; rfl
def wordList : List ByteArray := [{ data := #[] }, { data := #[UInt8.ofNat 97, UInt8.ofNat 100, UInt8.ofNat 100] }, { data := #[UInt8.ofNat 111, UInt8.ofNat 114] }, { data := #[UInt8.ofNat 97, UInt8.ofNat 100, UInt8.ofNat 99] }, { data := #[UInt8.ofNat 115, UInt8.ofNat 98, UInt8.ofNat 98] }, { data := #[UInt8.ofNat 97, UInt8.ofNat 110, UInt8.ofNat 100] }, { data := #[UInt8.ofNat 115, UInt8.ofNat 117, UInt8.ofNat 98] }, { data := #[UInt8.ofNat 120, UInt8.ofNat 111, UInt8.ofNat 114] }, { data := #[UInt8.ofNat 99, UInt8.ofNat 109, UInt8.ofNat 112] }, { data := #[UInt8.ofNat 116, UInt8.ofNat 101, UInt8.ofNat 115, UInt8.ofNat 116] }, { data := #[UInt8.ofNat 109, UInt8.ofNat 111, UInt8.ofNat 118] }, { data := #[UInt8.ofNat 109, UInt8.ofNat 111, UInt8.ofNat 118, UInt8.ofNat 122, UInt8.ofNat 120] }, { data := #[UInt8.ofNat 109, UInt8.ofNat 111, UInt8.ofNat 118, UInt8.ofNat 115, UInt8.ofNat 120] }, { data := #[UInt8.ofNat 108, UInt8.ofNat 101, UInt8.ofNat 97] }, { data := #[UInt8.ofNat 112, UInt8.ofNat 117, UInt8.ofNat 115, UInt8.ofNat 104] }, { data := #[UInt8.ofNat 112, UInt8.ofNat 111, UInt8.ofNat 112] }, { data := #[UInt8.ofNat 105, UInt8.ofNat 110, UInt8.ofNat 99] }, { data := #[UInt8.ofNat 100, UInt8.ofNat 101, UInt8.ofNat 99] }, { data := #[UInt8.ofNat 110, UInt8.ofNat 111, UInt8.ofNat 116] }, { data := #[UInt8.ofNat 110, UInt8.ofNat 101, UInt8.ofNat 103] }, { data := #[UInt8.ofNat 109, UInt8.ofNat 117, UInt8.ofNat 108] }, { data := #[UInt8.ofNat 115, UInt8.ofNat 109, UInt8.ofNat 117, UInt8.ofNat 108] }, { data := #[UInt8.ofNat 100, UInt8.ofNat 105, UInt8.ofNat 118] }, { data := #[UInt8.ofNat 115, UInt8.ofNat 100, UInt8.ofNat 105, UInt8.ofNat 118] }, { data := #[UInt8.ofNat 105, UInt8.ofNat 109, UInt8.ofNat 117, UInt8.ofNat 108] }, { data := #[UInt8.ofNat 105, UInt8.ofNat 109, UInt8.ofNat 117, UInt8.ofNat 108, UInt8.ofNat 105] }, { data := #[UInt8.ofNat 114, UInt8.ofNat 111, UInt8.ofNat 108] }, { data := #[UInt8.ofNat 114, UInt8.ofNat 111, UInt8.ofNat 114] }, { data := #[UInt8.ofNat 115, UInt8.ofNat 104, UInt8.ofNat 108] }, { data := #[UInt8.ofNat 115, UInt8.ofNat 104, UInt8.ofNat 114] }, { data := #[UInt8.ofNat 115, UInt8.ofNat 97, UInt8.ofNat 114] }, { data := #[UInt8.ofNat 120, UInt8.ofNat 99, UInt8.ofNat 104, UInt8.ofNat 103] }, { data := #[UInt8.ofNat 99, UInt8.ofNat 97, UInt8.ofNat 115] }, { data := #[UInt8.ofNat 120, UInt8.ofNat 97, UInt8.ofNat 100, UInt8.ofNat 100] }, { data := #[UInt8.ofNat 99, UInt8.ofNat 109, UInt8.ofNat 111, UInt8.ofNat 118] }, { data := #[UInt8.ofNat 115, UInt8.ofNat 101, UInt8.ofNat 116] }, { data := #[UInt8.ofNat 106, UInt8.ofNat 99, UInt8.ofNat 99] }, { data := #[UInt8.ofNat 106, UInt8.ofNat 109, UInt8.ofNat 112] }, { data := #[UInt8.ofNat 99, UInt8.ofNat 97, UInt8.ofNat 108, UInt8.ofNat 108] }, { data := #[UInt8.ofNat 114, UInt8.ofNat 101, UInt8.ofNat 116] }, { data := #[UInt8.ofNat 119, UInt8.ofNat 105, UInt8.ofNat 100, UInt8.ofNat 101] }, { data := #[UInt8.ofNat 115, UInt8.ofNat 105, UInt8.ofNat 103, UInt8.ofNat 110] }, { data := #[UInt8.ofNat 109, UInt8.ofNat 111, UInt8.ofNat 118, UInt8.ofNat 115] }, { data := #[UInt8.ofNat 115, UInt8.ofNat 116, UInt8.ofNat 111, UInt8.ofNat 115] }, { data := #[UInt8.ofNat 102, UInt8.ofNat 101, UInt8.ofNat 110, UInt8.ofNat 99, UInt8.ofNat 101] }, { data := #[UInt8.ofNat 110, UInt8.ofNat 111, UInt8.ofNat 112] }, { data := #[UInt8.ofNat 115, UInt8.ofNat 121, UInt8.ofNat 115] }, { data := #[UInt8.ofNat 117, UInt8.ofNat 100] }]
theorem f29_v (H : Heap) : f29 H = some (some { id := H.length, off := 0, len := 48, cap := 48, esz := 1 }, H ++ [Blk.row (wordList.map Cell.str) false]) := q29 H
theorem words_ok : ∀ k : Nat, k < 48 → 1 ≤ k → ∃ w, wordList[k]? = some w ∧ 0 < w.size ∧ w.size ≤ 1000 := by
  intro k hk h1
  have hl : k < wordList.length := hk
  refine ⟨wordList[k], List.getElem?_eq_getElem hl, ?_⟩
  have : ∀ k : Fin 48, 1 ≤ k.val → 0 < (wordList[k.val]'k.isLt).size ∧ (wordList[k.val]'k.isLt).size ≤ 1000 := by decide
  exact this ⟨k, hk⟩ h1
/-- The word of an operation. -/
def wordAt (op : Int) : ByteArray := (wordList[op.toNat]?).getD ⟨#[]⟩
/-- Is an operation one of a text's words? -/
def isW (op : Int) (W : ByteArray) : Bool :=
  !decide (op < 1) && (!decide (op > 47) && findAt W.data.toList (wordAt op).data.toList 0 (W.size + 1 - (wordAt op).size))
theorem get_word (H : Heap) (op : Int) (h1 : 0 ≤ op) (h2 : op ≤ 47) : inb op 48 = true ∧ (H ++ [Blk.row (wordList.map Cell.str) false]).get H.length (0 + op.toNat * 1) = some (Cell.str (wordAt op)) := by
  refine ⟨by simp [inb]; omega, ?_⟩
  rw [show 0 + op.toNat * 1 = op.toNat by omega]
  refine row_get _ _ _ _ _ ?_
  have hl : op.toNat < wordList.length := by show op.toNat < 48; omega
  unfold wordAt
  rw [List.getElem?_map, List.getElem?_eq_getElem hl]
  rfl
theorem f25_x (i0 i1 i2 i3 i4 i5 i6 i7 i8 i9 i10 i11 i12 i13 i14 i15 i16 : Int) (i17 i18 : Bool) (i19 : Int) (W : ByteArray) (hW : W.size ≤ 900) (H : Heap) : Says (f25 i0 i1 i2 i3 i4 i5 i6 i7 i8 i9 i10 i11 i12 i13 i14 i15 i16 i17 i18 i19 W H) H (isW i0 W) := by
  rw [q25]
  unfold isW
  by_cases h1 : i0 < 1
  · rw [decide_eq_true h1]; exact says_ret rfl
  · by_cases h2 : i0 > 47
    · rw [decide_eq_false h1, decide_eq_true h2]; exact says_ret rfl
    · rw [decide_eq_false h1, decide_eq_false h2, cf, cf, f29_v]
      refine says_push (b := Blk.row (wordList.map Cell.str) false) ?_
      obtain ⟨g1, g2⟩ := get_word H i0 (by omega) (by omega)
      obtain ⟨w, e1, e2, e3⟩ := words_ok i0.toNat (by omega) (by omega)
      have hw : wordAt i0 = w := by unfold wordAt; rw [e1]; rfl
      simp only [Ab.bs, g1, beq_self_eq_true, Bool.and_self, ct, g2, show (Cell.str (wordAt i0)).toStr = some (wordAt i0) from rfl]
      rw [hw]
      obtain ⟨n, e⟩ := LL25_5_of (W.size + 1 - w.size) (by omega) W w 0 (H ++ [Blk.row (wordList.map Cell.str) false])
      rw [e, show (0 : Int) = ((0 : Nat) : Int) from rfl, loop25 W w (by omega) e3 e2 _ _ n 0 (by omega) (by omega)]
      exact says_ret rfl
end
end Go.Proofs.Ytlhcbcfphognlaa
