/- Layer 11: the document's May, and that both say the same. -/
import Derived.Test.YtlhcbcfphognlaaJuB
namespace Go.Proofs.Ytlhcbcfphognlaa
open Go Go.Proofs.Ytlhcbcfphognlaa.Ab
set_option linter.unusedVariables false
set_option linter.unusedSimpArgs false
set_option maxRecDepth 100000
noncomputable section
def widthL (W : List UInt8) (w : Int) : Bool := W.any fun c => w == IntKind.i64.wrap (IntKind.u8.wrap ((c.toNat : Int) - 48))
theorem loop40 (x : Ins) (W : ByteArray) (hW : W.size ≤ 900) (H : Heap) : ∀ (m n i : Nat), i + m = W.size →
    (D40_2 (n + m + 1) W (i : Int) x.op x.w x.w2 x.a.k x.a.r x.a.b x.a.i x.a.s x.a.d x.b.k x.b.r x.b.b x.b.i x.b.s x.b.d x.imm x.cc x.lock x.rep x.len H).bind J40_2 = some (widthL (W.data.toList.drop i) x.w, H)
  | 0, n, i, h => by
    have lW : W.data.toList.length = W.size := by simp
    have g : decide ((i : Int) < (W.size : Int)) = false := by simp; omega
    rw [D40_2_s, g, cf, Ab.bs, J40_2_1, List.drop_eq_nil_of_le (by omega)]
    rfl
  | m + 1, n, i, h => by
    have lW : W.data.toList.length = W.size := by simp
    have hl : i < W.data.toList.length := by omega
    have g : decide ((i : Int) < (W.size : Int)) = true := by simp; omega
    have g2 : inb (i : Int) W.size = true := by simp [inb]; omega
    have e2 : IntKind.i64.wrap ((i : Int) + 1) = ((i + 1 : Nat) : Int) := by rw [wrap_i64 (by omega) (by omega)]; rfl
    rw [show n + (m + 1) + 1 = (n + m + 1) + 1 by omega, D40_2_s, g, g2, Int.toNat_natCast, List.getElem?_eq_getElem hl, e2, ct, ct, Ab.bs, List.drop_eq_getElem_cons hl]
    unfold widthL
    rw [List.any_cons]
    cases (x.w == IntKind.i64.wrap (IntKind.u8.wrap ((W.data.toList[i].toNat : Int) - 48))) with
    | true => rw [ct, Ab.bs, J40_2_0]; rfl
    | false => rw [cf, loop40 x W hW H m n (i + 1) (by omega)]; rfl
def widthB (W : ByteArray) (w : Int) : Bool := widthL W.data.toList w
theorem g40_x (x : Ins) (W : ByteArray) (hW : W.size ≤ 900) (H : Heap) : g40 x.op x.w x.w2 x.a.k x.a.r x.a.b x.a.i x.a.s x.a.d x.b.k x.b.r x.b.b x.b.i x.b.s x.b.d x.imm x.cc x.lock x.rep x.len W H = some (widthB W x.w) := by
  unfold widthB
  rw [g40_eq]
  refine readOf_eq ?_
  rw [q40]
  obtain ⟨n, e⟩ := LL40_2_of W.size (by omega) W 0 x.op x.w x.w2 x.a.k x.a.r x.a.b x.a.i x.a.s x.a.d x.b.k x.b.r x.b.b x.b.i x.b.s x.b.d x.imm x.cc x.lock x.rep x.len H
  rw [e, show (0 : Int) = ((0 : Nat) : Int) from rfl, loop40 x W hW H W.size n 0 (by omega), List.drop_zero]
def kindsL (W : List UInt8) (k : Int) : Bool :=
  W.any fun c => (k == 0 && (c.toNat : Int) == 110) || ((k == 1 && (c.toNat : Int) == 114) || ((k == 2 && (c.toNat : Int) == 109) || (k == 3 && (c.toNat : Int) == 105)))
theorem loop41 (k r b ii s d : Int) (W : ByteArray) (hW : W.size ≤ 900) (H : Heap) : ∀ (m n i : Nat), i + m = W.size →
    (D41_2 (n + m + 1) W (i : Int) k r b ii s d H).bind J41_2 = some (kindsL (W.data.toList.drop i) k, H)
  | 0, n, i, h => by
    have lW : W.data.toList.length = W.size := by simp
    have g : decide ((i : Int) < (W.size : Int)) = false := by simp; omega
    rw [D41_2_s, g, cf, Ab.bs, J41_2_1, List.drop_eq_nil_of_le (by omega)]
    rfl
  | m + 1, n, i, h => by
    have lW : W.data.toList.length = W.size := by simp
    have hl : i < W.data.toList.length := by omega
    have g : decide ((i : Int) < (W.size : Int)) = true := by simp; omega
    have g2 : inb (i : Int) W.size = true := by simp [inb]; omega
    have e2 : IntKind.i64.wrap ((i : Int) + 1) = ((i + 1 : Nat) : Int) := by rw [wrap_i64 (by omega) (by omega)]; rfl
    have ih := loop41 k r b ii s d W hW H m n (i + 1) (by omega)
    rw [show n + (m + 1) + 1 = (n + m + 1) + 1 by omega, D41_2_s, List.drop_eq_getElem_cons hl]
    rw [show kindsL (W.data.toList[i] :: W.data.toList.drop (i + 1)) k = (((k == 0 && (W.data.toList[i].toNat : Int) == 110) || ((k == 1 && (W.data.toList[i].toNat : Int) == 114) || ((k == 2 && (W.data.toList[i].toNat : Int) == 109) || (k == 3 && (W.data.toList[i].toNat : Int) == 105)))) || kindsL (W.data.toList.drop (i + 1)) k) from by unfold kindsL; rw [List.any_cons]]
    simp only [g, g2, ct, Int.toNat_natCast, List.getElem?_eq_getElem hl, Ab.bs, e2]
    generalize (W.data.toList[i].toNat : Int) = c
    generalize kindsL (W.data.toList.drop (i + 1)) k = V at ih ⊢
    by_cases h0 : k = 0
    · subst h0
      simp only [show ((0 : Int) == 0) = true from rfl, show ((0 : Int) == 1) = false from rfl, show ((0 : Int) == 2) = false from rfl, show ((0 : Int) == 3) = false from rfl, ct, cf, Bool.true_and, Bool.false_and, Bool.or_false]
      cases (c == 110) with
      | true => rw [ct, Ab.bs, J41_2_0]; rfl
      | false => rw [cf, ih]; rfl
    · by_cases h1 : k = 1
      · subst h1
        simp only [show ((1 : Int) == 0) = false from rfl, show ((1 : Int) == 1) = true from rfl, show ((1 : Int) == 2) = false from rfl, show ((1 : Int) == 3) = false from rfl, ct, cf, Bool.true_and, Bool.false_and, Bool.or_false, Bool.false_or]
        cases (c == 114) with
        | true => rw [ct, Ab.bs, J41_2_0]; rfl
        | false => rw [cf, ih]; rfl
      · by_cases h2 : k = 2
        · subst h2
          simp only [show ((2 : Int) == 0) = false from rfl, show ((2 : Int) == 1) = false from rfl, show ((2 : Int) == 2) = true from rfl, show ((2 : Int) == 3) = false from rfl, ct, cf, Bool.true_and, Bool.false_and, Bool.or_false, Bool.false_or]
          cases (c == 109) with
          | true => rw [ct, Ab.bs, J41_2_0]; rfl
          | false => rw [cf, ih]; rfl
        · by_cases h3 : k = 3
          · subst h3
            simp only [show ((3 : Int) == 0) = false from rfl, show ((3 : Int) == 1) = false from rfl, show ((3 : Int) == 2) = false from rfl, show ((3 : Int) == 3) = true from rfl, ct, cf, Bool.true_and, Bool.false_and, Bool.or_false, Bool.false_or]
            cases (c == 105) with
            | true => rw [ct, Ab.bs, J41_2_0]; rfl
            | false => rw [cf, ih]; rfl
          · simp only [show (k == 0) = false by simpa using h0, show (k == 1) = false by simpa using h1, show (k == 2) = false by simpa using h2, show (k == 3) = false by simpa using h3, ct, cf, Bool.false_and, Bool.or_false, Bool.false_or]
            exact ih
def kindsB (W : ByteArray) (k : Int) : Bool := kindsL W.data.toList k
theorem g41_x (o : Od) (W : ByteArray) (hW : W.size ≤ 900) (H : Heap) : g41 o.k o.r o.b o.i o.s o.d W H = some (kindsB W o.k) := by
  unfold kindsB
  rw [g41_eq]
  refine readOf_eq ?_
  rw [q41]
  obtain ⟨n, e⟩ := LL41_2_of W.size (by omega) W 0 o.k o.r o.b o.i o.s o.d H
  rw [e, show (0 : Int) = ((0 : Nat) : Int) from rfl, loop41 _ _ _ _ _ _ W hW H W.size n 0 (by omega), List.drop_zero]
/-! the closed texts -/
theorem w1248 (w : Int) : widthB ({ data := #[UInt8.ofNat 49, UInt8.ofNat 50, UInt8.ofNat 52, UInt8.ofNat 56] } : ByteArray) w = wOk w := by
  show (w == 1 || (w == 2 || (w == 4 || (w == 8 || false)))) = _
  rw [Bool.or_false]; rfl
theorem w248_ (w : Int) : widthB ({ data := #[UInt8.ofNat 50, UInt8.ofNat 52, UInt8.ofNat 56] } : ByteArray) w = w248 w := by
  show (w == 2 || (w == 4 || (w == 8 || false))) = _
  rw [Bool.or_false]; rfl
theorem w124 (w : Int) : widthB ({ data := #[UInt8.ofNat 49, UInt8.ofNat 50, UInt8.ofNat 52] } : ByteArray) w = (w == 1 || (w == 2 || w == 4)) := by
  show (w == 1 || (w == 2 || (w == 4 || false))) = _
  rw [Bool.or_false]
theorem w8_ (w : Int) : widthB ({ data := #[UInt8.ofNat 56] } : ByteArray) w = (w == 8) := by
  show (w == 8 || false) = _
  rw [Bool.or_false]
theorem w1_ (w : Int) : widthB ({ data := #[UInt8.ofNat 49] } : ByteArray) w = (w == 1) := by
  show (w == 1 || false) = _
  rw [Bool.or_false]
theorem kinds_of (W : List UInt8) (k : Int) : kindsL W k = ((k == 0 && W.contains 110) || ((k == 1 && W.contains 114) || ((k == 2 && W.contains 109) || (k == 3 && W.contains 105)))) := by
  unfold kindsL
  induction W with
  | nil => simp
  | cons c W ih =>
    rw [List.any_cons, ih]
    simp only [List.contains_cons]
    have e : ∀ n : Nat, n < 256 → (((c.toNat : Nat) : Int) == (n : Int)) = (UInt8.ofNat n == c) := fun n hn => by
      rw [Bool.eq_iff_iff]; simp only [beq_iff_eq]
      constructor
      · intro h; apply UInt8.toNat_inj.1; simp; omega
      · intro h; rw [← h]; simp; omega
    have e1 := e 110 (by decide); have e2 := e 114 (by decide); have e3 := e 109 (by decide); have e4 := e 105 (by decide)
    simp only [show ((110 : Nat) : Int) = 110 from rfl, show ((114 : Nat) : Int) = 114 from rfl, show ((109 : Nat) : Int) = 109 from rfl, show ((105 : Nat) : Int) = 105 from rfl] at e1 e2 e3 e4
    rw [e1, e2, e3, e4]
    have key : ∀ a0 a1 a2 a3 p0 p1 p2 p3 d0 d1 d2 d3 : Bool, ((a0 && p0 || (a1 && p1 || (a2 && p2 || a3 && p3))) || (a0 && d0 || (a1 && d1 || (a2 && d2 || a3 && d3)))) = (a0 && (p0 || d0) || (a1 && (p1 || d1) || (a2 && (p2 || d2) || a3 && (p3 || d3)))) := by
      intro a0 a1 a2 a3 p0 p1 p2 p3 d0 d1 d2 d3
      cases a0 <;> cases a1 <;> cases a2 <;> cases a3 <;> simp [Bool.or_assoc, Bool.or_comm, Bool.or_left_comm]
    exact key ..
theorem krm (k : Int) : kindsB ({ data := #[UInt8.ofNat 114, UInt8.ofNat 109] } : ByteArray) k = (k == 1 || k == 2) := by
  unfold kindsB
  rw [kinds_of]
  show (k == 0 && false || (k == 1 && true || (k == 2 && true || k == 3 && false))) = _
  simp
theorem krmi (k : Int) : kindsB ({ data := #[UInt8.ofNat 114, UInt8.ofNat 109, UInt8.ofNat 105] } : ByteArray) k = (k == 1 || (k == 2 || k == 3)) := by
  unfold kindsB
  rw [kinds_of]
  show (k == 0 && false || (k == 1 && true || (k == 2 && true || k == 3 && true))) = _
  simp
theorem kri (k : Int) : kindsB ({ data := #[UInt8.ofNat 114, UInt8.ofNat 105] } : ByteArray) k = (k == 1 || k == 3) := by
  unfold kindsB
  rw [kinds_of]
  show (k == 0 && false || (k == 1 && true || (k == 2 && false || k == 3 && true))) = _
  simp
theorem kr (k : Int) : kindsB ({ data := #[UInt8.ofNat 114] } : ByteArray) k = (k == 1) := by
  unfold kindsB
  rw [kinds_of]
  show (k == 0 && false || (k == 1 && true || (k == 2 && false || k == 3 && false))) = _
  simp
theorem km (k : Int) : kindsB ({ data := #[UInt8.ofNat 109] } : ByteArray) k = (k == 2) := by
  unfold kindsB
  rw [kinds_of]
  show (k == 0 && false || (k == 1 && false || (k == 2 && true || k == 3 && false))) = _
  simp
theorem ki (k : Int) : kindsB ({ data := #[UInt8.ofNat 105] } : ByteArray) k = (k == 3) := by
  unfold kindsB
  rw [kinds_of]
  show (k == 0 && false || (k == 1 && false || (k == 2 && false || k == 3 && true))) = _
  simp
theorem kn (k : Int) : kindsB ({ data := #[UInt8.ofNat 110] } : ByteArray) k = (k == 0) := by
  unfold kindsB
  rw [kinds_of]
  show (k == 0 && true || (k == 1 && false || (k == 2 && false || k == 3 && false))) = _
  simp
theorem knrm (k : Int) : kindsB ({ data := #[UInt8.ofNat 110, UInt8.ofNat 114, UInt8.ofNat 109] } : ByteArray) k = (k == 0 || (k == 1 || k == 2)) := by
  unfold kindsB
  rw [kinds_of]
  show (k == 0 && true || (k == 1 && true || (k == 2 && true || k == 3 && false))) = _
  simp
/-- Is an operation one of some? -/
def inL (op : Int) (l : List Nat) : Bool := !decide (op < 1) && (!decide (op > 47) && l.contains op.toNat)
theorem isW_of {W : ByteArray} {l : List Nat} (h : ∀ k : Fin 48, findAt W.data.toList (wordList[k.val]'k.isLt).data.toList 0 (W.size + 1 - (wordList[k.val]'k.isLt).size) = true ↔ (k.val = 0 ∧ findAt W.data.toList [] 0 (W.size + 1) = true ∨ l.contains k.val = true)) (h0 : l.contains 0 = false) (op : Int) : isW op W = inL op l := by
  unfold isW inL
  by_cases h1 : op < 1
  · rw [decide_eq_true h1]; rfl
  · by_cases h2 : op > 47
    · rw [decide_eq_false h1, decide_eq_true h2]; rfl
    · rw [decide_eq_false h1, decide_eq_false h2]
      have hk : op.toNat < 48 := by omega
      have hw : wordAt op = wordList[op.toNat]'hk := by unfold wordAt; rw [List.getElem?_eq_getElem hk]; rfl
      have := h ⟨op.toNat, hk⟩
      rw [hw, Bool.not_false, Bool.true_and, Bool.true_and, Bool.eq_iff_iff, this]
      constructor
      · rintro (⟨a, _⟩ | a)
        · exact absurd a (by show op.toNat ≠ 0; omega)
        · exact a
      · exact .inr
theorem is_add_or_adc_sbb_and_sub_xor_cmp_mov (op : Int) : isW op ({ data := #[UInt8.ofNat 97, UInt8.ofNat 100, UInt8.ofNat 100, UInt8.ofNat 32, UInt8.ofNat 111, UInt8.ofNat 114, UInt8.ofNat 32, UInt8.ofNat 97, UInt8.ofNat 100, UInt8.ofNat 99, UInt8.ofNat 32, UInt8.ofNat 115, UInt8.ofNat 98, UInt8.ofNat 98, UInt8.ofNat 32, UInt8.ofNat 97, UInt8.ofNat 110, UInt8.ofNat 100, UInt8.ofNat 32, UInt8.ofNat 115, UInt8.ofNat 117, UInt8.ofNat 98, UInt8.ofNat 32, UInt8.ofNat 120, UInt8.ofNat 111, UInt8.ofNat 114, UInt8.ofNat 32, UInt8.ofNat 99, UInt8.ofNat 109, UInt8.ofNat 112, UInt8.ofNat 32, UInt8.ofNat 109, UInt8.ofNat 111, UInt8.ofNat 118] } : ByteArray) = inL op [1, 2, 3, 4, 5, 6, 7, 8, 10] := isW_of (by decide +kernel) rfl op
theorem is_add_or_adc_sbb_and_sub_xor_inc_dec_not_neg_xchg_cas_xadd (op : Int) : isW op ({ data := #[UInt8.ofNat 97, UInt8.ofNat 100, UInt8.ofNat 100, UInt8.ofNat 32, UInt8.ofNat 111, UInt8.ofNat 114, UInt8.ofNat 32, UInt8.ofNat 97, UInt8.ofNat 100, UInt8.ofNat 99, UInt8.ofNat 32, UInt8.ofNat 115, UInt8.ofNat 98, UInt8.ofNat 98, UInt8.ofNat 32, UInt8.ofNat 97, UInt8.ofNat 110, UInt8.ofNat 100, UInt8.ofNat 32, UInt8.ofNat 115, UInt8.ofNat 117, UInt8.ofNat 98, UInt8.ofNat 32, UInt8.ofNat 120, UInt8.ofNat 111, UInt8.ofNat 114, UInt8.ofNat 32, UInt8.ofNat 105, UInt8.ofNat 110, UInt8.ofNat 99, UInt8.ofNat 32, UInt8.ofNat 100, UInt8.ofNat 101, UInt8.ofNat 99, UInt8.ofNat 32, UInt8.ofNat 110, UInt8.ofNat 111, UInt8.ofNat 116, UInt8.ofNat 32, UInt8.ofNat 110, UInt8.ofNat 101, UInt8.ofNat 103, UInt8.ofNat 32, UInt8.ofNat 120, UInt8.ofNat 99, UInt8.ofNat 104, UInt8.ofNat 103, UInt8.ofNat 32, UInt8.ofNat 99, UInt8.ofNat 97, UInt8.ofNat 115, UInt8.ofNat 32, UInt8.ofNat 120, UInt8.ofNat 97, UInt8.ofNat 100, UInt8.ofNat 100] } : ByteArray) = inL op [1, 2, 3, 4, 5, 6, 7, 16, 17, 18, 19, 31, 32, 33] := isW_of (by decide +kernel) rfl op
theorem is_cmov_set_jcc (op : Int) : isW op ({ data := #[UInt8.ofNat 99, UInt8.ofNat 109, UInt8.ofNat 111, UInt8.ofNat 118, UInt8.ofNat 32, UInt8.ofNat 115, UInt8.ofNat 101, UInt8.ofNat 116, UInt8.ofNat 32, UInt8.ofNat 106, UInt8.ofNat 99, UInt8.ofNat 99] } : ByteArray) = inL op [34, 35, 36] := isW_of (by decide +kernel) rfl op
theorem is_div_sdiv (op : Int) : isW op ({ data := #[UInt8.ofNat 100, UInt8.ofNat 105, UInt8.ofNat 118, UInt8.ofNat 32, UInt8.ofNat 115, UInt8.ofNat 100, UInt8.ofNat 105, UInt8.ofNat 118] } : ByteArray) = inL op [22, 23] := isW_of (by decide +kernel) rfl op
theorem is_imuli_jcc (op : Int) : isW op ({ data := #[UInt8.ofNat 105, UInt8.ofNat 109, UInt8.ofNat 117, UInt8.ofNat 108, UInt8.ofNat 105, UInt8.ofNat 32, UInt8.ofNat 106, UInt8.ofNat 99, UInt8.ofNat 99] } : ByteArray) = inL op [25, 36] := isW_of (by decide +kernel) rfl op
theorem is_inc_dec_not_neg_mul_smul (op : Int) : isW op ({ data := #[UInt8.ofNat 105, UInt8.ofNat 110, UInt8.ofNat 99, UInt8.ofNat 32, UInt8.ofNat 100, UInt8.ofNat 101, UInt8.ofNat 99, UInt8.ofNat 32, UInt8.ofNat 110, UInt8.ofNat 111, UInt8.ofNat 116, UInt8.ofNat 32, UInt8.ofNat 110, UInt8.ofNat 101, UInt8.ofNat 103, UInt8.ofNat 32, UInt8.ofNat 109, UInt8.ofNat 117, UInt8.ofNat 108, UInt8.ofNat 32, UInt8.ofNat 115, UInt8.ofNat 109, UInt8.ofNat 117, UInt8.ofNat 108] } : ByteArray) = inL op [16, 17, 18, 19, 20, 21] := isW_of (by decide +kernel) rfl op
theorem is_jcc_ret_fence_nop_sys_ud (op : Int) : isW op ({ data := #[UInt8.ofNat 106, UInt8.ofNat 99, UInt8.ofNat 99, UInt8.ofNat 32, UInt8.ofNat 114, UInt8.ofNat 101, UInt8.ofNat 116, UInt8.ofNat 32, UInt8.ofNat 102, UInt8.ofNat 101, UInt8.ofNat 110, UInt8.ofNat 99, UInt8.ofNat 101, UInt8.ofNat 32, UInt8.ofNat 110, UInt8.ofNat 111, UInt8.ofNat 112, UInt8.ofNat 32, UInt8.ofNat 115, UInt8.ofNat 121, UInt8.ofNat 115, UInt8.ofNat 32, UInt8.ofNat 117, UInt8.ofNat 100] } : ByteArray) = inL op [36, 39, 44, 45, 46, 47] := isW_of (by decide +kernel) rfl op
theorem is_jmp_call (op : Int) : isW op ({ data := #[UInt8.ofNat 106, UInt8.ofNat 109, UInt8.ofNat 112, UInt8.ofNat 32, UInt8.ofNat 99, UInt8.ofNat 97, UInt8.ofNat 108, UInt8.ofNat 108] } : ByteArray) = inL op [37, 38] := isW_of (by decide +kernel) rfl op
theorem is_lea (op : Int) : isW op ({ data := #[UInt8.ofNat 108, UInt8.ofNat 101, UInt8.ofNat 97] } : ByteArray) = inL op [13] := isW_of (by decide +kernel) rfl op
theorem is_mov (op : Int) : isW op ({ data := #[UInt8.ofNat 109, UInt8.ofNat 111, UInt8.ofNat 118] } : ByteArray) = inL op [10] := isW_of (by decide +kernel) rfl op
theorem is_movs_stos (op : Int) : isW op ({ data := #[UInt8.ofNat 109, UInt8.ofNat 111, UInt8.ofNat 118, UInt8.ofNat 115, UInt8.ofNat 32, UInt8.ofNat 115, UInt8.ofNat 116, UInt8.ofNat 111, UInt8.ofNat 115] } : ByteArray) = inL op [42, 43] := isW_of (by decide +kernel) rfl op
theorem is_movsx (op : Int) : isW op ({ data := #[UInt8.ofNat 109, UInt8.ofNat 111, UInt8.ofNat 118, UInt8.ofNat 115, UInt8.ofNat 120] } : ByteArray) = inL op [12] := isW_of (by decide +kernel) rfl op
theorem is_movzx_movsx (op : Int) : isW op ({ data := #[UInt8.ofNat 109, UInt8.ofNat 111, UInt8.ofNat 118, UInt8.ofNat 122, UInt8.ofNat 120, UInt8.ofNat 32, UInt8.ofNat 109, UInt8.ofNat 111, UInt8.ofNat 118, UInt8.ofNat 115, UInt8.ofNat 120] } : ByteArray) = inL op [11, 12] := isW_of (by decide +kernel) rfl op
theorem is_movzx_movsx_imul_imuli_cmov (op : Int) : isW op ({ data := #[UInt8.ofNat 109, UInt8.ofNat 111, UInt8.ofNat 118, UInt8.ofNat 122, UInt8.ofNat 120, UInt8.ofNat 32, UInt8.ofNat 109, UInt8.ofNat 111, UInt8.ofNat 118, UInt8.ofNat 115, UInt8.ofNat 120, UInt8.ofNat 32, UInt8.ofNat 105, UInt8.ofNat 109, UInt8.ofNat 117, UInt8.ofNat 108, UInt8.ofNat 32, UInt8.ofNat 105, UInt8.ofNat 109, UInt8.ofNat 117, UInt8.ofNat 108, UInt8.ofNat 105, UInt8.ofNat 32, UInt8.ofNat 99, UInt8.ofNat 109, UInt8.ofNat 111, UInt8.ofNat 118] } : ByteArray) = inL op [11, 12, 24, 25, 34] := isW_of (by decide +kernel) rfl op
theorem is_pop (op : Int) : isW op ({ data := #[UInt8.ofNat 112, UInt8.ofNat 111, UInt8.ofNat 112] } : ByteArray) = inL op [15] := isW_of (by decide +kernel) rfl op
theorem is_push (op : Int) : isW op ({ data := #[UInt8.ofNat 112, UInt8.ofNat 117, UInt8.ofNat 115, UInt8.ofNat 104] } : ByteArray) = inL op [14] := isW_of (by decide +kernel) rfl op
theorem is_rol_ror_shl_shr_sar (op : Int) : isW op ({ data := #[UInt8.ofNat 114, UInt8.ofNat 111, UInt8.ofNat 108, UInt8.ofNat 32, UInt8.ofNat 114, UInt8.ofNat 111, UInt8.ofNat 114, UInt8.ofNat 32, UInt8.ofNat 115, UInt8.ofNat 104, UInt8.ofNat 108, UInt8.ofNat 32, UInt8.ofNat 115, UInt8.ofNat 104, UInt8.ofNat 114, UInt8.ofNat 32, UInt8.ofNat 115, UInt8.ofNat 97, UInt8.ofNat 114] } : ByteArray) = inL op [26, 27, 28, 29, 30] := isW_of (by decide +kernel) rfl op
theorem is_set (op : Int) : isW op ({ data := #[UInt8.ofNat 115, UInt8.ofNat 101, UInt8.ofNat 116] } : ByteArray) = inL op [35] := isW_of (by decide +kernel) rfl op
theorem is_test (op : Int) : isW op ({ data := #[UInt8.ofNat 116, UInt8.ofNat 101, UInt8.ofNat 115, UInt8.ofNat 116] } : ByteArray) = inL op [9] := isW_of (by decide +kernel) rfl op
theorem is_wide_sign (op : Int) : isW op ({ data := #[UInt8.ofNat 119, UInt8.ofNat 105, UInt8.ofNat 100, UInt8.ofNat 101, UInt8.ofNat 32, UInt8.ofNat 115, UInt8.ofNat 105, UInt8.ofNat 103, UInt8.ofNat 110] } : ByteArray) = inL op [40, 41] := isW_of (by decide +kernel) rfl op
theorem is_xchg_cas_xadd (op : Int) : isW op ({ data := #[UInt8.ofNat 120, UInt8.ofNat 99, UInt8.ofNat 104, UInt8.ofNat 103, UInt8.ofNat 32, UInt8.ofNat 99, UInt8.ofNat 97, UInt8.ofNat 115, UInt8.ofNat 32, UInt8.ofNat 120, UInt8.ofNat 97, UInt8.ofNat 100, UInt8.ofNat 100] } : ByteArray) = inL op [31, 32, 33] := isW_of (by decide +kernel) rfl op
end
end Go.Proofs.Ytlhcbcfphognlaa
