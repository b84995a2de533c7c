/- Layer 11: which registers an instruction reads and changes: both say the same; JumpsRegs holds. -/
import Derived.Test.YtlhcbcfphognlaaJuJ
import Derived.Test.YtlhcbcfphognlaaJuH
namespace Go.Proofs.Ytlhcbcfphognlaa
open Go Go.Proofs.Ytlhcbcfphognlaa.Ab
open Go.Proofs.Ytlhcbcfphognlaa.Half (withL half wide strR strW)
set_option linter.unusedVariables false
set_option linter.unusedSimpArgs false
set_option maxRecDepth 100000
noncomputable section
/-! ### sets of registers, bit by bit -/
def Bs (s : Int) (p : Nat → Bool) : Prop := ∃ n : Nat, s = (n : Int) ∧ n < 2 ^ 32 ∧ ∀ k, n.testBit k = p k
theorem Bs.to {s : Int} {p q : Nat → Bool} (h : Bs s p) (e : ∀ k, p k = q k) : Bs s q := by
  obtain ⟨n, a, b, c⟩ := h
  exact ⟨n, a, b, fun k => (c k).trans (e k)⟩
theorem Bs.zero : Bs 0 fun _ => false := ⟨0, rfl, by omega, fun k => Nat.zero_testBit k⟩
theorem wrap_u32n (n : Nat) (h : n < 2 ^ 32) : IntKind.u32.wrap (n : Int) = (n : Int) := by
  simp [IntKind.wrap, IntKind.bits, IntKind.signed]
  omega
theorem Bs.or {a b : Int} {p q : Nat → Bool} (h : Bs a p) (k : Bs b q) : Bs (bor .u32 a b) fun i => p i || q i := by
  obtain ⟨n, rfl, h1, h2⟩ := h
  obtain ⟨m, rfl, k1, k2⟩ := k
  have e : bor .u32 (n : Int) (m : Int) = ((n ||| m : Nat) : Int) := by
    have hlt : n ||| m < 2 ^ 32 := Nat.or_lt_two_pow h1 k1
    unfold bor
    rw [show (BitVec.ofInt (IntKind.bits .u32) (n : Int) ||| BitVec.ofInt (IntKind.bits .u32) (m : Int)).toNat = n ||| m by
      rw [BitVec.ofInt_natCast, BitVec.ofInt_natCast, BitVec.toNat_or, BitVec.toNat_ofNat, BitVec.toNat_ofNat]
      show n % 2 ^ 32 ||| m % 2 ^ 32 = n ||| m
      rw [Nat.mod_eq_of_lt h1, Nat.mod_eq_of_lt k1]]
    exact wrap_u32n _ hlt
  exact ⟨n ||| m, e, Nat.or_lt_two_pow h1 k1, fun i => by rw [Nat.testBit_or, h2, k2]⟩
theorem Bs.pow {r : Int} (h0 : r ≥ 0) (h1 : r < 16) : Bs (ishl .u32 1 r) fun i => r == (i : Int) := by
  obtain ⟨n, rfl⟩ := Int.eq_ofNat_of_zero_le h0
  have hn : n < 16 := by omega
  have hp : 2 ^ n < 2 ^ 32 := Nat.pow_lt_pow_right (by omega) (by omega)
  refine ⟨2 ^ n, ?_, hp, fun i => ?_⟩
  · unfold ishl
    rw [show min ((n : Int).toNat) (IntKind.bits .u32) = n by simp [IntKind.bits]; omega, Int.one_mul, show (2 : Int) ^ n = ((2 ^ n : Nat) : Int) by simp]
    exact wrap_u32n _ hp
  · rw [Nat.testBit_two_pow, Bool.eq_iff_iff]
    simp only [decide_eq_true_eq, beq_iff_eq]
    omega
def inS (ks : List Int) (k : Nat) : Bool := ks.any fun r => decide (r ≥ 0) && (decide (r < 16) && r == (k : Int))
theorem Bs.withL {s : Int} {p : Nat → Bool} (h : Bs s p) : ∀ ks : List Int, Bs (Half.withL s ks) fun k => p k || inS ks k
  | [] => h.to fun k => by simp [inS]
  | r :: ks => by
    have e : Half.withL s (r :: ks) = Half.withL (bif decide (r ≥ 0) && decide (r < 16) then bor .u32 s (ishl .u32 1 r) else s) ks := rfl
    rw [e]
    by_cases h0 : r ≥ 0
    · by_cases h1 : r < 16
      · rw [decide_eq_true h0, decide_eq_true h1, Bool.and_self, ct]
        refine (Bs.withL (h.or (Bs.pow h0 h1)) ks).to fun k => ?_
        simp only [inS, List.any_cons, decide_eq_true h0, decide_eq_true h1, Bool.true_and, Bool.or_assoc]
      · rw [decide_eq_false h1, Bool.and_false, cf]
        refine (Bs.withL h ks).to fun k => ?_
        simp only [inS, List.any_cons, decide_eq_false h1, Bool.false_and, Bool.and_false, Bool.false_or]
    · rw [decide_eq_false h0, Bool.false_and, cf]
      refine (Bs.withL h ks).to fun k => ?_
      simp only [inS, List.any_cons, decide_eq_false h0, Bool.false_and, Bool.false_or]
theorem Bs.set (ks : List Int) : Bs (Half.withL 0 ks) (inS ks) := (Bs.zero.withL ks).to fun k => Bool.false_or _
theorem Bs.bif {c : Bool} {a b : Int} {p q : Nat → Bool} (h : Bs a p) (k : Bs b q) : Bs (bif c then a else b) fun i => bif c then p i else q i := by
  cases c
  · exact k
  · exact h
def tb (s k : Int) : Bool := (ishr .u32 s (IntKind.u64.wrap k)).tmod 2 == 1
theorem Bs.tb {s : Int} {p : Nat → Bool} (h : Bs s p) (k : Nat) (hk : k < 32) : tb s (k : Int) = p k := by
  obtain ⟨n, rfl, h1, h2⟩ := h
  unfold Go.Proofs.Ytlhcbcfphognlaa.tb ishr
  rw [← h2, wrap_u64, show min ((((k : Int) % 18446744073709551616).toNat)) (IntKind.bits .u32) = k by simp [IntKind.bits]; omega,
    Int.fdiv_eq_ediv_of_nonneg _ (Int.le_of_lt (Int.pow_pos (by decide))), show (2 : Int) ^ k = ((2 ^ k : Nat) : Int) by simp, ← Int.natCast_ediv, Nat.testBit_eq_decide_div_mod_eq, Int.tmod_eq_emod_of_nonneg (Int.natCast_nonneg _), Bool.eq_iff_iff]
  generalize n / 2 ^ k = m
  simp
  omega
def halfB (w : Int) (k : Nat) : Bool := bif w == 2 then inS [2] k else false
def wideB (w : Int) (k : Nat) : Bool := bif w == 1 then inS [0] k else inS [0, 2] k
def strRB (op : Int) (rep : Bool) (k : Nat) : Bool := bif rep then (bif op == 42 then inS [6, 7] k else inS [0, 7] k) || inS [1] k else bif op == 42 then inS [6, 7] k else inS [0, 7] k
def strWB (op : Int) (rep : Bool) (k : Nat) : Bool := bif rep then (bif op == 42 then inS [7] k || inS [6] k else inS [7] k) || inS [1] k else bif op == 42 then inS [7] k || inS [6] k else inS [7] k
theorem half_b (w : Int) : Bs (half w) (halfB w) := Bs.bif (Bs.set _) Bs.zero
theorem wide_b (w : Int) : Bs (wide w) (wideB w) := Bs.bif (Bs.set _) (Bs.set _)
theorem strR_b (op : Int) (rep : Bool) : Bs (strR op rep) (strRB op rep) := Bs.bif ((Bs.bif (Bs.set _) (Bs.set _)).withL _) (Bs.bif (Bs.set _) (Bs.set _))
theorem strW_b (op : Int) (rep : Bool) : Bs (strW op rep) (strWB op rep) := Bs.bif ((Bs.bif ((Bs.set _).withL _) (Bs.set _)).withL _) (Bs.bif ((Bs.set _).withL _) (Bs.set _))
def ownRB (x : Ins) (k : Nat) : Bool :=
  bif x.op == 14 || (x.op == 15 || (x.op == 38 || x.op == 39)) then inS [4] k
  else bif x.op == 20 || x.op == 21 then inS [0] k || halfB x.w k
  else bif x.op == 22 || x.op == 23 then inS [0, 2] k
  else bif x.op == 32 || x.op == 40 then inS [0] k
  else bif x.op == 41 then inS [0] k || halfB x.w k
  else bif x.op == 42 || x.op == 43 then strRB x.op x.rep k
  else bif x.op == 46 then inS [0, 6, 7] k else false
def ownWB (x : Ins) (k : Nat) : Bool :=
  bif x.op == 14 || (x.op == 15 || (x.op == 38 || x.op == 39)) then inS [4] k
  else bif x.op == 20 || x.op == 21 then wideB x.w k
  else bif x.op == 22 || x.op == 23 then wideB x.w k
  else bif x.op == 32 || x.op == 40 then inS [0] k
  else bif x.op == 41 then inS [2] k
  else bif x.op == 42 || x.op == 43 then strWB x.op x.rep k
  else bif x.op == 46 then inS [0, 1, 11] k else false
theorem ownR_b (x : Ins) : Bs (ownR x) (ownRB x) :=
  Bs.bif (Bs.set _) (Bs.bif ((Bs.set _).or (half_b _)) (Bs.bif (Bs.set _) (Bs.bif (Bs.set _) (Bs.bif ((Bs.set _).or (half_b _)) (Bs.bif (strR_b _ _) (Bs.bif (Bs.set _) Bs.zero))))))
theorem ownW_b (x : Ins) : Bs (ownW x) (ownWB x) :=
  Bs.bif (Bs.set _) (Bs.bif (wide_b _) (Bs.bif (wide_b _) (Bs.bif (Bs.set _) (Bs.bif (Bs.set _) (Bs.bif (strW_b _ _) (Bs.bif (Bs.set _) Bs.zero))))))
def regB (o : Od) (k : Nat) : Bool := bif o.k == 1 then inS [o.r] k else false
def adrB (o : Od) (k : Nat) : Bool := bif o.k == 2 then inS [o.b, o.i] k else false
theorem reg_b (o : Od) : Bs (regS o) (regB o) := Bs.bif (Bs.set _) Bs.zero
theorem adr_b (o : Od) : Bs (adrS o) (adrB o) := Bs.bif (Bs.set _) Bs.zero
def pwB (x : Ins) (k : Nat) : Bool :=
  bif x.op == 31 || x.op == 33 then (bif changesB x.op then ownWB x k || regB x.a k else ownWB x k) || regB x.b k
  else bif changesB x.op then ownWB x k || regB x.a k else ownWB x k
def prB (x : Ins) (k : Nat) : Bool :=
  bif !x.fresh then (ownRB x k || ((adrB x.a k || adrB x.b k) || regB x.b k)) || regB x.a k
  else ownRB x k || ((adrB x.a k || adrB x.b k) || regB x.b k)
theorem pw_b (x : Ins) (h : x.may = true) : Bs x.pw (pwB x) := by
  unfold Ins.pw
  rw [h, Bool.not_true, cf]
  exact Bs.bif ((Bs.bif ((ownW_b x).or (reg_b _)) (ownW_b x)).or (reg_b _)) (Bs.bif ((ownW_b x).or (reg_b _)) (ownW_b x))
theorem pr_b (x : Ins) (h : x.may = true) : Bs x.pr (prB x) := by
  unfold Ins.pr
  rw [h, Bool.not_true, cf]
  exact Bs.bif (((ownR_b x).or (((adr_b _).or (adr_b _)).or (reg_b _))).or (reg_b _)) ((ownR_b x).or (((adr_b _).or (adr_b _)).or (reg_b _)))
theorem inS_eq (ks : List Int) (k : Nat) : inS ks k = (decide ((k : Int) < 16) && ks.contains (k : Int)) := by
  unfold inS
  induction ks with
  | nil => simp
  | cons r ks ih =>
    rw [List.any_cons, ih, List.contains_cons]
    by_cases e : (k : Int) = r
    · subst e
      rw [beq_self_eq_true, show decide ((k : Int) ≥ 0) = true by simp]
      cases decide ((k : Int) < 16) <;> simp
    · rw [show (r == (k : Int)) = false by simpa using fun h => e h.symm, show ((k : Int) == r) = false by simpa using e]
      simp
theorem beq_k (r : Int) (k : Nat) : ((k : Int) == r) = (r == (k : Int)) := by
  rw [Bool.eq_iff_iff, beq_iff_eq, beq_iff_eq]; exact eq_comm
theorem set_1 (x : Ins) (e : x.op = 1) (k : Nat) (hk : k < 32) (hr : x.rep = true → x.op = 42 ∨ x.op = 43) : ownWB x k = (decide ((k : Int) < 16) && x.wsw (k : Int)) ∧ ownRB x k = (decide ((k : Int) < 16) && x.rsw (k : Int)) ∧ changesB x.op = !inL x.op [8, 9, 14, 20, 21, 22, 23, 37, 38] ∧ x.fresh = !(!inL x.op [15] && !(decide (x.w ≥ 4) && inL x.op [10, 11, 12, 13, 25])) ∧ (x.op == 31 || x.op == 33) = (inL x.op [31] || inL x.op [33]) := by
  refine ⟨?_, ?_, ?_, ?_, ?_⟩ <;> simp only [Ins.wsw, Ins.rsw, ownWB, ownRB, inS_eq, halfB, wideB, strRB, strWB, changesB, Ins.fresh, inL, e, bne, List.contains_cons, List.contains_nil] <;> simp (decide := true) only [e, List.contains_cons, List.contains_nil, dT, dF, Int.reduceBEq, Nat.reduceBEq, Int.reduceToNat, Int.reduceLE, Int.reduceLT, Int.reduceGT, cond_true, cond_false, Bool.true_and, Bool.false_and, Bool.and_false, Bool.and_true, Bool.true_or, Bool.false_or, Bool.or_false, Bool.or_true, Bool.not_true, Bool.not_false] <;> first | grind | (clear hr; generalize x.rep = b; clear e x; cases b <;> (revert hk; revert k; decide))
theorem set_2 (x : Ins) (e : x.op = 2) (k : Nat) (hk : k < 32) (hr : x.rep = true → x.op = 42 ∨ x.op = 43) : ownWB x k = (decide ((k : Int) < 16) && x.wsw (k : Int)) ∧ ownRB x k = (decide ((k : Int) < 16) && x.rsw (k : Int)) ∧ changesB x.op = !inL x.op [8, 9, 14, 20, 21, 22, 23, 37, 38] ∧ x.fresh = !(!inL x.op [15] && !(decide (x.w ≥ 4) && inL x.op [10, 11, 12, 13, 25])) ∧ (x.op == 31 || x.op == 33) = (inL x.op [31] || inL x.op [33]) := by
  refine ⟨?_, ?_, ?_, ?_, ?_⟩ <;> simp only [Ins.wsw, Ins.rsw, ownWB, ownRB, inS_eq, halfB, wideB, strRB, strWB, changesB, Ins.fresh, inL, e, bne, List.contains_cons, List.contains_nil] <;> simp (decide := true) only [e, List.contains_cons, List.contains_nil, dT, dF, Int.reduceBEq, Nat.reduceBEq, Int.reduceToNat, Int.reduceLE, Int.reduceLT, Int.reduceGT, cond_true, cond_false, Bool.true_and, Bool.false_and, Bool.and_false, Bool.and_true, Bool.true_or, Bool.false_or, Bool.or_false, Bool.or_true, Bool.not_true, Bool.not_false] <;> first | grind | (clear hr; generalize x.rep = b; clear e x; cases b <;> (revert hk; revert k; decide))
theorem set_3 (x : Ins) (e : x.op = 3) (k : Nat) (hk : k < 32) (hr : x.rep = true → x.op = 42 ∨ x.op = 43) : ownWB x k = (decide ((k : Int) < 16) && x.wsw (k : Int)) ∧ ownRB x k = (decide ((k : Int) < 16) && x.rsw (k : Int)) ∧ changesB x.op = !inL x.op [8, 9, 14, 20, 21, 22, 23, 37, 38] ∧ x.fresh = !(!inL x.op [15] && !(decide (x.w ≥ 4) && inL x.op [10, 11, 12, 13, 25])) ∧ (x.op == 31 || x.op == 33) = (inL x.op [31] || inL x.op [33]) := by
  refine ⟨?_, ?_, ?_, ?_, ?_⟩ <;> simp only [Ins.wsw, Ins.rsw, ownWB, ownRB, inS_eq, halfB, wideB, strRB, strWB, changesB, Ins.fresh, inL, e, bne, List.contains_cons, List.contains_nil] <;> simp (decide := true) only [e, List.contains_cons, List.contains_nil, dT, dF, Int.reduceBEq, Nat.reduceBEq, Int.reduceToNat, Int.reduceLE, Int.reduceLT, Int.reduceGT, cond_true, cond_false, Bool.true_and, Bool.false_and, Bool.and_false, Bool.and_true, Bool.true_or, Bool.false_or, Bool.or_false, Bool.or_true, Bool.not_true, Bool.not_false] <;> first | grind | (clear hr; generalize x.rep = b; clear e x; cases b <;> (revert hk; revert k; decide))
theorem set_4 (x : Ins) (e : x.op = 4) (k : Nat) (hk : k < 32) (hr : x.rep = true → x.op = 42 ∨ x.op = 43) : ownWB x k = (decide ((k : Int) < 16) && x.wsw (k : Int)) ∧ ownRB x k = (decide ((k : Int) < 16) && x.rsw (k : Int)) ∧ changesB x.op = !inL x.op [8, 9, 14, 20, 21, 22, 23, 37, 38] ∧ x.fresh = !(!inL x.op [15] && !(decide (x.w ≥ 4) && inL x.op [10, 11, 12, 13, 25])) ∧ (x.op == 31 || x.op == 33) = (inL x.op [31] || inL x.op [33]) := by
  refine ⟨?_, ?_, ?_, ?_, ?_⟩ <;> simp only [Ins.wsw, Ins.rsw, ownWB, ownRB, inS_eq, halfB, wideB, strRB, strWB, changesB, Ins.fresh, inL, e, bne, List.contains_cons, List.contains_nil] <;> simp (decide := true) only [e, List.contains_cons, List.contains_nil, dT, dF, Int.reduceBEq, Nat.reduceBEq, Int.reduceToNat, Int.reduceLE, Int.reduceLT, Int.reduceGT, cond_true, cond_false, Bool.true_and, Bool.false_and, Bool.and_false, Bool.and_true, Bool.true_or, Bool.false_or, Bool.or_false, Bool.or_true, Bool.not_true, Bool.not_false] <;> first | grind | (clear hr; generalize x.rep = b; clear e x; cases b <;> (revert hk; revert k; decide))
theorem set_5 (x : Ins) (e : x.op = 5) (k : Nat) (hk : k < 32) (hr : x.rep = true → x.op = 42 ∨ x.op = 43) : ownWB x k = (decide ((k : Int) < 16) && x.wsw (k : Int)) ∧ ownRB x k = (decide ((k : Int) < 16) && x.rsw (k : Int)) ∧ changesB x.op = !inL x.op [8, 9, 14, 20, 21, 22, 23, 37, 38] ∧ x.fresh = !(!inL x.op [15] && !(decide (x.w ≥ 4) && inL x.op [10, 11, 12, 13, 25])) ∧ (x.op == 31 || x.op == 33) = (inL x.op [31] || inL x.op [33]) := by
  refine ⟨?_, ?_, ?_, ?_, ?_⟩ <;> simp only [Ins.wsw, Ins.rsw, ownWB, ownRB, inS_eq, halfB, wideB, strRB, strWB, changesB, Ins.fresh, inL, e, bne, List.contains_cons, List.contains_nil] <;> simp (decide := true) only [e, List.contains_cons, List.contains_nil, dT, dF, Int.reduceBEq, Nat.reduceBEq, Int.reduceToNat, Int.reduceLE, Int.reduceLT, Int.reduceGT, cond_true, cond_false, Bool.true_and, Bool.false_and, Bool.and_false, Bool.and_true, Bool.true_or, Bool.false_or, Bool.or_false, Bool.or_true, Bool.not_true, Bool.not_false] <;> first | grind | (clear hr; generalize x.rep = b; clear e x; cases b <;> (revert hk; revert k; decide))
theorem set_6 (x : Ins) (e : x.op = 6) (k : Nat) (hk : k < 32) (hr : x.rep = true → x.op = 42 ∨ x.op = 43) : ownWB x k = (decide ((k : Int) < 16) && x.wsw (k : Int)) ∧ ownRB x k = (decide ((k : Int) < 16) && x.rsw (k : Int)) ∧ changesB x.op = !inL x.op [8, 9, 14, 20, 21, 22, 23, 37, 38] ∧ x.fresh = !(!inL x.op [15] && !(decide (x.w ≥ 4) && inL x.op [10, 11, 12, 13, 25])) ∧ (x.op == 31 || x.op == 33) = (inL x.op [31] || inL x.op [33]) := by
  refine ⟨?_, ?_, ?_, ?_, ?_⟩ <;> simp only [Ins.wsw, Ins.rsw, ownWB, ownRB, inS_eq, halfB, wideB, strRB, strWB, changesB, Ins.fresh, inL, e, bne, List.contains_cons, List.contains_nil] <;> simp (decide := true) only [e, List.contains_cons, List.contains_nil, dT, dF, Int.reduceBEq, Nat.reduceBEq, Int.reduceToNat, Int.reduceLE, Int.reduceLT, Int.reduceGT, cond_true, cond_false, Bool.true_and, Bool.false_and, Bool.and_false, Bool.and_true, Bool.true_or, Bool.false_or, Bool.or_false, Bool.or_true, Bool.not_true, Bool.not_false] <;> first | grind | (clear hr; generalize x.rep = b; clear e x; cases b <;> (revert hk; revert k; decide))
theorem set_7 (x : Ins) (e : x.op = 7) (k : Nat) (hk : k < 32) (hr : x.rep = true → x.op = 42 ∨ x.op = 43) : ownWB x k = (decide ((k : Int) < 16) && x.wsw (k : Int)) ∧ ownRB x k = (decide ((k : Int) < 16) && x.rsw (k : Int)) ∧ changesB x.op = !inL x.op [8, 9, 14, 20, 21, 22, 23, 37, 38] ∧ x.fresh = !(!inL x.op [15] && !(decide (x.w ≥ 4) && inL x.op [10, 11, 12, 13, 25])) ∧ (x.op == 31 || x.op == 33) = (inL x.op [31] || inL x.op [33]) := by
  refine ⟨?_, ?_, ?_, ?_, ?_⟩ <;> simp only [Ins.wsw, Ins.rsw, ownWB, ownRB, inS_eq, halfB, wideB, strRB, strWB, changesB, Ins.fresh, inL, e, bne, List.contains_cons, List.contains_nil] <;> simp (decide := true) only [e, List.contains_cons, List.contains_nil, dT, dF, Int.reduceBEq, Nat.reduceBEq, Int.reduceToNat, Int.reduceLE, Int.reduceLT, Int.reduceGT, cond_true, cond_false, Bool.true_and, Bool.false_and, Bool.and_false, Bool.and_true, Bool.true_or, Bool.false_or, Bool.or_false, Bool.or_true, Bool.not_true, Bool.not_false] <;> first | grind | (clear hr; generalize x.rep = b; clear e x; cases b <;> (revert hk; revert k; decide))
theorem set_8 (x : Ins) (e : x.op = 8) (k : Nat) (hk : k < 32) (hr : x.rep = true → x.op = 42 ∨ x.op = 43) : ownWB x k = (decide ((k : Int) < 16) && x.wsw (k : Int)) ∧ ownRB x k = (decide ((k : Int) < 16) && x.rsw (k : Int)) ∧ changesB x.op = !inL x.op [8, 9, 14, 20, 21, 22, 23, 37, 38] ∧ x.fresh = !(!inL x.op [15] && !(decide (x.w ≥ 4) && inL x.op [10, 11, 12, 13, 25])) ∧ (x.op == 31 || x.op == 33) = (inL x.op [31] || inL x.op [33]) := by
  refine ⟨?_, ?_, ?_, ?_, ?_⟩ <;> simp only [Ins.wsw, Ins.rsw, ownWB, ownRB, inS_eq, halfB, wideB, strRB, strWB, changesB, Ins.fresh, inL, e, bne, List.contains_cons, List.contains_nil] <;> simp (decide := true) only [e, List.contains_cons, List.contains_nil, dT, dF, Int.reduceBEq, Nat.reduceBEq, Int.reduceToNat, Int.reduceLE, Int.reduceLT, Int.reduceGT, cond_true, cond_false, Bool.true_and, Bool.false_and, Bool.and_false, Bool.and_true, Bool.true_or, Bool.false_or, Bool.or_false, Bool.or_true, Bool.not_true, Bool.not_false] <;> first | grind | (clear hr; generalize x.rep = b; clear e x; cases b <;> (revert hk; revert k; decide))
theorem set_9 (x : Ins) (e : x.op = 9) (k : Nat) (hk : k < 32) (hr : x.rep = true → x.op = 42 ∨ x.op = 43) : ownWB x k = (decide ((k : Int) < 16) && x.wsw (k : Int)) ∧ ownRB x k = (decide ((k : Int) < 16) && x.rsw (k : Int)) ∧ changesB x.op = !inL x.op [8, 9, 14, 20, 21, 22, 23, 37, 38] ∧ x.fresh = !(!inL x.op [15] && !(decide (x.w ≥ 4) && inL x.op [10, 11, 12, 13, 25])) ∧ (x.op == 31 || x.op == 33) = (inL x.op [31] || inL x.op [33]) := by
  refine ⟨?_, ?_, ?_, ?_, ?_⟩ <;> simp only [Ins.wsw, Ins.rsw, ownWB, ownRB, inS_eq, halfB, wideB, strRB, strWB, changesB, Ins.fresh, inL, e, bne, List.contains_cons, List.contains_nil] <;> simp (decide := true) only [e, List.contains_cons, List.contains_nil, dT, dF, Int.reduceBEq, Nat.reduceBEq, Int.reduceToNat, Int.reduceLE, Int.reduceLT, Int.reduceGT, cond_true, cond_false, Bool.true_and, Bool.false_and, Bool.and_false, Bool.and_true, Bool.true_or, Bool.false_or, Bool.or_false, Bool.or_true, Bool.not_true, Bool.not_false] <;> first | grind | (clear hr; generalize x.rep = b; clear e x; cases b <;> (revert hk; revert k; decide))
theorem set_10 (x : Ins) (e : x.op = 10) (k : Nat) (hk : k < 32) (hr : x.rep = true → x.op = 42 ∨ x.op = 43) : ownWB x k = (decide ((k : Int) < 16) && x.wsw (k : Int)) ∧ ownRB x k = (decide ((k : Int) < 16) && x.rsw (k : Int)) ∧ changesB x.op = !inL x.op [8, 9, 14, 20, 21, 22, 23, 37, 38] ∧ x.fresh = !(!inL x.op [15] && !(decide (x.w ≥ 4) && inL x.op [10, 11, 12, 13, 25])) ∧ (x.op == 31 || x.op == 33) = (inL x.op [31] || inL x.op [33]) := by
  refine ⟨?_, ?_, ?_, ?_, ?_⟩ <;> simp only [Ins.wsw, Ins.rsw, ownWB, ownRB, inS_eq, halfB, wideB, strRB, strWB, changesB, Ins.fresh, inL, e, bne, List.contains_cons, List.contains_nil] <;> simp (decide := true) only [e, List.contains_cons, List.contains_nil, dT, dF, Int.reduceBEq, Nat.reduceBEq, Int.reduceToNat, Int.reduceLE, Int.reduceLT, Int.reduceGT, cond_true, cond_false, Bool.true_and, Bool.false_and, Bool.and_false, Bool.and_true, Bool.true_or, Bool.false_or, Bool.or_false, Bool.or_true, Bool.not_true, Bool.not_false] <;> first | grind | (clear hr; generalize x.rep = b; clear e x; cases b <;> (revert hk; revert k; decide))
theorem set_11 (x : Ins) (e : x.op = 11) (k : Nat) (hk : k < 32) (hr : x.rep = true → x.op = 42 ∨ x.op = 43) : ownWB x k = (decide ((k : Int) < 16) && x.wsw (k : Int)) ∧ ownRB x k = (decide ((k : Int) < 16) && x.rsw (k : Int)) ∧ changesB x.op = !inL x.op [8, 9, 14, 20, 21, 22, 23, 37, 38] ∧ x.fresh = !(!inL x.op [15] && !(decide (x.w ≥ 4) && inL x.op [10, 11, 12, 13, 25])) ∧ (x.op == 31 || x.op == 33) = (inL x.op [31] || inL x.op [33]) := by
  refine ⟨?_, ?_, ?_, ?_, ?_⟩ <;> simp only [Ins.wsw, Ins.rsw, ownWB, ownRB, inS_eq, halfB, wideB, strRB, strWB, changesB, Ins.fresh, inL, e, bne, List.contains_cons, List.contains_nil] <;> simp (decide := true) only [e, List.contains_cons, List.contains_nil, dT, dF, Int.reduceBEq, Nat.reduceBEq, Int.reduceToNat, Int.reduceLE, Int.reduceLT, Int.reduceGT, cond_true, cond_false, Bool.true_and, Bool.false_and, Bool.and_false, Bool.and_true, Bool.true_or, Bool.false_or, Bool.or_false, Bool.or_true, Bool.not_true, Bool.not_false] <;> first | grind | (clear hr; generalize x.rep = b; clear e x; cases b <;> (revert hk; revert k; decide))
theorem set_12 (x : Ins) (e : x.op = 12) (k : Nat) (hk : k < 32) (hr : x.rep = true → x.op = 42 ∨ x.op = 43) : ownWB x k = (decide ((k : Int) < 16) && x.wsw (k : Int)) ∧ ownRB x k = (decide ((k : Int) < 16) && x.rsw (k : Int)) ∧ changesB x.op = !inL x.op [8, 9, 14, 20, 21, 22, 23, 37, 38] ∧ x.fresh = !(!inL x.op [15] && !(decide (x.w ≥ 4) && inL x.op [10, 11, 12, 13, 25])) ∧ (x.op == 31 || x.op == 33) = (inL x.op [31] || inL x.op [33]) := by
  refine ⟨?_, ?_, ?_, ?_, ?_⟩ <;> simp only [Ins.wsw, Ins.rsw, ownWB, ownRB, inS_eq, halfB, wideB, strRB, strWB, changesB, Ins.fresh, inL, e, bne, List.contains_cons, List.contains_nil] <;> simp (decide := true) only [e, List.contains_cons, List.contains_nil, dT, dF, Int.reduceBEq, Nat.reduceBEq, Int.reduceToNat, Int.reduceLE, Int.reduceLT, Int.reduceGT, cond_true, cond_false, Bool.true_and, Bool.false_and, Bool.and_false, Bool.and_true, Bool.true_or, Bool.false_or, Bool.or_false, Bool.or_true, Bool.not_true, Bool.not_false] <;> first | grind | (clear hr; generalize x.rep = b; clear e x; cases b <;> (revert hk; revert k; decide))
theorem set_13 (x : Ins) (e : x.op = 13) (k : Nat) (hk : k < 32) (hr : x.rep = true → x.op = 42 ∨ x.op = 43) : ownWB x k = (decide ((k : Int) < 16) && x.wsw (k : Int)) ∧ ownRB x k = (decide ((k : Int) < 16) && x.rsw (k : Int)) ∧ changesB x.op = !inL x.op [8, 9, 14, 20, 21, 22, 23, 37, 38] ∧ x.fresh = !(!inL x.op [15] && !(decide (x.w ≥ 4) && inL x.op [10, 11, 12, 13, 25])) ∧ (x.op == 31 || x.op == 33) = (inL x.op [31] || inL x.op [33]) := by
  refine ⟨?_, ?_, ?_, ?_, ?_⟩ <;> simp only [Ins.wsw, Ins.rsw, ownWB, ownRB, inS_eq, halfB, wideB, strRB, strWB, changesB, Ins.fresh, inL, e, bne, List.contains_cons, List.contains_nil] <;> simp (decide := true) only [e, List.contains_cons, List.contains_nil, dT, dF, Int.reduceBEq, Nat.reduceBEq, Int.reduceToNat, Int.reduceLE, Int.reduceLT, Int.reduceGT, cond_true, cond_false, Bool.true_and, Bool.false_and, Bool.and_false, Bool.and_true, Bool.true_or, Bool.false_or, Bool.or_false, Bool.or_true, Bool.not_true, Bool.not_false] <;> first | grind | (clear hr; generalize x.rep = b; clear e x; cases b <;> (revert hk; revert k; decide))
theorem set_14 (x : Ins) (e : x.op = 14) (k : Nat) (hk : k < 32) (hr : x.rep = true → x.op = 42 ∨ x.op = 43) : ownWB x k = (decide ((k : Int) < 16) && x.wsw (k : Int)) ∧ ownRB x k = (decide ((k : Int) < 16) && x.rsw (k : Int)) ∧ changesB x.op = !inL x.op [8, 9, 14, 20, 21, 22, 23, 37, 38] ∧ x.fresh = !(!inL x.op [15] && !(decide (x.w ≥ 4) && inL x.op [10, 11, 12, 13, 25])) ∧ (x.op == 31 || x.op == 33) = (inL x.op [31] || inL x.op [33]) := by
  refine ⟨?_, ?_, ?_, ?_, ?_⟩ <;> simp only [Ins.wsw, Ins.rsw, ownWB, ownRB, inS_eq, halfB, wideB, strRB, strWB, changesB, Ins.fresh, inL, e, bne, List.contains_cons, List.contains_nil] <;> simp (decide := true) only [e, List.contains_cons, List.contains_nil, dT, dF, Int.reduceBEq, Nat.reduceBEq, Int.reduceToNat, Int.reduceLE, Int.reduceLT, Int.reduceGT, cond_true, cond_false, Bool.true_and, Bool.false_and, Bool.and_false, Bool.and_true, Bool.true_or, Bool.false_or, Bool.or_false, Bool.or_true, Bool.not_true, Bool.not_false] <;> first | grind | (clear hr; generalize x.rep = b; clear e x; cases b <;> (revert hk; revert k; decide))
theorem set_15 (x : Ins) (e : x.op = 15) (k : Nat) (hk : k < 32) (hr : x.rep = true → x.op = 42 ∨ x.op = 43) : ownWB x k = (decide ((k : Int) < 16) && x.wsw (k : Int)) ∧ ownRB x k = (decide ((k : Int) < 16) && x.rsw (k : Int)) ∧ changesB x.op = !inL x.op [8, 9, 14, 20, 21, 22, 23, 37, 38] ∧ x.fresh = !(!inL x.op [15] && !(decide (x.w ≥ 4) && inL x.op [10, 11, 12, 13, 25])) ∧ (x.op == 31 || x.op == 33) = (inL x.op [31] || inL x.op [33]) := by
  refine ⟨?_, ?_, ?_, ?_, ?_⟩ <;> simp only [Ins.wsw, Ins.rsw, ownWB, ownRB, inS_eq, halfB, wideB, strRB, strWB, changesB, Ins.fresh, inL, e, bne, List.contains_cons, List.contains_nil] <;> simp (decide := true) only [e, List.contains_cons, List.contains_nil, dT, dF, Int.reduceBEq, Nat.reduceBEq, Int.reduceToNat, Int.reduceLE, Int.reduceLT, Int.reduceGT, cond_true, cond_false, Bool.true_and, Bool.false_and, Bool.and_false, Bool.and_true, Bool.true_or, Bool.false_or, Bool.or_false, Bool.or_true, Bool.not_true, Bool.not_false] <;> first | grind | (clear hr; generalize x.rep = b; clear e x; cases b <;> (revert hk; revert k; decide))
theorem set_16 (x : Ins) (e : x.op = 16) (k : Nat) (hk : k < 32) (hr : x.rep = true → x.op = 42 ∨ x.op = 43) : ownWB x k = (decide ((k : Int) < 16) && x.wsw (k : Int)) ∧ ownRB x k = (decide ((k : Int) < 16) && x.rsw (k : Int)) ∧ changesB x.op = !inL x.op [8, 9, 14, 20, 21, 22, 23, 37, 38] ∧ x.fresh = !(!inL x.op [15] && !(decide (x.w ≥ 4) && inL x.op [10, 11, 12, 13, 25])) ∧ (x.op == 31 || x.op == 33) = (inL x.op [31] || inL x.op [33]) := by
  refine ⟨?_, ?_, ?_, ?_, ?_⟩ <;> simp only [Ins.wsw, Ins.rsw, ownWB, ownRB, inS_eq, halfB, wideB, strRB, strWB, changesB, Ins.fresh, inL, e, bne, List.contains_cons, List.contains_nil] <;> simp (decide := true) only [e, List.contains_cons, List.contains_nil, dT, dF, Int.reduceBEq, Nat.reduceBEq, Int.reduceToNat, Int.reduceLE, Int.reduceLT, Int.reduceGT, cond_true, cond_false, Bool.true_and, Bool.false_and, Bool.and_false, Bool.and_true, Bool.true_or, Bool.false_or, Bool.or_false, Bool.or_true, Bool.not_true, Bool.not_false] <;> first | grind | (clear hr; generalize x.rep = b; clear e x; cases b <;> (revert hk; revert k; decide))
theorem set_17 (x : Ins) (e : x.op = 17) (k : Nat) (hk : k < 32) (hr : x.rep = true → x.op = 42 ∨ x.op = 43) : ownWB x k = (decide ((k : Int) < 16) && x.wsw (k : Int)) ∧ ownRB x k = (decide ((k : Int) < 16) && x.rsw (k : Int)) ∧ changesB x.op = !inL x.op [8, 9, 14, 20, 21, 22, 23, 37, 38] ∧ x.fresh = !(!inL x.op [15] && !(decide (x.w ≥ 4) && inL x.op [10, 11, 12, 13, 25])) ∧ (x.op == 31 || x.op == 33) = (inL x.op [31] || inL x.op [33]) := by
  refine ⟨?_, ?_, ?_, ?_, ?_⟩ <;> simp only [Ins.wsw, Ins.rsw, ownWB, ownRB, inS_eq, halfB, wideB, strRB, strWB, changesB, Ins.fresh, inL, e, bne, List.contains_cons, List.contains_nil] <;> simp (decide := true) only [e, List.contains_cons, List.contains_nil, dT, dF, Int.reduceBEq, Nat.reduceBEq, Int.reduceToNat, Int.reduceLE, Int.reduceLT, Int.reduceGT, cond_true, cond_false, Bool.true_and, Bool.false_and, Bool.and_false, Bool.and_true, Bool.true_or, Bool.false_or, Bool.or_false, Bool.or_true, Bool.not_true, Bool.not_false] <;> first | grind | (clear hr; generalize x.rep = b; clear e x; cases b <;> (revert hk; revert k; decide))
theorem set_18 (x : Ins) (e : x.op = 18) (k : Nat) (hk : k < 32) (hr : x.rep = true → x.op = 42 ∨ x.op = 43) : ownWB x k = (decide ((k : Int) < 16) && x.wsw (k : Int)) ∧ ownRB x k = (decide ((k : Int) < 16) && x.rsw (k : Int)) ∧ changesB x.op = !inL x.op [8, 9, 14, 20, 21, 22, 23, 37, 38] ∧ x.fresh = !(!inL x.op [15] && !(decide (x.w ≥ 4) && inL x.op [10, 11, 12, 13, 25])) ∧ (x.op == 31 || x.op == 33) = (inL x.op [31] || inL x.op [33]) := by
  refine ⟨?_, ?_, ?_, ?_, ?_⟩ <;> simp only [Ins.wsw, Ins.rsw, ownWB, ownRB, inS_eq, halfB, wideB, strRB, strWB, changesB, Ins.fresh, inL, e, bne, List.contains_cons, List.contains_nil] <;> simp (decide := true) only [e, List.contains_cons, List.contains_nil, dT, dF, Int.reduceBEq, Nat.reduceBEq, Int.reduceToNat, Int.reduceLE, Int.reduceLT, Int.reduceGT, cond_true, cond_false, Bool.true_and, Bool.false_and, Bool.and_false, Bool.and_true, Bool.true_or, Bool.false_or, Bool.or_false, Bool.or_true, Bool.not_true, Bool.not_false] <;> first | grind | (clear hr; generalize x.rep = b; clear e x; cases b <;> (revert hk; revert k; decide))
theorem set_19 (x : Ins) (e : x.op = 19) (k : Nat) (hk : k < 32) (hr : x.rep = true → x.op = 42 ∨ x.op = 43) : ownWB x k = (decide ((k : Int) < 16) && x.wsw (k : Int)) ∧ ownRB x k = (decide ((k : Int) < 16) && x.rsw (k : Int)) ∧ changesB x.op = !inL x.op [8, 9, 14, 20, 21, 22, 23, 37, 38] ∧ x.fresh = !(!inL x.op [15] && !(decide (x.w ≥ 4) && inL x.op [10, 11, 12, 13, 25])) ∧ (x.op == 31 || x.op == 33) = (inL x.op [31] || inL x.op [33]) := by
  refine ⟨?_, ?_, ?_, ?_, ?_⟩ <;> simp only [Ins.wsw, Ins.rsw, ownWB, ownRB, inS_eq, halfB, wideB, strRB, strWB, changesB, Ins.fresh, inL, e, bne, List.contains_cons, List.contains_nil] <;> simp (decide := true) only [e, List.contains_cons, List.contains_nil, dT, dF, Int.reduceBEq, Nat.reduceBEq, Int.reduceToNat, Int.reduceLE, Int.reduceLT, Int.reduceGT, cond_true, cond_false, Bool.true_and, Bool.false_and, Bool.and_false, Bool.and_true, Bool.true_or, Bool.false_or, Bool.or_false, Bool.or_true, Bool.not_true, Bool.not_false] <;> first | grind | (clear hr; generalize x.rep = b; clear e x; cases b <;> (revert hk; revert k; decide))
theorem set_20 (x : Ins) (e : x.op = 20) (k : Nat) (hk : k < 32) (hr : x.rep = true → x.op = 42 ∨ x.op = 43) : ownWB x k = (decide ((k : Int) < 16) && x.wsw (k : Int)) ∧ ownRB x k = (decide ((k : Int) < 16) && x.rsw (k : Int)) ∧ changesB x.op = !inL x.op [8, 9, 14, 20, 21, 22, 23, 37, 38] ∧ x.fresh = !(!inL x.op [15] && !(decide (x.w ≥ 4) && inL x.op [10, 11, 12, 13, 25])) ∧ (x.op == 31 || x.op == 33) = (inL x.op [31] || inL x.op [33]) := by
  refine ⟨?_, ?_, ?_, ?_, ?_⟩ <;> simp only [Ins.wsw, Ins.rsw, ownWB, ownRB, inS_eq, halfB, wideB, strRB, strWB, changesB, Ins.fresh, inL, e, bne, List.contains_cons, List.contains_nil] <;> simp (decide := true) only [e, List.contains_cons, List.contains_nil, dT, dF, Int.reduceBEq, Nat.reduceBEq, Int.reduceToNat, Int.reduceLE, Int.reduceLT, Int.reduceGT, cond_true, cond_false, Bool.true_and, Bool.false_and, Bool.and_false, Bool.and_true, Bool.true_or, Bool.false_or, Bool.or_false, Bool.or_true, Bool.not_true, Bool.not_false] <;> first | grind | (clear hr; generalize x.rep = b; clear e x; cases b <;> (revert hk; revert k; decide))
theorem set_21 (x : Ins) (e : x.op = 21) (k : Nat) (hk : k < 32) (hr : x.rep = true → x.op = 42 ∨ x.op = 43) : ownWB x k = (decide ((k : Int) < 16) && x.wsw (k : Int)) ∧ ownRB x k = (decide ((k : Int) < 16) && x.rsw (k : Int)) ∧ changesB x.op = !inL x.op [8, 9, 14, 20, 21, 22, 23, 37, 38] ∧ x.fresh = !(!inL x.op [15] && !(decide (x.w ≥ 4) && inL x.op [10, 11, 12, 13, 25])) ∧ (x.op == 31 || x.op == 33) = (inL x.op [31] || inL x.op [33]) := by
  refine ⟨?_, ?_, ?_, ?_, ?_⟩ <;> simp only [Ins.wsw, Ins.rsw, ownWB, ownRB, inS_eq, halfB, wideB, strRB, strWB, changesB, Ins.fresh, inL, e, bne, List.contains_cons, List.contains_nil] <;> simp (decide := true) only [e, List.contains_cons, List.contains_nil, dT, dF, Int.reduceBEq, Nat.reduceBEq, Int.reduceToNat, Int.reduceLE, Int.reduceLT, Int.reduceGT, cond_true, cond_false, Bool.true_and, Bool.false_and, Bool.and_false, Bool.and_true, Bool.true_or, Bool.false_or, Bool.or_false, Bool.or_true, Bool.not_true, Bool.not_false] <;> first | grind | (clear hr; generalize x.rep = b; clear e x; cases b <;> (revert hk; revert k; decide))
theorem set_22 (x : Ins) (e : x.op = 22) (k : Nat) (hk : k < 32) (hr : x.rep = true → x.op = 42 ∨ x.op = 43) : ownWB x k = (decide ((k : Int) < 16) && x.wsw (k : Int)) ∧ ownRB x k = (decide ((k : Int) < 16) && x.rsw (k : Int)) ∧ changesB x.op = !inL x.op [8, 9, 14, 20, 21, 22, 23, 37, 38] ∧ x.fresh = !(!inL x.op [15] && !(decide (x.w ≥ 4) && inL x.op [10, 11, 12, 13, 25])) ∧ (x.op == 31 || x.op == 33) = (inL x.op [31] || inL x.op [33]) := by
  refine ⟨?_, ?_, ?_, ?_, ?_⟩ <;> simp only [Ins.wsw, Ins.rsw, ownWB, ownRB, inS_eq, halfB, wideB, strRB, strWB, changesB, Ins.fresh, inL, e, bne, List.contains_cons, List.contains_nil] <;> simp (decide := true) only [e, List.contains_cons, List.contains_nil, dT, dF, Int.reduceBEq, Nat.reduceBEq, Int.reduceToNat, Int.reduceLE, Int.reduceLT, Int.reduceGT, cond_true, cond_false, Bool.true_and, Bool.false_and, Bool.and_false, Bool.and_true, Bool.true_or, Bool.false_or, Bool.or_false, Bool.or_true, Bool.not_true, Bool.not_false] <;> first | grind | (clear hr; generalize x.rep = b; clear e x; cases b <;> (revert hk; revert k; decide))
theorem set_23 (x : Ins) (e : x.op = 23) (k : Nat) (hk : k < 32) (hr : x.rep = true → x.op = 42 ∨ x.op = 43) : ownWB x k = (decide ((k : Int) < 16) && x.wsw (k : Int)) ∧ ownRB x k = (decide ((k : Int) < 16) && x.rsw (k : Int)) ∧ changesB x.op = !inL x.op [8, 9, 14, 20, 21, 22, 23, 37, 38] ∧ x.fresh = !(!inL x.op [15] && !(decide (x.w ≥ 4) && inL x.op [10, 11, 12, 13, 25])) ∧ (x.op == 31 || x.op == 33) = (inL x.op [31] || inL x.op [33]) := by
  refine ⟨?_, ?_, ?_, ?_, ?_⟩ <;> simp only [Ins.wsw, Ins.rsw, ownWB, ownRB, inS_eq, halfB, wideB, strRB, strWB, changesB, Ins.fresh, inL, e, bne, List.contains_cons, List.contains_nil] <;> simp (decide := true) only [e, List.contains_cons, List.contains_nil, dT, dF, Int.reduceBEq, Nat.reduceBEq, Int.reduceToNat, Int.reduceLE, Int.reduceLT, Int.reduceGT, cond_true, cond_false, Bool.true_and, Bool.false_and, Bool.and_false, Bool.and_true, Bool.true_or, Bool.false_or, Bool.or_false, Bool.or_true, Bool.not_true, Bool.not_false] <;> first | grind | (clear hr; generalize x.rep = b; clear e x; cases b <;> (revert hk; revert k; decide))
theorem set_24 (x : Ins) (e : x.op = 24) (k : Nat) (hk : k < 32) (hr : x.rep = true → x.op = 42 ∨ x.op = 43) : ownWB x k = (decide ((k : Int) < 16) && x.wsw (k : Int)) ∧ ownRB x k = (decide ((k : Int) < 16) && x.rsw (k : Int)) ∧ changesB x.op = !inL x.op [8, 9, 14, 20, 21, 22, 23, 37, 38] ∧ x.fresh = !(!inL x.op [15] && !(decide (x.w ≥ 4) && inL x.op [10, 11, 12, 13, 25])) ∧ (x.op == 31 || x.op == 33) = (inL x.op [31] || inL x.op [33]) := by
  refine ⟨?_, ?_, ?_, ?_, ?_⟩ <;> simp only [Ins.wsw, Ins.rsw, ownWB, ownRB, inS_eq, halfB, wideB, strRB, strWB, changesB, Ins.fresh, inL, e, bne, List.contains_cons, List.contains_nil] <;> simp (decide := true) only [e, List.contains_cons, List.contains_nil, dT, dF, Int.reduceBEq, Nat.reduceBEq, Int.reduceToNat, Int.reduceLE, Int.reduceLT, Int.reduceGT, cond_true, cond_false, Bool.true_and, Bool.false_and, Bool.and_false, Bool.and_true, Bool.true_or, Bool.false_or, Bool.or_false, Bool.or_true, Bool.not_true, Bool.not_false] <;> first | grind | (clear hr; generalize x.rep = b; clear e x; cases b <;> (revert hk; revert k; decide))
theorem set_25 (x : Ins) (e : x.op = 25) (k : Nat) (hk : k < 32) (hr : x.rep = true → x.op = 42 ∨ x.op = 43) : ownWB x k = (decide ((k : Int) < 16) && x.wsw (k : Int)) ∧ ownRB x k = (decide ((k : Int) < 16) && x.rsw (k : Int)) ∧ changesB x.op = !inL x.op [8, 9, 14, 20, 21, 22, 23, 37, 38] ∧ x.fresh = !(!inL x.op [15] && !(decide (x.w ≥ 4) && inL x.op [10, 11, 12, 13, 25])) ∧ (x.op == 31 || x.op == 33) = (inL x.op [31] || inL x.op [33]) := by
  refine ⟨?_, ?_, ?_, ?_, ?_⟩ <;> simp only [Ins.wsw, Ins.rsw, ownWB, ownRB, inS_eq, halfB, wideB, strRB, strWB, changesB, Ins.fresh, inL, e, bne, List.contains_cons, List.contains_nil] <;> simp (decide := true) only [e, List.contains_cons, List.contains_nil, dT, dF, Int.reduceBEq, Nat.reduceBEq, Int.reduceToNat, Int.reduceLE, Int.reduceLT, Int.reduceGT, cond_true, cond_false, Bool.true_and, Bool.false_and, Bool.and_false, Bool.and_true, Bool.true_or, Bool.false_or, Bool.or_false, Bool.or_true, Bool.not_true, Bool.not_false] <;> first | grind | (clear hr; generalize x.rep = b; clear e x; cases b <;> (revert hk; revert k; decide))
theorem set_26 (x : Ins) (e : x.op = 26) (k : Nat) (hk : k < 32) (hr : x.rep = true → x.op = 42 ∨ x.op = 43) : ownWB x k = (decide ((k : Int) < 16) && x.wsw (k : Int)) ∧ ownRB x k = (decide ((k : Int) < 16) && x.rsw (k : Int)) ∧ changesB x.op = !inL x.op [8, 9, 14, 20, 21, 22, 23, 37, 38] ∧ x.fresh = !(!inL x.op [15] && !(decide (x.w ≥ 4) && inL x.op [10, 11, 12, 13, 25])) ∧ (x.op == 31 || x.op == 33) = (inL x.op [31] || inL x.op [33]) := by
  refine ⟨?_, ?_, ?_, ?_, ?_⟩ <;> simp only [Ins.wsw, Ins.rsw, ownWB, ownRB, inS_eq, halfB, wideB, strRB, strWB, changesB, Ins.fresh, inL, e, bne, List.contains_cons, List.contains_nil] <;> simp (decide := true) only [e, List.contains_cons, List.contains_nil, dT, dF, Int.reduceBEq, Nat.reduceBEq, Int.reduceToNat, Int.reduceLE, Int.reduceLT, Int.reduceGT, cond_true, cond_false, Bool.true_and, Bool.false_and, Bool.and_false, Bool.and_true, Bool.true_or, Bool.false_or, Bool.or_false, Bool.or_true, Bool.not_true, Bool.not_false] <;> first | grind | (clear hr; generalize x.rep = b; clear e x; cases b <;> (revert hk; revert k; decide))
theorem set_27 (x : Ins) (e : x.op = 27) (k : Nat) (hk : k < 32) (hr : x.rep = true → x.op = 42 ∨ x.op = 43) : ownWB x k = (decide ((k : Int) < 16) && x.wsw (k : Int)) ∧ ownRB x k = (decide ((k : Int) < 16) && x.rsw (k : Int)) ∧ changesB x.op = !inL x.op [8, 9, 14, 20, 21, 22, 23, 37, 38] ∧ x.fresh = !(!inL x.op [15] && !(decide (x.w ≥ 4) && inL x.op [10, 11, 12, 13, 25])) ∧ (x.op == 31 || x.op == 33) = (inL x.op [31] || inL x.op [33]) := by
  refine ⟨?_, ?_, ?_, ?_, ?_⟩ <;> simp only [Ins.wsw, Ins.rsw, ownWB, ownRB, inS_eq, halfB, wideB, strRB, strWB, changesB, Ins.fresh, inL, e, bne, List.contains_cons, List.contains_nil] <;> simp (decide := true) only [e, List.contains_cons, List.contains_nil, dT, dF, Int.reduceBEq, Nat.reduceBEq, Int.reduceToNat, Int.reduceLE, Int.reduceLT, Int.reduceGT, cond_true, cond_false, Bool.true_and, Bool.false_and, Bool.and_false, Bool.and_true, Bool.true_or, Bool.false_or, Bool.or_false, Bool.or_true, Bool.not_true, Bool.not_false] <;> first | grind | (clear hr; generalize x.rep = b; clear e x; cases b <;> (revert hk; revert k; decide))
theorem set_28 (x : Ins) (e : x.op = 28) (k : Nat) (hk : k < 32) (hr : x.rep = true → x.op = 42 ∨ x.op = 43) : ownWB x k = (decide ((k : Int) < 16) && x.wsw (k : Int)) ∧ ownRB x k = (decide ((k : Int) < 16) && x.rsw (k : Int)) ∧ changesB x.op = !inL x.op [8, 9, 14, 20, 21, 22, 23, 37, 38] ∧ x.fresh = !(!inL x.op [15] && !(decide (x.w ≥ 4) && inL x.op [10, 11, 12, 13, 25])) ∧ (x.op == 31 || x.op == 33) = (inL x.op [31] || inL x.op [33]) := by
  refine ⟨?_, ?_, ?_, ?_, ?_⟩ <;> simp only [Ins.wsw, Ins.rsw, ownWB, ownRB, inS_eq, halfB, wideB, strRB, strWB, changesB, Ins.fresh, inL, e, bne, List.contains_cons, List.contains_nil] <;> simp (decide := true) only [e, List.contains_cons, List.contains_nil, dT, dF, Int.reduceBEq, Nat.reduceBEq, Int.reduceToNat, Int.reduceLE, Int.reduceLT, Int.reduceGT, cond_true, cond_false, Bool.true_and, Bool.false_and, Bool.and_false, Bool.and_true, Bool.true_or, Bool.false_or, Bool.or_false, Bool.or_true, Bool.not_true, Bool.not_false] <;> first | grind | (clear hr; generalize x.rep = b; clear e x; cases b <;> (revert hk; revert k; decide))
theorem set_29 (x : Ins) (e : x.op = 29) (k : Nat) (hk : k < 32) (hr : x.rep = true → x.op = 42 ∨ x.op = 43) : ownWB x k = (decide ((k : Int) < 16) && x.wsw (k : Int)) ∧ ownRB x k = (decide ((k : Int) < 16) && x.rsw (k : Int)) ∧ changesB x.op = !inL x.op [8, 9, 14, 20, 21, 22, 23, 37, 38] ∧ x.fresh = !(!inL x.op [15] && !(decide (x.w ≥ 4) && inL x.op [10, 11, 12, 13, 25])) ∧ (x.op == 31 || x.op == 33) = (inL x.op [31] || inL x.op [33]) := by
  refine ⟨?_, ?_, ?_, ?_, ?_⟩ <;> simp only [Ins.wsw, Ins.rsw, ownWB, ownRB, inS_eq, halfB, wideB, strRB, strWB, changesB, Ins.fresh, inL, e, bne, List.contains_cons, List.contains_nil] <;> simp (decide := true) only [e, List.contains_cons, List.contains_nil, dT, dF, Int.reduceBEq, Nat.reduceBEq, Int.reduceToNat, Int.reduceLE, Int.reduceLT, Int.reduceGT, cond_true, cond_false, Bool.true_and, Bool.false_and, Bool.and_false, Bool.and_true, Bool.true_or, Bool.false_or, Bool.or_false, Bool.or_true, Bool.not_true, Bool.not_false] <;> first | grind | (clear hr; generalize x.rep = b; clear e x; cases b <;> (revert hk; revert k; decide))
theorem set_30 (x : Ins) (e : x.op = 30) (k : Nat) (hk : k < 32) (hr : x.rep = true → x.op = 42 ∨ x.op = 43) : ownWB x k = (decide ((k : Int) < 16) && x.wsw (k : Int)) ∧ ownRB x k = (decide ((k : Int) < 16) && x.rsw (k : Int)) ∧ changesB x.op = !inL x.op [8, 9, 14, 20, 21, 22, 23, 37, 38] ∧ x.fresh = !(!inL x.op [15] && !(decide (x.w ≥ 4) && inL x.op [10, 11, 12, 13, 25])) ∧ (x.op == 31 || x.op == 33) = (inL x.op [31] || inL x.op [33]) := by
  refine ⟨?_, ?_, ?_, ?_, ?_⟩ <;> simp only [Ins.wsw, Ins.rsw, ownWB, ownRB, inS_eq, halfB, wideB, strRB, strWB, changesB, Ins.fresh, inL, e, bne, List.contains_cons, List.contains_nil] <;> simp (decide := true) only [e, List.contains_cons, List.contains_nil, dT, dF, Int.reduceBEq, Nat.reduceBEq, Int.reduceToNat, Int.reduceLE, Int.reduceLT, Int.reduceGT, cond_true, cond_false, Bool.true_and, Bool.false_and, Bool.and_false, Bool.and_true, Bool.true_or, Bool.false_or, Bool.or_false, Bool.or_true, Bool.not_true, Bool.not_false] <;> first | grind | (clear hr; generalize x.rep = b; clear e x; cases b <;> (revert hk; revert k; decide))
theorem set_31 (x : Ins) (e : x.op = 31) (k : Nat) (hk : k < 32) (hr : x.rep = true → x.op = 42 ∨ x.op = 43) : ownWB x k = (decide ((k : Int) < 16) && x.wsw (k : Int)) ∧ ownRB x k = (decide ((k : Int) < 16) && x.rsw (k : Int)) ∧ changesB x.op = !inL x.op [8, 9, 14, 20, 21, 22, 23, 37, 38] ∧ x.fresh = !(!inL x.op [15] && !(decide (x.w ≥ 4) && inL x.op [10, 11, 12, 13, 25])) ∧ (x.op == 31 || x.op == 33) = (inL x.op [31] || inL x.op [33]) := by
  refine ⟨?_, ?_, ?_, ?_, ?_⟩ <;> simp only [Ins.wsw, Ins.rsw, ownWB, ownRB, inS_eq, halfB, wideB, strRB, strWB, changesB, Ins.fresh, inL, e, bne, List.contains_cons, List.contains_nil] <;> simp (decide := true) only [e, List.contains_cons, List.contains_nil, dT, dF, Int.reduceBEq, Nat.reduceBEq, Int.reduceToNat, Int.reduceLE, Int.reduceLT, Int.reduceGT, cond_true, cond_false, Bool.true_and, Bool.false_and, Bool.and_false, Bool.and_true, Bool.true_or, Bool.false_or, Bool.or_false, Bool.or_true, Bool.not_true, Bool.not_false] <;> first | grind | (clear hr; generalize x.rep = b; clear e x; cases b <;> (revert hk; revert k; decide))
theorem set_32 (x : Ins) (e : x.op = 32) (k : Nat) (hk : k < 32) (hr : x.rep = true → x.op = 42 ∨ x.op = 43) : ownWB x k = (decide ((k : Int) < 16) && x.wsw (k : Int)) ∧ ownRB x k = (decide ((k : Int) < 16) && x.rsw (k : Int)) ∧ changesB x.op = !inL x.op [8, 9, 14, 20, 21, 22, 23, 37, 38] ∧ x.fresh = !(!inL x.op [15] && !(decide (x.w ≥ 4) && inL x.op [10, 11, 12, 13, 25])) ∧ (x.op == 31 || x.op == 33) = (inL x.op [31] || inL x.op [33]) := by
  refine ⟨?_, ?_, ?_, ?_, ?_⟩ <;> simp only [Ins.wsw, Ins.rsw, ownWB, ownRB, inS_eq, halfB, wideB, strRB, strWB, changesB, Ins.fresh, inL, e, bne, List.contains_cons, List.contains_nil] <;> simp (decide := true) only [e, List.contains_cons, List.contains_nil, dT, dF, Int.reduceBEq, Nat.reduceBEq, Int.reduceToNat, Int.reduceLE, Int.reduceLT, Int.reduceGT, cond_true, cond_false, Bool.true_and, Bool.false_and, Bool.and_false, Bool.and_true, Bool.true_or, Bool.false_or, Bool.or_false, Bool.or_true, Bool.not_true, Bool.not_false] <;> first | grind | (clear hr; generalize x.rep = b; clear e x; cases b <;> (revert hk; revert k; decide))
theorem set_33 (x : Ins) (e : x.op = 33) (k : Nat) (hk : k < 32) (hr : x.rep = true → x.op = 42 ∨ x.op = 43) : ownWB x k = (decide ((k : Int) < 16) && x.wsw (k : Int)) ∧ ownRB x k = (decide ((k : Int) < 16) && x.rsw (k : Int)) ∧ changesB x.op = !inL x.op [8, 9, 14, 20, 21, 22, 23, 37, 38] ∧ x.fresh = !(!inL x.op [15] && !(decide (x.w ≥ 4) && inL x.op [10, 11, 12, 13, 25])) ∧ (x.op == 31 || x.op == 33) = (inL x.op [31] || inL x.op [33]) := by
  refine ⟨?_, ?_, ?_, ?_, ?_⟩ <;> simp only [Ins.wsw, Ins.rsw, ownWB, ownRB, inS_eq, halfB, wideB, strRB, strWB, changesB, Ins.fresh, inL, e, bne, List.contains_cons, List.contains_nil] <;> simp (decide := true) only [e, List.contains_cons, List.contains_nil, dT, dF, Int.reduceBEq, Nat.reduceBEq, Int.reduceToNat, Int.reduceLE, Int.reduceLT, Int.reduceGT, cond_true, cond_false, Bool.true_and, Bool.false_and, Bool.and_false, Bool.and_true, Bool.true_or, Bool.false_or, Bool.or_false, Bool.or_true, Bool.not_true, Bool.not_false] <;> first | grind | (clear hr; generalize x.rep = b; clear e x; cases b <;> (revert hk; revert k; decide))
theorem set_34 (x : Ins) (e : x.op = 34) (k : Nat) (hk : k < 32) (hr : x.rep = true → x.op = 42 ∨ x.op = 43) : ownWB x k = (decide ((k : Int) < 16) && x.wsw (k : Int)) ∧ ownRB x k = (decide ((k : Int) < 16) && x.rsw (k : Int)) ∧ changesB x.op = !inL x.op [8, 9, 14, 20, 21, 22, 23, 37, 38] ∧ x.fresh = !(!inL x.op [15] && !(decide (x.w ≥ 4) && inL x.op [10, 11, 12, 13, 25])) ∧ (x.op == 31 || x.op == 33) = (inL x.op [31] || inL x.op [33]) := by
  refine ⟨?_, ?_, ?_, ?_, ?_⟩ <;> simp only [Ins.wsw, Ins.rsw, ownWB, ownRB, inS_eq, halfB, wideB, strRB, strWB, changesB, Ins.fresh, inL, e, bne, List.contains_cons, List.contains_nil] <;> simp (decide := true) only [e, List.contains_cons, List.contains_nil, dT, dF, Int.reduceBEq, Nat.reduceBEq, Int.reduceToNat, Int.reduceLE, Int.reduceLT, Int.reduceGT, cond_true, cond_false, Bool.true_and, Bool.false_and, Bool.and_false, Bool.and_true, Bool.true_or, Bool.false_or, Bool.or_false, Bool.or_true, Bool.not_true, Bool.not_false] <;> first | grind | (clear hr; generalize x.rep = b; clear e x; cases b <;> (revert hk; revert k; decide))
theorem set_35 (x : Ins) (e : x.op = 35) (k : Nat) (hk : k < 32) (hr : x.rep = true → x.op = 42 ∨ x.op = 43) : ownWB x k = (decide ((k : Int) < 16) && x.wsw (k : Int)) ∧ ownRB x k = (decide ((k : Int) < 16) && x.rsw (k : Int)) ∧ changesB x.op = !inL x.op [8, 9, 14, 20, 21, 22, 23, 37, 38] ∧ x.fresh = !(!inL x.op [15] && !(decide (x.w ≥ 4) && inL x.op [10, 11, 12, 13, 25])) ∧ (x.op == 31 || x.op == 33) = (inL x.op [31] || inL x.op [33]) := by
  refine ⟨?_, ?_, ?_, ?_, ?_⟩ <;> simp only [Ins.wsw, Ins.rsw, ownWB, ownRB, inS_eq, halfB, wideB, strRB, strWB, changesB, Ins.fresh, inL, e, bne, List.contains_cons, List.contains_nil] <;> simp (decide := true) only [e, List.contains_cons, List.contains_nil, dT, dF, Int.reduceBEq, Nat.reduceBEq, Int.reduceToNat, Int.reduceLE, Int.reduceLT, Int.reduceGT, cond_true, cond_false, Bool.true_and, Bool.false_and, Bool.and_false, Bool.and_true, Bool.true_or, Bool.false_or, Bool.or_false, Bool.or_true, Bool.not_true, Bool.not_false] <;> first | grind | (clear hr; generalize x.rep = b; clear e x; cases b <;> (revert hk; revert k; decide))
theorem set_36 (x : Ins) (e : x.op = 36) (k : Nat) (hk : k < 32) (hr : x.rep = true → x.op = 42 ∨ x.op = 43) : ownWB x k = (decide ((k : Int) < 16) && x.wsw (k : Int)) ∧ ownRB x k = (decide ((k : Int) < 16) && x.rsw (k : Int)) ∧ changesB x.op = !inL x.op [8, 9, 14, 20, 21, 22, 23, 37, 38] ∧ x.fresh = !(!inL x.op [15] && !(decide (x.w ≥ 4) && inL x.op [10, 11, 12, 13, 25])) ∧ (x.op == 31 || x.op == 33) = (inL x.op [31] || inL x.op [33]) := by
  refine ⟨?_, ?_, ?_, ?_, ?_⟩ <;> simp only [Ins.wsw, Ins.rsw, ownWB, ownRB, inS_eq, halfB, wideB, strRB, strWB, changesB, Ins.fresh, inL, e, bne, List.contains_cons, List.contains_nil] <;> simp (decide := true) only [e, List.contains_cons, List.contains_nil, dT, dF, Int.reduceBEq, Nat.reduceBEq, Int.reduceToNat, Int.reduceLE, Int.reduceLT, Int.reduceGT, cond_true, cond_false, Bool.true_and, Bool.false_and, Bool.and_false, Bool.and_true, Bool.true_or, Bool.false_or, Bool.or_false, Bool.or_true, Bool.not_true, Bool.not_false] <;> first | grind | (clear hr; generalize x.rep = b; clear e x; cases b <;> (revert hk; revert k; decide))
theorem set_37 (x : Ins) (e : x.op = 37) (k : Nat) (hk : k < 32) (hr : x.rep = true → x.op = 42 ∨ x.op = 43) : ownWB x k = (decide ((k : Int) < 16) && x.wsw (k : Int)) ∧ ownRB x k = (decide ((k : Int) < 16) && x.rsw (k : Int)) ∧ changesB x.op = !inL x.op [8, 9, 14, 20, 21, 22, 23, 37, 38] ∧ x.fresh = !(!inL x.op [15] && !(decide (x.w ≥ 4) && inL x.op [10, 11, 12, 13, 25])) ∧ (x.op == 31 || x.op == 33) = (inL x.op [31] || inL x.op [33]) := by
  refine ⟨?_, ?_, ?_, ?_, ?_⟩ <;> simp only [Ins.wsw, Ins.rsw, ownWB, ownRB, inS_eq, halfB, wideB, strRB, strWB, changesB, Ins.fresh, inL, e, bne, List.contains_cons, List.contains_nil] <;> simp (decide := true) only [e, List.contains_cons, List.contains_nil, dT, dF, Int.reduceBEq, Nat.reduceBEq, Int.reduceToNat, Int.reduceLE, Int.reduceLT, Int.reduceGT, cond_true, cond_false, Bool.true_and, Bool.false_and, Bool.and_false, Bool.and_true, Bool.true_or, Bool.false_or, Bool.or_false, Bool.or_true, Bool.not_true, Bool.not_false] <;> first | grind | (clear hr; generalize x.rep = b; clear e x; cases b <;> (revert hk; revert k; decide))
theorem set_38 (x : Ins) (e : x.op = 38) (k : Nat) (hk : k < 32) (hr : x.rep = true → x.op = 42 ∨ x.op = 43) : ownWB x k = (decide ((k : Int) < 16) && x.wsw (k : Int)) ∧ ownRB x k = (decide ((k : Int) < 16) && x.rsw (k : Int)) ∧ changesB x.op = !inL x.op [8, 9, 14, 20, 21, 22, 23, 37, 38] ∧ x.fresh = !(!inL x.op [15] && !(decide (x.w ≥ 4) && inL x.op [10, 11, 12, 13, 25])) ∧ (x.op == 31 || x.op == 33) = (inL x.op [31] || inL x.op [33]) := by
  refine ⟨?_, ?_, ?_, ?_, ?_⟩ <;> simp only [Ins.wsw, Ins.rsw, ownWB, ownRB, inS_eq, halfB, wideB, strRB, strWB, changesB, Ins.fresh, inL, e, bne, List.contains_cons, List.contains_nil] <;> simp (decide := true) only [e, List.contains_cons, List.contains_nil, dT, dF, Int.reduceBEq, Nat.reduceBEq, Int.reduceToNat, Int.reduceLE, Int.reduceLT, Int.reduceGT, cond_true, cond_false, Bool.true_and, Bool.false_and, Bool.and_false, Bool.and_true, Bool.true_or, Bool.false_or, Bool.or_false, Bool.or_true, Bool.not_true, Bool.not_false] <;> first | grind | (clear hr; generalize x.rep = b; clear e x; cases b <;> (revert hk; revert k; decide))
theorem set_39 (x : Ins) (e : x.op = 39) (k : Nat) (hk : k < 32) (hr : x.rep = true → x.op = 42 ∨ x.op = 43) : ownWB x k = (decide ((k : Int) < 16) && x.wsw (k : Int)) ∧ ownRB x k = (decide ((k : Int) < 16) && x.rsw (k : Int)) ∧ changesB x.op = !inL x.op [8, 9, 14, 20, 21, 22, 23, 37, 38] ∧ x.fresh = !(!inL x.op [15] && !(decide (x.w ≥ 4) && inL x.op [10, 11, 12, 13, 25])) ∧ (x.op == 31 || x.op == 33) = (inL x.op [31] || inL x.op [33]) := by
  refine ⟨?_, ?_, ?_, ?_, ?_⟩ <;> simp only [Ins.wsw, Ins.rsw, ownWB, ownRB, inS_eq, halfB, wideB, strRB, strWB, changesB, Ins.fresh, inL, e, bne, List.contains_cons, List.contains_nil] <;> simp (decide := true) only [e, List.contains_cons, List.contains_nil, dT, dF, Int.reduceBEq, Nat.reduceBEq, Int.reduceToNat, Int.reduceLE, Int.reduceLT, Int.reduceGT, cond_true, cond_false, Bool.true_and, Bool.false_and, Bool.and_false, Bool.and_true, Bool.true_or, Bool.false_or, Bool.or_false, Bool.or_true, Bool.not_true, Bool.not_false] <;> first | grind | (clear hr; generalize x.rep = b; clear e x; cases b <;> (revert hk; revert k; decide))
theorem set_40 (x : Ins) (e : x.op = 40) (k : Nat) (hk : k < 32) (hr : x.rep = true → x.op = 42 ∨ x.op = 43) : ownWB x k = (decide ((k : Int) < 16) && x.wsw (k : Int)) ∧ ownRB x k = (decide ((k : Int) < 16) && x.rsw (k : Int)) ∧ changesB x.op = !inL x.op [8, 9, 14, 20, 21, 22, 23, 37, 38] ∧ x.fresh = !(!inL x.op [15] && !(decide (x.w ≥ 4) && inL x.op [10, 11, 12, 13, 25])) ∧ (x.op == 31 || x.op == 33) = (inL x.op [31] || inL x.op [33]) := by
  refine ⟨?_, ?_, ?_, ?_, ?_⟩ <;> simp only [Ins.wsw, Ins.rsw, ownWB, ownRB, inS_eq, halfB, wideB, strRB, strWB, changesB, Ins.fresh, inL, e, bne, List.contains_cons, List.contains_nil] <;> simp (decide := true) only [e, List.contains_cons, List.contains_nil, dT, dF, Int.reduceBEq, Nat.reduceBEq, Int.reduceToNat, Int.reduceLE, Int.reduceLT, Int.reduceGT, cond_true, cond_false, Bool.true_and, Bool.false_and, Bool.and_false, Bool.and_true, Bool.true_or, Bool.false_or, Bool.or_false, Bool.or_true, Bool.not_true, Bool.not_false] <;> first | grind | (clear hr; generalize x.rep = b; clear e x; cases b <;> (revert hk; revert k; decide))
theorem set_41 (x : Ins) (e : x.op = 41) (k : Nat) (hk : k < 32) (hr : x.rep = true → x.op = 42 ∨ x.op = 43) : ownWB x k = (decide ((k : Int) < 16) && x.wsw (k : Int)) ∧ ownRB x k = (decide ((k : Int) < 16) && x.rsw (k : Int)) ∧ changesB x.op = !inL x.op [8, 9, 14, 20, 21, 22, 23, 37, 38] ∧ x.fresh = !(!inL x.op [15] && !(decide (x.w ≥ 4) && inL x.op [10, 11, 12, 13, 25])) ∧ (x.op == 31 || x.op == 33) = (inL x.op [31] || inL x.op [33]) := by
  refine ⟨?_, ?_, ?_, ?_, ?_⟩ <;> simp only [Ins.wsw, Ins.rsw, ownWB, ownRB, inS_eq, halfB, wideB, strRB, strWB, changesB, Ins.fresh, inL, e, bne, List.contains_cons, List.contains_nil] <;> simp (decide := true) only [e, List.contains_cons, List.contains_nil, dT, dF, Int.reduceBEq, Nat.reduceBEq, Int.reduceToNat, Int.reduceLE, Int.reduceLT, Int.reduceGT, cond_true, cond_false, Bool.true_and, Bool.false_and, Bool.and_false, Bool.and_true, Bool.true_or, Bool.false_or, Bool.or_false, Bool.or_true, Bool.not_true, Bool.not_false] <;> first | grind | (clear hr; generalize x.rep = b; clear e x; cases b <;> (revert hk; revert k; decide))
theorem set_42 (x : Ins) (e : x.op = 42) (k : Nat) (hk : k < 32) (hr : x.rep = true → x.op = 42 ∨ x.op = 43) : ownWB x k = (decide ((k : Int) < 16) && x.wsw (k : Int)) ∧ ownRB x k = (decide ((k : Int) < 16) && x.rsw (k : Int)) ∧ changesB x.op = !inL x.op [8, 9, 14, 20, 21, 22, 23, 37, 38] ∧ x.fresh = !(!inL x.op [15] && !(decide (x.w ≥ 4) && inL x.op [10, 11, 12, 13, 25])) ∧ (x.op == 31 || x.op == 33) = (inL x.op [31] || inL x.op [33]) := by
  refine ⟨?_, ?_, ?_, ?_, ?_⟩ <;> simp only [Ins.wsw, Ins.rsw, ownWB, ownRB, inS_eq, halfB, wideB, strRB, strWB, changesB, Ins.fresh, inL, e, bne, List.contains_cons, List.contains_nil] <;> simp (decide := true) only [e, List.contains_cons, List.contains_nil, dT, dF, Int.reduceBEq, Nat.reduceBEq, Int.reduceToNat, Int.reduceLE, Int.reduceLT, Int.reduceGT, cond_true, cond_false, Bool.true_and, Bool.false_and, Bool.and_false, Bool.and_true, Bool.true_or, Bool.false_or, Bool.or_false, Bool.or_true, Bool.not_true, Bool.not_false] <;> first | grind | (clear hr; generalize x.rep = b; clear e x; cases b <;> (revert hk; revert k; decide))
theorem set_43 (x : Ins) (e : x.op = 43) (k : Nat) (hk : k < 32) (hr : x.rep = true → x.op = 42 ∨ x.op = 43) : ownWB x k = (decide ((k : Int) < 16) && x.wsw (k : Int)) ∧ ownRB x k = (decide ((k : Int) < 16) && x.rsw (k : Int)) ∧ changesB x.op = !inL x.op [8, 9, 14, 20, 21, 22, 23, 37, 38] ∧ x.fresh = !(!inL x.op [15] && !(decide (x.w ≥ 4) && inL x.op [10, 11, 12, 13, 25])) ∧ (x.op == 31 || x.op == 33) = (inL x.op [31] || inL x.op [33]) := by
  refine ⟨?_, ?_, ?_, ?_, ?_⟩ <;> simp only [Ins.wsw, Ins.rsw, ownWB, ownRB, inS_eq, halfB, wideB, strRB, strWB, changesB, Ins.fresh, inL, e, bne, List.contains_cons, List.contains_nil] <;> simp (decide := true) only [e, List.contains_cons, List.contains_nil, dT, dF, Int.reduceBEq, Nat.reduceBEq, Int.reduceToNat, Int.reduceLE, Int.reduceLT, Int.reduceGT, cond_true, cond_false, Bool.true_and, Bool.false_and, Bool.and_false, Bool.and_true, Bool.true_or, Bool.false_or, Bool.or_false, Bool.or_true, Bool.not_true, Bool.not_false] <;> first | grind | (clear hr; generalize x.rep = b; clear e x; cases b <;> (revert hk; revert k; decide))
theorem set_44 (x : Ins) (e : x.op = 44) (k : Nat) (hk : k < 32) (hr : x.rep = true → x.op = 42 ∨ x.op = 43) : ownWB x k = (decide ((k : Int) < 16) && x.wsw (k : Int)) ∧ ownRB x k = (decide ((k : Int) < 16) && x.rsw (k : Int)) ∧ changesB x.op = !inL x.op [8, 9, 14, 20, 21, 22, 23, 37, 38] ∧ x.fresh = !(!inL x.op [15] && !(decide (x.w ≥ 4) && inL x.op [10, 11, 12, 13, 25])) ∧ (x.op == 31 || x.op == 33) = (inL x.op [31] || inL x.op [33]) := by
  refine ⟨?_, ?_, ?_, ?_, ?_⟩ <;> simp only [Ins.wsw, Ins.rsw, ownWB, ownRB, inS_eq, halfB, wideB, strRB, strWB, changesB, Ins.fresh, inL, e, bne, List.contains_cons, List.contains_nil] <;> simp (decide := true) only [e, List.contains_cons, List.contains_nil, dT, dF, Int.reduceBEq, Nat.reduceBEq, Int.reduceToNat, Int.reduceLE, Int.reduceLT, Int.reduceGT, cond_true, cond_false, Bool.true_and, Bool.false_and, Bool.and_false, Bool.and_true, Bool.true_or, Bool.false_or, Bool.or_false, Bool.or_true, Bool.not_true, Bool.not_false] <;> first | grind | (clear hr; generalize x.rep = b; clear e x; cases b <;> (revert hk; revert k; decide))
theorem set_45 (x : Ins) (e : x.op = 45) (k : Nat) (hk : k < 32) (hr : x.rep = true → x.op = 42 ∨ x.op = 43) : ownWB x k = (decide ((k : Int) < 16) && x.wsw (k : Int)) ∧ ownRB x k = (decide ((k : Int) < 16) && x.rsw (k : Int)) ∧ changesB x.op = !inL x.op [8, 9, 14, 20, 21, 22, 23, 37, 38] ∧ x.fresh = !(!inL x.op [15] && !(decide (x.w ≥ 4) && inL x.op [10, 11, 12, 13, 25])) ∧ (x.op == 31 || x.op == 33) = (inL x.op [31] || inL x.op [33]) := by
  refine ⟨?_, ?_, ?_, ?_, ?_⟩ <;> simp only [Ins.wsw, Ins.rsw, ownWB, ownRB, inS_eq, halfB, wideB, strRB, strWB, changesB, Ins.fresh, inL, e, bne, List.contains_cons, List.contains_nil] <;> simp (decide := true) only [e, List.contains_cons, List.contains_nil, dT, dF, Int.reduceBEq, Nat.reduceBEq, Int.reduceToNat, Int.reduceLE, Int.reduceLT, Int.reduceGT, cond_true, cond_false, Bool.true_and, Bool.false_and, Bool.and_false, Bool.and_true, Bool.true_or, Bool.false_or, Bool.or_false, Bool.or_true, Bool.not_true, Bool.not_false] <;> first | grind | (clear hr; generalize x.rep = b; clear e x; cases b <;> (revert hk; revert k; decide))
theorem set_46 (x : Ins) (e : x.op = 46) (k : Nat) (hk : k < 32) (hr : x.rep = true → x.op = 42 ∨ x.op = 43) : ownWB x k = (decide ((k : Int) < 16) && x.wsw (k : Int)) ∧ ownRB x k = (decide ((k : Int) < 16) && x.rsw (k : Int)) ∧ changesB x.op = !inL x.op [8, 9, 14, 20, 21, 22, 23, 37, 38] ∧ x.fresh = !(!inL x.op [15] && !(decide (x.w ≥ 4) && inL x.op [10, 11, 12, 13, 25])) ∧ (x.op == 31 || x.op == 33) = (inL x.op [31] || inL x.op [33]) := by
  refine ⟨?_, ?_, ?_, ?_, ?_⟩ <;> simp only [Ins.wsw, Ins.rsw, ownWB, ownRB, inS_eq, halfB, wideB, strRB, strWB, changesB, Ins.fresh, inL, e, bne, List.contains_cons, List.contains_nil] <;> simp (decide := true) only [e, List.contains_cons, List.contains_nil, dT, dF, Int.reduceBEq, Nat.reduceBEq, Int.reduceToNat, Int.reduceLE, Int.reduceLT, Int.reduceGT, cond_true, cond_false, Bool.true_and, Bool.false_and, Bool.and_false, Bool.and_true, Bool.true_or, Bool.false_or, Bool.or_false, Bool.or_true, Bool.not_true, Bool.not_false] <;> first | grind | (clear hr; generalize x.rep = b; clear e x; cases b <;> (revert hk; revert k; decide))
theorem set_47 (x : Ins) (e : x.op = 47) (k : Nat) (hk : k < 32) (hr : x.rep = true → x.op = 42 ∨ x.op = 43) : ownWB x k = (decide ((k : Int) < 16) && x.wsw (k : Int)) ∧ ownRB x k = (decide ((k : Int) < 16) && x.rsw (k : Int)) ∧ changesB x.op = !inL x.op [8, 9, 14, 20, 21, 22, 23, 37, 38] ∧ x.fresh = !(!inL x.op [15] && !(decide (x.w ≥ 4) && inL x.op [10, 11, 12, 13, 25])) ∧ (x.op == 31 || x.op == 33) = (inL x.op [31] || inL x.op [33]) := by
  refine ⟨?_, ?_, ?_, ?_, ?_⟩ <;> simp only [Ins.wsw, Ins.rsw, ownWB, ownRB, inS_eq, halfB, wideB, strRB, strWB, changesB, Ins.fresh, inL, e, bne, List.contains_cons, List.contains_nil] <;> simp (decide := true) only [e, List.contains_cons, List.contains_nil, dT, dF, Int.reduceBEq, Nat.reduceBEq, Int.reduceToNat, Int.reduceLE, Int.reduceLT, Int.reduceGT, cond_true, cond_false, Bool.true_and, Bool.false_and, Bool.and_false, Bool.and_true, Bool.true_or, Bool.false_or, Bool.or_false, Bool.or_true, Bool.not_true, Bool.not_false] <;> first | grind | (clear hr; generalize x.rep = b; clear e x; cases b <;> (revert hk; revert k; decide))
theorem set_all (x : Ins) (h1 : 1 ≤ x.op) (h2 : x.op ≤ 47) (k : Nat) (hk : k < 32) (hr : x.rep = true → x.op = 42 ∨ x.op = 43) : ownWB x k = (decide ((k : Int) < 16) && x.wsw (k : Int)) ∧ ownRB x k = (decide ((k : Int) < 16) && x.rsw (k : Int)) ∧ changesB x.op = !inL x.op [8, 9, 14, 20, 21, 22, 23, 37, 38] ∧ x.fresh = !(!inL x.op [15] && !(decide (x.w ≥ 4) && inL x.op [10, 11, 12, 13, 25])) ∧ (x.op == 31 || x.op == 33) = (inL x.op [31] || inL x.op [33]) := by
  have : x.op = 1 ∨ x.op = 2 ∨ x.op = 3 ∨ x.op = 4 ∨ x.op = 5 ∨ x.op = 6 ∨ x.op = 7 ∨ x.op = 8 ∨ x.op = 9 ∨ x.op = 10 ∨ x.op = 11 ∨ x.op = 12 ∨ x.op = 13 ∨ x.op = 14 ∨ x.op = 15 ∨ x.op = 16 ∨ x.op = 17 ∨ x.op = 18 ∨ x.op = 19 ∨ x.op = 20 ∨ x.op = 21 ∨ x.op = 22 ∨ x.op = 23 ∨ x.op = 24 ∨ x.op = 25 ∨ x.op = 26 ∨ x.op = 27 ∨ x.op = 28 ∨ x.op = 29 ∨ x.op = 30 ∨ x.op = 31 ∨ x.op = 32 ∨ x.op = 33 ∨ x.op = 34 ∨ x.op = 35 ∨ x.op = 36 ∨ x.op = 37 ∨ x.op = 38 ∨ x.op = 39 ∨ x.op = 40 ∨ x.op = 41 ∨ x.op = 42 ∨ x.op = 43 ∨ x.op = 44 ∨ x.op = 45 ∨ x.op = 46 ∨ x.op = 47 := by omega
  rcases this with e | e | e | e | e | e | e | e | e | e | e | e | e | e | e | e | e | e | e | e | e | e | e | e | e | e | e | e | e | e | e | e | e | e | e | e | e | e | e | e | e | e | e | e | e | e | e
  · exact set_1 x e k hk hr
  · exact set_2 x e k hk hr
  · exact set_3 x e k hk hr
  · exact set_4 x e k hk hr
  · exact set_5 x e k hk hr
  · exact set_6 x e k hk hr
  · exact set_7 x e k hk hr
  · exact set_8 x e k hk hr
  · exact set_9 x e k hk hr
  · exact set_10 x e k hk hr
  · exact set_11 x e k hk hr
  · exact set_12 x e k hk hr
  · exact set_13 x e k hk hr
  · exact set_14 x e k hk hr
  · exact set_15 x e k hk hr
  · exact set_16 x e k hk hr
  · exact set_17 x e k hk hr
  · exact set_18 x e k hk hr
  · exact set_19 x e k hk hr
  · exact set_20 x e k hk hr
  · exact set_21 x e k hk hr
  · exact set_22 x e k hk hr
  · exact set_23 x e k hk hr
  · exact set_24 x e k hk hr
  · exact set_25 x e k hk hr
  · exact set_26 x e k hk hr
  · exact set_27 x e k hk hr
  · exact set_28 x e k hk hr
  · exact set_29 x e k hk hr
  · exact set_30 x e k hk hr
  · exact set_31 x e k hk hr
  · exact set_32 x e k hk hr
  · exact set_33 x e k hk hr
  · exact set_34 x e k hk hr
  · exact set_35 x e k hk hr
  · exact set_36 x e k hk hr
  · exact set_37 x e k hk hr
  · exact set_38 x e k hk hr
  · exact set_39 x e k hk hr
  · exact set_40 x e k hk hr
  · exact set_41 x e k hk hr
  · exact set_42 x e k hk hr
  · exact set_43 x e k hk hr
  · exact set_44 x e k hk hr
  · exact set_45 x e k hk hr
  · exact set_46 x e k hk hr
  · exact set_47 x e k hk hr
theorem reg_e (o : Od) (k : Nat) : regB o k = (decide ((k : Int) < 16) && (o.k == 1 && o.r == (k : Int))) := by
  unfold regB
  rw [inS_eq, List.contains_cons, List.contains_nil, Bool.or_false, beq_k]
  cases o.k == 1 <;> cases decide ((k : Int) < 16) <;> rfl
theorem adr_e (o : Od) (k : Nat) : adrB o k = (decide ((k : Int) < 16) && (o.k == 2 && (o.b == (k : Int) || o.i == (k : Int)))) := by
  unfold adrB
  rw [inS_eq, List.contains_cons, List.contains_cons, List.contains_nil, Bool.or_false, beq_k, beq_k]
  cases o.k == 2 <;> cases decide ((k : Int) < 16) <;> rfl
theorem rep_of (x : Ins) (h : x.rmay = true) : x.rep = true → x.op = 42 ∨ x.op = 43 := by
  intro hr
  unfold Ins.rmay at h
  simp only [Bool.and_eq_true, hr, Bool.not_true, Bool.false_or] at h
  have := h.2.2.2.2.2.2.2.2.2
  simp [inL] at this
  omega
theorem wr_bits (x : Ins) (h : x.may = true) (hw : x.Wf) (k : Nat) (hk : k < 32) : tb x.pw (k : Int) = (decide ((k : Int) < 16) && x.wr (k : Int)) := by
  have hm : x.rmay = true := (may_eq x hw).symm.trans h
  obtain ⟨h1, h2⟩ := shape_op x (rmay_shape x hm)
  obtain ⟨e1, _, e3, _, e5⟩ := set_all x h1 h2 k hk (rep_of x hm)
  rw [(pw_b x h).tb k hk]
  unfold pwB Ins.wr
  rw [e1, e3, e5, reg_e, reg_e]
  generalize decide ((k : Int) < 16) = K
  generalize x.wsw (k : Int) = z
  generalize (inL x.op [31] || inL x.op [33]) = xb
  generalize inL x.op [8, 9, 14, 20, 21, 22, 23, 37, 38] = ch
  generalize (x.a.k == 1) = a1
  generalize (x.a.r == (k : Int)) = a2
  generalize (x.b.k == 1) = b1
  generalize (x.b.r == (k : Int)) = b2
  revert K z xb ch a1 a2 b1 b2
  decide
theorem rd_bits (x : Ins) (h : x.may = true) (hw : x.Wf) (k : Nat) (hk : k < 32) : tb x.pr (k : Int) = (decide ((k : Int) < 16) && x.rd (k : Int)) := by
  have hm : x.rmay = true := (may_eq x hw).symm.trans h
  obtain ⟨h1, h2⟩ := shape_op x (rmay_shape x hm)
  obtain ⟨_, e2, _, e4, _⟩ := set_all x h1 h2 k hk (rep_of x hm)
  rw [(pr_b x h).tb k hk]
  unfold prB Ins.rd
  rw [e2, e4, reg_e, reg_e, adr_e, adr_e]
  generalize decide ((k : Int) < 16) = K
  generalize x.rsw (k : Int) = z
  generalize (!inL x.op [15] && !(decide (x.w ≥ 4) && inL x.op [10, 11, 12, 13, 25])) = fr
  generalize (x.a.b == (k : Int) || x.a.i == (k : Int)) = a3
  generalize (x.b.b == (k : Int) || x.b.i == (k : Int)) = b3
  generalize (x.a.k == 2) = a4
  generalize (x.b.k == 2) = b4
  generalize (x.a.k == 1) = a1
  generalize (x.a.r == (k : Int)) = a2
  generalize (x.b.k == 1) = b1
  generalize (x.b.r == (k : Int)) = b2
  cases K
  · cases fr <;> simp
  · cases fr <;> cases a1 <;> cases a2 <;> cases b1 <;> cases b2 <;> cases a3 <;> cases b3 <;> cases a4 <;> cases b4 <;> cases z <;> rfl
theorem bne_self (a : Bool) : (!(a == a)) = false := by cases a <;> rfl
theorem loop3 (x : Ins) (h : x.may = true) (hw : x.Wf) : ∀ (m n k : Nat) (H : Heap), k + m = 32 →
    Says ((D3_5 (n + m + 1) x.pw x.pr (k : Int) x.op x.w x.w2 x.a.k x.a.r x.a.b x.a.i x.a.s x.a.d x.b.k x.b.r x.b.b x.b.i x.b.s x.b.d x.imm x.cc x.lock x.rep x.len H).bind J3_5) H true
  | 0, n, k, H, hm => by
    have g : decide ((k : Int) < 32) = false := by simp; omega
    rw [D3_5_s, g, cf, Ab.bs, J3_5_1]
    exact says_ret rfl
  | m + 1, n, k, H, hm => by
    have hk : k < 32 := by omega
    have g : decide ((k : Int) < 32) = true := by simp; omega
    have g1 : decide (IntKind.u64.wrap (k : Int) < 0) = false := by rw [wrap_u64]; simp; omega
    have g5 : IntKind.i64.wrap ((k : Int) + 1) = ((k + 1 : Nat) : Int) := by rw [wrap_i64 (by omega) (by omega)]; rfl
    have ih := loop3 x h hw m n (k + 1)
    have hr : x.rmay = true := (may_eq x hw).symm.trans h
    obtain ⟨h1, h2⟩ := shape_op x (rmay_shape x hr)
    have bw := wr_bits x h hw k hk
    have br := rd_bits x h hw k hk
    unfold tb at bw br
    rw [show n + (m + 1) + 1 = (n + m + 1) + 1 by omega, D3_5_s, g, g1]
    simp only [ct, cf, g5, bw, br]
    by_cases h16 : (k : Int) < 16
    · rw [decide_eq_true h16]
      simp only [ct, Bool.true_and]
      obtain ⟨H1, e1, k1⟩ := f10_x x h1 h2 (k : Int) H
      obtain ⟨H2, e2, k2⟩ := f11_x x h1 h2 (k : Int) H1
      simp only [e1, Ab.bs, bne_self, cf, e2]
      obtain ⟨H3, e3, k3⟩ := ih H2 (by omega)
      exact ⟨H3, e3, (k1.trans k2).trans k3⟩
    · rw [decide_eq_false h16]
      simp only [cf, Bool.false_and, bne_self]
      exact ih H (by omega)
theorem f3_x (x : Ins) (hw : x.Wf) (H : Heap) : Says (f3 x.op x.w x.w2 x.a.k x.a.r x.a.b x.a.i x.a.s x.a.d x.b.k x.b.r x.b.b x.b.i x.b.s x.b.d x.imm x.cc x.lock x.rep x.len H) H true := by
  rw [q3]
  simp only [g6_x, Ab.bs]
  refine says_bind (f5_x x hw H) fun H1 _ => ?_
  simp only [g6_x, Ab.bs]
  refine says_bind (f7_x x hw H1) fun H2 _ => says_bind (f8_x x hw H2) fun H3 _ => ?_
  cases hm : x.rmay with
  | false =>
    have h : x.may = false := (may_eq x hw).trans hm
    have e1 : x.pw = 0 := by unfold Ins.pw; rw [h]; rfl
    have e2 : x.pr = 0 := by unfold Ins.pr; rw [h]; rfl
    simp only [e1, e2, Bool.not_false, ct, beq_self_eq_true]
    exact says_ret rfl
  | true =>
    have h : x.may = true := (may_eq x hw).trans hm
    simp only [Bool.not_true, cf]
    obtain ⟨n, e⟩ := LL3_5_of 32 (by omega) x.pw x.pr 0 x.op x.w x.w2 x.a.k x.a.r x.a.b x.a.i x.a.s x.a.d x.b.k x.b.r x.b.b x.b.i x.b.s x.b.d x.imm x.cc x.lock x.rep x.len H3
    rw [e]
    exact loop3 x h hw 32 n 0 H3 rfl
theorem holds3 (Hp : Heap) (xs : List TV) (_hn : NoOwn Hp) (hxs : TShAll Try.prog Hp 12 Try.f3.params.toList xs) : fnA CC3 Try.f3.results.toList (bodyOf Try.f3) Bool xs Hp (fun x _ => x.cell.bind Cell.toBool) = some true := by
  have hp : Try.f3.params.toList = [25] := by kernel_rfl
  rw [hp] at hxs
  obtain ⟨x0, xr, rfl, t0, hnil⟩ := hxs
  subst hnil
  obtain ⟨cs, rfl, s0⟩ := tsh_agg t0 Try.underlying25 
  obtain ⟨x, rfl, hw⟩ := ins_of cs s0
  obtain ⟨H', h, _⟩ := f3_x x hw Hp
  rw [f3_eq] at h
  exact law_of hN3 (fun v hv => by
    unfold dec3 at hv
    split at hv
    · cases hv; rfl
    · cases hv) h
end
end Go.Proofs.Ytlhcbcfphognlaa
