/- FlagsCompare: the law. -/
import Derived.Test.YtmdcmjlhnbodmaaFl3
namespace Go.Proofs.Ytmdcmjlhnbodmaa
open Go Go.Proofs.Ytmdcmjlhnbodmaa.Ab
set_option linter.unusedVariables false
set_option maxRecDepth 100000
noncomputable section
theorem ishr_nat (v s : Nat) (hs : s ≤ 64) : ishr .u64 (v : Int) (s : Int) = ((v / 2 ^ s : Nat) : Int) := by
  unfold ishr
  have h1 : min (s : Int).toNat IntKind.u64.bits = s := by simp [IntKind.bits]; omega
  rw [h1]
  have h2 : (0 : Int) ≤ 2 ^ s := Int.le_of_lt (Int.pow_pos (by decide))
  rw [Int.fdiv_eq_ediv_of_nonneg _ h2]
  simp
theorem band_one (v : Nat) : band .u64 (v : Int) 1 = ((v % 2 : Nat) : Int) := by
  have := band_mask (v : Int) (n := 1) (by decide)
  simpa using this
theorem bit_nat (v s : Nat) (hs : s ≤ 64) : (band .u64 (ishr .u64 (v : Int) (s : Int)) 1 == 1) = v.testBit s := by
  rw [ishr_nat v s hs, band_one, Nat.testBit_eq_decide_div_mod_eq]
  rcases Nat.mod_two_eq_zero_or_one (v / 2 ^ s) with h | h <;> simp [h]
theorem neg_nat {w : Int} (h : bits_Is w = true) (v : Nat) : bits_Neg (v : Int) w = v.testBit (8 * w.toNat - 1) := by
  unfold bits_Neg
  rw [h]
  rcases is_w h with rfl | rfl | rfl | rfl
  · exact bit_nat v 7 (by decide)
  · exact bit_nat v 15 (by decide)
  · exact bit_nat v 31 (by decide)
  · exact bit_nat v 63 (by decide)
theorem testBit_top {x s : Nat} (h : x < 2 ^ (s + 1)) : x.testBit s = decide (2 ^ s ≤ x) := by
  rw [Nat.testBit_eq_decide_div_mod_eq]
  have h0 : 0 < 2 ^ s := Nat.two_pow_pos s
  have h2 : x / 2 ^ s < 2 := by rw [Nat.div_lt_iff_lt_mul h0]; rw [Nat.pow_succ] at h; omega
  by_cases hx : 2 ^ s ≤ x
  · have : 1 ≤ x / 2 ^ s := (Nat.le_div_iff_mul_le h0).2 (by omega)
    have e : x / 2 ^ s = 1 := by omega
    simp [e, hx]
  · have e : x / 2 ^ s = 0 := Nat.div_eq_of_lt (by omega)
    simp [e, hx]
theorem bxor_nat {x y : Nat} (hx : x < 2 ^ 64) (hy : y < 2 ^ 64) : bxor .u64 (x : Int) (y : Int) = ((x ^^^ y : Nat) : Int) := by
  rw [bxor_u64]
  have h1 : ((x : Int) % 18446744073709551616).toNat = x := by omega
  have h2 : ((y : Int) % 18446744073709551616).toNat = y := by omega
  rw [h1, h2]
theorem band_nat {x y : Nat} (hx : x < 2 ^ 64) (hy : y < 2 ^ 64) : band .u64 (x : Int) (y : Int) = ((x &&& y : Nat) : Int) := by
  rw [band_u64]
  have h1 : ((x : Int) % 18446744073709551616).toNat = x := by omega
  have h2 : ((y : Int) % 18446744073709551616).toNat = y := by omega
  rw [h1, h2]
/-- The overflow of a difference, or of a sum, by signs. -/
theorem over_nat {w : Int} (h : bits_Is w = true) {x y z u : Nat} (hx : x < 2 ^ (8 * w.toNat)) (hy : y < 2 ^ (8 * w.toNat)) (hz : z < 2 ^ (8 * w.toNat)) (hu : u < 2 ^ (8 * w.toNat)) :
    bits_Neg (band .u64 (bxor .u64 (x : Int) (y : Int)) (bxor .u64 (z : Int) (u : Int))) w =
      (xor (decide (2 ^ (8 * w.toNat - 1) ≤ x)) (decide (2 ^ (8 * w.toNat - 1) ≤ y)) && xor (decide (2 ^ (8 * w.toNat - 1) ≤ z)) (decide (2 ^ (8 * w.toNat - 1) ≤ u))) := by
  have hn : 8 * w.toNat ≤ 64 ∧ 8 * w.toNat - 1 + 1 = 8 * w.toNat := by rcases is_w h with rfl | rfl | rfl | rfl <;> decide
  have hp : (2 : Nat) ^ (8 * w.toNat) ≤ 2 ^ 64 := Nat.pow_le_pow_right (by decide) hn.1
  rw [bxor_nat (by omega) (by omega), bxor_nat (by omega) (by omega), band_nat (Nat.xor_lt_two_pow (by omega) (by omega)) (Nat.xor_lt_two_pow (by omega) (by omega)), neg_nat h]
  rw [Nat.testBit_and, Nat.testBit_xor, Nat.testBit_xor, testBit_top (by rw [hn.2]; exact hx), testBit_top (by rw [hn.2]; exact hy), testBit_top (by rw [hn.2]; exact hz), testBit_top (by rw [hn.2]; exact hu)]

theorem zx_is {w : Int} (h : bits_Is w = true) (v : Int) : bits_Zx v w = v % 2 ^ (8 * w.toNat) := by unfold bits_Zx; rw [h]; rfl
theorem two_cmp {w : Int} (h : bits_Is w = true) (a b : Int) (t0 t1 : Bool) (t2 : Int) :
    xflag_Two 8 a b t0 t1 t2 w = xflag_of (bits_Less a b false w).1 (bits_Less a b false w).2.1 (bits_Less a b false w).2.2 w := by
  unfold xflag_Two; rw [h]; rfl
/-- A number with a sign. -/
def sv (n : Nat) (x : Int) : Int := bif decide (x < 2 ^ (n - 1)) then x else x - 2 ^ n
theorem sx_sv {w : Int} (h : bits_Is w = true) (v : Int) : IntKind.i64.wrap (bits_Sx v w) = sv (8 * w.toNat) (v % 2 ^ (8 * w.toNat)) := by
  rw [sx_eq h]
  unfold sv
  rcases is_w h with rfl | rfl | rfl | rfl <;> simp only [IntKind.wrap, IntKind.bits, IntKind.signed, cond_eq_ite, decide_eq_true_eq] <;> simp <;> split <;> (try split) <;> omega
theorem cmp_all {w : Int} (h : bits_Is w = true) (a b : Int) (t0 t1 : Bool) (t2 : Int) :
    (xflag_Two 8 a b t0 t1 t2 w).2.1 = decide (bits_Zx a w < bits_Zx b w) ∧
    ((xflag_Two 8 a b t0 t1 t2 w).2.2.2 == 0) = (bits_Zx a w == bits_Zx b w) ∧
    (!(decide (IntKind.i64.wrap (xflag_Two 8 a b t0 t1 t2 w).2.2.2 < 0) == (xflag_Two 8 a b t0 t1 t2 w).2.2.1)) = decide (IntKind.i64.wrap (bits_Sx a w) < IntKind.i64.wrap (bits_Sx b w)) := by
  rw [two_cmp h]
  have hr : (bits_Less a b false w).1 = (bits_Zx a w - bits_Zx b w) % 2 ^ (8 * w.toNat) := by
    unfold bits_Less bits_one
    rw [h]
    simp only [cond_true, cond_false, zx_is h]
    rcases is_w h with rfl | rfl | rfl | rfl <;> simp <;> omega
  have hc : (bits_Less a b false w).2.1 = decide (bits_Zx a w < bits_Zx b w) := by
    unfold bits_Less bits_one; rw [h]; simp
  have ho : (bits_Less a b false w).2.2 = bits_Neg (band .u64 (bxor .u64 (bits_Zx a w) (bits_Zx b w)) (bxor .u64 (bits_Zx a w) (bits_Less a b false w).1)) w := by
    unfold bits_Less; rw [h]; rfl
  obtain ⟨x, hx⟩ := Int.eq_ofNat_of_zero_le (zx_nonneg a w)
  obtain ⟨y, hy⟩ := Int.eq_ofNat_of_zero_le (zx_nonneg b w)
  have hxl : x < 2 ^ (8 * w.toNat) := by
    have h1 := zx_is h a
    rw [hx] at h1
    rcases is_w h with rfl | rfl | rfl | rfl <;> simp at h1 ⊢ <;> omega
  have hyl : y < 2 ^ (8 * w.toNat) := by
    have h1 := zx_is h b
    rw [hy] at h1
    rcases is_w h with rfl | rfl | rfl | rfl <;> simp at h1 ⊢ <;> omega
  rw [hx, hy] at hr
  obtain ⟨r, hrr⟩ : ∃ r : Nat, (bits_Less a b false w).1 = r := by
    refine Int.eq_ofNat_of_zero_le ?_
    rw [hr]
    rcases is_w h with rfl | rfl | rfl | rfl <;> simp <;> omega
  have hrl : r < 2 ^ (8 * w.toNat) := by
    rw [hr] at hrr
    rcases is_w h with rfl | rfl | rfl | rfl <;> simp at hrr ⊢ <;> omega
  rw [hx, hy, hrr, over_nat h hxl hyl hxl hrl] at ho
  have ha := zx_is h a
  have hb := zx_is h b
  rw [hx] at ha
  rw [hy] at hb
  unfold xflag_of
  simp only [hc, ho, hrr, hx, hy]
  rw [sx_eq h, sx_eq h, sx_eq h, ← ha, ← hb]
  rw [hrr] at hr
  clear hx hy ha hb hc ho hrr
  refine ⟨trivial, ?_, ?_⟩
  · have hz : ∀ z : Int, 0 ≤ z → z < 2 ^ (8 * w.toNat) → ((bif decide (z < 2 ^ (8 * w.toNat - 1)) then z else z + 18446744073709551616 - 2 ^ (8 * w.toNat)) == 0) = (z == 0) := by
      intro z h0 h1
      cases hd : decide (z < 2 ^ (8 * w.toNat - 1))
      · rw [Bool.eq_iff_iff]
        rcases is_w h with rfl | rfl | rfl | rfl <;> simp at h1 hd ⊢ <;> omega
      · rfl
    have hm : (r : Int) % 2 ^ (8 * w.toNat) = r := Int.emod_eq_of_lt (by omega) (by exact_mod_cast hrl)
    rw [hm, hz _ (by omega) (by exact_mod_cast hrl), Bool.eq_iff_iff]
    rcases is_w h with rfl | rfl | rfl | rfl <;> simp at hr hxl hyl hrl ⊢ <;> omega
  · have e : ∀ x' : Nat, IntKind.i64.wrap (bif decide ((x' : Int) % 2 ^ (8 * w.toNat) < 2 ^ (8 * w.toNat - 1)) then (x' : Int) % 2 ^ (8 * w.toNat) else (x' : Int) % 2 ^ (8 * w.toNat) + 18446744073709551616 - 2 ^ (8 * w.toNat)) = sv (8 * w.toNat) ((x' : Int) % 2 ^ (8 * w.toNat)) := fun x' => by rw [← sx_sv h, sx_eq h]
    have em : ∀ {x' : Nat}, x' < 2 ^ (8 * w.toNat) → (x' : Int) % 2 ^ (8 * w.toNat) = x' := fun hl => Int.emod_eq_of_lt (by omega) (by exact_mod_cast hl)
    have e1 := e r
    have e2 := e x
    have e3 := e y
    rw [em hrl] at e1
    rw [em hxl] at e2
    rw [em hyl] at e3
    rw [em hrl, e1, e2, e3]
    clear e e1 e2 e3
    unfold sv
    by_cases c1 : 2 ^ (8 * w.toNat - 1) ≤ x <;> by_cases c2 : 2 ^ (8 * w.toNat - 1) ≤ y <;> by_cases c3 : 2 ^ (8 * w.toNat - 1) ≤ r
    all_goals
      have d1 : decide ((x : Int) < 2 ^ (8 * w.toNat - 1)) = !decide (2 ^ (8 * w.toNat - 1) ≤ x) := by rw [Bool.eq_iff_iff]; simp; exact_mod_cast Iff.rfl
      have d2 : decide ((y : Int) < 2 ^ (8 * w.toNat - 1)) = !decide (2 ^ (8 * w.toNat - 1) ≤ y) := by rw [Bool.eq_iff_iff]; simp; exact_mod_cast Iff.rfl
      have d3 : decide ((r : Int) < 2 ^ (8 * w.toNat - 1)) = !decide (2 ^ (8 * w.toNat - 1) ≤ r) := by rw [Bool.eq_iff_iff]; simp; exact_mod_cast Iff.rfl
      rw [d1, d2, d3]
      simp only [c1, c2, c3, decide_true, decide_false, Bool.not_true, Bool.not_false, cond_true, cond_false, Bool.xor_self, Bool.xor_true, Bool.xor_false, Bool.and_self, Bool.and_true, Bool.and_false]
      clear d1 d2 d3
      rw [Bool.eq_iff_iff]
      rcases is_w h with rfl | rfl | rfl | rfl
      all_goals
        simp at hr hxl hyl hrl c1 c2 c3 ⊢
        omega
theorem eq_sv {w : Int} (h : bits_Is w = true) (a b : Int) : (bits_Zx a w == bits_Zx b w) = (IntKind.i64.wrap (bits_Sx a w) == IntKind.i64.wrap (bits_Sx b w)) := by
  rw [sx_sv h, sx_sv h, zx_is h, zx_is h, Bool.eq_iff_iff]
  have h1 : 0 ≤ a % 2 ^ (8 * w.toNat) ∧ 0 ≤ b % 2 ^ (8 * w.toNat) ∧ a % 2 ^ (8 * w.toNat) < 2 ^ (8 * w.toNat) ∧ b % 2 ^ (8 * w.toNat) < 2 ^ (8 * w.toNat) := by
    have : (0 : Int) < 2 ^ (8 * w.toNat) := Int.pow_pos (by decide)
    exact ⟨Int.emod_nonneg _ (by omega), Int.emod_nonneg _ (by omega), Int.emod_lt_of_pos _ this, Int.emod_lt_of_pos _ this⟩
  generalize a % 2 ^ (8 * w.toNat) = x at h1 ⊢
  generalize b % 2 ^ (8 * w.toNat) = y at h1 ⊢
  unfold sv
  rcases is_w h with rfl | rfl | rfl | rfl <;> simp only [Bool.cond_decide] <;> simp at h1 ⊢ <;> (repeat' split) <;> omega
theorem cond2 (c o : Bool) (r : Int) : xflag_Thunk_Cond c o r 2 = c := by cases c <;> rfl
theorem cond4 (c o : Bool) (r : Int) : xflag_Thunk_Cond c o r 4 = (r == 0) := by
  show (!((r == 0) == false)) = (r == 0)
  cases (r == 0) <;> rfl
theorem cond6 (c o : Bool) (r : Int) : xflag_Thunk_Cond c o r 6 = (c || r == 0) := by
  show (!((c || (r == 0)) == false)) = (c || r == 0)
  cases (c || r == 0) <;> rfl
theorem cond7 (c o : Bool) (r : Int) : xflag_Thunk_Cond c o r 7 = !(c || r == 0) := by
  show (!((c || (r == 0)) == true)) = !(c || r == 0)
  cases (c || r == 0) <;> rfl
theorem cond12 (c o : Bool) (r : Int) : xflag_Thunk_Cond c o r 12 = !(decide (IntKind.i64.wrap r < 0) == o) := by
  show (!((!(decide (IntKind.i64.wrap r < 0) == o)) == false)) = _
  cases (decide (IntKind.i64.wrap r < 0) == o) <;> rfl
theorem cond13 (c o : Bool) (r : Int) : xflag_Thunk_Cond c o r 13 = !(!(decide (IntKind.i64.wrap r < 0) == o)) := by
  show (!((!(decide (IntKind.i64.wrap r < 0) == o)) == true)) = _
  cases (decide (IntKind.i64.wrap r < 0) == o) <;> rfl
theorem cond14 (c o : Bool) (r : Int) : xflag_Thunk_Cond c o r 14 = (r == 0 || !(decide (IntKind.i64.wrap r < 0) == o)) := by
  show (!(((r == 0) || !(decide (IntKind.i64.wrap r < 0) == o)) == false)) = _
  cases (r == 0) <;> cases (decide (IntKind.i64.wrap r < 0) == o) <;> rfl
theorem cond15 (c o : Bool) (r : Int) : xflag_Thunk_Cond c o r 15 = !(r == 0 || !(decide (IntKind.i64.wrap r < 0) == o)) := by
  show (!(((r == 0) || !(decide (IntKind.i64.wrap r < 0) == o)) == true)) = _
  cases (r == 0) <;> cases (decide (IntKind.i64.wrap r < 0) == o) <;> rfl
/-! L08_FlagsCompare -/
def L08_FlagsCompare (a b : Int) (t0 t1 : Bool) (t2 w : Int) : Bool := true
noncomputable def G9 : List TV → Option (List TV) | [.c (Cell.int .u64 a), .c (Cell.int .u64 b), .agg [Cell.bool t0, Cell.bool t1, Cell.int .u64 t2], .c (Cell.int .i64 w)] => some [.c (Cell.bool (L08_FlagsCompare a b t0 t1 t2 w))] | _ => none
noncomputable def F9 : FnSem := numF G9
noncomputable def C9 : Ctx := { P := Try.prog, own := [6, 10], fns := L27, nt := 107, nums := N27, live := [] }
theorem e9 : ∀ (R : Type) (a b : Int) (t0 t1 : Bool) (t2 w : Int) (H : Heap) (K : AV → Heap → Option R) (lp : Code → St → (AExit → St → Option R) → Option R), fnL C9 lp Try.f9.results.toList (bodyOf Try.f9) [TV.c (Cell.int IntKind.u64 a), TV.c (Cell.int IntKind.u64 b), TV.agg [Cell.bool t0, Cell.bool t1, Cell.int IntKind.u64 t2], TV.c (Cell.int IntKind.i64 w)] H K = bif !bits_Is w then K (AV.c (Cell.bool true)) H else bif bif true then xflag_Thunk_Cond (xflag_Two 8 a b (L08_ours t0 t1 t2).fst t1 t2 w).snd.fst (xflag_Two 8 a b (L08_ours t0 t1 t2).fst t1 t2 w).snd.snd.fst (xflag_Two 8 a b (L08_ours t0 t1 t2).fst t1 t2 w).snd.snd.snd 2 == decide (bits_Zx a w < bits_Zx b w) else !xflag_Thunk_Cond (xflag_Two 8 a b (L08_ours t0 t1 t2).fst t1 t2 w).snd.fst (xflag_Two 8 a b (L08_ours t0 t1 t2).fst t1 t2 w).snd.snd.fst (xflag_Two 8 a b (L08_ours t0 t1 t2).fst t1 t2 w).snd.snd.snd 2 == decide (bits_Zx a w < bits_Zx b w) then bif bif true then xflag_Thunk_Cond (xflag_Two 8 a b (L08_ours t0 t1 t2).fst t1 t2 w).snd.fst (xflag_Two 8 a b (L08_ours t0 t1 t2).fst t1 t2 w).snd.snd.fst (xflag_Two 8 a b (L08_ours t0 t1 t2).fst t1 t2 w).snd.snd.snd 4 == (bits_Zx a w == bits_Zx b w) else !xflag_Thunk_Cond (xflag_Two 8 a b (L08_ours t0 t1 t2).fst t1 t2 w).snd.fst (xflag_Two 8 a b (L08_ours t0 t1 t2).fst t1 t2 w).snd.snd.fst (xflag_Two 8 a b (L08_ours t0 t1 t2).fst t1 t2 w).snd.snd.snd 4 == (bits_Zx a w == bits_Zx b w) then bif bif true then xflag_Thunk_Cond (xflag_Two 8 a b (L08_ours t0 t1 t2).fst t1 t2 w).snd.fst (xflag_Two 8 a b (L08_ours t0 t1 t2).fst t1 t2 w).snd.snd.fst (xflag_Two 8 a b (L08_ours t0 t1 t2).fst t1 t2 w).snd.snd.snd 6 == decide (bits_Zx a w ≤ bits_Zx b w) else !xflag_Thunk_Cond (xflag_Two 8 a b (L08_ours t0 t1 t2).fst t1 t2 w).snd.fst (xflag_Two 8 a b (L08_ours t0 t1 t2).fst t1 t2 w).snd.snd.fst (xflag_Two 8 a b (L08_ours t0 t1 t2).fst t1 t2 w).snd.snd.snd 6 == decide (bits_Zx a w ≤ bits_Zx b w) then bif bif true then xflag_Thunk_Cond (xflag_Two 8 a b (L08_ours t0 t1 t2).fst t1 t2 w).snd.fst (xflag_Two 8 a b (L08_ours t0 t1 t2).fst t1 t2 w).snd.snd.fst (xflag_Two 8 a b (L08_ours t0 t1 t2).fst t1 t2 w).snd.snd.snd 7 == decide (bits_Zx a w > bits_Zx b w) else !xflag_Thunk_Cond (xflag_Two 8 a b (L08_ours t0 t1 t2).fst t1 t2 w).snd.fst (xflag_Two 8 a b (L08_ours t0 t1 t2).fst t1 t2 w).snd.snd.fst (xflag_Two 8 a b (L08_ours t0 t1 t2).fst t1 t2 w).snd.snd.snd 7 == decide (bits_Zx a w > bits_Zx b w) then bif bif true then xflag_Thunk_Cond (xflag_Two 8 a b (L08_ours t0 t1 t2).fst t1 t2 w).snd.fst (xflag_Two 8 a b (L08_ours t0 t1 t2).fst t1 t2 w).snd.snd.fst (xflag_Two 8 a b (L08_ours t0 t1 t2).fst t1 t2 w).snd.snd.snd 12 == decide (IntKind.i64.wrap (bits_Sx a w) < IntKind.i64.wrap (bits_Sx b w)) else !xflag_Thunk_Cond (xflag_Two 8 a b (L08_ours t0 t1 t2).fst t1 t2 w).snd.fst (xflag_Two 8 a b (L08_ours t0 t1 t2).fst t1 t2 w).snd.snd.fst (xflag_Two 8 a b (L08_ours t0 t1 t2).fst t1 t2 w).snd.snd.snd 12 == decide (IntKind.i64.wrap (bits_Sx a w) < IntKind.i64.wrap (bits_Sx b w)) then bif bif true then xflag_Thunk_Cond (xflag_Two 8 a b (L08_ours t0 t1 t2).fst t1 t2 w).snd.fst (xflag_Two 8 a b (L08_ours t0 t1 t2).fst t1 t2 w).snd.snd.fst (xflag_Two 8 a b (L08_ours t0 t1 t2).fst t1 t2 w).snd.snd.snd 13 == decide (IntKind.i64.wrap (bits_Sx a w) ≥ IntKind.i64.wrap (bits_Sx b w)) else !xflag_Thunk_Cond (xflag_Two 8 a b (L08_ours t0 t1 t2).fst t1 t2 w).snd.fst (xflag_Two 8 a b (L08_ours t0 t1 t2).fst t1 t2 w).snd.snd.fst (xflag_Two 8 a b (L08_ours t0 t1 t2).fst t1 t2 w).snd.snd.snd 13 == decide (IntKind.i64.wrap (bits_Sx a w) ≥ IntKind.i64.wrap (bits_Sx b w)) then bif bif true then xflag_Thunk_Cond (xflag_Two 8 a b (L08_ours t0 t1 t2).fst t1 t2 w).snd.fst (xflag_Two 8 a b (L08_ours t0 t1 t2).fst t1 t2 w).snd.snd.fst (xflag_Two 8 a b (L08_ours t0 t1 t2).fst t1 t2 w).snd.snd.snd 14 == decide (IntKind.i64.wrap (bits_Sx a w) ≤ IntKind.i64.wrap (bits_Sx b w)) else !xflag_Thunk_Cond (xflag_Two 8 a b (L08_ours t0 t1 t2).fst t1 t2 w).snd.fst (xflag_Two 8 a b (L08_ours t0 t1 t2).fst t1 t2 w).snd.snd.fst (xflag_Two 8 a b (L08_ours t0 t1 t2).fst t1 t2 w).snd.snd.snd 14 == decide (IntKind.i64.wrap (bits_Sx a w) ≤ IntKind.i64.wrap (bits_Sx b w)) then bif bif true then xflag_Thunk_Cond (xflag_Two 8 a b (L08_ours t0 t1 t2).fst t1 t2 w).snd.fst (xflag_Two 8 a b (L08_ours t0 t1 t2).fst t1 t2 w).snd.snd.fst (xflag_Two 8 a b (L08_ours t0 t1 t2).fst t1 t2 w).snd.snd.snd 15 == decide (IntKind.i64.wrap (bits_Sx a w) > IntKind.i64.wrap (bits_Sx b w)) else !xflag_Thunk_Cond (xflag_Two 8 a b (L08_ours t0 t1 t2).fst t1 t2 w).snd.fst (xflag_Two 8 a b (L08_ours t0 t1 t2).fst t1 t2 w).snd.snd.fst (xflag_Two 8 a b (L08_ours t0 t1 t2).fst t1 t2 w).snd.snd.snd 15 == decide (IntKind.i64.wrap (bits_Sx a w) > IntKind.i64.wrap (bits_Sx b w)) then K (AV.c (Cell.bool true)) H else K (AV.c (Cell.bool false)) H else K (AV.c (Cell.bool false)) H else K (AV.c (Cell.bool false)) H else K (AV.c (Cell.bool false)) H else K (AV.c (Cell.bool false)) H else K (AV.c (Cell.bool false)) H else K (AV.c (Cell.bool false)) H else K (AV.c (Cell.bool false)) H := by intros; kernel_rfl
theorem s9 (R : Type) (a : Int) (b : Int) (t0 : Bool) (t1 : Bool) (t2 : Int) (w : Int) (H : Heap) (K : AV → Heap → Option R) (lp : Code → St → (AExit → St → Option R) → Option R) : fnL C9 lp Try.f9.results.toList (bodyOf Try.f9) [.c (Cell.int .u64 a), .c (Cell.int .u64 b), .agg [Cell.bool t0, Cell.bool t1, Cell.int .u64 t2], .c (Cell.int .i64 w)] H K = K (oneOf [.c (Cell.bool (L08_FlagsCompare a b t0 t1 t2 w))]) H := by
  rw [e9]
  cases h : bits_Is w
  · rfl
  · obtain ⟨h1, h2, h3⟩ := cmp_all h a b (L08_ours t0 t1 t2).fst t1 t2
    have h4 := eq_sv h a b
    simp only [cond2, cond4, cond6, cond7, cond12, cond13, cond14, cond15, h1, h2, h3]
    clear h1 h2 h3
    generalize IntKind.i64.wrap (bits_Sx a w) = p at h4 ⊢
    generalize IntKind.i64.wrap (bits_Sx b w) = q at h4 ⊢
    have h5 : (p == q) = (bits_Zx a w == bits_Zx b w) := h4.symm
    have e1 : decide (bits_Zx a w ≤ bits_Zx b w) = (decide (bits_Zx a w < bits_Zx b w) || p == q) := by
      rw [h5, Bool.eq_iff_iff]; simp; omega
    have e2 : decide (bits_Zx a w > bits_Zx b w) = !(decide (bits_Zx a w < bits_Zx b w) || p == q) := by
      rw [h5, Bool.eq_iff_iff]; simp; omega
    have e3 : decide (p ≥ q) = !decide (p < q) := by rw [Bool.eq_iff_iff]; simp
    have e4 : decide (p ≤ q) = (p == q || decide (p < q)) := by rw [Bool.eq_iff_iff]; simp; omega
    have e5 : decide (p > q) = !(p == q || decide (p < q)) := by rw [Bool.eq_iff_iff]; simp; omega
    rw [e1, e2, e3, e4, e5, h4]
    cases decide (bits_Zx a w < bits_Zx b w) <;> cases (p == q) <;> cases decide (p < q) <;> rfl
theorem ok9 : FnOk Try.prog 9 F9 := by
  refine fn_ok (C := C9) (good27.env rfl) (good27.ctx rfl rfl rfl) (by kernel_rfl) Try.func9 (c := bodyOf Try.f9) (by kernel_rfl) (by kernel_rfl) (Nat.le_of_eq Try.ntmps9.symm) ?_
  intro R args H K r h
  unfold F9 numF G9 at h
  split at h
  · rw [fnA_eq, s9]; exact h
  · cases h
noncomputable def L9 := ((9, F9) : Nat × FnSem) :: L27
noncomputable def N9 : List Nat := 9 :: N27
theorem good9 : Callees Try.prog L9 [] N9 := good27.cons_num ok9 (numF_num _)
