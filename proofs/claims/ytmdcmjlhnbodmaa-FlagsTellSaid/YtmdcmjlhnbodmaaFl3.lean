/- Layer 8's own functions, 3. -/
import Derived.Test.YtmdcmjlhnbodmaaFl2
namespace Go.Proofs.Ytmdcmjlhnbodmaa
open Go Go.Proofs.Ytmdcmjlhnbodmaa.Ab
set_option linter.unusedVariables false
set_option maxRecDepth 100000
noncomputable section
theorem band_i64_small (n : Int) {k : Nat} (hk : k < 63) : 0 ≤ band .i64 n (2 ^ k - 1) ∧ band .i64 n (2 ^ k - 1) < 2 ^ k := by
  unfold band
  rw [BitVec.toNat_and]
  simp only [BitVec.toNat_ofInt, IntKind.bits]
  have e64 : ((2 ^ 64 : Nat) : Int) = 18446744073709551616 := rfl
  rw [e64]
  have hp : (2 : Nat) ^ k ≤ 2 ^ 62 := Nat.pow_le_pow_right (by omega) (by omega)
  have h0 : (0 : Nat) < 2 ^ k := Nat.two_pow_pos k
  have hc : ((2 : Int) ^ k) = ((2 ^ k : Nat) : Int) := by simp
  have h1 : (((2 : Int) ^ k - 1) % 18446744073709551616).toNat = 2 ^ k - 1 := by rw [hc]; omega
  rw [h1, Nat.and_two_pow_sub_one_eq_mod, hc]
  have h2 : (n % 18446744073709551616).toNat % 2 ^ k < 2 ^ k := Nat.mod_lt _ h0
  rw [wrap_i64 (by omega) (by omega)]
  omega
/-! L08_ours -/
def L08_ours (t0 t1 : Bool) (t2 : Int) : Bool × Bool × Int := (t0, t1, t2)
noncomputable def G12 : List TV → Option (List TV) | [.agg [Cell.bool t0, Cell.bool t1, Cell.int .u64 t2]] => let r := L08_ours t0 t1 t2; some [.agg [Cell.bool r.1, Cell.bool r.2.1, Cell.int .u64 r.2.2]] | _ => none
noncomputable def F12 : FnSem := numF G12
noncomputable def C12 : Ctx := { P := Try.prog, own := [1, 2], fns := L68, nt := 10, nums := N68, live := [] }
theorem e12 : ∀ (R : Type) (t0 t1 : Bool) (t2 : Int) (H : Heap) (K : AV → Heap → Option R) (lp : Code → St → (AExit → St → Option R) → Option R), fnL C12 lp Try.f12.results.toList (bodyOf Try.f12) [TV.agg [Cell.bool t0, Cell.bool t1, Cell.int IntKind.u64 t2]] H K = K (AV.agg [Cell.bool t0, Cell.bool t1, Cell.int IntKind.u64 t2]) H := by intros; kernel_rfl
theorem s12 (R : Type) (t0 : Bool) (t1 : Bool) (t2 : Int) (H : Heap) (K : AV → Heap → Option R) (lp : Code → St → (AExit → St → Option R) → Option R) : fnL C12 lp Try.f12.results.toList (bodyOf Try.f12) [.agg [Cell.bool t0, Cell.bool t1, Cell.int .u64 t2]] H K = K (oneOf [.agg [Cell.bool (L08_ours t0 t1 t2).1, Cell.bool (L08_ours t0 t1 t2).2.1, Cell.int .u64 (L08_ours t0 t1 t2).2.2]]) H := by
  rw [e12]
  rfl
theorem ok12 : FnOk Try.prog 12 F12 := by
  refine fn_ok (C := C12) (good68.env rfl) (good68.ctx rfl rfl rfl) (by kernel_rfl) Try.func12 (c := bodyOf Try.f12) (by kernel_rfl) (by kernel_rfl) (Nat.le_of_eq Try.ntmps12.symm) ?_
  intro R args H K r h
  unfold F12 numF G12 at h
  split at h
  · rw [fnA_eq, s12]; exact h
  · cases h
noncomputable def L12 := ((12, F12) : Nat × FnSem) :: L68
noncomputable def N12 : List Nat := 12 :: N68
theorem good12 : Callees Try.prog L12 [] N12 := good68.cons_num ok12 (numF_num _)
/-! L08_same -/
def L08_same (t0 t1 : Bool) (t2 : Int) (r0 r1 : Bool) (r2 : Int) : Bool := t0 == r0 && (t1 == r1 && t2 == r2)
noncomputable def G14 : List TV → Option (List TV) | [.agg [Cell.bool t0, Cell.bool t1, Cell.int .u64 t2], .agg [Cell.bool r0, Cell.bool r1, Cell.int .u64 r2]] => some [.c (Cell.bool (L08_same t0 t1 t2 r0 r1 r2))] | _ => none
noncomputable def F14 : FnSem := numF G14
noncomputable def C14 : Ctx := { P := Try.prog, own := [2, 3], fns := L12, nt := 24, nums := N12, live := [] }
theorem e14 : ∀ (R : Type) (t0 t1 : Bool) (t2 : Int) (r0 r1 : Bool) (r2 : Int) (H : Heap) (K : AV → Heap → Option R) (lp : Code → St → (AExit → St → Option R) → Option R), fnL C14 lp Try.f14.results.toList (bodyOf Try.f14) [TV.agg [Cell.bool t0, Cell.bool t1, Cell.int IntKind.u64 t2], TV.agg [Cell.bool r0, Cell.bool r1, Cell.int IntKind.u64 r2]] H K = bif bif true then t0 == r0 else !t0 == r0 then bif bif true then t1 == r1 else !t1 == r1 then K (AV.c (Cell.bool (t2 == r2))) H else K (AV.c (Cell.bool false)) H else K (AV.c (Cell.bool false)) H := by intros; kernel_rfl
theorem s14 (R : Type) (t0 : Bool) (t1 : Bool) (t2 : Int) (r0 : Bool) (r1 : Bool) (r2 : Int) (H : Heap) (K : AV → Heap → Option R) (lp : Code → St → (AExit → St → Option R) → Option R) : fnL C14 lp Try.f14.results.toList (bodyOf Try.f14) [.agg [Cell.bool t0, Cell.bool t1, Cell.int .u64 t2], .agg [Cell.bool r0, Cell.bool r1, Cell.int .u64 r2]] H K = K (oneOf [.c (Cell.bool (L08_same t0 t1 t2 r0 r1 r2))]) H := by
  rw [e14]
  unfold L08_same
  cases t0 <;> cases r0 <;> cases t1 <;> cases r1 <;> rfl
theorem ok14 : FnOk Try.prog 14 F14 := by
  refine fn_ok (C := C14) (good12.env rfl) (good12.ctx rfl rfl rfl) (by kernel_rfl) Try.func14 (c := bodyOf Try.f14) (by kernel_rfl) (by kernel_rfl) (Nat.le_of_eq Try.ntmps14.symm) ?_
  intro R args H K r h
  unfold F14 numF G14 at h
  split at h
  · rw [fnA_eq, s14]; exact h
  · cases h
noncomputable def L14 := ((14, F14) : Nat × FnSem) :: L12
noncomputable def N14 : List Nat := 14 :: N12
theorem good14 : Callees Try.prog L14 [] N14 := good12.cons_num ok14 (numF_num _)
/-! xflag_Turn -/
def xturnK (op x k : Int) (t0 t1 : Bool) (t2 w : Int) : Int × Bool × Bool × Int :=
  bif k == 0 then (x, t0, t1, t2)
  else bif decide (op ≤ 27) then xflag_turn op x k t0 t1 t2 w
  else bif op == 28 then xflag_of (ishl .u64 x k) (xflag_bit x (IntKind.i64.wrap (IntKind.i64.wrap (8 * w) - k))) (!(bits_Neg (ishl .u64 x k) w == xflag_bit x (IntKind.i64.wrap (IntKind.i64.wrap (8 * w) - k)))) w
  else bif op == 29 then xflag_of (ishr .u64 x k) (xflag_bit x (IntKind.i64.wrap (k - 1))) (bits_Neg x w) w
  else xflag_of (IntKind.u64.wrap (ishr .i64 (IntKind.i64.wrap (bits_Sx x w)) k)) (xflag_bit (bits_Sx x w) (IntKind.i64.wrap (k - 1))) false w
def xflag_Turn (op a n : Int) (t0 t1 : Bool) (t2 w : Int) : Int × Bool × Bool × Int :=
  bif bits_Is w then bif decide (op < 26) then (0, t0, t1, t2) else bif decide (op > 30) then (0, t0, t1, t2)
    else xturnK op (bits_Zx a w) (bif w == 8 then band .i64 n 63 else band .i64 n 31) t0 t1 t2 w
  else (0, t0, t1, t2)
noncomputable def G16 : List TV → Option (List TV) | [.c (Cell.int .i64 op), .c (Cell.int .u64 a), .c (Cell.int .i64 n), .agg [Cell.bool t0, Cell.bool t1, Cell.int .u64 t2], .c (Cell.int .i64 w)] => let r := xflag_Turn op a n t0 t1 t2 w; some [.c (Cell.int .u64 r.1), .agg [Cell.bool r.2.1, Cell.bool r.2.2.1, Cell.int .u64 r.2.2.2]] | _ => none
noncomputable def F16 : FnSem := numF G16
noncomputable def C16 : Ctx := { P := Try.prog, own := [8, 11], fns := L14, nt := 111, nums := N14, live := [] }
theorem e16 : ∀ (R : Type) (op a n : Int) (t0 t1 : Bool) (t2 w : Int) (H : Heap) (K : AV → Heap → Option R) (lp : Code → St → (AExit → St → Option R) → Option R), fnL C16 lp Try.f16.results.toList (bodyOf Try.f16) [TV.c (Cell.int IntKind.i64 op), TV.c (Cell.int IntKind.u64 a), TV.c (Cell.int IntKind.i64 n), TV.agg [Cell.bool t0, Cell.bool t1, Cell.int IntKind.u64 t2], TV.c (Cell.int IntKind.i64 w)] H K = bif !bits_Is w then K (AV.tup [TV.c (Cell.int IntKind.u64 0), TV.agg [Cell.bool t0, Cell.bool t1, Cell.int IntKind.u64 t2]]) H else bif decide (op < 26) then K (AV.tup [TV.c (Cell.int IntKind.u64 0), TV.agg [Cell.bool t0, Cell.bool t1, Cell.int IntKind.u64 t2]]) H else bif decide (op > 30) then K (AV.tup [TV.c (Cell.int IntKind.u64 0), TV.agg [Cell.bool t0, Cell.bool t1, Cell.int IntKind.u64 t2]]) H else bif w == 8 then bif band IntKind.i64 n 63 == 0 then K (AV.tup [TV.c (Cell.int IntKind.u64 (bits_Zx a w)), TV.agg [Cell.bool t0, Cell.bool t1, Cell.int IntKind.u64 t2]]) H else bif decide (op ≤ 27) then K (AV.tup [TV.c (Cell.int IntKind.u64 (xflag_turn op (bits_Zx a w) (band IntKind.i64 n 63) t0 t1 t2 w).fst), TV.agg [Cell.bool (xflag_turn op (bits_Zx a w) (band IntKind.i64 n 63) t0 t1 t2 w).snd.fst, Cell.bool (xflag_turn op (bits_Zx a w) (band IntKind.i64 n 63) t0 t1 t2 w).snd.snd.fst, Cell.int IntKind.u64 (xflag_turn op (bits_Zx a w) (band IntKind.i64 n 63) t0 t1 t2 w).snd.snd.snd]]) H else bif op == 28 then bif decide (band IntKind.i64 n 63 < 0) then none else K (AV.tup [TV.c (Cell.int IntKind.u64 (xflag_of (ishl IntKind.u64 (bits_Zx a w) (band IntKind.i64 n 63)) (xflag_bit (bits_Zx a w) (IntKind.i64.wrap (IntKind.i64.wrap (8 * w) - band IntKind.i64 n 63))) (bif false then bits_Neg (ishl IntKind.u64 (bits_Zx a w) (band IntKind.i64 n 63)) w == xflag_bit (bits_Zx a w) (IntKind.i64.wrap (IntKind.i64.wrap (8 * w) - band IntKind.i64 n 63)) else !bits_Neg (ishl IntKind.u64 (bits_Zx a w) (band IntKind.i64 n 63)) w == xflag_bit (bits_Zx a w) (IntKind.i64.wrap (IntKind.i64.wrap (8 * w) - band IntKind.i64 n 63))) w).fst), TV.agg [Cell.bool (xflag_of (ishl IntKind.u64 (bits_Zx a w) (band IntKind.i64 n 63)) (xflag_bit (bits_Zx a w) (IntKind.i64.wrap (IntKind.i64.wrap (8 * w) - band IntKind.i64 n 63))) (bif false then bits_Neg (ishl IntKind.u64 (bits_Zx a w) (band IntKind.i64 n 63)) w == xflag_bit (bits_Zx a w) (IntKind.i64.wrap (IntKind.i64.wrap (8 * w) - band IntKind.i64 n 63)) else !bits_Neg (ishl IntKind.u64 (bits_Zx a w) (band IntKind.i64 n 63)) w == xflag_bit (bits_Zx a w) (IntKind.i64.wrap (IntKind.i64.wrap (8 * w) - band IntKind.i64 n 63))) w).snd.fst, Cell.bool (xflag_of (ishl IntKind.u64 (bits_Zx a w) (band IntKind.i64 n 63)) (xflag_bit (bits_Zx a w) (IntKind.i64.wrap (IntKind.i64.wrap (8 * w) - band IntKind.i64 n 63))) (bif false then bits_Neg (ishl IntKind.u64 (bits_Zx a w) (band IntKind.i64 n 63)) w == xflag_bit (bits_Zx a w) (IntKind.i64.wrap (IntKind.i64.wrap (8 * w) - band IntKind.i64 n 63)) else !bits_Neg (ishl IntKind.u64 (bits_Zx a w) (band IntKind.i64 n 63)) w == xflag_bit (bits_Zx a w) (IntKind.i64.wrap (IntKind.i64.wrap (8 * w) - band IntKind.i64 n 63))) w).snd.snd.fst, Cell.int IntKind.u64 (xflag_of (ishl IntKind.u64 (bits_Zx a w) (band IntKind.i64 n 63)) (xflag_bit (bits_Zx a w) (IntKind.i64.wrap (IntKind.i64.wrap (8 * w) - band IntKind.i64 n 63))) (bif false then bits_Neg (ishl IntKind.u64 (bits_Zx a w) (band IntKind.i64 n 63)) w == xflag_bit (bits_Zx a w) (IntKind.i64.wrap (IntKind.i64.wrap (8 * w) - band IntKind.i64 n 63)) else !bits_Neg (ishl IntKind.u64 (bits_Zx a w) (band IntKind.i64 n 63)) w == xflag_bit (bits_Zx a w) (IntKind.i64.wrap (IntKind.i64.wrap (8 * w) - band IntKind.i64 n 63))) w).snd.snd.snd]]) H else bif op == 29 then bif decide (band IntKind.i64 n 63 < 0) then none else K (AV.tup [TV.c (Cell.int IntKind.u64 (xflag_of (ishr IntKind.u64 (bits_Zx a w) (band IntKind.i64 n 63)) (xflag_bit (bits_Zx a w) (IntKind.i64.wrap (band IntKind.i64 n 63 - 1))) (bits_Neg (bits_Zx a w) w) w).fst), TV.agg [Cell.bool (xflag_of (ishr IntKind.u64 (bits_Zx a w) (band IntKind.i64 n 63)) (xflag_bit (bits_Zx a w) (IntKind.i64.wrap (band IntKind.i64 n 63 - 1))) (bits_Neg (bits_Zx a w) w) w).snd.fst, Cell.bool (xflag_of (ishr IntKind.u64 (bits_Zx a w) (band IntKind.i64 n 63)) (xflag_bit (bits_Zx a w) (IntKind.i64.wrap (band IntKind.i64 n 63 - 1))) (bits_Neg (bits_Zx a w) w) w).snd.snd.fst, Cell.int IntKind.u64 (xflag_of (ishr IntKind.u64 (bits_Zx a w) (band IntKind.i64 n 63)) (xflag_bit (bits_Zx a w) (IntKind.i64.wrap (band IntKind.i64 n 63 - 1))) (bits_Neg (bits_Zx a w) w) w).snd.snd.snd]]) H else bif decide (band IntKind.i64 n 63 < 0) then none else K (AV.tup [TV.c (Cell.int IntKind.u64 (xflag_of (IntKind.u64.wrap (ishr IntKind.i64 (IntKind.i64.wrap (bits_Sx (bits_Zx a w) w)) (band IntKind.i64 n 63))) (xflag_bit (bits_Sx (bits_Zx a w) w) (IntKind.i64.wrap (band IntKind.i64 n 63 - 1))) false w).fst), TV.agg [Cell.bool (xflag_of (IntKind.u64.wrap (ishr IntKind.i64 (IntKind.i64.wrap (bits_Sx (bits_Zx a w) w)) (band IntKind.i64 n 63))) (xflag_bit (bits_Sx (bits_Zx a w) w) (IntKind.i64.wrap (band IntKind.i64 n 63 - 1))) false w).snd.fst, Cell.bool (xflag_of (IntKind.u64.wrap (ishr IntKind.i64 (IntKind.i64.wrap (bits_Sx (bits_Zx a w) w)) (band IntKind.i64 n 63))) (xflag_bit (bits_Sx (bits_Zx a w) w) (IntKind.i64.wrap (band IntKind.i64 n 63 - 1))) false w).snd.snd.fst, Cell.int IntKind.u64 (xflag_of (IntKind.u64.wrap (ishr IntKind.i64 (IntKind.i64.wrap (bits_Sx (bits_Zx a w) w)) (band IntKind.i64 n 63))) (xflag_bit (bits_Sx (bits_Zx a w) w) (IntKind.i64.wrap (band IntKind.i64 n 63 - 1))) false w).snd.snd.snd]]) H else bif band IntKind.i64 n 31 == 0 then K (AV.tup [TV.c (Cell.int IntKind.u64 (bits_Zx a w)), TV.agg [Cell.bool t0, Cell.bool t1, Cell.int IntKind.u64 t2]]) H else bif decide (op ≤ 27) then K (AV.tup [TV.c (Cell.int IntKind.u64 (xflag_turn op (bits_Zx a w) (band IntKind.i64 n 31) t0 t1 t2 w).fst), TV.agg [Cell.bool (xflag_turn op (bits_Zx a w) (band IntKind.i64 n 31) t0 t1 t2 w).snd.fst, Cell.bool (xflag_turn op (bits_Zx a w) (band IntKind.i64 n 31) t0 t1 t2 w).snd.snd.fst, Cell.int IntKind.u64 (xflag_turn op (bits_Zx a w) (band IntKind.i64 n 31) t0 t1 t2 w).snd.snd.snd]]) H else bif op == 28 then bif decide (band IntKind.i64 n 31 < 0) then none else K (AV.tup [TV.c (Cell.int IntKind.u64 (xflag_of (ishl IntKind.u64 (bits_Zx a w) (band IntKind.i64 n 31)) (xflag_bit (bits_Zx a w) (IntKind.i64.wrap (IntKind.i64.wrap (8 * w) - band IntKind.i64 n 31))) (bif false then bits_Neg (ishl IntKind.u64 (bits_Zx a w) (band IntKind.i64 n 31)) w == xflag_bit (bits_Zx a w) (IntKind.i64.wrap (IntKind.i64.wrap (8 * w) - band IntKind.i64 n 31)) else !bits_Neg (ishl IntKind.u64 (bits_Zx a w) (band IntKind.i64 n 31)) w == xflag_bit (bits_Zx a w) (IntKind.i64.wrap (IntKind.i64.wrap (8 * w) - band IntKind.i64 n 31))) w).fst), TV.agg [Cell.bool (xflag_of (ishl IntKind.u64 (bits_Zx a w) (band IntKind.i64 n 31)) (xflag_bit (bits_Zx a w) (IntKind.i64.wrap (IntKind.i64.wrap (8 * w) - band IntKind.i64 n 31))) (bif false then bits_Neg (ishl IntKind.u64 (bits_Zx a w) (band IntKind.i64 n 31)) w == xflag_bit (bits_Zx a w) (IntKind.i64.wrap (IntKind.i64.wrap (8 * w) - band IntKind.i64 n 31)) else !bits_Neg (ishl IntKind.u64 (bits_Zx a w) (band IntKind.i64 n 31)) w == xflag_bit (bits_Zx a w) (IntKind.i64.wrap (IntKind.i64.wrap (8 * w) - band IntKind.i64 n 31))) w).snd.fst, Cell.bool (xflag_of (ishl IntKind.u64 (bits_Zx a w) (band IntKind.i64 n 31)) (xflag_bit (bits_Zx a w) (IntKind.i64.wrap (IntKind.i64.wrap (8 * w) - band IntKind.i64 n 31))) (bif false then bits_Neg (ishl IntKind.u64 (bits_Zx a w) (band IntKind.i64 n 31)) w == xflag_bit (bits_Zx a w) (IntKind.i64.wrap (IntKind.i64.wrap (8 * w) - band IntKind.i64 n 31)) else !bits_Neg (ishl IntKind.u64 (bits_Zx a w) (band IntKind.i64 n 31)) w == xflag_bit (bits_Zx a w) (IntKind.i64.wrap (IntKind.i64.wrap (8 * w) - band IntKind.i64 n 31))) w).snd.snd.fst, Cell.int IntKind.u64 (xflag_of (ishl IntKind.u64 (bits_Zx a w) (band IntKind.i64 n 31)) (xflag_bit (bits_Zx a w) (IntKind.i64.wrap (IntKind.i64.wrap (8 * w) - band IntKind.i64 n 31))) (bif false then bits_Neg (ishl IntKind.u64 (bits_Zx a w) (band IntKind.i64 n 31)) w == xflag_bit (bits_Zx a w) (IntKind.i64.wrap (IntKind.i64.wrap (8 * w) - band IntKind.i64 n 31)) else !bits_Neg (ishl IntKind.u64 (bits_Zx a w) (band IntKind.i64 n 31)) w == xflag_bit (bits_Zx a w) (IntKind.i64.wrap (IntKind.i64.wrap (8 * w) - band IntKind.i64 n 31))) w).snd.snd.snd]]) H else bif op == 29 then bif decide (band IntKind.i64 n 31 < 0) then none else K (AV.tup [TV.c (Cell.int IntKind.u64 (xflag_of (ishr IntKind.u64 (bits_Zx a w) (band IntKind.i64 n 31)) (xflag_bit (bits_Zx a w) (IntKind.i64.wrap (band IntKind.i64 n 31 - 1))) (bits_Neg (bits_Zx a w) w) w).fst), TV.agg [Cell.bool (xflag_of (ishr IntKind.u64 (bits_Zx a w) (band IntKind.i64 n 31)) (xflag_bit (bits_Zx a w) (IntKind.i64.wrap (band IntKind.i64 n 31 - 1))) (bits_Neg (bits_Zx a w) w) w).snd.fst, Cell.bool (xflag_of (ishr IntKind.u64 (bits_Zx a w) (band IntKind.i64 n 31)) (xflag_bit (bits_Zx a w) (IntKind.i64.wrap (band IntKind.i64 n 31 - 1))) (bits_Neg (bits_Zx a w) w) w).snd.snd.fst, Cell.int IntKind.u64 (xflag_of (ishr IntKind.u64 (bits_Zx a w) (band IntKind.i64 n 31)) (xflag_bit (bits_Zx a w) (IntKind.i64.wrap (band IntKind.i64 n 31 - 1))) (bits_Neg (bits_Zx a w) w) w).snd.snd.snd]]) H else bif decide (band IntKind.i64 n 31 < 0) then none else K (AV.tup [TV.c (Cell.int IntKind.u64 (xflag_of (IntKind.u64.wrap (ishr IntKind.i64 (IntKind.i64.wrap (bits_Sx (bits_Zx a w) w)) (band IntKind.i64 n 31))) (xflag_bit (bits_Sx (bits_Zx a w) w) (IntKind.i64.wrap (band IntKind.i64 n 31 - 1))) false w).fst), TV.agg [Cell.bool (xflag_of (IntKind.u64.wrap (ishr IntKind.i64 (IntKind.i64.wrap (bits_Sx (bits_Zx a w) w)) (band IntKind.i64 n 31))) (xflag_bit (bits_Sx (bits_Zx a w) w) (IntKind.i64.wrap (band IntKind.i64 n 31 - 1))) false w).snd.fst, Cell.bool (xflag_of (IntKind.u64.wrap (ishr IntKind.i64 (IntKind.i64.wrap (bits_Sx (bits_Zx a w) w)) (band IntKind.i64 n 31))) (xflag_bit (bits_Sx (bits_Zx a w) w) (IntKind.i64.wrap (band IntKind.i64 n 31 - 1))) false w).snd.snd.fst, Cell.int IntKind.u64 (xflag_of (IntKind.u64.wrap (ishr IntKind.i64 (IntKind.i64.wrap (bits_Sx (bits_Zx a w) w)) (band IntKind.i64 n 31))) (xflag_bit (bits_Sx (bits_Zx a w) w) (IntKind.i64.wrap (band IntKind.i64 n 31 - 1))) false w).snd.snd.snd]]) H := by intros; kernel_rfl
theorem s16 (R : Type) (op : Int) (a : Int) (n : Int) (t0 : Bool) (t1 : Bool) (t2 : Int) (w : Int) (H : Heap) (K : AV → Heap → Option R) (lp : Code → St → (AExit → St → Option R) → Option R) : fnL C16 lp Try.f16.results.toList (bodyOf Try.f16) [.c (Cell.int .i64 op), .c (Cell.int .u64 a), .c (Cell.int .i64 n), .agg [Cell.bool t0, Cell.bool t1, Cell.int .u64 t2], .c (Cell.int .i64 w)] H K = K (oneOf [.c (Cell.int .u64 (xflag_Turn op a n t0 t1 t2 w).1), .agg [Cell.bool (xflag_Turn op a n t0 t1 t2 w).2.1, Cell.bool (xflag_Turn op a n t0 t1 t2 w).2.2.1, Cell.int .u64 (xflag_Turn op a n t0 t1 t2 w).2.2.2]]) H := by
  rw [e16]
  have g1 : decide (band .i64 n 63 < 0) = false := by have := (band_i64_small n (k := 6) (by decide)).1; simpa using this
  have g2 : decide (band .i64 n 31 < 0) = false := by have := (band_i64_small n (k := 5) (by decide)).1; simpa using this
  unfold xflag_Turn
  simp only [g1, g2]
  cases bits_Is w
  · rfl
  · cases decide (op < 26)
    · cases decide (op > 30)
      · cases (w == 8)
        · simp only [cond_false, Bool.not_true]
          unfold xturnK
          cases (band .i64 n 31 == 0) <;> cases decide (op ≤ 27) <;> cases (op == 28) <;> cases (op == 29) <;> rfl
        · simp only [cond_false, cond_true, Bool.not_true]
          unfold xturnK
          cases (band .i64 n 63 == 0) <;> cases decide (op ≤ 27) <;> cases (op == 28) <;> cases (op == 29) <;> rfl
      · rfl
    · rfl
theorem ok16 : FnOk Try.prog 16 F16 := by
  refine fn_ok (C := C16) (good14.env rfl) (good14.ctx rfl rfl rfl) (by kernel_rfl) Try.func16 (c := bodyOf Try.f16) (by kernel_rfl) (by kernel_rfl) (Nat.le_of_eq Try.ntmps16.symm) ?_
  intro R args H K r h
  unfold F16 numF G16 at h
  split at h
  · rw [fnA_eq, s16]; exact h
  · cases h
noncomputable def L16 := ((16, F16) : Nat × FnSem) :: L14
noncomputable def N16 : List Nat := 16 :: N14
theorem good16 : Callees Try.prog L16 [] N16 := good14.cons_num ok16 (numF_num _)
/-! xflag_Product -/
def xflag_Product (a b : Int) (signed : Bool) (w : Int) : Int × Int × Bool × Bool × Int :=
  bif bits_Is w then
    let p := bif signed then bits_MulS (bits_Sx a w) (bits_Sx b w) else bits_MulU (bits_Zx a w) (bits_Zx b w)
    let hi := bif decide (w < 8) then bits_Zx (ishr .u64 p.2 (IntKind.i64.wrap (8 * w))) w else p.1
    let lo := bif decide (w < 8) then bits_Zx p.2 w else p.2
    let over := bif signed then !(hi == bif bits_Neg lo w then bits_Mask w else 0) else !(hi == 0)
    ((xflag_of lo over over w).1, hi, (xflag_of lo over over w).2)
  else (0, 0, false, false, 0)
noncomputable def G18 : List TV → Option (List TV) | [.c (Cell.int .u64 a), .c (Cell.int .u64 b), .c (Cell.bool signed), .c (Cell.int .i64 w)] => let r := xflag_Product a b signed w; some [.c (Cell.int .u64 r.1), .c (Cell.int .u64 r.2.1), .agg [Cell.bool r.2.2.1, Cell.bool r.2.2.2.1, Cell.int .u64 r.2.2.2.2]] | _ => none
noncomputable def F18 : FnSem := numF G18
noncomputable def C18 : Ctx := { P := Try.prog, own := [10, 16], fns := L16, nt := 75, nums := N16, live := [] }
theorem e18 : ∀ (R : Type) (a b : Int) (signed : Bool) (w : Int) (H : Heap) (K : AV → Heap → Option R) (lp : Code → St → (AExit → St → Option R) → Option R), fnL C18 lp Try.f18.results.toList (bodyOf Try.f18) [TV.c (Cell.int IntKind.u64 a), TV.c (Cell.int IntKind.u64 b), TV.c (Cell.bool signed), TV.c (Cell.int IntKind.i64 w)] H K = bif !bits_Is w then K (AV.tup [TV.c (Cell.int IntKind.u64 0), TV.c (Cell.int IntKind.u64 0), TV.agg [Cell.bool false, Cell.bool false, Cell.int IntKind.u64 0]]) H else bif signed then bif decide (w < 8) then bif decide (IntKind.i64.wrap (8 * w) < 0) then none else bif signed then bif bits_Neg (bits_Zx (bits_MulS (bits_Sx a w) (bits_Sx b w)).snd w) w then K (AV.tup [TV.c (Cell.int IntKind.u64 (xflag_of (bits_Zx (bits_MulS (bits_Sx a w) (bits_Sx b w)).snd w) (bits_Zx (ishr IntKind.u64 (bits_MulS (bits_Sx a w) (bits_Sx b w)).snd (IntKind.i64.wrap (8 * w))) w != bits_Mask w) (bits_Zx (ishr IntKind.u64 (bits_MulS (bits_Sx a w) (bits_Sx b w)).snd (IntKind.i64.wrap (8 * w))) w != bits_Mask w) w).fst), TV.c (Cell.int IntKind.u64 (bits_Zx (ishr IntKind.u64 (bits_MulS (bits_Sx a w) (bits_Sx b w)).snd (IntKind.i64.wrap (8 * w))) w)), TV.agg [Cell.bool (xflag_of (bits_Zx (bits_MulS (bits_Sx a w) (bits_Sx b w)).snd w) (bits_Zx (ishr IntKind.u64 (bits_MulS (bits_Sx a w) (bits_Sx b w)).snd (IntKind.i64.wrap (8 * w))) w != bits_Mask w) (bits_Zx (ishr IntKind.u64 (bits_MulS (bits_Sx a w) (bits_Sx b w)).snd (IntKind.i64.wrap (8 * w))) w != bits_Mask w) w).snd.fst, Cell.bool (xflag_of (bits_Zx (bits_MulS (bits_Sx a w) (bits_Sx b w)).snd w) (bits_Zx (ishr IntKind.u64 (bits_MulS (bits_Sx a w) (bits_Sx b w)).snd (IntKind.i64.wrap (8 * w))) w != bits_Mask w) (bits_Zx (ishr IntKind.u64 (bits_MulS (bits_Sx a w) (bits_Sx b w)).snd (IntKind.i64.wrap (8 * w))) w != bits_Mask w) w).snd.snd.fst, Cell.int IntKind.u64 (xflag_of (bits_Zx (bits_MulS (bits_Sx a w) (bits_Sx b w)).snd w) (bits_Zx (ishr IntKind.u64 (bits_MulS (bits_Sx a w) (bits_Sx b w)).snd (IntKind.i64.wrap (8 * w))) w != bits_Mask w) (bits_Zx (ishr IntKind.u64 (bits_MulS (bits_Sx a w) (bits_Sx b w)).snd (IntKind.i64.wrap (8 * w))) w != bits_Mask w) w).snd.snd.snd]]) H else K (AV.tup [TV.c (Cell.int IntKind.u64 (xflag_of (bits_Zx (bits_MulS (bits_Sx a w) (bits_Sx b w)).snd w) (bits_Zx (ishr IntKind.u64 (bits_MulS (bits_Sx a w) (bits_Sx b w)).snd (IntKind.i64.wrap (8 * w))) w != 0) (bits_Zx (ishr IntKind.u64 (bits_MulS (bits_Sx a w) (bits_Sx b w)).snd (IntKind.i64.wrap (8 * w))) w != 0) w).fst), TV.c (Cell.int IntKind.u64 (bits_Zx (ishr IntKind.u64 (bits_MulS (bits_Sx a w) (bits_Sx b w)).snd (IntKind.i64.wrap (8 * w))) w)), TV.agg [Cell.bool (xflag_of (bits_Zx (bits_MulS (bits_Sx a w) (bits_Sx b w)).snd w) (bits_Zx (ishr IntKind.u64 (bits_MulS (bits_Sx a w) (bits_Sx b w)).snd (IntKind.i64.wrap (8 * w))) w != 0) (bits_Zx (ishr IntKind.u64 (bits_MulS (bits_Sx a w) (bits_Sx b w)).snd (IntKind.i64.wrap (8 * w))) w != 0) w).snd.fst, Cell.bool (xflag_of (bits_Zx (bits_MulS (bits_Sx a w) (bits_Sx b w)).snd w) (bits_Zx (ishr IntKind.u64 (bits_MulS (bits_Sx a w) (bits_Sx b w)).snd (IntKind.i64.wrap (8 * w))) w != 0) (bits_Zx (ishr IntKind.u64 (bits_MulS (bits_Sx a w) (bits_Sx b w)).snd (IntKind.i64.wrap (8 * w))) w != 0) w).snd.snd.fst, Cell.int IntKind.u64 (xflag_of (bits_Zx (bits_MulS (bits_Sx a w) (bits_Sx b w)).snd w) (bits_Zx (ishr IntKind.u64 (bits_MulS (bits_Sx a w) (bits_Sx b w)).snd (IntKind.i64.wrap (8 * w))) w != 0) (bits_Zx (ishr IntKind.u64 (bits_MulS (bits_Sx a w) (bits_Sx b w)).snd (IntKind.i64.wrap (8 * w))) w != 0) w).snd.snd.snd]]) H else K (AV.tup [TV.c (Cell.int IntKind.u64 (xflag_of (bits_Zx (bits_MulS (bits_Sx a w) (bits_Sx b w)).snd w) (bits_Zx (ishr IntKind.u64 (bits_MulS (bits_Sx a w) (bits_Sx b w)).snd (IntKind.i64.wrap (8 * w))) w != 0) (bits_Zx (ishr IntKind.u64 (bits_MulS (bits_Sx a w) (bits_Sx b w)).snd (IntKind.i64.wrap (8 * w))) w != 0) w).fst), TV.c (Cell.int IntKind.u64 (bits_Zx (ishr IntKind.u64 (bits_MulS (bits_Sx a w) (bits_Sx b w)).snd (IntKind.i64.wrap (8 * w))) w)), TV.agg [Cell.bool (xflag_of (bits_Zx (bits_MulS (bits_Sx a w) (bits_Sx b w)).snd w) (bits_Zx (ishr IntKind.u64 (bits_MulS (bits_Sx a w) (bits_Sx b w)).snd (IntKind.i64.wrap (8 * w))) w != 0) (bits_Zx (ishr IntKind.u64 (bits_MulS (bits_Sx a w) (bits_Sx b w)).snd (IntKind.i64.wrap (8 * w))) w != 0) w).snd.fst, Cell.bool (xflag_of (bits_Zx (bits_MulS (bits_Sx a w) (bits_Sx b w)).snd w) (bits_Zx (ishr IntKind.u64 (bits_MulS (bits_Sx a w) (bits_Sx b w)).snd (IntKind.i64.wrap (8 * w))) w != 0) (bits_Zx (ishr IntKind.u64 (bits_MulS (bits_Sx a w) (bits_Sx b w)).snd (IntKind.i64.wrap (8 * w))) w != 0) w).snd.snd.fst, Cell.int IntKind.u64 (xflag_of (bits_Zx (bits_MulS (bits_Sx a w) (bits_Sx b w)).snd w) (bits_Zx (ishr IntKind.u64 (bits_MulS (bits_Sx a w) (bits_Sx b w)).snd (IntKind.i64.wrap (8 * w))) w != 0) (bits_Zx (ishr IntKind.u64 (bits_MulS (bits_Sx a w) (bits_Sx b w)).snd (IntKind.i64.wrap (8 * w))) w != 0) w).snd.snd.snd]]) H else bif signed then bif bits_Neg (bits_MulS (bits_Sx a w) (bits_Sx b w)).snd w then K (AV.tup [TV.c (Cell.int IntKind.u64 (xflag_of (bits_MulS (bits_Sx a w) (bits_Sx b w)).snd ((bits_MulS (bits_Sx a w) (bits_Sx b w)).fst != bits_Mask w) ((bits_MulS (bits_Sx a w) (bits_Sx b w)).fst != bits_Mask w) w).fst), TV.c (Cell.int IntKind.u64 (bits_MulS (bits_Sx a w) (bits_Sx b w)).fst), TV.agg [Cell.bool (xflag_of (bits_MulS (bits_Sx a w) (bits_Sx b w)).snd ((bits_MulS (bits_Sx a w) (bits_Sx b w)).fst != bits_Mask w) ((bits_MulS (bits_Sx a w) (bits_Sx b w)).fst != bits_Mask w) w).snd.fst, Cell.bool (xflag_of (bits_MulS (bits_Sx a w) (bits_Sx b w)).snd ((bits_MulS (bits_Sx a w) (bits_Sx b w)).fst != bits_Mask w) ((bits_MulS (bits_Sx a w) (bits_Sx b w)).fst != bits_Mask w) w).snd.snd.fst, Cell.int IntKind.u64 (xflag_of (bits_MulS (bits_Sx a w) (bits_Sx b w)).snd ((bits_MulS (bits_Sx a w) (bits_Sx b w)).fst != bits_Mask w) ((bits_MulS (bits_Sx a w) (bits_Sx b w)).fst != bits_Mask w) w).snd.snd.snd]]) H else K (AV.tup [TV.c (Cell.int IntKind.u64 (xflag_of (bits_MulS (bits_Sx a w) (bits_Sx b w)).snd ((bits_MulS (bits_Sx a w) (bits_Sx b w)).fst != 0) ((bits_MulS (bits_Sx a w) (bits_Sx b w)).fst != 0) w).fst), TV.c (Cell.int IntKind.u64 (bits_MulS (bits_Sx a w) (bits_Sx b w)).fst), TV.agg [Cell.bool (xflag_of (bits_MulS (bits_Sx a w) (bits_Sx b w)).snd ((bits_MulS (bits_Sx a w) (bits_Sx b w)).fst != 0) ((bits_MulS (bits_Sx a w) (bits_Sx b w)).fst != 0) w).snd.fst, Cell.bool (xflag_of (bits_MulS (bits_Sx a w) (bits_Sx b w)).snd ((bits_MulS (bits_Sx a w) (bits_Sx b w)).fst != 0) ((bits_MulS (bits_Sx a w) (bits_Sx b w)).fst != 0) w).snd.snd.fst, Cell.int IntKind.u64 (xflag_of (bits_MulS (bits_Sx a w) (bits_Sx b w)).snd ((bits_MulS (bits_Sx a w) (bits_Sx b w)).fst != 0) ((bits_MulS (bits_Sx a w) (bits_Sx b w)).fst != 0) w).snd.snd.snd]]) H else K (AV.tup [TV.c (Cell.int IntKind.u64 (xflag_of (bits_MulS (bits_Sx a w) (bits_Sx b w)).snd ((bits_MulS (bits_Sx a w) (bits_Sx b w)).fst != 0) ((bits_MulS (bits_Sx a w) (bits_Sx b w)).fst != 0) w).fst), TV.c (Cell.int IntKind.u64 (bits_MulS (bits_Sx a w) (bits_Sx b w)).fst), TV.agg [Cell.bool (xflag_of (bits_MulS (bits_Sx a w) (bits_Sx b w)).snd ((bits_MulS (bits_Sx a w) (bits_Sx b w)).fst != 0) ((bits_MulS (bits_Sx a w) (bits_Sx b w)).fst != 0) w).snd.fst, Cell.bool (xflag_of (bits_MulS (bits_Sx a w) (bits_Sx b w)).snd ((bits_MulS (bits_Sx a w) (bits_Sx b w)).fst != 0) ((bits_MulS (bits_Sx a w) (bits_Sx b w)).fst != 0) w).snd.snd.fst, Cell.int IntKind.u64 (xflag_of (bits_MulS (bits_Sx a w) (bits_Sx b w)).snd ((bits_MulS (bits_Sx a w) (bits_Sx b w)).fst != 0) ((bits_MulS (bits_Sx a w) (bits_Sx b w)).fst != 0) w).snd.snd.snd]]) H else bif decide (w < 8) then bif decide (IntKind.i64.wrap (8 * w) < 0) then none else bif signed then bif bits_Neg (bits_Zx (bits_MulU (bits_Zx a w) (bits_Zx b w)).snd w) w then K (AV.tup [TV.c (Cell.int IntKind.u64 (xflag_of (bits_Zx (bits_MulU (bits_Zx a w) (bits_Zx b w)).snd w) (bits_Zx (ishr IntKind.u64 (bits_MulU (bits_Zx a w) (bits_Zx b w)).snd (IntKind.i64.wrap (8 * w))) w != bits_Mask w) (bits_Zx (ishr IntKind.u64 (bits_MulU (bits_Zx a w) (bits_Zx b w)).snd (IntKind.i64.wrap (8 * w))) w != bits_Mask w) w).fst), TV.c (Cell.int IntKind.u64 (bits_Zx (ishr IntKind.u64 (bits_MulU (bits_Zx a w) (bits_Zx b w)).snd (IntKind.i64.wrap (8 * w))) w)), TV.agg [Cell.bool (xflag_of (bits_Zx (bits_MulU (bits_Zx a w) (bits_Zx b w)).snd w) (bits_Zx (ishr IntKind.u64 (bits_MulU (bits_Zx a w) (bits_Zx b w)).snd (IntKind.i64.wrap (8 * w))) w != bits_Mask w) (bits_Zx (ishr IntKind.u64 (bits_MulU (bits_Zx a w) (bits_Zx b w)).snd (IntKind.i64.wrap (8 * w))) w != bits_Mask w) w).snd.fst, Cell.bool (xflag_of (bits_Zx (bits_MulU (bits_Zx a w) (bits_Zx b w)).snd w) (bits_Zx (ishr IntKind.u64 (bits_MulU (bits_Zx a w) (bits_Zx b w)).snd (IntKind.i64.wrap (8 * w))) w != bits_Mask w) (bits_Zx (ishr IntKind.u64 (bits_MulU (bits_Zx a w) (bits_Zx b w)).snd (IntKind.i64.wrap (8 * w))) w != bits_Mask w) w).snd.snd.fst, Cell.int IntKind.u64 (xflag_of (bits_Zx (bits_MulU (bits_Zx a w) (bits_Zx b w)).snd w) (bits_Zx (ishr IntKind.u64 (bits_MulU (bits_Zx a w) (bits_Zx b w)).snd (IntKind.i64.wrap (8 * w))) w != bits_Mask w) (bits_Zx (ishr IntKind.u64 (bits_MulU (bits_Zx a w) (bits_Zx b w)).snd (IntKind.i64.wrap (8 * w))) w != bits_Mask w) w).snd.snd.snd]]) H else K (AV.tup [TV.c (Cell.int IntKind.u64 (xflag_of (bits_Zx (bits_MulU (bits_Zx a w) (bits_Zx b w)).snd w) (bits_Zx (ishr IntKind.u64 (bits_MulU (bits_Zx a w) (bits_Zx b w)).snd (IntKind.i64.wrap (8 * w))) w != 0) (bits_Zx (ishr IntKind.u64 (bits_MulU (bits_Zx a w) (bits_Zx b w)).snd (IntKind.i64.wrap (8 * w))) w != 0) w).fst), TV.c (Cell.int IntKind.u64 (bits_Zx (ishr IntKind.u64 (bits_MulU (bits_Zx a w) (bits_Zx b w)).snd (IntKind.i64.wrap (8 * w))) w)), TV.agg [Cell.bool (xflag_of (bits_Zx (bits_MulU (bits_Zx a w) (bits_Zx b w)).snd w) (bits_Zx (ishr IntKind.u64 (bits_MulU (bits_Zx a w) (bits_Zx b w)).snd (IntKind.i64.wrap (8 * w))) w != 0) (bits_Zx (ishr IntKind.u64 (bits_MulU (bits_Zx a w) (bits_Zx b w)).snd (IntKind.i64.wrap (8 * w))) w != 0) w).snd.fst, Cell.bool (xflag_of (bits_Zx (bits_MulU (bits_Zx a w) (bits_Zx b w)).snd w) (bits_Zx (ishr IntKind.u64 (bits_MulU (bits_Zx a w) (bits_Zx b w)).snd (IntKind.i64.wrap (8 * w))) w != 0) (bits_Zx (ishr IntKind.u64 (bits_MulU (bits_Zx a w) (bits_Zx b w)).snd (IntKind.i64.wrap (8 * w))) w != 0) w).snd.snd.fst, Cell.int IntKind.u64 (xflag_of (bits_Zx (bits_MulU (bits_Zx a w) (bits_Zx b w)).snd w) (bits_Zx (ishr IntKind.u64 (bits_MulU (bits_Zx a w) (bits_Zx b w)).snd (IntKind.i64.wrap (8 * w))) w != 0) (bits_Zx (ishr IntKind.u64 (bits_MulU (bits_Zx a w) (bits_Zx b w)).snd (IntKind.i64.wrap (8 * w))) w != 0) w).snd.snd.snd]]) H else K (AV.tup [TV.c (Cell.int IntKind.u64 (xflag_of (bits_Zx (bits_MulU (bits_Zx a w) (bits_Zx b w)).snd w) (bits_Zx (ishr IntKind.u64 (bits_MulU (bits_Zx a w) (bits_Zx b w)).snd (IntKind.i64.wrap (8 * w))) w != 0) (bits_Zx (ishr IntKind.u64 (bits_MulU (bits_Zx a w) (bits_Zx b w)).snd (IntKind.i64.wrap (8 * w))) w != 0) w).fst), TV.c (Cell.int IntKind.u64 (bits_Zx (ishr IntKind.u64 (bits_MulU (bits_Zx a w) (bits_Zx b w)).snd (IntKind.i64.wrap (8 * w))) w)), TV.agg [Cell.bool (xflag_of (bits_Zx (bits_MulU (bits_Zx a w) (bits_Zx b w)).snd w) (bits_Zx (ishr IntKind.u64 (bits_MulU (bits_Zx a w) (bits_Zx b w)).snd (IntKind.i64.wrap (8 * w))) w != 0) (bits_Zx (ishr IntKind.u64 (bits_MulU (bits_Zx a w) (bits_Zx b w)).snd (IntKind.i64.wrap (8 * w))) w != 0) w).snd.fst, Cell.bool (xflag_of (bits_Zx (bits_MulU (bits_Zx a w) (bits_Zx b w)).snd w) (bits_Zx (ishr IntKind.u64 (bits_MulU (bits_Zx a w) (bits_Zx b w)).snd (IntKind.i64.wrap (8 * w))) w != 0) (bits_Zx (ishr IntKind.u64 (bits_MulU (bits_Zx a w) (bits_Zx b w)).snd (IntKind.i64.wrap (8 * w))) w != 0) w).snd.snd.fst, Cell.int IntKind.u64 (xflag_of (bits_Zx (bits_MulU (bits_Zx a w) (bits_Zx b w)).snd w) (bits_Zx (ishr IntKind.u64 (bits_MulU (bits_Zx a w) (bits_Zx b w)).snd (IntKind.i64.wrap (8 * w))) w != 0) (bits_Zx (ishr IntKind.u64 (bits_MulU (bits_Zx a w) (bits_Zx b w)).snd (IntKind.i64.wrap (8 * w))) w != 0) w).snd.snd.snd]]) H else bif signed then bif bits_Neg (bits_MulU (bits_Zx a w) (bits_Zx b w)).snd w then K (AV.tup [TV.c (Cell.int IntKind.u64 (xflag_of (bits_MulU (bits_Zx a w) (bits_Zx b w)).snd ((bits_MulU (bits_Zx a w) (bits_Zx b w)).fst != bits_Mask w) ((bits_MulU (bits_Zx a w) (bits_Zx b w)).fst != bits_Mask w) w).fst), TV.c (Cell.int IntKind.u64 (bits_MulU (bits_Zx a w) (bits_Zx b w)).fst), TV.agg [Cell.bool (xflag_of (bits_MulU (bits_Zx a w) (bits_Zx b w)).snd ((bits_MulU (bits_Zx a w) (bits_Zx b w)).fst != bits_Mask w) ((bits_MulU (bits_Zx a w) (bits_Zx b w)).fst != bits_Mask w) w).snd.fst, Cell.bool (xflag_of (bits_MulU (bits_Zx a w) (bits_Zx b w)).snd ((bits_MulU (bits_Zx a w) (bits_Zx b w)).fst != bits_Mask w) ((bits_MulU (bits_Zx a w) (bits_Zx b w)).fst != bits_Mask w) w).snd.snd.fst, Cell.int IntKind.u64 (xflag_of (bits_MulU (bits_Zx a w) (bits_Zx b w)).snd ((bits_MulU (bits_Zx a w) (bits_Zx b w)).fst != bits_Mask w) ((bits_MulU (bits_Zx a w) (bits_Zx b w)).fst != bits_Mask w) w).snd.snd.snd]]) H else K (AV.tup [TV.c (Cell.int IntKind.u64 (xflag_of (bits_MulU (bits_Zx a w) (bits_Zx b w)).snd ((bits_MulU (bits_Zx a w) (bits_Zx b w)).fst != 0) ((bits_MulU (bits_Zx a w) (bits_Zx b w)).fst != 0) w).fst), TV.c (Cell.int IntKind.u64 (bits_MulU (bits_Zx a w) (bits_Zx b w)).fst), TV.agg [Cell.bool (xflag_of (bits_MulU (bits_Zx a w) (bits_Zx b w)).snd ((bits_MulU (bits_Zx a w) (bits_Zx b w)).fst != 0) ((bits_MulU (bits_Zx a w) (bits_Zx b w)).fst != 0) w).snd.fst, Cell.bool (xflag_of (bits_MulU (bits_Zx a w) (bits_Zx b w)).snd ((bits_MulU (bits_Zx a w) (bits_Zx b w)).fst != 0) ((bits_MulU (bits_Zx a w) (bits_Zx b w)).fst != 0) w).snd.snd.fst, Cell.int IntKind.u64 (xflag_of (bits_MulU (bits_Zx a w) (bits_Zx b w)).snd ((bits_MulU (bits_Zx a w) (bits_Zx b w)).fst != 0) ((bits_MulU (bits_Zx a w) (bits_Zx b w)).fst != 0) w).snd.snd.snd]]) H else K (AV.tup [TV.c (Cell.int IntKind.u64 (xflag_of (bits_MulU (bits_Zx a w) (bits_Zx b w)).snd ((bits_MulU (bits_Zx a w) (bits_Zx b w)).fst != 0) ((bits_MulU (bits_Zx a w) (bits_Zx b w)).fst != 0) w).fst), TV.c (Cell.int IntKind.u64 (bits_MulU (bits_Zx a w) (bits_Zx b w)).fst), TV.agg [Cell.bool (xflag_of (bits_MulU (bits_Zx a w) (bits_Zx b w)).snd ((bits_MulU (bits_Zx a w) (bits_Zx b w)).fst != 0) ((bits_MulU (bits_Zx a w) (bits_Zx b w)).fst != 0) w).snd.fst, Cell.bool (xflag_of (bits_MulU (bits_Zx a w) (bits_Zx b w)).snd ((bits_MulU (bits_Zx a w) (bits_Zx b w)).fst != 0) ((bits_MulU (bits_Zx a w) (bits_Zx b w)).fst != 0) w).snd.snd.fst, Cell.int IntKind.u64 (xflag_of (bits_MulU (bits_Zx a w) (bits_Zx b w)).snd ((bits_MulU (bits_Zx a w) (bits_Zx b w)).fst != 0) ((bits_MulU (bits_Zx a w) (bits_Zx b w)).fst != 0) w).snd.snd.snd]]) H := by intros; kernel_rfl
theorem s18 (R : Type) (a : Int) (b : Int) (signed : Bool) (w : Int) (H : Heap) (K : AV → Heap → Option R) (lp : Code → St → (AExit → St → Option R) → Option R) : fnL C18 lp Try.f18.results.toList (bodyOf Try.f18) [.c (Cell.int .u64 a), .c (Cell.int .u64 b), .c (Cell.bool signed), .c (Cell.int .i64 w)] H K = K (oneOf [.c (Cell.int .u64 (xflag_Product a b signed w).1), .c (Cell.int .u64 (xflag_Product a b signed w).2.1), .agg [Cell.bool (xflag_Product a b signed w).2.2.1, Cell.bool (xflag_Product a b signed w).2.2.2.1, Cell.int .u64 (xflag_Product a b signed w).2.2.2.2]]) H := by
  rw [e18]
  unfold xflag_Product
  cases h : bits_Is w
  · rfl
  · have g : decide (IntKind.i64.wrap (8 * w) < 0) = false := by rcases is_w h with rfl | rfl | rfl | rfl <;> decide
    rw [g]
    cases signed
    · cases decide (w < 8) <;> rfl
    · cases decide (w < 8)
      · simp only [Bool.not_true, cond_false, cond_true]
        cases bits_Neg (bits_MulS (bits_Sx a w) (bits_Sx b w)).2 w <;> rfl
      · simp only [Bool.not_true, cond_false, cond_true]
        cases bits_Neg (bits_Zx (bits_MulS (bits_Sx a w) (bits_Sx b w)).2 w) w <;> rfl
theorem ok18 : FnOk Try.prog 18 F18 := by
  refine fn_ok (C := C18) (good16.env rfl) (good16.ctx rfl rfl rfl) (by kernel_rfl) Try.func18 (c := bodyOf Try.f18) (by kernel_rfl) (by kernel_rfl) (Nat.le_of_eq Try.ntmps18.symm) ?_
  intro R args H K r h
  unfold F18 numF G18 at h
  split at h
  · rw [fnA_eq, s18]; exact h
  · cases h
noncomputable def L18 := ((18, F18) : Nat × FnSem) :: L16
noncomputable def N18 : List Nat := 18 :: N16
theorem good18 : Callees Try.prog L18 [] N18 := good16.cons_num ok18 (numF_num _)
/-! xflag_divided -/
def xflag_divided (v d w : Int) : Int × Int × Bool :=
  bif !bits_Fits (IntKind.i64.wrap (v.tdiv d)) (IntKind.i64.wrap (8 * w)) then (0, 0, false)
  else bif v == -9223372036854775808 && d == -1 then (0, 0, false)
  else (bits_Zx (IntKind.u64.wrap (IntKind.i64.wrap (v.tdiv d))) w, bits_Zx (IntKind.u64.wrap (v.tmod d)) w, true)
noncomputable def G57 : List TV → Option (List TV) | [.c (Cell.int .i64 v), .c (Cell.int .i64 d), .c (Cell.int .i64 w)] => let r := xflag_divided v d w; some [.c (Cell.int .u64 r.1), .c (Cell.int .u64 r.2.1), .c (Cell.bool r.2.2)] | _ => none
noncomputable def Guard57 : List TV → Bool | [.c (Cell.int .i64 v), .c (Cell.int .i64 d), .c (Cell.int .i64 w)] => !(d == 0) | _ => false
noncomputable def F57 : FnSem := numG Guard57 G57
noncomputable def C57 : Ctx := { P := Try.prog, own := [], fns := L18, nt := 38, nums := N18, live := [] }
theorem e57 : ∀ (R : Type) (v d w : Int) (H : Heap) (K : AV → Heap → Option R) (lp : Code → St → (AExit → St → Option R) → Option R), fnL C57 lp Try.f57.results.toList (bodyOf Try.f57) [TV.c (Cell.int IntKind.i64 v), TV.c (Cell.int IntKind.i64 d), TV.c (Cell.int IntKind.i64 w)] H K = bif d == 0 then none else bif d == 0 then none else bif !bits_Fits (IntKind.i64.wrap (v.tdiv d)) (IntKind.i64.wrap (8 * w)) then K (AV.tup [TV.c (Cell.int IntKind.u64 0), TV.c (Cell.int IntKind.u64 0), TV.c (Cell.bool false)]) H else bif v == -9223372036854775808 then bif d == -1 then K (AV.tup [TV.c (Cell.int IntKind.u64 0), TV.c (Cell.int IntKind.u64 0), TV.c (Cell.bool false)]) H else K (AV.tup [TV.c (Cell.int IntKind.u64 (bits_Zx (IntKind.u64.wrap (IntKind.i64.wrap (v.tdiv d))) w)), TV.c (Cell.int IntKind.u64 (bits_Zx (IntKind.u64.wrap (v.tmod d)) w)), TV.c (Cell.bool true)]) H else K (AV.tup [TV.c (Cell.int IntKind.u64 (bits_Zx (IntKind.u64.wrap (IntKind.i64.wrap (v.tdiv d))) w)), TV.c (Cell.int IntKind.u64 (bits_Zx (IntKind.u64.wrap (v.tmod d)) w)), TV.c (Cell.bool true)]) H := by intros; kernel_rfl
theorem s57 (R : Type) (v : Int) (d : Int) (w : Int) (H : Heap) (K : AV → Heap → Option R) (lp : Code → St → (AExit → St → Option R) → Option R) (hg : (!(d == 0)) = true) : fnL C57 lp Try.f57.results.toList (bodyOf Try.f57) [.c (Cell.int .i64 v), .c (Cell.int .i64 d), .c (Cell.int .i64 w)] H K = K (oneOf [.c (Cell.int .u64 (xflag_divided v d w).1), .c (Cell.int .u64 (xflag_divided v d w).2.1), .c (Cell.bool (xflag_divided v d w).2.2)]) H := by
  rw [e57]
  have g : (d == 0) = false := by simpa using hg
  unfold xflag_divided
  rw [g]
  cases bits_Fits (IntKind.i64.wrap (v.tdiv d)) (IntKind.i64.wrap (8 * w)) <;> cases (v == -9223372036854775808) <;> cases (d == -1) <;> rfl
theorem ok57 : FnOk Try.prog 57 F57 := by
  refine fn_ok (C := C57) (good18.env rfl) (good18.ctx rfl rfl rfl) (by kernel_rfl) Try.func57 (c := bodyOf Try.f57) (by kernel_rfl) (by kernel_rfl) (Nat.le_of_eq Try.ntmps57.symm) ?_
  intro R args H K r h
  unfold F57 numG at h
  cases hc : Guard57 args with
  | false => rw [hc] at h; cases h
  | true =>
    rw [hc] at h
    unfold G57 at h
    simp only [cond_true] at h
    split at h
    · rw [fnA_eq, s57 (hg := hc)]; exact h
    · cases h
noncomputable def L57 := ((57, F57) : Nat × FnSem) :: L18
noncomputable def N57 : List Nat := 57 :: N18
theorem good57 : Callees Try.prog L57 [] N57 := good18.cons_num ok57 (numG_num _ _)
/-! xflag_Quotient -/
theorem sx_eq {w : Int} (h : bits_Is w = true) (v : Int) : bits_Sx v w = bif decide (v % 2 ^ (8 * w.toNat) < 2 ^ (8 * w.toNat - 1)) then v % 2 ^ (8 * w.toNat) else v % 2 ^ (8 * w.toNat) + 18446744073709551616 - 2 ^ (8 * w.toNat) := by
  unfold bits_Sx ishr ishl
  rw [h]
  rcases is_w h with rfl | rfl | rfl | rfl <;> simp [IntKind.wrap, IntKind.bits, IntKind.signed, Int.fdiv_eq_ediv_of_nonneg, cond_eq_ite] <;> omega
def xflag_Quotient (hi lo d : Int) (signed : Bool) (w : Int) : Int × Int × Bool :=
  bif bits_Is w && (!(w == 8) && !(bits_Zx d w == 0)) then
    let v := bor .u64 (ishl .u64 (bits_Zx hi w) (IntKind.i64.wrap (8 * w))) (bits_Zx lo w)
    bif signed then xflag_divided (IntKind.i64.wrap (bits_Sx v (IntKind.i64.wrap (2 * w)))) (IntKind.i64.wrap (bits_Sx (bits_Zx d w) w)) w
    else bif decide (IntKind.u64.wrap (v.tdiv (bits_Zx d w)) > bits_Mask w) then (0, 0, false) else (IntKind.u64.wrap (v.tdiv (bits_Zx d w)), v.tmod (bits_Zx d w), true)
  else (0, 0, false)
theorem sx_ne {w d : Int} (h : bits_Is w = true) (h8 : (w == 8) = false) (hd : (bits_Zx d w == 0) = false) : (IntKind.i64.wrap (bits_Sx (bits_Zx d w) w) == 0) = false := by
  rw [sx_eq h]
  unfold bits_Zx at hd ⊢
  rw [h] at hd ⊢
  rcases is_w h with rfl | rfl | rfl | rfl
  all_goals simp [IntKind.wrap, IntKind.bits, IntKind.signed, cond_eq_ite] at hd h8 ⊢
  all_goals omega
noncomputable def G20 : List TV → Option (List TV) | [.c (Cell.int .u64 hi), .c (Cell.int .u64 lo), .c (Cell.int .u64 d), .c (Cell.bool signed), .c (Cell.int .i64 w)] => let r := xflag_Quotient hi lo d signed w; some [.c (Cell.int .u64 r.1), .c (Cell.int .u64 r.2.1), .c (Cell.bool r.2.2)] | _ => none
noncomputable def F20 : FnSem := numF G20
noncomputable def C20 : Ctx := { P := Try.prog, own := [], fns := L57, nt := 66, nums := N57, live := [] }
theorem e20 : ∀ (R : Type) (hi lo d : Int) (signed : Bool) (w : Int) (H : Heap) (K : AV → Heap → Option R) (lp : Code → St → (AExit → St → Option R) → Option R), fnL C20 lp Try.f20.results.toList (bodyOf Try.f20) [TV.c (Cell.int IntKind.u64 hi), TV.c (Cell.int IntKind.u64 lo), TV.c (Cell.int IntKind.u64 d), TV.c (Cell.bool signed), TV.c (Cell.int IntKind.i64 w)] H K = bif !bits_Is w then K (AV.tup [TV.c (Cell.int IntKind.u64 0), TV.c (Cell.int IntKind.u64 0), TV.c (Cell.bool false)]) H else bif w == 8 then K (AV.tup [TV.c (Cell.int IntKind.u64 0), TV.c (Cell.int IntKind.u64 0), TV.c (Cell.bool false)]) H else bif decide (IntKind.i64.wrap (8 * w) < 0) then none else bif bits_Zx d w == 0 then K (AV.tup [TV.c (Cell.int IntKind.u64 0), TV.c (Cell.int IntKind.u64 0), TV.c (Cell.bool false)]) H else bif !signed then bif bits_Zx d w == 0 then none else bif bits_Zx d w == 0 then none else bif decide (IntKind.u64.wrap ((bor IntKind.u64 (ishl IntKind.u64 (bits_Zx hi w) (IntKind.i64.wrap (8 * w))) (bits_Zx lo w)).tdiv (bits_Zx d w)) > bits_Mask w) then K (AV.tup [TV.c (Cell.int IntKind.u64 0), TV.c (Cell.int IntKind.u64 0), TV.c (Cell.bool false)]) H else K (AV.tup [TV.c (Cell.int IntKind.u64 (IntKind.u64.wrap ((bor IntKind.u64 (ishl IntKind.u64 (bits_Zx hi w) (IntKind.i64.wrap (8 * w))) (bits_Zx lo w)).tdiv (bits_Zx d w)))), TV.c (Cell.int IntKind.u64 ((bor IntKind.u64 (ishl IntKind.u64 (bits_Zx hi w) (IntKind.i64.wrap (8 * w))) (bits_Zx lo w)).tmod (bits_Zx d w))), TV.c (Cell.bool true)]) H else bif !IntKind.i64.wrap (bits_Sx (bits_Zx d w) w) == 0 then K (AV.tup [TV.c (Cell.int IntKind.u64 (xflag_divided (IntKind.i64.wrap (bits_Sx (bor IntKind.u64 (ishl IntKind.u64 (bits_Zx hi w) (IntKind.i64.wrap (8 * w))) (bits_Zx lo w)) (IntKind.i64.wrap (2 * w)))) (IntKind.i64.wrap (bits_Sx (bits_Zx d w) w)) w).fst), TV.c (Cell.int IntKind.u64 (xflag_divided (IntKind.i64.wrap (bits_Sx (bor IntKind.u64 (ishl IntKind.u64 (bits_Zx hi w) (IntKind.i64.wrap (8 * w))) (bits_Zx lo w)) (IntKind.i64.wrap (2 * w)))) (IntKind.i64.wrap (bits_Sx (bits_Zx d w) w)) w).snd.fst), TV.c (Cell.bool (xflag_divided (IntKind.i64.wrap (bits_Sx (bor IntKind.u64 (ishl IntKind.u64 (bits_Zx hi w) (IntKind.i64.wrap (8 * w))) (bits_Zx lo w)) (IntKind.i64.wrap (2 * w)))) (IntKind.i64.wrap (bits_Sx (bits_Zx d w) w)) w).snd.snd)]) H else none := by intros; kernel_rfl
theorem s20 (R : Type) (hi : Int) (lo : Int) (d : Int) (signed : Bool) (w : Int) (H : Heap) (K : AV → Heap → Option R) (lp : Code → St → (AExit → St → Option R) → Option R) : fnL C20 lp Try.f20.results.toList (bodyOf Try.f20) [.c (Cell.int .u64 hi), .c (Cell.int .u64 lo), .c (Cell.int .u64 d), .c (Cell.bool signed), .c (Cell.int .i64 w)] H K = K (oneOf [.c (Cell.int .u64 (xflag_Quotient hi lo d signed w).1), .c (Cell.int .u64 (xflag_Quotient hi lo d signed w).2.1), .c (Cell.bool (xflag_Quotient hi lo d signed w).2.2)]) H := by
  rw [e20]
  unfold xflag_Quotient
  cases h : bits_Is w
  · rfl
  · have g : decide (IntKind.i64.wrap (8 * w) < 0) = false := by rcases is_w h with rfl | rfl | rfl | rfl <;> decide
    rw [g]
    cases h8 : (w == 8)
    · cases hd : (bits_Zx d w == 0)
      · have gd := sx_ne h h8 hd
        rw [gd]
        cases signed
        · simp only [Bool.not_true, Bool.not_false, cond_false, cond_true, Bool.and_true]
          cases decide (IntKind.u64.wrap ((bor .u64 (ishl .u64 (bits_Zx hi w) (IntKind.i64.wrap (8 * w))) (bits_Zx lo w)).tdiv (bits_Zx d w)) > bits_Mask w) <;> rfl
        · rfl
      · rfl
    · rfl
theorem ok20 : FnOk Try.prog 20 F20 := by
  refine fn_ok (C := C20) (good57.env rfl) (good57.ctx rfl rfl rfl) (by kernel_rfl) Try.func20 (c := bodyOf Try.f20) (by kernel_rfl) (by kernel_rfl) (Nat.le_of_eq Try.ntmps20.symm) ?_
  intro R args H K r h
  unfold F20 numF G20 at h
  split at h
  · rw [fnA_eq, s20]; exact h
  · cases h
noncomputable def L20 := ((20, F20) : Nat × FnSem) :: L57
noncomputable def N20 : List Nat := 20 :: N57
theorem good20 : Callees Try.prog L20 [] N20 := good57.cons_num ok20 (numF_num _)
/-! xflag_Thunk_Sign -/
def xflag_Thunk_Sign (t0 t1 : Bool) (t2 : Int) : Bool := decide (IntKind.i64.wrap t2 < 0)
noncomputable def G30 : List TV → Option (List TV) | [.agg [Cell.bool t0, Cell.bool t1, Cell.int .u64 t2]] => some [.c (Cell.bool (xflag_Thunk_Sign t0 t1 t2))] | _ => none
noncomputable def F30 : FnSem := numF G30
noncomputable def C30 : Ctx := { P := Try.prog, own := [1], fns := L20, nt := 7, nums := N20, live := [] }
theorem e30 : ∀ (R : Type) (t0 t1 : Bool) (t2 : Int) (H : Heap) (K : AV → Heap → Option R) (lp : Code → St → (AExit → St → Option R) → Option R), fnL C30 lp Try.f30.results.toList (bodyOf Try.f30) [TV.agg [Cell.bool t0, Cell.bool t1, Cell.int IntKind.u64 t2]] H K = K (AV.c (Cell.bool (decide (IntKind.i64.wrap t2 < 0)))) H := by intros; kernel_rfl
theorem s30 (R : Type) (t0 : Bool) (t1 : Bool) (t2 : Int) (H : Heap) (K : AV → Heap → Option R) (lp : Code → St → (AExit → St → Option R) → Option R) : fnL C30 lp Try.f30.results.toList (bodyOf Try.f30) [.agg [Cell.bool t0, Cell.bool t1, Cell.int .u64 t2]] H K = K (oneOf [.c (Cell.bool (xflag_Thunk_Sign t0 t1 t2))]) H := by
  rw [e30]
  rfl
theorem ok30 : FnOk Try.prog 30 F30 := by
  refine fn_ok (C := C30) (good20.env rfl) (good20.ctx rfl rfl rfl) (by kernel_rfl) Try.func30 (c := bodyOf Try.f30) (by kernel_rfl) (by kernel_rfl) (Nat.le_of_eq Try.ntmps30.symm) ?_
  intro R args H K r h
  unfold F30 numF G30 at h
  split at h
  · rw [fnA_eq, s30]; exact h
  · cases h
noncomputable def L30 := ((30, F30) : Nat × FnSem) :: L20
noncomputable def N30 : List Nat := 30 :: N20
theorem good30 : Callees Try.prog L30 [] N30 := good20.cons_num ok30 (numF_num _)
/-! L08_awake -/
def L08_awake : Bool := true
noncomputable def G15 : List TV → Option (List TV) | [] => some [.c (Cell.bool (L08_awake))] | _ => none
noncomputable def F15 : FnSem := numF G15
noncomputable def C15 : Ctx := { P := Try.prog, own := [2, 4, 7], fns := L30, nt := 85, nums := N30, live := [] }
theorem e15 : ∀ (R : Type) (H : Heap) (K : AV → Heap → Option R) (lp : Code → St → (AExit → St → Option R) → Option R), fnL C15 lp Try.f15.results.toList (bodyOf Try.f15) [] H K = K (AV.c (Cell.bool true)) H := by intros; kernel_rfl
theorem s15 (R : Type) (H : Heap) (K : AV → Heap → Option R) (lp : Code → St → (AExit → St → Option R) → Option R) : fnL C15 lp Try.f15.results.toList (bodyOf Try.f15) [] H K = K (oneOf [.c (Cell.bool (L08_awake))]) H := by
  rw [e15]
  rfl
theorem ok15 : FnOk Try.prog 15 F15 := by
  refine fn_ok (C := C15) (good30.env rfl) (good30.ctx rfl rfl rfl) (by kernel_rfl) Try.func15 (c := bodyOf Try.f15) (by kernel_rfl) (by kernel_rfl) (Nat.le_of_eq Try.ntmps15.symm) ?_
  intro R args H K r h
  unfold F15 numF G15 at h
  split at h
  · rw [fnA_eq, s15]; exact h
  · cases h
noncomputable def L15 := ((15, F15) : Nat × FnSem) :: L30
noncomputable def N15 : List Nat := 15 :: N30
theorem good15 : Callees Try.prog L15 [] N15 := good30.cons_num ok15 (numF_num _)
/-! xflag_One -/
def xflag_One (op a : Int) (t0 t1 : Bool) (t2 w : Int) : Int × Bool × Bool × Int :=
  bif bits_Is w then
    bif op == 18 then (bits_Zx (bxor .u64 18446744073709551615 a) w, t0, t1, t2)
    else bif op == 19 then xflag_Two 6 0 a t0 t1 t2 w
    else bif op == 16 then ((xflag_Two 1 a 1 t0 t1 t2 w).1, t0, (xflag_Two 1 a 1 t0 t1 t2 w).2.2)
    else bif op == 17 then ((xflag_Two 6 a 1 t0 t1 t2 w).1, t0, (xflag_Two 6 a 1 t0 t1 t2 w).2.2)
    else (0, t0, t1, t2)
  else (0, t0, t1, t2)
noncomputable def G24 : List TV → Option (List TV) | [.c (Cell.int .i64 op), .c (Cell.int .u64 a), .agg [Cell.bool t0, Cell.bool t1, Cell.int .u64 t2], .c (Cell.int .i64 w)] => let r := xflag_One op a t0 t1 t2 w; some [.c (Cell.int .u64 r.1), .agg [Cell.bool r.2.1, Cell.bool r.2.2.1, Cell.int .u64 r.2.2.2]] | _ => none
noncomputable def F24 : FnSem := numF G24
noncomputable def C24 : Ctx := { P := Try.prog, own := [6, 9, 12], fns := L15, nt := 52, nums := N15, live := [] }
theorem e24 : ∀ (R : Type) (op a : Int) (t0 t1 : Bool) (t2 w : Int) (H : Heap) (K : AV → Heap → Option R) (lp : Code → St → (AExit → St → Option R) → Option R), fnL C24 lp Try.f24.results.toList (bodyOf Try.f24) [TV.c (Cell.int IntKind.i64 op), TV.c (Cell.int IntKind.u64 a), TV.agg [Cell.bool t0, Cell.bool t1, Cell.int IntKind.u64 t2], TV.c (Cell.int IntKind.i64 w)] H K = bif !bits_Is w then K (AV.tup [TV.c (Cell.int IntKind.u64 0), TV.agg [Cell.bool t0, Cell.bool t1, Cell.int IntKind.u64 t2]]) H else bif op == 18 then K (AV.tup [TV.c (Cell.int IntKind.u64 (bits_Zx (bxor IntKind.u64 18446744073709551615 a) w)), TV.agg [Cell.bool t0, Cell.bool t1, Cell.int IntKind.u64 t2]]) H else bif op == 19 then K (AV.tup [TV.c (Cell.int IntKind.u64 (xflag_Two 6 0 a t0 t1 t2 w).fst), TV.agg [Cell.bool (xflag_Two 6 0 a t0 t1 t2 w).snd.fst, Cell.bool (xflag_Two 6 0 a t0 t1 t2 w).snd.snd.fst, Cell.int IntKind.u64 (xflag_Two 6 0 a t0 t1 t2 w).snd.snd.snd]]) H else bif op == 16 then bif op == 16 then bif op == 17 then K (AV.tup [TV.c (Cell.int IntKind.u64 (xflag_Two 6 a 1 t0 t1 t2 w).fst), TV.agg [Cell.bool t0, Cell.bool (xflag_Two 6 a 1 t0 t1 t2 w).snd.snd.fst, Cell.int IntKind.u64 (xflag_Two 6 a 1 t0 t1 t2 w).snd.snd.snd]]) H else K (AV.tup [TV.c (Cell.int IntKind.u64 (xflag_Two 1 a 1 t0 t1 t2 w).fst), TV.agg [Cell.bool t0, Cell.bool (xflag_Two 1 a 1 t0 t1 t2 w).snd.snd.fst, Cell.int IntKind.u64 (xflag_Two 1 a 1 t0 t1 t2 w).snd.snd.snd]]) H else K (AV.tup [TV.c (Cell.int IntKind.u64 0), TV.agg [Cell.bool t0, Cell.bool t1, Cell.int IntKind.u64 t2]]) H else bif op == 17 then bif op == 17 then K (AV.tup [TV.c (Cell.int IntKind.u64 (xflag_Two 6 a 1 t0 t1 t2 w).fst), TV.agg [Cell.bool t0, Cell.bool (xflag_Two 6 a 1 t0 t1 t2 w).snd.snd.fst, Cell.int IntKind.u64 (xflag_Two 6 a 1 t0 t1 t2 w).snd.snd.snd]]) H else K (AV.tup [TV.c (Cell.int IntKind.u64 (xflag_Two 1 a 1 t0 t1 t2 w).fst), TV.agg [Cell.bool t0, Cell.bool (xflag_Two 1 a 1 t0 t1 t2 w).snd.snd.fst, Cell.int IntKind.u64 (xflag_Two 1 a 1 t0 t1 t2 w).snd.snd.snd]]) H else K (AV.tup [TV.c (Cell.int IntKind.u64 0), TV.agg [Cell.bool t0, Cell.bool t1, Cell.int IntKind.u64 t2]]) H := by intros; kernel_rfl
theorem s24 (R : Type) (op : Int) (a : Int) (t0 : Bool) (t1 : Bool) (t2 : Int) (w : Int) (H : Heap) (K : AV → Heap → Option R) (lp : Code → St → (AExit → St → Option R) → Option R) : fnL C24 lp Try.f24.results.toList (bodyOf Try.f24) [.c (Cell.int .i64 op), .c (Cell.int .u64 a), .agg [Cell.bool t0, Cell.bool t1, Cell.int .u64 t2], .c (Cell.int .i64 w)] H K = K (oneOf [.c (Cell.int .u64 (xflag_One op a t0 t1 t2 w).1), .agg [Cell.bool (xflag_One op a t0 t1 t2 w).2.1, Cell.bool (xflag_One op a t0 t1 t2 w).2.2.1, Cell.int .u64 (xflag_One op a t0 t1 t2 w).2.2.2]]) H := by
  rw [e24]
  unfold xflag_One
  cases bits_Is w
  · rfl
  · cases (op == 18)
    · cases (op == 19)
      · by_cases h : op = 16
        · subst h; rfl
        · have h1 : (op == 16) = false := by simpa using h
          rw [h1]
          cases (op == 17) <;> rfl
      · rfl
    · rfl
theorem ok24 : FnOk Try.prog 24 F24 := by
  refine fn_ok (C := C24) (good15.env rfl) (good15.ctx rfl rfl rfl) (by kernel_rfl) Try.func24 (c := bodyOf Try.f24) (by kernel_rfl) (by kernel_rfl) (Nat.le_of_eq Try.ntmps24.symm) ?_
  intro R args H K r h
  unfold F24 numF G24 at h
  split at h
  · rw [fnA_eq, s24]; exact h
  · cases h
noncomputable def L24 := ((24, F24) : Nat × FnSem) :: L15
noncomputable def N24 : List Nat := 24 :: N15
theorem good24 : Callees Try.prog L24 [] N24 := good15.cons_num ok24 (numF_num _)
/-! xflag_Thunk_Zero -/
def xflag_Thunk_Zero (t0 t1 : Bool) (t2 : Int) : Bool := t2 == 0
noncomputable def G28 : List TV → Option (List TV) | [.agg [Cell.bool t0, Cell.bool t1, Cell.int .u64 t2]] => some [.c (Cell.bool (xflag_Thunk_Zero t0 t1 t2))] | _ => none
noncomputable def F28 : FnSem := numF G28
noncomputable def C28 : Ctx := { P := Try.prog, own := [1], fns := L24, nt := 6, nums := N24, live := [] }
theorem e28 : ∀ (R : Type) (t0 t1 : Bool) (t2 : Int) (H : Heap) (K : AV → Heap → Option R) (lp : Code → St → (AExit → St → Option R) → Option R), fnL C28 lp Try.f28.results.toList (bodyOf Try.f28) [TV.agg [Cell.bool t0, Cell.bool t1, Cell.int IntKind.u64 t2]] H K = K (AV.c (Cell.bool (t2 == 0))) H := by intros; kernel_rfl
theorem s28 (R : Type) (t0 : Bool) (t1 : Bool) (t2 : Int) (H : Heap) (K : AV → Heap → Option R) (lp : Code → St → (AExit → St → Option R) → Option R) : fnL C28 lp Try.f28.results.toList (bodyOf Try.f28) [.agg [Cell.bool t0, Cell.bool t1, Cell.int .u64 t2]] H K = K (oneOf [.c (Cell.bool (xflag_Thunk_Zero t0 t1 t2))]) H := by
  rw [e28]
  rfl
theorem ok28 : FnOk Try.prog 28 F28 := by
  refine fn_ok (C := C28) (good24.env rfl) (good24.ctx rfl rfl rfl) (by kernel_rfl) Try.func28 (c := bodyOf Try.f28) (by kernel_rfl) (by kernel_rfl) (Nat.le_of_eq Try.ntmps28.symm) ?_
  intro R args H K r h
  unfold F28 numF G28 at h
  split at h
  · rw [fnA_eq, s28]; exact h
  · cases h
noncomputable def L28 := ((28, F28) : Nat × FnSem) :: L24
noncomputable def N28 : List Nat := 28 :: N24
theorem good28 : Callees Try.prog L28 [] N28 := good24.cons_num ok28 (numF_num _)
/-! mbits_OnesCount8 -/
def pop8 : List UInt8 := [UInt8.ofNat 0, UInt8.ofNat 1, UInt8.ofNat 1, UInt8.ofNat 2, UInt8.ofNat 1, UInt8.ofNat 2, UInt8.ofNat 2, UInt8.ofNat 3, UInt8.ofNat 1, UInt8.ofNat 2, UInt8.ofNat 2, UInt8.ofNat 3, UInt8.ofNat 2, UInt8.ofNat 3, UInt8.ofNat 3, UInt8.ofNat 4, UInt8.ofNat 1, UInt8.ofNat 2, UInt8.ofNat 2, UInt8.ofNat 3, UInt8.ofNat 2, UInt8.ofNat 3, UInt8.ofNat 3, UInt8.ofNat 4, UInt8.ofNat 2, UInt8.ofNat 3, UInt8.ofNat 3, UInt8.ofNat 4, UInt8.ofNat 3, UInt8.ofNat 4, UInt8.ofNat 4, UInt8.ofNat 5, UInt8.ofNat 1, UInt8.ofNat 2, UInt8.ofNat 2, UInt8.ofNat 3, UInt8.ofNat 2, UInt8.ofNat 3, UInt8.ofNat 3, UInt8.ofNat 4, UInt8.ofNat 2, UInt8.ofNat 3, UInt8.ofNat 3, UInt8.ofNat 4, UInt8.ofNat 3, UInt8.ofNat 4, UInt8.ofNat 4, UInt8.ofNat 5, UInt8.ofNat 2, UInt8.ofNat 3, UInt8.ofNat 3, UInt8.ofNat 4, UInt8.ofNat 3, UInt8.ofNat 4, UInt8.ofNat 4, UInt8.ofNat 5, UInt8.ofNat 3, UInt8.ofNat 4, UInt8.ofNat 4, UInt8.ofNat 5, UInt8.ofNat 4, UInt8.ofNat 5, UInt8.ofNat 5, UInt8.ofNat 6, UInt8.ofNat 1, UInt8.ofNat 2, UInt8.ofNat 2, UInt8.ofNat 3, UInt8.ofNat 2, UInt8.ofNat 3, UInt8.ofNat 3, UInt8.ofNat 4, UInt8.ofNat 2, UInt8.ofNat 3, UInt8.ofNat 3, UInt8.ofNat 4, UInt8.ofNat 3, UInt8.ofNat 4, UInt8.ofNat 4, UInt8.ofNat 5, UInt8.ofNat 2, UInt8.ofNat 3, UInt8.ofNat 3, UInt8.ofNat 4, UInt8.ofNat 3, UInt8.ofNat 4, UInt8.ofNat 4, UInt8.ofNat 5, UInt8.ofNat 3, UInt8.ofNat 4, UInt8.ofNat 4, UInt8.ofNat 5, UInt8.ofNat 4, UInt8.ofNat 5, UInt8.ofNat 5, UInt8.ofNat 6, UInt8.ofNat 2, UInt8.ofNat 3, UInt8.ofNat 3, UInt8.ofNat 4, UInt8.ofNat 3, UInt8.ofNat 4, UInt8.ofNat 4, UInt8.ofNat 5, UInt8.ofNat 3, UInt8.ofNat 4, UInt8.ofNat 4, UInt8.ofNat 5, UInt8.ofNat 4, UInt8.ofNat 5, UInt8.ofNat 5, UInt8.ofNat 6, UInt8.ofNat 3, UInt8.ofNat 4, UInt8.ofNat 4, UInt8.ofNat 5, UInt8.ofNat 4, UInt8.ofNat 5, UInt8.ofNat 5, UInt8.ofNat 6, UInt8.ofNat 4, UInt8.ofNat 5, UInt8.ofNat 5, UInt8.ofNat 6, UInt8.ofNat 5, UInt8.ofNat 6, UInt8.ofNat 6, UInt8.ofNat 7, UInt8.ofNat 1, UInt8.ofNat 2, UInt8.ofNat 2, UInt8.ofNat 3, UInt8.ofNat 2, UInt8.ofNat 3, UInt8.ofNat 3, UInt8.ofNat 4, UInt8.ofNat 2, UInt8.ofNat 3, UInt8.ofNat 3, UInt8.ofNat 4, UInt8.ofNat 3, UInt8.ofNat 4, UInt8.ofNat 4, UInt8.ofNat 5, UInt8.ofNat 2, UInt8.ofNat 3, UInt8.ofNat 3, UInt8.ofNat 4, UInt8.ofNat 3, UInt8.ofNat 4, UInt8.ofNat 4, UInt8.ofNat 5, UInt8.ofNat 3, UInt8.ofNat 4, UInt8.ofNat 4, UInt8.ofNat 5, UInt8.ofNat 4, UInt8.ofNat 5, UInt8.ofNat 5, UInt8.ofNat 6, UInt8.ofNat 2, UInt8.ofNat 3, UInt8.ofNat 3, UInt8.ofNat 4, UInt8.ofNat 3, UInt8.ofNat 4, UInt8.ofNat 4, UInt8.ofNat 5, UInt8.ofNat 3, UInt8.ofNat 4, UInt8.ofNat 4, UInt8.ofNat 5, UInt8.ofNat 4, UInt8.ofNat 5, UInt8.ofNat 5, UInt8.ofNat 6, UInt8.ofNat 3, UInt8.ofNat 4, UInt8.ofNat 4, UInt8.ofNat 5, UInt8.ofNat 4, UInt8.ofNat 5, UInt8.ofNat 5, UInt8.ofNat 6, UInt8.ofNat 4, UInt8.ofNat 5, UInt8.ofNat 5, UInt8.ofNat 6, UInt8.ofNat 5, UInt8.ofNat 6, UInt8.ofNat 6, UInt8.ofNat 7, UInt8.ofNat 2, UInt8.ofNat 3, UInt8.ofNat 3, UInt8.ofNat 4, UInt8.ofNat 3, UInt8.ofNat 4, UInt8.ofNat 4, UInt8.ofNat 5, UInt8.ofNat 3, UInt8.ofNat 4, UInt8.ofNat 4, UInt8.ofNat 5, UInt8.ofNat 4, UInt8.ofNat 5, UInt8.ofNat 5, UInt8.ofNat 6, UInt8.ofNat 3, UInt8.ofNat 4, UInt8.ofNat 4, UInt8.ofNat 5, UInt8.ofNat 4, UInt8.ofNat 5, UInt8.ofNat 5, UInt8.ofNat 6, UInt8.ofNat 4, UInt8.ofNat 5, UInt8.ofNat 5, UInt8.ofNat 6, UInt8.ofNat 5, UInt8.ofNat 6, UInt8.ofNat 6, UInt8.ofNat 7, UInt8.ofNat 3, UInt8.ofNat 4, UInt8.ofNat 4, UInt8.ofNat 5, UInt8.ofNat 4, UInt8.ofNat 5, UInt8.ofNat 5, UInt8.ofNat 6, UInt8.ofNat 4, UInt8.ofNat 5, UInt8.ofNat 5, UInt8.ofNat 6, UInt8.ofNat 5, UInt8.ofNat 6, UInt8.ofNat 6, UInt8.ofNat 7, UInt8.ofNat 4, UInt8.ofNat 5, UInt8.ofNat 5, UInt8.ofNat 6, UInt8.ofNat 5, UInt8.ofNat 6, UInt8.ofNat 6, UInt8.ofNat 7, UInt8.ofNat 5, UInt8.ofNat 6, UInt8.ofNat 6, UInt8.ofNat 7, UInt8.ofNat 6, UInt8.ofNat 7, UInt8.ofNat 7, UInt8.ofNat 8]
def mbits_OnesCount8 (x : Int) : Int := (pop8[x.toNat]?).elim 0 fun v => IntKind.i64.wrap v.toNat
noncomputable def G69 : List TV → Option (List TV) | [.c (Cell.int .u8 x)] => some [.c (Cell.int .i64 (mbits_OnesCount8 x))] | _ => none
noncomputable def Guard69 : List TV → Bool | [.c (Cell.int .u8 x)] => inb x 256 | _ => false
noncomputable def F69 : FnSem := numG Guard69 G69
noncomputable def C69 : Ctx := { P := Try.prog, own := [], fns := L28, nt := 6, nums := N28, live := [] }
theorem e69 : ∀ (R : Type) (x : Int) (H : Heap) (K : AV → Heap → Option R) (lp : Code → St → (AExit → St → Option R) → Option R), fnL C69 lp Try.f69.results.toList (bodyOf Try.f69) [TV.c (Cell.int IntKind.u8 x)] H K = bif inb x 256 then [UInt8.ofNat 0, UInt8.ofNat 1, UInt8.ofNat 1, UInt8.ofNat 2, UInt8.ofNat 1, UInt8.ofNat 2, UInt8.ofNat 2, UInt8.ofNat 3, UInt8.ofNat 1, UInt8.ofNat 2, UInt8.ofNat 2, UInt8.ofNat 3, UInt8.ofNat 2, UInt8.ofNat 3, UInt8.ofNat 3, UInt8.ofNat 4, UInt8.ofNat 1, UInt8.ofNat 2, UInt8.ofNat 2, UInt8.ofNat 3, UInt8.ofNat 2, UInt8.ofNat 3, UInt8.ofNat 3, UInt8.ofNat 4, UInt8.ofNat 2, UInt8.ofNat 3, UInt8.ofNat 3, UInt8.ofNat 4, UInt8.ofNat 3, UInt8.ofNat 4, UInt8.ofNat 4, UInt8.ofNat 5, UInt8.ofNat 1, UInt8.ofNat 2, UInt8.ofNat 2, UInt8.ofNat 3, UInt8.ofNat 2, UInt8.ofNat 3, UInt8.ofNat 3, UInt8.ofNat 4, UInt8.ofNat 2, UInt8.ofNat 3, UInt8.ofNat 3, UInt8.ofNat 4, UInt8.ofNat 3, UInt8.ofNat 4, UInt8.ofNat 4, UInt8.ofNat 5, UInt8.ofNat 2, UInt8.ofNat 3, UInt8.ofNat 3, UInt8.ofNat 4, UInt8.ofNat 3, UInt8.ofNat 4, UInt8.ofNat 4, UInt8.ofNat 5, UInt8.ofNat 3, UInt8.ofNat 4, UInt8.ofNat 4, UInt8.ofNat 5, UInt8.ofNat 4, UInt8.ofNat 5, UInt8.ofNat 5, UInt8.ofNat 6, UInt8.ofNat 1, UInt8.ofNat 2, UInt8.ofNat 2, UInt8.ofNat 3, UInt8.ofNat 2, UInt8.ofNat 3, UInt8.ofNat 3, UInt8.ofNat 4, UInt8.ofNat 2, UInt8.ofNat 3, UInt8.ofNat 3, UInt8.ofNat 4, UInt8.ofNat 3, UInt8.ofNat 4, UInt8.ofNat 4, UInt8.ofNat 5, UInt8.ofNat 2, UInt8.ofNat 3, UInt8.ofNat 3, UInt8.ofNat 4, UInt8.ofNat 3, UInt8.ofNat 4, UInt8.ofNat 4, UInt8.ofNat 5, UInt8.ofNat 3, UInt8.ofNat 4, UInt8.ofNat 4, UInt8.ofNat 5, UInt8.ofNat 4, UInt8.ofNat 5, UInt8.ofNat 5, UInt8.ofNat 6, UInt8.ofNat 2, UInt8.ofNat 3, UInt8.ofNat 3, UInt8.ofNat 4, UInt8.ofNat 3, UInt8.ofNat 4, UInt8.ofNat 4, UInt8.ofNat 5, UInt8.ofNat 3, UInt8.ofNat 4, UInt8.ofNat 4, UInt8.ofNat 5, UInt8.ofNat 4, UInt8.ofNat 5, UInt8.ofNat 5, UInt8.ofNat 6, UInt8.ofNat 3, UInt8.ofNat 4, UInt8.ofNat 4, UInt8.ofNat 5, UInt8.ofNat 4, UInt8.ofNat 5, UInt8.ofNat 5, UInt8.ofNat 6, UInt8.ofNat 4, UInt8.ofNat 5, UInt8.ofNat 5, UInt8.ofNat 6, UInt8.ofNat 5, UInt8.ofNat 6, UInt8.ofNat 6, UInt8.ofNat 7, UInt8.ofNat 1, UInt8.ofNat 2, UInt8.ofNat 2, UInt8.ofNat 3, UInt8.ofNat 2, UInt8.ofNat 3, UInt8.ofNat 3, UInt8.ofNat 4, UInt8.ofNat 2, UInt8.ofNat 3, UInt8.ofNat 3, UInt8.ofNat 4, UInt8.ofNat 3, UInt8.ofNat 4, UInt8.ofNat 4, UInt8.ofNat 5, UInt8.ofNat 2, UInt8.ofNat 3, UInt8.ofNat 3, UInt8.ofNat 4, UInt8.ofNat 3, UInt8.ofNat 4, UInt8.ofNat 4, UInt8.ofNat 5, UInt8.ofNat 3, UInt8.ofNat 4, UInt8.ofNat 4, UInt8.ofNat 5, UInt8.ofNat 4, UInt8.ofNat 5, UInt8.ofNat 5, UInt8.ofNat 6, UInt8.ofNat 2, UInt8.ofNat 3, UInt8.ofNat 3, UInt8.ofNat 4, UInt8.ofNat 3, UInt8.ofNat 4, UInt8.ofNat 4, UInt8.ofNat 5, UInt8.ofNat 3, UInt8.ofNat 4, UInt8.ofNat 4, UInt8.ofNat 5, UInt8.ofNat 4, UInt8.ofNat 5, UInt8.ofNat 5, UInt8.ofNat 6, UInt8.ofNat 3, UInt8.ofNat 4, UInt8.ofNat 4, UInt8.ofNat 5, UInt8.ofNat 4, UInt8.ofNat 5, UInt8.ofNat 5, UInt8.ofNat 6, UInt8.ofNat 4, UInt8.ofNat 5, UInt8.ofNat 5, UInt8.ofNat 6, UInt8.ofNat 5, UInt8.ofNat 6, UInt8.ofNat 6, UInt8.ofNat 7, UInt8.ofNat 2, UInt8.ofNat 3, UInt8.ofNat 3, UInt8.ofNat 4, UInt8.ofNat 3, UInt8.ofNat 4, UInt8.ofNat 4, UInt8.ofNat 5, UInt8.ofNat 3, UInt8.ofNat 4, UInt8.ofNat 4, UInt8.ofNat 5, UInt8.ofNat 4, UInt8.ofNat 5, UInt8.ofNat 5, UInt8.ofNat 6, UInt8.ofNat 3, UInt8.ofNat 4, UInt8.ofNat 4, UInt8.ofNat 5, UInt8.ofNat 4, UInt8.ofNat 5, UInt8.ofNat 5, UInt8.ofNat 6, UInt8.ofNat 4, UInt8.ofNat 5, UInt8.ofNat 5, UInt8.ofNat 6, UInt8.ofNat 5, UInt8.ofNat 6, UInt8.ofNat 6, UInt8.ofNat 7, UInt8.ofNat 3, UInt8.ofNat 4, UInt8.ofNat 4, UInt8.ofNat 5, UInt8.ofNat 4, UInt8.ofNat 5, UInt8.ofNat 5, UInt8.ofNat 6, UInt8.ofNat 4, UInt8.ofNat 5, UInt8.ofNat 5, UInt8.ofNat 6, UInt8.ofNat 5, UInt8.ofNat 6, UInt8.ofNat 6, UInt8.ofNat 7, UInt8.ofNat 4, UInt8.ofNat 5, UInt8.ofNat 5, UInt8.ofNat 6, UInt8.ofNat 5, UInt8.ofNat 6, UInt8.ofNat 6, UInt8.ofNat 7, UInt8.ofNat 5, UInt8.ofNat 6, UInt8.ofNat 6, UInt8.ofNat 7, UInt8.ofNat 6, UInt8.ofNat 7, UInt8.ofNat 7, UInt8.ofNat 8][x.toNat]?.bind fun v0 => K (AV.c (Cell.int IntKind.i64 (IntKind.i64.wrap ↑v0.toNat))) H else none := by intros; kernel_rfl
theorem s69 (R : Type) (x : Int) (H : Heap) (K : AV → Heap → Option R) (lp : Code → St → (AExit → St → Option R) → Option R) (hg : (inb x 256) = true) : fnL C69 lp Try.f69.results.toList (bodyOf Try.f69) [.c (Cell.int .u8 x)] H K = K (oneOf [.c (Cell.int .i64 (mbits_OnesCount8 x))]) H := by
  rw [e69]
  rw [hg]
  have hx : 0 ≤ x ∧ x < 256 := by simpa [inb] using hg
  unfold mbits_OnesCount8
  have hl : x.toNat < pop8.length := by have : pop8.length = 256 := rfl; omega
  show ((pop8[x.toNat]?).bind fun v0 => K (AV.c (Cell.int IntKind.i64 (IntKind.i64.wrap ↑v0.toNat))) H) = _
  rw [List.getElem?_eq_getElem hl]
  rfl
theorem ok69 : FnOk Try.prog 69 F69 := by
  refine fn_ok (C := C69) (good28.env rfl) (good28.ctx rfl rfl rfl) (by kernel_rfl) Try.func69 (c := bodyOf Try.f69) (by kernel_rfl) (by kernel_rfl) (Nat.le_of_eq Try.ntmps69.symm) ?_
  intro R args H K r h
  unfold F69 numG at h
  cases hc : Guard69 args with
  | false => rw [hc] at h; cases h
  | true =>
    rw [hc] at h
    unfold G69 at h
    simp only [cond_true] at h
    split at h
    · rw [fnA_eq, s69 (hg := hc)]; exact h
    · cases h
noncomputable def L69 := ((69, F69) : Nat × FnSem) :: L28
noncomputable def N69 : List Nat := 69 :: N28
theorem good69 : Callees Try.prog L69 [] N69 := good28.cons_num ok69 (numG_num _ _)
/-! bits_Even -/
def bits_Even (v : Int) : Bool := (mbits_OnesCount8 (IntKind.u8.wrap v)).tmod 2 == 0
noncomputable def G59 : List TV → Option (List TV) | [.c (Cell.int .u64 v)] => some [.c (Cell.bool (bits_Even v))] | _ => none
noncomputable def F59 : FnSem := numF G59
noncomputable def C59 : Ctx := { P := Try.prog, own := [], fns := L69, nt := 8, nums := N69, live := [] }
theorem e59 : ∀ (R : Type) (v : Int) (H : Heap) (K : AV → Heap → Option R) (lp : Code → St → (AExit → St → Option R) → Option R), fnL C59 lp Try.f59.results.toList (bodyOf Try.f59) [TV.c (Cell.int IntKind.u64 v)] H K = bif inb (IntKind.u8.wrap v) 256 then K (AV.c (Cell.bool ((mbits_OnesCount8 (IntKind.u8.wrap v)).tmod 2 == 0))) H else none := by intros; kernel_rfl
theorem s59 (R : Type) (v : Int) (H : Heap) (K : AV → Heap → Option R) (lp : Code → St → (AExit → St → Option R) → Option R) : fnL C59 lp Try.f59.results.toList (bodyOf Try.f59) [.c (Cell.int .u64 v)] H K = K (oneOf [.c (Cell.bool (bits_Even v))]) H := by
  rw [e59]
  have g : inb (IntKind.u8.wrap v) 256 = true := by rw [wrap_u8]; simp [inb]; omega
  rw [g]; rfl
theorem ok59 : FnOk Try.prog 59 F59 := by
  refine fn_ok (C := C59) (good69.env rfl) (good69.ctx rfl rfl rfl) (by kernel_rfl) Try.func59 (c := bodyOf Try.f59) (by kernel_rfl) (by kernel_rfl) (Nat.le_of_eq Try.ntmps59.symm) ?_
  intro R args H K r h
  unfold F59 numF G59 at h
  split at h
  · rw [fnA_eq, s59]; exact h
  · cases h
noncomputable def L59 := ((59, F59) : Nat × FnSem) :: L69
noncomputable def N59 : List Nat := 59 :: N69
theorem good59 : Callees Try.prog L59 [] N59 := good69.cons_num ok59 (numF_num _)
/-! xflag_Thunk_Even -/
def xflag_Thunk_Even (t0 t1 : Bool) (t2 : Int) : Bool := bits_Even t2
noncomputable def G32 : List TV → Option (List TV) | [.agg [Cell.bool t0, Cell.bool t1, Cell.int .u64 t2]] => some [.c (Cell.bool (xflag_Thunk_Even t0 t1 t2))] | _ => none
noncomputable def F32 : FnSem := numF G32
noncomputable def C32 : Ctx := { P := Try.prog, own := [1], fns := L59, nt := 6, nums := N59, live := [] }
theorem e32 : ∀ (R : Type) (t0 t1 : Bool) (t2 : Int) (H : Heap) (K : AV → Heap → Option R) (lp : Code → St → (AExit → St → Option R) → Option R), fnL C32 lp Try.f32.results.toList (bodyOf Try.f32) [TV.agg [Cell.bool t0, Cell.bool t1, Cell.int IntKind.u64 t2]] H K = K (AV.c (Cell.bool (bits_Even t2))) H := by intros; kernel_rfl
theorem s32 (R : Type) (t0 : Bool) (t1 : Bool) (t2 : Int) (H : Heap) (K : AV → Heap → Option R) (lp : Code → St → (AExit → St → Option R) → Option R) : fnL C32 lp Try.f32.results.toList (bodyOf Try.f32) [.agg [Cell.bool t0, Cell.bool t1, Cell.int .u64 t2]] H K = K (oneOf [.c (Cell.bool (xflag_Thunk_Even t0 t1 t2))]) H := by
  rw [e32]
  rfl
theorem ok32 : FnOk Try.prog 32 F32 := by
  refine fn_ok (C := C32) (good59.env rfl) (good59.ctx rfl rfl rfl) (by kernel_rfl) Try.func32 (c := bodyOf Try.f32) (by kernel_rfl) (by kernel_rfl) (Nat.le_of_eq Try.ntmps32.symm) ?_
  intro R args H K r h
  unfold F32 numF G32 at h
  split at h
  · rw [fnA_eq, s32]; exact h
  · cases h
noncomputable def L32 := ((32, F32) : Nat × FnSem) :: L59
noncomputable def N32 : List Nat := 32 :: N59
theorem good32 : Callees Try.prog L32 [] N32 := good59.cons_num ok32 (numF_num _)
/-! xflag_Thunk_less -/
def xflag_Thunk_less (t0 t1 : Bool) (t2 : Int) : Bool := !(xflag_Thunk_Sign t0 t1 t2 == t1)
noncomputable def G58 : List TV → Option (List TV) | [.agg [Cell.bool t0, Cell.bool t1, Cell.int .u64 t2]] => some [.c (Cell.bool (xflag_Thunk_less t0 t1 t2))] | _ => none
noncomputable def F58 : FnSem := numF G58
noncomputable def C58 : Ctx := { P := Try.prog, own := [1], fns := L32, nt := 8, nums := N32, live := [] }
theorem e58 : ∀ (R : Type) (t0 t1 : Bool) (t2 : Int) (H : Heap) (K : AV → Heap → Option R) (lp : Code → St → (AExit → St → Option R) → Option R), fnL C58 lp Try.f58.results.toList (bodyOf Try.f58) [TV.agg [Cell.bool t0, Cell.bool t1, Cell.int IntKind.u64 t2]] H K = K (AV.c (Cell.bool (bif false then xflag_Thunk_Sign t0 t1 t2 == t1 else !xflag_Thunk_Sign t0 t1 t2 == t1))) H := by intros; kernel_rfl
theorem s58 (R : Type) (t0 : Bool) (t1 : Bool) (t2 : Int) (H : Heap) (K : AV → Heap → Option R) (lp : Code → St → (AExit → St → Option R) → Option R) : fnL C58 lp Try.f58.results.toList (bodyOf Try.f58) [.agg [Cell.bool t0, Cell.bool t1, Cell.int .u64 t2]] H K = K (oneOf [.c (Cell.bool (xflag_Thunk_less t0 t1 t2))]) H := by
  rw [e58]
  rfl
theorem ok58 : FnOk Try.prog 58 F58 := by
  refine fn_ok (C := C58) (good32.env rfl) (good32.ctx rfl rfl rfl) (by kernel_rfl) Try.func58 (c := bodyOf Try.f58) (by kernel_rfl) (by kernel_rfl) (Nat.le_of_eq Try.ntmps58.symm) ?_
  intro R args H K r h
  unfold F58 numF G58 at h
  split at h
  · rw [fnA_eq, s58]; exact h
  · cases h
noncomputable def L58 := ((58, F58) : Nat × FnSem) :: L32
noncomputable def N58 : List Nat := 58 :: N32
theorem good58 : Callees Try.prog L58 [] N58 := good32.cons_num ok58 (numF_num _)
/-! xflag_Thunk_Cond -/
def condK (odd : Bool) (e : Int) (t0 t1 : Bool) (t2 : Int) : Bool :=
  bif e == 0 then !(t1 == odd) else bif e == 2 then !(t0 == odd) else bif e == 4 then !(xflag_Thunk_Zero t0 t1 t2 == odd)
  else bif e == 6 then !((t0 || xflag_Thunk_Zero t0 t1 t2) == odd) else bif e == 8 then !(xflag_Thunk_Sign t0 t1 t2 == odd)
  else bif e == 10 then !(xflag_Thunk_Even t0 t1 t2 == odd) else bif e == 12 then !(xflag_Thunk_less t0 t1 t2 == odd)
  else bif e == 14 then !((xflag_Thunk_Zero t0 t1 t2 || xflag_Thunk_less t0 t1 t2) == odd) else false
def xflag_Thunk_Cond (t0 t1 : Bool) (t2 cc : Int) : Bool := condK (band .i64 cc 1 == 1) (bandn .i64 cc 1) t0 t1 t2
noncomputable def G27 : List TV → Option (List TV) | [.agg [Cell.bool t0, Cell.bool t1, Cell.int .u64 t2], .c (Cell.int .i64 cc)] => some [.c (Cell.bool (xflag_Thunk_Cond t0 t1 t2 cc))] | _ => none
noncomputable def F27 : FnSem := numF G27
noncomputable def C27 : Ctx := { P := Try.prog, own := [2], fns := L58, nt := 53, nums := N58, live := [] }
theorem e27 : ∀ (R : Type) (t0 t1 : Bool) (t2 cc : Int) (H : Heap) (K : AV → Heap → Option R) (lp : Code → St → (AExit → St → Option R) → Option R), fnL C27 lp Try.f27.results.toList (bodyOf Try.f27) [TV.agg [Cell.bool t0, Cell.bool t1, Cell.int IntKind.u64 t2], TV.c (Cell.int IntKind.i64 cc)] H K = bif bandn IntKind.i64 cc 1 == 0 then K (AV.c (Cell.bool (bif false then t1 == (band IntKind.i64 cc 1 == 1) else !t1 == (band IntKind.i64 cc 1 == 1)))) H else bif bandn IntKind.i64 cc 1 == 2 then K (AV.c (Cell.bool (bif false then t0 == (band IntKind.i64 cc 1 == 1) else !t0 == (band IntKind.i64 cc 1 == 1)))) H else bif bandn IntKind.i64 cc 1 == 4 then K (AV.c (Cell.bool (bif false then xflag_Thunk_Zero t0 t1 t2 == (band IntKind.i64 cc 1 == 1) else !xflag_Thunk_Zero t0 t1 t2 == (band IntKind.i64 cc 1 == 1)))) H else bif bandn IntKind.i64 cc 1 == 6 then bif t0 then K (AV.c (Cell.bool (bif false then true == (band IntKind.i64 cc 1 == 1) else !true == (band IntKind.i64 cc 1 == 1)))) H else K (AV.c (Cell.bool (bif false then xflag_Thunk_Zero t0 t1 t2 == (band IntKind.i64 cc 1 == 1) else !xflag_Thunk_Zero t0 t1 t2 == (band IntKind.i64 cc 1 == 1)))) H else bif bandn IntKind.i64 cc 1 == 8 then K (AV.c (Cell.bool (bif false then xflag_Thunk_Sign t0 t1 t2 == (band IntKind.i64 cc 1 == 1) else !xflag_Thunk_Sign t0 t1 t2 == (band IntKind.i64 cc 1 == 1)))) H else bif bandn IntKind.i64 cc 1 == 10 then K (AV.c (Cell.bool (bif false then xflag_Thunk_Even t0 t1 t2 == (band IntKind.i64 cc 1 == 1) else !xflag_Thunk_Even t0 t1 t2 == (band IntKind.i64 cc 1 == 1)))) H else bif bandn IntKind.i64 cc 1 == 12 then K (AV.c (Cell.bool (bif false then xflag_Thunk_less t0 t1 t2 == (band IntKind.i64 cc 1 == 1) else !xflag_Thunk_less t0 t1 t2 == (band IntKind.i64 cc 1 == 1)))) H else bif bandn IntKind.i64 cc 1 == 14 then bif xflag_Thunk_Zero t0 t1 t2 then K (AV.c (Cell.bool (bif false then true == (band IntKind.i64 cc 1 == 1) else !true == (band IntKind.i64 cc 1 == 1)))) H else K (AV.c (Cell.bool (bif false then xflag_Thunk_less t0 t1 t2 == (band IntKind.i64 cc 1 == 1) else !xflag_Thunk_less t0 t1 t2 == (band IntKind.i64 cc 1 == 1)))) H else K (AV.c (Cell.bool false)) H := by intros; kernel_rfl
theorem s27 (R : Type) (t0 : Bool) (t1 : Bool) (t2 : Int) (cc : Int) (H : Heap) (K : AV → Heap → Option R) (lp : Code → St → (AExit → St → Option R) → Option R) : fnL C27 lp Try.f27.results.toList (bodyOf Try.f27) [.agg [Cell.bool t0, Cell.bool t1, Cell.int .u64 t2], .c (Cell.int .i64 cc)] H K = K (oneOf [.c (Cell.bool (xflag_Thunk_Cond t0 t1 t2 cc))]) H := by
  rw [e27]
  unfold xflag_Thunk_Cond condK
  cases (bandn .i64 cc 1 == 0) <;> cases (bandn .i64 cc 1 == 2) <;> cases (bandn .i64 cc 1 == 4) <;> try rfl
  cases (bandn .i64 cc 1 == 6)
  · cases (bandn .i64 cc 1 == 8) <;> cases (bandn .i64 cc 1 == 10) <;> cases (bandn .i64 cc 1 == 12) <;> try rfl
    cases (bandn .i64 cc 1 == 14)
    · rfl
    · cases xflag_Thunk_Zero t0 t1 t2 <;> rfl
  · cases t0 <;> rfl
theorem ok27 : FnOk Try.prog 27 F27 := by
  refine fn_ok (C := C27) (good58.env rfl) (good58.ctx rfl rfl rfl) (by kernel_rfl) Try.func27 (c := bodyOf Try.f27) (by kernel_rfl) (by kernel_rfl) (Nat.le_of_eq Try.ntmps27.symm) ?_
  intro R args H K r h
  unfold F27 numF G27 at h
  split at h
  · rw [fnA_eq, s27]; exact h
  · cases h
noncomputable def L27 := ((27, F27) : Nat × FnSem) :: L58
noncomputable def N27 : List Nat := 27 :: N58
theorem good27 : Callees Try.prog L27 [] N27 := good58.cons_num ok27 (numF_num _)
