/- Layer 11: what the functions on instructions compute: the small ones. -/
import Derived.Test.YtlhcbcfphognlaaJu1
namespace Go.Proofs.Ytlhcbcfphognlaa
open Go Go.Proofs.Ytlhcbcfphognlaa.Ab
set_option linter.unusedVariables false
set_option linter.unusedSimpArgs false
set_option maxRecDepth 100000
noncomputable section
/-- All old blocks are as they were. -/
def Kx (H H' : Heap) : Prop := ∀ (id : Nat) (b : Blk), H[id]? = some b → H'[id]? = some b
theorem Kx.refl (H : Heap) : Kx H H := fun _ _ h => h
theorem Kx.trans {A B C : Heap} (h : Kx A B) (k : Kx B C) : Kx A C := fun i b e => k i b (h i b e)
theorem Kx.push (H : Heap) (b : Blk) : Kx H (H ++ [b]) := fun i c e => by
  rw [List.getElem?_append_left (by obtain ⟨h, _⟩ := List.getElem?_eq_some_iff.1 e; exact h)]; exact e
/-- What a function answers, whatever it lays into new blocks. -/
def Says {α : Type} (q : Option (α × Heap)) (H : Heap) (v : α) : Prop := ∃ H', q = some (v, H') ∧ Kx H H'
theorem says_ret {α : Type} {H : Heap} {v u : α} (h : u = v) : Says (some (u, H)) H v := ⟨H, by rw [h], Kx.refl H⟩
theorem says_push {α : Type} {q : Option (α × Heap)} {H : Heap} {b : Blk} {v : α} (h : Says q (H ++ [b]) v) : Says q H v := by
  obtain ⟨H', e, k⟩ := h
  exact ⟨H', e, (Kx.push H b).trans k⟩
theorem says_bind {α β : Type} {q : Option (α × Heap)} {H : Heap} {v : α} {k : α × Heap → Option (β × Heap)} {u : β} (h : Says q H v) (hk : ∀ H', Kx H H' → Says (k (v, H')) H' u) : Says (q.bind k) H u := by
  obtain ⟨H', e, k1⟩ := h
  obtain ⟨H2, e2, k2⟩ := hk H' k1
  exact ⟨H2, by rw [e]; exact e2, k1.trans k2⟩
theorem says_if {α : Type} {c : Bool} {a b : Option (α × Heap)} {H : Heap} {v : α} (h1 : c = true → Says a H v) (h2 : c = false → Says b H v) : Says (bif c then a else b) H v := by
  cases c
  · exact h2 rfl
  · exact h1 rfl
theorem Says.to {α : Type} {q : Option (α × Heap)} {H : Heap} {v u : α} (h : Says q H v) (e : v = u) : Says q H u := e ▸ h

/-! ### the small functions -/
def wOk (w : Int) : Bool := w == 1 || (w == 2 || (w == 4 || w == 8))
theorem g44_v (w : Int) (H : Heap) : g44 w H = some (wOk w) := by
  rw [g44_eq]
  refine readOf_eq ?_
  rw [q44]
  unfold wOk
  cases w == 1 <;> cases w == 2 <;> cases w == 4 <;> rfl
theorem g31_v (i0 i1 i2 i3 i4 i5 i6 i7 i8 i9 i10 i11 i12 i13 i14 i15 i16 : Int) (i17 i18 : Bool) (i19 lo hi : Int) (H : Heap) :
    g31 i0 i1 i2 i3 i4 i5 i6 i7 i8 i9 i10 i11 i12 i13 i14 i15 i16 i17 i18 i19 lo hi H = some (decide (lo ≤ i0) && decide (i0 ≤ hi)) := by
  rw [g31_eq]
  refine readOf_eq ?_
  rw [q31]
  show (bif decide (lo ≤ i0) then some (decide (i0 ≤ hi), H) else some (false, H)) = _
  cases decide (lo ≤ i0) <;> rfl
def w248 (w : Int) : Bool := w == 2 || (w == 4 || w == 8)
theorem g47_v (i0 i1 i2 i3 i4 i5 i6 i7 i8 i9 i10 i11 i12 i13 i14 i15 i16 : Int) (i17 i18 : Bool) (i19 : Int) (H : Heap) :
    g47 i0 i1 i2 i3 i4 i5 i6 i7 i8 i9 i10 i11 i12 i13 i14 i15 i16 i17 i18 i19 H = some (w248 i1) := by
  rw [g47_eq]
  refine readOf_eq ?_
  rw [q47]
  unfold w248
  cases i1 == 2 <;> cases i1 == 4 <;> rfl
/-- Has a number 8, 16, 32 bits, with a sign? -/
def fitsI (v m : Int) : Bool := decide (-m ≤ v) && decide (v < m)
theorem wrap_i64_e (n : Int) : IntKind.i64.wrap n = (n + 9223372036854775808) % 18446744073709551616 - 9223372036854775808 := by
  simp [IntKind.wrap, IntKind.bits, IntKind.signed]
  omega
theorem shl_e (v : Int) (s : Nat) (h : s ≤ 64) : ishl .i64 v (s : Int) = IntKind.i64.wrap (v * 2 ^ s) := by
  unfold ishl
  rw [show min ((s : Int).toNat) IntKind.i64.bits = s by simp [IntKind.bits]; omega]
theorem shr_e (v : Int) (s : Nat) (h : s ≤ 64) : ishr .i64 v (s : Int) = v / 2 ^ s := by
  unfold ishr
  rw [show min ((s : Int).toNat) IntKind.i64.bits = s by simp [IntKind.bits]; omega, Int.fdiv_eq_ediv_of_nonneg _ (Int.le_of_lt (Int.pow_pos (by decide)))]
theorem beq_dec {a b m : Int} (h : a = b ↔ (-m ≤ b ∧ b < m)) : (a == b) = fitsI b m := by
  unfold fitsI
  rw [← Bool.decide_and, Bool.eq_iff_iff]
  simpa using h
theorem fits8 (v : Int) (h1 : -9223372036854775808 ≤ v) (h2 : v < 9223372036854775808) : (ishr .i64 (ishl .i64 v 56) 56 == v) = fitsI v 128 := by
  refine beq_dec ?_
  rw [show (56 : Int) = ((56 : Nat) : Int) from rfl, shl_e v 56 (by omega), shr_e _ 56 (by omega), wrap_i64_e]
  omega
theorem fits16 (v : Int) (h1 : -9223372036854775808 ≤ v) (h2 : v < 9223372036854775808) : (ishr .i64 (ishl .i64 v 48) 48 == v) = fitsI v 32768 := by
  refine beq_dec ?_
  rw [show (48 : Int) = ((48 : Nat) : Int) from rfl, shl_e v 48 (by omega), shr_e _ 48 (by omega), wrap_i64_e]
  omega
theorem fits32 (v : Int) (h1 : -9223372036854775808 ≤ v) (h2 : v < 9223372036854775808) : (ishr .i64 (ishl .i64 v 32) 32 == v) = fitsI v 2147483648 := by
  refine beq_dec ?_
  rw [show (32 : Int) = ((32 : Nat) : Int) from rfl, shl_e v 32 (by omega), shr_e _ 32 (by omega), wrap_i64_e]
  omega
/-- The bound of so many bits. -/
def halfOf (n : Int) : Int := if n = 8 then 128 else if n = 16 then 32768 else 2147483648
theorem g50_v (v n : Int) (hn : n = 8 ∨ n = 16 ∨ n = 32) (h1 : -9223372036854775808 ≤ v) (h2 : v < 9223372036854775808) (H : Heap) : g50 v n H = some (fitsI v (halfOf n)) := by
  rw [g50_eq]
  refine readOf_eq ?_
  rw [q50]
  rcases hn with rfl | rfl | rfl
  · rw [show IntKind.i64.wrap (64 - 8) = 56 by decide, fits8 v h1 h2]; rfl
  · rw [show IntKind.i64.wrap (64 - 16) = 48 by decide, fits16 v h1 h2]; rfl
  · rw [show IntKind.i64.wrap (64 - 32) = 32 by decide, fits32 v h1 h2]; rfl
/-- The same, of any number of bits, as the code has it. -/
def fitsG (v n : Int) : Bool := !decide (n < 1) && (!decide (n > 64) && (ishr .i64 (ishl .i64 v (IntKind.i64.wrap (64 - n))) (IntKind.i64.wrap (64 - n)) == v))
theorem g50_g (v n : Int) (H : Heap) : g50 v n H = some (fitsG v n) := by
  rw [g50_eq]
  refine readOf_eq ?_
  rw [q50]
  unfold fitsG
  by_cases h1 : n < 1
  · rw [decide_eq_true h1]; rfl
  · by_cases h2 : n > 64
    · rw [decide_eq_false h1, decide_eq_true h2]; rfl
    · rw [decide_eq_false h1, decide_eq_false h2, show decide (IntKind.i64.wrap (64 - n) < 0) = false by rw [wrap_i64 (by omega) (by omega)]; simp; omega]; rfl
theorem fitsG_eq (v n : Int) (hn : n = 8 ∨ n = 16 ∨ n = 32) (h1 : -9223372036854775808 ≤ v) (h2 : v < 9223372036854775808) : fitsG v n = fitsI v (halfOf n) := by
  have a := g50_g v n []
  rw [g50_v v n hn h1 h2] at a
  exact (Option.some.inj a).symm
def fitsR (v n : Int) : Bool :=
  decide (n ≥ 64) || ((decide (v ≥ 0) && decide (IntKind.u64.wrap v < ishl .u64 1 (IntKind.u64.wrap (IntKind.i64.wrap (n - 1))))) ||
    (decide (v < 0) && decide (IntKind.u64.wrap (IntKind.i64.wrap (0 - IntKind.i64.wrap (v + 1))) < ishl .u64 1 (IntKind.u64.wrap (IntKind.i64.wrap (n - 1))))))
theorem g42_g (v n : Int) (H : Heap) : g42 v n H = some (fitsR v n) := by
  rw [g42_eq]
  refine readOf_eq ?_
  rw [q42]
  unfold fitsR
  rw [show decide (IntKind.u64.wrap (IntKind.i64.wrap (n - 1)) < 0) = false by rw [wrap_u64]; simp; omega]
  generalize decide (IntKind.u64.wrap v < _) = a
  generalize decide (IntKind.u64.wrap (IntKind.i64.wrap (0 - _)) < _) = b
  cases decide (n ≥ 64) <;> cases decide (v ≥ 0) <;> cases a <;> cases decide (v < 0) <;> cases b <;> rfl
theorem g42_v (v n : Int) (hn : n = 8 ∨ n = 16 ∨ n = 32) (h1 : -9223372036854775808 ≤ v) (h2 : v < 9223372036854775808) (H : Heap) : g42 v n H = some (fitsI v (halfOf n)) := by
  rw [g42_eq]
  refine readOf_eq ?_
  rw [q42]
  have key : ∀ (k m : Int), (∀ x : Int, 0 ≤ x → x < 9223372036854775808 → IntKind.u64.wrap x = x) →
      IntKind.u64.wrap (IntKind.i64.wrap (n - 1)) = k → decide (k < 0) = false → decide (n ≥ 64) = false → ishl .u64 1 k = m → 0 < m → halfOf n = m →
      (bif decide (n ≥ 64) then some (true, H) else bif decide (v ≥ 0) then bif decide (k < 0) then none else bif decide (IntKind.u64.wrap v < ishl .u64 1 k) then some (true, H) else bif decide (v < 0) then bif decide (k < 0) then none else some (decide (IntKind.u64.wrap (IntKind.i64.wrap (0 - IntKind.i64.wrap (v + 1))) < ishl .u64 1 k), H) else some (false, H) else bif decide (v < 0) then bif decide (k < 0) then none else some (decide (IntKind.u64.wrap (IntKind.i64.wrap (0 - IntKind.i64.wrap (v + 1))) < ishl .u64 1 k), H) else some (false, H)) = some (fitsI v (halfOf n), H) := by
    intro k m hw e1 e2 e3 e4 hm e5
    rw [e2, e3, e4, e5]
    unfold fitsI
    by_cases hv : v ≥ 0
    · rw [decide_eq_true hv, hw v hv h2, show decide (v < 0) = false by simp; omega, show decide (-m ≤ v) = true by simp; omega]
      cases decide (v < m) <;> rfl
    · have a1 : IntKind.i64.wrap (v + 1) = v + 1 := wrap_i64 (by omega) (by omega)
      have a2 : IntKind.i64.wrap (0 - (v + 1)) = -1 - v := by rw [wrap_i64 (by omega) (by omega)]; omega
      rw [decide_eq_false hv, show decide (v < 0) = true by simp; omega, a1, a2, hw (-1 - v) (by omega) (by omega), show decide (v < m) = true by simp; omega, show decide (-1 - v < m) = decide (-m ≤ v) by rw [decide_eq_decide]; omega]
      cases decide (-m ≤ v) <;> rfl
  have hw : ∀ x : Int, 0 ≤ x → x < 9223372036854775808 → IntKind.u64.wrap x = x := fun x a b => by rw [wrap_u64]; omega
  rcases hn with rfl | rfl | rfl
  · exact key 7 128 hw (by decide) rfl rfl (by decide) (by decide) rfl
  · exact key 15 32768 hw (by decide) rfl rfl (by decide) (by decide) rfl
  · exact key 31 2147483648 hw (by decide) rfl rfl (by decide) (by decide) rfl
theorem fitsR_eq (v n : Int) (hn : n = 8 ∨ n = 16 ∨ n = 32) (h1 : -9223372036854775808 ≤ v) (h2 : v < 9223372036854775808) : fitsR v n = fitsI v (halfOf n) := by
  have a := g42_g v n []
  rw [g42_v v n hn h1 h2] at a
  exact (Option.some.inj a).symm
/-! ### operands -/
def addrMay (b i s d : Int) : Bool :=
  !decide (b < -1) && (!decide (b > 16) && (!decide (i < -1) && (!decide (i > 15) && (!(i == 4) && (fitsI d 2147483648 && bif i == -1 then s == 1 else (b != 16 && wOk s))))))
theorem g51_v (b i s d : Int) (h1 : -9223372036854775808 ≤ d) (h2 : d < 9223372036854775808) (H : Heap) : g51 b i s d H = some (addrMay b i s d) := by
  rw [g51_eq]
  refine readOf_eq ?_
  rw [q51]
  unfold addrMay
  simp only [g50_v d 32 (by omega) h1 h2, show halfOf 32 = 2147483648 from rfl, nsome, g44_v]
  cases decide (b < -1) <;> cases decide (b > 16) <;> cases decide (i < -1) <;> cases decide (i > 15) <;> cases (i == 4) <;> cases fitsI d 2147483648 <;> cases (i == -1) <;> cases (b != 16) <;> rfl
/-- An operand: kind, register, base, index, scale, displacement. -/
structure Od where
  k : Int
  r : Int
  b : Int
  i : Int
  s : Int
  d : Int
def nilA (o : Od) : Bool := o.b == 0 && (o.i == 0 && (o.s == 0 && o.d == 0))
def odMay (o : Od) : Bool :=
  bif o.k == 1 then (decide (o.r ≥ 0) && (decide (o.r ≤ 15) && nilA o))
  else bif o.k == 2 then (o.r == 0 && addrMay o.b o.i o.s o.d)
  else bif o.k == 0 || o.k == 3 then (o.r == 0 && nilA o) else false
theorem g49_v (o : Od) (h1 : -9223372036854775808 ≤ o.d) (h2 : o.d < 9223372036854775808) (H : Heap) : g49 o.k o.r o.b o.i o.s o.d H = some (odMay o) := by
  rw [g49_eq]
  refine readOf_eq ?_
  rw [q49]
  unfold odMay nilA
  simp only [g51_v o.b o.i o.s o.d h1 h2, nsome, beq_self_eq_true, Bool.and_true, Bool.true_and]
  cases (o.k == 1) <;> cases (o.k == 2) <;> cases (o.k == 0) <;> cases (o.k == 3) <;> cases decide (o.r ≥ 0) <;> cases decide (o.r ≤ 15) <;> cases (o.r == 0) <;> rfl
theorem g23_v (o : Od) (h1 : -9223372036854775808 ≤ o.d) (h2 : o.d < 9223372036854775808) (H : Heap) : g23 o.k o.r o.b o.i o.s o.d H = some (odMay o) := by
  rw [g23_eq]
  refine readOf_eq ?_
  rw [q23]
  simp only [g42_v o.d 32 (by omega) h1 h2, show halfOf 32 = 2147483648 from rfl, nsome, Bool.and_true, Bool.true_and]
  unfold odMay nilA addrMay wOk
  by_cases k2 : o.k = 2
  · simp only [k2, show ((2 : Int) == 2) = true from rfl, show ((2 : Int) == 1) = false from rfl, ct, cf, bne]
    cases (o.r == 0) <;> cases decide (o.b < -1) <;> cases decide (o.b > 16) <;> cases decide (o.i < -1) <;> cases decide (o.i > 15) <;> cases (o.i == 4) <;> cases fitsI o.d 2147483648 <;> cases (o.i == -1) <;> cases (o.b == 16) <;> cases (o.s == 1) <;> cases (o.s == 2) <;> cases (o.s == 4) <;> rfl
  · simp only [show (o.k == 2) = false by simpa using k2, ct, cf]
    generalize (o.b == 0 && (o.i == 0 && (o.s == 0 && o.d == 0))) = z
    by_cases k1 : o.k = 1
    · simp only [k1, show ((1 : Int) == 1) = true from rfl, show ((1 : Int) == 0) = false from rfl, show ((1 : Int) == 3) = false from rfl, ct, cf]
      by_cases r0 : o.r = 0
      · rw [r0]; cases z <;> rfl
      · rw [show (o.r == 0) = false by simpa using r0, show decide (o.r ≥ 0) = decide (o.r > 0) by rw [decide_eq_decide]; omega, show decide (o.r ≤ 15) = decide (o.r < 16) by rw [decide_eq_decide]; omega]
        cases z <;> cases decide (o.r > 0) <;> cases decide (o.r < 16) <;> rfl
    · simp only [show (o.k == 1) = false by simpa using k1, ct, cf]
      cases z <;> cases (o.k == 0) <;> cases (o.k == 3) <;> cases (o.r == 0) <;> rfl
/-- Is an operand one of some kinds, and as it may be? -/
def isK (o : Od) (ks : List Int) : Bool := ks.contains o.k && odMay o
theorem row_get (H : Heap) (cs : List Cell) (b : Bool) (i : Nat) (c : Cell) (h : cs[i]? = some c) : (H ++ [Blk.row cs b]).get H.length i = some c := by
  rw [get_of (row := cs) (ro := b) (by simp)]
  exact h
theorem loop45 (o : Od) (h1 : -9223372036854775808 ≤ o.d) (h2 : o.d < 9223372036854775808) (ks : List Int) (hk : ks.length ≤ 3) (H : Heap) : ∀ (m n i : Nat), i + m = ks.length →
    (D45_2 (n + m + 1) (some { id := H.length, off := 0, len := ks.length, cap := ks.length, esz := 1 }) (ks.length : Int) (i : Int) o.k o.r o.b o.i o.s o.d (H ++ [Blk.row (ks.map (Cell.int .i64)) false])).bind J45_2 =
      some (bif (ks.drop i).contains o.k then odMay o else false, H ++ [Blk.row (ks.map (Cell.int .i64)) false])
  | 0, n, i, h => by
    have g : decide ((i : Int) < (ks.length : Int)) = false := by simp; omega
    rw [D45_2_s, g, cf, Ab.bs, J45_2_1, List.drop_eq_nil_of_le (by omega)]
    rfl
  | m + 1, n, i, h => by
    have g : decide ((i : Int) < (ks.length : Int)) = true := by simp; omega
    have hi : i < ks.length := by omega
    have g2 : inb (i : Int) ks.length = true := by simp [inb]; omega
    have g3 : ((some { id := H.length, off := 0, len := ks.length, cap := ks.length, esz := 1 } : Option Sl)) = some { id := H.length, off := 0, len := ks.length, cap := ks.length, esz := 1 } := rfl
    have g4 : (H ++ [Blk.row (ks.map (Cell.int .i64)) false]).get H.length (0 + (i : Int).toNat * 1) = some (Cell.int .i64 ks[i]) := by
      rw [show 0 + (i : Int).toNat * 1 = i by omega]
      exact row_get _ _ _ _ _ (by simp [List.getElem?_eq_getElem hi])
    have g5 : IntKind.i64.wrap ((i : Int) + 1) = ((i + 1 : Nat) : Int) := by rw [wrap_i64 (by omega) (by omega)]; rfl
    rw [show n + (m + 1) + 1 = (n + m + 1) + 1 by omega, D45_2_s, g]
    simp only [ct, Ab.bs, g2, beq_self_eq_true, Bool.and_self, g4, tInt, g5, g49_v o h1 h2]
    rw [List.drop_eq_getElem_cons hi, List.contains_cons]
    cases he : (o.k == ks[i]) with
    | true => rw [ct, Ab.bs, J45_2_0, Bool.true_or, ct]
    | false => rw [cf, loop45 o h1 h2 ks hk H m n (i + 1) (by omega), Bool.false_or]
theorem g45_n (o : Od) (h1 : -9223372036854775808 ≤ o.d) (h2 : o.d < 9223372036854775808) (ks : List Int) (hk : ks.length ≤ 3) (H : Heap) :
    g45 o.k o.r o.b o.i o.s o.d (some { id := H.length, off := 0, len := ks.length, cap := ks.length, esz := 1 }) (H ++ [Blk.row (ks.map (Cell.int .i64)) false]) = some (isK o ks) := by
  rw [g45_eq]
  refine readOf_eq ?_
  rw [q45]
  obtain ⟨n, e⟩ := LL45_2_of ks.length (by omega) (some { id := H.length, off := 0, len := ks.length, cap := ks.length, esz := 1 }) (ks.length : Int) 0 o.k o.r o.b o.i o.s o.d (H ++ [Blk.row (ks.map (Cell.int .i64)) false])
  show (LL45_2 _ (ks.length : Int) 0 _ _ _ _ _ _ _).bind _ = _
  rw [e, show (0 : Int) = ((0 : Nat) : Int) from rfl, loop45 o h1 h2 ks hk H ks.length n 0 (by omega)]
  unfold isK
  rw [List.drop_zero]
  cases ks.contains o.k <;> rfl
theorem g45_1 (o : Od) (h1 : -9223372036854775808 ≤ o.d) (h2 : o.d < 9223372036854775808) (a : Int) (H : Heap) :
    g45 o.k o.r o.b o.i o.s o.d (some { id := H.length, off := 0, len := 1, cap := 1, esz := 1 }) (H ++ [Blk.row [Cell.int .i64 a] false]) = some (isK o [a]) := g45_n o h1 h2 [a] (by simp) H
theorem g45_2 (o : Od) (h1 : -9223372036854775808 ≤ o.d) (h2 : o.d < 9223372036854775808) (a b : Int) (H : Heap) :
    g45 o.k o.r o.b o.i o.s o.d (some { id := H.length, off := 0, len := 2, cap := 2, esz := 1 }) (H ++ [Blk.row [Cell.int .i64 a, Cell.int .i64 b] false]) = some (isK o [a, b]) := g45_n o h1 h2 [a, b] (by simp) H
theorem g45_3 (o : Od) (h1 : -9223372036854775808 ≤ o.d) (h2 : o.d < 9223372036854775808) (a b c : Int) (H : Heap) :
    g45 o.k o.r o.b o.i o.s o.d (some { id := H.length, off := 0, len := 3, cap := 3, esz := 1 }) (H ++ [Blk.row [Cell.int .i64 a, Cell.int .i64 b, Cell.int .i64 c] false]) = some (isK o [a, b, c]) := g45_n o h1 h2 [a, b, c] (by simp) H
/-! ### instructions -/
structure Ins where
  op : Int
  w : Int
  w2 : Int
  a : Od
  b : Od
  imm : Int
  cc : Int
  lock : Bool
  rep : Bool
  len : Int
/-- The numbers fit their kinds (as far as it matters). -/
structure Ins.Wf (x : Ins) : Prop where
  a1 : -9223372036854775808 ≤ x.a.d
  a2 : x.a.d < 9223372036854775808
  b1 : -9223372036854775808 ≤ x.b.d
  b2 : x.b.d < 9223372036854775808
  i1 : -9223372036854775808 ≤ x.imm
  i2 : x.imm < 9223372036854775808
def Ins.inn (x : Ins) (lo hi : Int) : Bool := decide (lo ≤ x.op) && decide (x.op ≤ hi)
def Ins.nilB (x : Ins) : Bool := x.b.k == 0 && (x.b.r == 0 && nilA x.b)
theorem g31_x (x : Ins) (lo hi : Int) (H : Heap) : g31 x.op x.w x.w2 x.a.k x.a.r x.a.b x.a.i x.a.s x.a.d x.b.k x.b.r x.b.b x.b.i x.b.s x.b.d x.imm x.cc x.lock x.rep x.len lo hi H = some (x.inn lo hi) := g31_v ..
theorem g47_x (x : Ins) (H : Heap) : g47 x.op x.w x.w2 x.a.k x.a.r x.a.b x.a.i x.a.s x.a.d x.b.k x.b.r x.b.b x.b.i x.b.s x.b.d x.imm x.cc x.lock x.rep x.len H = some (w248 x.w) := g47_v ..
theorem mm_min (a b : Int) : mm Builtin.min a b = min a b := by
  unfold mm
  by_cases h : a ≤ b <;> simp [h, Int.min_def] <;> omega
/-- The immediate as the width asks. -/
def Ins.immW (x : Ins) : Bool := fitsG x.imm (IntKind.i64.wrap (8 * min x.w 4))
theorem g48_x (x : Ins) (H : Heap) : g48 x.op x.w x.w2 x.a.k x.a.r x.a.b x.a.i x.a.s x.a.d x.b.k x.b.r x.b.b x.b.i x.b.s x.b.d x.imm x.cc x.lock x.rep x.len H = some x.immW := by
  rw [g48_eq]
  refine readOf_eq ?_
  rw [q48, mm_min, g50_g]
  rfl
theorem Ins.immW_eq (x : Ins) (h : x.Wf) (hw : wOk x.w = true) : x.immW = fitsI x.imm (halfOf (8 * min x.w 4)) := by
  have : x.w = 1 ∨ x.w = 2 ∨ x.w = 4 ∨ x.w = 8 := by simpa [wOk] using hw
  unfold Ins.immW
  rw [wrap_i64 (by omega) (by omega)]
  exact fitsG_eq _ _ (by omega) h.i1 h.i2
def Ins.immB (x : Ins) : Bool := (x.b.k == 3 && x.immW) || (!(x.b.k == 3) && x.imm == 0)
theorem g46_x (x : Ins) (H : Heap) : g46 x.op x.w x.w2 x.a.k x.a.r x.a.b x.a.i x.a.s x.a.d x.b.k x.b.r x.b.b x.b.i x.b.s x.b.d x.imm x.cc x.lock x.rep x.len H = some x.immB := by
  rw [g46_eq]
  refine readOf_eq ?_
  rw [q46]
  simp only [g48_x, Ab.bs, bne]
  unfold Ins.immB
  cases (x.b.k == 3) <;> cases x.immW <;> rfl
def Ins.locked (x : Ins) : Bool :=
  !(x.rep && !x.inn 42 43) && (!decide (x.len < 0) && (!decide (x.len > 15) && (!x.lock || (x.a.k == 2 && (x.inn 1 7 || (x.inn 16 19 || x.inn 31 33))))))
theorem g32_x (x : Ins) (H : Heap) : g32 x.op x.w x.w2 x.a.k x.a.r x.a.b x.a.i x.a.s x.a.d x.b.k x.b.r x.b.b x.b.i x.b.s x.b.d x.imm x.cc x.lock x.rep x.len H = some x.locked := by
  rw [g32_eq]
  refine readOf_eq ?_
  rw [q32]
  simp only [g31_x, Ab.bs]
  unfold Ins.locked
  cases x.rep <;> cases x.inn 42 43 <;> cases decide (x.len < 0) <;> cases decide (x.len > 15) <;> cases x.lock <;> cases (x.a.k == 2) <;> cases x.inn 1 7 <;> cases x.inn 16 19 <;> rfl
def Ins.plain (x : Ins) (imm cc w2 : Bool) : Bool :=
  (imm || x.imm == 0) && (((cc && (decide (x.cc ≥ 0) && decide (x.cc ≤ 15))) || x.cc == 0) && (w2 || x.w2 == 0))
theorem g33_x (x : Ins) (imm cc w2 : Bool) (H : Heap) : g33 x.op x.w x.w2 x.a.k x.a.r x.a.b x.a.i x.a.s x.a.d x.b.k x.b.r x.b.b x.b.i x.b.s x.b.d x.imm x.cc x.lock x.rep x.len imm cc w2 H = some (x.plain imm cc w2) := by
  rw [g33_eq]
  refine readOf_eq ?_
  rw [q33]
  unfold Ins.plain
  cases imm <;> cases cc <;> cases w2 <;> cases (x.imm == 0) <;> cases decide (x.cc ≥ 0) <;> cases decide (x.cc ≤ 15) <;> cases (x.cc == 0) <;> rfl
def Ins.two (x : Ins) : Bool :=
  let both := x.a.k == 2 && x.b.k == 2
  bif x.inn 1 8 then wOk x.w && (isK x.a [1, 2] && (isK x.b [1, 2, 3] && (!both && x.immB)))
  else bif x.op == 9 then wOk x.w && (isK x.a [1, 2] && (isK x.b [1, 3] && x.immB))
  else bif x.op == 10 then wOk x.w && (isK x.a [1, 2] && (isK x.b [1, 2, 3] && (!both && (x.immB || (x.w == 8 && (x.a.k == 1 && x.b.k == 3))))))
  else bif x.inn 11 12 then w248 x.w && (isK x.a [1] && (isK x.b [1, 2] && (x.w2 == 1 || ((x.w2 == 2 && decide (x.w > 2)) || (x.w2 == 4 && (x.w == 8 && x.op == 12))))))
  else bif x.op == 13 then w248 x.w && (isK x.a [1] && isK x.b [2])
  else bif x.inn 24 25 then w248 x.w && (isK x.a [1] && (isK x.b [1, 2] && x.immW))
  else bif x.inn 26 30 then wOk x.w && (isK x.a [1, 2] && (((x.b.k == 1 && (x.b.r == 1 && nilA x.b)) && x.imm == 0) || (isK x.b [3] && (decide (x.imm ≥ 0) && decide (x.imm ≤ 255)))))
  else bif x.inn 31 33 then wOk x.w && (isK x.a [1, 2] && isK x.b [1])
  else x.op == 34 && (w248 x.w && (isK x.a [1] && isK x.b [1, 2]))
def Ins.one (x : Ins) : Bool :=
  bif !x.nilB then false
  else bif x.op == 14 then x.w == 8 && (isK x.a [1, 2, 3] && ((x.a.k == 3 && x.immW) || x.imm == 0))
  else bif x.op == 15 then x.w == 8 && isK x.a [1, 2]
  else bif x.inn 16 21 then wOk x.w && isK x.a [1, 2]
  else bif x.inn 22 23 then wOk x.w && (decide (x.w < 8) && isK x.a [1, 2])
  else bif x.op == 35 then x.w == 1 && isK x.a [1, 2]
  else bif x.inn 37 38 then x.w == 8 && ((isK x.a [0] && x.immW) || (isK x.a [1, 2] && x.imm == 0))
  else bif x.op == 36 then x.w == 8 && (isK x.a [0] && x.immW)
  else bif x.inn 40 41 then w248 x.w && isK x.a [0]
  else bif x.inn 42 43 then wOk x.w && isK x.a [0]
  else (x.op == 39 || x.inn 44 47) && (x.w == 8 && isK x.a [0])
def Ins.may (x : Ins) : Bool :=
  let imm := x.b.k == 3 || (x.op == 25 || (x.op == 14 || x.inn 36 38))
  x.locked && (x.plain imm (x.inn 34 36) (x.inn 11 12) && (x.two || x.one))
theorem f35_x (x : Ins) (h : x.Wf) (H : Heap) : Says (f35 x.op x.w x.w2 x.a.k x.a.r x.a.b x.a.i x.a.s x.a.d x.b.k x.b.r x.b.b x.b.i x.b.s x.b.d x.imm x.cc x.lock x.rep x.len H) H x.one := by
  rw [q35]
  simp only [g44_v, g31_x, g47_x, g48_x, g45_1 x.a h.a1 h.a2, g45_2 x.a h.a1 h.a2, g45_3 x.a h.a1 h.a2, Ab.bs, Bool.and_true]
  unfold Ins.one Ins.nilB nilA
  repeat' (first
    | exact says_ret rfl
    | exact says_push (says_ret rfl)
    | exact says_push (says_push (says_ret rfl))
    | (refine says_if (fun hc => ?_) (fun hc => ?_) <;> simp only [hc, cond_true, cond_false, Bool.true_and, Bool.false_and, Bool.and_false, Bool.and_true, Bool.true_or, Bool.false_or, Bool.or_false, Bool.or_true, Bool.not_true, Bool.not_false]))
end
end Go.Proofs.Ytlhcbcfphognlaa
