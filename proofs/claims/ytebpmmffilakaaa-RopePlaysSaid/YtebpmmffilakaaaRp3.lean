/- Layer 2: what writes a rope. -/
import Derived.Test.YtebpmmffilakaaaRp1
import Derived.Test.YtebpmmffilakaaaAb31
namespace Go.Proofs.Ytebpmmffilakaaa
open Go Go.Proofs.Ytebpmmffilakaaa.Ab
set_option linter.unusedVariables false
set_option linter.unusedSimpArgs false
set_option maxRecDepth 100000
noncomputable section
/-- The lowest w bytes of a number, the lowest first. -/
def leB : Nat → Nat → List UInt8
  | 0, _ => []
  | w + 1, v => UInt8.ofNat v :: leB w (v / 256)
theorem leB_length : ∀ w v, (leB w v).length = w
  | 0, v => rfl
  | w + 1, v => by simp [leB, leB_length w]
theorem num_leB : ∀ w v, numB (leB w v) = v % 256 ^ w
  | 0, v => by simp [leB, numB, Nat.mod_one]
  | w + 1, v => by rw [leB, numB, num_leB w, Nat.pow_succ, Nat.mul_comm (256 ^ w) 256, Nat.mod_mul]; simp
theorem ishr_nat (v i : Nat) (h : i ≤ 64) : ishr .u64 v i = ((v / 2 ^ i : Nat) : Int) := by
  unfold ishr
  have : min ((i : Int).toNat) IntKind.u64.bits = i := by simp [IntKind.bits]; omega
  rw [this, Int.fdiv_eq_ediv_of_nonneg _ (by have := Int.pow_pos (n := 2) (m := i) (by decide); omega)]
  simp
theorem byte_of (v i : Nat) (hi : i < 8) : [Cell.int IntKind.u8 (IntKind.u8.wrap (ishr .u64 (v : Int) (IntKind.i64.wrap (8 * (i : Int)))))] = E8 (UInt8.ofNat (v / 256 ^ i)) := by
  rw [wrap_i64 (by omega) (by omega), show (8 * (i : Int)) = ((8 * i : Nat) : Int) by omega, ishr_nat v _ (by omega), wrap_u8, Nat.pow_mul]
  simp [E8]
theorem loop35 (sl : Sl) (w v : Nat) (hw : w ≤ 8) (hwl : w ≤ sl.len) (hes : sl.esz = 1) (H : Heap) (hid : sl.id < H.length) : ∀ (m n i : Nat) (row : List Cell), i + m = w → sl.off + w ≤ row.length →
    D35_1 (n + m + 1) (some sl) (v : Int) (w : Int) (i : Int) (H.set sl.id (.row row false)) = some (.exit 0, X35_1 (H.set sl.id (.row (splice row (sl.off + i) ((leB m (v / 256 ^ i)).flatMap E8)) false)))
  | 0, n, i, row, hi, hr => by
    have g : decide ((i : Int) < (w : Int)) = false := by simp; omega
    rw [D35_1_s, g, cf]
    simp only [leB, List.flatMap_nil, splice_nil]
  | m + 1, n, i, row, hi, hr => by
    have g : decide ((i : Int) < (w : Int)) = true := by simp; omega
    have g1 : decide (IntKind.i64.wrap (8 * (i : Int)) < 0) = false := by rw [wrap_i64 (by omega) (by omega)]; simp; omega
    have g2 : (inb (i : Int) sl.len && sl.esz == 1) = true := by rw [hes]; simp [inb]; omega
    have g3 : IntKind.i64.wrap ((i : Int) + 1) = ((i + 1 : Nat) : Int) := by rw [wrap_i64 (by omega) (by omega)]; omega
    have g4 : sl.off + (i : Int).toNat * 1 = sl.off + i := by simp
    have g5 := put_of (set_get' (a := .row row false) hid) (off := sl.off + i) (vs := E8 (UInt8.ofNat (v / 256 ^ i))) (by show sl.off + i + 1 ≤ row.length; omega)
    rw [set_set'] at g5
    rw [show n + (m + 1) + 1 = (n + m + 1) + 1 by omega, D35_1_s, g, g1]
    simp only [ct, cf, bs, g2, g3, g4, byte_of v i (by omega), g5]
    refine (loop35 sl w v hw hwl hes H hid m n (i + 1) _ (by omega) (by rw [splice_length (by show sl.off + i + 1 ≤ row.length; omega)]; exact hr)).trans ?_
    have e := splice_more (row := row) (off := sl.off + i) (us := E8 (UInt8.ofNat (v / 256 ^ i))) (vs := (leB m (v / 256 ^ (i + 1))).flatMap E8) (by rw [flat_len E8_len, leB_length]; show sl.off + i + 1 + m * 1 ≤ row.length; omega)
    rw [show sl.off + (i + 1) = sl.off + i + (E8 (UInt8.ofNat (v / 256 ^ i))).length by show _ = sl.off + i + 1; omega, e, Nat.pow_succ, ← Nat.div_div_eq_div_mul]
    rfl
theorem f35_spec (sl : Sl) (w v : Nat) (hw : w ≤ 8) (hwl : w ≤ sl.len) (hes : sl.esz = 1) (H : Heap) (row : List Cell) (hrow : H[sl.id]? = some (.row row false)) (hr : sl.off + w ≤ row.length) :
    f35 (some sl) (w : Int) (v : Int) H = some ((), H.set sl.id (.row (splice row sl.off ((leB w v).flatMap E8)) false)) := by
  obtain ⟨n, hn⟩ := LL35_1_of w (by omega) (some sl) (v : Int) (w : Int) 0 H
  have h := loop35 sl w v hw hwl hes H (lt_of hrow) w n 0 row (by omega) hr
  rw [set_own hrow] at h
  simp only [Nat.pow_zero, Nat.div_one, Nat.add_zero] at h
  rw [q35, hn, show D35_1 (n + w + 1) (some sl) (v : Int) (w : Int) 0 H = _ from h, bs, J35_1_0]
def EU (v : Nat) : List Cell := [.int .u64 (v : Int)]
theorem EU_len (v : Nat) : (EU v).length = 1 := rfl
def zeros8 : List Cell := [.int .u8 0, .int .u8 0, .int .u8 0, .int .u8 0, .int .u8 0, .int .u8 0, .int .u8 0, .int .u8 0]
theorem isw {w : Int} (h : bits_Is w = true) : ∃ k : Nat, w = (k : Int) ∧ (k = 1 ∨ k = 2 ∨ k = 4 ∨ k = 8) := by
  have : w = 1 ∨ w = 2 ∨ w = 4 ∨ w = 8 := by simpa [bits_Is] using h
  exact ⟨w.toNat, by omega, by omega⟩
/-- Eight bytes of which some are told. -/
theorem tmp8 (H : Heap) (w v : Nat) (hw : w ≤ 8) : ∃ H2, f35 (some ⟨H.length, 0, 8, 8, 1⟩) (w : Int) (v : Int) (H ++ [.row zeros8 false]) = some ((), H2) ∧ Kp No H H2 ∧ H2.length = H.length + 1 ∧
    Sl.sub (some ⟨H.length, 0, 8, 8, 1⟩) 0 (some (w : Int)) = some (some ⟨H.length, 0, w, 8, 1⟩) ∧ RS 1 E8 H2 (some ⟨H.length, 0, w, 8, 1⟩) (leB w v) := by
  have k1 := f35_spec ⟨H.length, 0, 8, 8, 1⟩ w v hw hw rfl (H ++ [.row zeros8 false]) zeros8 (by simp) (by simp [zeros8]; omega)
  refine ⟨_, k1, (Kp.push No H [.row zeros8 false]).trans (Kp.set _ _ _) (fun _ h => h) (fun i hi h => ?_), by simp, ?_, ⟨by simp [leB_length], rfl, hw, fun i c e => ?_⟩⟩
  · rw [show i = H.length from h] at hi; omega
  · unfold Sl.sub
    simp only [Option.getD_some]
    rw [if_pos (by omega)]
    simp
  · have hi := (List.getElem?_eq_some_iff.1 e).1
    rw [flat_len E8_len, leB_length] at hi
    rw [get_of (set_get' (by simp))]
    show (splice zeros8 0 _)[0 + i]? = _
    rw [spGet (by rw [flat_len E8_len, leB_length]; simp [zeros8]; omega), if_neg (by omega), if_pos (by rw [flat_len E8_len, leB_length]; omega), ← e]
    congr 1; omega
theorem rp_kp {F : Nat → Prop} {H H' : Heap} {id : Nat} {b : List UInt8} (h : RP F H id b) (hk : Kp No H H') : RP F H' id b := by
  obtain ⟨s, h1, h2, h3, h4, h5⟩ := h
  exact ⟨s, hk.at h1 (fun e => e), h2.kp hk (fun _ _ e => e), h3, h4, h5⟩
theorem loop11 (H0 : Heap) (x : Option Sl) (vs : List Nat) (hx : RS 1 EU H0 x vs) (w : Nat) (hw : 0 < w ∧ w ≤ 8) (hvs : vs.length ≤ 1048576) (id : Nat) (F : Nat → Prop) (h0 : ∀ sl, x = some sl → vs ≠ [] → ¬ F sl.id) : ∀ (m n i : Nat) (b : List UInt8) (H : Heap), i + m = vs.length → b.length + w * m ≤ 1048576 → RP F H id b → (∀ i, H.length ≤ i → F i) → Kp F H0 H →
    ∃ H', D11_8 (n + m + 1) (some (id, 0)) (w : Int) x (vs.length : Int) (i : Int) H = some (.exit 1, X11_8 H') ∧ RP F H' id (b ++ (vs.drop i).flatMap (leB w)) ∧ Kp F H H'
  | 0, n, i, b, H, hi, hb, hr, hF, hk => by
    have g : decide ((i : Int) < (vs.length : Int)) = false := by simp; omega
    refine ⟨H, by rw [D11_8_s, g, cf], ?_, Kp.refl _ _⟩
    rw [List.drop_eq_nil_of_le (by omega)]; simpa using hr
  | m + 1, n, i, b, H, hi, hb, hr, hF, hk => by
    have hil : i < vs.length := by omega
    have hvi : vs[i]? = some vs[i] := List.getElem?_eq_getElem hil
    have g : decide ((i : Int) < (vs.length : Int)) = true := by simp; omega
    have g3 : IntKind.i64.wrap ((i : Int) + 1) = ((i + 1 : Nat) : Int) := by rw [wrap_i64 (by omega) (by omega)]; omega
    obtain ⟨sl, rfl, g2, g4⟩ := (hx.kp hk h0).idx1 hvi (e := fun v => .int .u64 (v : Int)) fun _ => rfl
    obtain ⟨H2, t1, t2, t3, t4, t5⟩ := tmp8 H w vs[i] hw.2
    rw [Nat.mul_add, Nat.mul_one] at hb
    obtain ⟨s, s2, H3, H4, r1, r2, r3, r4, r5, r6⟩ := rp_app (rp_kp hr t2) (fun i hi => hF i (Nat.le_trans t2.len hi)) t5 (by rw [leB_length]; simp [most]; omega)
    have k4 : Kp F H H4 := t2.trans r6 (fun _ h => h.elim) fun _ _ h => h
    obtain ⟨H', j1, j2, j3⟩ := loop11 H0 (some sl) vs hx w hw hvs id F h0 m n (i + 1) _ H4 (by omega) (by rw [List.length_append, leB_length]; omega) r5 (fun i hi => hF i (Nat.le_trans k4.len hi)) (hk.trans k4 (fun _ h => h) fun _ _ h => h)
    refine ⟨H', ?_, ?_, k4.trans j3 (fun _ h => h) fun _ _ h => h⟩
    · rw [show n + (m + 1) + 1 = (n + m + 1) + 1 by omega, D11_8_s, g]
      simp only [ct, bs, g2, g3, g4, tInt]
      refine bnd t1 ?_
      simp only [bs, az, r1, tSlice, t4, r3, r4]
      exact j1
    · rw [List.drop_eq_getElem_cons hil, List.flatMap_cons, ← List.append_assoc]; exact j2
theorem rp_len {F : Nat → Prop} {H : Heap} {id : Nat} {b : List UInt8} (h : RP F H id b) : ∃ s, H.get id 0 = some (.slice s) ∧ RS 1 E8 H s b := by
  obtain ⟨s, h1, h2, _⟩ := h
  exact ⟨s, by rw [get_of h1]; rfl, h2.rs⟩
theorem room_eq {n : Nat} {α : Type} {E : α → List Cell} {H : Heap} {s : Option Sl} {l : List α} (h : RS n E H s l) (hl : l.length ≤ 1048576) (k : Int) : rope_store_room s k = decide (k + l.length ≤ 1048576) := by
  unfold rope_store_room
  rw [h.slenEq, wrap_i64 (by omega) (by omega)]
  congr 1
  rw [eq_iff_iff]; omega
theorem f11_arg (id : Nat) (w : Int) (x : Option Sl) (H : Heap) (hw : bits_Is w = false) : f11 (some (id, 0)) w x H = some (2, H) := by
  rw [q11]
  simp only [nsome, cf, ct, hw, Bool.not_false]
theorem f11_full {F : Nat → Prop} {id : Nat} {b : List UInt8} (x : Option Sl) (vs : List Nat) (w : Nat) (H : Heap) (hr : RP F H id b) (hb : b.length ≤ 1048576) (hx : RS 1 EU H x vs) (hw : bits_Is (w : Int) = true) (hv : vs.length ≤ 1048576) (hf : 1048576 < b.length + w * vs.length) : f11 (some (id, 0)) (w : Int) x H = some (4, H) := by
  obtain ⟨k, e, h8⟩ := isw hw
  have e : w = k := by omega
  subst e
  have hw0 : ((w : Int) == 0) = false := by simp; omega
  have hdiv : IntKind.i64.wrap (Int.tdiv 1048576 (w : Int)) = ((1048576 / w : Nat) : Int) := by rcases h8 with h | h | h | h <;> subst h <;> decide
  obtain ⟨q, hq⟩ : ∃ q, q = 1048576 / w := ⟨_, rfl⟩
  rw [← hq] at hdiv
  obtain ⟨s, r1, r2⟩ := rp_len hr
  rw [q11]
  by_cases hm : q < vs.length
  · have hmost : decide (slen x > IntKind.i64.wrap (Int.tdiv 1048576 (w : Int))) = true := by rw [hx.slenEq, hdiv]; simp; omega
    simp only [nsome, cf, ct, hw, Bool.not_true, hw0, hmost]
  · have hmost : decide (slen x > IntKind.i64.wrap (Int.tdiv 1048576 (w : Int))) = false := by rw [hx.slenEq, hdiv]; simp; omega
    have hmul : w * vs.length ≤ 8 * 1048576 := Nat.mul_le_mul (by omega) hv
    have hroom : rope_store_room s (IntKind.i64.wrap ((w : Int) * slen x)) = false := by
      have e : (w : Int) * (vs.length : Int) = ((w * vs.length : Nat) : Int) := by simp
      rw [hx.slenEq, e, wrap_i64 (by omega) (by omega), room_eq r2 hb]; simp; omega
    simp only [nsome, cf, ct, hw, Bool.not_true, hw0, hmost, bs, az, r1, tSlice, hroom, Bool.not_false]
theorem f11_spec {F : Nat → Prop} {id : Nat} {b : List UInt8} (x : Option Sl) (vs : List Nat) (w : Nat) (H : Heap) (hr : RP F H id b) (hF : ∀ i, H.length ≤ i → F i) (hx : RS 1 EU H x vs) (h0 : ∀ sl, x = some sl → vs ≠ [] → ¬ F sl.id) (hw : bits_Is (w : Int) = true) (hf : b.length + w * vs.length ≤ 1048576) :
    ∃ H', f11 (some (id, 0)) (w : Int) x H = some (0, H') ∧ RP F H' id (b ++ vs.flatMap (leB w)) ∧ Kp F H H' := by
  obtain ⟨k, e, h8⟩ := isw hw
  have e : w = k := by omega
  subst e
  have hw0 : ((w : Int) == 0) = false := by simp; omega
  have hdiv : IntKind.i64.wrap (Int.tdiv 1048576 (w : Int)) = ((1048576 / w : Nat) : Int) := by rcases h8 with h | h | h | h <;> subst h <;> decide
  obtain ⟨q, hq⟩ : ∃ q, q = 1048576 / w := ⟨_, rfl⟩
  rw [← hq] at hdiv
  obtain ⟨s, r1, r2⟩ := rp_len hr
  have hm : vs.length ≤ q := by rw [hq]; rcases h8 with h | h | h | h <;> subst h <;> omega
  have hvs : vs.length ≤ 1048576 := Nat.le_trans hm (by rw [hq]; exact Nat.div_le_self _ _)
  have hmost : decide (slen x > IntKind.i64.wrap (Int.tdiv 1048576 (w : Int))) = false := by rw [hx.slenEq, hdiv]; simp; omega
  have hroom : rope_store_room s (IntKind.i64.wrap ((w : Int) * slen x)) = true := by
    have e : (w : Int) * (vs.length : Int) = ((w * vs.length : Nat) : Int) := by simp
    rw [hx.slenEq, e, wrap_i64 (by omega) (by omega), room_eq r2 (by omega)]; simp; omega
  obtain ⟨n, hn⟩ := LL11_8_of vs.length (by omega) (some (id, 0)) (w : Int) x (slen x) 0 H
  obtain ⟨H', j1, j2, j3⟩ := loop11 H x vs hx w (by omega) hvs id F h0 vs.length n 0 b H (by omega) hf hr hF (Kp.refl _ _)
  refine ⟨H', ?_, j2, j3⟩
  rw [q11]
  simp only [nsome, cf, ct, hw, Bool.not_true, hw0, hmost, bs, az, r1, tSlice, hroom, hn]
  rw [hx.slenEq]
  exact bnd j1 (J11_8_0 _)
theorem g12_spec {F : Nat → Prop} {id : Nat} {b : List UInt8} (H : Heap) (hr : RP F H id b) : f12 (some (id, 0)) H = some ((b.length : Int), H) := by
  obtain ⟨s, r1, r2⟩ := rp_len hr
  rw [q12]
  simp only [nsome, cf, bs, az, r1, tSlice, r2.slenEq]
theorem f16_arg (id : Nat) (a w : Int) (H : Heap) (hw : bits_Is w = false) : f16 (some (id, 0)) a w H = some ((0, 2), H) := by
  rw [q16]
  simp only [nsome, cf, ct, hw, Bool.not_false]
theorem f16_no {F : Nat → Prop} {id : Nat} {b : List UInt8} {H : Heap} (hr : RP F H id b) (hb : b.length ≤ 1048576) (a w : Int) (hw : bits_Is w = true) (hh : hasI b.length a w = false) : f16 (some (id, 0)) a w H = some ((0, 7), H) := by
  obtain ⟨s, r1, r2⟩ := rp_len hr
  have hh' := (has_eq r2 (by omega) a w).trans hh
  rw [q16]
  simp only [nsome, cf, ct, hw, Bool.not_true, bs, az, r1, tSlice, hh', Bool.not_false]
theorem f16_spec {F : Nat → Prop} {id : Nat} {b : List UInt8} {H : Heap} (hr : RP F H id b) (hb : b.length ≤ 1048576) (a w : Nat) (hw : bits_Is (w : Int) = true) (hh : a + w ≤ b.length) : f16 (some (id, 0)) (a : Int) (w : Int) H = some ((((numB ((b.drop a).take w) : Nat) : Int), 0), H) := by
  obtain ⟨k, e, h8⟩ := isw hw
  have e : w = k := by omega
  subst e
  obtain ⟨s, r1, r2⟩ := rp_len hr
  have hh' : rope_store_has s (a : Int) (w : Int) = true := by rw [has_eq r2 (by omega)]; simp [hasI]; omega
  rw [q16]
  simp only [nsome, cf, ct, hw, Bool.not_true, bs, az, r1, tSlice, hh', f38_spec s b (by omega) a w (by omega) hh H r2]
theorem loop15 (H0 : Heap) (w : Nat) (hw : w ≤ 8) : ∀ (m n i v : Nat) (s : Option Sl) (l : List UInt8) (H : Heap), i + m = w → l.length = i → v < 18446744073709551616 → OS 1 E8 H s l → New H0.length s → Kp No H0 H →
    ∃ s' H', D15_3 (n + m + 1) (w : Int) (v : Int) s (i : Int) H = some (.exit 0, X15_3 s' H') ∧ OS 1 E8 H' s' (l ++ leB m v) ∧ New H0.length s' ∧ Kp No H0 H'
  | 0, n, i, v, s, l, H, hi, hl, hv, ho, hs, hk => by
    have g : decide ((i : Int) < (w : Int)) = false := by simp; omega
    exact ⟨s, H, by rw [D15_3_s, g, cf], by simpa [leB] using ho, hs, hk⟩
  | m + 1, n, i, v, s, l, H, hi, hl, hv, ho, hs, hk => by
    have g : decide ((i : Int) < (w : Int)) = true := by simp; omega
    have g3 : IntKind.i64.wrap ((i : Int) + 1) = ((i + 1 : Nat) : Int) := by rw [wrap_i64 (by omega) (by omega)]; omega
    have g5 : IntKind.u8.wrap ((v : Int).tmod 256) = (((UInt8.ofNat v).toNat : Nat) : Int) := by
      rw [show ((256 : Int)) = ((256 : Nat) : Int) from rfl, ← Int.ofNat_tmod, wrap_u8]; simp
    have g6 : IntKind.u64.wrap ((v : Int).tdiv 256) = ((v / 256 : Nat) : Int) := by
      rw [show ((256 : Int)) = ((256 : Nat) : Int) from rfl, ← Int.ofNat_tdiv, wrap_u64]; omega
    have kp : Kp No H (H ++ [.row [Cell.int .u8 (((UInt8.ofNat v).toNat : Nat) : Int)] false]) := Kp.push _ _ _
    obtain ⟨s', H', a1, a2, a3, a4⟩ := append_OS E8_len (by decide) (by' := 1) (x := some { id := H.length, off := 0, len := 1, cap := 1, esz := 1 }) (m := [UInt8.ofNat v]) (ho.kp kp fun _ _ h => h) ⟨rfl, rfl, Nat.le_refl _, fun j c e => by
      show Heap.get _ H.length (0 + j) = some c
      rw [za, get_of (push_get _ _)]; exact e⟩ (by simp [most]; omega)
    have hl0 := hk.len
    obtain ⟨s2, H2, j1, j2, j3, j4⟩ := loop15 H0 w hw m n (i + 1) (v / 256) s' (l ++ [UInt8.ofNat v]) H' (by omega) (by simp; omega) (by omega) a2 (fun sl e => by
      rcases a4 sl e with ⟨sl0, e0, e1⟩ | h
      · rw [e1]; exact hs sl0 e0
      · simp at h; omega) ((hk.trans kp (D := No) (fun _ h => h) fun _ _ h => h).trans a3 (fun _ h => h) fun j hj ⟨sl, e, e1⟩ => by have := hs sl e; omega)
    refine ⟨s2, H2, ?_, by simpa [leB] using j2, j3, j4⟩
    rw [show n + (m + 1) + 1 = (n + m + 1) + 1 by omega, D15_3_s, g]
    simp only [ct, g5, g6, g3, a1, bs]
    exact j1
theorem f15_spec (w v : Nat) (hw : w ≤ 8) (hv : v < 18446744073709551616) (H : Heap) : ∃ s' H', f15 (w : Int) (v : Int) H = some (s', H') ∧ OS 1 E8 H' s' (leB w v) ∧ Kp No H H' ∧ New H.length s' := by
  obtain ⟨n, hn⟩ := LL15_3_of w (by omega) (w : Int) (v : Int) none 0 H
  obtain ⟨s', H', j1, j2, j3, j4⟩ := loop15 H w hw w n 0 v none [] H (by omega) rfl hv rfl (fun _ e => nomatch e) (Kp.refl _ _)
  refine ⟨s', H', ?_, by simpa using j2, j4, j3⟩
  rw [q15, hn]
  exact bnd j1 (J15_3_0 _ _)
/-! 51: internal_bytealg_IndexByteString -/
def ixs (s : ByteArray) (c : Int) : Int := Lib.indexByte s.data.toList c.toNat.toUInt8
noncomputable def G51 : List TV → Option (List TV)
  | [.c (Cell.str x0), .c (Cell.int .u8 x1)] => some [.c (Cell.int .i64 ((ixs x0 x1)))]
  | _ => none
noncomputable def F51 : FnSem := numF G51
theorem F51_num : FnNum F51 := numF_num _
theorem ok51 : FnOk Try.prog 51 F51 := numX_ok (idxS_ok Try.func51 (by kernel_rfl) (by kernel_rfl) (by kernel_rfl) (by kernel_rfl)) fun args vs h => by
  unfold G51 at h
  split at h
  · exact h
  · cases h
/-! 46: internal_stringslite_IndexByte -/
noncomputable def CC46 : Ctx := { P := Try.prog, own := [], fns := [(51, F51)], nt := 8, nums := [51], live := [] }
theorem good46 : Callees Try.prog CC46.fns [] CC46.nums := (Callees.nil Try.prog).cons_num ok51 F51_num
def internal_stringslite_IndexByte (s : ByteArray) (c : Int) : Int := ixs s c
noncomputable def G46 : List TV → Option (List TV)
  | [.c (Cell.str s), .c (Cell.int .u8 c)] => some [.c (Cell.int .i64 ((internal_stringslite_IndexByte s c)))]
  | _ => none
noncomputable def F46 : FnSem := numF G46
theorem F46_num : FnNum F46 := numF_num _
theorem e46 : ∀ (R : Type) (s : ByteArray) (c : Int) (H : Heap) (K : AV → Heap → Option R) (lp : Code → St → (AExit → St → Option R) → Option R), fnL CC46 lp Try.f46.results.toList (bodyOf Try.f46) [TV.c (Cell.str s), TV.c (Cell.int IntKind.u8 c)] H K = K (AV.c (Cell.int IntKind.i64 (ixs s c))) H := by intros; kernel_rfl
theorem s46 (R : Type) (s : ByteArray) (c : Int) (H : Heap) (K : AV → Heap → Option R) (lp : Code → St → (AExit → St → Option R) → Option R) : fnL CC46 lp Try.f46.results.toList (bodyOf Try.f46) [.c (Cell.str s), .c (Cell.int .u8 c)] H K = K (oneOf [.c (Cell.int .i64 ((internal_stringslite_IndexByte s c)))]) H := by
  rw [e46]
  rfl
theorem ok46 : FnOk Try.prog 46 F46 := by
  refine fn_ok (C := CC46) (good46.env rfl) (good46.ctx rfl rfl rfl) (by kernel_rfl) Try.func46 (c := bodyOf Try.f46) (by kernel_rfl) (by kernel_rfl) (Nat.le_of_eq Try.ntmps46.symm) ?_
  intro R args H K r h
  unfold F46 numF G46 at h
  split at h
  · rw [fnA_eq, s46]; exact h
  · cases h
/-! 40: strings_IndexByte -/
noncomputable def CC40 : Ctx := { P := Try.prog, own := [], fns := [(46, F46)], nt := 8, nums := [46], live := [] }
theorem good40 : Callees Try.prog CC40.fns [] CC40.nums := (Callees.nil Try.prog).cons_num ok46 F46_num
def strings_IndexByte (s : ByteArray) (c : Int) : Int := ixs s c
noncomputable def G40 : List TV → Option (List TV)
  | [.c (Cell.str s), .c (Cell.int .u8 c)] => some [.c (Cell.int .i64 ((strings_IndexByte s c)))]
  | _ => none
noncomputable def F40 : FnSem := numF G40
theorem F40_num : FnNum F40 := numF_num _
theorem e40 : ∀ (R : Type) (s : ByteArray) (c : Int) (H : Heap) (K : AV → Heap → Option R) (lp : Code → St → (AExit → St → Option R) → Option R), fnL CC40 lp Try.f40.results.toList (bodyOf Try.f40) [TV.c (Cell.str s), TV.c (Cell.int IntKind.u8 c)] H K = K (AV.c (Cell.int IntKind.i64 (internal_stringslite_IndexByte s c))) H := by intros; kernel_rfl
theorem s40 (R : Type) (s : ByteArray) (c : Int) (H : Heap) (K : AV → Heap → Option R) (lp : Code → St → (AExit → St → Option R) → Option R) : fnL CC40 lp Try.f40.results.toList (bodyOf Try.f40) [.c (Cell.str s), .c (Cell.int .u8 c)] H K = K (oneOf [.c (Cell.int .i64 ((strings_IndexByte s c)))]) H := by
  rw [e40]
  rfl
theorem ok40 : FnOk Try.prog 40 F40 := by
  refine fn_ok (C := CC40) (good40.env rfl) (good40.ctx rfl rfl rfl) (by kernel_rfl) Try.func40 (c := bodyOf Try.f40) (by kernel_rfl) (by kernel_rfl) (Nat.le_of_eq Try.ntmps40.symm) ?_
  intro R args H K r h
  unfold F40 numF G40 at h
  split at h
  · rw [fnA_eq, s40]; exact h
  · cases h
/-! 41: rope_store_total -/
noncomputable def CC41 : Ctx := { P := Try.prog, own := [2], fns := [(34, F34)], nt := 27, nums := [34], live := [(3, ⟨[2, 5, 8, 9, 10], [2], [2, 4, 5], [2]⟩)] }
theorem good41 : Callees Try.prog CC41.fns [] CC41.nums := (Callees.nil Try.prog).cons_num ok34 F34_num
theorem hN41 : CtxNat CC41 := good41.ctx rfl rfl rfl
abbrev Ty41 := (Option Sl) → (Option Sl) → Heap → Option (Bool × Heap)
def enc41 (r : Bool) : List TV := [.c (Cell.bool (r))]
def dec41 : AV → Option (Bool)
  | .c (Cell.bool q0) => some (q0)
  | _ => none
theorem de41 (v : AV) (r : Bool) (h : dec41 v = some r) : v = oneOf (enc41 r) := by
  unfold dec41 at h
  split at h
  · cases h; rfl
  · cases h
def sem41 (f : Ty41) : List TV → Heap → Option (Bool × Heap)
  | [.agg [Cell.slice s], .c (Cell.slice parts)], H => f s parts H
  | _, _ => none
noncomputable def f41 : Ty41 := hide fun s parts H => fnA CC41 Try.f41.results.toList (bodyOf Try.f41) _ [.agg [Cell.slice s], .c (Cell.slice parts)] H (decF dec41)
theorem f41_eq (s : (Option Sl)) (parts : (Option Sl)) (H : Heap) : f41 s parts H = fnA CC41 Try.f41.results.toList (bodyOf Try.f41) _ [.agg [Cell.slice s], .c (Cell.slice parts)] H (decF dec41) := by unfold f41; rw [hide_eq]
theorem f41_run (s : (Option Sl)) (parts : (Option Sl)) (H : Heap) : f41 s parts H = fnL CC41 (lpD CC41) Try.f41.results.toList (bodyOf Try.f41) [.agg [Cell.slice s], .c (Cell.slice parts)] H (decF dec41) := (f41_eq ..).trans (fnA_lpD hN41 ..)
def S41_3 (t5 : Int) (t8 : (Option Sl)) (t9 : Int) (t10 : Int) (b2_ : (Option Sl)) (H : Heap) : St := ⟨[(2, .lp 2 0), (5, .c (Cell.int .i64 t5)), (8, .c (Cell.slice t8)), (9, .c (Cell.int .i64 t9)), (10, .c (Cell.int .i64 t10))], [(2, [Cell.slice b2_])], H⟩
noncomputable def D41_3 (n : Nat) (t5 : Int) (t8 : (Option Sl)) (t9 : Int) (t10 : Int) (b2_ : (Option Sl)) (H : Heap) : Option (AExit × St) := loopN (exec CC41 (Code.l (Code.l (Code.r (Code.l (Code.r (Code.r (bodyOf Try.f41)))))))) (keepOf CC41.live (Code.l (Code.l (Code.r (Code.l (Code.r (Code.r (bodyOf Try.f41)))))))) n (S41_3 t5 t8 t9 t10 b2_ H) retD
noncomputable def LL41_3 (t5 : Int) (t8 : (Option Sl)) (t9 : Int) (t10 : Int) (b2_ : (Option Sl)) (H : Heap) : Option (AExit × St) := loopsD CC41 (Code.l (Code.l (Code.r (Code.l (Code.r (Code.r (bodyOf Try.f41))))))) (S41_3 t5 t8 t9 t10 b2_ H)
theorem LL41_3_of (m : Nat) (hm : m < 18446744073709551616) (t5 : Int) (t8 : (Option Sl)) (t9 : Int) (t10 : Int) (b2_ : (Option Sl)) (H : Heap) : ∃ n, LL41_3 t5 t8 t9 t10 b2_ H = D41_3 (n + m + 1) t5 t8 t9 t10 b2_ H := loopsD_of _ _ _ m hm
def X41_3 (x0 : Bool) (x1 : Int) (x2 : Option Sl) (H : Heap) : St := { env := [(2, AV.lp 2 0), (4, AV.c (Cell.bool x0)), (5, AV.c (Cell.int IntKind.i64 x1))], loc := [(2, [Cell.slice x2])], heap := H }
def X41_3a (x0 : Int) (x1 : Option Sl) (H : Heap) : St := { env := [(2, AV.lp 2 0), (5, AV.c (Cell.int IntKind.i64 x0))], loc := [(2, [Cell.slice x1])], heap := H }
noncomputable def J41_3 : AExit × St → Option (Bool × Heap) := fun p => blockK 0 (seqK (execL CC41 (lpD CC41) (Code.r (Code.r (Code.r (bodyOf Try.f41))))) (retA CC41 [ResultVar.tmp 4] (decF dec41))) p.fst p.snd
theorem D41_3_s : ∀ (n : Nat) (t5 : Int) (t8 : Option Sl) (t9 t10 : Int) (b2_ : Option Sl) (H : Heap), D41_3 (n + 1) t5 t8 t9 t10 b2_ H = bif decide (t10 < t9) then t8.bind fun v2 => bif inb t10 v2.len && v2.esz == 1 then (H.get v2.id (v2.off + t10.toNat * 1)).bind fun v1 => v1.toSlice.bind fun v0 => bif decide (slen v0 > IntKind.i64.wrap (1048576 - t5)) then some (AExit.ret, X41_3 false t5 b2_ H) else D41_3 n (IntKind.i64.wrap (t5 + slen v0)) t8 t9 (IntKind.i64.wrap (t10 + 1)) b2_ H else none else some (AExit.exit 0, X41_3a t5 b2_ H) := by intros; exact (loopN_stepD hN41 _ _ _ _).trans (by kernel_rfl)
theorem q41 : ∀ (s parts : Option Sl) (H : Heap), f41 s parts H = (LL41_3 0 parts (slen parts) 0 s H).bind J41_3 := by intros; exact (f41_run ..).trans (by kernel_rfl)
theorem J41_3_0 : ∀ (x0 : Bool) (x1 : Int) (x2 : Option Sl) (H : Heap), J41_3 (AExit.ret, X41_3 x0 x1 x2 H) = some (x0, H) := by intros; kernel_rfl
theorem J41_3_1 : ∀ (x0 : Int) (x1 : Option Sl) (H : Heap), J41_3 (AExit.exit 0, X41_3a x0 x1 H) = some (rope_store_room x1 x0, H) := by intros; kernel_rfl
theorem ok41 : FnOk Try.prog 41 (specF enc41 (sem41 f41)) := by
  refine spec_ok (C := CC41) good41 rfl rfl rfl (by kernel_rfl) Try.func41 (c := bodyOf Try.f41) (by kernel_rfl) (by kernel_rfl) (Nat.le_of_eq Try.ntmps41.symm) dec41 enc41 de41 _ ?_
  intro args H q h
  unfold sem41 at h
  split at h
  · rw [← f41_eq]; exact h
  · cases h
/-- How many bytes parts have. -/
def total (ls : List (List UInt8)) : Nat := (ls.map List.length).sum
theorem total_cons (l : List UInt8) (ls : List (List UInt8)) : total (l :: ls) = l.length + total ls := by simp [total]
theorem loop41 (t : Option Sl) (ls : List (List UInt8)) (H : Heap) (ht : RSS H t ls) (hlen : ls.length ≤ 4611686018427387904) (s : Option Sl) : ∀ (m n i k : Nat), i + m = ls.length → k ≤ 1048576 →
    (k + total (ls.drop i) ≤ 1048576 → D41_3 (n + m + 1) (k : Int) t (ls.length : Int) (i : Int) s H = some (.exit 0, X41_3a ((k + total (ls.drop i) : Nat) : Int) s H)) ∧
    (1048576 < k + total (ls.drop i) → ∃ x, D41_3 (n + m + 1) (k : Int) t (ls.length : Int) (i : Int) s H = some (.ret, X41_3 false x s H))
  | 0, n, i, k, hi, hk => by
    have g : decide ((i : Int) < (ls.length : Int)) = false := by simp; omega
    have e : total (ls.drop i) = 0 := by rw [List.drop_eq_nil_of_le (by omega)]; rfl
    rw [e]
    exact ⟨fun _ => by rw [D41_3_s, g, cf]; rfl, fun h => by omega⟩
  | m + 1, n, i, k, hi, hk => by
    have hil : i < ls.length := by omega
    have hli : ls[i]? = some ls[i] := List.getElem?_eq_getElem hil
    have ht0 := ht
    obtain ⟨ps, p1, p2, p3⟩ := ht
    have hpi : ps[i]? = some ps[i] := List.getElem?_eq_getElem (by omega)
    have hp := p3 i _ _ hpi hli
    generalize hp0 : ps[i]'(by omega) = p at *
    have g : decide ((i : Int) < (ls.length : Int)) = true := by simp; omega
    have g3 : IntKind.i64.wrap ((i : Int) + 1) = ((i + 1 : Nat) : Int) := by rw [wrap_i64 (by omega) (by omega)]; omega
    obtain ⟨sl, rfl, g2, g4⟩ := p1.idx1 hpi (e := fun s => .slice s) fun _ => rfl
    have e : total (ls.drop i) = ls[i].length + total (ls.drop (i + 1)) := by rw [List.drop_eq_getElem_cons hil, total_cons]
    have gw : IntKind.i64.wrap (1048576 - (k : Int)) = 1048576 - (k : Int) := wrap_i64 (by omega) (by omega)
    rw [show n + (m + 1) + 1 = (n + m + 1) + 1 by omega, D41_3_s, g, e]
    by_cases hbig : 1048576 < k + ls[i].length
    · have gb : decide (slen p > IntKind.i64.wrap (1048576 - (k : Int))) = true := by rw [hp.slenEq, gw]; simp; omega
      refine ⟨fun h => by omega, fun _ => ⟨(k : Int), ?_⟩⟩
      simp only [ct, bs, g2, g4, tSlice, gb]
    · have gb : decide (slen p > IntKind.i64.wrap (1048576 - (k : Int))) = false := by rw [hp.slenEq, gw]; simp; omega
      have gk : IntKind.i64.wrap ((k : Int) + slen p) = ((k + ls[i].length : Nat) : Int) := by rw [hp.slenEq, wrap_i64 (by omega) (by omega)]; omega
      simp only [ct, cf, bs, g2, g3, g4, tSlice, gb, gk]
      rw [← Nat.add_assoc]
      exact loop41 (some sl) ls H ht0 hlen s m n (i + 1) (k + ls[i].length) (by omega) (by omega)
theorem f41_spec {H : Heap} {s t : Option Sl} {b : List UInt8} {ls : List (List UInt8)} (hs : RS 1 E8 H s b) (hb : b.length ≤ 1048576) (ht : RSS H t ls) (hlen : ls.length ≤ 4611686018427387904) : f41 s t H = some (decide (total ls + b.length ≤ 1048576), H) := by
  have hsl : slen t = (ls.length : Int) := by
    obtain ⟨ps, p1, p2, _⟩ := ht
    rw [p1.slenEq, p2]
  obtain ⟨n, hn⟩ := LL41_3_of ls.length (by omega) 0 t (ls.length : Int) 0 s H
  obtain ⟨j1, j2⟩ := loop41 t ls H ht hlen s ls.length n 0 0 (by omega) (by omega)
  rw [q41, hsl, hn]
  simp only [List.drop_zero, Nat.zero_add] at j1 j2
  by_cases h : total ls ≤ 1048576
  · refine bnd (j1 h) ?_
    rw [J41_3_1, room_eq hs hb]
    simp only [Option.some.injEq, Prod.mk.injEq, and_true]
    congr 1
    rw [eq_iff_iff]; omega
  · obtain ⟨x, j⟩ := j2 (by omega)
    refine bnd j ?_
    rw [J41_3_0]
    have : decide (total ls + b.length ≤ 1048576) = false := by simp; omega
    rw [this]
/-! 26: rope_Rope_Raw -/
noncomputable def CC26 : Ctx := { P := Try.prog, own := [], fns := [(41, specF enc41 (sem41 f41))], nt := 35, nums := [], live := [(2, ⟨[0, 17, 18, 19], [], [], []⟩)] }
theorem good26 : Callees Try.prog CC26.fns [] CC26.nums := (Callees.nil Try.prog).cons ok41 (specF_nat _ _)
theorem hN26 : CtxNat CC26 := good26.ctx rfl rfl rfl
abbrev Ty26 := (Option (Nat × Nat)) → (Option Sl) → Heap → Option (Unit × Heap)
def enc26 (r : Unit) : List TV := []
def dec26 : AV → Option (Unit)
  | .tup [] => some ()
  | _ => none
theorem de26 (v : AV) (r : Unit) (h : dec26 v = some r) : v = oneOf (enc26 r) := by
  unfold dec26 at h
  split at h
  · cases h; rfl
  · cases h
def sem26 (f : Ty26) : List TV → Heap → Option (Unit × Heap)
  | [.c (Cell.ptr r), .c (Cell.slice parts)], H => f r parts H
  | _, _ => none
noncomputable def f26 : Ty26 := hide fun r parts H => fnA CC26 Try.f26.results.toList (bodyOf Try.f26) _ [.c (Cell.ptr r), .c (Cell.slice parts)] H (decF dec26)
theorem f26_eq (r : (Option (Nat × Nat))) (parts : (Option Sl)) (H : Heap) : f26 r parts H = fnA CC26 Try.f26.results.toList (bodyOf Try.f26) _ [.c (Cell.ptr r), .c (Cell.slice parts)] H (decF dec26) := by unfold f26; rw [hide_eq]
theorem f26_run (r : (Option (Nat × Nat))) (parts : (Option Sl)) (H : Heap) : f26 r parts H = fnL CC26 (lpD CC26) Try.f26.results.toList (bodyOf Try.f26) [.c (Cell.ptr r), .c (Cell.slice parts)] H (decF dec26) := (f26_eq ..).trans (fnA_lpD hN26 ..)
def S26_2 (t0 : (Option (Nat × Nat))) (t17 : (Option Sl)) (t18 : Int) (t19 : Int) (H : Heap) : St := ⟨[(0, .c (Cell.ptr t0)), (17, .c (Cell.slice t17)), (18, .c (Cell.int .i64 t18)), (19, .c (Cell.int .i64 t19))], [], H⟩
noncomputable def D26_2 (n : Nat) (t0 : (Option (Nat × Nat))) (t17 : (Option Sl)) (t18 : Int) (t19 : Int) (H : Heap) : Option (AExit × St) := loopN (exec CC26 (Code.l (Code.l (Code.r (Code.r (bodyOf Try.f26)))))) (keepOf CC26.live (Code.l (Code.l (Code.r (Code.r (bodyOf Try.f26)))))) n (S26_2 t0 t17 t18 t19 H) retD
noncomputable def LL26_2 (t0 : (Option (Nat × Nat))) (t17 : (Option Sl)) (t18 : Int) (t19 : Int) (H : Heap) : Option (AExit × St) := loopsD CC26 (Code.l (Code.l (Code.r (Code.r (bodyOf Try.f26))))) (S26_2 t0 t17 t18 t19 H)
theorem LL26_2_of (m : Nat) (hm : m < 18446744073709551616) (t0 : (Option (Nat × Nat))) (t17 : (Option Sl)) (t18 : Int) (t19 : Int) (H : Heap) : ∃ n, LL26_2 t0 t17 t18 t19 H = D26_2 (n + m + 1) t0 t17 t18 t19 H := loopsD_of _ _ _ m hm
def X26_2 (H : Heap) : St := { env := [], loc := [], heap := H }
noncomputable def J26_2 : AExit × St → Option (Unit × Heap) := fun p => blockK 0 (retA CC26 [] (decF dec26)) p.fst p.snd
theorem D26_2_s : ∀ (n : Nat) (t0 : Option (Nat × Nat)) (t17 : Option Sl) (t18 t19 : Int) (H : Heap), D26_2 (n + 1) t0 t17 t18 t19 H = bif decide (t19 < t18) then t17.bind fun v8 => bif inb t19 v8.len && v8.esz == 1 then (H.get v8.id (v8.off + t19.toNat * 1)).bind fun v7 => v7.toSlice.bind fun v6 => t0.bind fun v5 => (H.get v5.fst (v5.snd + 0 + 0)).bind fun v4 => v4.toSlice.bind fun v3 => (H.append 1 1 v3 v6).bind fun v2 => t0.bind fun v1 => (v2.snd.put v1.fst (v1.snd + 0 + 0) [Cell.slice v2.fst]).bind fun v0 => D26_2 n t0 t17 t18 (IntKind.i64.wrap (t19 + 1)) v0 else none else some (AExit.exit 0, X26_2 H) := by intros; exact (loopN_stepD hN26 _ _ _ _).trans (by kernel_rfl)
theorem q26 : ∀ (r : Option (Nat × Nat)) (parts : Option Sl) (H : Heap), f26 r parts H = bif r.isNone then some ((), H) else r.bind fun v12 => (H.get v12.fst (v12.snd + 0)).bind fun v11 => v11.toSlice.bind fun v10 => (f41 v10 parts H).bind fun v9 => bif !v9.fst then some ((), v9.snd) else (LL26_2 r parts (slen parts) 0 v9.snd).bind J26_2 := by intros; exact (f26_run ..).trans (by kernel_rfl)
theorem J26_2_0 : ∀ (H : Heap), J26_2 (AExit.exit 0, X26_2 H) = some ((), H) := by intros; kernel_rfl
theorem ok26 : FnOk Try.prog 26 (specF enc26 (sem26 f26)) := by
  refine spec_ok (C := CC26) good26 rfl rfl rfl (by kernel_rfl) Try.func26 (c := bodyOf Try.f26) (by kernel_rfl) (by kernel_rfl) (Nat.le_of_eq Try.ntmps26.symm) dec26 enc26 de26 _ ?_
  intro args H q h
  unfold sem26 at h
  split at h
  · rw [← f26_eq]; exact h
  · cases h
theorem loop26 (H0 : Heap) (t : Option Sl) (ls : List (List UInt8)) (ht : RSS H0 t ls) (hlen : ls.length ≤ 4611686018427387904) (id : Nat) (F : Nat → Prop) : ∀ (m n i : Nat) (b : List UInt8) (H : Heap), i + m = ls.length → b.length + total (ls.drop i) ≤ 1048576 → RP F H id b → (∀ i, H.length ≤ i → F i) → RSS H t ls → (∀ H', Kp F H H' → RSS H' t ls) →
    ∃ H', D26_2 (n + m + 1) (some (id, 0)) t (ls.length : Int) (i : Int) H = some (.exit 0, X26_2 H') ∧ RP F H' id (b ++ (ls.drop i).flatten) ∧ Kp F H H'
  | 0, n, i, b, H, hi, hb, hr, hF, hs, hk => by
    have g : decide ((i : Int) < (ls.length : Int)) = false := by simp; omega
    refine ⟨H, by rw [D26_2_s, g, cf], ?_, Kp.refl _ _⟩
    rw [List.drop_eq_nil_of_le (by omega)]; simpa using hr
  | m + 1, n, i, b, H, hi, hb, hr, hF, hs, hk => by
    have hil : i < ls.length := by omega
    have hli : ls[i]? = some ls[i] := List.getElem?_eq_getElem hil
    obtain ⟨ps, p1, p2, p3⟩ := hs
    have hpi : ps[i]? = some ps[i] := List.getElem?_eq_getElem (by omega)
    have hp := p3 i _ _ hpi hli
    generalize hp0 : ps[i]'(by omega) = p at *
    have g : decide ((i : Int) < (ls.length : Int)) = true := by simp; omega
    have g3 : IntKind.i64.wrap ((i : Int) + 1) = ((i + 1 : Nat) : Int) := by rw [wrap_i64 (by omega) (by omega)]; omega
    obtain ⟨sl, rfl, g2, g4⟩ := p1.idx1 hpi (e := fun s => .slice s) fun _ => rfl
    have e : total (ls.drop i) = ls[i].length + total (ls.drop (i + 1)) := by rw [List.drop_eq_getElem_cons hil, total_cons]
    obtain ⟨s, s2, H1, H2, r1, r2, r3, r4, r5, r6⟩ := rp_app hr hF hp (by simp [most]; omega)
    obtain ⟨H', j1, j2, j3⟩ := loop26 H0 (some sl) ls ht hlen id F m n (i + 1) _ H2 (by omega) (by rw [List.length_append]; omega) r5 (fun i hi => hF i (Nat.le_trans r6.len hi)) (hk _ r6) fun H' k => hk H' (r6.trans k (fun _ h => h) fun _ _ h => h)
    refine ⟨H', ?_, ?_, r6.trans j3 (fun _ h => h) fun _ _ h => h⟩
    · rw [show n + (m + 1) + 1 = (n + m + 1) + 1 by omega, D26_2_s, g]
      simp only [ct, bs, g2, g3, g4, tSlice, az, r1, r3, r4]
      exact j1
    · rw [List.drop_eq_getElem_cons hil, List.flatten_cons, ← List.append_assoc]; exact j2
theorem f26_full {F : Nat → Prop} {id : Nat} {b : List UInt8} {H : Heap} {t : Option Sl} {ls : List (List UInt8)} (hr : RP F H id b) (hb : b.length ≤ 1048576) (ht : RSS H t ls) (hlen : ls.length ≤ 4611686018427387904) (hf : 1048576 < total ls + b.length) : f26 (some (id, 0)) t H = some ((), H) := by
  obtain ⟨s, r1, r2⟩ := rp_len hr
  have : decide (total ls + b.length ≤ 1048576) = false := by simp; omega
  rw [q26]
  simp only [nsome, ct, cf, bs, az, r1, tSlice, f41_spec r2 hb ht hlen, this, Bool.not_false]
theorem f26_spec {F : Nat → Prop} {id : Nat} {b : List UInt8} {H : Heap} {t : Option Sl} {ls : List (List UInt8)} (hr : RP F H id b) (ht : RSS H t ls) (hF : ∀ i, H.length ≤ i → F i) (hk : ∀ H', Kp F H H' → RSS H' t ls) (hlen : ls.length ≤ 4611686018427387904) (hf : total ls + b.length ≤ 1048576) :
    ∃ H', f26 (some (id, 0)) t H = some ((), H') ∧ RP F H' id (b ++ ls.flatten) ∧ Kp F H H' := by
  obtain ⟨s, r1, r2⟩ := rp_len hr
  have hsl : slen t = (ls.length : Int) := by
    obtain ⟨ps, p1, p2, _⟩ := ht
    rw [p1.slenEq, p2]
  have hd : decide (total ls + b.length ≤ 1048576) = true := by simp; omega
  obtain ⟨n, hn⟩ := LL26_2_of ls.length (by omega) (some (id, 0)) t (ls.length : Int) 0 H
  obtain ⟨H', j1, j2, j3⟩ := loop26 H t ls ht hlen id F ls.length n 0 b H (by omega) (by rw [List.drop_zero]; omega) hr hF ht hk
  refine ⟨H', ?_, j2, j3⟩
  rw [q26]
  simp only [nsome, cf, bs, az, r1, tSlice, f41_spec r2 (by omega) ht hlen, hd, Bool.not_true, hsl, hn]
  exact bnd j1 (J26_2_0 _)
/-! 25: rope_Rope_Text -/
noncomputable def CC25 : Ctx := { P := Try.prog, own := [], fns := [(40, F40), (26, specF enc26 (sem26 f26)), (41, specF enc41 (sem41 f41))], nt := 36, nums := [40], live := [(5, ⟨[0, 5, 10, 11, 12], [], [0, 4, 5], []⟩)] }
theorem good25 : Callees Try.prog CC25.fns [] CC25.nums := (((Callees.nil Try.prog).cons ok41 (specF_nat _ _)).cons ok26 (specF_nat _ _)).cons_num ok40 F40_num
theorem hN25 : CtxNat CC25 := good25.ctx rfl rfl rfl
abbrev Ty25 := (Option (Nat × Nat)) → (Option Sl) → Heap → Option (Int × Heap)
def enc25 (r : Int) : List TV := [.c (Cell.int .i64 (r))]
def dec25 : AV → Option (Int)
  | .c (Cell.int .i64 q0) => some (q0)
  | _ => none
theorem de25 (v : AV) (r : Int) (h : dec25 v = some r) : v = oneOf (enc25 r) := by
  unfold dec25 at h
  split at h
  · cases h; rfl
  · cases h
def sem25 (f : Ty25) : List TV → Heap → Option (Int × Heap)
  | [.c (Cell.ptr r), .c (Cell.slice l)], H => f r l H
  | _, _ => none
noncomputable def f25 : Ty25 := hide fun r l H => fnA CC25 Try.f25.results.toList (bodyOf Try.f25) _ [.c (Cell.ptr r), .c (Cell.slice l)] H (decF dec25)
theorem f25_eq (r : (Option (Nat × Nat))) (l : (Option Sl)) (H : Heap) : f25 r l H = fnA CC25 Try.f25.results.toList (bodyOf Try.f25) _ [.c (Cell.ptr r), .c (Cell.slice l)] H (decF dec25) := by unfold f25; rw [hide_eq]
theorem f25_run (r : (Option (Nat × Nat))) (l : (Option Sl)) (H : Heap) : f25 r l H = fnL CC25 (lpD CC25) Try.f25.results.toList (bodyOf Try.f25) [.c (Cell.ptr r), .c (Cell.slice l)] H (decF dec25) := (f25_eq ..).trans (fnA_lpD hN25 ..)
def S25_5 (t0 : (Option (Nat × Nat))) (t5 : (Option Sl)) (t10 : (Option Sl)) (t11 : Int) (t12 : Int) (H : Heap) : St := ⟨[(0, .c (Cell.ptr t0)), (5, .c (Cell.slice t5)), (10, .c (Cell.slice t10)), (11, .c (Cell.int .i64 t11)), (12, .c (Cell.int .i64 t12))], [], H⟩
noncomputable def D25_5 (n : Nat) (t0 : (Option (Nat × Nat))) (t5 : (Option Sl)) (t10 : (Option Sl)) (t11 : Int) (t12 : Int) (H : Heap) : Option (AExit × St) := loopN (exec CC25 (Code.l (Code.l (Code.r (Code.l (Code.r (Code.r (Code.r (bodyOf Try.f25))))))))) (keepOf CC25.live (Code.l (Code.l (Code.r (Code.l (Code.r (Code.r (Code.r (bodyOf Try.f25))))))))) n (S25_5 t0 t5 t10 t11 t12 H) retD
noncomputable def LL25_5 (t0 : (Option (Nat × Nat))) (t5 : (Option Sl)) (t10 : (Option Sl)) (t11 : Int) (t12 : Int) (H : Heap) : Option (AExit × St) := loopsD CC25 (Code.l (Code.l (Code.r (Code.l (Code.r (Code.r (Code.r (bodyOf Try.f25)))))))) (S25_5 t0 t5 t10 t11 t12 H)
theorem LL25_5_of (m : Nat) (hm : m < 18446744073709551616) (t0 : (Option (Nat × Nat))) (t5 : (Option Sl)) (t10 : (Option Sl)) (t11 : Int) (t12 : Int) (H : Heap) : ∃ n, LL25_5 t0 t5 t10 t11 t12 H = D25_5 (n + m + 1) t0 t5 t10 t11 t12 H := loopsD_of _ _ _ m hm
def X25_5 (x0 : Option (Nat × Nat)) (x1 : Int) (x2 : Option Sl) (H : Heap) : St := { env := [(0, AV.c (Cell.ptr x0)), (4, AV.c (Cell.int IntKind.i64 x1)), (5, AV.c (Cell.slice x2))], loc := [], heap := H }
def X25_5a (x0 : Option (Nat × Nat)) (x1 : Option Sl) (H : Heap) : St := { env := [(0, AV.c (Cell.ptr x0)), (5, AV.c (Cell.slice x1))], loc := [], heap := H }
noncomputable def J25_5 : AExit × St → Option (Int × Heap) := fun p => blockK 0 (seqK (execL CC25 (lpD CC25) (Code.r (Code.r (Code.r (Code.r (bodyOf Try.f25)))))) (retA CC25 [ResultVar.tmp 4] (decF dec25))) p.fst p.snd
theorem D25_5_s : ∀ (n : Nat) (t0 : Option (Nat × Nat)) (t5 t10 : Option Sl) (t11 t12 : Int) (H : Heap), D25_5 (n + 1) t0 t5 t10 t11 t12 H = bif decide (t12 < t11) then t10.bind fun v3 => bif inb t12 v3.len && v3.esz == 1 then (H.get v3.id (v3.off + t12.toNat * 1)).bind fun v2 => v2.toStr.bind fun v1 => bif decide (strings_IndexByte v1 0 ≥ 0) then some (AExit.ret, X25_5 t0 2 t5 H) else bif decide (v1.size ≤ 17592186044416) then ((H ++ [Blk.row (bytesCells v1) false] ++ [Blk.row [Cell.int IntKind.u8 0] false] ++ [Blk.row [Cell.slice (some { id := List.length H, off := 0, len := v1.size, cap := v1.size, esz := 1 }), Cell.slice (some { id := List.length (H ++ [Blk.row (bytesCells v1) false]), off := 0, len := 1, cap := 1, esz := 1 })] false]).append 1 24 t5 (some { id := List.length (H ++ [Blk.row (bytesCells v1) false] ++ [Blk.row [Cell.int IntKind.u8 0] false]), off := 0, len := 2, cap := 2, esz := 1 })).bind fun v0 => D25_5 n t0 v0.fst t10 t11 (IntKind.i64.wrap (t12 + 1)) v0.snd else none else none else some (AExit.exit 0, X25_5a t0 t5 H) := by intros; exact (loopN_stepD hN25 _ _ _ _).trans (by kernel_rfl)
theorem q25 : ∀ (r : Option (Nat × Nat)) (l : Option Sl) (H : Heap), f25 r l H = bif r.isNone then some (1, H) else (LL25_5 r none l (slen l) 0 H).bind J25_5 := by intros; exact (f25_run ..).trans (by kernel_rfl)
theorem J25_5_0 : ∀ (x0 : Option (Nat × Nat)) (x1 : Int) (x2 : Option Sl) (H : Heap), J25_5 (AExit.ret, X25_5 x0 x1 x2 H) = some (x1, H) := by intros; kernel_rfl
theorem J25_5_1 : ∀ (x0 : Option (Nat × Nat)) (x1 : Option Sl) (H : Heap), J25_5 (AExit.exit 0, X25_5a x0 x1 H) = x0.bind fun v8 => (H.get v8.fst (v8.snd + 0)).bind fun v7 => v7.toSlice.bind fun v6 => (f41 v6 x1 H).bind fun v5 => bif !v5.fst then some (4, v5.snd) else (f26 x0 x1 v5.snd).bind fun v4 => some (0, v4.snd) := by intros; kernel_rfl
theorem ok25 : FnOk Try.prog 25 (specF enc25 (sem25 f25)) := by
  refine spec_ok (C := CC25) good25 rfl rfl rfl (by kernel_rfl) Try.func25 (c := bodyOf Try.f25) (by kernel_rfl) (by kernel_rfl) (Nat.le_of_eq Try.ntmps25.symm) dec25 enc25 de25 _ ?_
  intro args H q h
  unfold sem25 at h
  split at h
  · rw [← f25_eq]; exact h
  · cases h
def EStr (s : ByteArray) : List Cell := [.str s]
theorem EStr_len (s : ByteArray) : (EStr s).length = 1 := rfl
/-- Where the first nought is. -/
def fi : List UInt8 → Option Nat
  | [] => none
  | b :: l => bif b == 0 then some 0 else (fi l).map (· + 1)
theorem idx_fi : ∀ l : List UInt8, Lib.indexByte l ((0 : Int).toNat.toUInt8) = match fi l with | some i => (i : Int) | none => -1
  | [] => rfl
  | b :: l => by
    have ih := idx_fi l
    have e0 : (0 : Int).toNat.toUInt8 = (0 : UInt8) := rfl
    rw [e0] at ih ⊢
    unfold Lib.indexByte fi
    rw [ih]
    cases hb : (b == 0) with
    | true => simp
    | false =>
      cases fi l with
      | none => simp
      | some i =>
        have : (((i : Int)) == -1) = false := by simp
        simp [this]
theorem ixs_ge (s : ByteArray) : decide (strings_IndexByte s 0 ≥ 0) = (fi s.data.toList).isSome := by
  show decide (Lib.indexByte s.data.toList ((0 : Int).toNat.toUInt8) ≥ 0) = _
  rw [idx_fi]
  cases fi s.data.toList with
  | none => rfl
  | some i => simp
/-- Texts' parts. -/
def tparts (ss : List ByteArray) : List (List UInt8) := ss.flatMap fun s => [s.data.toList, [0]]
/-- Some slices of bytes, in a slice that is the frame's own. -/
theorem tparts_len : ∀ ss, (tparts ss).length = 2 * ss.length
  | [] => rfl
  | s :: ss => by
    have := tparts_len ss
    unfold tparts at this ⊢
    rw [List.flatMap_cons, List.length_append, this, List.length_cons]; simp; omega
def PT (n0 : Nat) (H : Heap) (t : Option Sl) (ls : List (List UInt8)) : Prop :=
  ∃ ps : List (Option Sl), OS 1 ES H t ps ∧ ps.length = ls.length ∧ ∀ (j : Nat) p l, ps[j]? = some p → ls[j]? = some l → RS 1 E8 H p l ∧ (∀ sl st, l ≠ [] → p = some sl → t = some st → sl.id ≠ st.id) ∧ (∀ sl, l ≠ [] → p = some sl → n0 ≤ sl.id)
theorem PT.rss {n0 : Nat} {H : Heap} {t : Option Sl} {ls : List (List UInt8)} (h : PT n0 H t ls) : RSS H t ls := by
  obtain ⟨ps, h1, h2, h3⟩ := h
  exact ⟨ps, h1.rs, h2, fun j p l e1 e2 => (h3 j p l e1 e2).1⟩
theorem RSS.kp {F : Nat → Prop} {H H' : Heap} {t : Option Sl} {ls : List (List UInt8)} (h : RSS H t ls) (k : Kp F H H') (hn : ∀ i, i < H.length → ¬ F i) : RSS H' t ls := by
  obtain ⟨ps, h1, h2, h3⟩ := h
  exact ⟨ps, h1.new ES_len (by decide) k hn, h2, fun j p l e1 e2 => (h3 j p l e1 e2).new E8_len (by decide) k hn⟩
theorem pt_step {n0 : Nat} {H : Heap} {t : Option Sl} {ls : List (List UInt8)} (h : PT n0 H t ls) (h0 : n0 ≤ H.length) (v : ByteArray) (hl : ls.length ≤ 4096) :
    ∃ t' H', (H ++ [Blk.row (bytesCells v) false] ++ [Blk.row [Cell.int IntKind.u8 0] false] ++ [Blk.row [Cell.slice (some { id := List.length H, off := 0, len := v.size, cap := v.size, esz := 1 }), Cell.slice (some { id := List.length (H ++ [Blk.row (bytesCells v) false]), off := 0, len := 1, cap := 1, esz := 1 })] false]).append 1 24 t (some { id := List.length (H ++ [Blk.row (bytesCells v) false] ++ [Blk.row [Cell.int IntKind.u8 0] false]), off := 0, len := 2, cap := 2, esz := 1 }) = some (t', H') ∧
      PT n0 H' t' (ls ++ [v.data.toList, [0]]) ∧ Kp (Of t) H H' ∧ Fr2 H.length t t' := by
  obtain ⟨ps, h1, h2, h3⟩ := h
  obtain ⟨A, hA⟩ : ∃ A, A = H ++ [Blk.row (bytesCells v) false] := ⟨_, rfl⟩
  obtain ⟨B, hB⟩ : ∃ B, B = A ++ [Blk.row [Cell.int IntKind.u8 0] false] := ⟨_, rfl⟩
  obtain ⟨sA, hsA⟩ : ∃ s : Sl, s = { id := List.length H, off := 0, len := v.size, cap := v.size, esz := 1 } := ⟨_, rfl⟩
  obtain ⟨sB, hsB⟩ : ∃ s : Sl, s = { id := List.length A, off := 0, len := 1, cap := 1, esz := 1 } := ⟨_, rfl⟩
  obtain ⟨D, hD⟩ : ∃ D, D = B ++ [Blk.row [Cell.slice (some sA), Cell.slice (some sB)] false] := ⟨_, rfl⟩
  rw [← hA, ← hB, ← hsA, ← hsB, ← hD]
  have lA : A.length = H.length + 1 := by rw [hA]; simp
  have lB : B.length = H.length + 2 := by rw [hB]; simp [lA]
  have lD : D.length = H.length + 3 := by rw [hD]; simp [lB]
  have kA : Kp No H A := by rw [hA]; exact Kp.push _ _ _
  have kAB : Kp No A B := by rw [hB]; exact Kp.push _ _ _
  have kBD : Kp No B D := by rw [hD]; exact Kp.push _ _ _
  have kD : Kp No H D := (kA.trans kAB (D := No) (fun _ h => h) fun _ _ h => h).trans kBD (fun _ h => h) fun _ _ h => h
  have gA : A[H.length]? = some (.row (bytesCells v) false) := by rw [hA]; exact push_get _ _
  have gB : B[A.length]? = some (.row [Cell.int IntKind.u8 0] false) := by rw [hB]; exact push_get _ _
  have gD : D[B.length]? = some (.row [Cell.slice (some sA), Cell.slice (some sB)] false) := by rw [hD]; exact push_get _ _
  have rA : RS 1 E8 D (some sA) v.data.toList := by
    refine ⟨by rw [hsA]; simp, by rw [hsA], by rw [hsA]; exact Nat.le_refl _, fun i c e => ?_⟩
    rw [hsA]
    show D.get H.length (0 + i) = some c
    rw [za, get_of ((kAB.trans kBD (D := No) (fun _ h => h) fun _ _ h => h).at gA (fun e => e)), bytesCells_flat]; exact e
  have rB : RS 1 E8 D (some sB) [0] := by
    refine ⟨by rw [hsB]; rfl, by rw [hsB], by rw [hsB]; exact Nat.le_refl _, fun i c e => ?_⟩
    rw [hsB]
    show D.get A.length (0 + i) = some c
    rw [za, get_of (kBD.at gB (fun e => e))]; exact e
  have hx : RS 1 ES D (some { id := B.length, off := 0, len := 2, cap := 2, esz := 1 }) [some sA, some sB] := ⟨rfl, rfl, Nat.le_refl _, fun i c e => by
    show D.get B.length (0 + i) = some c
    rw [za, get_of gD]; exact e⟩
  obtain ⟨t', H', a1, a2, a3, a4⟩ := append_OS ES_len (by decide) (by' := 24) (h1.kp kD fun _ _ h => h) hx (by rw [h2]; simp [most]; omega)
  have ht : ∀ st, t = some st → st.id < H.length := fun st e => by subst e; exact h1.lt
  have kT : Kp (Of t) H H' := kD.trans a3 (fun _ h => h.elim) fun _ _ h => h
  refine ⟨t', H', a1, ⟨ps ++ [some sA, some sB], a2, by simp [h2], fun j p l e1 e2 => ?_⟩, kT, fun sl' e => ?_⟩
  · have fresh : ∀ (q : Sl), H.length ≤ q.id → q.id < D.length → ∀ st, t' = some st → q.id ≠ st.id := fun q g1 g2 st e => by
      rcases a4 st e with ⟨st0, f1, f2⟩ | f
      · have := ht st0 f1; omega
      · omega
    by_cases hj : j < ls.length
    · rw [List.getElem?_append_left (by omega)] at e1 e2
      obtain ⟨g1, g2, g3⟩ := h3 j p l e1 e2
      refine ⟨g1.kp kT fun sl e e0 ⟨st, f1, f2⟩ => g2 sl st e0 e f1 f2, fun sl st e0 e et => ?_, g3⟩
      rcases a4 st et with ⟨st0, f1, f2⟩ | f
      · rw [f2]; exact g2 sl st0 e0 e f1
      · subst e
        have := g1.lt E8_len (by decide) e0
        omega
    · rw [List.getElem?_append_right (by omega), h2] at e1
      rw [List.getElem?_append_right (by omega)] at e2
      obtain ⟨q, hq⟩ : ∃ q, q = j - ls.length := ⟨_, rfl⟩
      rw [← hq] at e1 e2
      match q, e1, e2 with
      | 0, e1, e2 =>
        cases e1; cases e2
        have iA : sA.id = H.length := by rw [hsA]
        exact ⟨rA.kp a3 fun sl e e0 ⟨st, f1, f2⟩ => by cases e; have := ht st f1; omega, fun sl st e0 e et => by cases e; exact fresh sA (by omega) (by omega) st et, fun sl e0 e => by cases e; omega⟩
      | 1, e1, e2 =>
        cases e1; cases e2
        have iB : sB.id = A.length := by rw [hsB]
        exact ⟨rB.kp a3 fun sl e e0 ⟨st, f1, f2⟩ => by cases e; have := ht st f1; omega, fun sl st e0 e et => by cases e; exact fresh sB (by omega) (by omega) st et, fun sl e0 e => by cases e; omega⟩
      | k + 2, e1, e2 => simp at e1
  · rcases a4 sl' e with ⟨sl, f1, f2⟩ | f
    · exact .inl ⟨sl, f1, f2⟩
    · exact .inr (by omega)
theorem loop25 (H0 : Heap) (x : Option Sl) (ss : List ByteArray) (hx : RS 1 EStr H0 x ss) (hss : ss.length ≤ 1000) (hsz : ∀ s ∈ ss, s.size ≤ most) (p : Option (Nat × Nat)) : ∀ (m n i : Nat) (t : Option Sl) (H : Heap), i + m = ss.length → PT H0.length H t (tparts (ss.take i)) → Kp No H0 H → New H0.length t →
    ∃ t' H', ((D25_5 (n + m + 1) p t x (ss.length : Int) (i : Int) H = some (.exit 0, X25_5a p t' H') ∧ PT H0.length H' t' (tparts ss) ∧ ∀ s ∈ ss.drop i, fi s.data.toList = none) ∨ (D25_5 (n + m + 1) p t x (ss.length : Int) (i : Int) H = some (.ret, X25_5 p 2 t' H') ∧ ∃ s ∈ ss.drop i, fi s.data.toList ≠ none)) ∧ Kp No H0 H' ∧ New H0.length t'
  | 0, n, i, t, H, hi, hp, hk, ht => by
    have g : decide ((i : Int) < (ss.length : Int)) = false := by simp; omega
    refine ⟨t, H, .inl ⟨by rw [D25_5_s, g, cf], ?_, by rw [List.drop_eq_nil_of_le (by omega)]; simp⟩, hk, ht⟩
    rw [List.take_of_length_le (by omega)] at hp; exact hp
  | m + 1, n, i, t, H, hi, hp, hk, ht => by
    have hil : i < ss.length := by omega
    have hsi : ss[i]? = some ss[i] := List.getElem?_eq_getElem hil
    have g : decide ((i : Int) < (ss.length : Int)) = true := by simp; omega
    have g3 : IntKind.i64.wrap ((i : Int) + 1) = ((i + 1 : Nat) : Int) := by rw [wrap_i64 (by omega) (by omega)]; omega
    obtain ⟨sl, rfl, g2, g4⟩ := (hx.new EStr_len (by decide) hk fun _ _ h => h).idx1 hsi (e := fun s => .str s) fun _ => rfl
    have hd : ss.drop i = ss[i] :: ss.drop (i + 1) := List.drop_eq_getElem_cons hil
    rw [show n + (m + 1) + 1 = (n + m + 1) + 1 by omega, D25_5_s, g, hd]
    cases hf : fi ss[i].data.toList with
    | some k =>
      have gb : decide (strings_IndexByte ss[i] 0 ≥ 0) = true := by rw [ixs_ge, hf]; rfl
      refine ⟨t, H, .inr ⟨?_, ss[i], List.mem_cons_self .., by rw [hf]; simp⟩, hk, ht⟩
      simp only [ct, bs, g2, g4, tStr, gb]
    | none =>
      have gb : decide (strings_IndexByte ss[i] 0 ≥ 0) = false := by rw [ixs_ge, hf]; rfl
      have gm : decide (ss[i].size ≤ 17592186044416) = true := by have := hsz ss[i] (List.getElem_mem hil); unfold most at this; simp; omega
      have hlen : (tparts (ss.take i)).length ≤ 4096 := by
        rw [tparts_len]; simp; omega
      obtain ⟨t', H', a1, a2, a3, a4⟩ := pt_step hp hk.len ss[i] hlen
      have e2 : tparts (ss.take i) ++ [ss[i].data.toList, [0]] = tparts (ss.take (i + 1)) := by
        unfold tparts
        rw [List.take_succ_eq_append_getElem hil, List.flatMap_append]; simp
      rw [e2] at a2
      have kT : Kp No H0 H' := hk.trans a3 (fun _ h => h) fun j hj ⟨st, f1, f2⟩ => by have := ht st f1; omega
      have hl0 := hk.len
      obtain ⟨t2, H2, j1, j2⟩ := loop25 H0 (some sl) ss hx hss hsz p m n (i + 1) t' H' (by omega) a2 kT (fun st e => by
        rcases a4 st e with ⟨st0, f1, f2⟩ | f
        · rw [f2]; exact ht st0 f1
        · omega)
      simp only [ct, cf, bs, g2, g3, g4, tStr, gb, gm, a1]
      refine ⟨t2, H2, ?_, j2⟩
      rcases j1 with ⟨q1, q2, q3⟩ | ⟨q1, s, q2, q3⟩
      · exact .inl ⟨q1, q2, fun s hs => by rcases List.mem_cons.1 hs with rfl | hs; exact hf; exact q3 s hs⟩
      · exact .inr ⟨q1, s, List.mem_cons_of_mem _ q2, q3⟩
theorem f25_spec {F : Nat → Prop} {id : Nat} {b : List UInt8} {H : Heap} {x : Option Sl} {ss : List ByteArray} (hr : RP F H id b) (hb : b.length ≤ 1048576) (hF : ∀ i, H.length ≤ i → F i) (hx : RS 1 EStr H x ss) (hss : ss.length ≤ 1000) (hsz : ∀ s ∈ ss, s.size ≤ most) :
    ((∃ s ∈ ss, fi s.data.toList ≠ none) → ∃ H', f25 (some (id, 0)) x H = some (2, H') ∧ Kp No H H') ∧
    ((∀ s ∈ ss, fi s.data.toList = none) → 1048576 < total (tparts ss) + b.length → ∃ H', f25 (some (id, 0)) x H = some (4, H') ∧ Kp No H H') ∧
    ((∀ s ∈ ss, fi s.data.toList = none) → total (tparts ss) + b.length ≤ 1048576 → ∃ H', f25 (some (id, 0)) x H = some (0, H') ∧ RP F H' id (b ++ (tparts ss).flatten) ∧ Kp F H H') := by
  obtain ⟨n, hn⟩ := LL25_5_of ss.length (by omega) (some (id, 0)) none x (ss.length : Int) 0 H
  obtain ⟨t', H', j1, j2, j3⟩ := loop25 H x ss hx hss hsz (some (id, 0)) ss.length n 0 none H (by omega) ⟨[], rfl, rfl, fun j p l e => by simp at e⟩ (Kp.refl _ _) (fun _ e => nomatch e)
  rw [List.drop_zero] at j1
  have hq : f25 (some (id, 0)) x H = (D25_5 (n + ss.length + 1) (some (id, 0)) none x (ss.length : Int) 0 H).bind J25_5 := by
    rw [q25]
    simp only [nsome, cf, hx.slenEq, hn]
  have hlen : (tparts ss).length ≤ 4611686018427387904 := by
    rw [tparts_len]; omega
  rcases j1 with ⟨q1, q2, q3⟩ | ⟨q1, s, q2, q3⟩
  · obtain ⟨s, r1, r2⟩ := rp_len (rp_kp hr j2)
    refine ⟨fun ⟨s, h1, h2⟩ => absurd (q3 s h1) h2, fun _ hf => ⟨H', ?_, j2⟩, fun _ hf => ?_⟩
    · have hd : decide (total (tparts ss) + b.length ≤ 1048576) = false := by simp; omega
      rw [hq]
      refine bnd q1 ?_
      rw [J25_5_1]
      simp only [bs, ct, az, r1, tSlice, f41_spec r2 hb q2.rss hlen, hd, Bool.not_false]
    · have hd : decide (total (tparts ss) + b.length ≤ 1048576) = true := by simp; omega
      have hl := j2.len
      obtain ⟨ps, p1, p2, p3⟩ := q2
      have ht : ∀ st, t' = some st → H.length ≤ st.id ∧ st.id < H'.length := fun st e => ⟨j3 st e, by subst e; exact p1.lt⟩
      have hst : ∀ H3, Kp (fun i => (F i ∧ i < H.length) ∨ H'.length ≤ i) H' H3 → RSS H3 t' (tparts ss) := fun H3 k3 => by
        refine ⟨ps, p1.rs.kp k3 fun st e _ hf => ?_, p2, fun j p l e1 e2 => ?_⟩
        · have := ht st e
          rcases hf with hf | hf <;> omega
        · obtain ⟨g1, g2, g3⟩ := p3 j p l e1 e2
          refine g1.kp k3 fun sl e e0 hf => ?_
          have h1 := g3 sl e0 e
          subst e
          have h2 := g1.lt E8_len (by decide) e0
          rcases hf with hf | hf <;> omega
      obtain ⟨H2, c1, c2, c3⟩ := f26_spec (F := fun i => (F i ∧ i < H.length) ∨ H'.length ≤ i) (ls := tparts ss) (t := t')
        (rp_mono (rp_kp (rp_mono hr fun i hi hf => (⟨hf, hi⟩ : F i ∧ i < H.length)) j2) fun i _ h => .inl h) ⟨ps, p1.rs, p2, fun j p l e1 e2 => (p3 j p l e1 e2).1⟩ (fun i hi => .inr hi) hst hlen hf
      refine ⟨H2, ?_, rp_mono c2 fun i _ h => ?_, j2.trans c3 (fun _ h => h.elim) fun i hi h => ?_⟩
      · rw [hq]
        refine bnd q1 ?_
        rw [J25_5_1]
        simp only [bs, cf, az, r1, tSlice, f41_spec r2 hb (PT.rss ⟨ps, p1, p2, p3⟩) hlen, hd, Bool.not_true, c1]
      · rcases h with h | h
        · exact h.1
        · exact hF i (by omega)
      · rcases h with h | h
        · exact h.1
        · omega
  · refine ⟨fun _ => ⟨H', ?_, j2⟩, fun h _ => absurd (h s q2) q3, fun h _ => absurd (h s q2) q3⟩
    rw [hq]
    exact bnd q1 (J25_5_0 ..)
/-! 32: rope_Rope_Set -/
noncomputable def CC32 : Ctx := { P := Try.prog, own := [], fns := [(33, F33), (36, F36), (35, specF enc35 (sem35 f35))], nt := 35, nums := [33, 36], live := [] }
theorem good32 : Callees Try.prog CC32.fns [] CC32.nums := (((Callees.nil Try.prog).cons ok35 (specF_nat _ _)).cons_num ok36 F36_num).cons_num ok33 F33_num
theorem hN32 : CtxNat CC32 := good32.ctx rfl rfl rfl
abbrev Ty32 := (Option (Nat × Nat)) → Int → Int → Int → Heap → Option (Int × Heap)
def enc32 (r : Int) : List TV := [.c (Cell.int .i64 (r))]
def dec32 : AV → Option (Int)
  | .c (Cell.int .i64 q0) => some (q0)
  | _ => none
theorem de32 (v : AV) (r : Int) (h : dec32 v = some r) : v = oneOf (enc32 r) := by
  unfold dec32 at h
  split at h
  · cases h; rfl
  · cases h
def sem32 (f : Ty32) : List TV → Heap → Option (Int × Heap)
  | [.c (Cell.ptr r), .c (Cell.int .i64 x1), .c (Cell.int .i64 w), .c (Cell.int .u64 v)], H => f r x1 w v H
  | _, _ => none
noncomputable def f32 : Ty32 := hide fun r x1 w v H => fnA CC32 Try.f32.results.toList (bodyOf Try.f32) _ [.c (Cell.ptr r), .c (Cell.int .i64 x1), .c (Cell.int .i64 w), .c (Cell.int .u64 v)] H (decF dec32)
theorem f32_eq (r : (Option (Nat × Nat))) (x1 : Int) (w : Int) (v : Int) (H : Heap) : f32 r x1 w v H = fnA CC32 Try.f32.results.toList (bodyOf Try.f32) _ [.c (Cell.ptr r), .c (Cell.int .i64 x1), .c (Cell.int .i64 w), .c (Cell.int .u64 v)] H (decF dec32) := by unfold f32; rw [hide_eq]
theorem f32_run (r : (Option (Nat × Nat))) (x1 : Int) (w : Int) (v : Int) (H : Heap) : f32 r x1 w v H = fnL CC32 (lpD CC32) Try.f32.results.toList (bodyOf Try.f32) [.c (Cell.ptr r), .c (Cell.int .i64 x1), .c (Cell.int .i64 w), .c (Cell.int .u64 v)] H (decF dec32) := (f32_eq ..).trans (fnA_lpD hN32 ..)
theorem q32 : ∀ (r : Option (Nat × Nat)) (x1 w v : Int) (H : Heap), f32 r x1 w v H = bif r.isNone then some (1, H) else bif !bits_Is w then some (2, H) else r.bind fun v7 => (H.get v7.fst (v7.snd + 0)).bind fun v6 => v6.toSlice.bind fun v5 => bif !rope_store_has v5 x1 w then some (7, H) else r.bind fun v4 => (H.get v4.fst (v4.snd + 0 + 0)).bind fun v3 => v3.toSlice.bind fun v2 => (Sl.sub v2 x1 none).bind fun v1 => bif esOk v2 1 then (f35 v1 w v H).bind fun v0 => some (0, v0.snd) else none := by intros; exact (f32_run ..).trans (by kernel_rfl)
theorem ok32 : FnOk Try.prog 32 (specF enc32 (sem32 f32)) := by
  refine spec_ok (C := CC32) good32 rfl rfl rfl (by kernel_rfl) Try.func32 (c := bodyOf Try.f32) (by kernel_rfl) (by kernel_rfl) (Nat.le_of_eq Try.ntmps32.symm) dec32 enc32 de32 _ ?_
  intro args H q h
  unfold sem32 at h
  split at h
  · rw [← f32_eq]; exact h
  · cases h
theorem f32_arg (id : Nat) (a w v : Int) (H : Heap) (hw : bits_Is w = false) : f32 (some (id, 0)) a w v H = some (2, H) := by
  rw [q32]
  simp only [nsome, cf, ct, hw, Bool.not_false]
theorem f32_no {F : Nat → Prop} {id : Nat} {b : List UInt8} {H : Heap} (hr : RP F H id b) (hb : b.length ≤ 1048576) (a w v : Int) (hw : bits_Is w = true) (hh : hasI b.length a w = false) : f32 (some (id, 0)) a w v H = some (7, H) := by
  obtain ⟨s, r1, r2⟩ := rp_len hr
  have hh' := (has_eq r2 (by omega) a w).trans hh
  rw [q32]
  simp only [nsome, cf, ct, hw, Bool.not_true, bs, az, r1, tSlice, hh', Bool.not_false]
theorem f32_spec {F : Nat → Prop} {id : Nat} {b : List UInt8} {H : Heap} (hr : RP F H id b) (hb : b.length ≤ 1048576) (a w v : Nat) (hw : bits_Is (w : Int) = true) (hh : a + w ≤ b.length) :
    ∃ H', f32 (some (id, 0)) (a : Int) (w : Int) (v : Int) H = some (0, H') ∧ RP F H' id (b.take a ++ leB w v ++ b.drop (a + w)) ∧ Kp F H H' := by
  obtain ⟨k, e, h8⟩ := isw hw
  have e : w = k := by omega
  subst e
  obtain ⟨s, h1, h2, h3, h4, h5⟩ := hr
  have r2 := h2.rs
  have r1 : H.get id 0 = some (.slice s) := by rw [get_of h1]; rfl
  have hh' : rope_store_has s (a : Int) (w : Int) = true := by rw [has_eq r2 (by omega)]; simp [hasI]; omega
  cases s with
  | none => cases h2; simp at hh; omega
  | some sl =>
    have h20 := h2
    obtain ⟨g1, g2, g3, row, g4, g5, g6⟩ := h2
    have hsub : Sl.sub (some sl) (a : Int) none = some (some ⟨sl.id, sl.off + a, sl.len - a, sl.cap - a, sl.esz⟩) := by
      unfold Sl.sub
      simp only [Option.getD_none]
      rw [if_pos (by omega), Int.toNat_natCast, g2, Nat.mul_one]
      congr 4; omega
    obtain ⟨o1, o2⟩ := h20.over E8_len (m := leB w v) (a := a) (by rw [leB_length]; omega) g4
    rw [Nat.mul_one, flat_len E8_len, leB_length] at o2
    have h35 := f35_spec ⟨sl.id, sl.off + a, sl.len - a, sl.cap - a, sl.esz⟩ w v (by omega) (by show w ≤ sl.len - a; omega) g2 H row g4 (by show sl.off + a + w ≤ row.length; omega)
    rw [Nat.mul_one, leB_length] at o1
    have hne := h3 sl rfl
    refine ⟨_, ?_, ⟨some sl, by rw [set_ne' (Ne.symm hne)]; exact h1, o1, h3, h4, h5⟩, (Kp.set _ _ _).mono fun i _ hi => by rw [show i = sl.id from hi]; exact h5 sl rfl⟩
    rw [q32]
    simp only [nsome, cf, ct, hw, Bool.not_true, bs, az, r1, tSlice, hh', hsub, r2.esOkT, h35]
/-! 29: rope_Rope_Bytes -/
noncomputable def CC29 : Ctx := { P := Try.prog, own := [], fns := [(37, specF enc37 (sem37 f37))], nt := 11, nums := [], live := [] }
theorem good29 : Callees Try.prog CC29.fns [] CC29.nums := (Callees.nil Try.prog).cons ok37 (specF_nat _ _)
theorem hN29 : CtxNat CC29 := good29.ctx rfl rfl rfl
abbrev Ty29 := (Option (Nat × Nat)) → Heap → Option ((Option Sl) × Heap)
def enc29 (r : (Option Sl)) : List TV := [.c (Cell.slice (r))]
def dec29 : AV → Option ((Option Sl))
  | .c (Cell.slice q0) => some (q0)
  | _ => none
theorem de29 (v : AV) (r : (Option Sl)) (h : dec29 v = some r) : v = oneOf (enc29 r) := by
  unfold dec29 at h
  split at h
  · cases h; rfl
  · cases h
def sem29 (f : Ty29) : List TV → Heap → Option ((Option Sl) × Heap)
  | [.c (Cell.ptr r)], H => f r H
  | _, _ => none
noncomputable def f29 : Ty29 := hide fun r H => fnA CC29 Try.f29.results.toList (bodyOf Try.f29) _ [.c (Cell.ptr r)] H (decF dec29)
theorem f29_eq (r : (Option (Nat × Nat))) (H : Heap) : f29 r H = fnA CC29 Try.f29.results.toList (bodyOf Try.f29) _ [.c (Cell.ptr r)] H (decF dec29) := by unfold f29; rw [hide_eq]
theorem f29_run (r : (Option (Nat × Nat))) (H : Heap) : f29 r H = fnL CC29 (lpD CC29) Try.f29.results.toList (bodyOf Try.f29) [.c (Cell.ptr r)] H (decF dec29) := (f29_eq ..).trans (fnA_lpD hN29 ..)
theorem q29 : ∀ (r : Option (Nat × Nat)) (H : Heap), f29 r H = bif r.isNone then some (none, H) else r.bind fun v3 => (H.get v3.fst (v3.snd + 0 + 0)).bind fun v2 => v2.toSlice.bind fun v1 => (f37 v1 H).bind fun v0 => some (v0.fst, v0.snd) := by intros; exact (f29_run ..).trans (by kernel_rfl)
theorem ok29 : FnOk Try.prog 29 (specF enc29 (sem29 f29)) := by
  refine spec_ok (C := CC29) good29 rfl rfl rfl (by kernel_rfl) Try.func29 (c := bodyOf Try.f29) (by kernel_rfl) (by kernel_rfl) (Nat.le_of_eq Try.ntmps29.symm) dec29 enc29 de29 _ ?_
  intro args H q h
  unfold sem29 at h
  split at h
  · rw [← f29_eq]; exact h
  · cases h
theorem f29_spec {F : Nat → Prop} {id : Nat} {b : List UInt8} {H : Heap} (hr : RP F H id b) (hb : b.length ≤ 1048576) : ∃ s' H', f29 (some (id, 0)) H = some (s', H') ∧ OS 1 E8 H' s' b ∧ Kp No H H' ∧ New H.length s' := by
  obtain ⟨s, r1, r2⟩ := rp_len hr
  obtain ⟨s', H', d1, d2, d3, d4⟩ := f37_spec s b H r2 (by simp [most]; omega)
  refine ⟨s', H', ?_, d2, d3, d4⟩
  rw [q29]
  simp only [nsome, cf, bs, az, r1, tSlice, d1]
/-! 27: rope_Rope_Pad -/
noncomputable def CC27 : Ctx := { P := Try.prog, own := [], fns := [(34, F34)], nt := 46, nums := [34], live := [] }
theorem good27 : Callees Try.prog CC27.fns [] CC27.nums := (Callees.nil Try.prog).cons_num ok34 F34_num
theorem hN27 : CtxNat CC27 := good27.ctx rfl rfl rfl
abbrev Ty27 := (Option (Nat × Nat)) → Int → Heap → Option (Int × Heap)
def enc27 (r : Int) : List TV := [.c (Cell.int .i64 (r))]
def dec27 : AV → Option (Int)
  | .c (Cell.int .i64 q0) => some (q0)
  | _ => none
theorem de27 (v : AV) (r : Int) (h : dec27 v = some r) : v = oneOf (enc27 r) := by
  unfold dec27 at h
  split at h
  · cases h; rfl
  · cases h
def sem27 (f : Ty27) : List TV → Heap → Option (Int × Heap)
  | [.c (Cell.ptr r), .c (Cell.int .i64 to)], H => f r to H
  | _, _ => none
noncomputable def f27 : Ty27 := hide fun r to H => fnA CC27 Try.f27.results.toList (bodyOf Try.f27) _ [.c (Cell.ptr r), .c (Cell.int .i64 to)] H (decF dec27)
theorem f27_eq (r : (Option (Nat × Nat))) (to : Int) (H : Heap) : f27 r to H = fnA CC27 Try.f27.results.toList (bodyOf Try.f27) _ [.c (Cell.ptr r), .c (Cell.int .i64 to)] H (decF dec27) := by unfold f27; rw [hide_eq]
theorem f27_run (r : (Option (Nat × Nat))) (to : Int) (H : Heap) : f27 r to H = fnL CC27 (lpD CC27) Try.f27.results.toList (bodyOf Try.f27) [.c (Cell.ptr r), .c (Cell.int .i64 to)] H (decF dec27) := (f27_eq ..).trans (fnA_lpD hN27 ..)
theorem q27 : ∀ (r : Option (Nat × Nat)) (to : Int) (H : Heap), f27 r to H = bif r.isNone then some (1, H) else bif decide (to < 1) then some (2, H) else bif decide (to > 65536) then some (2, H) else r.bind fun v11 => (H.get v11.fst (v11.snd + 0 + 0)).bind fun v10 => v10.toSlice.bind fun v9 => bif to == 0 then none else bif to == 0 then none else r.bind fun v8 => (H.get v8.fst (v8.snd + 0)).bind fun v7 => v7.toSlice.bind fun v6 => bif !rope_store_room v6 ((IntKind.i64.wrap (to - (slen v9).tmod to)).tmod to) then some (4, H) else r.bind fun v5 => (H.get v5.fst (v5.snd + 0 + 0)).bind fun v4 => v4.toSlice.bind fun v3 => (H.appendZ 1 1 v3 [Cell.int IntKind.u8 0] ((IntKind.i64.wrap (to - (slen v9).tmod to)).tmod to)).bind fun v2 => r.bind fun v1 => (v2.snd.put v1.fst (v1.snd + 0 + 0) [Cell.slice v2.fst]).bind fun v0 => some (0, v0) := by intros; exact (f27_run ..).trans (by kernel_rfl)
theorem ok27 : FnOk Try.prog 27 (specF enc27 (sem27 f27)) := by
  refine spec_ok (C := CC27) good27 rfl rfl rfl (by kernel_rfl) Try.func27 (c := bodyOf Try.f27) (by kernel_rfl) (by kernel_rfl) (Nat.le_of_eq Try.ntmps27.symm) dec27 enc27 de27 _ ?_
  intro args H q h
  unfold sem27 at h
  split at h
  · rw [← f27_eq]; exact h
  · cases h
theorem rp_appZ {F : Nat → Prop} {H : Heap} {id : Nat} {b : List UInt8} (h : RP F H id b) (hF : ∀ i, H.length ≤ i → F i) (k : Nat) (hb : b.length + k ≤ most) :
    ∃ s s' H1 H2, H.get id 0 = some (.slice s) ∧ slen s = (b.length : Int) ∧ H.appendZ 1 1 s [Cell.int .u8 0] (k : Int) = some (s', H1) ∧ H1.put id 0 [.slice s'] = some H2 ∧ RP F H2 id (b ++ List.replicate k 0) ∧ Kp F H H2 := by
  obtain ⟨s, h1, h2, h3, h4, h5⟩ := h
  obtain ⟨s', H1, a1, a2, a3, a4⟩ := app_OS E8_len (by' := 1) (m := List.replicate k (0 : UInt8)) h2 (by simp; omega)
  have hid := lt_of h1
  have g1 : H1[id]? = some (.row [.slice s] false) := a3.at h1 (by rintro ⟨sl, e, e1⟩; exact h3 sl e e1.symm)
  have hne : ∀ sl', s' = some sl' → sl'.id ≠ id := fun sl' e => by
    rcases a4 sl' e with ⟨sl, e0, e1⟩ | h
    · rw [e1]; exact h3 sl e0
    · omega
  have hz : H.appendZ 1 1 s [Cell.int .u8 0] (k : Int) = some (s', H1) := by
    unfold Heap.appendZ
    rw [if_pos (by unfold most at hb ⊢; omega), Int.toNat_natCast, show [Cell.int .u8 0] = E8 0 from rfl, rep_flat]
    simpa using a1
  refine ⟨s, s', H1, _, by rw [get_of h1]; rfl, h2.rs.slenEq, hz, put_of g1 (by simp), ⟨s', set_get' (lt_of g1), a2.kp (Kp.set _ _ _) (fun sl e => hne sl e), hne, h4, fun sl' e => ?_⟩, ?_⟩
  · rcases a4 sl' e with ⟨sl, e0, e1⟩ | h
    · rw [e1]; exact h5 sl e0
    · exact hF _ h
  · refine a3.trans (Kp.set _ _ _) (fun i hi => ?_) fun i _ hi => ?_
    · obtain ⟨sl, e0, e1⟩ := hi; rw [e1]; exact h5 sl e0
    · rw [show i = id from hi]; exact h4
/-- How many noughts. -/
def padN (L t : Nat) : Nat := (t - L % t) % t
theorem pad_eq (L t : Nat) (h1 : 1 ≤ t) (h2 : t ≤ 65536) : (IntKind.i64.wrap ((t : Int) - ((L : Nat) : Int).tmod (t : Int))).tmod (t : Int) = ((padN L t : Nat) : Int) := by
  have hm : L % t < t := Nat.mod_lt _ (by omega)
  rw [← Int.ofNat_tmod, wrap_i64 (by omega) (by omega), show (t : Int) - ((L % t : Nat) : Int) = ((t - L % t : Nat) : Int) by omega, ← Int.ofNat_tmod]
  rfl
theorem f27_arg (id : Nat) (t : Int) (H : Heap) (h : t < 1 ∨ 65536 < t) : f27 (some (id, 0)) t H = some (2, H) := by
  rw [q27]
  by_cases h1 : t < 1
  · have : decide (t < 1) = true := by simp; omega
    simp only [nsome, ct, cf, this]
  · have e1 : decide (t < 1) = false := by simp; omega
    have e2 : decide (t > 65536) = true := by simp; omega
    simp only [nsome, ct, cf, e1, e2]
theorem f27_spec {F : Nat → Prop} {id : Nat} {b : List UInt8} {H : Heap} (hr : RP F H id b) (hb : b.length ≤ 1048576) (hF : ∀ i, H.length ≤ i → F i) (t : Nat) (h1 : 1 ≤ t) (h2 : t ≤ 65536) :
    (1048576 < padN b.length t + b.length → f27 (some (id, 0)) (t : Int) H = some (4, H)) ∧
    (padN b.length t + b.length ≤ 1048576 → ∃ H', f27 (some (id, 0)) (t : Int) H = some (0, H') ∧ RP F H' id (b ++ List.replicate (padN b.length t) 0) ∧ Kp F H H') := by
  have e1 : decide ((t : Int) < 1) = false := by simp; omega
  have e2 : decide ((t : Int) > 65536) = false := by simp; omega
  have e3 : ((t : Int) == 0) = false := by simp; omega
  obtain ⟨s, r1, r2⟩ := rp_len hr
  have hp := pad_eq b.length t h1 h2
  refine ⟨fun hf => ?_, fun hf => ?_⟩
  · have hroom : rope_store_room s ((padN b.length t : Nat) : Int) = false := by rw [room_eq r2 hb]; simp; omega
    rw [q27]
    simp only [nsome, ct, cf, e1, e2, e3, bs, az, r1, tSlice, r2.slenEq, hp, hroom, Bool.not_false]
  · obtain ⟨s1, s', H1, H2, k1, k2, k3, k4, k5, k6⟩ := rp_appZ hr hF (padN b.length t) (by simp [most]; omega)
    have hroom : rope_store_room s ((padN b.length t : Nat) : Int) = true := by rw [room_eq r2 hb]; simp; omega
    rw [k1] at r1; cases r1
    refine ⟨H2, ?_, k5, k6⟩
    rw [q27]
    simp only [nsome, cf, e1, e2, e3, bs, az, k1, tSlice, k2, hp, hroom, Bool.not_true, k3, k4]
/-! 5: L02_RopeMost -/
noncomputable def CC5 : Ctx := { P := Try.prog, own := [], fns := [(9, F9), (27, specF enc27 (sem27 f27)), (26, specF enc26 (sem26 f26)), (25, specF enc25 (sem25 f25)), (11, specF enc11 (sem11 f11)), (12, specF enc12 (sem12 f12)), (10, specF enc10 (sem10 f10))], nt := 84, nums := [9], live := [] }
theorem good5 : Callees Try.prog CC5.fns [] CC5.nums := (((((((Callees.nil Try.prog).cons ok10 (specF_nat _ _)).cons ok12 (specF_nat _ _)).cons ok11 (specF_nat _ _)).cons ok25 (specF_nat _ _)).cons ok26 (specF_nat _ _)).cons ok27 (specF_nat _ _)).cons_num ok9 F9_num
theorem hN5 : CtxNat CC5 := good5.ctx rfl rfl rfl
abbrev Ty5 := Int → Int → Heap → Option (Bool × Heap)
def enc5 (r : Bool) : List TV := [.c (Cell.bool (r))]
def dec5 : AV → Option (Bool)
  | .c (Cell.bool q0) => some (q0)
  | _ => none
theorem de5 (v : AV) (r : Bool) (h : dec5 v = some r) : v = oneOf (enc5 r) := by
  unfold dec5 at h
  split at h
  · cases h; rfl
  · cases h
def sem5 (f : Ty5) : List TV → Heap → Option (Bool × Heap)
  | [.c (Cell.int .i64 over), .c (Cell.int .i64 way)], H => f over way H
  | _, _ => none
noncomputable def f5 : Ty5 := hide fun over way H => fnA CC5 Try.f5.results.toList (bodyOf Try.f5) _ [.c (Cell.int .i64 over), .c (Cell.int .i64 way)] H (decF dec5)
theorem f5_eq (over : Int) (way : Int) (H : Heap) : f5 over way H = fnA CC5 Try.f5.results.toList (bodyOf Try.f5) _ [.c (Cell.int .i64 over), .c (Cell.int .i64 way)] H (decF dec5) := by unfold f5; rw [hide_eq]
theorem f5_run (over : Int) (way : Int) (H : Heap) : f5 over way H = fnL CC5 (lpD CC5) Try.f5.results.toList (bodyOf Try.f5) [.c (Cell.int .i64 over), .c (Cell.int .i64 way)] H (decF dec5) := (f5_eq ..).trans (fnA_lpD hN5 ..)
theorem q5 : ∀ (over way : Int) (H : Heap), f5 over way H = (H.make 1 1 [Cell.int IntKind.u8 0] (IntKind.i64.wrap (1048576 + over.tmod 20)) (IntKind.i64.wrap (1048576 + over.tmod 20))).bind fun v16 => (Sl.sub v16.fst 0 (some 100)).bind fun v15 => bif esOk v16.fst 1 then (Sl.sub v16.fst 100 none).bind fun v14 => bif esOk v16.fst 1 then (f10 (some { id := List.length v16.snd, off := 0, len := 2, cap := 2, esz := 1 }) (v16.snd ++ [Blk.row [Cell.slice v15, Cell.slice v14] false])).bind fun v13 => bif decide (over.tmod 20 ≥ 0) then (f12 v13.fst v13.snd).bind fun v2 => bif v2.fst == 1048576 then (f11 v13.fst 1 (some { id := List.length v2.snd, off := 0, len := 1, cap := 1, esz := 1 }) (v2.snd ++ [Blk.row [Cell.int IntKind.u64 5] false])).bind fun v1 => bif v1.fst == 4 then (f25 v13.fst (some { id := List.length v1.snd, off := 0, len := 1, cap := 1, esz := 1 }) (v1.snd ++ [Blk.row [Cell.str { data := #[] }] false])).bind fun v0 => bif v0.fst == 4 then some (true, v0.snd) else some (false, v0.snd) else some (false, v1.snd) else some (false, v2.snd) else bif way.tmod 3 == 0 then (v13.snd.make 1 1 [Cell.int IntKind.u8 0] (IntKind.i64.wrap (0 - over.tmod 20)) (IntKind.i64.wrap (0 - over.tmod 20))).bind fun v5 => (f26 v13.fst (some { id := List.length (v5.snd ++ [Blk.row [Cell.int IntKind.u8 1] false]), off := 0, len := 2, cap := 2, esz := 1 }) (v5.snd ++ [Blk.row [Cell.int IntKind.u8 1] false] ++ [Blk.row [Cell.slice v5.fst, Cell.slice (some { id := List.length v5.snd, off := 0, len := 1, cap := 1, esz := 1 })] false])).bind fun v4 => (f12 v13.fst v4.snd).bind fun v3 => bif v3.fst == slen v16.fst then some (true, v3.snd) else some (false, v3.snd) else bif way.tmod 3 == 1 then (v13.snd.make 1 8 [Cell.int IntKind.u64 0] (IntKind.i64.wrap (0 - over.tmod 20)) (IntKind.i64.wrap (0 - over.tmod 20))).bind fun v9 => (f11 v13.fst 1 v9.fst v9.snd).bind fun v8 => bif v8.fst == 0 then (f12 v13.fst v8.snd).bind fun v7 => bif v7.fst == 1048576 then (f11 v13.fst 1 (some { id := List.length v7.snd, off := 0, len := 1, cap := 1, esz := 1 }) (v7.snd ++ [Blk.row [Cell.int IntKind.u64 5] false])).bind fun v6 => bif v6.fst == 4 then some (true, v6.snd) else some (false, v6.snd) else some (false, v7.snd) else some (false, v8.snd) else (f27 v13.fst 65536 v13.snd).bind fun v12 => bif v12.fst == 0 then (f12 v13.fst v12.snd).bind fun v11 => bif v11.fst == 1048576 then (f11 v13.fst 1 (some { id := List.length v11.snd, off := 0, len := 1, cap := 1, esz := 1 }) (v11.snd ++ [Blk.row [Cell.int IntKind.u64 5] false])).bind fun v10 => bif v10.fst == 4 then some (true, v10.snd) else some (false, v10.snd) else some (false, v11.snd) else some (false, v12.snd) else none else none := by intros; exact (f5_run ..).trans (by kernel_rfl)
theorem ok5 : FnOk Try.prog 5 (specF enc5 (sem5 f5)) := by
  refine spec_ok (C := CC5) good5 rfl rfl rfl (by kernel_rfl) Try.func5 (c := bodyOf Try.f5) (by kernel_rfl) (by kernel_rfl) (Nat.le_of_eq Try.ntmps5.symm) dec5 enc5 de5 _ ?_
  intro args H q h
  unfold sem5 at h
  split at h
  · rw [← f5_eq]; exact h
  · cases h
/-! 42: L02_small -/
noncomputable def CC42 : Ctx := { P := Try.prog, own := [1, 2], fns := [], nt := 28, nums := [], live := [] }
theorem good42 : Callees Try.prog CC42.fns [] CC42.nums := Callees.nil Try.prog
theorem hN42 : CtxNat CC42 := good42.ctx rfl rfl rfl
abbrev Ty42 := Int → Int → Int → Int → (Option Sl) → (Option Sl) → ByteArray → Heap → Option ((Int × Int × Int × Int × (Option Sl) × (Option Sl) × ByteArray) × Heap)
def enc42 (r : Int × Int × Int × Int × (Option Sl) × (Option Sl) × ByteArray) : List TV := [.agg [Cell.int .i64 (r.1), Cell.int .i64 (r.2.1), Cell.int .i64 (r.2.2.1), Cell.int .i64 (r.2.2.2.1), Cell.slice (r.2.2.2.2.1), Cell.slice (r.2.2.2.2.2.1), Cell.str (r.2.2.2.2.2.2)]]
def dec42 : AV → Option (Int × Int × Int × Int × (Option Sl) × (Option Sl) × ByteArray)
  | .agg [Cell.int .i64 q0, Cell.int .i64 q1, Cell.int .i64 q2, Cell.int .i64 q3, Cell.slice q4, Cell.slice q5, Cell.str q6] => some (q0, q1, q2, q3, q4, q5, q6)
  | _ => none
theorem de42 (v : AV) (r : Int × Int × Int × Int × (Option Sl) × (Option Sl) × ByteArray) (h : dec42 v = some r) : v = oneOf (enc42 r) := by
  unfold dec42 at h
  split at h
  · cases h; rfl
  · cases h
def sem42 (f : Ty42) : List TV → Heap → Option ((Int × Int × Int × Int × (Option Sl) × (Option Sl) × ByteArray) × Heap)
  | [.agg [Cell.int .i64 o0, Cell.int .i64 o1, Cell.int .i64 o2, Cell.int .i64 o3, Cell.slice o4, Cell.slice o5, Cell.str o6]], H => f o0 o1 o2 o3 o4 o5 o6 H
  | _, _ => none
noncomputable def f42 : Ty42 := hide fun o0 o1 o2 o3 o4 o5 o6 H => fnA CC42 Try.f42.results.toList (bodyOf Try.f42) _ [.agg [Cell.int .i64 o0, Cell.int .i64 o1, Cell.int .i64 o2, Cell.int .i64 o3, Cell.slice o4, Cell.slice o5, Cell.str o6]] H (decF dec42)
theorem f42_eq (o0 : Int) (o1 : Int) (o2 : Int) (o3 : Int) (o4 : (Option Sl)) (o5 : (Option Sl)) (o6 : ByteArray) (H : Heap) : f42 o0 o1 o2 o3 o4 o5 o6 H = fnA CC42 Try.f42.results.toList (bodyOf Try.f42) _ [.agg [Cell.int .i64 o0, Cell.int .i64 o1, Cell.int .i64 o2, Cell.int .i64 o3, Cell.slice o4, Cell.slice o5, Cell.str o6]] H (decF dec42) := by unfold f42; rw [hide_eq]
theorem f42_run (o0 : Int) (o1 : Int) (o2 : Int) (o3 : Int) (o4 : (Option Sl)) (o5 : (Option Sl)) (o6 : ByteArray) (H : Heap) : f42 o0 o1 o2 o3 o4 o5 o6 H = fnL CC42 (lpD CC42) Try.f42.results.toList (bodyOf Try.f42) [.agg [Cell.int .i64 o0, Cell.int .i64 o1, Cell.int .i64 o2, Cell.int .i64 o3, Cell.slice o4, Cell.slice o5, Cell.str o6]] H (decF dec42) := (f42_eq ..).trans (fnA_lpD hN42 ..)
theorem q42 : ∀ (o0 o1 o2 o3 : Int) (o4 o5 : Option Sl) (o6 : ByteArray) (H : Heap), f42 o0 o1 o2 o3 o4 o5 o6 H = bif decide (slen o4 > 6) then (Sl.sub o4 0 (some 6)).bind fun v3 => bif esOk o4 1 then bif decide (slen o5 > 40) then (Sl.sub o5 0 (some 40)).bind fun v1 => bif esOk o5 1 then bif decide ((↑o6.size : Int) > 40) then (strSub o6 0 (some 40)).bind fun v0 => some ((o0, o1, o2, o3, v3, v1, v0), H) else some ((o0, o1, o2, o3, v3, v1, o6), H) else none else bif decide ((↑o6.size : Int) > 40) then (strSub o6 0 (some 40)).bind fun v2 => some ((o0, o1, o2, o3, v3, o5, v2), H) else some ((o0, o1, o2, o3, v3, o5, o6), H) else none else bif decide (slen o5 > 40) then (Sl.sub o5 0 (some 40)).bind fun v5 => bif esOk o5 1 then bif decide ((↑o6.size : Int) > 40) then (strSub o6 0 (some 40)).bind fun v4 => some ((o0, o1, o2, o3, o4, v5, v4), H) else some ((o0, o1, o2, o3, o4, v5, o6), H) else none else bif decide ((↑o6.size : Int) > 40) then (strSub o6 0 (some 40)).bind fun v6 => some ((o0, o1, o2, o3, o4, o5, v6), H) else some ((o0, o1, o2, o3, o4, o5, o6), H) := by intros; exact (f42_run ..).trans (by kernel_rfl)
theorem ok42 : FnOk Try.prog 42 (specF enc42 (sem42 f42)) := by
  refine spec_ok (C := CC42) good42 rfl rfl rfl (by kernel_rfl) Try.func42 (c := bodyOf Try.f42) (by kernel_rfl) (by kernel_rfl) (Nat.le_of_eq Try.ntmps42.symm) dec42 enc42 de42 _ ?_
  intro args H q h
  unfold sem42 at h
  split at h
  · rw [← f42_eq]; exact h
  · cases h
theorem f42_spec (H : Heap) (o0 o1 o2 o3 : Int) (o4 o5 : Option Sl) (o6 : ByteArray) (L : List Nat) (B : List UInt8) (h4 : RS 1 EU H o4 L) (h5 : RS 1 E8 H o5 B) :
    ∃ s4 s5 s6, f42 o0 o1 o2 o3 o4 o5 o6 H = some ((o0, o1, o2, o3, s4, s5, s6), H) ∧ RS 1 EU H s4 (L.take 6) ∧ RS 1 E8 H s5 (B.take 40) ∧ s6.size ≤ 40 := by
  have c4 : ∃ s4, (bif decide (slen o4 > 6) then Sl.sub o4 0 (some 6) else some o4) = some s4 ∧ RS 1 EU H s4 (L.take 6) := by
    by_cases h : 6 < L.length
    · obtain ⟨s, c1, c2, _⟩ := h4.sub0 EU_len 6 (by omega)
      have : decide (slen o4 > 6) = true := by rw [h4.slenEq]; simp; omega
      exact ⟨s, by rw [this, ct]; exact c1, c2⟩
    · have : decide (slen o4 > 6) = false := by rw [h4.slenEq]; simp; omega
      exact ⟨o4, by rw [this, cf], by rw [List.take_of_length_le (by omega)]; exact h4⟩
  have c5 : ∃ s5, (bif decide (slen o5 > 40) then Sl.sub o5 0 (some 40) else some o5) = some s5 ∧ RS 1 E8 H s5 (B.take 40) := by
    by_cases h : 40 < B.length
    · obtain ⟨s, c1, c2, _⟩ := h5.sub0 E8_len 40 (by omega)
      have : decide (slen o5 > 40) = true := by rw [h5.slenEq]; simp; omega
      exact ⟨s, by rw [this, ct]; exact c1, c2⟩
    · have : decide (slen o5 > 40) = false := by rw [h5.slenEq]; simp; omega
      exact ⟨o5, by rw [this, cf], by rw [List.take_of_length_le (by omega)]; exact h5⟩
  have c6 : ∃ s6, (bif decide ((o6.size : Int) > 40) then strSub o6 0 (some 40) else some o6) = some s6 ∧ s6.size ≤ 40 := by
    by_cases h : 40 < o6.size
    · have : decide ((o6.size : Int) > 40) = true := by simp; omega
      refine ⟨o6.extract 0 40, ?_, by simp; omega⟩
      rw [this, ct]
      unfold strSub
      simp only [Option.getD_some]
      rw [if_pos (by omega)]; rfl
    · have : decide ((o6.size : Int) > 40) = false := by simp; omega
      exact ⟨o6, by rw [this, cf], by omega⟩
  obtain ⟨s4, a1, a2⟩ := c4
  obtain ⟨s5, b1, b2⟩ := c5
  obtain ⟨s6, d1, d2⟩ := c6
  refine ⟨s4, s5, s6, ?_, a2, b2, d2⟩
  rw [q42]
  revert a1 b1 d1
  cases decide (slen o4 > 6) <;> cases decide (slen o5 > 40) <;> cases decide ((o6.size : Int) > 40) <;> simp only [ct, cf] <;> intro a1 b1 d1 <;>
    (try cases a1) <;> (try cases b1) <;> (try cases d1) <;> (try simp only [a1, bs, h4.esOkT, h5.esOkT, ct]) <;> (try simp only [b1, bs, h4.esOkT, h5.esOkT, ct]) <;> (try simp only [d1, bs]) <;> (try rfl)
/-! 48: L02_nums -/
noncomputable def CC48 : Ctx := { P := Try.prog, own := [], fns := [(15, specF enc15 (sem15 f15))], nt := 21, nums := [], live := [(3, ⟨[0, 5, 8, 9, 10], [], [5], []⟩)] }
theorem good48 : Callees Try.prog CC48.fns [] CC48.nums := (Callees.nil Try.prog).cons ok15 (specF_nat _ _)
theorem hN48 : CtxNat CC48 := good48.ctx rfl rfl rfl
abbrev Ty48 := Int → (Option Sl) → Heap → Option ((Option Sl) × Heap)
def enc48 (r : (Option Sl)) : List TV := [.c (Cell.slice (r))]
def dec48 : AV → Option ((Option Sl))
  | .c (Cell.slice q0) => some (q0)
  | _ => none
theorem de48 (v : AV) (r : (Option Sl)) (h : dec48 v = some r) : v = oneOf (enc48 r) := by
  unfold dec48 at h
  split at h
  · cases h; rfl
  · cases h
def sem48 (f : Ty48) : List TV → Heap → Option ((Option Sl) × Heap)
  | [.c (Cell.int .i64 w), .c (Cell.slice l)], H => f w l H
  | _, _ => none
noncomputable def f48 : Ty48 := hide fun w l H => fnA CC48 Try.f48.results.toList (bodyOf Try.f48) _ [.c (Cell.int .i64 w), .c (Cell.slice l)] H (decF dec48)
theorem f48_eq (w : Int) (l : (Option Sl)) (H : Heap) : f48 w l H = fnA CC48 Try.f48.results.toList (bodyOf Try.f48) _ [.c (Cell.int .i64 w), .c (Cell.slice l)] H (decF dec48) := by unfold f48; rw [hide_eq]
theorem f48_run (w : Int) (l : (Option Sl)) (H : Heap) : f48 w l H = fnL CC48 (lpD CC48) Try.f48.results.toList (bodyOf Try.f48) [.c (Cell.int .i64 w), .c (Cell.slice l)] H (decF dec48) := (f48_eq ..).trans (fnA_lpD hN48 ..)
def S48_3 (t0 : Int) (t5 : (Option Sl)) (t8 : (Option Sl)) (t9 : Int) (t10 : Int) (H : Heap) : St := ⟨[(0, .c (Cell.int .i64 t0)), (5, .c (Cell.slice t5)), (8, .c (Cell.slice t8)), (9, .c (Cell.int .i64 t9)), (10, .c (Cell.int .i64 t10))], [], H⟩
noncomputable def D48_3 (n : Nat) (t0 : Int) (t5 : (Option Sl)) (t8 : (Option Sl)) (t9 : Int) (t10 : Int) (H : Heap) : Option (AExit × St) := loopN (exec CC48 (Code.l (Code.l (Code.r (Code.l (Code.r (Code.r (bodyOf Try.f48)))))))) (keepOf CC48.live (Code.l (Code.l (Code.r (Code.l (Code.r (Code.r (bodyOf Try.f48)))))))) n (S48_3 t0 t5 t8 t9 t10 H) retD
noncomputable def LL48_3 (t0 : Int) (t5 : (Option Sl)) (t8 : (Option Sl)) (t9 : Int) (t10 : Int) (H : Heap) : Option (AExit × St) := loopsD CC48 (Code.l (Code.l (Code.r (Code.l (Code.r (Code.r (bodyOf Try.f48))))))) (S48_3 t0 t5 t8 t9 t10 H)
theorem LL48_3_of (m : Nat) (hm : m < 18446744073709551616) (t0 : Int) (t5 : (Option Sl)) (t8 : (Option Sl)) (t9 : Int) (t10 : Int) (H : Heap) : ∃ n, LL48_3 t0 t5 t8 t9 t10 H = D48_3 (n + m + 1) t0 t5 t8 t9 t10 H := loopsD_of _ _ _ m hm
def X48_3 (x0 : Option Sl) (H : Heap) : St := { env := [(5, AV.c (Cell.slice x0))], loc := [], heap := H }
noncomputable def J48_3 : AExit × St → Option (Option Sl × Heap) := fun p => blockK 0 (seqK (execL CC48 (lpD CC48) (Code.r (Code.r (Code.r (bodyOf Try.f48))))) (retA CC48 [ResultVar.tmp 4] (decF dec48))) p.fst p.snd
theorem D48_3_s : ∀ (n : Nat) (t0 : Int) (t5 t8 : Option Sl) (t9 t10 : Int) (H : Heap), D48_3 (n + 1) t0 t5 t8 t9 t10 H = bif decide (t10 < t9) then t8.bind fun v4 => bif inb t10 v4.len && v4.esz == 1 then (H.get v4.id (v4.off + t10.toNat * 1)).bind fun v3 => (Cell.toInt IntKind.u64 v3).bind fun v2 => (f15 t0 v2 H).bind fun v1 => (v1.snd.append 1 1 t5 v1.fst).bind fun v0 => D48_3 n t0 v0.fst t8 t9 (IntKind.i64.wrap (t10 + 1)) v0.snd else none else some (AExit.exit 0, X48_3 t5 H) := by intros; exact (loopN_stepD hN48 _ _ _ _).trans (by kernel_rfl)
theorem q48 : ∀ (w : Int) (l : Option Sl) (H : Heap), f48 w l H = (LL48_3 w none l (slen l) 0 H).bind J48_3 := by intros; exact (f48_run ..).trans (by kernel_rfl)
theorem J48_3_0 : ∀ (x0 : Option Sl) (H : Heap), J48_3 (AExit.exit 0, X48_3 x0 H) = some (x0, H) := by intros; kernel_rfl
theorem ok48 : FnOk Try.prog 48 (specF enc48 (sem48 f48)) := by
  refine spec_ok (C := CC48) good48 rfl rfl rfl (by kernel_rfl) Try.func48 (c := bodyOf Try.f48) (by kernel_rfl) (by kernel_rfl) (Nat.le_of_eq Try.ntmps48.symm) dec48 enc48 de48 _ ?_
  intro args H q h
  unfold sem48 at h
  split at h
  · rw [← f48_eq]; exact h
  · cases h
theorem loop48 (H0 : Heap) (x : Option Sl) (vs : List Nat) (hx : RS 1 EU H0 x vs) (hvs : vs.length ≤ 1000) (hv64 : ∀ v ∈ vs, v < 18446744073709551616) (w : Nat) (hw : w ≤ 8) : ∀ (m n i : Nat) (s : Option Sl) (l : List UInt8) (H : Heap), i + m = vs.length → l.length = w * i → OS 1 E8 H s l → New H0.length s → Kp No H0 H →
    ∃ s' H', D48_3 (n + m + 1) (w : Int) s x (vs.length : Int) (i : Int) H = some (.exit 0, X48_3 s' H') ∧ OS 1 E8 H' s' (l ++ (vs.drop i).flatMap (leB w)) ∧ New H0.length s' ∧ Kp No H0 H'
  | 0, n, i, s, l, H, hi, hl, ho, hs, hk => by
    have g : decide ((i : Int) < (vs.length : Int)) = false := by simp; omega
    refine ⟨s, H, by rw [D48_3_s, g, cf], ?_, hs, hk⟩
    rw [List.drop_eq_nil_of_le (by omega)]; simpa using ho
  | m + 1, n, i, s, l, H, hi, hl, ho, hs, hk => by
    have hil : i < vs.length := by omega
    have hvi : vs[i]? = some vs[i] := List.getElem?_eq_getElem hil
    have g : decide ((i : Int) < (vs.length : Int)) = true := by simp; omega
    have g3 : IntKind.i64.wrap ((i : Int) + 1) = ((i + 1 : Nat) : Int) := by rw [wrap_i64 (by omega) (by omega)]; omega
    obtain ⟨sl, rfl, g2, g4⟩ := (hx.new EU_len (by decide) hk fun _ _ h => h).idx1 hvi (e := fun v => .int .u64 (v : Int)) fun _ => rfl
    obtain ⟨s1, H1, b1, b2, b3, b4⟩ := f15_spec w vs[i] hw (hv64 _ (List.getElem_mem hil)) H
    have hwi : w * i ≤ 8 * 1000 := Nat.mul_le_mul hw (by omega)
    obtain ⟨s', H', a1, a2, a3, a4⟩ := append_OS E8_len (by decide) (by' := 1) (ho.kp b3 fun _ _ h => h) b2.rs (by rw [leB_length]; simp [most]; omega)
    have hl0 := hk.len
    have hl1 := b3.len
    obtain ⟨s2, H2, j1, j2, j3, j4⟩ := loop48 H0 (some sl) vs hx hvs hv64 w hw m n (i + 1) s' (l ++ leB w vs[i]) H' (by omega) (by rw [List.length_append, leB_length, hl, Nat.mul_succ]) a2 (fun sl e => by
      rcases a4 sl e with ⟨sl0, e0, e1⟩ | h
      · rw [e1]; exact hs sl0 e0
      · omega) ((hk.trans b3 (D := No) (fun _ h => h) fun _ _ h => h).trans a3 (fun _ h => h) fun j hj ⟨sl, e, e1⟩ => by have := hs sl e; omega)
    refine ⟨s2, H2, ?_, ?_, j3, j4⟩
    · rw [show n + (m + 1) + 1 = (n + m + 1) + 1 by omega, D48_3_s, g]
      simp only [ct, bs, g2, g3, g4, tInt, b1, a1]
      exact j1
    · rw [List.drop_eq_getElem_cons hil, List.flatMap_cons, ← List.append_assoc]; exact j2
theorem f48_spec (H : Heap) (x : Option Sl) (vs : List Nat) (hx : RS 1 EU H x vs) (hvs : vs.length ≤ 1000) (hv64 : ∀ v ∈ vs, v < 18446744073709551616) (w : Nat) (hw : w ≤ 8) : ∃ s' H', f48 (w : Int) x H = some (s', H') ∧ OS 1 E8 H' s' (vs.flatMap (leB w)) ∧ Kp No H H' ∧ New H.length s' := by
  obtain ⟨n, hn⟩ := LL48_3_of vs.length (by omega) (w : Int) none x (vs.length : Int) 0 H
  obtain ⟨s', H', j1, j2, j3, j4⟩ := loop48 H x vs hx hvs hv64 w hw vs.length n 0 none [] H (by omega) rfl rfl (fun _ e => nomatch e) (Kp.refl _ _)
  refine ⟨s', H', ?_, by simpa using j2, j4, j3⟩
  rw [q48, hx.slenEq, hn]
  exact bnd j1 (J48_3_0 _ _)
/-! 47: R2_Behind -/
noncomputable def CC47 : Ctx := { P := Try.prog, own := [], fns := [], nt := 18, nums := [], live := [] }
theorem good47 : Callees Try.prog CC47.fns [] CC47.nums := Callees.nil Try.prog
theorem hN47 : CtxNat CC47 := good47.ctx rfl rfl rfl
abbrev Ty47 := (Option Sl) → (Option Sl) → Heap → Option (((Option Sl) × Bool) × Heap)
def enc47 (r : (Option Sl) × Bool) : List TV := [.c (Cell.slice (r.1)), .c (Cell.bool (r.2))]
def dec47 : AV → Option ((Option Sl) × Bool)
  | .tup [.c (Cell.slice q0), .c (Cell.bool q1)] => some (q0, q1)
  | _ => none
theorem de47 (v : AV) (r : (Option Sl) × Bool) (h : dec47 v = some r) : v = oneOf (enc47 r) := by
  unfold dec47 at h
  split at h
  · cases h; rfl
  · cases h
def sem47 (f : Ty47) : List TV → Heap → Option (((Option Sl) × Bool) × Heap)
  | [.c (Cell.slice b), .c (Cell.slice more)], H => f b more H
  | _, _ => none
noncomputable def f47 : Ty47 := hide fun b more H => fnA CC47 Try.f47.results.toList (bodyOf Try.f47) _ [.c (Cell.slice b), .c (Cell.slice more)] H (decF dec47)
theorem f47_eq (b : (Option Sl)) (more : (Option Sl)) (H : Heap) : f47 b more H = fnA CC47 Try.f47.results.toList (bodyOf Try.f47) _ [.c (Cell.slice b), .c (Cell.slice more)] H (decF dec47) := by unfold f47; rw [hide_eq]
theorem f47_run (b : (Option Sl)) (more : (Option Sl)) (H : Heap) : f47 b more H = fnL CC47 (lpD CC47) Try.f47.results.toList (bodyOf Try.f47) [.c (Cell.slice b), .c (Cell.slice more)] H (decF dec47) := (f47_eq ..).trans (fnA_lpD hN47 ..)
theorem q47 : ∀ (b more : Option Sl) (H : Heap), f47 b more H = bif decide (slen more > IntKind.i64.wrap (1048576 - slen b)) then some ((b, false), H) else ((H ++ [Blk.row [] false]).append 1 1 (some { id := List.length H, off := 0, len := 0, cap := 0, esz := 1 }) b).bind fun v1 => (v1.snd.append 1 1 v1.fst more).bind fun v0 => some ((v0.fst, true), v0.snd) := by intros; exact (f47_run ..).trans (by kernel_rfl)
theorem ok47 : FnOk Try.prog 47 (specF enc47 (sem47 f47)) := by
  refine spec_ok (C := CC47) good47 rfl rfl rfl (by kernel_rfl) Try.func47 (c := bodyOf Try.f47) (by kernel_rfl) (by kernel_rfl) (Nat.le_of_eq Try.ntmps47.symm) dec47 enc47 de47 _ ?_
  intro args H q h
  unfold sem47 at h
  split at h
  · rw [← f47_eq]; exact h
  · cases h
theorem f47_no {H : Heap} {s t : Option Sl} {b m : List UInt8} (hs : RS 1 E8 H s b) (ht : RS 1 E8 H t m) (hb : b.length ≤ 1048576) (hm : m.length ≤ most) (hf : 1048576 < b.length + m.length) : f47 s t H = some ((s, false), H) := by
  have : decide (slen t > IntKind.i64.wrap (1048576 - slen s)) = true := by rw [hs.slenEq, ht.slenEq, wrap_i64 (by omega) (by omega)]; simp; omega
  rw [q47]
  simp only [ct, this]
theorem f47_spec {H : Heap} {s t : Option Sl} {b m : List UInt8} (hs : RS 1 E8 H s b) (ht : RS 1 E8 H t m) (hf : b.length + m.length ≤ 1048576) : ∃ s' H', f47 s t H = some ((s', true), H') ∧ OS 1 E8 H' s' (b ++ m) ∧ Kp No H H' ∧ New H.length s' := by
  have hd : decide (slen t > IntKind.i64.wrap (1048576 - slen s)) = false := by rw [hs.slenEq, ht.slenEq, wrap_i64 (by omega) (by omega)]; simp; omega
  have kp : Kp No H (H ++ [.row [] false]) := Kp.push _ _ _
  obtain ⟨s1, H1, a1, a2, a3, a4⟩ := append_OS E8_len (by decide) (by' := 1) (OS_new (n := 1) (E := E8) H) (hs.new E8_len (by decide) kp fun _ _ h => h) (by simp [most]; omega)
  rw [List.nil_append] at a2
  have k1 : Kp No H H1 := kp.trans a3 (fun _ h => h) fun i hi ⟨sl, e, e1⟩ => by cases e; exact absurd e1 (by show ¬ i = H.length; omega)
  have n1 : New H.length s1 := fun sl e => by
    rcases a4 sl e with ⟨sl0, e0, e1⟩ | h
    · cases e0; rw [e1]; exact Nat.le_refl _
    · simp at h; omega
  obtain ⟨s2, H2, b1, b2, b3, b4⟩ := append_OS E8_len (by decide) (by' := 1) a2 (ht.new E8_len (by decide) k1 fun _ _ h => h) (by simp [most]; omega)
  have hl := k1.len
  refine ⟨s2, H2, ?_, b2, k1.trans b3 (fun _ h => h) fun i hi ⟨sl, e, e1⟩ => by have := n1 sl e; omega, fun sl e => ?_⟩
  · rw [q47]
    simp only [cf, hd, a1, bs, b1]
  · rcases b4 sl e with ⟨sl0, e0, e1⟩ | h
    · rw [e1]; exact n1 sl0 e0
    · omega
/-! 43: L02_grow -/
noncomputable def CC43 : Ctx := { P := Try.prog, own := [5], fns := [(8, F8), (27, specF enc27 (sem27 f27)), (25, specF enc25 (sem25 f25)), (26, specF enc26 (sem26 f26)), (47, specF enc47 (sem47 f47)), (48, specF enc48 (sem48 f48)), (11, specF enc11 (sem11 f11))], nt := 181, nums := [8], live := [(25, ⟨[1, 5, 17, 18], [5], [1, 17, 18], []⟩), (15, ⟨[1, 5, 13, 14], [5], [1, 5, 6, 7, 13], [5]⟩)] }
theorem good43 : Callees Try.prog CC43.fns [] CC43.nums := (((((((Callees.nil Try.prog).cons ok11 (specF_nat _ _)).cons ok48 (specF_nat _ _)).cons ok47 (specF_nat _ _)).cons ok26 (specF_nat _ _)).cons ok25 (specF_nat _ _)).cons ok27 (specF_nat _ _)).cons_num ok8 F8_num
theorem hN43 : CtxNat CC43 := good43.ctx rfl rfl rfl
abbrev Ty43 := (Option (Nat × Nat)) → (Option Sl) → Int → Int → Int → Int → (Option Sl) → (Option Sl) → ByteArray → Heap → Option (((Option Sl) × Bool) × Heap)
def enc43 (r : (Option Sl) × Bool) : List TV := [.c (Cell.slice (r.1)), .c (Cell.bool (r.2))]
def dec43 : AV → Option ((Option Sl) × Bool)
  | .tup [.c (Cell.slice q0), .c (Cell.bool q1)] => some (q0, q1)
  | _ => none
theorem de43 (v : AV) (r : (Option Sl) × Bool) (h : dec43 v = some r) : v = oneOf (enc43 r) := by
  unfold dec43 at h
  split at h
  · cases h; rfl
  · cases h
def sem43 (f : Ty43) : List TV → Heap → Option (((Option Sl) × Bool) × Heap)
  | [.c (Cell.ptr r), .c (Cell.slice b), .agg [Cell.int .i64 o0, Cell.int .i64 o1, Cell.int .i64 o2, Cell.int .i64 o3, Cell.slice o4, Cell.slice o5, Cell.str o6]], H => f r b o0 o1 o2 o3 o4 o5 o6 H
  | _, _ => none
noncomputable def f43 : Ty43 := hide fun r b o0 o1 o2 o3 o4 o5 o6 H => fnA CC43 Try.f43.results.toList (bodyOf Try.f43) _ [.c (Cell.ptr r), .c (Cell.slice b), .agg [Cell.int .i64 o0, Cell.int .i64 o1, Cell.int .i64 o2, Cell.int .i64 o3, Cell.slice o4, Cell.slice o5, Cell.str o6]] H (decF dec43)
theorem f43_eq (r : (Option (Nat × Nat))) (b : (Option Sl)) (o0 : Int) (o1 : Int) (o2 : Int) (o3 : Int) (o4 : (Option Sl)) (o5 : (Option Sl)) (o6 : ByteArray) (H : Heap) : f43 r b o0 o1 o2 o3 o4 o5 o6 H = fnA CC43 Try.f43.results.toList (bodyOf Try.f43) _ [.c (Cell.ptr r), .c (Cell.slice b), .agg [Cell.int .i64 o0, Cell.int .i64 o1, Cell.int .i64 o2, Cell.int .i64 o3, Cell.slice o4, Cell.slice o5, Cell.str o6]] H (decF dec43) := by unfold f43; rw [hide_eq]
theorem f43_run (r : (Option (Nat × Nat))) (b : (Option Sl)) (o0 : Int) (o1 : Int) (o2 : Int) (o3 : Int) (o4 : (Option Sl)) (o5 : (Option Sl)) (o6 : ByteArray) (H : Heap) : f43 r b o0 o1 o2 o3 o4 o5 o6 H = fnL CC43 (lpD CC43) Try.f43.results.toList (bodyOf Try.f43) [.c (Cell.ptr r), .c (Cell.slice b), .agg [Cell.int .i64 o0, Cell.int .i64 o1, Cell.int .i64 o2, Cell.int .i64 o3, Cell.slice o4, Cell.slice o5, Cell.str o6]] H (decF dec43) := (f43_eq ..).trans (fnA_lpD hN43 ..)
def S43_15 (t1 : (Option Sl)) (t13 : Int) (t14 : Int) (b5_0 : Int) (b5_1 : Int) (b5_2 : Int) (b5_3 : Int) (b5_4 : (Option Sl)) (b5_5 : (Option Sl)) (b5_6 : ByteArray) (H : Heap) : St := ⟨[(1, .c (Cell.slice t1)), (5, .lp 5 0), (13, .c (Cell.int .i64 t13)), (14, .c (Cell.int .i64 t14))], [(5, [Cell.int .i64 b5_0, Cell.int .i64 b5_1, Cell.int .i64 b5_2, Cell.int .i64 b5_3, Cell.slice b5_4, Cell.slice b5_5, Cell.str b5_6])], H⟩
noncomputable def D43_15 (n : Nat) (t1 : (Option Sl)) (t13 : Int) (t14 : Int) (b5_0 : Int) (b5_1 : Int) (b5_2 : Int) (b5_3 : Int) (b5_4 : (Option Sl)) (b5_5 : (Option Sl)) (b5_6 : ByteArray) (H : Heap) : Option (AExit × St) := loopN (exec CC43 (Code.l (Code.l (Code.r (Code.l (Code.r (Code.l (Code.r (Code.r (Code.r (Code.r (Code.r (Code.l (Code.r (Code.l (Code.r (bodyOf Try.f43))))))))))))))))) (keepOf CC43.live (Code.l (Code.l (Code.r (Code.l (Code.r (Code.l (Code.r (Code.r (Code.r (Code.r (Code.r (Code.l (Code.r (Code.l (Code.r (bodyOf Try.f43))))))))))))))))) n (S43_15 t1 t13 t14 b5_0 b5_1 b5_2 b5_3 b5_4 b5_5 b5_6 H) retD
noncomputable def LL43_15 (t1 : (Option Sl)) (t13 : Int) (t14 : Int) (b5_0 : Int) (b5_1 : Int) (b5_2 : Int) (b5_3 : Int) (b5_4 : (Option Sl)) (b5_5 : (Option Sl)) (b5_6 : ByteArray) (H : Heap) : Option (AExit × St) := loopsD CC43 (Code.l (Code.l (Code.r (Code.l (Code.r (Code.l (Code.r (Code.r (Code.r (Code.r (Code.r (Code.l (Code.r (Code.l (Code.r (bodyOf Try.f43)))))))))))))))) (S43_15 t1 t13 t14 b5_0 b5_1 b5_2 b5_3 b5_4 b5_5 b5_6 H)
theorem LL43_15_of (m : Nat) (hm : m < 18446744073709551616) (t1 : (Option Sl)) (t13 : Int) (t14 : Int) (b5_0 : Int) (b5_1 : Int) (b5_2 : Int) (b5_3 : Int) (b5_4 : (Option Sl)) (b5_5 : (Option Sl)) (b5_6 : ByteArray) (H : Heap) : ∃ n, LL43_15 t1 t13 t14 b5_0 b5_1 b5_2 b5_3 b5_4 b5_5 b5_6 H = D43_15 (n + m + 1) t1 t13 t14 b5_0 b5_1 b5_2 b5_3 b5_4 b5_5 b5_6 H := loopsD_of _ _ _ m hm
def S43_25 (t1 : (Option Sl)) (t17 : Int) (t18 : Int) (b5_0 : Int) (b5_1 : Int) (b5_2 : Int) (b5_3 : Int) (b5_4 : (Option Sl)) (b5_5 : (Option Sl)) (b5_6 : ByteArray) (H : Heap) : St := ⟨[(1, .c (Cell.slice t1)), (5, .lp 5 0), (17, .c (Cell.int .i64 t17)), (18, .c (Cell.int .i64 t18))], [(5, [Cell.int .i64 b5_0, Cell.int .i64 b5_1, Cell.int .i64 b5_2, Cell.int .i64 b5_3, Cell.slice b5_4, Cell.slice b5_5, Cell.str b5_6])], H⟩
noncomputable def D43_25 (n : Nat) (t1 : (Option Sl)) (t17 : Int) (t18 : Int) (b5_0 : Int) (b5_1 : Int) (b5_2 : Int) (b5_3 : Int) (b5_4 : (Option Sl)) (b5_5 : (Option Sl)) (b5_6 : ByteArray) (H : Heap) : Option (AExit × St) := loopN (exec CC43 (Code.l (Code.l (Code.l (Code.r (Code.r (Code.r (Code.r (Code.r (bodyOf Try.f43)))))))))) (keepOf CC43.live (Code.l (Code.l (Code.l (Code.r (Code.r (Code.r (Code.r (Code.r (bodyOf Try.f43)))))))))) n (S43_25 t1 t17 t18 b5_0 b5_1 b5_2 b5_3 b5_4 b5_5 b5_6 H) retD
noncomputable def LL43_25 (t1 : (Option Sl)) (t17 : Int) (t18 : Int) (b5_0 : Int) (b5_1 : Int) (b5_2 : Int) (b5_3 : Int) (b5_4 : (Option Sl)) (b5_5 : (Option Sl)) (b5_6 : ByteArray) (H : Heap) : Option (AExit × St) := loopsD CC43 (Code.l (Code.l (Code.l (Code.r (Code.r (Code.r (Code.r (Code.r (bodyOf Try.f43))))))))) (S43_25 t1 t17 t18 b5_0 b5_1 b5_2 b5_3 b5_4 b5_5 b5_6 H)
theorem LL43_25_of (m : Nat) (hm : m < 18446744073709551616) (t1 : (Option Sl)) (t17 : Int) (t18 : Int) (b5_0 : Int) (b5_1 : Int) (b5_2 : Int) (b5_3 : Int) (b5_4 : (Option Sl)) (b5_5 : (Option Sl)) (b5_6 : ByteArray) (H : Heap) : ∃ n, LL43_25 t1 t17 t18 b5_0 b5_1 b5_2 b5_3 b5_4 b5_5 b5_6 H = D43_25 (n + m + 1) t1 t17 t18 b5_0 b5_1 b5_2 b5_3 b5_4 b5_5 b5_6 H := loopsD_of _ _ _ m hm
def X43_25 (x0 : Option Sl) (x1 : Int) (x2 : Int) (H : Heap) : St := { env := [(1, AV.c (Cell.slice x0)), (17, AV.c (Cell.int IntKind.i64 x1)), (18, AV.c (Cell.int IntKind.i64 x2))], loc := [], heap := H }
def X43_15 (x0 : Option Sl) (x1 : Option Sl) (x2 : Bool) (x3 : Int) (x4 : Int) (x5 : Int) (x6 : Int) (x7 : Int) (x8 : Option Sl) (x9 : Option Sl) (x10 : ByteArray) (H : Heap) : St := { env := [(1, AV.c (Cell.slice x0)), (5, AV.lp 5 0), (6, AV.c (Cell.slice x1)), (7, AV.c (Cell.bool x2)), (13, AV.c (Cell.int IntKind.i64 x3))], loc := [(5, [Cell.int IntKind.i64 x4, Cell.int IntKind.i64 x5, Cell.int IntKind.i64 x6, Cell.int IntKind.i64 x7, Cell.slice x8, Cell.slice x9, Cell.str x10])], heap := H }
def X43_15a (x0 : Option Sl) (x1 : Int) (x2 : Int) (x3 : Int) (x4 : Int) (x5 : Int) (x6 : Option Sl) (x7 : Option Sl) (x8 : ByteArray) (H : Heap) : St := { env := [(1, AV.c (Cell.slice x0)), (5, AV.lp 5 0), (13, AV.c (Cell.int IntKind.i64 x1))], loc := [(5, [Cell.int IntKind.i64 x2, Cell.int IntKind.i64 x3, Cell.int IntKind.i64 x4, Cell.int IntKind.i64 x5, Cell.slice x6, Cell.slice x7, Cell.str x8])], heap := H }
noncomputable def J43_15 : AExit × St → Option ((Option Sl × Bool) × Heap) := fun p => blockK 1 (seqK (execL CC43 (lpD CC43) (Code.r (Code.r (Code.l (Code.r (Code.r (Code.r (Code.r (Code.r (Code.l (Code.r (Code.l (Code.r (bodyOf Try.f43)))))))))))))) (blockK 0 (seqK (execL CC43 (lpD CC43) (Code.r (Code.r (bodyOf Try.f43)))) (retA CC43 [ResultVar.tmp 6, ResultVar.tmp 7] (decF dec43))))) p.fst p.snd
noncomputable def J43_25 : AExit × St → Option ((Option Sl × Bool) × Heap) := fun p => blockK 3 (seqK (execL CC43 (lpD CC43) (Code.r (Code.r (Code.r (Code.r (Code.r (Code.r (bodyOf Try.f43)))))))) (retA CC43 [ResultVar.tmp 6, ResultVar.tmp 7] (decF dec43))) p.fst p.snd
theorem D43_25_s : ∀ (n : Nat) (t1 : Option Sl) (t17 t18 b5_0 b5_1 b5_2 b5_3 : Int) (b5_4 b5_5 : Option Sl) (b5_6 : ByteArray) (H : Heap), D43_25 (n + 1) t1 t17 t18 b5_0 b5_1 b5_2 b5_3 b5_4 b5_5 b5_6 H = bif decide (t18 < b5_2) then bif b5_2 == 0 then none else bif (IntKind.i64.wrap (slen t1 + t18)).tmod b5_2 != 0 then D43_25 n t1 t17 (IntKind.i64.wrap (t18 + 1)) b5_0 b5_1 b5_2 b5_3 b5_4 b5_5 b5_6 H else some (AExit.exit 3, X43_25 t1 t17 t18 H) else some (AExit.exit 3, X43_25 t1 t17 t18 H) := by intros; exact (loopN_stepD hN43 _ _ _ _).trans (by kernel_rfl)
theorem D43_15_s : ∀ (n : Nat) (t1 : Option Sl) (t13 t14 b5_0 b5_1 b5_2 b5_3 : Int) (b5_4 b5_5 : Option Sl) (b5_6 : ByteArray) (H : Heap), D43_15 (n + 1) t1 t13 t14 b5_0 b5_1 b5_2 b5_3 b5_4 b5_5 b5_6 H = bif decide (t14 < (↑b5_6.size : Int)) then bif inb t14 b5_6.size then b5_6.data.toList[t14.toNat]?.bind fun v0 => bif (↑v0.toNat : Int) == 0 then some (AExit.ret, X43_15 t1 t1 (t13 == 2) t13 b5_0 b5_1 b5_2 b5_3 b5_4 b5_5 b5_6 H) else D43_15 n t1 t13 (IntKind.i64.wrap (t14 + 1)) b5_0 b5_1 b5_2 b5_3 b5_4 b5_5 b5_6 H else none else some (AExit.exit 1, X43_15a t1 t13 b5_0 b5_1 b5_2 b5_3 b5_4 b5_5 b5_6 H) := by intros; exact (loopN_stepD hN43 _ _ _ _).trans (by kernel_rfl)
theorem q43 : ∀ (r : Option (Nat × Nat)) (b : Option Sl) (o0 o1 o2 o3 : Int) (o4 o5 : Option Sl) (o6 : ByteArray) (H : Heap), f43 r b o0 o1 o2 o3 o4 o5 o6 H = bif o0 == 0 then (f11 r o1 o4 H).bind fun v3 => bif !R2_Is o1 then some ((b, v3.fst == 2), v3.snd) else (f48 o1 o4 v3.snd).bind fun v2 => (f47 b v2.fst v2.snd).bind fun v1 => bif v1.fst.snd == (v3.fst == 0) then bif v1.fst.snd then some ((v1.fst.fst, true), v1.snd) else some ((v1.fst.fst, v3.fst == 4), v1.snd) else some ((v1.fst.fst, false), v1.snd) else bif o0 == 1 then (Sl.sub o5 0 (some (IntKind.i64.wrap ((slen o5).tdiv 2)))).bind fun v7 => bif esOk o5 1 then (Sl.sub o5 (IntKind.i64.wrap ((slen o5).tdiv 2)) none).bind fun v6 => bif esOk o5 1 then (f26 r (some { id := List.length H, off := 0, len := 2, cap := 2, esz := 1 }) (H ++ [Blk.row [Cell.slice v7, Cell.slice v6] false])).bind fun v5 => (f47 b o5 v5.snd).bind fun v4 => some ((v4.fst.fst, true), v4.snd) else none else none else bif o0 == 2 then (f25 r (some { id := List.length H, off := 0, len := 2, cap := 2, esz := 1 }) (H ++ [Blk.row [Cell.str o6, Cell.str { data := #[] }] false])).bind fun v8 => (LL43_15 b v8.fst 0 o0 o1 o2 o3 o4 o5 o6 v8.snd).bind J43_15 else (f27 r o2 H).bind fun v9 => bif decide (o2 < 1) then some ((b, v9.fst == 2), v9.snd) else bif decide (o2 > 65536) then some ((b, v9.fst == 2), v9.snd) else (LL43_25 b v9.fst 0 o0 o1 o2 o3 o4 o5 o6 v9.snd).bind J43_25 := by intros; exact (f43_run ..).trans (by kernel_rfl)
theorem J43_15_0 : ∀ (x0 x1 : Option Sl) (x2 : Bool) (x3 x4 x5 x6 x7 : Int) (x8 x9 : Option Sl) (x10 : ByteArray) (H : Heap), J43_15 (AExit.ret, X43_15 x0 x1 x2 x3 x4 x5 x6 x7 x8 x9 x10 H) = some ((x1, x2), H) := by intros; kernel_rfl
theorem J43_15_1 : ∀ (x0 : Option Sl) (x1 x2 x3 x4 x5 : Int) (x6 x7 : Option Sl) (x8 : ByteArray) (H : Heap), J43_15 (AExit.exit 1, X43_15a x0 x1 x2 x3 x4 x5 x6 x7 x8 H) = bif decide (x8.size ≤ 17592186044416) then ((H ++ [Blk.row (bytesCells x8) false] ++ [Blk.row [Cell.int IntKind.u8 0, Cell.int IntKind.u8 0] false]).append 1 1 (some { id := List.length H, off := 0, len := x8.size, cap := x8.size, esz := 1 }) (some { id := List.length (H ++ [Blk.row (bytesCells x8) false]), off := 0, len := 2, cap := 2, esz := 1 })).bind fun v11 => (f47 x0 v11.fst v11.snd).bind fun v10 => bif v10.fst.snd == (x1 == 0) then bif v10.fst.snd then some ((v10.fst.fst, true), v10.snd) else some ((v10.fst.fst, x1 == 4), v10.snd) else some ((v10.fst.fst, false), v10.snd) else none := by intros; kernel_rfl
theorem J43_25_0 : ∀ (x0 : Option Sl) (x1 x2 : Int) (H : Heap), J43_25 (AExit.exit 3, X43_25 x0 x1 x2 H) = (H.make 1 1 [Cell.int IntKind.u8 0] x2 x2).bind fun v13 => (f47 x0 v13.fst v13.snd).bind fun v12 => bif v12.fst.snd == (x1 == 0) then bif v12.fst.snd then some ((v12.fst.fst, true), v12.snd) else some ((v12.fst.fst, x1 == 4), v12.snd) else some ((v12.fst.fst, false), v12.snd) := by intros; kernel_rfl
theorem ok43 : FnOk Try.prog 43 (specF enc43 (sem43 f43)) := by
  refine spec_ok (C := CC43) good43 rfl rfl rfl (by kernel_rfl) Try.func43 (c := bodyOf Try.f43) (by kernel_rfl) (by kernel_rfl) (Nat.le_of_eq Try.ntmps43.symm) dec43 enc43 de43 _ ?_
  intro args H q h
  unfold sem43 at h
  split at h
  · rw [← f43_eq]; exact h
  · cases h
theorem flatB_len (w : Nat) : ∀ vs : List Nat, (vs.flatMap (leB w)).length = w * vs.length
  | [] => by simp
  | v :: vs => by rw [List.flatMap_cons, List.length_append, leB_length, flatB_len w vs, List.length_cons, Nat.mul_succ]; omega
/-- What a rope's call may change. -/
def FF (H : Heap) (id : Nat) (i : Nat) : Prop := i = id ∨ (∃ sl, H[id]? = some (.row [.slice (some sl)] false) ∧ i = sl.id) ∨ H.length ≤ i
structure I6 (H0 H : Heap) (id : Nat) (b : Option Sl) (B : List UInt8) : Prop where
  rp : RP (Up H0.length) H id B
  hb : RS 1 E8 H b B
  ap : ∀ sb, b = some sb → B ≠ [] → sb.id ≠ id ∧ ∀ sl, H[id]? = some (.row [.slice (some sl)] false) → sb.id ≠ sl.id
  len : B.length ≤ 1048576
  kp : Kp No H0 H
  lt : ∀ sb, b = some sb → sb.id < H.length
theorem I6.rpF {H0 H : Heap} {id : Nat} {b : Option Sl} {B : List UInt8} (h : I6 H0 H id b B) : RP (FF H id) H id B := by
  obtain ⟨s, h1, h2, h3, h4, h5⟩ := h.rp
  exact ⟨s, h1, h2, h3, .inl rfl, fun sl e => by subst e; exact .inr (.inl ⟨sl, h1, rfl⟩)⟩
theorem I6.up {H0 H : Heap} {id : Nat} {b : Option Sl} {B : List UInt8} (h : I6 H0 H id b B) : ∀ i, FF H id i → Up H0.length i := by
  obtain ⟨s, h1, h2, h3, h4, h5⟩ := h.rp
  rintro i (rfl | ⟨sl, e, rfl⟩ | hi)
  · exact h4
  · rw [h1] at e; cases e; exact h5 sl rfl
  · exact Nat.le_trans h.kp.len hi
theorem ff_new (H : Heap) (id : Nat) : ∀ i, H.length ≤ i → FF H id i := fun i hi => .inr (.inr hi)
theorem I6.same {H0 H H1 : Heap} {id : Nat} {b : Option Sl} {B : List UInt8} (h : I6 H0 H id b B) (hr : RP (FF H id) H1 id B) (hk : Kp (FF H id) H H1) : I6 H0 H1 id b B where
  rp := rp_mono hr fun i _ => h.up i
  hb := h.hb.kp hk fun sb e e0 hf => by
    obtain ⟨a1, a2⟩ := h.ap sb e e0
    rcases hf with hf | ⟨sl, e1, e2⟩ | hf
    · exact a1 hf
    · exact a2 sl e1 e2
    · subst e; have := h.hb.lt E8_len (by decide) e0; omega
  ap sb e e0 := by
    obtain ⟨a1, a2⟩ := h.ap sb e e0
    refine ⟨a1, fun sl e1 e2 => ?_⟩
    obtain ⟨s, h1, h2, h3, h4, h5⟩ := hr
    rw [h1] at e1; cases e1
    have hf := h5 sl rfl
    rw [← e2] at hf
    rcases hf with hf | ⟨sl', e3, e4⟩ | hf
    · exact a1 hf
    · exact a2 sl' e3 e4
    · subst e; have := h.hb.lt E8_len (by decide) e0; omega
  len := h.len
  kp := kp_old h.kp (hk.mono fun i _ => h.up i)
  lt sb e := Nat.lt_of_lt_of_le (h.lt sb e) hk.len
theorem I6.grow {H0 H H1 : Heap} {id : Nat} {b : Option Sl} {B : List UInt8} (h : I6 H0 H id b B) (hk : Kp No H H1) : I6 H0 H1 id b B := h.same (rp_kp h.rpF hk) (hk.mono fun _ _ e => e.elim)
theorem I6.new {H0 H H1 H2 : Heap} {id : Nat} {b b' : Option Sl} {B B' : List UInt8} (h : I6 H0 H id b B) (hr : RP (FF H id) H1 id B') (hk : Kp (FF H id) H H1) (hl : B'.length ≤ 1048576) (ho : OS 1 E8 H2 b' B') (hk2 : Kp No H1 H2) (hn : New H1.length b') : I6 H0 H2 id b' B' where
  rp := rp_kp (rp_mono hr fun i _ => h.up i) hk2
  hb := ho.rs
  ap sb e e0 := by
    have := hn sb e
    obtain ⟨s, h1, h2, h3, h4, h5⟩ := hr
    refine ⟨fun e1 => by have := lt_of h1; omega, fun sl e1 e2 => ?_⟩
    rw [hk2.at h1 (fun e => e)] at e1; cases e1
    have := h2.lt
    omega
  len := hl
  kp := (kp_old h.kp (hk.mono fun i _ => h.up i)).trans hk2 (fun _ h => h) fun _ _ h => h
  lt sb e := by subst e; exact ho.lt
/-- A rope in a heap that has grown, its calls leaving what is new alone. -/
def Fn (F : Nat → Prop) (n n' i : Nat) : Prop := (F i ∧ i < n) ∨ n' ≤ i
theorem rp_new {F : Nat → Prop} {H H' : Heap} {id : Nat} {b : List UInt8} (h : RP F H id b) (hk : Kp No H H') : RP (Fn F H.length H'.length) H' id b :=
  rp_mono (rp_kp (rp_mono h fun i hi hf => (⟨hf, hi⟩ : F i ∧ i < H.length)) hk) fun i _ h => .inl h
theorem fn_back {F : Nat → Prop} {H H' : Heap} (hF : ∀ i, H.length ≤ i → F i) (hk : Kp No H H') : ∀ i, Fn F H.length H'.length i → F i := fun i h => by
  rcases h with h | h
  · exact h.1
  · exact hF i (Nat.le_trans hk.len h)
theorem rss2 {H : Heap} {a b : Option Sl} {la lb : List UInt8} (ha : RS 1 E8 H a la) (hb : RS 1 E8 H b lb) : RSS (H ++ [Blk.row [Cell.slice a, Cell.slice b] false]) (some { id := List.length H, off := 0, len := 2, cap := 2, esz := 1 }) [la, lb] := by
  have k1 : Kp No H (H ++ [Blk.row [Cell.slice a, Cell.slice b] false]) := Kp.push _ _ _
  refine ⟨[a, b], ⟨rfl, rfl, Nat.le_refl _, fun i c e => ?_⟩, rfl, fun j p l e1 e2 => ?_⟩
  · show Heap.get _ H.length (0 + i) = some c
    rw [za, get_of (push_get _ _)]; exact e
  · match j, e1, e2 with
    | 0, e1, e2 => cases e1; cases e2; exact ha.new E8_len (by decide) k1 fun _ _ h => h
    | 1, e1, e2 => cases e1; cases e2; exact hb.new E8_len (by decide) k1 fun _ _ h => h
    | j + 2, e1, e2 => simp at e1
theorem rs1 {α : Type} {E : α → List Cell} (x : α) (hE : (E x).length = 1) (H : Heap) : RS 1 E (H ++ [Blk.row (E x) false]) (some { id := List.length H, off := 0, len := 1, cap := 1, esz := 1 }) [x] := ⟨rfl, rfl, Nat.le_refl _, fun i c e => by
    show Heap.get _ H.length (0 + i) = some c
    rw [za, get_of (push_get _ _)]; simpa using e⟩
theorem rs2 {α : Type} {E : α → List Cell} (x y : α) (cx cy : Cell) (hx : E x = [cx]) (hy : E y = [cy]) (H : Heap) : RS 1 E (H ++ [Blk.row [cx, cy] false]) (some { id := List.length H, off := 0, len := 2, cap := 2, esz := 1 }) [x, y] := ⟨rfl, rfl, Nat.le_refl _, fun i c e => by
    show Heap.get _ H.length (0 + i) = some c
    rw [za, get_of (push_get _ _)]; simpa [hx, hy] using e⟩
theorem pad_spec (L t : Nat) (h : 1 ≤ t) : (L + padN L t) % t = 0 ∧ padN L t < t ∧ ∀ j, j < padN L t → (L + j) % t ≠ 0 := by
  have hm : L % t < t := Nat.mod_lt _ (by omega)
  have hL := Nat.div_add_mod L t
  unfold padN
  by_cases h0 : L % t = 0
  · rw [h0, Nat.sub_zero, Nat.mod_self]
    exact ⟨by simpa using h0, by omega, fun j hj => by omega⟩
  · rw [Nat.mod_eq_of_lt (show t - L % t < t by omega)]
    refine ⟨?_, by omega, fun j hj => ?_⟩
    · rw [show L + (t - L % t) = t * (L / t) + t by omega, Nat.add_mod_right, Nat.mul_mod_right]
    · rw [show L + j = t * (L / t) + (L % t + j) by omega, Nat.mul_add_mod, Nat.mod_eq_of_lt (by omega)]
      omega
theorem loop43_25 (b : Option Sl) (B : List UInt8) {H : Heap} (hb : RS 1 E8 H b B) (hB : B.length ≤ 1048576) (e o0 o1 o3 : Int) (t : Nat) (h1 : 1 ≤ t) (h2 : t ≤ 65536) (o4 o5 : Option Sl) (o6 : ByteArray) : ∀ (m n i : Nat), i + m = padN B.length t →
    D43_25 (n + m + 1) b e (i : Int) o0 o1 (t : Int) o3 o4 o5 o6 H = some (.exit 3, X43_25 b e ((padN B.length t : Nat) : Int) H)
  | 0, n, i, hi => by
    obtain ⟨p1, p2, p3⟩ := pad_spec B.length t h1
    have e0 : i = padN B.length t := by omega
    have g : decide ((i : Int) < (t : Int)) = true := by simp; omega
    have g0 : ((t : Int) == 0) = false := by simp; omega
    have gw : IntKind.i64.wrap ((B.length : Int) + (i : Int)) = ((B.length + i : Nat) : Int) := by rw [wrap_i64 (by omega) (by omega)]; omega
    have gm : (((B.length + i : Nat) : Int).tmod (t : Int) != 0) = false := by rw [← Int.ofNat_tmod, e0, p1]; rfl
    rw [D43_25_s]
    simp only [g, g0, hb.slenEq, gw, gm, ct, cf, ← e0]
  | m + 1, n, i, hi => by
    obtain ⟨p1, p2, p3⟩ := pad_spec B.length t h1
    have g : decide ((i : Int) < (t : Int)) = true := by simp; omega
    have g0 : ((t : Int) == 0) = false := by simp; omega
    have gw : IntKind.i64.wrap ((B.length : Int) + (i : Int)) = ((B.length + i : Nat) : Int) := by rw [wrap_i64 (by omega) (by omega)]; omega
    have g3 : IntKind.i64.wrap ((i : Int) + 1) = ((i + 1 : Nat) : Int) := by rw [wrap_i64 (by omega) (by omega)]; omega
    have gm : (((B.length + i : Nat) : Int).tmod (t : Int) != 0) = true := by
      have := p3 i (by omega)
      rw [← Int.ofNat_tmod]
      generalize (B.length + i) % t = q at *
      simp only [bne_iff_ne, ne_eq]; omega
    rw [show n + (m + 1) + 1 = (n + m + 1) + 1 by omega, D43_25_s]
    simp only [g, g0, hb.slenEq, gw, gm, g3, ct, cf]
    exact loop43_25 b B hb hB e o0 o1 o3 t h1 h2 o4 o5 o6 m n (i + 1) (by omega)
theorem loop43_15 (b : Option Sl) (e o0 o1 o2 o3 : Int) (o4 o5 : Option Sl) (S : ByteArray) (hS : S.size ≤ 1000) (H : Heap) : ∀ (m n i : Nat), i + m = S.size →
    (fi (S.data.toList.drop i) ≠ none → D43_15 (n + m + 1) b e (i : Int) o0 o1 o2 o3 o4 o5 S H = some (.ret, X43_15 b b (e == 2) e o0 o1 o2 o3 o4 o5 S H)) ∧ (fi (S.data.toList.drop i) = none → D43_15 (n + m + 1) b e (i : Int) o0 o1 o2 o3 o4 o5 S H = some (.exit 1, X43_15a b e o0 o1 o2 o3 o4 o5 S H))
  | 0, n, i, hi => by
    have g : decide ((i : Int) < (S.size : Int)) = false := by simp; omega
    have e : S.data.toList.drop i = [] := List.drop_eq_nil_of_le (by simp; omega)
    rw [e]
    exact ⟨fun h => absurd rfl h, fun _ => by rw [D43_15_s, g, cf]⟩
  | m + 1, n, i, hi => by
    have hil : i < S.data.toList.length := by simp; omega
    have g : decide ((i : Int) < (S.size : Int)) = true := by simp; omega
    have g2 : inb (i : Int) S.size = true := by simp [inb]; omega
    have g3 : IntKind.i64.wrap ((i : Int) + 1) = ((i + 1 : Nat) : Int) := by rw [wrap_i64 (by omega) (by omega)]; omega
    have g4 : S.data.toList[(i : Int).toNat]? = some S.data.toList[i] := by rw [Int.toNat_natCast]; exact List.getElem?_eq_getElem hil
    have hd : S.data.toList.drop i = S.data.toList[i] :: S.data.toList.drop (i + 1) := List.drop_eq_getElem_cons hil
    obtain ⟨j1, j2⟩ := loop43_15 b e o0 o1 o2 o3 o4 o5 S hS H m n (i + 1) (by omega)
    rw [show n + (m + 1) + 1 = (n + m + 1) + 1 by omega, D43_15_s, g, hd]
    generalize S.data.toList[i] = c at *
    unfold fi
    cases hz : (c == 0) with
    | true =>
      have hz' : (((c.toNat : Nat) : Int) == 0) = true := by rw [eq_of_beq hz]; rfl
      exact ⟨fun _ => by simp only [ct, bs, g2, g4, hz'], fun e => by cases e⟩
    | false =>
      have hz' : (((c.toNat : Nat) : Int) == 0) = false := by
        simp only [beq_eq_false_iff_ne, ne_eq] at hz ⊢
        intro e
        exact hz (UInt8.toNat_inj.1 (by simpa using e))
      simp only [ct, cf, bs, g2, g3, g4, hz', cond_false]
      refine ⟨fun e => j1 fun e1 => e (by rw [e1]; rfl), fun e => ?_⟩
      rw [Option.map_eq_none_iff] at e
      exact j2 e
theorem grow0 {H0 H : Heap} {id : Nat} {b : Option Sl} {B : List UInt8} (h : I6 H0 H id b B) (o1 o2 o3 : Int) (o4 o5 : Option Sl) (S : ByteArray) (L : List Nat) (h4 : RS 1 EU H0 o4 L) (hL : L.length ≤ 6) (hL64 : ∀ v ∈ L, v < 18446744073709551616) :
    ∃ b' B' H2, f43 (some (id, 0)) b 0 o1 o2 o3 o4 o5 S H = some ((b', true), H2) ∧ I6 H0 H2 id b' B' := by
  have k0 : ((0 : Int) == 0) = true := by decide
  rw [q43]
  simp only [k0, ct]
  cases hw : bits_Is o1 with
  | false =>
    have hw' : R2_Is o1 = false := hw
    have f := f11_arg id o1 o4 H hw
    refine ⟨b, B, H, ?_, h⟩
    simp only [f, bs, hw', Bool.not_false, ct]
    rfl
  | true =>
    obtain ⟨w, rfl, h8⟩ := isw hw
    have hw' : R2_Is (w : Int) = true := hw
    have h4' : RS 1 EU H o4 L := h4.new EU_len (by decide) h.kp fun _ _ h => h
    have hwl : w * L.length ≤ 8 * 6 := Nat.mul_le_mul (by omega) hL
    have hfl := flatB_len w L
    by_cases hf : B.length + w * L.length ≤ 1048576
    · obtain ⟨H1, c1, c2, c3⟩ := f11_spec o4 L w H h.rpF (ff_new H id) h4' (fun sl e e0 hf => by
        have := h.up _ hf
        subst e
        have := h4.lt EU_len (by decide) e0
        unfold Up at *; omega) hw hf
      have h4'' : RS 1 EU H1 o4 L := h4.new EU_len (by decide) (kp_old h.kp (c3.mono fun i _ => h.up i)) fun _ _ h => h
      obtain ⟨s2, H2, d1, d2, d3, d4⟩ := f48_spec H1 o4 L h4'' (by omega) hL64 w (by omega)
      have hb2 : RS 1 E8 H2 b B := (h.hb.kp c3 fun sb e e0 hf => by
        obtain ⟨a1, a2⟩ := h.ap sb e e0
        rcases hf with hf | ⟨sl, e1, e2⟩ | hf
        · exact a1 hf
        · exact a2 sl e1 e2
        · subst e; have := h.hb.lt E8_len (by decide) e0; omega).new E8_len (by decide) d3 fun _ _ h => h
      obtain ⟨s3, H3, e1, e2, e3, e4⟩ := f47_spec hb2 d2.rs (by rw [hfl]; exact hf)
      have z0 : (true == ((0 : Int) == 0)) = true := by decide
      have l3 := d3.len
      refine ⟨s3, _, H3, ?_, h.new c2 c3 (by rw [List.length_append, hfl]; exact hf) e2 (d3.trans e3 (fun _ h => h) fun _ _ h => h) fun sl e => Nat.le_trans l3 (e4 sl e)⟩
      simp only [c1, bs, hw', Bool.not_true, cf, d1, e1, z0, ct]
    · have f := f11_full o4 L w H h.rpF h.len h4' hw (by omega) (by omega)
      obtain ⟨s2, H2, d1, d2, d3, d4⟩ := f48_spec H o4 L h4' (by omega) hL64 w (by omega)
      have hb2 : RS 1 E8 H2 b B := h.hb.new E8_len (by decide) d3 fun _ _ h => h
      have e1 := f47_no hb2 d2.rs h.len (by rw [hfl]; simp [most]; omega) (by rw [hfl]; omega)
      have z0 : (false == ((4 : Int) == 0)) = true := by decide
      have z4 : ((4 : Int) == 4) = true := by decide
      refine ⟨b, B, H2, ?_, h.grow d3⟩
      simp only [f, bs, hw', Bool.not_true, cf, d1, e1, z0, z4, ct]
theorem I6.bK {H0 H H1 : Heap} {id : Nat} {b : Option Sl} {B : List UInt8} (h : I6 H0 H id b B) (hk : Kp (FF H id) H H1) : RS 1 E8 H1 b B := h.hb.kp hk fun sb e e0 hf => by
  obtain ⟨a1, a2⟩ := h.ap sb e e0
  rcases hf with hf | ⟨sl, e1, e2⟩ | hf
  · exact a1 hf
  · exact a2 sl e1 e2
  · subst e; have := h.hb.lt E8_len (by decide) e0; omega
theorem grow1 {H0 H : Heap} {id : Nat} {b : Option Sl} {B : List UInt8} (h : I6 H0 H id b B) (o1 o2 o3 : Int) (o4 o5 : Option Sl) (S : ByteArray) (M : List UInt8) (h5 : RS 1 E8 H0 o5 M) (hM : M.length ≤ 40) :
    ∃ b' B' H2, f43 (some (id, 0)) b 1 o1 o2 o3 o4 o5 S H = some ((b', true), H2) ∧ I6 H0 H2 id b' B' := by
  have k0 : ((1 : Int) == 0) = false := by decide
  have k1 : ((1 : Int) == 1) = true := by decide
  have h5' : RS 1 E8 H o5 M := h5.new E8_len (by decide) h.kp fun _ _ h => h
  have gd : IntKind.i64.wrap ((slen o5).tdiv 2) = ((M.length / 2 : Nat) : Int) := by
    rw [h5'.slenEq, show ((2 : Int)) = ((2 : Nat) : Int) from rfl, ← Int.ofNat_tdiv, wrap_i64 (by omega) (by omega)]
  obtain ⟨sa, a1, a2, _⟩ := h5'.sub0 E8_len (M.length / 2) (by omega)
  obtain ⟨sb, b1, b2, _⟩ := h5'.subE E8_len (M.length / 2) (by omega)
  have hrs := rss2 a2 b2
  have kp1 : Kp No H (H ++ [Blk.row [Cell.slice sa, Cell.slice sb] false]) := Kp.push _ _ _
  have htot : total [M.take (M.length / 2), M.drop (M.length / 2)] = M.length := by simp [total]; omega
  have hflat : [M.take (M.length / 2), M.drop (M.length / 2)].flatten = M := by simp
  rw [q43]
  by_cases hf : B.length + M.length ≤ 1048576
  · have hst : ∀ X, Kp (Fn (FF H id) H.length (H ++ [Blk.row [Cell.slice sa, Cell.slice sb] false]).length) (H ++ [Blk.row [Cell.slice sa, Cell.slice sb] false]) X → RSS X (some { id := List.length H, off := 0, len := 2, cap := 2, esz := 1 }) [M.take (M.length / 2), M.drop (M.length / 2)] := fun X k => by
      have no : ∀ {l : List UInt8} {s : Option Sl}, RS 1 E8 H0 s l → RS 1 E8 X s l := fun {l s} hr => hr.new E8_len (by decide) (kp_old (h.kp.trans kp1 (D := No) (fun _ h => h) fun _ _ h => h) (k.mono fun i _ hi => by
        rcases hi with hi | hi
        · exact h.up i hi.1
        · exact Nat.le_trans (Nat.le_trans h.kp.len kp1.len) hi)) fun _ _ h => h
      obtain ⟨sa', a1', a2', _⟩ := h5.sub0 E8_len (M.length / 2) (by omega)
      obtain ⟨sb', b1', b2', _⟩ := h5.subE E8_len (M.length / 2) (by omega)
      rw [a1] at a1'; cases a1'
      rw [b1] at b1'; cases b1'
      obtain ⟨ps, p1, p2, p3⟩ := hrs
      refine ⟨[sa, sb], ⟨rfl, rfl, Nat.le_refl _, fun i c e => ?_⟩, rfl, fun j p l e1 e2 => ?_⟩
      · have g0 : X[H.length]? = some (Blk.row [Cell.slice sa, Cell.slice sb] false) := k.at (push_get _ _) fun hi => by
          have hl : (H ++ [Blk.row [Cell.slice sa, Cell.slice sb] false]).length = H.length + 1 := by simp
          rcases hi with hi | hi <;> omega
        show X.get H.length (0 + i) = some c
        rw [za, get_of g0]; exact e
      · match j, e1, e2 with
        | 0, e1, e2 => cases e1; cases e2; exact no a2'
        | 1, e1, e2 => cases e1; cases e2; exact no b2'
        | j + 2, e1, e2 => simp at e1
    obtain ⟨H1, c1, c2, c3⟩ := f26_spec (rp_new h.rpF kp1) hrs (fun i hi => .inr hi) hst (by simp) (by rw [htot]; omega)
    rw [hflat] at c2
    have c2' := rp_mono c2 fun i _ => fn_back (ff_new H id) kp1 i
    have c3' : Kp (FF H id) H H1 := kp1.trans c3 (fun _ h => h.elim) fun i _ hi => fn_back (ff_new H id) kp1 i hi
    have h51 : RS 1 E8 H1 o5 M := h5.new E8_len (by decide) (kp_old h.kp (c3'.mono fun i _ => h.up i)) fun _ _ h => h
    obtain ⟨s3, H3, e1, e2, e3, e4⟩ := f47_spec (h.bK c3') h51 hf
    refine ⟨s3, _, H3, ?_, h.new c2' c3' (by rw [List.length_append]; exact hf) e2 e3 e4⟩
    simp only [k0, k1, cf, ct, gd, a1, b1, bs, h5'.esOkT, c1, e1]
  · have f := f26_full (rp_kp h.rpF kp1) h.len hrs (by simp) (by rw [htot]; omega)
    have e1 := f47_no (h.hb.new E8_len (by decide) kp1 fun _ _ h => h) (h5'.new E8_len (by decide) kp1 fun _ _ h => h) h.len (by simp [most]; omega) (by omega)
    refine ⟨b, B, _, ?_, h.grow kp1⟩
    simp only [k0, k1, cf, ct, gd, a1, b1, bs, h5'.esOkT, f, e1]
theorem grow2 {H0 H : Heap} {id : Nat} {b : Option Sl} {B : List UInt8} (h : I6 H0 H id b B) (o1 o2 o3 : Int) (o4 o5 : Option Sl) (S : ByteArray) (hS : S.size ≤ 40) :
    ∃ b' B' H2, f43 (some (id, 0)) b 2 o1 o2 o3 o4 o5 S H = some ((b', true), H2) ∧ I6 H0 H2 id b' B' := by
  have k0 : ((2 : Int) == 0) = false := by decide
  have k1 : ((2 : Int) == 1) = false := by decide
  have k2 : ((2 : Int) == 2) = true := by decide
  have kp1 : Kp No H (H ++ [Blk.row [Cell.str S, Cell.str { data := #[] }] false]) := Kp.push _ _ _
  have hx := rs2 (E := EStr) S { data := #[] } (.str S) (.str { data := #[] }) rfl rfl H
  obtain ⟨t1, t2, t3⟩ := f25_spec (rp_kp h.rpF kp1) h.len (fun i hi => ff_new H id i (by simp at hi; omega)) hx (by simp) (fun s hs => by
    rcases List.mem_cons.1 hs with rfl | hs
    · unfold most; omega
    · rw [List.mem_singleton.1 hs]; exact Nat.zero_le _)
  have hfl : (tparts [S, { data := #[] }]).flatten = S.data.toList ++ [0, 0] := by simp [tparts]
  have htot : total (tparts [S, { data := #[] }]) = S.size + 2 := by simp [tparts, total]
  have hSl : S.data.toList.length = S.size := by simp
  rw [htot] at t2 t3
  rw [q43]
  obtain ⟨n, hn⟩ : ∃ n, ∀ (e : Int) (X : Heap), LL43_15 b e 0 2 o1 o2 o3 o4 o5 S X = D43_15 (n + S.size + 1) b e 0 2 o1 o2 o3 o4 o5 S X := by
    refine ⟨big - S.size - 1, fun e X => ?_⟩
    obtain ⟨n, hn⟩ := LL43_15_of S.size (by omega) b e 0 2 o1 o2 o3 o4 o5 S X
    unfold LL43_15 D43_15 loopsD
    rw [hide_eq]
    unfold loops
    have : big - S.size - 1 + S.size + 1 = big := by unfold big; omega
    rw [this]
  by_cases hz : fi S.data.toList = none
  · have hall : ∀ s ∈ [S, { data := #[] }], fi s.data.toList = none := fun s hs => by
      rcases List.mem_cons.1 hs with rfl | hs
      · exact hz
      · rw [List.mem_singleton.1 hs]; rfl
    -- the text and two noughts, of the reference
    have txt : ∀ X : Heap, ∃ s3 X3, ((X ++ [Blk.row (bytesCells S) false] ++ [Blk.row [Cell.int IntKind.u8 0, Cell.int IntKind.u8 0] false]).append 1 1 (some { id := List.length X, off := 0, len := S.size, cap := S.size, esz := 1 }) (some { id := List.length (X ++ [Blk.row (bytesCells S) false]), off := 0, len := 2, cap := 2, esz := 1 })) = some (s3, X3) ∧ OS 1 E8 X3 s3 (S.data.toList ++ [0, 0]) ∧ Kp No X X3 := fun X => by
      have o1 : OS 1 E8 (X ++ [Blk.row (bytesCells S) false]) (some { id := List.length X, off := 0, len := S.size, cap := S.size, esz := 1 }) S.data.toList := by
        refine ⟨hSl.symm, rfl, Nat.le_refl _, _, push_get _ _, ?_, fun i c e => ?_⟩
        · rw [bytesCells_flat, flat_len E8_len]; simp
        · rw [za, bytesCells_flat]; exact e
      have kA : Kp No (X ++ [Blk.row (bytesCells S) false]) (X ++ [Blk.row (bytesCells S) false] ++ [Blk.row [Cell.int IntKind.u8 0, Cell.int IntKind.u8 0] false]) := Kp.push _ _ _
      obtain ⟨s3, X3, a1, a2, a3, a4⟩ := append_OS E8_len (by decide) (by' := 1) (o1.kp kA fun _ _ h => h) (rs2 (E := E8) 0 0 (Cell.int IntKind.u8 0) (Cell.int IntKind.u8 0) rfl rfl (X ++ [Blk.row (bytesCells S) false])) (by rw [hSl]; simp [most]; omega)
      exact ⟨s3, X3, a1, a2, ((Kp.push No X [Blk.row (bytesCells S) false]).trans kA (D := No) (fun _ h => h) fun _ _ h => h).trans a3 (fun _ h => h) fun i hi ⟨sl, e, e1⟩ => by cases e; exact absurd e1 (by show ¬ i = X.length; omega)⟩
    have gm : decide (S.size ≤ 17592186044416) = true := by simp; omega
    by_cases hf : S.size + 2 + B.length ≤ 1048576
    · obtain ⟨H1, c1, c2, c3⟩ := t3 hall hf
      rw [hfl] at c2
      have c3' : Kp (FF H id) H H1 := kp1.trans c3 (fun _ h => h.elim) fun _ _ h => h
      obtain ⟨_, j2⟩ := loop43_15 b 0 2 o1 o2 o3 o4 o5 S (by omega) H1 S.size n 0 (by omega)
      have j2 := j2 hz
      obtain ⟨s3, X3, x1, x2, x3⟩ := txt H1
      obtain ⟨s4, H4, e1, e2, e3, e4⟩ := f47_spec ((h.bK c3').new E8_len (by decide) x3 fun _ _ h => h) x2.rs (by rw [List.length_append, hSl]; simp; omega)
      have z0 : (true == ((0 : Int) == 0)) = true := by decide
      have l3 := x3.len
      refine ⟨s4, _, H4, ?_, h.new c2 c3' (by rw [List.length_append, List.length_append, hSl]; simp; omega) e2 (x3.trans e3 (fun _ h => h) fun _ _ h => h) fun sl e => Nat.le_trans l3 (e4 sl e)⟩
      simp only [k0, k1, k2, cf, ct, c1, bs, hn]
      refine bnd j2 ?_
      rw [J43_15_1]
      simp only [gm, ct, x1, bs, e1, z0]
    · obtain ⟨H1, c1, c2⟩ := t2 hall (by omega)
      have c3 : Kp No H H1 := kp1.trans c2 (fun _ h => h) fun _ _ h => h
      obtain ⟨_, j2⟩ := loop43_15 b 4 2 o1 o2 o3 o4 o5 S (by omega) H1 S.size n 0 (by omega)
      have j2 := j2 hz
      obtain ⟨s3, X3, x1, x2, x3⟩ := txt H1
      have e1 := f47_no ((h.hb.new E8_len (by decide) c3 fun _ _ h => h).new E8_len (by decide) x3 fun _ _ h => h) x2.rs h.len (by rw [List.length_append, hSl]; simp [most]; omega) (by rw [List.length_append, hSl]; simp; omega)
      have z0 : (false == ((4 : Int) == 0)) = true := by decide
      have z4 : ((4 : Int) == 4) = true := by decide
      refine ⟨b, B, X3, ?_, (h.grow c3).grow x3⟩
      simp only [k0, k1, k2, cf, ct, c1, bs, hn]
      refine bnd j2 ?_
      rw [J43_15_1]
      simp only [gm, ct, cf, x1, bs, e1, z0, z4]
  · obtain ⟨H1, c1, c2⟩ := t1 ⟨S, List.mem_cons_self .., hz⟩
    have c3 : Kp No H H1 := kp1.trans c2 (fun _ h => h) fun _ _ h => h
    obtain ⟨j1, _⟩ := loop43_15 b 2 2 o1 o2 o3 o4 o5 S (by omega) H1 S.size n 0 (by omega)
    have j1 := j1 hz
    refine ⟨b, B, H1, ?_, h.grow c3⟩
    simp only [k0, k1, k2, cf, ct, c1, bs, hn]
    refine bnd j1 ?_
    rw [J43_15_0]
    rfl
theorem grow3 {H0 H : Heap} {id : Nat} {b : Option Sl} {B : List UInt8} (h : I6 H0 H id b B) (o1 o2 o3 : Int) (o4 o5 : Option Sl) (S : ByteArray) :
    ∃ b' B' H2, f43 (some (id, 0)) b 3 o1 o2 o3 o4 o5 S H = some ((b', true), H2) ∧ I6 H0 H2 id b' B' := by
  have k0 : ((3 : Int) == 0) = false := by decide
  have k1 : ((3 : Int) == 1) = false := by decide
  have k2 : ((3 : Int) == 2) = false := by decide
  rw [q43]
  by_cases ha : o2 < 1 ∨ 65536 < o2
  · have f := f27_arg id o2 H ha
    refine ⟨b, B, H, ?_, h⟩
    by_cases h1 : o2 < 1
    · have e1 : decide (o2 < 1) = true := by simp; omega
      simp only [k0, k1, k2, cf, ct, f, bs, e1]; rfl
    · have e1 : decide (o2 < 1) = false := by simp; omega
      have e2 : decide (o2 > 65536) = true := by simp; omega
      simp only [k0, k1, k2, cf, ct, f, bs, e1, e2]; rfl
  · obtain ⟨t, rfl⟩ := Int.eq_ofNat_of_zero_le (show 0 ≤ o2 by omega)
    have e1 : decide ((t : Int) < 1) = false := by simp; omega
    have e2 : decide ((t : Int) > 65536) = false := by simp; omega
    obtain ⟨t1, t2⟩ := f27_spec h.rpF h.len (ff_new H id) t (by omega) (by omega)
    obtain ⟨p1, p2, p3⟩ := pad_spec B.length t (by omega)
    have zmake : ∀ X : Heap, ∃ s3 X3, X.make 1 1 [Cell.int IntKind.u8 0] ((padN B.length t : Nat) : Int) ((padN B.length t : Nat) : Int) = some (s3, X3) ∧ OS 1 E8 X3 s3 (List.replicate (padN B.length t) 0) ∧ Kp No X X3 := fun X => by
      obtain ⟨X3, m1, m2, m3, _⟩ := make_OS E8_len X 0 (padN B.length t) 1 (by unfold most; omega) (by unfold most; omega)
      exact ⟨_, X3, m1, m2, m3⟩
    by_cases hf : padN B.length t + B.length ≤ 1048576
    · obtain ⟨H1, c1, c2, c3⟩ := t2 hf
      obtain ⟨n, hn⟩ := LL43_25_of (padN B.length t) (by omega) b 0 0 3 o1 (t : Int) o3 o4 o5 S H1
      have j := loop43_25 b B (h.bK c3) h.len 0 3 o1 o3 t (by omega) (by omega) o4 o5 S (padN B.length t) n 0 (by omega)
      obtain ⟨s3, X3, x1, x2, x3⟩ := zmake H1
      obtain ⟨s4, H4, e3, e4, e5, e6⟩ := f47_spec ((h.bK c3).new E8_len (by decide) x3 fun _ _ h => h) x2.rs (by simp; omega)
      have z0 : (true == ((0 : Int) == 0)) = true := by decide
      have l3 := x3.len
      refine ⟨s4, _, H4, ?_, h.new c2 c3 (by simp; omega) e4 (x3.trans e5 (fun _ h => h) fun _ _ h => h) fun sl e => Nat.le_trans l3 (e6 sl e)⟩
      simp only [k0, k1, k2, cf, c1, bs, e1, e2, hn]
      refine bnd j ?_
      rw [J43_25_0]
      simp only [x1, bs, e3, z0, ct]
    · have f := t1 (by omega)
      obtain ⟨n, hn⟩ := LL43_25_of (padN B.length t) (by omega) b 4 0 3 o1 (t : Int) o3 o4 o5 S H
      have j := loop43_25 b B h.hb h.len 4 3 o1 o3 t (by omega) (by omega) o4 o5 S (padN B.length t) n 0 (by omega)
      obtain ⟨s3, X3, x1, x2, x3⟩ := zmake H
      have e3 := f47_no (h.hb.new E8_len (by decide) x3 fun _ _ h => h) x2.rs h.len (by simp [most]; omega) (by simp; omega)
      have z0 : (false == ((4 : Int) == 0)) = true := by decide
      have z4 : ((4 : Int) == 4) = true := by decide
      refine ⟨b, B, X3, ?_, h.grow x3⟩
      simp only [k0, k1, k2, cf, f, bs, e1, e2, hn]
      refine bnd j ?_
      rw [J43_25_0]
      simp only [x1, bs, e3, z0, z4, ct, cf]
/-! 30: rope_Rope_Cut -/
noncomputable def CC30 : Ctx := { P := Try.prog, own := [], fns := [(36, F36), (37, specF enc37 (sem37 f37))], nt := 31, nums := [36], live := [] }
theorem good30 : Callees Try.prog CC30.fns [] CC30.nums := ((Callees.nil Try.prog).cons ok37 (specF_nat _ _)).cons_num ok36 F36_num
theorem hN30 : CtxNat CC30 := good30.ctx rfl rfl rfl
abbrev Ty30 := (Option (Nat × Nat)) → Int → Int → Heap → Option (((Option Sl) × Int) × Heap)
def enc30 (r : (Option Sl) × Int) : List TV := [.c (Cell.slice (r.1)), .c (Cell.int .i64 (r.2))]
def dec30 : AV → Option ((Option Sl) × Int)
  | .tup [.c (Cell.slice q0), .c (Cell.int .i64 q1)] => some (q0, q1)
  | _ => none
theorem de30 (v : AV) (r : (Option Sl) × Int) (h : dec30 v = some r) : v = oneOf (enc30 r) := by
  unfold dec30 at h
  split at h
  · cases h; rfl
  · cases h
def sem30 (f : Ty30) : List TV → Heap → Option (((Option Sl) × Int) × Heap)
  | [.c (Cell.ptr r), .c (Cell.int .i64 x1), .c (Cell.int .i64 n)], H => f r x1 n H
  | _, _ => none
noncomputable def f30 : Ty30 := hide fun r x1 n H => fnA CC30 Try.f30.results.toList (bodyOf Try.f30) _ [.c (Cell.ptr r), .c (Cell.int .i64 x1), .c (Cell.int .i64 n)] H (decF dec30)
theorem f30_eq (r : (Option (Nat × Nat))) (x1 : Int) (n : Int) (H : Heap) : f30 r x1 n H = fnA CC30 Try.f30.results.toList (bodyOf Try.f30) _ [.c (Cell.ptr r), .c (Cell.int .i64 x1), .c (Cell.int .i64 n)] H (decF dec30) := by unfold f30; rw [hide_eq]
theorem f30_run (r : (Option (Nat × Nat))) (x1 : Int) (n : Int) (H : Heap) : f30 r x1 n H = fnL CC30 (lpD CC30) Try.f30.results.toList (bodyOf Try.f30) [.c (Cell.ptr r), .c (Cell.int .i64 x1), .c (Cell.int .i64 n)] H (decF dec30) := (f30_eq ..).trans (fnA_lpD hN30 ..)
theorem q30 : ∀ (r : Option (Nat × Nat)) (x1 n : Int) (H : Heap), f30 r x1 n H = bif r.isNone then some ((none, 1), H) else r.bind fun v7 => (H.get v7.fst (v7.snd + 0)).bind fun v6 => v6.toSlice.bind fun v5 => bif !rope_store_has v5 x1 n then some ((none, 7), H) else r.bind fun v4 => (H.get v4.fst (v4.snd + 0 + 0)).bind fun v3 => v3.toSlice.bind fun v2 => (Sl.sub v2 x1 (some (IntKind.i64.wrap (x1 + n)))).bind fun v1 => bif esOk v2 1 then (f37 v1 H).bind fun v0 => some ((v0.fst, 0), v0.snd) else none := by intros; exact (f30_run ..).trans (by kernel_rfl)
theorem ok30 : FnOk Try.prog 30 (specF enc30 (sem30 f30)) := by
  refine spec_ok (C := CC30) good30 rfl rfl rfl (by kernel_rfl) Try.func30 (c := bodyOf Try.f30) (by kernel_rfl) (by kernel_rfl) (Nat.le_of_eq Try.ntmps30.symm) dec30 enc30 de30 _ ?_
  intro args H q h
  unfold sem30 at h
  split at h
  · rw [← f30_eq]; exact h
  · cases h
theorem f30_no {F : Nat → Prop} {id : Nat} {b : List UInt8} {H : Heap} (hr : RP F H id b) (hb : b.length ≤ 1048576) (a n : Int) (hh : hasI b.length a n = false) : f30 (some (id, 0)) a n H = some ((none, 7), H) := by
  obtain ⟨s, r1, r2⟩ := rp_len hr
  have hh' := (has_eq r2 (by omega) a n).trans hh
  rw [q30]
  simp only [nsome, ct, cf, bs, az, r1, tSlice, hh', Bool.not_false]
theorem f30_spec {F : Nat → Prop} {id : Nat} {b : List UInt8} {H : Heap} (hr : RP F H id b) (hb : b.length ≤ 1048576) (a k : Nat) (hh : a + k ≤ b.length) : ∃ s' H', f30 (some (id, 0)) (a : Int) (k : Int) H = some ((s', 0), H') ∧ OS 1 E8 H' s' ((b.drop a).take k) ∧ Kp No H H' ∧ New H.length s' := by
  obtain ⟨s, r1, r2⟩ := rp_len hr
  have hh' : rope_store_has s (a : Int) (k : Int) = true := by rw [has_eq r2 (by omega)]; simp [hasI]; omega
  have g3 : IntKind.i64.wrap ((a : Int) + (k : Int)) = ((a + k : Nat) : Int) := by rw [wrap_i64 (by omega) (by omega)]; omega
  obtain ⟨s1, c1, c2, c3⟩ := r2.sub E8_len a (a + k) (by omega) hh
  rw [show a + k - a = k by omega] at c2
  obtain ⟨s', H', d1, d2, d3, d4⟩ := f37_spec s1 _ H c2 (by simp [most]; omega)
  refine ⟨s', H', ?_, d2, d3, d4⟩
  rw [q30]
  simp only [nsome, ct, cf, bs, az, r1, tSlice, hh', Bool.not_true, g3, c1, r2.esOkT, d1]
/-! 50: internal_bytealg_IndexByte -/
abbrev TyR50 := (Option Sl) → Int → Heap → Option (Int)
def enc50 (r : Int) : List TV := [.c (Cell.int .i64 (r))]
def semR50 (f : TyR50) : List TV → Heap → Option (Int)
  | [.c (Cell.slice x0), .c (Cell.int .u8 x1)], H => f x0 x1 H
  | _, _ => none
noncomputable def g50 : TyR50 := hide fun x0 x1 H => (H.str x0).map fun b => Lib.indexByte b.data.toList x1.toNat.toUInt8
theorem g50_eq (x0 : (Option Sl)) (x1 : Int) (H : Heap) : g50 x0 x1 H = (H.str x0).map fun b => Lib.indexByte b.data.toList x1.toNat.toUInt8 := by unfold g50; rw [hide_eq]
theorem okR50 : FnOk Try.prog 50 (readF enc50 (semR50 g50)) := readX_ok (idxB_ok Try.func50 (by kernel_rfl) (by kernel_rfl) (by kernel_rfl) (by kernel_rfl)) fun args H r h => by
  unfold semR50 at h
  split at h
  · rw [g50_eq] at h; exact h
  · cases h
/-! 45: bytes_IndexByte -/
noncomputable def CC45 : Ctx := { P := Try.prog, own := [], fns := [(50, readF enc50 (semR50 g50))], nt := 8, pures := [50], nums := [], live := [] }
theorem good45 : Callees Try.prog CC45.fns CC45.pures CC45.nums := (Callees.nil Try.prog).cons_pure okR50 (readF_pure _ _)
theorem hN45 : CtxNat CC45 := good45.ctx rfl rfl rfl
abbrev Ty45 := (Option Sl) → Int → Heap → Option (Int × Heap)
def enc45 (r : Int) : List TV := [.c (Cell.int .i64 (r))]
def dec45 : AV → Option (Int)
  | .c (Cell.int .i64 q0) => some (q0)
  | _ => none
theorem de45 (v : AV) (r : Int) (h : dec45 v = some r) : v = oneOf (enc45 r) := by
  unfold dec45 at h
  split at h
  · cases h; rfl
  · cases h
def sem45 (f : Ty45) : List TV → Heap → Option (Int × Heap)
  | [.c (Cell.slice b), .c (Cell.int .u8 c)], H => f b c H
  | _, _ => none
noncomputable def f45 : Ty45 := hide fun b c H => fnA CC45 Try.f45.results.toList (bodyOf Try.f45) _ [.c (Cell.slice b), .c (Cell.int .u8 c)] H (decF dec45)
theorem f45_eq (b : (Option Sl)) (c : Int) (H : Heap) : f45 b c H = fnA CC45 Try.f45.results.toList (bodyOf Try.f45) _ [.c (Cell.slice b), .c (Cell.int .u8 c)] H (decF dec45) := by unfold f45; rw [hide_eq]
theorem f45_run (b : (Option Sl)) (c : Int) (H : Heap) : f45 b c H = fnL CC45 (lpD CC45) Try.f45.results.toList (bodyOf Try.f45) [.c (Cell.slice b), .c (Cell.int .u8 c)] H (decF dec45) := (f45_eq ..).trans (fnA_lpD hN45 ..)
theorem q45 : ∀ (b : Option Sl) (c : Int) (H : Heap), f45 b c H = (g50 b c H).bind fun v0 => some (v0, H) := by intros; exact (f45_run ..).trans (by kernel_rfl)
theorem ok45 : FnOk Try.prog 45 (specF enc45 (sem45 f45)) := by
  refine spec_ok (C := CC45) good45 rfl rfl rfl (by kernel_rfl) Try.func45 (c := bodyOf Try.f45) (by kernel_rfl) (by kernel_rfl) (Nat.le_of_eq Try.ntmps45.symm) dec45 enc45 de45 _ ?_
  intro args H q h
  unfold sem45 at h
  split at h
  · rw [← f45_eq]; exact h
  · cases h
theorem f45_spec {H : Heap} {s : Option Sl} {l : List UInt8} (h : RS 1 E8 H s l) : f45 s 0 H = some ((match fi l with | some i => (i : Int) | none => -1), H) := by
  rw [q45]
  refine bnd (a := match fi l with | some i => (i : Int) | none => -1) ?_ rfl
  rw [g50_eq, h.str, ← idx_fi l]
  rfl
/-! 31: rope_Rope_Str -/
noncomputable def CC31 : Ctx := { P := Try.prog, own := [], fns := [(36, F36), (45, specF enc45 (sem45 f45))], nt := 47, nums := [36], live := [] }
theorem good31 : Callees Try.prog CC31.fns [] CC31.nums := ((Callees.nil Try.prog).cons ok45 (specF_nat _ _)).cons_num ok36 F36_num
theorem hN31 : CtxNat CC31 := good31.ctx rfl rfl rfl
abbrev Ty31 := (Option (Nat × Nat)) → Int → Int → Heap → Option ((ByteArray × Int) × Heap)
def enc31 (r : ByteArray × Int) : List TV := [.c (Cell.str (r.1)), .c (Cell.int .i64 (r.2))]
def dec31 : AV → Option (ByteArray × Int)
  | .tup [.c (Cell.str q0), .c (Cell.int .i64 q1)] => some (q0, q1)
  | _ => none
theorem de31 (v : AV) (r : ByteArray × Int) (h : dec31 v = some r) : v = oneOf (enc31 r) := by
  unfold dec31 at h
  split at h
  · cases h; rfl
  · cases h
def sem31 (f : Ty31) : List TV → Heap → Option ((ByteArray × Int) × Heap)
  | [.c (Cell.ptr r), .c (Cell.int .i64 x1), .c (Cell.int .i64 x2)], H => f r x1 x2 H
  | _, _ => none
noncomputable def f31 : Ty31 := hide fun r x1 x2 H => fnA CC31 Try.f31.results.toList (bodyOf Try.f31) _ [.c (Cell.ptr r), .c (Cell.int .i64 x1), .c (Cell.int .i64 x2)] H (decF dec31)
theorem f31_eq (r : (Option (Nat × Nat))) (x1 : Int) (x2 : Int) (H : Heap) : f31 r x1 x2 H = fnA CC31 Try.f31.results.toList (bodyOf Try.f31) _ [.c (Cell.ptr r), .c (Cell.int .i64 x1), .c (Cell.int .i64 x2)] H (decF dec31) := by unfold f31; rw [hide_eq]
theorem f31_run (r : (Option (Nat × Nat))) (x1 : Int) (x2 : Int) (H : Heap) : f31 r x1 x2 H = fnL CC31 (lpD CC31) Try.f31.results.toList (bodyOf Try.f31) [.c (Cell.ptr r), .c (Cell.int .i64 x1), .c (Cell.int .i64 x2)] H (decF dec31) := (f31_eq ..).trans (fnA_lpD hN31 ..)
theorem q31 : ∀ (r : Option (Nat × Nat)) (x1 x2 : Int) (H : Heap), f31 r x1 x2 H = bif r.isNone then some (({ data := #[] }, 1), H) else r.bind fun v12 => (H.get v12.fst (v12.snd + 0)).bind fun v11 => v11.toSlice.bind fun v10 => bif !rope_store_has v10 x1 0 then some (({ data := #[] }, 7), H) else r.bind fun v9 => (H.get v9.fst (v9.snd + 0 + 0)).bind fun v8 => v8.toSlice.bind fun v7 => (Sl.sub v7 x1 none).bind fun v6 => bif esOk v7 1 then (f45 v6 0 H).bind fun v5 => bif decide (v5.fst < 0) then some (({ data := #[] }, 7), v5.snd) else bif decide (v5.fst > mm Builtin.max x2 0) then some (({ data := #[] }, 6), v5.snd) else r.bind fun v4 => (v5.snd.get v4.fst (v4.snd + 0 + 0)).bind fun v3 => v3.toSlice.bind fun v2 => (Sl.sub v2 x1 (some (IntKind.i64.wrap (x1 + v5.fst)))).bind fun v1 => bif esOk v2 1 then (v5.snd.str v1).bind fun v0 => some ((v0, 0), v5.snd) else none else none := by intros; exact (f31_run ..).trans (by kernel_rfl)
theorem ok31 : FnOk Try.prog 31 (specF enc31 (sem31 f31)) := by
  refine spec_ok (C := CC31) good31 rfl rfl rfl (by kernel_rfl) Try.func31 (c := bodyOf Try.f31) (by kernel_rfl) (by kernel_rfl) (Nat.le_of_eq Try.ntmps31.symm) dec31 enc31 de31 _ ?_
  intro args H q h
  unfold sem31 at h
  split at h
  · rw [← f31_eq]; exact h
  · cases h
/-- A text that ends with a nought. -/
def strR (l : List UInt8) (a m : Int) : ByteArray × Int :=
  bif hasI l.length a 0 then (match fi (l.drop a.toNat) with
    | none => ({ data := #[] }, 7)
    | some k => bif decide ((k : Int) > mm Builtin.max m 0) then ({ data := #[] }, 6) else (⟨((l.drop a.toNat).take k).toArray⟩, 0)) else ({ data := #[] }, 7)
theorem fi_lt : ∀ {l : List UInt8} {k : Nat}, fi l = some k → k < l.length
  | [], k, h => by cases h
  | b :: l, k, h => by
    unfold fi at h
    cases hb : (b == 0) with
    | true => rw [hb] at h; cases h; simp
    | false =>
      rw [hb, cond_false, Option.map_eq_some_iff] at h
      obtain ⟨j, h1, rfl⟩ := h
      have := fi_lt h1
      simp; omega
theorem f31_spec {F : Nat → Prop} {id : Nat} {b : List UInt8} {H : Heap} (hr : RP F H id b) (hb : b.length ≤ 1048576) (a m : Int) : f31 (some (id, 0)) a m H = some (strR b a m, H) := by
  obtain ⟨s, r1, r2⟩ := rp_len hr
  have hh := has_eq r2 (by omega) a 0
  rw [q31]
  unfold strR
  cases hc : hasI b.length a 0 with
  | false =>
    rw [hc] at hh
    simp only [nsome, ct, cf, bs, az, r1, tSlice, hh, Bool.not_false]
  | true =>
    rw [hc] at hh
    have ha : 0 ≤ a ∧ a ≤ b.length := by simp only [hasI, Bool.and_eq_true, decide_eq_true_eq] at hc; omega
    obtain ⟨k, rfl⟩ := Int.eq_ofNat_of_zero_le ha.1
    obtain ⟨s1, c1, c2, c3⟩ := r2.subE E8_len k (by omega)
    have h45 := f45_spec c2
    rw [Int.toNat_natCast]
    cases hfi : fi (b.drop k) with
    | none =>
      rw [hfi] at h45
      have hn : decide ((-1 : Int) < 0) = true := by decide
      simp only [nsome, ct, cf, bs, az, r1, tSlice, hh, Bool.not_true, c1, r2.esOkT, h45, hn]
    | some j =>
      rw [hfi] at h45
      have hj := fi_lt hfi
      rw [List.length_drop] at hj
      have hn : decide ((j : Int) < 0) = false := decide_eq_false (by omega)
      have g3 : IntKind.i64.wrap ((k : Int) + (j : Int)) = ((k + j : Nat) : Int) := by rw [wrap_i64 (by omega) (by omega)]; omega
      obtain ⟨s2, e1, e2, _⟩ := r2.sub E8_len k (k + j) (by omega) (by omega)
      rw [show k + j - k = j by omega] at e2
      cases hd : decide ((j : Int) > mm Builtin.max m 0) <;>
        simp only [nsome, ct, cf, bs, az, r1, tSlice, hh, Bool.not_true, c1, r2.esOkT, h45, hn, hd, g3, e1, e2.str]
/-! 49: R2_Nought -/
noncomputable def CC49 : Ctx := { P := Try.prog, own := [], fns := [], nt := 19, nums := [], live := [(2, ⟨[0, 5], [], [4], []⟩)] }
theorem good49 : Callees Try.prog CC49.fns [] CC49.nums := Callees.nil Try.prog
theorem hN49 : CtxNat CC49 := good49.ctx rfl rfl rfl
abbrev Ty49 := (Option Sl) → Int → Heap → Option (Int × Heap)
def enc49 (r : Int) : List TV := [.c (Cell.int .i64 (r))]
def dec49 : AV → Option (Int)
  | .c (Cell.int .i64 q0) => some (q0)
  | _ => none
theorem de49 (v : AV) (r : Int) (h : dec49 v = some r) : v = oneOf (enc49 r) := by
  unfold dec49 at h
  split at h
  · cases h; rfl
  · cases h
def sem49 (f : Ty49) : List TV → Heap → Option (Int × Heap)
  | [.c (Cell.slice b), .c (Cell.int .i64 x1)], H => f b x1 H
  | _, _ => none
noncomputable def f49 : Ty49 := hide fun b x1 H => fnA CC49 Try.f49.results.toList (bodyOf Try.f49) _ [.c (Cell.slice b), .c (Cell.int .i64 x1)] H (decF dec49)
theorem f49_eq (b : (Option Sl)) (x1 : Int) (H : Heap) : f49 b x1 H = fnA CC49 Try.f49.results.toList (bodyOf Try.f49) _ [.c (Cell.slice b), .c (Cell.int .i64 x1)] H (decF dec49) := by unfold f49; rw [hide_eq]
theorem f49_run (b : (Option Sl)) (x1 : Int) (H : Heap) : f49 b x1 H = fnL CC49 (lpD CC49) Try.f49.results.toList (bodyOf Try.f49) [.c (Cell.slice b), .c (Cell.int .i64 x1)] H (decF dec49) := (f49_eq ..).trans (fnA_lpD hN49 ..)
def S49_2 (t0 : (Option Sl)) (t5 : Int) (H : Heap) : St := ⟨[(0, .c (Cell.slice t0)), (5, .c (Cell.int .i64 t5))], [], H⟩
noncomputable def D49_2 (n : Nat) (t0 : (Option Sl)) (t5 : Int) (H : Heap) : Option (AExit × St) := loopN (exec CC49 (Code.l (Code.l (Code.r (Code.l (Code.r (bodyOf Try.f49))))))) (keepOf CC49.live (Code.l (Code.l (Code.r (Code.l (Code.r (bodyOf Try.f49))))))) n (S49_2 t0 t5 H) retD
noncomputable def LL49_2 (t0 : (Option Sl)) (t5 : Int) (H : Heap) : Option (AExit × St) := loopsD CC49 (Code.l (Code.l (Code.r (Code.l (Code.r (bodyOf Try.f49)))))) (S49_2 t0 t5 H)
theorem LL49_2_of (m : Nat) (hm : m < 18446744073709551616) (t0 : (Option Sl)) (t5 : Int) (H : Heap) : ∃ n, LL49_2 t0 t5 H = D49_2 (n + m + 1) t0 t5 H := loopsD_of _ _ _ m hm
def X49_2 (x0 : Int) (H : Heap) : St := { env := [(4, AV.c (Cell.int IntKind.i64 x0))], loc := [], heap := H }
def X49_2a (H : Heap) : St := { env := [], loc := [], heap := H }
noncomputable def J49_2 : AExit × St → Option (Int × Heap) := fun p => blockK 0 (seqK (execL CC49 (lpD CC49) (Code.r (Code.r (bodyOf Try.f49)))) (retA CC49 [ResultVar.tmp 4] (decF dec49))) p.fst p.snd
theorem D49_2_s : ∀ (n : Nat) (t0 : Option Sl) (t5 : Int) (H : Heap), D49_2 (n + 1) t0 t5 H = bif decide (t5 < slen t0) then t0.bind fun v2 => bif inb t5 v2.len && v2.esz == 1 then (H.get v2.id (v2.off + t5.toNat * 1)).bind fun v1 => (Cell.toInt IntKind.u8 v1).bind fun v0 => bif v0 == 0 then some (AExit.ret, X49_2 t5 H) else D49_2 n t0 (IntKind.i64.wrap (t5 + 1)) H else none else some (AExit.exit 0, X49_2a H) := by intros; exact (loopN_stepD hN49 _ _ _ _).trans (by kernel_rfl)
theorem q49 : ∀ (b : Option Sl) (x1 : Int) (H : Heap), f49 b x1 H = (LL49_2 b x1 H).bind J49_2 := by intros; exact (f49_run ..).trans (by kernel_rfl)
theorem J49_2_0 : ∀ (x0 : Int) (H : Heap), J49_2 (AExit.ret, X49_2 x0 H) = some (x0, H) := by intros; kernel_rfl
theorem J49_2_1 : ∀ (H : Heap), J49_2 (AExit.exit 0, X49_2a H) = some (-1, H) := by intros; kernel_rfl
theorem ok49 : FnOk Try.prog 49 (specF enc49 (sem49 f49)) := by
  refine spec_ok (C := CC49) good49 rfl rfl rfl (by kernel_rfl) Try.func49 (c := bodyOf Try.f49) (by kernel_rfl) (by kernel_rfl) (Nat.le_of_eq Try.ntmps49.symm) dec49 enc49 de49 _ ?_
  intro args H q h
  unfold sem49 at h
  split at h
  · rw [← f49_eq]; exact h
  · cases h
theorem loop49 {H : Heap} {s : Option Sl} {l : List UInt8} (h : RS 1 E8 H s l) (hl : l.length ≤ 1048576) : ∀ (m n i : Nat), i + m = l.length →
    (∀ k, fi (l.drop i) = some k → D49_2 (n + m + 1) s (i : Int) H = some (.ret, X49_2 ((i + k : Nat) : Int) H)) ∧ (fi (l.drop i) = none → D49_2 (n + m + 1) s (i : Int) H = some (.exit 0, X49_2a H))
  | 0, n, i, hi => by
    have g : decide ((i : Int) < slen s) = false := by rw [h.slenEq]; simp; omega
    have e : l.drop i = [] := List.drop_eq_nil_of_le (by omega)
    rw [e]
    exact ⟨(fun k e => nomatch e), fun _ => by rw [D49_2_s, g, cf]⟩
  | m + 1, n, i, hi => by
    have hil : i < l.length := by omega
    have hb : l[i]? = some l[i] := List.getElem?_eq_getElem hil
    have h0 := h
    obtain ⟨sl, rfl, g2, g4⟩ := h.idx1 hb (e := fun b => .int .u8 (b.toNat : Int)) fun _ => rfl
    have g : decide ((i : Int) < slen (some sl)) = true := by rw [h0.slenEq]; simp; omega
    have g3 : IntKind.i64.wrap ((i : Int) + 1) = ((i + 1 : Nat) : Int) := by rw [wrap_i64 (by omega) (by omega)]; omega
    have hd : l.drop i = l[i] :: l.drop (i + 1) := List.drop_eq_getElem_cons hil
    obtain ⟨j1, j2⟩ := loop49 h0 hl m n (i + 1) (by omega)
    rw [show n + (m + 1) + 1 = (n + m + 1) + 1 by omega, D49_2_s, g, hd]
    unfold fi
    cases hz : (l[i] == 0) with
    | true =>
      have hz' : (((l[i].toNat : Nat) : Int) == 0) = true := by rw [eq_of_beq hz]; rfl
      refine ⟨fun k e => ?_, fun e => by cases e⟩
      cases e
      simp only [ct, bs, g2, g4, tInt, hz']
      rfl
    | false =>
      have hz' : (((l[i].toNat : Nat) : Int) == 0) = false := by
        simp only [beq_eq_false_iff_ne, ne_eq] at hz ⊢
        intro e
        exact hz (UInt8.toNat_inj.1 (by simpa using e))
      simp only [ct, cf, bs, g2, g3, g4, tInt, hz', cond_false]
      refine ⟨fun k e => ?_, fun e => ?_⟩
      · rw [Option.map_eq_some_iff] at e
        obtain ⟨k', e1, rfl⟩ := e
        rw [j1 k' e1, show i + (k' + 1) = i + 1 + k' by omega]
      · rw [Option.map_eq_none_iff] at e
        exact j2 e
theorem f49_spec {H : Heap} {s : Option Sl} {l : List UInt8} (h : RS 1 E8 H s l) (hl : l.length ≤ 1048576) (i : Nat) (hi : i ≤ l.length) : f49 s (i : Int) H = some ((match fi (l.drop i) with | some k => ((i + k : Nat) : Int) | none => -1), H) := by
  obtain ⟨n, hn⟩ := LL49_2_of (l.length - i) (by omega) s (i : Int) H
  obtain ⟨j1, j2⟩ := loop49 h hl (l.length - i) n i (by omega)
  rw [q49, hn]
  cases hf : fi (l.drop i) with
  | none => exact bnd (j2 hf) (J49_2_1 _)
  | some k => exact bnd (j1 k hf) (J49_2_0 _ _)
/-! 44: R2_Str -/
noncomputable def CC44 : Ctx := { P := Try.prog, own := [], fns := [(49, specF enc49 (sem49 f49))], nt := 38, nums := [], live := [] }
theorem good44 : Callees Try.prog CC44.fns [] CC44.nums := (Callees.nil Try.prog).cons ok49 (specF_nat _ _)
theorem hN44 : CtxNat CC44 := good44.ctx rfl rfl rfl
abbrev Ty44 := (Option Sl) → Int → Int → Heap → Option ((ByteArray × Int) × Heap)
def enc44 (r : ByteArray × Int) : List TV := [.c (Cell.str (r.1)), .c (Cell.int .i64 (r.2))]
def dec44 : AV → Option (ByteArray × Int)
  | .tup [.c (Cell.str q0), .c (Cell.int .i64 q1)] => some (q0, q1)
  | _ => none
theorem de44 (v : AV) (r : ByteArray × Int) (h : dec44 v = some r) : v = oneOf (enc44 r) := by
  unfold dec44 at h
  split at h
  · cases h; rfl
  · cases h
def sem44 (f : Ty44) : List TV → Heap → Option ((ByteArray × Int) × Heap)
  | [.c (Cell.slice b), .c (Cell.int .i64 x1), .c (Cell.int .i64 n)], H => f b x1 n H
  | _, _ => none
noncomputable def f44 : Ty44 := hide fun b x1 n H => fnA CC44 Try.f44.results.toList (bodyOf Try.f44) _ [.c (Cell.slice b), .c (Cell.int .i64 x1), .c (Cell.int .i64 n)] H (decF dec44)
theorem f44_eq (b : (Option Sl)) (x1 : Int) (n : Int) (H : Heap) : f44 b x1 n H = fnA CC44 Try.f44.results.toList (bodyOf Try.f44) _ [.c (Cell.slice b), .c (Cell.int .i64 x1), .c (Cell.int .i64 n)] H (decF dec44) := by unfold f44; rw [hide_eq]
theorem f44_run (b : (Option Sl)) (x1 : Int) (n : Int) (H : Heap) : f44 b x1 n H = fnL CC44 (lpD CC44) Try.f44.results.toList (bodyOf Try.f44) [.c (Cell.slice b), .c (Cell.int .i64 x1), .c (Cell.int .i64 n)] H (decF dec44) := (f44_eq ..).trans (fnA_lpD hN44 ..)
theorem q44 : ∀ (b : Option Sl) (x1 n : Int) (H : Heap), f44 b x1 n H = bif decide (x1 < 0) then some (({ data := #[] }, 7), H) else bif decide (x1 > slen b) then some (({ data := #[] }, 7), H) else (f49 b x1 H).bind fun v6 => bif decide (v6.fst < 0) then some (({ data := #[] }, 7), v6.snd) else bif decide (n < 0) then (f49 b x1 v6.snd).bind fun v2 => bif decide (IntKind.i64.wrap (v2.fst - x1) > 0) then some (({ data := #[] }, 6), v2.snd) else (Sl.sub b x1 (some v2.fst)).bind fun v1 => bif esOk b 1 then (v2.snd.str v1).bind fun v0 => some ((v0, 0), v2.snd) else none else (f49 b x1 v6.snd).bind fun v5 => bif decide (IntKind.i64.wrap (v5.fst - x1) > n) then some (({ data := #[] }, 6), v5.snd) else (Sl.sub b x1 (some v5.fst)).bind fun v4 => bif esOk b 1 then (v5.snd.str v4).bind fun v3 => some ((v3, 0), v5.snd) else none := by intros; exact (f44_run ..).trans (by kernel_rfl)
theorem ok44 : FnOk Try.prog 44 (specF enc44 (sem44 f44)) := by
  refine spec_ok (C := CC44) good44 rfl rfl rfl (by kernel_rfl) Try.func44 (c := bodyOf Try.f44) (by kernel_rfl) (by kernel_rfl) (Nat.le_of_eq Try.ntmps44.symm) dec44 enc44 de44 _ ?_
  intro args H q h
  unfold sem44 at h
  split at h
  · rw [← f44_eq]; exact h
  · cases h
theorem f44_spec {H : Heap} {s : Option Sl} {l : List UInt8} (h : RS 1 E8 H s l) (hl : l.length ≤ 1048576) (a m : Int) : f44 s a m H = some (strR l a m, H) := by
  rw [q44]
  unfold strR
  by_cases h0 : a < 0
  · have e1 : decide (a < 0) = true := by simp; omega
    have e2 : hasI l.length a 0 = false := by simp [hasI]; omega
    simp only [e1, e2, ct, cf]
  have e1 : decide (a < 0) = false := by simp; omega
  by_cases h1 : (l.length : Int) < a
  · have e2 : decide (a > slen s) = true := by rw [h.slenEq]; simp; omega
    have e3 : hasI l.length a 0 = false := by simp [hasI]; omega
    simp only [e1, e2, e3, ct, cf]
  have e2 : decide (a > slen s) = false := by rw [h.slenEq]; simp; omega
  have e3 : hasI l.length a 0 = true := by simp [hasI]; omega
  obtain ⟨k, rfl⟩ := Int.eq_ofNat_of_zero_le (show 0 ≤ a by omega)
  have h49 := f49_spec h hl k (by omega)
  rw [Int.toNat_natCast]
  cases hfi : fi (l.drop k) with
  | none =>
    rw [hfi] at h49
    have hn : decide ((-1 : Int) < 0) = true := by decide
    simp only [e1, e2, e3, ct, cf, h49, bs, hn]
  | some j =>
    rw [hfi] at h49
    have hj := fi_lt hfi
    rw [List.length_drop] at hj
    have hn : decide (((k + j : Nat) : Int) < 0) = false := decide_eq_false (by omega)
    have g3 : IntKind.i64.wrap (((k + j : Nat) : Int) - (k : Int)) = (j : Int) := by rw [wrap_i64 (by omega) (by omega)]; omega
    obtain ⟨s2, e4, e5, _⟩ := h.sub E8_len k (k + j) (by omega) (by omega)
    rw [show k + j - k = j by omega] at e5
    by_cases hm : m < 0
    · have gm : decide (m < 0) = true := by simp; omega
      have g0 : mm Builtin.max m 0 = 0 := by simp only [mm]; split <;> omega
      cases hd : decide ((j : Int) > 0) <;> simp only [e1, e2, e3, ct, cf, h49, bs, hn, gm, g0, g3, hd, e4, h.esOkT, e5.str]
    · have gm : decide (m < 0) = false := by simp; omega
      have g0 : mm Builtin.max m 0 = m := by simp only [mm]; split <;> omega
      cases hd : decide ((j : Int) > m) <;> simp only [e1, e2, e3, ct, cf, h49, bs, hn, gm, g0, g3, hd, e4, h.esOkT, e5.str]
/-! 28: L02_step -/
noncomputable def CC28 : Ctx := { P := Try.prog, own := [5], fns := [(8, F8), (20, F20), (44, specF enc44 (sem44 f44)), (31, specF enc31 (sem31 f31)), (30, specF enc30 (sem30 f30)), (14, specF enc14 (sem14 f14)), (16, specF enc16 (sem16 f16)), (15, specF enc15 (sem15 f15)), (32, specF enc32 (sem32 f32)), (43, specF enc43 (sem43 f43)), (42, specF enc42 (sem42 f42))], nt := 218, nums := [8, 20], live := [] }
theorem good28 : Callees Try.prog CC28.fns [] CC28.nums := (((((((((((Callees.nil Try.prog).cons ok42 (specF_nat _ _)).cons ok43 (specF_nat _ _)).cons ok32 (specF_nat _ _)).cons ok15 (specF_nat _ _)).cons ok16 (specF_nat _ _)).cons ok14 (specF_nat _ _)).cons ok30 (specF_nat _ _)).cons ok31 (specF_nat _ _)).cons ok44 (specF_nat _ _)).cons_num ok20 F20_num).cons_num ok8 F8_num
theorem hN28 : CtxNat CC28 := good28.ctx rfl rfl rfl
abbrev Ty28 := (Option (Nat × Nat)) → (Option Sl) → Int → Int → Int → Int → (Option Sl) → (Option Sl) → ByteArray → Heap → Option (((Option Sl) × Bool) × Heap)
def enc28 (r : (Option Sl) × Bool) : List TV := [.c (Cell.slice (r.1)), .c (Cell.bool (r.2))]
def dec28 : AV → Option ((Option Sl) × Bool)
  | .tup [.c (Cell.slice q0), .c (Cell.bool q1)] => some (q0, q1)
  | _ => none
theorem de28 (v : AV) (r : (Option Sl) × Bool) (h : dec28 v = some r) : v = oneOf (enc28 r) := by
  unfold dec28 at h
  split at h
  · cases h; rfl
  · cases h
def sem28 (f : Ty28) : List TV → Heap → Option (((Option Sl) × Bool) × Heap)
  | [.c (Cell.ptr r), .c (Cell.slice b), .agg [Cell.int .i64 o0, Cell.int .i64 o1, Cell.int .i64 o2, Cell.int .i64 o3, Cell.slice o4, Cell.slice o5, Cell.str o6]], H => f r b o0 o1 o2 o3 o4 o5 o6 H
  | _, _ => none
noncomputable def f28 : Ty28 := hide fun r b o0 o1 o2 o3 o4 o5 o6 H => fnA CC28 Try.f28.results.toList (bodyOf Try.f28) _ [.c (Cell.ptr r), .c (Cell.slice b), .agg [Cell.int .i64 o0, Cell.int .i64 o1, Cell.int .i64 o2, Cell.int .i64 o3, Cell.slice o4, Cell.slice o5, Cell.str o6]] H (decF dec28)
theorem f28_eq (r : (Option (Nat × Nat))) (b : (Option Sl)) (o0 : Int) (o1 : Int) (o2 : Int) (o3 : Int) (o4 : (Option Sl)) (o5 : (Option Sl)) (o6 : ByteArray) (H : Heap) : f28 r b o0 o1 o2 o3 o4 o5 o6 H = fnA CC28 Try.f28.results.toList (bodyOf Try.f28) _ [.c (Cell.ptr r), .c (Cell.slice b), .agg [Cell.int .i64 o0, Cell.int .i64 o1, Cell.int .i64 o2, Cell.int .i64 o3, Cell.slice o4, Cell.slice o5, Cell.str o6]] H (decF dec28) := by unfold f28; rw [hide_eq]
theorem f28_run (r : (Option (Nat × Nat))) (b : (Option Sl)) (o0 : Int) (o1 : Int) (o2 : Int) (o3 : Int) (o4 : (Option Sl)) (o5 : (Option Sl)) (o6 : ByteArray) (H : Heap) : f28 r b o0 o1 o2 o3 o4 o5 o6 H = fnL CC28 (lpD CC28) Try.f28.results.toList (bodyOf Try.f28) [.c (Cell.ptr r), .c (Cell.slice b), .agg [Cell.int .i64 o0, Cell.int .i64 o1, Cell.int .i64 o2, Cell.int .i64 o3, Cell.slice o4, Cell.slice o5, Cell.str o6]] H (decF dec28) := (f28_eq ..).trans (fnA_lpD hN28 ..)
theorem q28 : ∀ (r : Option (Nat × Nat)) (b : Option Sl) (o0 o1 o2 o3 : Int) (o4 o5 : Option Sl) (o6 : ByteArray) (H : Heap), f28 r b o0 o1 o2 o3 o4 o5 o6 H = (f42 o0 o1 o2 o3 o4 o5 o6 H).bind fun v108 => bif v108.fst.fst == 0 then bif v108.fst.fst == 0 then (f43 r b v108.fst.fst v108.fst.snd.fst v108.fst.snd.snd.fst v108.fst.snd.snd.snd.fst v108.fst.snd.snd.snd.snd.fst v108.fst.snd.snd.snd.snd.snd.fst v108.fst.snd.snd.snd.snd.snd.snd v108.snd).bind fun v0 => some ((v0.fst.fst, v0.fst.snd), v0.snd) else bif v108.fst.fst == 4 then bif decide (slen v108.fst.snd.snd.snd.snd.fst > 0) then v108.fst.snd.snd.snd.snd.fst.bind fun v10 => bif inb 0 v10.len && v10.esz == 1 then (v108.snd.get v10.id (v10.off + 0)).bind fun v9 => (Cell.toInt IntKind.u64 v9).bind fun v8 => (f32 r v108.fst.snd.snd.fst v108.fst.snd.fst v8 v108.snd).bind fun v7 => bif !R2_Is v108.fst.snd.fst then some ((b, v7.fst == 2), v7.snd) else bif !R2_Has b v108.fst.snd.snd.fst v108.fst.snd.fst then some ((b, v7.fst == 7), v7.snd) else (Sl.sub b 0 (some v108.fst.snd.snd.fst)).bind fun v6 => bif esOk b 1 then ((v7.snd ++ [Blk.row [] false]).append 1 1 (some { id := List.length v7.snd, off := 0, len := 0, cap := 0, esz := 1 }) v6).bind fun v5 => (f15 v108.fst.snd.fst v8 v5.snd).bind fun v4 => (v4.snd.append 1 1 v5.fst v4.fst).bind fun v3 => (Sl.sub b (IntKind.i64.wrap (v108.fst.snd.snd.fst + v108.fst.snd.fst)) none).bind fun v2 => bif esOk b 1 then (v3.snd.append 1 1 v3.fst v2).bind fun v1 => some ((v1.fst, v7.fst == 0), v1.snd) else none else none else none else (f32 r v108.fst.snd.snd.fst v108.fst.snd.fst 0 v108.snd).bind fun v17 => bif !R2_Is v108.fst.snd.fst then some ((b, v17.fst == 2), v17.snd) else bif !R2_Has b v108.fst.snd.snd.fst v108.fst.snd.fst then some ((b, v17.fst == 7), v17.snd) else (Sl.sub b 0 (some v108.fst.snd.snd.fst)).bind fun v16 => bif esOk b 1 then ((v17.snd ++ [Blk.row [] false]).append 1 1 (some { id := List.length v17.snd, off := 0, len := 0, cap := 0, esz := 1 }) v16).bind fun v15 => (f15 v108.fst.snd.fst 0 v15.snd).bind fun v14 => (v14.snd.append 1 1 v15.fst v14.fst).bind fun v13 => (Sl.sub b (IntKind.i64.wrap (v108.fst.snd.snd.fst + v108.fst.snd.fst)) none).bind fun v12 => bif esOk b 1 then (v13.snd.append 1 1 v13.fst v12).bind fun v11 => some ((v11.fst, v17.fst == 0), v11.snd) else none else none else bif v108.fst.fst == 5 then (f16 r v108.fst.snd.snd.fst v108.fst.snd.fst v108.snd).bind fun v20 => bif !R2_Is v108.fst.snd.fst then bif v20.fst.snd == 2 then some ((b, v20.fst.fst == 0), v20.snd) else some ((b, false), v20.snd) else bif !R2_Has b v108.fst.snd.snd.fst v108.fst.snd.fst then bif v20.fst.snd == 7 then some ((b, v20.fst.fst == 0), v20.snd) else some ((b, false), v20.snd) else bif v20.fst.snd == 0 then (Sl.sub b v108.fst.snd.snd.fst (some (IntKind.i64.wrap (v108.fst.snd.snd.fst + v108.fst.snd.fst)))).bind fun v19 => bif esOk b 1 then (f14 v19 v20.snd).bind fun v18 => some ((b, v20.fst.fst == v18.fst), v18.snd) else none else some ((b, false), v20.snd) else bif v108.fst.fst == 6 then (f30 r v108.fst.snd.snd.fst v108.fst.snd.snd.snd.fst v108.snd).bind fun v24 => bif !R2_Has b v108.fst.snd.snd.fst v108.fst.snd.snd.snd.fst then bif v24.fst.snd == 7 then some ((b, slen v24.fst.fst == 0), v24.snd) else some ((b, false), v24.snd) else bif v24.fst.snd == 0 then (v24.snd.str v24.fst.fst).bind fun v23 => (Sl.sub b v108.fst.snd.snd.fst (some (IntKind.i64.wrap (v108.fst.snd.snd.fst + v108.fst.snd.snd.snd.fst)))).bind fun v22 => bif esOk b 1 then (v24.snd.str v22).bind fun v21 => some ((b, strEq v23 v21), v24.snd) else none else some ((b, false), v24.snd) else bif v108.fst.fst == 7 then (f31 r v108.fst.snd.snd.fst v108.fst.snd.snd.snd.fst v108.snd).bind fun v26 => (f44 b v108.fst.snd.snd.fst v108.fst.snd.snd.snd.fst v26.snd).bind fun v25 => bif strEq v26.fst.fst v25.fst.fst then some ((b, v26.fst.snd == v25.fst.snd), v25.snd) else some ((b, false), v25.snd) else some ((b, true), v108.snd) else bif v108.fst.fst == 1 then bif v108.fst.fst == 1 then (f43 r b v108.fst.fst v108.fst.snd.fst v108.fst.snd.snd.fst v108.fst.snd.snd.snd.fst v108.fst.snd.snd.snd.snd.fst v108.fst.snd.snd.snd.snd.snd.fst v108.fst.snd.snd.snd.snd.snd.snd v108.snd).bind fun v27 => some ((v27.fst.fst, v27.fst.snd), v27.snd) else bif v108.fst.fst == 4 then bif decide (slen v108.fst.snd.snd.snd.snd.fst > 0) then v108.fst.snd.snd.snd.snd.fst.bind fun v37 => bif inb 0 v37.len && v37.esz == 1 then (v108.snd.get v37.id (v37.off + 0)).bind fun v36 => (Cell.toInt IntKind.u64 v36).bind fun v35 => (f32 r v108.fst.snd.snd.fst v108.fst.snd.fst v35 v108.snd).bind fun v34 => bif !R2_Is v108.fst.snd.fst then some ((b, v34.fst == 2), v34.snd) else bif !R2_Has b v108.fst.snd.snd.fst v108.fst.snd.fst then some ((b, v34.fst == 7), v34.snd) else (Sl.sub b 0 (some v108.fst.snd.snd.fst)).bind fun v33 => bif esOk b 1 then ((v34.snd ++ [Blk.row [] false]).append 1 1 (some { id := List.length v34.snd, off := 0, len := 0, cap := 0, esz := 1 }) v33).bind fun v32 => (f15 v108.fst.snd.fst v35 v32.snd).bind fun v31 => (v31.snd.append 1 1 v32.fst v31.fst).bind fun v30 => (Sl.sub b (IntKind.i64.wrap (v108.fst.snd.snd.fst + v108.fst.snd.fst)) none).bind fun v29 => bif esOk b 1 then (v30.snd.append 1 1 v30.fst v29).bind fun v28 => some ((v28.fst, v34.fst == 0), v28.snd) else none else none else none else (f32 r v108.fst.snd.snd.fst v108.fst.snd.fst 0 v108.snd).bind fun v44 => bif !R2_Is v108.fst.snd.fst then some ((b, v44.fst == 2), v44.snd) else bif !R2_Has b v108.fst.snd.snd.fst v108.fst.snd.fst then some ((b, v44.fst == 7), v44.snd) else (Sl.sub b 0 (some v108.fst.snd.snd.fst)).bind fun v43 => bif esOk b 1 then ((v44.snd ++ [Blk.row [] false]).append 1 1 (some { id := List.length v44.snd, off := 0, len := 0, cap := 0, esz := 1 }) v43).bind fun v42 => (f15 v108.fst.snd.fst 0 v42.snd).bind fun v41 => (v41.snd.append 1 1 v42.fst v41.fst).bind fun v40 => (Sl.sub b (IntKind.i64.wrap (v108.fst.snd.snd.fst + v108.fst.snd.fst)) none).bind fun v39 => bif esOk b 1 then (v40.snd.append 1 1 v40.fst v39).bind fun v38 => some ((v38.fst, v44.fst == 0), v38.snd) else none else none else bif v108.fst.fst == 5 then (f16 r v108.fst.snd.snd.fst v108.fst.snd.fst v108.snd).bind fun v47 => bif !R2_Is v108.fst.snd.fst then bif v47.fst.snd == 2 then some ((b, v47.fst.fst == 0), v47.snd) else some ((b, false), v47.snd) else bif !R2_Has b v108.fst.snd.snd.fst v108.fst.snd.fst then bif v47.fst.snd == 7 then some ((b, v47.fst.fst == 0), v47.snd) else some ((b, false), v47.snd) else bif v47.fst.snd == 0 then (Sl.sub b v108.fst.snd.snd.fst (some (IntKind.i64.wrap (v108.fst.snd.snd.fst + v108.fst.snd.fst)))).bind fun v46 => bif esOk b 1 then (f14 v46 v47.snd).bind fun v45 => some ((b, v47.fst.fst == v45.fst), v45.snd) else none else some ((b, false), v47.snd) else bif v108.fst.fst == 6 then (f30 r v108.fst.snd.snd.fst v108.fst.snd.snd.snd.fst v108.snd).bind fun v51 => bif !R2_Has b v108.fst.snd.snd.fst v108.fst.snd.snd.snd.fst then bif v51.fst.snd == 7 then some ((b, slen v51.fst.fst == 0), v51.snd) else some ((b, false), v51.snd) else bif v51.fst.snd == 0 then (v51.snd.str v51.fst.fst).bind fun v50 => (Sl.sub b v108.fst.snd.snd.fst (some (IntKind.i64.wrap (v108.fst.snd.snd.fst + v108.fst.snd.snd.snd.fst)))).bind fun v49 => bif esOk b 1 then (v51.snd.str v49).bind fun v48 => some ((b, strEq v50 v48), v51.snd) else none else some ((b, false), v51.snd) else bif v108.fst.fst == 7 then (f31 r v108.fst.snd.snd.fst v108.fst.snd.snd.snd.fst v108.snd).bind fun v53 => (f44 b v108.fst.snd.snd.fst v108.fst.snd.snd.snd.fst v53.snd).bind fun v52 => bif strEq v53.fst.fst v52.fst.fst then some ((b, v53.fst.snd == v52.fst.snd), v52.snd) else some ((b, false), v52.snd) else some ((b, true), v108.snd) else bif v108.fst.fst == 2 then bif v108.fst.fst == 2 then (f43 r b v108.fst.fst v108.fst.snd.fst v108.fst.snd.snd.fst v108.fst.snd.snd.snd.fst v108.fst.snd.snd.snd.snd.fst v108.fst.snd.snd.snd.snd.snd.fst v108.fst.snd.snd.snd.snd.snd.snd v108.snd).bind fun v54 => some ((v54.fst.fst, v54.fst.snd), v54.snd) else bif v108.fst.fst == 4 then bif decide (slen v108.fst.snd.snd.snd.snd.fst > 0) then v108.fst.snd.snd.snd.snd.fst.bind fun v64 => bif inb 0 v64.len && v64.esz == 1 then (v108.snd.get v64.id (v64.off + 0)).bind fun v63 => (Cell.toInt IntKind.u64 v63).bind fun v62 => (f32 r v108.fst.snd.snd.fst v108.fst.snd.fst v62 v108.snd).bind fun v61 => bif !R2_Is v108.fst.snd.fst then some ((b, v61.fst == 2), v61.snd) else bif !R2_Has b v108.fst.snd.snd.fst v108.fst.snd.fst then some ((b, v61.fst == 7), v61.snd) else (Sl.sub b 0 (some v108.fst.snd.snd.fst)).bind fun v60 => bif esOk b 1 then ((v61.snd ++ [Blk.row [] false]).append 1 1 (some { id := List.length v61.snd, off := 0, len := 0, cap := 0, esz := 1 }) v60).bind fun v59 => (f15 v108.fst.snd.fst v62 v59.snd).bind fun v58 => (v58.snd.append 1 1 v59.fst v58.fst).bind fun v57 => (Sl.sub b (IntKind.i64.wrap (v108.fst.snd.snd.fst + v108.fst.snd.fst)) none).bind fun v56 => bif esOk b 1 then (v57.snd.append 1 1 v57.fst v56).bind fun v55 => some ((v55.fst, v61.fst == 0), v55.snd) else none else none else none else (f32 r v108.fst.snd.snd.fst v108.fst.snd.fst 0 v108.snd).bind fun v71 => bif !R2_Is v108.fst.snd.fst then some ((b, v71.fst == 2), v71.snd) else bif !R2_Has b v108.fst.snd.snd.fst v108.fst.snd.fst then some ((b, v71.fst == 7), v71.snd) else (Sl.sub b 0 (some v108.fst.snd.snd.fst)).bind fun v70 => bif esOk b 1 then ((v71.snd ++ [Blk.row [] false]).append 1 1 (some { id := List.length v71.snd, off := 0, len := 0, cap := 0, esz := 1 }) v70).bind fun v69 => (f15 v108.fst.snd.fst 0 v69.snd).bind fun v68 => (v68.snd.append 1 1 v69.fst v68.fst).bind fun v67 => (Sl.sub b (IntKind.i64.wrap (v108.fst.snd.snd.fst + v108.fst.snd.fst)) none).bind fun v66 => bif esOk b 1 then (v67.snd.append 1 1 v67.fst v66).bind fun v65 => some ((v65.fst, v71.fst == 0), v65.snd) else none else none else bif v108.fst.fst == 5 then (f16 r v108.fst.snd.snd.fst v108.fst.snd.fst v108.snd).bind fun v74 => bif !R2_Is v108.fst.snd.fst then bif v74.fst.snd == 2 then some ((b, v74.fst.fst == 0), v74.snd) else some ((b, false), v74.snd) else bif !R2_Has b v108.fst.snd.snd.fst v108.fst.snd.fst then bif v74.fst.snd == 7 then some ((b, v74.fst.fst == 0), v74.snd) else some ((b, false), v74.snd) else bif v74.fst.snd == 0 then (Sl.sub b v108.fst.snd.snd.fst (some (IntKind.i64.wrap (v108.fst.snd.snd.fst + v108.fst.snd.fst)))).bind fun v73 => bif esOk b 1 then (f14 v73 v74.snd).bind fun v72 => some ((b, v74.fst.fst == v72.fst), v72.snd) else none else some ((b, false), v74.snd) else bif v108.fst.fst == 6 then (f30 r v108.fst.snd.snd.fst v108.fst.snd.snd.snd.fst v108.snd).bind fun v78 => bif !R2_Has b v108.fst.snd.snd.fst v108.fst.snd.snd.snd.fst then bif v78.fst.snd == 7 then some ((b, slen v78.fst.fst == 0), v78.snd) else some ((b, false), v78.snd) else bif v78.fst.snd == 0 then (v78.snd.str v78.fst.fst).bind fun v77 => (Sl.sub b v108.fst.snd.snd.fst (some (IntKind.i64.wrap (v108.fst.snd.snd.fst + v108.fst.snd.snd.snd.fst)))).bind fun v76 => bif esOk b 1 then (v78.snd.str v76).bind fun v75 => some ((b, strEq v77 v75), v78.snd) else none else some ((b, false), v78.snd) else bif v108.fst.fst == 7 then (f31 r v108.fst.snd.snd.fst v108.fst.snd.snd.snd.fst v108.snd).bind fun v80 => (f44 b v108.fst.snd.snd.fst v108.fst.snd.snd.snd.fst v80.snd).bind fun v79 => bif strEq v80.fst.fst v79.fst.fst then some ((b, v80.fst.snd == v79.fst.snd), v79.snd) else some ((b, false), v79.snd) else some ((b, true), v108.snd) else bif v108.fst.fst == 3 then (f43 r b v108.fst.fst v108.fst.snd.fst v108.fst.snd.snd.fst v108.fst.snd.snd.snd.fst v108.fst.snd.snd.snd.snd.fst v108.fst.snd.snd.snd.snd.snd.fst v108.fst.snd.snd.snd.snd.snd.snd v108.snd).bind fun v81 => some ((v81.fst.fst, v81.fst.snd), v81.snd) else bif v108.fst.fst == 4 then bif decide (slen v108.fst.snd.snd.snd.snd.fst > 0) then v108.fst.snd.snd.snd.snd.fst.bind fun v91 => bif inb 0 v91.len && v91.esz == 1 then (v108.snd.get v91.id (v91.off + 0)).bind fun v90 => (Cell.toInt IntKind.u64 v90).bind fun v89 => (f32 r v108.fst.snd.snd.fst v108.fst.snd.fst v89 v108.snd).bind fun v88 => bif !R2_Is v108.fst.snd.fst then some ((b, v88.fst == 2), v88.snd) else bif !R2_Has b v108.fst.snd.snd.fst v108.fst.snd.fst then some ((b, v88.fst == 7), v88.snd) else (Sl.sub b 0 (some v108.fst.snd.snd.fst)).bind fun v87 => bif esOk b 1 then ((v88.snd ++ [Blk.row [] false]).append 1 1 (some { id := List.length v88.snd, off := 0, len := 0, cap := 0, esz := 1 }) v87).bind fun v86 => (f15 v108.fst.snd.fst v89 v86.snd).bind fun v85 => (v85.snd.append 1 1 v86.fst v85.fst).bind fun v84 => (Sl.sub b (IntKind.i64.wrap (v108.fst.snd.snd.fst + v108.fst.snd.fst)) none).bind fun v83 => bif esOk b 1 then (v84.snd.append 1 1 v84.fst v83).bind fun v82 => some ((v82.fst, v88.fst == 0), v82.snd) else none else none else none else (f32 r v108.fst.snd.snd.fst v108.fst.snd.fst 0 v108.snd).bind fun v98 => bif !R2_Is v108.fst.snd.fst then some ((b, v98.fst == 2), v98.snd) else bif !R2_Has b v108.fst.snd.snd.fst v108.fst.snd.fst then some ((b, v98.fst == 7), v98.snd) else (Sl.sub b 0 (some v108.fst.snd.snd.fst)).bind fun v97 => bif esOk b 1 then ((v98.snd ++ [Blk.row [] false]).append 1 1 (some { id := List.length v98.snd, off := 0, len := 0, cap := 0, esz := 1 }) v97).bind fun v96 => (f15 v108.fst.snd.fst 0 v96.snd).bind fun v95 => (v95.snd.append 1 1 v96.fst v95.fst).bind fun v94 => (Sl.sub b (IntKind.i64.wrap (v108.fst.snd.snd.fst + v108.fst.snd.fst)) none).bind fun v93 => bif esOk b 1 then (v94.snd.append 1 1 v94.fst v93).bind fun v92 => some ((v92.fst, v98.fst == 0), v92.snd) else none else none else bif v108.fst.fst == 5 then (f16 r v108.fst.snd.snd.fst v108.fst.snd.fst v108.snd).bind fun v101 => bif !R2_Is v108.fst.snd.fst then bif v101.fst.snd == 2 then some ((b, v101.fst.fst == 0), v101.snd) else some ((b, false), v101.snd) else bif !R2_Has b v108.fst.snd.snd.fst v108.fst.snd.fst then bif v101.fst.snd == 7 then some ((b, v101.fst.fst == 0), v101.snd) else some ((b, false), v101.snd) else bif v101.fst.snd == 0 then (Sl.sub b v108.fst.snd.snd.fst (some (IntKind.i64.wrap (v108.fst.snd.snd.fst + v108.fst.snd.fst)))).bind fun v100 => bif esOk b 1 then (f14 v100 v101.snd).bind fun v99 => some ((b, v101.fst.fst == v99.fst), v99.snd) else none else some ((b, false), v101.snd) else bif v108.fst.fst == 6 then (f30 r v108.fst.snd.snd.fst v108.fst.snd.snd.snd.fst v108.snd).bind fun v105 => bif !R2_Has b v108.fst.snd.snd.fst v108.fst.snd.snd.snd.fst then bif v105.fst.snd == 7 then some ((b, slen v105.fst.fst == 0), v105.snd) else some ((b, false), v105.snd) else bif v105.fst.snd == 0 then (v105.snd.str v105.fst.fst).bind fun v104 => (Sl.sub b v108.fst.snd.snd.fst (some (IntKind.i64.wrap (v108.fst.snd.snd.fst + v108.fst.snd.snd.snd.fst)))).bind fun v103 => bif esOk b 1 then (v105.snd.str v103).bind fun v102 => some ((b, strEq v104 v102), v105.snd) else none else some ((b, false), v105.snd) else bif v108.fst.fst == 7 then (f31 r v108.fst.snd.snd.fst v108.fst.snd.snd.snd.fst v108.snd).bind fun v107 => (f44 b v108.fst.snd.snd.fst v108.fst.snd.snd.snd.fst v107.snd).bind fun v106 => bif strEq v107.fst.fst v106.fst.fst then some ((b, v107.fst.snd == v106.fst.snd), v106.snd) else some ((b, false), v106.snd) else some ((b, true), v108.snd) := by intros; exact (f28_run ..).trans (by kernel_rfl)
theorem ok28 : FnOk Try.prog 28 (specF enc28 (sem28 f28)) := by
  refine spec_ok (C := CC28) good28 rfl rfl rfl (by kernel_rfl) Try.func28 (c := bodyOf Try.f28) (by kernel_rfl) (by kernel_rfl) (Nat.le_of_eq Try.ntmps28.symm) dec28 enc28 de28 _ ?_
  intro args H q h
  unfold sem28 at h
  split at h
  · rw [← f28_eq]; exact h
  · cases h
theorem step_grow {H0 H : Heap} {id : Nat} {b : Option Sl} (k : Int) (hk : k = 0 ∨ k = 1 ∨ k = 2 ∨ k = 3) (o1 o2 o3 : Int) (o4 o5 s4 s5 : Option Sl) (S s6 : ByteArray) (h42 : f42 k o1 o2 o3 o4 o5 S H = some ((k, o1, o2, o3, s4, s5, s6), H))
    (hg : ∃ b' B' H2, f43 (some (id, 0)) b k o1 o2 o3 s4 s5 s6 H = some ((b', true), H2) ∧ I6 H0 H2 id b' B') :
    ∃ b' B' H2, f28 (some (id, 0)) b k o1 o2 o3 o4 o5 S H = some ((b', true), H2) ∧ I6 H0 H2 id b' B' := by
  obtain ⟨b', B', H2, h1, h2⟩ := hg
  refine ⟨b', B', H2, ?_, h2⟩
  rw [q28]
  refine bnd h42 ?_
  rcases hk with rfl | rfl | rfl | rfl
  · exact cdt rfl (cdt rfl (bnd h1 rfl))
  · exact cdf rfl (cdt rfl (cdt rfl (bnd h1 rfl)))
  · exact cdf rfl (cdf rfl (cdt rfl (cdt rfl (bnd h1 rfl))))
  · exact cdf rfl (cdf rfl (cdf rfl (cdt rfl (bnd h1 rfl))))
theorem hasI_two {L : Nat} {a n : Int} (h : hasI L a n = true) : ∃ i k : Nat, a = (i : Int) ∧ n = (k : Int) ∧ i + k ≤ L := by
  simp only [hasI, Bool.and_eq_true, decide_eq_true_eq] at h
  exact ⟨a.toNat, n.toNat, by omega, by omega, by omega⟩
/-- A number in its place, of both. -/
theorem step_set {H0 H : Heap} {id : Nat} {b : Option Sl} {B : List UInt8} (h : I6 H0 H id b B) (oN oW : Int) (v : Nat) (hv : v < 18446744073709551616) :
    ∃ b' B' H2, ((f32 (some (id, 0)) oN oW (v : Int) H).bind fun v7 => bif !R2_Is oW then some ((b, v7.fst == 2), v7.snd) else bif !R2_Has b oN oW then some ((b, v7.fst == 7), v7.snd) else (Sl.sub b 0 (some oN)).bind fun v6 => bif esOk b 1 then ((v7.snd ++ [Blk.row [] false]).append 1 1 (some { id := List.length v7.snd, off := 0, len := 0, cap := 0, esz := 1 }) v6).bind fun v5 => (f15 oW (v : Int) v5.snd).bind fun v4 => (v4.snd.append 1 1 v5.fst v4.fst).bind fun v3 => (Sl.sub b (IntKind.i64.wrap (oN + oW)) none).bind fun v2 => bif esOk b 1 then (v3.snd.append 1 1 v3.fst v2).bind fun v1 => some ((v1.fst, v7.fst == 0), v1.snd) else none else none) = some ((b', true), H2) ∧ I6 H0 H2 id b' B' := by
  cases hw : bits_Is oW with
  | false =>
    have hw' : R2_Is oW = false := hw
    exact ⟨b, B, H, bnd (f32_arg id oN oW _ H hw) (cdt (by rw [hw']; rfl) rfl), h⟩
  | true =>
    have hw' : R2_Is oW = true := hw
    cases hh : hasI B.length oN oW with
    | false =>
      have hR : R2_Has b oN oW = false := by rw [R2_has_eq, has_eq h.hb (by have := h.len; omega)]; exact hh
      exact ⟨b, B, H, bnd (f32_no h.rpF h.len oN oW _ hw hh) (cdf (by rw [hw']; rfl) (cdt (by rw [hR]; rfl) rfl)), h⟩
    | true =>
      have hR : R2_Has b oN oW = true := by rw [R2_has_eq, has_eq h.hb (by have := h.len; omega)]; exact hh
      obtain ⟨a, w, rfl, rfl, hle⟩ := hasI_two hh
      have hlen := h.len
      have h8 : w ≤ 8 := by obtain ⟨k, e, _⟩ := isw hw; omega
      have g3 : IntKind.i64.wrap ((a : Int) + (w : Int)) = ((a + w : Nat) : Int) := by rw [wrap_i64 (by omega) (by omega)]; omega
      obtain ⟨H1, c1, c2, c3⟩ := f32_spec h.rpF h.len a w v hw hle
      have hb1 := h.bK c3
      obtain ⟨s6, d1, d2, _⟩ := hb1.sub0 E8_len a (by omega)
      have kp : Kp No H1 (H1 ++ [.row [] false]) := Kp.push _ _ _
      obtain ⟨s5, H5, a1, a2, a3, a4⟩ := append_OS E8_len (by decide) (by' := 1) (OS_new (n := 1) (E := E8) H1) (d2.new E8_len (by decide) kp fun _ _ h => h) (by simp [most]; omega)
      rw [List.nil_append] at a2
      have k5 : Kp No H1 H5 := kp.trans a3 (fun _ h => h) fun i hi ⟨sl, e, e1⟩ => by cases e; exact absurd e1 (by show ¬ i = H1.length; omega)
      have n5 : New H1.length s5 := fun sl e => by
        rcases a4 sl e with ⟨sl0, e0, e1⟩ | h
        · cases e0; rw [e1]; exact Nat.le_refl _
        · simp at h; omega
      obtain ⟨s4, H4, e1, e2, e3, e4⟩ := f15_spec w v h8 hv H5
      obtain ⟨s3, H3, b1, b2, b3, b4⟩ := append_OS E8_len (by decide) (by' := 1) (a2.kp e3 fun _ _ h => h) e2.rs (by rw [leB_length]; simp [most]; omega)
      have k4 : Kp No H1 H4 := k5.trans e3 (fun _ h => h) fun _ _ h => h
      have l5 := k5.len
      have l4 := k4.len
      have k3 : Kp No H1 H3 := k4.trans b3 (fun _ h => h) fun i hi ⟨sl, e, e1⟩ => by have := n5 sl e; omega
      have n3 : New H1.length s3 := fun sl e => by
        rcases b4 sl e with ⟨sl0, e0, e1⟩ | h
        · rw [e1]; exact n5 sl0 e0
        · omega
      obtain ⟨s2, p1, p2, _⟩ := (hb1.new E8_len (by decide) k3 fun _ _ h => h).subE E8_len (a + w) (by omega)
      obtain ⟨s7, H7, r1, r2, r3, r4⟩ := append_OS E8_len (by decide) (by' := 1) b2 p2 (by rw [List.length_append, leB_length]; simp [most]; omega)
      have l3 := k3.len
      have k7 : Kp No H1 H7 := k3.trans r3 (fun _ h => h) fun i hi ⟨sl, e, e1⟩ => by have := n3 sl e; omega
      have n7 : New H1.length s7 := fun sl e => by
        rcases r4 sl e with ⟨sl0, e0, e1⟩ | h
        · rw [e1]; exact n3 sl0 e0
        · omega
      refine ⟨s7, _, H7, ?_, h.new c2 c3 (by rw [List.length_append, List.length_append, leB_length]; simp; omega) r2 k7 n7⟩
      rw [g3]
      exact bnd c1 (cdf (by rw [hw']; rfl) (cdf (by rw [hR]; rfl) (bnd d1 (cdt hb1.esOkT (bnd a1 (bnd e1 (bnd b1 (bnd p1 (cdt hb1.esOkT (bnd r1 rfl))))))))))
theorem step_at {H0 H : Heap} {id : Nat} {b : Option Sl} {B : List UInt8} (h : I6 H0 H id b B) (oN oW : Int) :
    ∃ b' B' H2, ((f16 (some (id, 0)) oN oW H).bind fun v20 => bif !R2_Is oW then bif v20.fst.snd == 2 then some ((b, v20.fst.fst == 0), v20.snd) else some ((b, false), v20.snd) else bif !R2_Has b oN oW then bif v20.fst.snd == 7 then some ((b, v20.fst.fst == 0), v20.snd) else some ((b, false), v20.snd) else bif v20.fst.snd == 0 then (Sl.sub b oN (some (IntKind.i64.wrap (oN + oW)))).bind fun v19 => bif esOk b 1 then (f14 v19 v20.snd).bind fun v18 => some ((b, v20.fst.fst == v18.fst), v18.snd) else none else some ((b, false), v20.snd)) = some ((b', true), H2) ∧ I6 H0 H2 id b' B' := by
  have z2 : ((2 : Int) == 2) = true := by decide
  have z7 : ((7 : Int) == 7) = true := by decide
  have z0 : ((0 : Int) == 0) = true := by decide
  have hlen := h.len
  cases hw : bits_Is oW with
  | false =>
    have hw' : R2_Is oW = false := hw
    exact ⟨b, B, H, bnd (f16_arg id oN oW H hw) (cdt (by rw [hw']; rfl) (cdt z2 rfl)), h⟩
  | true =>
    have hw' : R2_Is oW = true := hw
    cases hh : hasI B.length oN oW with
    | false =>
      have hR : R2_Has b oN oW = false := by rw [R2_has_eq, has_eq h.hb (by omega)]; exact hh
      exact ⟨b, B, H, bnd (f16_no h.rpF h.len oN oW hw hh) (cdf (by rw [hw']; rfl) (cdt (by rw [hR]; rfl) (cdt z7 rfl))), h⟩
    | true =>
      have hR : R2_Has b oN oW = true := by rw [R2_has_eq, has_eq h.hb (by omega)]; exact hh
      obtain ⟨a, w, rfl, rfl, hle⟩ := hasI_two hh
      have h8 : w ≤ 8 := by obtain ⟨k, e, _⟩ := isw hw; omega
      have g3 : IntKind.i64.wrap ((a : Int) + (w : Int)) = ((a + w : Nat) : Int) := by rw [wrap_i64 (by omega) (by omega)]; omega
      obtain ⟨s2, c1, c2, _⟩ := h.hb.sub E8_len a (a + w) (by omega) hle
      rw [show a + w - a = w by omega] at c2
      rw [g3]
      refine ⟨b, B, H, bnd (f16_spec h.rpF h.len a w hw hle) (cdf (by rw [hw']; rfl) (cdf (by rw [hR]; rfl) (cdt z0 (bnd c1 (cdt h.hb.esOkT (bnd (f14_spec s2 _ (by simp; omega) H c2) ?_)))))), h⟩
      simp
theorem step_cut {H0 H : Heap} {id : Nat} {b : Option Sl} {B : List UInt8} (h : I6 H0 H id b B) (oN oM : Int) :
    ∃ b' B' H2, ((f30 (some (id, 0)) oN oM H).bind fun v24 => bif !R2_Has b oN oM then bif v24.fst.snd == 7 then some ((b, slen v24.fst.fst == 0), v24.snd) else some ((b, false), v24.snd) else bif v24.fst.snd == 0 then (v24.snd.str v24.fst.fst).bind fun v23 => (Sl.sub b oN (some (IntKind.i64.wrap (oN + oM)))).bind fun v22 => bif esOk b 1 then (v24.snd.str v22).bind fun v21 => some ((b, strEq v23 v21), v24.snd) else none else some ((b, false), v24.snd)) = some ((b', true), H2) ∧ I6 H0 H2 id b' B' := by
  have z7 : ((7 : Int) == 7) = true := by decide
  have z0 : ((0 : Int) == 0) = true := by decide
  have hlen := h.len
  cases hh : hasI B.length oN oM with
  | false =>
    have hR : R2_Has b oN oM = false := by rw [R2_has_eq, has_eq h.hb (by omega)]; exact hh
    exact ⟨b, B, H, bnd (f30_no h.rpF h.len oN oM hh) (cdt (by rw [hR]; rfl) (cdt z7 rfl)), h⟩
  | true =>
    have hR : R2_Has b oN oM = true := by rw [R2_has_eq, has_eq h.hb (by omega)]; exact hh
    obtain ⟨a, w, rfl, rfl, hle⟩ := hasI_two hh
    have g3 : IntKind.i64.wrap ((a : Int) + (w : Int)) = ((a + w : Nat) : Int) := by rw [wrap_i64 (by omega) (by omega)]; omega
    obtain ⟨s1, H1, d1, d2, d3, d4⟩ := f30_spec h.rpF h.len a w hle
    have hb1 := h.hb.new E8_len (by decide) d3 fun _ _ h => h
    obtain ⟨s2, c1, c2, _⟩ := hb1.sub E8_len a (a + w) (by omega) hle
    rw [show a + w - a = w by omega] at c2
    rw [g3]
    refine ⟨b, B, H1, bnd d1 (cdf (by rw [hR]; rfl) (cdt z0 (bnd d2.rs.str (bnd c1 (cdt hb1.esOkT (bnd c2.str ?_)))))), h.grow d3⟩
    simp [strEq]
theorem step_str {H0 H : Heap} {id : Nat} {b : Option Sl} {B : List UInt8} (h : I6 H0 H id b B) (oN oM : Int) :
    ∃ b' B' H2, ((f31 (some (id, 0)) oN oM H).bind fun v26 => (f44 b oN oM v26.snd).bind fun v25 => bif strEq v26.fst.fst v25.fst.fst then some ((b, v26.fst.snd == v25.fst.snd), v25.snd) else some ((b, false), v25.snd)) = some ((b', true), H2) ∧ I6 H0 H2 id b' B' := by
  refine ⟨b, B, H, bnd (f31_spec h.rpF h.len oN oM) (bnd (f44_spec h.hb h.len oN oM) (cdt (by simp [strEq]) ?_)), h⟩
  simp
theorem f28_spec {H0 H : Heap} {id : Nat} {b : Option Sl} {B : List UInt8} (h : I6 H0 H id b B) (k o1 o2 o3 : Int) (o4 o5 : Option Sl) (S : ByteArray) (L : List Nat) (M : List UInt8) (h4 : RS 1 EU H0 o4 L) (hL64 : ∀ v ∈ L, v < 18446744073709551616) (h5 : RS 1 E8 H0 o5 M) :
    ∃ b' B' H2, f28 (some (id, 0)) b k o1 o2 o3 o4 o5 S H = some ((b', true), H2) ∧ I6 H0 H2 id b' B' := by
  obtain ⟨s4, s5, s6, h42, g4, g5, g6⟩ := f42_spec H k o1 o2 o3 o4 o5 S L M (h4.new EU_len (by decide) h.kp fun _ _ h => h) (h5.new E8_len (by decide) h.kp fun _ _ h => h)
  -- the parts in the elder heap
  obtain ⟨s4', s5', s6', h42', g4', g5', _⟩ := f42_spec H0 k o1 o2 o3 o4 o5 S L M h4 h5
  have e42 : s4' = s4 ∧ s5' = s5 := by
    have := q42 k o1 o2 o3 o4 o5 S H
    have h' := q42 k o1 o2 o3 o4 o5 S H0
    rw [h42] at this
    rw [h42'] at h'
    revert this h'
    have e4 := (h4.new EU_len (by decide) h.kp fun _ _ h => h).esOkT
    have e5 := (h5.new E8_len (by decide) h.kp fun _ _ h => h).esOkT
    generalize Sl.sub o4 0 (some 6) = x4
    generalize Sl.sub o5 0 (some 40) = x5
    generalize strSub S 0 (some 40) = x6
    rw [e4, e5]
    cases decide (slen o4 > 6) <;> cases decide (slen o5 > 40) <;> cases decide ((S.size : Int) > 40) <;> cases x4 <;> cases x5 <;> cases x6 <;> simp <;> intros <;> simp_all
  obtain ⟨rfl, rfl⟩ := e42
  have hLt : ∀ v ∈ L.take 6, v < 18446744073709551616 := fun v hv => hL64 v (List.mem_of_mem_take hv)
  by_cases k0 : k = 0
  · subst k0; exact step_grow 0 (.inl rfl) o1 o2 o3 o4 o5 _ _ S s6 h42 (grow0 h o1 o2 o3 _ _ s6 _ g4' (by simp; omega) hLt)
  by_cases k1 : k = 1
  · subst k1; exact step_grow 1 (.inr (.inl rfl)) o1 o2 o3 o4 o5 _ _ S s6 h42 (grow1 h o1 o2 o3 _ _ s6 _ g5' (by simp; omega))
  by_cases k2 : k = 2
  · subst k2; exact step_grow 2 (.inr (.inr (.inl rfl))) o1 o2 o3 o4 o5 _ _ S s6 h42 (grow2 h o1 o2 o3 _ _ s6 g6)
  by_cases k3 : k = 3
  · subst k3; exact step_grow 3 (.inr (.inr (.inr rfl))) o1 o2 o3 o4 o5 _ _ S s6 h42 (grow3 h o1 o2 o3 _ _ s6)
  have n0 : (k == 0) = false := by simpa using k0
  have n1 : (k == 1) = false := by simpa using k1
  have n2 : (k == 2) = false := by simpa using k2
  have n3 : (k == 3) = false := by simpa using k3
  rw [q28, h42]
  simp only [bs, n0, n1, n2, n3, cf]
  by_cases k4 : k = 4
  · have n4 : (k == 4) = true := by simpa using k4
    simp only [n4, ct]
    cases hLd : L.take 6 with
    | nil =>
      rw [hLd] at g4
      have hs : decide (slen s4' > 0) = false := by rw [g4.slenEq]; rfl
      rw [hs, cf]
      exact step_set h o2 o1 0 (by decide)
    | cons v r =>
      rw [hLd] at g4
      have hs : decide (slen s4' > 0) = true := by rw [g4.slenEq]; simp
      have hv : v < 18446744073709551616 := hLt v (by rw [hLd]; exact List.mem_cons_self ..)
      obtain ⟨sl, rfl, c1, c2⟩ := g4.idx1 (i := 0) (x := v) rfl (e := fun v => .int .u64 (v : Int)) fun _ => rfl
      have c1' : (inb 0 sl.len && sl.esz == 1) = true := c1
      have c2' : H.get sl.id (sl.off + 0) = some (.int .u64 (v : Int)) := c2
      rw [hs, ct, bs, c1', ct, c2', bs, tInt, bs]
      exact step_set h o2 o1 v hv
  have n4 : (k == 4) = false := by simpa using k4
  simp only [n4, cf]
  by_cases k5 : k = 5
  · have n5 : (k == 5) = true := by simpa using k5
    simp only [n5, ct]
    exact step_at h o2 o1
  have n5 : (k == 5) = false := by simpa using k5
  simp only [n5, cf]
  by_cases k6 : k = 6
  · have n6 : (k == 6) = true := by simpa using k6
    simp only [n6, ct]
    exact step_cut h o2 o3
  have n6 : (k == 6) = false := by simpa using k6
  simp only [n6, cf]
  by_cases k7 : k = 7
  · have n7 : (k == 7) = true := by simpa using k7
    simp only [n7, ct]
    exact step_str h o2 o3
  have n7 : (k == 7) = false := by simpa using k7
  simp only [n7, cf]
  exact ⟨b, B, H, rfl, h⟩
/-! 6: L02_RopePlays -/
noncomputable def CC6 : Ctx := { P := Try.prog, own := [11], fns := [(9, F9), (12, specF enc12 (sem12 f12)), (29, specF enc29 (sem29 f29)), (28, specF enc28 (sem28 f28)), (10, specF enc10 (sem10 f10))], nt := 111, nums := [9], live := [(20, ⟨[6, 7, 9, 12, 49, 50, 51, 87, 88], [], [6, 7, 9, 49, 50, 51], []⟩), (13, ⟨[6, 7, 9, 49, 50, 51], [], [6, 7, 9], []⟩), (7, ⟨[1, 5, 6, 7, 38, 39], [], [1, 6, 7], []⟩)] }
theorem good6 : Callees Try.prog CC6.fns [] CC6.nums := (((((Callees.nil Try.prog).cons ok10 (specF_nat _ _)).cons ok28 (specF_nat _ _)).cons ok29 (specF_nat _ _)).cons ok12 (specF_nat _ _)).cons_num ok9 F9_num
theorem hN6 : CtxNat CC6 := good6.ctx rfl rfl rfl
abbrev Ty6 := (Option Sl) → (Option Sl) → Heap → Option (Bool × Heap)
def enc6 (r : Bool) : List TV := [.c (Cell.bool (r))]
def dec6 : AV → Option (Bool)
  | .c (Cell.bool q0) => some (q0)
  | _ => none
theorem de6 (v : AV) (r : Bool) (h : dec6 v = some r) : v = oneOf (enc6 r) := by
  unfold dec6 at h
  split at h
  · cases h; rfl
  · cases h
def sem6 (f : Ty6) : List TV → Heap → Option (Bool × Heap)
  | [.c (Cell.slice first), .c (Cell.slice l)], H => f first l H
  | _, _ => none
noncomputable def f6 : Ty6 := hide fun first l H => fnA CC6 Try.f6.results.toList (bodyOf Try.f6) _ [.c (Cell.slice first), .c (Cell.slice l)] H (decF dec6)
theorem f6_eq (first : (Option Sl)) (l : (Option Sl)) (H : Heap) : f6 first l H = fnA CC6 Try.f6.results.toList (bodyOf Try.f6) _ [.c (Cell.slice first), .c (Cell.slice l)] H (decF dec6) := by unfold f6; rw [hide_eq]
theorem f6_run (first : (Option Sl)) (l : (Option Sl)) (H : Heap) : f6 first l H = fnL CC6 (lpD CC6) Try.f6.results.toList (bodyOf Try.f6) [.c (Cell.slice first), .c (Cell.slice l)] H (decF dec6) := (f6_eq ..).trans (fnA_lpD hN6 ..)
def S6_7 (t1 : (Option Sl)) (t5 : (Option Sl)) (t6 : (Option (Nat × Nat))) (t7 : (Option Sl)) (t38 : Int) (t39 : Int) (H : Heap) : St := ⟨[(1, .c (Cell.slice t1)), (5, .c (Cell.slice t5)), (6, .c (Cell.ptr t6)), (7, .c (Cell.slice t7)), (38, .c (Cell.int .i64 t38)), (39, .c (Cell.int .i64 t39))], [], H⟩
noncomputable def D6_7 (n : Nat) (t1 : (Option Sl)) (t5 : (Option Sl)) (t6 : (Option (Nat × Nat))) (t7 : (Option Sl)) (t38 : Int) (t39 : Int) (H : Heap) : Option (AExit × St) := loopN (exec CC6 (Code.l (Code.l (Code.r (Code.l (Code.r (Code.r (Code.r (Code.r (Code.r (bodyOf Try.f6))))))))))) (keepOf CC6.live (Code.l (Code.l (Code.r (Code.l (Code.r (Code.r (Code.r (Code.r (Code.r (bodyOf Try.f6))))))))))) n (S6_7 t1 t5 t6 t7 t38 t39 H) retD
noncomputable def LL6_7 (t1 : (Option Sl)) (t5 : (Option Sl)) (t6 : (Option (Nat × Nat))) (t7 : (Option Sl)) (t38 : Int) (t39 : Int) (H : Heap) : Option (AExit × St) := loopsD CC6 (Code.l (Code.l (Code.r (Code.l (Code.r (Code.r (Code.r (Code.r (Code.r (bodyOf Try.f6)))))))))) (S6_7 t1 t5 t6 t7 t38 t39 H)
theorem LL6_7_of (m : Nat) (hm : m < 18446744073709551616) (t1 : (Option Sl)) (t5 : (Option Sl)) (t6 : (Option (Nat × Nat))) (t7 : (Option Sl)) (t38 : Int) (t39 : Int) (H : Heap) : ∃ n, LL6_7 t1 t5 t6 t7 t38 t39 H = D6_7 (n + m + 1) t1 t5 t6 t7 t38 t39 H := loopsD_of _ _ _ m hm
def S6_13 (t6 : (Option (Nat × Nat))) (t7 : (Option Sl)) (t9 : Bool) (t49 : (Option Sl)) (t50 : Int) (t51 : Int) (H : Heap) : St := ⟨[(6, .c (Cell.ptr t6)), (7, .c (Cell.slice t7)), (9, .c (Cell.bool t9)), (49, .c (Cell.slice t49)), (50, .c (Cell.int .i64 t50)), (51, .c (Cell.int .i64 t51))], [], H⟩
noncomputable def D6_13 (n : Nat) (t6 : (Option (Nat × Nat))) (t7 : (Option Sl)) (t9 : Bool) (t49 : (Option Sl)) (t50 : Int) (t51 : Int) (H : Heap) : Option (AExit × St) := loopN (exec CC6 (Code.l (Code.l (Code.r (Code.l (Code.r (Code.r (Code.r (Code.r (Code.r (Code.r (Code.r (bodyOf Try.f6))))))))))))) (keepOf CC6.live (Code.l (Code.l (Code.r (Code.l (Code.r (Code.r (Code.r (Code.r (Code.r (Code.r (Code.r (bodyOf Try.f6))))))))))))) n (S6_13 t6 t7 t9 t49 t50 t51 H) retD
noncomputable def LL6_13 (t6 : (Option (Nat × Nat))) (t7 : (Option Sl)) (t9 : Bool) (t49 : (Option Sl)) (t50 : Int) (t51 : Int) (H : Heap) : Option (AExit × St) := loopsD CC6 (Code.l (Code.l (Code.r (Code.l (Code.r (Code.r (Code.r (Code.r (Code.r (Code.r (Code.r (bodyOf Try.f6)))))))))))) (S6_13 t6 t7 t9 t49 t50 t51 H)
theorem LL6_13_of (m : Nat) (hm : m < 18446744073709551616) (t6 : (Option (Nat × Nat))) (t7 : (Option Sl)) (t9 : Bool) (t49 : (Option Sl)) (t50 : Int) (t51 : Int) (H : Heap) : ∃ n, LL6_13 t6 t7 t9 t49 t50 t51 H = D6_13 (n + m + 1) t6 t7 t9 t49 t50 t51 H := loopsD_of _ _ _ m hm
def S6_20 (t6 : (Option (Nat × Nat))) (t7 : (Option Sl)) (t9 : Bool) (t12 : (Option Sl)) (t49 : (Option Sl)) (t50 : Int) (t51 : Int) (t87 : Int) (t88 : Int) (H : Heap) : St := ⟨[(6, .c (Cell.ptr t6)), (7, .c (Cell.slice t7)), (9, .c (Cell.bool t9)), (12, .c (Cell.slice t12)), (49, .c (Cell.slice t49)), (50, .c (Cell.int .i64 t50)), (51, .c (Cell.int .i64 t51)), (87, .c (Cell.int .i64 t87)), (88, .c (Cell.int .i64 t88))], [], H⟩
noncomputable def D6_20 (n : Nat) (t6 : (Option (Nat × Nat))) (t7 : (Option Sl)) (t9 : Bool) (t12 : (Option Sl)) (t49 : (Option Sl)) (t50 : Int) (t51 : Int) (t87 : Int) (t88 : Int) (H : Heap) : Option (AExit × St) := loopN (exec CC6 (Code.l (Code.l (Code.r (Code.r (Code.r (Code.r (Code.r (Code.r (Code.l (Code.l (Code.r (Code.r (Code.l (Code.l (Code.r (Code.l (Code.r (Code.r (Code.r (Code.r (Code.r (Code.r (Code.r (bodyOf Try.f6))))))))))))))))))))))))) (keepOf CC6.live (Code.l (Code.l (Code.r (Code.r (Code.r (Code.r (Code.r (Code.r (Code.l (Code.l (Code.r (Code.r (Code.l (Code.l (Code.r (Code.l (Code.r (Code.r (Code.r (Code.r (Code.r (Code.r (Code.r (bodyOf Try.f6))))))))))))))))))))))))) n (S6_20 t6 t7 t9 t12 t49 t50 t51 t87 t88 H) retD
noncomputable def LL6_20 (t6 : (Option (Nat × Nat))) (t7 : (Option Sl)) (t9 : Bool) (t12 : (Option Sl)) (t49 : (Option Sl)) (t50 : Int) (t51 : Int) (t87 : Int) (t88 : Int) (H : Heap) : Option (AExit × St) := loopsD CC6 (Code.l (Code.l (Code.r (Code.r (Code.r (Code.r (Code.r (Code.r (Code.l (Code.l (Code.r (Code.r (Code.l (Code.l (Code.r (Code.l (Code.r (Code.r (Code.r (Code.r (Code.r (Code.r (Code.r (bodyOf Try.f6)))))))))))))))))))))))) (S6_20 t6 t7 t9 t12 t49 t50 t51 t87 t88 H)
theorem LL6_20_of (m : Nat) (hm : m < 18446744073709551616) (t6 : (Option (Nat × Nat))) (t7 : (Option Sl)) (t9 : Bool) (t12 : (Option Sl)) (t49 : (Option Sl)) (t50 : Int) (t51 : Int) (t87 : Int) (t88 : Int) (H : Heap) : ∃ n, LL6_20 t6 t7 t9 t12 t49 t50 t51 t87 t88 H = D6_20 (n + m + 1) t6 t7 t9 t12 t49 t50 t51 t87 t88 H := loopsD_of _ _ _ m hm
def X6_20 (x0 : Option (Nat × Nat)) (x1 : Option Sl) (x2 : Bool) (x3 : Option Sl) (x4 : Int) (x5 : Int) (H : Heap) : St := { env := [(6, AV.c (Cell.ptr x0)), (7, AV.c (Cell.slice x1)), (9, AV.c (Cell.bool x2)), (49, AV.c (Cell.slice x3)), (50, AV.c (Cell.int IntKind.i64 x4)), (51, AV.c (Cell.int IntKind.i64 x5))], loc := [], heap := H }
def X6_13 (x0 : Option (Nat × Nat)) (x1 : Option Sl) (x2 : Bool) (H : Heap) : St := { env := [(6, AV.c (Cell.ptr x0)), (7, AV.c (Cell.slice x1)), (9, AV.c (Cell.bool x2))], loc := [], heap := H }
def X6_7 (x0 : Option Sl) (x1 : Option (Nat × Nat)) (x2 : Option Sl) (H : Heap) : St := { env := [(1, AV.c (Cell.slice x0)), (6, AV.c (Cell.ptr x1)), (7, AV.c (Cell.slice x2))], loc := [], heap := H }
noncomputable def J6_20 : Nat → AExit × St → Option (AExit × St) := fun n p => blockK 4 (blockK 3 (seqK (execL CC6 (lpD CC6) (Code.r (Code.r (Code.r (Code.l (Code.l (Code.r (Code.l (Code.r (Code.r (Code.r (Code.r (Code.r (Code.r (Code.r (bodyOf Try.f6)))))))))))))))) (loopK (some { t1 := [6, 7, 9, 49, 50, 51], l1 := [], t2 := [6, 7, 9], l2 := [] }) (loopN (exec CC6 (Code.l (Code.l (Code.r (Code.l (Code.r (Code.r (Code.r (Code.r (Code.r (Code.r (Code.r (bodyOf Try.f6))))))))))))) (keepOf CC6.live (Code.l (Code.l (Code.r (Code.l (Code.r (Code.r (Code.r (Code.r (Code.r (Code.r (Code.r (bodyOf Try.f6))))))))))))) n) retD))) p.fst p.snd
noncomputable def J6_7 : AExit × St → Option (Bool × Heap) := fun p => blockK 0 (seqK (execL CC6 (lpD CC6) (Code.r (Code.r (Code.r (Code.r (Code.r (Code.r (bodyOf Try.f6)))))))) (retA CC6 [ResultVar.tmp 4] (decF dec6))) p.fst p.snd
noncomputable def J6_13 : AExit × St → Option (Bool × Heap) := fun p => blockK 2 (seqK (execL CC6 (lpD CC6) (Code.r (Code.r (Code.r (Code.r (Code.r (Code.r (Code.r (Code.r (bodyOf Try.f6)))))))))) (retA CC6 [ResultVar.tmp 4] (decF dec6))) p.fst p.snd
theorem D6_20_s : ∀ (n : Nat) (t6 : Option (Nat × Nat)) (t7 : Option Sl) (t9 : Bool) (t12 t49 : Option Sl) (t50 t51 t87 t88 : Int) (H : Heap), D6_20 (n + 1) t6 t7 t9 t12 t49 t50 t51 t87 t88 H = bif decide (t88 < t87) then t12.bind fun v4 => bif inb t88 v4.len && v4.esz == 1 then (H.get v4.id (v4.off + t88.toNat * 1)).bind fun v3 => (Cell.toInt IntKind.u8 v3).bind fun v2 => t12.bind fun v1 => bif inb t88 v1.len && v1.esz == 1 then (H.put v1.id (v1.off + t88.toNat * 1) [Cell.int IntKind.u8 (bxor IntKind.u8 v2 3)]).bind fun v0 => D6_20 n t6 t7 t9 t12 t49 t50 t51 t87 (IntKind.i64.wrap (t88 + 1)) v0 else none else none else some (AExit.exit 4, X6_20 t6 t7 t9 t49 t50 t51 H) := by intros; exact (loopN_stepD hN6 _ _ _ _).trans (by kernel_rfl)
theorem D6_13_s : ∀ (n : Nat) (t6 : Option (Nat × Nat)) (t7 : Option Sl) (t9 : Bool) (t49 : Option Sl) (t50 t51 : Int) (H : Heap), D6_13 (n + 1) t6 t7 t9 t49 t50 t51 H = bif decide (t51 < t50) then t49.bind fun v24 => bif inb t51 v24.len && v24.esz == 7 then (H.get v24.id (v24.off + t51.toNat * 7)).bind fun v23 => (H.get v24.id (v24.off + t51.toNat * 7 + 1)).bind fun v22 => (H.get v24.id (v24.off + t51.toNat * 7 + 1 + 1)).bind fun v21 => (H.get v24.id (v24.off + t51.toNat * 7 + 1 + 1 + 1)).bind fun v20 => (H.get v24.id (v24.off + t51.toNat * 7 + 1 + 1 + 1 + 1)).bind fun v19 => (H.get v24.id (v24.off + t51.toNat * 7 + 1 + 1 + 1 + 1 + 1)).bind fun v18 => (H.get v24.id (v24.off + t51.toNat * 7 + 1 + 1 + 1 + 1 + 1 + 1)).bind fun v17 => (Cell.toInt IntKind.i64 v23).bind fun v16 => (Cell.toInt IntKind.i64 v22).bind fun v15 => (Cell.toInt IntKind.i64 v21).bind fun v14 => (Cell.toInt IntKind.i64 v20).bind fun v13 => v19.toSlice.bind fun v12 => v18.toSlice.bind fun v11 => v17.toStr.bind fun v10 => bif decide (t51 ≥ 30) then some (AExit.exit 2, X6_13 t6 t7 t9 H) else bif !t9 then some (AExit.exit 2, X6_13 t6 t7 t9 H) else (f28 t6 t7 v16 v15 v14 v13 v12 v11 v10 H).bind fun v9 => (f29 t6 v9.snd).bind fun v8 => bif v9.fst.snd then (f12 t6 v8.snd).bind fun v7 => bif v7.fst == slen v9.fst.fst then (v7.snd.str v8.fst).bind fun v6 => (v7.snd.str v9.fst.fst).bind fun v5 => (LL6_20 t6 v9.fst.fst (strEq v6 v5) v8.fst t49 t50 t51 (slen v8.fst) 0 v7.snd).bind (J6_20 n) else (LL6_20 t6 v9.fst.fst false v8.fst t49 t50 t51 (slen v8.fst) 0 v7.snd).bind (J6_20 n) else (LL6_20 t6 v9.fst.fst false v8.fst t49 t50 t51 (slen v8.fst) 0 v8.snd).bind (J6_20 n) else none else some (AExit.exit 2, X6_13 t6 t7 t9 H) := by intros; exact (loopN_stepD hN6 _ _ _ _).trans (by kernel_rfl)
theorem J6_20_0 : ∀ (n : Nat) (x0 : Option (Nat × Nat)) (x1 : Option Sl) (x2 : Bool) (x3 : Option Sl) (x4 x5 : Int) (H : Heap), J6_20 n (AExit.exit 4, X6_20 x0 x1 x2 x3 x4 x5 H) = D6_13 n x0 x1 x2 x3 x4 (IntKind.i64.wrap (x5 + 1)) H := by intros; kernel_rfl
theorem D6_7_s : ∀ (n : Nat) (t1 t5 : Option Sl) (t6 : Option (Nat × Nat)) (t7 : Option Sl) (t38 t39 : Int) (H : Heap), D6_7 (n + 1) t1 t5 t6 t7 t38 t39 H = bif decide (t39 < t38) then t5.bind fun v29 => bif inb t39 v29.len && v29.esz == 1 then (H.get v29.id (v29.off + t39.toNat * 1)).bind fun v28 => (Cell.toInt IntKind.u8 v28).bind fun v27 => t5.bind fun v26 => bif inb t39 v26.len && v26.esz == 1 then (H.put v26.id (v26.off + t39.toNat * 1) [Cell.int IntKind.u8 (bxor IntKind.u8 v27 1)]).bind fun v25 => D6_7 n t1 t5 t6 t7 t38 (IntKind.i64.wrap (t39 + 1)) v25 else none else none else some (AExit.exit 0, X6_7 t1 t6 t7 H) := by intros; exact (loopN_stepD hN6 _ _ _ _).trans (by kernel_rfl)
theorem q6 : ∀ (first l : Option Sl) (H : Heap), f6 first l H = bif decide (slen first > 100) then (Sl.sub first 0 (some 100)).bind fun v35 => bif esOk first 1 then ((H ++ [Blk.row [] false]).append 1 1 (some { id := List.length H, off := 0, len := 0, cap := 0, esz := 1 }) v35).bind fun v34 => (Sl.sub v34.fst 0 (some (IntKind.i64.wrap ((slen v34.fst).tdiv 2)))).bind fun v33 => bif esOk v34.fst 1 then (Sl.sub v34.fst (IntKind.i64.wrap ((slen v34.fst).tdiv 2)) none).bind fun v32 => bif esOk v34.fst 1 then (f10 (some { id := List.length v34.snd, off := 0, len := 2, cap := 2, esz := 1 }) (v34.snd ++ [Blk.row [Cell.slice v33, Cell.slice v32] false])).bind fun v31 => ((v31.snd ++ [Blk.row [] false]).append 1 1 (some { id := List.length v31.snd, off := 0, len := 0, cap := 0, esz := 1 }) v35).bind fun v30 => (LL6_7 l v34.fst v31.fst v30.fst (slen v34.fst) 0 v30.snd).bind J6_7 else none else none else none else ((H ++ [Blk.row [] false]).append 1 1 (some { id := List.length H, off := 0, len := 0, cap := 0, esz := 1 }) first).bind fun v40 => (Sl.sub v40.fst 0 (some (IntKind.i64.wrap ((slen v40.fst).tdiv 2)))).bind fun v39 => bif esOk v40.fst 1 then (Sl.sub v40.fst (IntKind.i64.wrap ((slen v40.fst).tdiv 2)) none).bind fun v38 => bif esOk v40.fst 1 then (f10 (some { id := List.length v40.snd, off := 0, len := 2, cap := 2, esz := 1 }) (v40.snd ++ [Blk.row [Cell.slice v39, Cell.slice v38] false])).bind fun v37 => ((v37.snd ++ [Blk.row [] false]).append 1 1 (some { id := List.length v37.snd, off := 0, len := 0, cap := 0, esz := 1 }) first).bind fun v36 => (LL6_7 l v40.fst v37.fst v36.fst (slen v40.fst) 0 v36.snd).bind J6_7 else none else none := by intros; exact (f6_run ..).trans (by kernel_rfl)
theorem J6_7_0 : ∀ (x0 : Option Sl) (x1 : Option (Nat × Nat)) (x2 : Option Sl) (H : Heap), J6_7 (AExit.exit 0, X6_7 x0 x1 x2 H) = (LL6_13 x1 x2 true x0 (slen x0) 0 H).bind J6_13 := by intros; kernel_rfl
theorem J6_13_0 : ∀ (x0 : Option (Nat × Nat)) (x1 : Option Sl) (x2 : Bool) (H : Heap), J6_13 (AExit.exit 2, X6_13 x0 x1 x2 H) = bif x2 then (f29 x0 H).bind fun v43 => (v43.snd.str v43.fst).bind fun v42 => (v43.snd.str x1).bind fun v41 => bif sameS x1 H v43.snd then bif strEq v42 v41 then some (true, v43.snd) else some (false, v43.snd) else none else none := by intros; kernel_rfl
theorem ok6 : FnOk Try.prog 6 (specF enc6 (sem6 f6)) := by
  refine spec_ok (C := CC6) good6 rfl rfl rfl (by kernel_rfl) Try.func6 (c := bodyOf Try.f6) (by kernel_rfl) (by kernel_rfl) (Nat.le_of_eq Try.ntmps6.symm) dec6 enc6 de6 _ ?_
  intro args H q h
  unfold sem6 at h
  split at h
  · rw [← f6_eq]; exact h
  · cases h
