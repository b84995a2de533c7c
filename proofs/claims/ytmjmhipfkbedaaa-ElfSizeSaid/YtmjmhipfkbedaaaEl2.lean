/- Layer 3: the ropes' functions (2), in direct style. -/
import Derived.Test.YtmjmhipfkbedaaaEl1
import Derived.Test.YtmjmhipfkbedaaaAb33
import Derived.KernelRfl
namespace Go.Proofs.Ytmjmhipfkbedaaa
open Go Go.Proofs.Ytmjmhipfkbedaaa.Ab
set_option linter.unusedVariables false
set_option linter.unusedSimpArgs false
set_option maxRecDepth 100000
noncomputable section
/-- The lowest w bytes of a number, the lowest first. -/
def leB : Nat → Nat → List UInt8
  | 0, _ => []
  | w + 1, v => UInt8.ofNat v :: leB w (v / 256)
theorem leB_length : ∀ w v, (leB w v).length = w
  | 0, v => rfl
  | w + 1, v => by simp [leB, leB_length w]
theorem num_leB : ∀ w v, numB (leB w v) = v % 256 ^ w
  | 0, v => by simp [leB, numB, Nat.mod_one]
  | w + 1, v => by rw [leB, numB, num_leB w, Nat.pow_succ, Nat.mul_comm (256 ^ w) 256, Nat.mod_mul]; simp
theorem ishr_nat (v i : Nat) (h : i ≤ 64) : ishr .u64 v i = ((v / 2 ^ i : Nat) : Int) := by
  unfold ishr
  have : min ((i : Int).toNat) IntKind.u64.bits = i := by simp [IntKind.bits]; omega
  rw [this, Int.fdiv_eq_ediv_of_nonneg _ (by have := Int.pow_pos (n := 2) (m := i) (by decide); omega)]
  simp
theorem byte_of (v i : Nat) (hi : i < 8) : [Cell.int IntKind.u8 (IntKind.u8.wrap (ishr .u64 (v : Int) (IntKind.i64.wrap (8 * (i : Int)))))] = E8 (UInt8.ofNat (v / 256 ^ i)) := by
  rw [wrap_i64 (by omega) (by omega), show (8 * (i : Int)) = ((8 * i : Nat) : Int) by omega, ishr_nat v _ (by omega), wrap_u8, Nat.pow_mul]
  simp [E8]
theorem loop76 (sl : Sl) (w v : Nat) (hw : w ≤ 8) (hwl : w ≤ sl.len) (hes : sl.esz = 1) (H : Heap) (hid : sl.id < H.length) : ∀ (m n i : Nat) (row : List Cell), i + m = w → sl.off + w ≤ row.length →
    D76_1 (n + m + 1) (some sl) (v : Int) (w : Int) (i : Int) (H.set sl.id (.row row false)) = some (.exit 0, X76_1 (H.set sl.id (.row (splice row (sl.off + i) ((leB m (v / 256 ^ i)).flatMap E8)) false)))
  | 0, n, i, row, hi, hr => by
    have g : decide ((i : Int) < (w : Int)) = false := by simp; omega
    rw [D76_1_s, g, cf]
    simp only [leB, List.flatMap_nil, splice_nil]
  | m + 1, n, i, row, hi, hr => by
    have g : decide ((i : Int) < (w : Int)) = true := by simp; omega
    have g1 : decide (IntKind.i64.wrap (8 * (i : Int)) < 0) = false := by rw [wrap_i64 (by omega) (by omega)]; simp; omega
    have g2 : (inb (i : Int) sl.len && sl.esz == 1) = true := by rw [hes]; simp [inb]; omega
    have g3 : IntKind.i64.wrap ((i : Int) + 1) = ((i + 1 : Nat) : Int) := by rw [wrap_i64 (by omega) (by omega)]; omega
    have g4 : sl.off + (i : Int).toNat * 1 = sl.off + i := by simp
    have g5 := put_of (set_get' (a := .row row false) hid) (off := sl.off + i) (vs := E8 (UInt8.ofNat (v / 256 ^ i))) (by show sl.off + i + 1 ≤ row.length; omega)
    rw [set_set'] at g5
    rw [show n + (m + 1) + 1 = (n + m + 1) + 1 by omega, D76_1_s, g, g1]
    simp only [ct, cf, bs, g2, g3, g4, byte_of v i (by omega), g5]
    refine (loop76 sl w v hw hwl hes H hid m n (i + 1) _ (by omega) (by rw [splice_length (by show sl.off + i + 1 ≤ row.length; omega)]; exact hr)).trans ?_
    have e := splice_more (row := row) (off := sl.off + i) (us := E8 (UInt8.ofNat (v / 256 ^ i))) (vs := (leB m (v / 256 ^ (i + 1))).flatMap E8) (by rw [flat_len E8_len, leB_length]; show sl.off + i + 1 + m * 1 ≤ row.length; omega)
    rw [show sl.off + (i + 1) = sl.off + i + (E8 (UInt8.ofNat (v / 256 ^ i))).length by show _ = sl.off + i + 1; omega, e, Nat.pow_succ, ← Nat.div_div_eq_div_mul]
    rfl
theorem f76_spec (sl : Sl) (w v : Nat) (hw : w ≤ 8) (hwl : w ≤ sl.len) (hes : sl.esz = 1) (H : Heap) (row : List Cell) (hrow : H[sl.id]? = some (.row row false)) (hr : sl.off + w ≤ row.length) :
    f76 (some sl) (w : Int) (v : Int) H = some ((), H.set sl.id (.row (splice row sl.off ((leB w v).flatMap E8)) false)) := by
  obtain ⟨n, hn⟩ := LL76_1_of w (by omega) (some sl) (v : Int) (w : Int) 0 H
  have h := loop76 sl w v hw hwl hes H (lt_of hrow) w n 0 row (by omega) hr
  rw [set_own hrow] at h
  simp only [Nat.pow_zero, Nat.div_one, Nat.add_zero] at h
  rw [q76, hn, show D76_1 (n + w + 1) (some sl) (v : Int) (w : Int) 0 H = _ from h, bs, J76_1_0]
def EU (v : Nat) : List Cell := [.int .u64 (v : Int)]
theorem EU_len (v : Nat) : (EU v).length = 1 := rfl
def zeros8 : List Cell := [.int .u8 0, .int .u8 0, .int .u8 0, .int .u8 0, .int .u8 0, .int .u8 0, .int .u8 0, .int .u8 0]
theorem isw {w : Int} (h : bits_Is w = true) : ∃ k : Nat, w = (k : Int) ∧ (k = 1 ∨ k = 2 ∨ k = 4 ∨ k = 8) := by
  have : w = 1 ∨ w = 2 ∨ w = 4 ∨ w = 8 := by simpa [bits_Is] using h
  exact ⟨w.toNat, by omega, by omega⟩
/-- Eight bytes of which some are told. -/
theorem tmp8 (H : Heap) (w v : Nat) (hw : w ≤ 8) : ∃ H2, f76 (some ⟨H.length, 0, 8, 8, 1⟩) (w : Int) (v : Int) (H ++ [.row zeros8 false]) = some ((), H2) ∧ Kp No H H2 ∧ H2.length = H.length + 1 ∧
    Sl.sub (some ⟨H.length, 0, 8, 8, 1⟩) 0 (some (w : Int)) = some (some ⟨H.length, 0, w, 8, 1⟩) ∧ RS 1 E8 H2 (some ⟨H.length, 0, w, 8, 1⟩) (leB w v) := by
  have k1 := f76_spec ⟨H.length, 0, 8, 8, 1⟩ w v hw hw rfl (H ++ [.row zeros8 false]) zeros8 (by simp) (by simp [zeros8]; omega)
  refine ⟨_, k1, (Kp.push No H [.row zeros8 false]).trans (Kp.set _ _ _) (fun _ h => h) (fun i hi h => ?_), by simp, ?_, ⟨by simp [leB_length], rfl, hw, fun i c e => ?_⟩⟩
  · rw [show i = H.length from h] at hi; omega
  · unfold Sl.sub
    simp only [Option.getD_some]
    rw [if_pos (by omega)]
    simp
  · have hi := (List.getElem?_eq_some_iff.1 e).1
    rw [flat_len E8_len, leB_length] at hi
    rw [get_of (set_get' (by simp))]
    show (splice zeros8 0 _)[0 + i]? = _
    rw [spGet (by rw [flat_len E8_len, leB_length]; simp [zeros8]; omega), if_neg (by omega), if_pos (by rw [flat_len E8_len, leB_length]; omega), ← e]
    congr 1; omega
theorem rp_kp {F : Nat → Prop} {H H' : Heap} {id : Nat} {b : List UInt8} (h : RP F H id b) (hk : Kp No H H') : RP F H' id b := by
  obtain ⟨s, h1, h2, h3, h4, h5⟩ := h
  exact ⟨s, hk.at h1 (fun e => e), h2.kp hk (fun _ _ e => e), h3, h4, h5⟩
theorem loop50 (H0 : Heap) (x : Option Sl) (vs : List Nat) (hx : RS 1 EU H0 x vs) (w : Nat) (hw : 0 < w ∧ w ≤ 8) (hvs : vs.length ≤ 1048576) (id : Nat) (F : Nat → Prop) (h0 : ∀ sl, x = some sl → vs ≠ [] → ¬ F sl.id) : ∀ (m n i : Nat) (b : List UInt8) (H : Heap), i + m = vs.length → b.length + w * m ≤ 1048576 → RP F H id b → (∀ i, H.length ≤ i → F i) → Kp F H0 H →
    ∃ H', D50_8 (n + m + 1) (some (id, 0)) (w : Int) x (vs.length : Int) (i : Int) H = some (.exit 1, X50_8 H') ∧ RP F H' id (b ++ (vs.drop i).flatMap (leB w)) ∧ Kp F H H'
  | 0, n, i, b, H, hi, hb, hr, hF, hk => by
    have g : decide ((i : Int) < (vs.length : Int)) = false := by simp; omega
    refine ⟨H, by rw [D50_8_s, g, cf], ?_, Kp.refl _ _⟩
    rw [List.drop_eq_nil_of_le (by omega)]; simpa using hr
  | m + 1, n, i, b, H, hi, hb, hr, hF, hk => by
    have hil : i < vs.length := by omega
    have hvi : vs[i]? = some vs[i] := List.getElem?_eq_getElem hil
    have g : decide ((i : Int) < (vs.length : Int)) = true := by simp; omega
    have g3 : IntKind.i64.wrap ((i : Int) + 1) = ((i + 1 : Nat) : Int) := by rw [wrap_i64 (by omega) (by omega)]; omega
    obtain ⟨sl, rfl, g2, g4⟩ := (hx.kp hk h0).idx1 hvi (e := fun v => .int .u64 (v : Int)) fun _ => rfl
    obtain ⟨H2, t1, t2, t3, t4, t5⟩ := tmp8 H w vs[i] hw.2
    rw [Nat.mul_add, Nat.mul_one] at hb
    obtain ⟨s, s2, H3, H4, r1, r2, r3, r4, r5, r6⟩ := rp_app (rp_kp hr t2) (fun i hi => hF i (Nat.le_trans t2.len hi)) t5 (by rw [leB_length]; simp [most]; omega)
    have k4 : Kp F H H4 := t2.trans r6 (fun _ h => h.elim) fun _ _ h => h
    obtain ⟨H', j1, j2, j3⟩ := loop50 H0 (some sl) vs hx w hw hvs id F h0 m n (i + 1) _ H4 (by omega) (by rw [List.length_append, leB_length]; omega) r5 (fun i hi => hF i (Nat.le_trans k4.len hi)) (hk.trans k4 (fun _ h => h) fun _ _ h => h)
    refine ⟨H', ?_, ?_, k4.trans j3 (fun _ h => h) fun _ _ h => h⟩
    · rw [show n + (m + 1) + 1 = (n + m + 1) + 1 by omega, D50_8_s, g]
      simp only [ct, bs, g2, g3, g4, tInt]
      refine bnd t1 ?_
      simp only [bs, az, r1, tSlice, t4, r3, r4]
      exact j1
    · rw [List.drop_eq_getElem_cons hil, List.flatMap_cons, ← List.append_assoc]; exact j2
theorem rp_len {F : Nat → Prop} {H : Heap} {id : Nat} {b : List UInt8} (h : RP F H id b) : ∃ s, H.get id 0 = some (.slice s) ∧ RS 1 E8 H s b := by
  obtain ⟨s, h1, h2, _⟩ := h
  exact ⟨s, by rw [get_of h1]; rfl, h2.rs⟩
theorem room_eq {n : Nat} {α : Type} {E : α → List Cell} {H : Heap} {s : Option Sl} {l : List α} (h : RS n E H s l) (hl : l.length ≤ 1048576) (k : Int) : rope_store_room s k = decide (k + l.length ≤ 1048576) := by
  unfold rope_store_room
  rw [h.slenEq, wrap_i64 (by omega) (by omega)]
  congr 1
  rw [eq_iff_iff]; omega
theorem f50_arg (id : Nat) (w : Int) (x : Option Sl) (H : Heap) (hw : bits_Is w = false) : f50 (some (id, 0)) w x H = some (2, H) := by
  rw [q50]
  simp only [nsome, cf, ct, hw, Bool.not_false]
theorem f50_full {F : Nat → Prop} {id : Nat} {b : List UInt8} (x : Option Sl) (vs : List Nat) (w : Nat) (H : Heap) (hr : RP F H id b) (hb : b.length ≤ 1048576) (hx : RS 1 EU H x vs) (hw : bits_Is (w : Int) = true) (hv : vs.length ≤ 1048576) (hf : 1048576 < b.length + w * vs.length) : f50 (some (id, 0)) (w : Int) x H = some (4, H) := by
  obtain ⟨k, e, h8⟩ := isw hw
  have e : w = k := by omega
  subst e
  have hw0 : ((w : Int) == 0) = false := by simp; omega
  have hdiv : IntKind.i64.wrap (Int.tdiv 1048576 (w : Int)) = ((1048576 / w : Nat) : Int) := by rcases h8 with h | h | h | h <;> subst h <;> decide
  obtain ⟨q, hq⟩ : ∃ q, q = 1048576 / w := ⟨_, rfl⟩
  rw [← hq] at hdiv
  obtain ⟨s, r1, r2⟩ := rp_len hr
  rw [q50]
  by_cases hm : q < vs.length
  · have hmost : decide (slen x > IntKind.i64.wrap (Int.tdiv 1048576 (w : Int))) = true := by rw [hx.slenEq, hdiv]; simp; omega
    simp only [nsome, cf, ct, hw, Bool.not_true, hw0, hmost]
  · have hmost : decide (slen x > IntKind.i64.wrap (Int.tdiv 1048576 (w : Int))) = false := by rw [hx.slenEq, hdiv]; simp; omega
    have hmul : w * vs.length ≤ 8 * 1048576 := Nat.mul_le_mul (by omega) hv
    have hroom : rope_store_room s (IntKind.i64.wrap ((w : Int) * slen x)) = false := by
      have e : (w : Int) * (vs.length : Int) = ((w * vs.length : Nat) : Int) := by simp
      rw [hx.slenEq, e, wrap_i64 (by omega) (by omega), room_eq r2 hb]; simp; omega
    simp only [nsome, cf, ct, hw, Bool.not_true, hw0, hmost, bs, az, r1, tSlice, hroom, Bool.not_false]
theorem f50_spec {F : Nat → Prop} {id : Nat} {b : List UInt8} (x : Option Sl) (vs : List Nat) (w : Nat) (H : Heap) (hr : RP F H id b) (hF : ∀ i, H.length ≤ i → F i) (hx : RS 1 EU H x vs) (h0 : ∀ sl, x = some sl → vs ≠ [] → ¬ F sl.id) (hw : bits_Is (w : Int) = true) (hf : b.length + w * vs.length ≤ 1048576) :
    ∃ H', f50 (some (id, 0)) (w : Int) x H = some (0, H') ∧ RP F H' id (b ++ vs.flatMap (leB w)) ∧ Kp F H H' := by
  obtain ⟨k, e, h8⟩ := isw hw
  have e : w = k := by omega
  subst e
  have hw0 : ((w : Int) == 0) = false := by simp; omega
  have hdiv : IntKind.i64.wrap (Int.tdiv 1048576 (w : Int)) = ((1048576 / w : Nat) : Int) := by rcases h8 with h | h | h | h <;> subst h <;> decide
  obtain ⟨q, hq⟩ : ∃ q, q = 1048576 / w := ⟨_, rfl⟩
  rw [← hq] at hdiv
  obtain ⟨s, r1, r2⟩ := rp_len hr
  have hm : vs.length ≤ q := by rw [hq]; rcases h8 with h | h | h | h <;> subst h <;> omega
  have hvs : vs.length ≤ 1048576 := Nat.le_trans hm (by rw [hq]; exact Nat.div_le_self _ _)
  have hmost : decide (slen x > IntKind.i64.wrap (Int.tdiv 1048576 (w : Int))) = false := by rw [hx.slenEq, hdiv]; simp; omega
  have hroom : rope_store_room s (IntKind.i64.wrap ((w : Int) * slen x)) = true := by
    have e : (w : Int) * (vs.length : Int) = ((w * vs.length : Nat) : Int) := by simp
    rw [hx.slenEq, e, wrap_i64 (by omega) (by omega), room_eq r2 (by omega)]; simp; omega
  obtain ⟨n, hn⟩ := LL50_8_of vs.length (by omega) (some (id, 0)) (w : Int) x (slen x) 0 H
  obtain ⟨H', j1, j2, j3⟩ := loop50 H x vs hx w (by omega) hvs id F h0 vs.length n 0 b H (by omega) hf hr hF (Kp.refl _ _)
  refine ⟨H', ?_, j2, j3⟩
  rw [q50]
  simp only [nsome, cf, ct, hw, Bool.not_true, hw0, hmost, bs, az, r1, tSlice, hroom, hn]
  rw [hx.slenEq]
  exact bnd j1 (J50_8_0 _)
theorem g51_spec {F : Nat → Prop} {id : Nat} {b : List UInt8} (H : Heap) (hr : RP F H id b) : f51 (some (id, 0)) H = some ((b.length : Int), H) := by
  obtain ⟨s, r1, r2⟩ := rp_len hr
  rw [q51]
  simp only [nsome, cf, bs, az, r1, tSlice, r2.slenEq]
theorem f81_arg (id : Nat) (a w : Int) (H : Heap) (hw : bits_Is w = false) : f81 (some (id, 0)) a w H = some ((0, 2), H) := by
  rw [q81]
  simp only [nsome, cf, ct, hw, Bool.not_false]
theorem f81_no {F : Nat → Prop} {id : Nat} {b : List UInt8} {H : Heap} (hr : RP F H id b) (hb : b.length ≤ 1048576) (a w : Int) (hw : bits_Is w = true) (hh : hasI b.length a w = false) : f81 (some (id, 0)) a w H = some ((0, 7), H) := by
  obtain ⟨s, r1, r2⟩ := rp_len hr
  have hh' := (has_eq r2 (by omega) a w).trans hh
  rw [q81]
  simp only [nsome, cf, ct, hw, Bool.not_true, bs, az, r1, tSlice, hh', Bool.not_false]
theorem f81_spec {F : Nat → Prop} {id : Nat} {b : List UInt8} {H : Heap} (hr : RP F H id b) (hb : b.length ≤ 1048576) (a w : Nat) (hw : bits_Is (w : Int) = true) (hh : a + w ≤ b.length) : f81 (some (id, 0)) (a : Int) (w : Int) H = some ((((numB ((b.drop a).take w) : Nat) : Int), 0), H) := by
  obtain ⟨k, e, h8⟩ := isw hw
  have e : w = k := by omega
  subst e
  obtain ⟨s, r1, r2⟩ := rp_len hr
  have hh' : rope_store_has s (a : Int) (w : Int) = true := by rw [has_eq r2 (by omega)]; simp [hasI]; omega
  rw [q81]
  simp only [nsome, cf, ct, hw, Bool.not_true, bs, az, r1, tSlice, hh', f83_spec s b (by omega) a w (by omega) hh H r2]
theorem loop78 (H0 : Heap) (w : Nat) (hw : w ≤ 8) : ∀ (m n i v : Nat) (s : Option Sl) (l : List UInt8) (H : Heap), i + m = w → l.length = i → v < 18446744073709551616 → OS 1 E8 H s l → New H0.length s → Kp No H0 H →
    ∃ s' H', D78_3 (n + m + 1) (w : Int) (v : Int) s (i : Int) H = some (.exit 0, X78_3 s' H') ∧ OS 1 E8 H' s' (l ++ leB m v) ∧ New H0.length s' ∧ Kp No H0 H'
  | 0, n, i, v, s, l, H, hi, hl, hv, ho, hs, hk => by
    have g : decide ((i : Int) < (w : Int)) = false := by simp; omega
    exact ⟨s, H, by rw [D78_3_s, g, cf], by simpa [leB] using ho, hs, hk⟩
  | m + 1, n, i, v, s, l, H, hi, hl, hv, ho, hs, hk => by
    have g : decide ((i : Int) < (w : Int)) = true := by simp; omega
    have g3 : IntKind.i64.wrap ((i : Int) + 1) = ((i + 1 : Nat) : Int) := by rw [wrap_i64 (by omega) (by omega)]; omega
    have g5 : IntKind.u8.wrap ((v : Int).tmod 256) = (((UInt8.ofNat v).toNat : Nat) : Int) := by
      rw [show ((256 : Int)) = ((256 : Nat) : Int) from rfl, ← Int.ofNat_tmod, wrap_u8]; simp
    have g6 : IntKind.u64.wrap ((v : Int).tdiv 256) = ((v / 256 : Nat) : Int) := by
      rw [show ((256 : Int)) = ((256 : Nat) : Int) from rfl, ← Int.ofNat_tdiv, wrap_u64]; omega
    have kp : Kp No H (H ++ [.row [Cell.int .u8 (((UInt8.ofNat v).toNat : Nat) : Int)] false]) := Kp.push _ _ _
    obtain ⟨s', H', a1, a2, a3, a4⟩ := append_OS E8_len (by decide) (by' := 1) (x := some { id := H.length, off := 0, len := 1, cap := 1, esz := 1 }) (m := [UInt8.ofNat v]) (ho.kp kp fun _ _ h => h) ⟨rfl, rfl, Nat.le_refl _, fun j c e => by
      show Heap.get _ H.length (0 + j) = some c
      rw [za, get_of (push_get _ _)]; exact e⟩ (by simp [most]; omega)
    have hl0 := hk.len
    obtain ⟨s2, H2, j1, j2, j3, j4⟩ := loop78 H0 w hw m n (i + 1) (v / 256) s' (l ++ [UInt8.ofNat v]) H' (by omega) (by simp; omega) (by omega) a2 (fun sl e => by
      rcases a4 sl e with ⟨sl0, e0, e1⟩ | h
      · rw [e1]; exact hs sl0 e0
      · simp at h; omega) ((hk.trans kp (D := No) (fun _ h => h) fun _ _ h => h).trans a3 (fun _ h => h) fun j hj ⟨sl, e, e1⟩ => by have := hs sl e; omega)
    refine ⟨s2, H2, ?_, by simpa [leB] using j2, j3, j4⟩
    rw [show n + (m + 1) + 1 = (n + m + 1) + 1 by omega, D78_3_s, g]
    simp only [ct, g5, g6, g3, a1, bs]
    exact j1
theorem f78_spec (w v : Nat) (hw : w ≤ 8) (hv : v < 18446744073709551616) (H : Heap) : ∃ s' H', f78 (w : Int) (v : Int) H = some (s', H') ∧ OS 1 E8 H' s' (leB w v) ∧ Kp No H H' ∧ New H.length s' := by
  obtain ⟨n, hn⟩ := LL78_3_of w (by omega) (w : Int) (v : Int) none 0 H
  obtain ⟨s', H', j1, j2, j3, j4⟩ := loop78 H w hw w n 0 v none [] H (by omega) rfl hv rfl (fun _ e => nomatch e) (Kp.refl _ _)
  refine ⟨s', H', ?_, by simpa using j2, j4, j3⟩
  rw [q78, hn]
  exact bnd j1 (J78_3_0 _ _)
/-! 24: rope_Rope_Bytes -/
noncomputable def CC24 : Ctx := { P := Try.prog, own := [], fns := [(56, specF enc56 (sem56 f56))], nt := 11, nums := [], live := [] }
theorem good24 : Callees Try.prog CC24.fns [] CC24.nums := (Callees.nil Try.prog).cons ok56 (specF_nat _ _)
theorem hN24 : CtxNat CC24 := good24.ctx rfl rfl rfl
def enc24 (r : (Option Sl)) : List TV := [.c (Cell.slice (r))]
def dec24 : AV → Option ((Option Sl))
  | .c (Cell.slice q0) => some (q0)
  | _ => none
theorem de24 (v : AV) (r : (Option Sl)) (h : dec24 v = some r) : v = oneOf (enc24 r) := by
  unfold dec24 at h
  split at h
  · cases h; rfl
  · cases h
abbrev Ty24 := (Option (Nat × Nat)) → Heap → Option ((Option Sl) × Heap)
def sem24 (f : Ty24) : List TV → Heap → Option ((Option Sl) × Heap)
  | [.c (Cell.ptr r)], H => f r H
  | _, _ => none
noncomputable def f24 : Ty24 := hide fun r H => fnA CC24 Try.f24.results.toList (bodyOf Try.f24) _ [.c (Cell.ptr r)] H (decF dec24)
theorem f24_eq (r : (Option (Nat × Nat))) (H : Heap) : f24 r H = fnA CC24 Try.f24.results.toList (bodyOf Try.f24) _ [.c (Cell.ptr r)] H (decF dec24) := by unfold f24; rw [hide_eq]
theorem f24_run (r : (Option (Nat × Nat))) (H : Heap) : f24 r H = fnL CC24 (lpD CC24) Try.f24.results.toList (bodyOf Try.f24) [.c (Cell.ptr r)] H (decF dec24) := (f24_eq ..).trans (fnA_lpD hN24 ..)
theorem q24 : ∀ (r : Option (Nat × Nat)) (H : Heap), f24 r H = bif r.isNone then some (none, H) else r.bind fun v3 => (H.get v3.fst (v3.snd + 0 + 0)).bind fun v2 => v2.toSlice.bind fun v1 => (f56 v1 H).bind fun v0 => some (v0.fst, v0.snd) := by intros; exact (f24_run ..).trans (by kernel_rfl)
theorem ok24 : FnOk Try.prog 24 (specF enc24 (sem24 f24)) := by
  refine spec_ok (C := CC24) good24 rfl rfl rfl (by kernel_rfl) Try.func24 (c := bodyOf Try.f24) (by kernel_rfl) (by kernel_rfl) (Nat.le_of_eq Try.ntmps24.symm) dec24 enc24 de24 _ ?_
  intro args H q h
  unfold sem24 at h
  split at h
  · rw [← f24_eq]; exact h
  · cases h
theorem f24_spec {F : Nat → Prop} {id : Nat} {b : List UInt8} {H : Heap} (hr : RP F H id b) (hb : b.length ≤ 1048576) : ∃ s' H', f24 (some (id, 0)) H = some (s', H') ∧ OS 1 E8 H' s' b ∧ Kp No H H' ∧ New H.length s' := by
  obtain ⟨s, r1, r2⟩ := rp_len hr
  obtain ⟨s', H', d1, d2, d3, d4⟩ := f56_spec s b H r2 (by simp [most]; omega)
  refine ⟨s', H', ?_, d2, d3, d4⟩
  rw [q24]
  simp only [nsome, cf, bs, az, r1, tSlice, d1]
/-! 73: rope_store_total -/
noncomputable def CC73 : Ctx := { P := Try.prog, own := [2], fns := [(75, F75)], nt := 27, nums := [75], live := [(3, ⟨[2, 5, 8, 9, 10], [2], [2, 4, 5], [2]⟩)] }
theorem good73 : Callees Try.prog CC73.fns [] CC73.nums := (Callees.nil Try.prog).cons_num ok75 F75_num
theorem hN73 : CtxNat CC73 := good73.ctx rfl rfl rfl
def enc73 (r : Bool) : List TV := [.c (Cell.bool (r))]
def dec73 : AV → Option (Bool)
  | .c (Cell.bool q0) => some (q0)
  | _ => none
theorem de73 (v : AV) (r : Bool) (h : dec73 v = some r) : v = oneOf (enc73 r) := by
  unfold dec73 at h
  split at h
  · cases h; rfl
  · cases h
abbrev Ty73 := (Option Sl) → (Option Sl) → Heap → Option (Bool × Heap)
def sem73 (f : Ty73) : List TV → Heap → Option (Bool × Heap)
  | [.agg [Cell.slice s], .c (Cell.slice parts)], H => f s parts H
  | _, _ => none
noncomputable def f73 : Ty73 := hide fun s parts H => fnA CC73 Try.f73.results.toList (bodyOf Try.f73) _ [.agg [Cell.slice s], .c (Cell.slice parts)] H (decF dec73)
theorem f73_eq (s : (Option Sl)) (parts : (Option Sl)) (H : Heap) : f73 s parts H = fnA CC73 Try.f73.results.toList (bodyOf Try.f73) _ [.agg [Cell.slice s], .c (Cell.slice parts)] H (decF dec73) := by unfold f73; rw [hide_eq]
theorem f73_run (s : (Option Sl)) (parts : (Option Sl)) (H : Heap) : f73 s parts H = fnL CC73 (lpD CC73) Try.f73.results.toList (bodyOf Try.f73) [.agg [Cell.slice s], .c (Cell.slice parts)] H (decF dec73) := (f73_eq ..).trans (fnA_lpD hN73 ..)
def S73_3 (t5 : Int) (t8 : (Option Sl)) (t9 : Int) (t10 : Int) (b2_ : (Option Sl)) (H : Heap) : St := ⟨[(2, .lp 2 0), (5, .c (Cell.int .i64 t5)), (8, .c (Cell.slice t8)), (9, .c (Cell.int .i64 t9)), (10, .c (Cell.int .i64 t10))], [(2, [Cell.slice b2_])], H⟩
noncomputable def D73_3 (n : Nat) (t5 : Int) (t8 : (Option Sl)) (t9 : Int) (t10 : Int) (b2_ : (Option Sl)) (H : Heap) : Option (AExit × St) := loopN (exec CC73 (Code.l (Code.l (Code.r (Code.l (Code.r (Code.r (bodyOf Try.f73)))))))) (keepOf CC73.live (Code.l (Code.l (Code.r (Code.l (Code.r (Code.r (bodyOf Try.f73)))))))) n (S73_3 t5 t8 t9 t10 b2_ H) retD
noncomputable def LL73_3 (t5 : Int) (t8 : (Option Sl)) (t9 : Int) (t10 : Int) (b2_ : (Option Sl)) (H : Heap) : Option (AExit × St) := loopsD CC73 (Code.l (Code.l (Code.r (Code.l (Code.r (Code.r (bodyOf Try.f73))))))) (S73_3 t5 t8 t9 t10 b2_ H)
theorem LL73_3_of (m : Nat) (hm : m < 18446744073709551616) (t5 : Int) (t8 : (Option Sl)) (t9 : Int) (t10 : Int) (b2_ : (Option Sl)) (H : Heap) : ∃ n, LL73_3 t5 t8 t9 t10 b2_ H = D73_3 (n + m + 1) t5 t8 t9 t10 b2_ H := loopsD_of _ _ _ m hm
def X73_3 (x0 : Bool) (x1 : Int) (x2 : Option Sl) (H : Heap) : St := { env := [(2, AV.lp 2 0), (4, AV.c (Cell.bool x0)), (5, AV.c (Cell.int IntKind.i64 x1))], loc := [(2, [Cell.slice x2])], heap := H }
def X73_3a (x0 : Int) (x1 : Option Sl) (H : Heap) : St := { env := [(2, AV.lp 2 0), (5, AV.c (Cell.int IntKind.i64 x0))], loc := [(2, [Cell.slice x1])], heap := H }
noncomputable def J73_3 : AExit × St → Option (Bool × Heap) := fun p => blockK 0 (seqK (execL CC73 (lpD CC73) (Code.r (Code.r (Code.r (bodyOf Try.f73))))) (retA CC73 [ResultVar.tmp 4] (decF dec73))) p.fst p.snd
theorem D73_3_s : ∀ (n : Nat) (t5 : Int) (t8 : Option Sl) (t9 t10 : Int) (b2_ : Option Sl) (H : Heap), D73_3 (n + 1) t5 t8 t9 t10 b2_ H = bif decide (t10 < t9) then t8.bind fun v2 => bif inb t10 v2.len && v2.esz == 1 then (H.get v2.id (v2.off + t10.toNat * 1)).bind fun v1 => v1.toSlice.bind fun v0 => bif decide (slen v0 > IntKind.i64.wrap (1048576 - t5)) then some (AExit.ret, X73_3 false t5 b2_ H) else D73_3 n (IntKind.i64.wrap (t5 + slen v0)) t8 t9 (IntKind.i64.wrap (t10 + 1)) b2_ H else none else some (AExit.exit 0, X73_3a t5 b2_ H) := by intros; exact (loopN_stepD hN73 _ _ _ _).trans (by kernel_rfl)
theorem q73 : ∀ (s parts : Option Sl) (H : Heap), f73 s parts H = (LL73_3 0 parts (slen parts) 0 s H).bind J73_3 := by intros; exact (f73_run ..).trans (by kernel_rfl)
theorem J73_3_0 : ∀ (x0 : Bool) (x1 : Int) (x2 : Option Sl) (H : Heap), J73_3 (AExit.ret, X73_3 x0 x1 x2 H) = some (x0, H) := by intros; kernel_rfl
theorem J73_3_1 : ∀ (x0 : Int) (x1 : Option Sl) (H : Heap), J73_3 (AExit.exit 0, X73_3a x0 x1 H) = some (rope_store_room x1 x0, H) := by intros; kernel_rfl
theorem ok73 : FnOk Try.prog 73 (specF enc73 (sem73 f73)) := by
  refine spec_ok (C := CC73) good73 rfl rfl rfl (by kernel_rfl) Try.func73 (c := bodyOf Try.f73) (by kernel_rfl) (by kernel_rfl) (Nat.le_of_eq Try.ntmps73.symm) dec73 enc73 de73 _ ?_
  intro args H q h
  unfold sem73 at h
  split at h
  · rw [← f73_eq]; exact h
  · cases h
/-- How many bytes parts have. -/
def total (ls : List (List UInt8)) : Nat := (ls.map List.length).sum
theorem total_cons (l : List UInt8) (ls : List (List UInt8)) : total (l :: ls) = l.length + total ls := by simp [total]
theorem loop73 (t : Option Sl) (ls : List (List UInt8)) (H : Heap) (ht : RSS H t ls) (hlen : ls.length ≤ 4611686018427387904) (s : Option Sl) : ∀ (m n i k : Nat), i + m = ls.length → k ≤ 1048576 →
    (k + total (ls.drop i) ≤ 1048576 → D73_3 (n + m + 1) (k : Int) t (ls.length : Int) (i : Int) s H = some (.exit 0, X73_3a ((k + total (ls.drop i) : Nat) : Int) s H)) ∧
    (1048576 < k + total (ls.drop i) → ∃ x, D73_3 (n + m + 1) (k : Int) t (ls.length : Int) (i : Int) s H = some (.ret, X73_3 false x s H))
  | 0, n, i, k, hi, hk => by
    have g : decide ((i : Int) < (ls.length : Int)) = false := by simp; omega
    have e : total (ls.drop i) = 0 := by rw [List.drop_eq_nil_of_le (by omega)]; rfl
    rw [e]
    exact ⟨fun _ => by rw [D73_3_s, g, cf]; rfl, fun h => by omega⟩
  | m + 1, n, i, k, hi, hk => by
    have hil : i < ls.length := by omega
    have hli : ls[i]? = some ls[i] := List.getElem?_eq_getElem hil
    have ht0 := ht
    obtain ⟨ps, p1, p2, p3⟩ := ht
    have hpi : ps[i]? = some ps[i] := List.getElem?_eq_getElem (by omega)
    have hp := p3 i _ _ hpi hli
    generalize hp0 : ps[i]'(by omega) = p at *
    have g : decide ((i : Int) < (ls.length : Int)) = true := by simp; omega
    have g3 : IntKind.i64.wrap ((i : Int) + 1) = ((i + 1 : Nat) : Int) := by rw [wrap_i64 (by omega) (by omega)]; omega
    obtain ⟨sl, rfl, g2, g4⟩ := p1.idx1 hpi (e := fun s => .slice s) fun _ => rfl
    have e : total (ls.drop i) = ls[i].length + total (ls.drop (i + 1)) := by rw [List.drop_eq_getElem_cons hil, total_cons]
    have gw : IntKind.i64.wrap (1048576 - (k : Int)) = 1048576 - (k : Int) := wrap_i64 (by omega) (by omega)
    rw [show n + (m + 1) + 1 = (n + m + 1) + 1 by omega, D73_3_s, g, e]
    by_cases hbig : 1048576 < k + ls[i].length
    · have gb : decide (slen p > IntKind.i64.wrap (1048576 - (k : Int))) = true := by rw [hp.slenEq, gw]; simp; omega
      refine ⟨fun h => by omega, fun _ => ⟨(k : Int), ?_⟩⟩
      simp only [ct, bs, g2, g4, tSlice, gb]
    · have gb : decide (slen p > IntKind.i64.wrap (1048576 - (k : Int))) = false := by rw [hp.slenEq, gw]; simp; omega
      have gk : IntKind.i64.wrap ((k : Int) + slen p) = ((k + ls[i].length : Nat) : Int) := by rw [hp.slenEq, wrap_i64 (by omega) (by omega)]; omega
      simp only [ct, cf, bs, g2, g3, g4, tSlice, gb, gk]
      rw [← Nat.add_assoc]
      exact loop73 (some sl) ls H ht0 hlen s m n (i + 1) (k + ls[i].length) (by omega) (by omega)
theorem f73_spec {H : Heap} {s t : Option Sl} {b : List UInt8} {ls : List (List UInt8)} (hs : RS 1 E8 H s b) (hb : b.length ≤ 1048576) (ht : RSS H t ls) (hlen : ls.length ≤ 4611686018427387904) : f73 s t H = some (decide (total ls + b.length ≤ 1048576), H) := by
  have hsl : slen t = (ls.length : Int) := by
    obtain ⟨ps, p1, p2, _⟩ := ht
    rw [p1.slenEq, p2]
  obtain ⟨n, hn⟩ := LL73_3_of ls.length (by omega) 0 t (ls.length : Int) 0 s H
  obtain ⟨j1, j2⟩ := loop73 t ls H ht hlen s ls.length n 0 0 (by omega) (by omega)
  rw [q73, hsl, hn]
  simp only [List.drop_zero, Nat.zero_add] at j1 j2
  by_cases h : total ls ≤ 1048576
  · refine bnd (j1 h) ?_
    rw [J73_3_1, room_eq hs hb]
    simp only [Option.some.injEq, Prod.mk.injEq, and_true]
    congr 1
    rw [eq_iff_iff]; omega
  · obtain ⟨x, j⟩ := j2 (by omega)
    refine bnd j ?_
    rw [J73_3_0]
    have : decide (total ls + b.length ≤ 1048576) = false := by simp; omega
    rw [this]
/-! 49: rope_Rope_Raw -/
noncomputable def CC49 : Ctx := { P := Try.prog, own := [], fns := [(73, specF enc73 (sem73 f73))], nt := 35, nums := [], live := [(2, ⟨[0, 17, 18, 19], [], [], []⟩)] }
theorem good49 : Callees Try.prog CC49.fns [] CC49.nums := (Callees.nil Try.prog).cons ok73 (specF_nat _ _)
theorem hN49 : CtxNat CC49 := good49.ctx rfl rfl rfl
def enc49 (r : Unit) : List TV := []
def dec49 : AV → Option (Unit)
  | .tup [] => some ()
  | _ => none
theorem de49 (v : AV) (r : Unit) (h : dec49 v = some r) : v = oneOf (enc49 r) := by
  unfold dec49 at h
  split at h
  · cases h; rfl
  · cases h
abbrev Ty49 := (Option (Nat × Nat)) → (Option Sl) → Heap → Option (Unit × Heap)
def sem49 (f : Ty49) : List TV → Heap → Option (Unit × Heap)
  | [.c (Cell.ptr r), .c (Cell.slice parts)], H => f r parts H
  | _, _ => none
noncomputable def f49 : Ty49 := hide fun r parts H => fnA CC49 Try.f49.results.toList (bodyOf Try.f49) _ [.c (Cell.ptr r), .c (Cell.slice parts)] H (decF dec49)
theorem f49_eq (r : (Option (Nat × Nat))) (parts : (Option Sl)) (H : Heap) : f49 r parts H = fnA CC49 Try.f49.results.toList (bodyOf Try.f49) _ [.c (Cell.ptr r), .c (Cell.slice parts)] H (decF dec49) := by unfold f49; rw [hide_eq]
theorem f49_run (r : (Option (Nat × Nat))) (parts : (Option Sl)) (H : Heap) : f49 r parts H = fnL CC49 (lpD CC49) Try.f49.results.toList (bodyOf Try.f49) [.c (Cell.ptr r), .c (Cell.slice parts)] H (decF dec49) := (f49_eq ..).trans (fnA_lpD hN49 ..)
def S49_2 (t0 : (Option (Nat × Nat))) (t17 : (Option Sl)) (t18 : Int) (t19 : Int) (H : Heap) : St := ⟨[(0, .c (Cell.ptr t0)), (17, .c (Cell.slice t17)), (18, .c (Cell.int .i64 t18)), (19, .c (Cell.int .i64 t19))], [], H⟩
noncomputable def D49_2 (n : Nat) (t0 : (Option (Nat × Nat))) (t17 : (Option Sl)) (t18 : Int) (t19 : Int) (H : Heap) : Option (AExit × St) := loopN (exec CC49 (Code.l (Code.l (Code.r (Code.r (bodyOf Try.f49)))))) (keepOf CC49.live (Code.l (Code.l (Code.r (Code.r (bodyOf Try.f49)))))) n (S49_2 t0 t17 t18 t19 H) retD
noncomputable def LL49_2 (t0 : (Option (Nat × Nat))) (t17 : (Option Sl)) (t18 : Int) (t19 : Int) (H : Heap) : Option (AExit × St) := loopsD CC49 (Code.l (Code.l (Code.r (Code.r (bodyOf Try.f49))))) (S49_2 t0 t17 t18 t19 H)
theorem LL49_2_of (m : Nat) (hm : m < 18446744073709551616) (t0 : (Option (Nat × Nat))) (t17 : (Option Sl)) (t18 : Int) (t19 : Int) (H : Heap) : ∃ n, LL49_2 t0 t17 t18 t19 H = D49_2 (n + m + 1) t0 t17 t18 t19 H := loopsD_of _ _ _ m hm
def X49_2 (H : Heap) : St := { env := [], loc := [], heap := H }
noncomputable def J49_2 : AExit × St → Option (Unit × Heap) := fun p => blockK 0 (retA CC49 [] (decF dec49)) p.fst p.snd
theorem D49_2_s : ∀ (n : Nat) (t0 : Option (Nat × Nat)) (t17 : Option Sl) (t18 t19 : Int) (H : Heap), D49_2 (n + 1) t0 t17 t18 t19 H = bif decide (t19 < t18) then t17.bind fun v8 => bif inb t19 v8.len && v8.esz == 1 then (H.get v8.id (v8.off + t19.toNat * 1)).bind fun v7 => v7.toSlice.bind fun v6 => t0.bind fun v5 => (H.get v5.fst (v5.snd + 0 + 0)).bind fun v4 => v4.toSlice.bind fun v3 => (H.append 1 1 v3 v6).bind fun v2 => t0.bind fun v1 => (v2.snd.put v1.fst (v1.snd + 0 + 0) [Cell.slice v2.fst]).bind fun v0 => D49_2 n t0 t17 t18 (IntKind.i64.wrap (t19 + 1)) v0 else none else some (AExit.exit 0, X49_2 H) := by intros; exact (loopN_stepD hN49 _ _ _ _).trans (by kernel_rfl)
theorem q49 : ∀ (r : Option (Nat × Nat)) (parts : Option Sl) (H : Heap), f49 r parts H = bif r.isNone then some ((), H) else r.bind fun v12 => (H.get v12.fst (v12.snd + 0)).bind fun v11 => v11.toSlice.bind fun v10 => (f73 v10 parts H).bind fun v9 => bif !v9.fst then some ((), v9.snd) else (LL49_2 r parts (slen parts) 0 v9.snd).bind J49_2 := by intros; exact (f49_run ..).trans (by kernel_rfl)
theorem J49_2_0 : ∀ (H : Heap), J49_2 (AExit.exit 0, X49_2 H) = some ((), H) := by intros; kernel_rfl
theorem ok49 : FnOk Try.prog 49 (specF enc49 (sem49 f49)) := by
  refine spec_ok (C := CC49) good49 rfl rfl rfl (by kernel_rfl) Try.func49 (c := bodyOf Try.f49) (by kernel_rfl) (by kernel_rfl) (Nat.le_of_eq Try.ntmps49.symm) dec49 enc49 de49 _ ?_
  intro args H q h
  unfold sem49 at h
  split at h
  · rw [← f49_eq]; exact h
  · cases h
theorem loop49 (H0 : Heap) (t : Option Sl) (ls : List (List UInt8)) (ht : RSS H0 t ls) (hlen : ls.length ≤ 4611686018427387904) (id : Nat) (F : Nat → Prop) : ∀ (m n i : Nat) (b : List UInt8) (H : Heap), i + m = ls.length → b.length + total (ls.drop i) ≤ 1048576 → RP F H id b → (∀ i, H.length ≤ i → F i) → RSS H t ls → (∀ H', Kp F H H' → RSS H' t ls) →
    ∃ H', D49_2 (n + m + 1) (some (id, 0)) t (ls.length : Int) (i : Int) H = some (.exit 0, X49_2 H') ∧ RP F H' id (b ++ (ls.drop i).flatten) ∧ Kp F H H'
  | 0, n, i, b, H, hi, hb, hr, hF, hs, hk => by
    have g : decide ((i : Int) < (ls.length : Int)) = false := by simp; omega
    refine ⟨H, by rw [D49_2_s, g, cf], ?_, Kp.refl _ _⟩
    rw [List.drop_eq_nil_of_le (by omega)]; simpa using hr
  | m + 1, n, i, b, H, hi, hb, hr, hF, hs, hk => by
    have hil : i < ls.length := by omega
    have hli : ls[i]? = some ls[i] := List.getElem?_eq_getElem hil
    obtain ⟨ps, p1, p2, p3⟩ := hs
    have hpi : ps[i]? = some ps[i] := List.getElem?_eq_getElem (by omega)
    have hp := p3 i _ _ hpi hli
    generalize hp0 : ps[i]'(by omega) = p at *
    have g : decide ((i : Int) < (ls.length : Int)) = true := by simp; omega
    have g3 : IntKind.i64.wrap ((i : Int) + 1) = ((i + 1 : Nat) : Int) := by rw [wrap_i64 (by omega) (by omega)]; omega
    obtain ⟨sl, rfl, g2, g4⟩ := p1.idx1 hpi (e := fun s => .slice s) fun _ => rfl
    have e : total (ls.drop i) = ls[i].length + total (ls.drop (i + 1)) := by rw [List.drop_eq_getElem_cons hil, total_cons]
    obtain ⟨s, s2, H1, H2, r1, r2, r3, r4, r5, r6⟩ := rp_app hr hF hp (by simp [most]; omega)
    obtain ⟨H', j1, j2, j3⟩ := loop49 H0 (some sl) ls ht hlen id F m n (i + 1) _ H2 (by omega) (by rw [List.length_append]; omega) r5 (fun i hi => hF i (Nat.le_trans r6.len hi)) (hk _ r6) fun H' k => hk H' (r6.trans k (fun _ h => h) fun _ _ h => h)
    refine ⟨H', ?_, ?_, r6.trans j3 (fun _ h => h) fun _ _ h => h⟩
    · rw [show n + (m + 1) + 1 = (n + m + 1) + 1 by omega, D49_2_s, g]
      simp only [ct, bs, g2, g3, g4, tSlice, az, r1, r3, r4]
      exact j1
    · rw [List.drop_eq_getElem_cons hil, List.flatten_cons, ← List.append_assoc]; exact j2
theorem f49_full {F : Nat → Prop} {id : Nat} {b : List UInt8} {H : Heap} {t : Option Sl} {ls : List (List UInt8)} (hr : RP F H id b) (hb : b.length ≤ 1048576) (ht : RSS H t ls) (hlen : ls.length ≤ 4611686018427387904) (hf : 1048576 < total ls + b.length) : f49 (some (id, 0)) t H = some ((), H) := by
  obtain ⟨s, r1, r2⟩ := rp_len hr
  have : decide (total ls + b.length ≤ 1048576) = false := by simp; omega
  rw [q49]
  simp only [nsome, ct, cf, bs, az, r1, tSlice, f73_spec r2 hb ht hlen, this, Bool.not_false]
theorem f49_spec {F : Nat → Prop} {id : Nat} {b : List UInt8} {H : Heap} {t : Option Sl} {ls : List (List UInt8)} (hr : RP F H id b) (ht : RSS H t ls) (hF : ∀ i, H.length ≤ i → F i) (hk : ∀ H', Kp F H H' → RSS H' t ls) (hlen : ls.length ≤ 4611686018427387904) (hf : total ls + b.length ≤ 1048576) :
    ∃ H', f49 (some (id, 0)) t H = some ((), H') ∧ RP F H' id (b ++ ls.flatten) ∧ Kp F H H' := by
  obtain ⟨s, r1, r2⟩ := rp_len hr
  have hsl : slen t = (ls.length : Int) := by
    obtain ⟨ps, p1, p2, _⟩ := ht
    rw [p1.slenEq, p2]
  have hd : decide (total ls + b.length ≤ 1048576) = true := by simp; omega
  obtain ⟨n, hn⟩ := LL49_2_of ls.length (by omega) (some (id, 0)) t (ls.length : Int) 0 H
  obtain ⟨H', j1, j2, j3⟩ := loop49 H t ls ht hlen id F ls.length n 0 b H (by omega) (by rw [List.drop_zero]; omega) hr hF ht hk
  refine ⟨H', ?_, j2, j3⟩
  rw [q49]
  simp only [nsome, cf, bs, az, r1, tSlice, f73_spec r2 (by omega) ht hlen, hd, Bool.not_true, hsl, hn]
  exact bnd j1 (J49_2_0 _)
/-! 52: rope_Rope_Pad -/
noncomputable def CC52 : Ctx := { P := Try.prog, own := [], fns := [(75, F75)], nt := 46, nums := [75], live := [] }
theorem good52 : Callees Try.prog CC52.fns [] CC52.nums := (Callees.nil Try.prog).cons_num ok75 F75_num
theorem hN52 : CtxNat CC52 := good52.ctx rfl rfl rfl
def enc52 (r : Int) : List TV := [.c (Cell.int .i64 (r))]
def dec52 : AV → Option (Int)
  | .c (Cell.int .i64 q0) => some (q0)
  | _ => none
theorem de52 (v : AV) (r : Int) (h : dec52 v = some r) : v = oneOf (enc52 r) := by
  unfold dec52 at h
  split at h
  · cases h; rfl
  · cases h
abbrev Ty52 := (Option (Nat × Nat)) → Int → Heap → Option (Int × Heap)
def sem52 (f : Ty52) : List TV → Heap → Option (Int × Heap)
  | [.c (Cell.ptr r), .c (Cell.int .i64 to)], H => f r to H
  | _, _ => none
noncomputable def f52 : Ty52 := hide fun r to H => fnA CC52 Try.f52.results.toList (bodyOf Try.f52) _ [.c (Cell.ptr r), .c (Cell.int .i64 to)] H (decF dec52)
theorem f52_eq (r : (Option (Nat × Nat))) (to : Int) (H : Heap) : f52 r to H = fnA CC52 Try.f52.results.toList (bodyOf Try.f52) _ [.c (Cell.ptr r), .c (Cell.int .i64 to)] H (decF dec52) := by unfold f52; rw [hide_eq]
theorem f52_run (r : (Option (Nat × Nat))) (to : Int) (H : Heap) : f52 r to H = fnL CC52 (lpD CC52) Try.f52.results.toList (bodyOf Try.f52) [.c (Cell.ptr r), .c (Cell.int .i64 to)] H (decF dec52) := (f52_eq ..).trans (fnA_lpD hN52 ..)
theorem q52 : ∀ (r : Option (Nat × Nat)) (to : Int) (H : Heap), f52 r to H = bif r.isNone then some (1, H) else bif decide (to < 1) then some (2, H) else bif decide (to > 65536) then some (2, H) else r.bind fun v11 => (H.get v11.fst (v11.snd + 0 + 0)).bind fun v10 => v10.toSlice.bind fun v9 => bif to == 0 then none else bif to == 0 then none else r.bind fun v8 => (H.get v8.fst (v8.snd + 0)).bind fun v7 => v7.toSlice.bind fun v6 => bif !rope_store_room v6 ((IntKind.i64.wrap (to - (slen v9).tmod to)).tmod to) then some (4, H) else r.bind fun v5 => (H.get v5.fst (v5.snd + 0 + 0)).bind fun v4 => v4.toSlice.bind fun v3 => (H.appendZ 1 1 v3 [Cell.int IntKind.u8 0] ((IntKind.i64.wrap (to - (slen v9).tmod to)).tmod to)).bind fun v2 => r.bind fun v1 => (v2.snd.put v1.fst (v1.snd + 0 + 0) [Cell.slice v2.fst]).bind fun v0 => some (0, v0) := by intros; exact (f52_run ..).trans (by kernel_rfl)
theorem ok52 : FnOk Try.prog 52 (specF enc52 (sem52 f52)) := by
  refine spec_ok (C := CC52) good52 rfl rfl rfl (by kernel_rfl) Try.func52 (c := bodyOf Try.f52) (by kernel_rfl) (by kernel_rfl) (Nat.le_of_eq Try.ntmps52.symm) dec52 enc52 de52 _ ?_
  intro args H q h
  unfold sem52 at h
  split at h
  · rw [← f52_eq]; exact h
  · cases h
theorem rp_appZ {F : Nat → Prop} {H : Heap} {id : Nat} {b : List UInt8} (h : RP F H id b) (hF : ∀ i, H.length ≤ i → F i) (k : Nat) (hb : b.length + k ≤ most) :
    ∃ s s' H1 H2, H.get id 0 = some (.slice s) ∧ slen s = (b.length : Int) ∧ H.appendZ 1 1 s [Cell.int .u8 0] (k : Int) = some (s', H1) ∧ H1.put id 0 [.slice s'] = some H2 ∧ RP F H2 id (b ++ List.replicate k 0) ∧ Kp F H H2 := by
  obtain ⟨s, h1, h2, h3, h4, h5⟩ := h
  obtain ⟨s', H1, a1, a2, a3, a4⟩ := app_OS E8_len (by' := 1) (m := List.replicate k (0 : UInt8)) h2 (by simp; omega)
  have hid := lt_of h1
  have g1 : H1[id]? = some (.row [.slice s] false) := a3.at h1 (by rintro ⟨sl, e, e1⟩; exact h3 sl e e1.symm)
  have hne : ∀ sl', s' = some sl' → sl'.id ≠ id := fun sl' e => by
    rcases a4 sl' e with ⟨sl, e0, e1⟩ | h
    · rw [e1]; exact h3 sl e0
    · omega
  have hz : H.appendZ 1 1 s [Cell.int .u8 0] (k : Int) = some (s', H1) := by
    unfold Heap.appendZ
    rw [if_pos (by unfold most at hb ⊢; omega), Int.toNat_natCast, show [Cell.int .u8 0] = E8 0 from rfl, rep_flat]
    simpa using a1
  refine ⟨s, s', H1, _, by rw [get_of h1]; rfl, h2.rs.slenEq, hz, put_of g1 (by simp), ⟨s', set_get' (lt_of g1), a2.kp (Kp.set _ _ _) (fun sl e => hne sl e), hne, h4, fun sl' e => ?_⟩, ?_⟩
  · rcases a4 sl' e with ⟨sl, e0, e1⟩ | h
    · rw [e1]; exact h5 sl e0
    · exact hF _ h
  · refine a3.trans (Kp.set _ _ _) (fun i hi => ?_) fun i _ hi => ?_
    · obtain ⟨sl, e0, e1⟩ := hi; rw [e1]; exact h5 sl e0
    · rw [show i = id from hi]; exact h4
/-- How many noughts. -/
def padN (L t : Nat) : Nat := (t - L % t) % t
theorem pad_eq (L t : Nat) (h1 : 1 ≤ t) (h2 : t ≤ 65536) : (IntKind.i64.wrap ((t : Int) - ((L : Nat) : Int).tmod (t : Int))).tmod (t : Int) = ((padN L t : Nat) : Int) := by
  have hm : L % t < t := Nat.mod_lt _ (by omega)
  rw [← Int.ofNat_tmod, wrap_i64 (by omega) (by omega), show (t : Int) - ((L % t : Nat) : Int) = ((t - L % t : Nat) : Int) by omega, ← Int.ofNat_tmod]
  rfl
theorem f52_arg (id : Nat) (t : Int) (H : Heap) (h : t < 1 ∨ 65536 < t) : f52 (some (id, 0)) t H = some (2, H) := by
  rw [q52]
  by_cases h1 : t < 1
  · have : decide (t < 1) = true := by simp; omega
    simp only [nsome, ct, cf, this]
  · have e1 : decide (t < 1) = false := by simp; omega
    have e2 : decide (t > 65536) = true := by simp; omega
    simp only [nsome, ct, cf, e1, e2]
theorem f52_spec {F : Nat → Prop} {id : Nat} {b : List UInt8} {H : Heap} (hr : RP F H id b) (hb : b.length ≤ 1048576) (hF : ∀ i, H.length ≤ i → F i) (t : Nat) (h1 : 1 ≤ t) (h2 : t ≤ 65536) :
    (1048576 < padN b.length t + b.length → f52 (some (id, 0)) (t : Int) H = some (4, H)) ∧
    (padN b.length t + b.length ≤ 1048576 → ∃ H', f52 (some (id, 0)) (t : Int) H = some (0, H') ∧ RP F H' id (b ++ List.replicate (padN b.length t) 0) ∧ Kp F H H') := by
  have e1 : decide ((t : Int) < 1) = false := by simp; omega
  have e2 : decide ((t : Int) > 65536) = false := by simp; omega
  have e3 : ((t : Int) == 0) = false := by simp; omega
  obtain ⟨s, r1, r2⟩ := rp_len hr
  have hp := pad_eq b.length t h1 h2
  refine ⟨fun hf => ?_, fun hf => ?_⟩
  · have hroom : rope_store_room s ((padN b.length t : Nat) : Int) = false := by rw [room_eq r2 hb]; simp; omega
    rw [q52]
    simp only [nsome, ct, cf, e1, e2, e3, bs, az, r1, tSlice, r2.slenEq, hp, hroom, Bool.not_false]
  · obtain ⟨s1, s', H1, H2, k1, k2, k3, k4, k5, k6⟩ := rp_appZ hr hF (padN b.length t) (by simp [most]; omega)
    have hroom : rope_store_room s ((padN b.length t : Nat) : Int) = true := by rw [room_eq r2 hb]; simp; omega
    rw [k1] at r1; cases r1
    refine ⟨H2, ?_, k5, k6⟩
    rw [q52]
    simp only [nsome, cf, e1, e2, e3, bs, az, k1, tSlice, k2, hp, hroom, Bool.not_true, k3, k4]
/-! 53: rope_Rope_Set -/
noncomputable def CC53 : Ctx := { P := Try.prog, own := [], fns := [(74, F74), (77, F77), (76, specF enc76 (sem76 f76))], nt := 35, nums := [74, 77], live := [] }
theorem good53 : Callees Try.prog CC53.fns [] CC53.nums := (((Callees.nil Try.prog).cons ok76 (specF_nat _ _)).cons_num ok77 F77_num).cons_num ok74 F74_num
theorem hN53 : CtxNat CC53 := good53.ctx rfl rfl rfl
def enc53 (r : Int) : List TV := [.c (Cell.int .i64 (r))]
def dec53 : AV → Option (Int)
  | .c (Cell.int .i64 q0) => some (q0)
  | _ => none
theorem de53 (v : AV) (r : Int) (h : dec53 v = some r) : v = oneOf (enc53 r) := by
  unfold dec53 at h
  split at h
  · cases h; rfl
  · cases h
abbrev Ty53 := (Option (Nat × Nat)) → Int → Int → Int → Heap → Option (Int × Heap)
def sem53 (f : Ty53) : List TV → Heap → Option (Int × Heap)
  | [.c (Cell.ptr r), .c (Cell.int .i64 x1), .c (Cell.int .i64 w), .c (Cell.int .u64 v)], H => f r x1 w v H
  | _, _ => none
noncomputable def f53 : Ty53 := hide fun r x1 w v H => fnA CC53 Try.f53.results.toList (bodyOf Try.f53) _ [.c (Cell.ptr r), .c (Cell.int .i64 x1), .c (Cell.int .i64 w), .c (Cell.int .u64 v)] H (decF dec53)
theorem f53_eq (r : (Option (Nat × Nat))) (x1 : Int) (w : Int) (v : Int) (H : Heap) : f53 r x1 w v H = fnA CC53 Try.f53.results.toList (bodyOf Try.f53) _ [.c (Cell.ptr r), .c (Cell.int .i64 x1), .c (Cell.int .i64 w), .c (Cell.int .u64 v)] H (decF dec53) := by unfold f53; rw [hide_eq]
theorem f53_run (r : (Option (Nat × Nat))) (x1 : Int) (w : Int) (v : Int) (H : Heap) : f53 r x1 w v H = fnL CC53 (lpD CC53) Try.f53.results.toList (bodyOf Try.f53) [.c (Cell.ptr r), .c (Cell.int .i64 x1), .c (Cell.int .i64 w), .c (Cell.int .u64 v)] H (decF dec53) := (f53_eq ..).trans (fnA_lpD hN53 ..)
theorem q53 : ∀ (r : Option (Nat × Nat)) (x1 w v : Int) (H : Heap), f53 r x1 w v H = bif r.isNone then some (1, H) else bif !bits_Is w then some (2, H) else r.bind fun v7 => (H.get v7.fst (v7.snd + 0)).bind fun v6 => v6.toSlice.bind fun v5 => bif !rope_store_has v5 x1 w then some (7, H) else r.bind fun v4 => (H.get v4.fst (v4.snd + 0 + 0)).bind fun v3 => v3.toSlice.bind fun v2 => (Sl.sub v2 x1 none).bind fun v1 => bif esOk v2 1 then (f76 v1 w v H).bind fun v0 => some (0, v0.snd) else none := by intros; exact (f53_run ..).trans (by kernel_rfl)
theorem ok53 : FnOk Try.prog 53 (specF enc53 (sem53 f53)) := by
  refine spec_ok (C := CC53) good53 rfl rfl rfl (by kernel_rfl) Try.func53 (c := bodyOf Try.f53) (by kernel_rfl) (by kernel_rfl) (Nat.le_of_eq Try.ntmps53.symm) dec53 enc53 de53 _ ?_
  intro args H q h
  unfold sem53 at h
  split at h
  · rw [← f53_eq]; exact h
  · cases h
theorem f53_arg (id : Nat) (a w v : Int) (H : Heap) (hw : bits_Is w = false) : f53 (some (id, 0)) a w v H = some (2, H) := by
  rw [q53]
  simp only [nsome, cf, ct, hw, Bool.not_false]
theorem f53_no {F : Nat → Prop} {id : Nat} {b : List UInt8} {H : Heap} (hr : RP F H id b) (hb : b.length ≤ 1048576) (a w v : Int) (hw : bits_Is w = true) (hh : hasI b.length a w = false) : f53 (some (id, 0)) a w v H = some (7, H) := by
  obtain ⟨s, r1, r2⟩ := rp_len hr
  have hh' := (has_eq r2 (by omega) a w).trans hh
  rw [q53]
  simp only [nsome, cf, ct, hw, Bool.not_true, bs, az, r1, tSlice, hh', Bool.not_false]
theorem f53_spec {F : Nat → Prop} {id : Nat} {b : List UInt8} {H : Heap} (hr : RP F H id b) (hb : b.length ≤ 1048576) (a w v : Nat) (hw : bits_Is (w : Int) = true) (hh : a + w ≤ b.length) :
    ∃ H', f53 (some (id, 0)) (a : Int) (w : Int) (v : Int) H = some (0, H') ∧ RP F H' id (b.take a ++ leB w v ++ b.drop (a + w)) ∧ Kp F H H' := by
  obtain ⟨k, e, h8⟩ := isw hw
  have e : w = k := by omega
  subst e
  obtain ⟨s, h1, h2, h3, h4, h5⟩ := hr
  have r2 := h2.rs
  have r1 : H.get id 0 = some (.slice s) := by rw [get_of h1]; rfl
  have hh' : rope_store_has s (a : Int) (w : Int) = true := by rw [has_eq r2 (by omega)]; simp [hasI]; omega
  cases s with
  | none => cases h2; simp at hh; omega
  | some sl =>
    have h20 := h2
    obtain ⟨g1, g2, g3, row, g4, g5, g6⟩ := h2
    have hsub : Sl.sub (some sl) (a : Int) none = some (some ⟨sl.id, sl.off + a, sl.len - a, sl.cap - a, sl.esz⟩) := by
      unfold Sl.sub
      simp only [Option.getD_none]
      rw [if_pos (by omega), Int.toNat_natCast, g2, Nat.mul_one]
      congr 4; omega
    obtain ⟨o1, o2⟩ := h20.over E8_len (m := leB w v) (a := a) (by rw [leB_length]; omega) g4
    rw [Nat.mul_one, flat_len E8_len, leB_length] at o2
    have h35 := f76_spec ⟨sl.id, sl.off + a, sl.len - a, sl.cap - a, sl.esz⟩ w v (by omega) (by show w ≤ sl.len - a; omega) g2 H row g4 (by show sl.off + a + w ≤ row.length; omega)
    rw [Nat.mul_one, leB_length] at o1
    have hne := h3 sl rfl
    refine ⟨_, ?_, ⟨some sl, by rw [set_ne' (Ne.symm hne)]; exact h1, o1, h3, h4, h5⟩, (Kp.set _ _ _).mono fun i _ hi => by rw [show i = sl.id from hi]; exact h5 sl rfl⟩
    rw [q53]
    simp only [nsome, cf, ct, hw, Bool.not_true, bs, az, r1, tSlice, hh', hsub, r2.esOkT, h35]
/-! 85: internal_bytealg_IndexByteString -/
def ixs (s : ByteArray) (c : Int) : Int := Lib.indexByte s.data.toList c.toNat.toUInt8
noncomputable def G85 : List TV → Option (List TV)
  | [.c (Cell.str x0), .c (Cell.int .u8 x1)] => some [.c (Cell.int .i64 ((ixs x0 x1)))]
  | _ => none
noncomputable def F85 : FnSem := numF G85
theorem F85_num : FnNum F85 := numF_num _
theorem ok85 : FnOk Try.prog 85 F85 := numX_ok (idxS_ok Try.func85 (by kernel_rfl) (by kernel_rfl) (by kernel_rfl) (by kernel_rfl)) fun args vs h => by
  unfold G85 at h
  split at h
  · exact h
  · cases h
/-! 79: internal_stringslite_IndexByte -/
noncomputable def CC79 : Ctx := { P := Try.prog, own := [], fns := [(85, F85)], nt := 8, nums := [85], live := [] }
theorem good79 : Callees Try.prog CC79.fns [] CC79.nums := (Callees.nil Try.prog).cons_num ok85 F85_num
def internal_stringslite_IndexByte (s : ByteArray) (c : Int) : Int := ixs s c
noncomputable def G79 : List TV → Option (List TV)
  | [.c (Cell.str s), .c (Cell.int .u8 c)] => some [.c (Cell.int .i64 ((internal_stringslite_IndexByte s c)))]
  | _ => none
noncomputable def F79 : FnSem := numF G79
theorem F79_num : FnNum F79 := numF_num _
theorem e79 : ∀ (R : Type) (s : ByteArray) (c : Int) (H : Heap) (K : AV → Heap → Option R) (lp : Code → St → (AExit → St → Option R) → Option R), fnL CC79 lp Try.f79.results.toList (bodyOf Try.f79) [TV.c (Cell.str s), TV.c (Cell.int IntKind.u8 c)] H K = K (AV.c (Cell.int IntKind.i64 (ixs s c))) H := by intros; kernel_rfl
theorem s79 (R : Type) (s : ByteArray) (c : Int) (H : Heap) (K : AV → Heap → Option R) (lp : Code → St → (AExit → St → Option R) → Option R) : fnL CC79 lp Try.f79.results.toList (bodyOf Try.f79) [.c (Cell.str s), .c (Cell.int .u8 c)] H K = K (oneOf [.c (Cell.int .i64 ((internal_stringslite_IndexByte s c)))]) H := by
  rw [e79]
  rfl
theorem ok79 : FnOk Try.prog 79 F79 := by
  refine fn_ok (C := CC79) (good79.env rfl) (good79.ctx rfl rfl rfl) (by kernel_rfl) Try.func79 (c := bodyOf Try.f79) (by kernel_rfl) (by kernel_rfl) (Nat.le_of_eq Try.ntmps79.symm) ?_
  intro R args H K r h
  unfold F79 numF G79 at h
  split at h
  · rw [fnA_eq, s79]; exact h
  · cases h
/-! 60: strings_IndexByte -/
noncomputable def CC60 : Ctx := { P := Try.prog, own := [], fns := [(79, F79)], nt := 8, nums := [79], live := [] }
theorem good60 : Callees Try.prog CC60.fns [] CC60.nums := (Callees.nil Try.prog).cons_num ok79 F79_num
def strings_IndexByte (s : ByteArray) (c : Int) : Int := ixs s c
noncomputable def G60 : List TV → Option (List TV)
  | [.c (Cell.str s), .c (Cell.int .u8 c)] => some [.c (Cell.int .i64 ((strings_IndexByte s c)))]
  | _ => none
noncomputable def F60 : FnSem := numF G60
theorem F60_num : FnNum F60 := numF_num _
theorem e60 : ∀ (R : Type) (s : ByteArray) (c : Int) (H : Heap) (K : AV → Heap → Option R) (lp : Code → St → (AExit → St → Option R) → Option R), fnL CC60 lp Try.f60.results.toList (bodyOf Try.f60) [TV.c (Cell.str s), TV.c (Cell.int IntKind.u8 c)] H K = K (AV.c (Cell.int IntKind.i64 (internal_stringslite_IndexByte s c))) H := by intros; kernel_rfl
theorem s60 (R : Type) (s : ByteArray) (c : Int) (H : Heap) (K : AV → Heap → Option R) (lp : Code → St → (AExit → St → Option R) → Option R) : fnL CC60 lp Try.f60.results.toList (bodyOf Try.f60) [.c (Cell.str s), .c (Cell.int .u8 c)] H K = K (oneOf [.c (Cell.int .i64 ((strings_IndexByte s c)))]) H := by
  rw [e60]
  rfl
theorem ok60 : FnOk Try.prog 60 F60 := by
  refine fn_ok (C := CC60) (good60.env rfl) (good60.ctx rfl rfl rfl) (by kernel_rfl) Try.func60 (c := bodyOf Try.f60) (by kernel_rfl) (by kernel_rfl) (Nat.le_of_eq Try.ntmps60.symm) ?_
  intro R args H K r h
  unfold F60 numF G60 at h
  split at h
  · rw [fnA_eq, s60]; exact h
  · cases h
/-! 55: rope_Rope_Text -/
noncomputable def CC55 : Ctx := { P := Try.prog, own := [], fns := [(60, F60), (49, specF enc49 (sem49 f49)), (73, specF enc73 (sem73 f73))], nt := 36, nums := [60], live := [(5, ⟨[0, 5, 10, 11, 12], [], [0, 4, 5], []⟩)] }
theorem good55 : Callees Try.prog CC55.fns [] CC55.nums := (((Callees.nil Try.prog).cons ok73 (specF_nat _ _)).cons ok49 (specF_nat _ _)).cons_num ok60 F60_num
theorem hN55 : CtxNat CC55 := good55.ctx rfl rfl rfl
def enc55 (r : Int) : List TV := [.c (Cell.int .i64 (r))]
def dec55 : AV → Option (Int)
  | .c (Cell.int .i64 q0) => some (q0)
  | _ => none
theorem de55 (v : AV) (r : Int) (h : dec55 v = some r) : v = oneOf (enc55 r) := by
  unfold dec55 at h
  split at h
  · cases h; rfl
  · cases h
abbrev Ty55 := (Option (Nat × Nat)) → (Option Sl) → Heap → Option (Int × Heap)
def sem55 (f : Ty55) : List TV → Heap → Option (Int × Heap)
  | [.c (Cell.ptr r), .c (Cell.slice l)], H => f r l H
  | _, _ => none
noncomputable def f55 : Ty55 := hide fun r l H => fnA CC55 Try.f55.results.toList (bodyOf Try.f55) _ [.c (Cell.ptr r), .c (Cell.slice l)] H (decF dec55)
theorem f55_eq (r : (Option (Nat × Nat))) (l : (Option Sl)) (H : Heap) : f55 r l H = fnA CC55 Try.f55.results.toList (bodyOf Try.f55) _ [.c (Cell.ptr r), .c (Cell.slice l)] H (decF dec55) := by unfold f55; rw [hide_eq]
theorem f55_run (r : (Option (Nat × Nat))) (l : (Option Sl)) (H : Heap) : f55 r l H = fnL CC55 (lpD CC55) Try.f55.results.toList (bodyOf Try.f55) [.c (Cell.ptr r), .c (Cell.slice l)] H (decF dec55) := (f55_eq ..).trans (fnA_lpD hN55 ..)
def S55_5 (t0 : (Option (Nat × Nat))) (t5 : (Option Sl)) (t10 : (Option Sl)) (t11 : Int) (t12 : Int) (H : Heap) : St := ⟨[(0, .c (Cell.ptr t0)), (5, .c (Cell.slice t5)), (10, .c (Cell.slice t10)), (11, .c (Cell.int .i64 t11)), (12, .c (Cell.int .i64 t12))], [], H⟩
noncomputable def D55_5 (n : Nat) (t0 : (Option (Nat × Nat))) (t5 : (Option Sl)) (t10 : (Option Sl)) (t11 : Int) (t12 : Int) (H : Heap) : Option (AExit × St) := loopN (exec CC55 (Code.l (Code.l (Code.r (Code.l (Code.r (Code.r (Code.r (bodyOf Try.f55))))))))) (keepOf CC55.live (Code.l (Code.l (Code.r (Code.l (Code.r (Code.r (Code.r (bodyOf Try.f55))))))))) n (S55_5 t0 t5 t10 t11 t12 H) retD
noncomputable def LL55_5 (t0 : (Option (Nat × Nat))) (t5 : (Option Sl)) (t10 : (Option Sl)) (t11 : Int) (t12 : Int) (H : Heap) : Option (AExit × St) := loopsD CC55 (Code.l (Code.l (Code.r (Code.l (Code.r (Code.r (Code.r (bodyOf Try.f55)))))))) (S55_5 t0 t5 t10 t11 t12 H)
theorem LL55_5_of (m : Nat) (hm : m < 18446744073709551616) (t0 : (Option (Nat × Nat))) (t5 : (Option Sl)) (t10 : (Option Sl)) (t11 : Int) (t12 : Int) (H : Heap) : ∃ n, LL55_5 t0 t5 t10 t11 t12 H = D55_5 (n + m + 1) t0 t5 t10 t11 t12 H := loopsD_of _ _ _ m hm
def X55_5 (x0 : Option (Nat × Nat)) (x1 : Int) (x2 : Option Sl) (H : Heap) : St := { env := [(0, AV.c (Cell.ptr x0)), (4, AV.c (Cell.int IntKind.i64 x1)), (5, AV.c (Cell.slice x2))], loc := [], heap := H }
def X55_5a (x0 : Option (Nat × Nat)) (x1 : Option Sl) (H : Heap) : St := { env := [(0, AV.c (Cell.ptr x0)), (5, AV.c (Cell.slice x1))], loc := [], heap := H }
noncomputable def J55_5 : AExit × St → Option (Int × Heap) := fun p => blockK 0 (seqK (execL CC55 (lpD CC55) (Code.r (Code.r (Code.r (Code.r (bodyOf Try.f55)))))) (retA CC55 [ResultVar.tmp 4] (decF dec55))) p.fst p.snd
theorem D55_5_s : ∀ (n : Nat) (t0 : Option (Nat × Nat)) (t5 t10 : Option Sl) (t11 t12 : Int) (H : Heap), D55_5 (n + 1) t0 t5 t10 t11 t12 H = bif decide (t12 < t11) then t10.bind fun v3 => bif inb t12 v3.len && v3.esz == 1 then (H.get v3.id (v3.off + t12.toNat * 1)).bind fun v2 => v2.toStr.bind fun v1 => bif decide (strings_IndexByte v1 0 ≥ 0) then some (AExit.ret, X55_5 t0 2 t5 H) else bif decide (v1.size ≤ 17592186044416) then ((H ++ [Blk.row (bytesCells v1) false] ++ [Blk.row [Cell.int IntKind.u8 0] false] ++ [Blk.row [Cell.slice (some { id := List.length H, off := 0, len := v1.size, cap := v1.size, esz := 1 }), Cell.slice (some { id := List.length (H ++ [Blk.row (bytesCells v1) false]), off := 0, len := 1, cap := 1, esz := 1 })] false]).append 1 24 t5 (some { id := List.length (H ++ [Blk.row (bytesCells v1) false] ++ [Blk.row [Cell.int IntKind.u8 0] false]), off := 0, len := 2, cap := 2, esz := 1 })).bind fun v0 => D55_5 n t0 v0.fst t10 t11 (IntKind.i64.wrap (t12 + 1)) v0.snd else none else none else some (AExit.exit 0, X55_5a t0 t5 H) := by intros; exact (loopN_stepD hN55 _ _ _ _).trans (by kernel_rfl)
theorem q55 : ∀ (r : Option (Nat × Nat)) (l : Option Sl) (H : Heap), f55 r l H = bif r.isNone then some (1, H) else (LL55_5 r none l (slen l) 0 H).bind J55_5 := by intros; exact (f55_run ..).trans (by kernel_rfl)
theorem J55_5_0 : ∀ (x0 : Option (Nat × Nat)) (x1 : Int) (x2 : Option Sl) (H : Heap), J55_5 (AExit.ret, X55_5 x0 x1 x2 H) = some (x1, H) := by intros; kernel_rfl
theorem J55_5_1 : ∀ (x0 : Option (Nat × Nat)) (x1 : Option Sl) (H : Heap), J55_5 (AExit.exit 0, X55_5a x0 x1 H) = x0.bind fun v8 => (H.get v8.fst (v8.snd + 0)).bind fun v7 => v7.toSlice.bind fun v6 => (f73 v6 x1 H).bind fun v5 => bif !v5.fst then some (4, v5.snd) else (f49 x0 x1 v5.snd).bind fun v4 => some (0, v4.snd) := by intros; kernel_rfl
theorem ok55 : FnOk Try.prog 55 (specF enc55 (sem55 f55)) := by
  refine spec_ok (C := CC55) good55 rfl rfl rfl (by kernel_rfl) Try.func55 (c := bodyOf Try.f55) (by kernel_rfl) (by kernel_rfl) (Nat.le_of_eq Try.ntmps55.symm) dec55 enc55 de55 _ ?_
  intro args H q h
  unfold sem55 at h
  split at h
  · rw [← f55_eq]; exact h
  · cases h
def EStr (s : ByteArray) : List Cell := [.str s]
theorem EStr_len (s : ByteArray) : (EStr s).length = 1 := rfl
/-- Where the first nought is. -/
def fi : List UInt8 → Option Nat
  | [] => none
  | b :: l => bif b == 0 then some 0 else (fi l).map (· + 1)
theorem idx_fi : ∀ l : List UInt8, Lib.indexByte l ((0 : Int).toNat.toUInt8) = match fi l with | some i => (i : Int) | none => -1
  | [] => rfl
  | b :: l => by
    have ih := idx_fi l
    have e0 : (0 : Int).toNat.toUInt8 = (0 : UInt8) := rfl
    rw [e0] at ih ⊢
    unfold Lib.indexByte fi
    rw [ih]
    cases hb : (b == 0) with
    | true => simp
    | false =>
      cases fi l with
      | none => simp
      | some i =>
        have : (((i : Int)) == -1) = false := by simp
        simp [this]
theorem ixs_ge (s : ByteArray) : decide (strings_IndexByte s 0 ≥ 0) = (fi s.data.toList).isSome := by
  show decide (Lib.indexByte s.data.toList ((0 : Int).toNat.toUInt8) ≥ 0) = _
  rw [idx_fi]
  cases fi s.data.toList with
  | none => rfl
  | some i => simp
/-- Texts' parts. -/
def tparts (ss : List ByteArray) : List (List UInt8) := ss.flatMap fun s => [s.data.toList, [0]]
/-- Some slices of bytes, in a slice that is the frame's own. -/
theorem tparts_len : ∀ ss, (tparts ss).length = 2 * ss.length
  | [] => rfl
  | s :: ss => by
    have := tparts_len ss
    unfold tparts at this ⊢
    rw [List.flatMap_cons, List.length_append, this, List.length_cons]; simp; omega
def PT (n0 : Nat) (H : Heap) (t : Option Sl) (ls : List (List UInt8)) : Prop :=
  ∃ ps : List (Option Sl), OS 1 ES H t ps ∧ ps.length = ls.length ∧ ∀ (j : Nat) p l, ps[j]? = some p → ls[j]? = some l → RS 1 E8 H p l ∧ (∀ sl st, l ≠ [] → p = some sl → t = some st → sl.id ≠ st.id) ∧ (∀ sl, l ≠ [] → p = some sl → n0 ≤ sl.id)
theorem PT.rss {n0 : Nat} {H : Heap} {t : Option Sl} {ls : List (List UInt8)} (h : PT n0 H t ls) : RSS H t ls := by
  obtain ⟨ps, h1, h2, h3⟩ := h
  exact ⟨ps, h1.rs, h2, fun j p l e1 e2 => (h3 j p l e1 e2).1⟩
theorem RSS.kp {F : Nat → Prop} {H H' : Heap} {t : Option Sl} {ls : List (List UInt8)} (h : RSS H t ls) (k : Kp F H H') (hn : ∀ i, i < H.length → ¬ F i) : RSS H' t ls := by
  obtain ⟨ps, h1, h2, h3⟩ := h
  exact ⟨ps, h1.new ES_len (by decide) k hn, h2, fun j p l e1 e2 => (h3 j p l e1 e2).new E8_len (by decide) k hn⟩
theorem pt_step {n0 : Nat} {H : Heap} {t : Option Sl} {ls : List (List UInt8)} (h : PT n0 H t ls) (h0 : n0 ≤ H.length) (v : ByteArray) (hl : ls.length ≤ 4096) :
    ∃ t' H', (H ++ [Blk.row (bytesCells v) false] ++ [Blk.row [Cell.int IntKind.u8 0] false] ++ [Blk.row [Cell.slice (some { id := List.length H, off := 0, len := v.size, cap := v.size, esz := 1 }), Cell.slice (some { id := List.length (H ++ [Blk.row (bytesCells v) false]), off := 0, len := 1, cap := 1, esz := 1 })] false]).append 1 24 t (some { id := List.length (H ++ [Blk.row (bytesCells v) false] ++ [Blk.row [Cell.int IntKind.u8 0] false]), off := 0, len := 2, cap := 2, esz := 1 }) = some (t', H') ∧
      PT n0 H' t' (ls ++ [v.data.toList, [0]]) ∧ Kp (Of t) H H' ∧ Fr2 H.length t t' := by
  obtain ⟨ps, h1, h2, h3⟩ := h
  obtain ⟨A, hA⟩ : ∃ A, A = H ++ [Blk.row (bytesCells v) false] := ⟨_, rfl⟩
  obtain ⟨B, hB⟩ : ∃ B, B = A ++ [Blk.row [Cell.int IntKind.u8 0] false] := ⟨_, rfl⟩
  obtain ⟨sA, hsA⟩ : ∃ s : Sl, s = { id := List.length H, off := 0, len := v.size, cap := v.size, esz := 1 } := ⟨_, rfl⟩
  obtain ⟨sB, hsB⟩ : ∃ s : Sl, s = { id := List.length A, off := 0, len := 1, cap := 1, esz := 1 } := ⟨_, rfl⟩
  obtain ⟨D, hD⟩ : ∃ D, D = B ++ [Blk.row [Cell.slice (some sA), Cell.slice (some sB)] false] := ⟨_, rfl⟩
  rw [← hA, ← hB, ← hsA, ← hsB, ← hD]
  have lA : A.length = H.length + 1 := by rw [hA]; simp
  have lB : B.length = H.length + 2 := by rw [hB]; simp [lA]
  have lD : D.length = H.length + 3 := by rw [hD]; simp [lB]
  have kA : Kp No H A := by rw [hA]; exact Kp.push _ _ _
  have kAB : Kp No A B := by rw [hB]; exact Kp.push _ _ _
  have kBD : Kp No B D := by rw [hD]; exact Kp.push _ _ _
  have kD : Kp No H D := (kA.trans kAB (D := No) (fun _ h => h) fun _ _ h => h).trans kBD (fun _ h => h) fun _ _ h => h
  have gA : A[H.length]? = some (.row (bytesCells v) false) := by rw [hA]; exact push_get _ _
  have gB : B[A.length]? = some (.row [Cell.int IntKind.u8 0] false) := by rw [hB]; exact push_get _ _
  have gD : D[B.length]? = some (.row [Cell.slice (some sA), Cell.slice (some sB)] false) := by rw [hD]; exact push_get _ _
  have rA : RS 1 E8 D (some sA) v.data.toList := by
    refine ⟨by rw [hsA]; simp, by rw [hsA], by rw [hsA]; exact Nat.le_refl _, fun i c e => ?_⟩
    rw [hsA]
    show D.get H.length (0 + i) = some c
    rw [za, get_of ((kAB.trans kBD (D := No) (fun _ h => h) fun _ _ h => h).at gA (fun e => e)), bytesCells_flat]; exact e
  have rB : RS 1 E8 D (some sB) [0] := by
    refine ⟨by rw [hsB]; rfl, by rw [hsB], by rw [hsB]; exact Nat.le_refl _, fun i c e => ?_⟩
    rw [hsB]
    show D.get A.length (0 + i) = some c
    rw [za, get_of (kBD.at gB (fun e => e))]; exact e
  have hx : RS 1 ES D (some { id := B.length, off := 0, len := 2, cap := 2, esz := 1 }) [some sA, some sB] := ⟨rfl, rfl, Nat.le_refl _, fun i c e => by
    show D.get B.length (0 + i) = some c
    rw [za, get_of gD]; exact e⟩
  obtain ⟨t', H', a1, a2, a3, a4⟩ := append_OS ES_len (by decide) (by' := 24) (h1.kp kD fun _ _ h => h) hx (by rw [h2]; simp [most]; omega)
  have ht : ∀ st, t = some st → st.id < H.length := fun st e => by subst e; exact h1.lt
  have kT : Kp (Of t) H H' := kD.trans a3 (fun _ h => h.elim) fun _ _ h => h
  refine ⟨t', H', a1, ⟨ps ++ [some sA, some sB], a2, by simp [h2], fun j p l e1 e2 => ?_⟩, kT, fun sl' e => ?_⟩
  · have fresh : ∀ (q : Sl), H.length ≤ q.id → q.id < D.length → ∀ st, t' = some st → q.id ≠ st.id := fun q g1 g2 st e => by
      rcases a4 st e with ⟨st0, f1, f2⟩ | f
      · have := ht st0 f1; omega
      · omega
    by_cases hj : j < ls.length
    · rw [List.getElem?_append_left (by omega)] at e1 e2
      obtain ⟨g1, g2, g3⟩ := h3 j p l e1 e2
      refine ⟨g1.kp kT fun sl e e0 ⟨st, f1, f2⟩ => g2 sl st e0 e f1 f2, fun sl st e0 e et => ?_, g3⟩
      rcases a4 st et with ⟨st0, f1, f2⟩ | f
      · rw [f2]; exact g2 sl st0 e0 e f1
      · subst e
        have := g1.lt E8_len (by decide) e0
        omega
    · rw [List.getElem?_append_right (by omega), h2] at e1
      rw [List.getElem?_append_right (by omega)] at e2
      obtain ⟨q, hq⟩ : ∃ q, q = j - ls.length := ⟨_, rfl⟩
      rw [← hq] at e1 e2
      match q, e1, e2 with
      | 0, e1, e2 =>
        cases e1; cases e2
        have iA : sA.id = H.length := by rw [hsA]
        exact ⟨rA.kp a3 fun sl e e0 ⟨st, f1, f2⟩ => by cases e; have := ht st f1; omega, fun sl st e0 e et => by cases e; exact fresh sA (by omega) (by omega) st et, fun sl e0 e => by cases e; omega⟩
      | 1, e1, e2 =>
        cases e1; cases e2
        have iB : sB.id = A.length := by rw [hsB]
        exact ⟨rB.kp a3 fun sl e e0 ⟨st, f1, f2⟩ => by cases e; have := ht st f1; omega, fun sl st e0 e et => by cases e; exact fresh sB (by omega) (by omega) st et, fun sl e0 e => by cases e; omega⟩
      | k + 2, e1, e2 => simp at e1
  · rcases a4 sl' e with ⟨sl, f1, f2⟩ | f
    · exact .inl ⟨sl, f1, f2⟩
    · exact .inr (by omega)
theorem loop55 (H0 : Heap) (x : Option Sl) (ss : List ByteArray) (hx : RS 1 EStr H0 x ss) (hss : ss.length ≤ 1000) (hsz : ∀ s ∈ ss, s.size ≤ most) (p : Option (Nat × Nat)) : ∀ (m n i : Nat) (t : Option Sl) (H : Heap), i + m = ss.length → PT H0.length H t (tparts (ss.take i)) → Kp No H0 H → New H0.length t →
    ∃ t' H', ((D55_5 (n + m + 1) p t x (ss.length : Int) (i : Int) H = some (.exit 0, X55_5a p t' H') ∧ PT H0.length H' t' (tparts ss) ∧ ∀ s ∈ ss.drop i, fi s.data.toList = none) ∨ (D55_5 (n + m + 1) p t x (ss.length : Int) (i : Int) H = some (.ret, X55_5 p 2 t' H') ∧ ∃ s ∈ ss.drop i, fi s.data.toList ≠ none)) ∧ Kp No H0 H' ∧ New H0.length t'
  | 0, n, i, t, H, hi, hp, hk, ht => by
    have g : decide ((i : Int) < (ss.length : Int)) = false := by simp; omega
    refine ⟨t, H, .inl ⟨by rw [D55_5_s, g, cf], ?_, by rw [List.drop_eq_nil_of_le (by omega)]; simp⟩, hk, ht⟩
    rw [List.take_of_length_le (by omega)] at hp; exact hp
  | m + 1, n, i, t, H, hi, hp, hk, ht => by
    have hil : i < ss.length := by omega
    have hsi : ss[i]? = some ss[i] := List.getElem?_eq_getElem hil
    have g : decide ((i : Int) < (ss.length : Int)) = true := by simp; omega
    have g3 : IntKind.i64.wrap ((i : Int) + 1) = ((i + 1 : Nat) : Int) := by rw [wrap_i64 (by omega) (by omega)]; omega
    obtain ⟨sl, rfl, g2, g4⟩ := (hx.new EStr_len (by decide) hk fun _ _ h => h).idx1 hsi (e := fun s => .str s) fun _ => rfl
    have hd : ss.drop i = ss[i] :: ss.drop (i + 1) := List.drop_eq_getElem_cons hil
    rw [show n + (m + 1) + 1 = (n + m + 1) + 1 by omega, D55_5_s, g, hd]
    cases hf : fi ss[i].data.toList with
    | some k =>
      have gb : decide (strings_IndexByte ss[i] 0 ≥ 0) = true := by rw [ixs_ge, hf]; rfl
      refine ⟨t, H, .inr ⟨?_, ss[i], List.mem_cons_self .., by rw [hf]; simp⟩, hk, ht⟩
      simp only [ct, bs, g2, g4, tStr, gb]
    | none =>
      have gb : decide (strings_IndexByte ss[i] 0 ≥ 0) = false := by rw [ixs_ge, hf]; rfl
      have gm : decide (ss[i].size ≤ 17592186044416) = true := by have := hsz ss[i] (List.getElem_mem hil); unfold most at this; simp; omega
      have hlen : (tparts (ss.take i)).length ≤ 4096 := by
        rw [tparts_len]; simp; omega
      obtain ⟨t', H', a1, a2, a3, a4⟩ := pt_step hp hk.len ss[i] hlen
      have e2 : tparts (ss.take i) ++ [ss[i].data.toList, [0]] = tparts (ss.take (i + 1)) := by
        unfold tparts
        rw [List.take_succ_eq_append_getElem hil, List.flatMap_append]; simp
      rw [e2] at a2
      have kT : Kp No H0 H' := hk.trans a3 (fun _ h => h) fun j hj ⟨st, f1, f2⟩ => by have := ht st f1; omega
      have hl0 := hk.len
      obtain ⟨t2, H2, j1, j2⟩ := loop55 H0 (some sl) ss hx hss hsz p m n (i + 1) t' H' (by omega) a2 kT (fun st e => by
        rcases a4 st e with ⟨st0, f1, f2⟩ | f
        · rw [f2]; exact ht st0 f1
        · omega)
      simp only [ct, cf, bs, g2, g3, g4, tStr, gb, gm, a1]
      refine ⟨t2, H2, ?_, j2⟩
      rcases j1 with ⟨q1, q2, q3⟩ | ⟨q1, s, q2, q3⟩
      · exact .inl ⟨q1, q2, fun s hs => by rcases List.mem_cons.1 hs with rfl | hs; exact hf; exact q3 s hs⟩
      · exact .inr ⟨q1, s, List.mem_cons_of_mem _ q2, q3⟩
theorem f55_spec {F : Nat → Prop} {id : Nat} {b : List UInt8} {H : Heap} {x : Option Sl} {ss : List ByteArray} (hr : RP F H id b) (hb : b.length ≤ 1048576) (hF : ∀ i, H.length ≤ i → F i) (hx : RS 1 EStr H x ss) (hss : ss.length ≤ 1000) (hsz : ∀ s ∈ ss, s.size ≤ most) :
    ((∃ s ∈ ss, fi s.data.toList ≠ none) → ∃ H', f55 (some (id, 0)) x H = some (2, H') ∧ Kp No H H') ∧
    ((∀ s ∈ ss, fi s.data.toList = none) → 1048576 < total (tparts ss) + b.length → ∃ H', f55 (some (id, 0)) x H = some (4, H') ∧ Kp No H H') ∧
    ((∀ s ∈ ss, fi s.data.toList = none) → total (tparts ss) + b.length ≤ 1048576 → ∃ H', f55 (some (id, 0)) x H = some (0, H') ∧ RP F H' id (b ++ (tparts ss).flatten) ∧ Kp F H H') := by
  obtain ⟨n, hn⟩ := LL55_5_of ss.length (by omega) (some (id, 0)) none x (ss.length : Int) 0 H
  obtain ⟨t', H', j1, j2, j3⟩ := loop55 H x ss hx hss hsz (some (id, 0)) ss.length n 0 none H (by omega) ⟨[], rfl, rfl, fun j p l e => by simp at e⟩ (Kp.refl _ _) (fun _ e => nomatch e)
  rw [List.drop_zero] at j1
  have hq : f55 (some (id, 0)) x H = (D55_5 (n + ss.length + 1) (some (id, 0)) none x (ss.length : Int) 0 H).bind J55_5 := by
    rw [q55]
    simp only [nsome, cf, hx.slenEq, hn]
  have hlen : (tparts ss).length ≤ 4611686018427387904 := by
    rw [tparts_len]; omega
  rcases j1 with ⟨q1, q2, q3⟩ | ⟨q1, s, q2, q3⟩
  · obtain ⟨s, r1, r2⟩ := rp_len (rp_kp hr j2)
    refine ⟨fun ⟨s, h1, h2⟩ => absurd (q3 s h1) h2, fun _ hf => ⟨H', ?_, j2⟩, fun _ hf => ?_⟩
    · have hd : decide (total (tparts ss) + b.length ≤ 1048576) = false := by simp; omega
      rw [hq]
      refine bnd q1 ?_
      rw [J55_5_1]
      simp only [bs, ct, az, r1, tSlice, f73_spec r2 hb q2.rss hlen, hd, Bool.not_false]
    · have hd : decide (total (tparts ss) + b.length ≤ 1048576) = true := by simp; omega
      have hl := j2.len
      obtain ⟨ps, p1, p2, p3⟩ := q2
      have ht : ∀ st, t' = some st → H.length ≤ st.id ∧ st.id < H'.length := fun st e => ⟨j3 st e, by subst e; exact p1.lt⟩
      have hst : ∀ H3, Kp (fun i => (F i ∧ i < H.length) ∨ H'.length ≤ i) H' H3 → RSS H3 t' (tparts ss) := fun H3 k3 => by
        refine ⟨ps, p1.rs.kp k3 fun st e _ hf => ?_, p2, fun j p l e1 e2 => ?_⟩
        · have := ht st e
          rcases hf with hf | hf <;> omega
        · obtain ⟨g1, g2, g3⟩ := p3 j p l e1 e2
          refine g1.kp k3 fun sl e e0 hf => ?_
          have h1 := g3 sl e0 e
          subst e
          have h2 := g1.lt E8_len (by decide) e0
          rcases hf with hf | hf <;> omega
      obtain ⟨H2, c1, c2, c3⟩ := f49_spec (F := fun i => (F i ∧ i < H.length) ∨ H'.length ≤ i) (ls := tparts ss) (t := t')
        (rp_mono (rp_kp (rp_mono hr fun i hi hf => (⟨hf, hi⟩ : F i ∧ i < H.length)) j2) fun i _ h => .inl h) ⟨ps, p1.rs, p2, fun j p l e1 e2 => (p3 j p l e1 e2).1⟩ (fun i hi => .inr hi) hst hlen hf
      refine ⟨H2, ?_, rp_mono c2 fun i _ h => ?_, j2.trans c3 (fun _ h => h.elim) fun i hi h => ?_⟩
      · rw [hq]
        refine bnd q1 ?_
        rw [J55_5_1]
        simp only [bs, cf, az, r1, tSlice, f73_spec r2 hb (PT.rss ⟨ps, p1, p2, p3⟩) hlen, hd, Bool.not_true, c1]
      · rcases h with h | h
        · exact h.1
        · exact hF i (by omega)
      · rcases h with h | h
        · exact h.1
        · omega
  · refine ⟨fun _ => ⟨H', ?_, j2⟩, fun h _ => absurd (h s q2) q3, fun h _ => absurd (h s q2) q3⟩
    rw [hq]
    exact bnd q1 (J55_5_0 ..)
/-! 86: internal_bytealg_IndexByte -/
abbrev TyR86 := (Option Sl) → Int → Heap → Option (Int)
def enc86 (r : Int) : List TV := [.c (Cell.int .i64 (r))]
def semR86 (f : TyR86) : List TV → Heap → Option (Int)
  | [.c (Cell.slice x0), .c (Cell.int .u8 x1)], H => f x0 x1 H
  | _, _ => none
noncomputable def g86 : TyR86 := hide fun x0 x1 H => (H.str x0).map fun b => Lib.indexByte b.data.toList x1.toNat.toUInt8
theorem g86_eq (x0 : (Option Sl)) (x1 : Int) (H : Heap) : g86 x0 x1 H = (H.str x0).map fun b => Lib.indexByte b.data.toList x1.toNat.toUInt8 := by unfold g86; rw [hide_eq]
theorem okR86 : FnOk Try.prog 86 (readF enc86 (semR86 g86)) := readX_ok (idxB_ok Try.func86 (by kernel_rfl) (by kernel_rfl) (by kernel_rfl) (by kernel_rfl)) fun args H r h => by
  unfold semR86 at h
  split at h
  · rw [g86_eq] at h; exact h
  · cases h
/-! 84: bytes_IndexByte -/
noncomputable def CC84 : Ctx := { P := Try.prog, own := [], fns := [(86, readF enc86 (semR86 g86))], nt := 8, pures := [86], nums := [], live := [] }
theorem good84 : Callees Try.prog CC84.fns CC84.pures CC84.nums := (Callees.nil Try.prog).cons_pure okR86 (readF_pure _ _)
theorem hN84 : CtxNat CC84 := good84.ctx rfl rfl rfl
def enc84 (r : Int) : List TV := [.c (Cell.int .i64 (r))]
def dec84 : AV → Option (Int)
  | .c (Cell.int .i64 q0) => some (q0)
  | _ => none
theorem de84 (v : AV) (r : Int) (h : dec84 v = some r) : v = oneOf (enc84 r) := by
  unfold dec84 at h
  split at h
  · cases h; rfl
  · cases h
abbrev Ty84 := (Option Sl) → Int → Heap → Option (Int × Heap)
def sem84 (f : Ty84) : List TV → Heap → Option (Int × Heap)
  | [.c (Cell.slice b), .c (Cell.int .u8 c)], H => f b c H
  | _, _ => none
noncomputable def f84 : Ty84 := hide fun b c H => fnA CC84 Try.f84.results.toList (bodyOf Try.f84) _ [.c (Cell.slice b), .c (Cell.int .u8 c)] H (decF dec84)
theorem f84_eq (b : (Option Sl)) (c : Int) (H : Heap) : f84 b c H = fnA CC84 Try.f84.results.toList (bodyOf Try.f84) _ [.c (Cell.slice b), .c (Cell.int .u8 c)] H (decF dec84) := by unfold f84; rw [hide_eq]
theorem f84_run (b : (Option Sl)) (c : Int) (H : Heap) : f84 b c H = fnL CC84 (lpD CC84) Try.f84.results.toList (bodyOf Try.f84) [.c (Cell.slice b), .c (Cell.int .u8 c)] H (decF dec84) := (f84_eq ..).trans (fnA_lpD hN84 ..)
theorem q84 : ∀ (b : Option Sl) (c : Int) (H : Heap), f84 b c H = (g86 b c H).bind fun v0 => some (v0, H) := by intros; exact (f84_run ..).trans (by kernel_rfl)
theorem ok84 : FnOk Try.prog 84 (specF enc84 (sem84 f84)) := by
  refine spec_ok (C := CC84) good84 rfl rfl rfl (by kernel_rfl) Try.func84 (c := bodyOf Try.f84) (by kernel_rfl) (by kernel_rfl) (Nat.le_of_eq Try.ntmps84.symm) dec84 enc84 de84 _ ?_
  intro args H q h
  unfold sem84 at h
  split at h
  · rw [← f84_eq]; exact h
  · cases h
theorem f84_spec {H : Heap} {s : Option Sl} {l : List UInt8} (h : RS 1 E8 H s l) : f84 s 0 H = some ((match fi l with | some i => (i : Int) | none => -1), H) := by
  rw [q84]
  refine bnd (a := match fi l with | some i => (i : Int) | none => -1) ?_ rfl
  rw [g86_eq, h.str, ← idx_fi l]
  rfl
/-! 72: rope_Rope_Str -/
noncomputable def CC72 : Ctx := { P := Try.prog, own := [], fns := [(77, F77), (84, specF enc84 (sem84 f84))], nt := 47, nums := [77], live := [] }
theorem good72 : Callees Try.prog CC72.fns [] CC72.nums := ((Callees.nil Try.prog).cons ok84 (specF_nat _ _)).cons_num ok77 F77_num
theorem hN72 : CtxNat CC72 := good72.ctx rfl rfl rfl
def enc72 (r : ByteArray × Int) : List TV := [.c (Cell.str (r.1)), .c (Cell.int .i64 (r.2))]
def dec72 : AV → Option (ByteArray × Int)
  | .tup [.c (Cell.str q0), .c (Cell.int .i64 q1)] => some (q0, q1)
  | _ => none
theorem de72 (v : AV) (r : ByteArray × Int) (h : dec72 v = some r) : v = oneOf (enc72 r) := by
  unfold dec72 at h
  split at h
  · cases h; rfl
  · cases h
abbrev Ty72 := (Option (Nat × Nat)) → Int → Int → Heap → Option ((ByteArray × Int) × Heap)
def sem72 (f : Ty72) : List TV → Heap → Option ((ByteArray × Int) × Heap)
  | [.c (Cell.ptr r), .c (Cell.int .i64 x1), .c (Cell.int .i64 x2)], H => f r x1 x2 H
  | _, _ => none
noncomputable def f72 : Ty72 := hide fun r x1 x2 H => fnA CC72 Try.f72.results.toList (bodyOf Try.f72) _ [.c (Cell.ptr r), .c (Cell.int .i64 x1), .c (Cell.int .i64 x2)] H (decF dec72)
theorem f72_eq (r : (Option (Nat × Nat))) (x1 : Int) (x2 : Int) (H : Heap) : f72 r x1 x2 H = fnA CC72 Try.f72.results.toList (bodyOf Try.f72) _ [.c (Cell.ptr r), .c (Cell.int .i64 x1), .c (Cell.int .i64 x2)] H (decF dec72) := by unfold f72; rw [hide_eq]
theorem f72_run (r : (Option (Nat × Nat))) (x1 : Int) (x2 : Int) (H : Heap) : f72 r x1 x2 H = fnL CC72 (lpD CC72) Try.f72.results.toList (bodyOf Try.f72) [.c (Cell.ptr r), .c (Cell.int .i64 x1), .c (Cell.int .i64 x2)] H (decF dec72) := (f72_eq ..).trans (fnA_lpD hN72 ..)
theorem q72 : ∀ (r : Option (Nat × Nat)) (x1 x2 : Int) (H : Heap), f72 r x1 x2 H = bif r.isNone then some (({ data := #[] }, 1), H) else r.bind fun v12 => (H.get v12.fst (v12.snd + 0)).bind fun v11 => v11.toSlice.bind fun v10 => bif !rope_store_has v10 x1 0 then some (({ data := #[] }, 7), H) else r.bind fun v9 => (H.get v9.fst (v9.snd + 0 + 0)).bind fun v8 => v8.toSlice.bind fun v7 => (Sl.sub v7 x1 none).bind fun v6 => bif esOk v7 1 then (f84 v6 0 H).bind fun v5 => bif decide (v5.fst < 0) then some (({ data := #[] }, 7), v5.snd) else bif decide (v5.fst > mm Builtin.max x2 0) then some (({ data := #[] }, 6), v5.snd) else r.bind fun v4 => (v5.snd.get v4.fst (v4.snd + 0 + 0)).bind fun v3 => v3.toSlice.bind fun v2 => (Sl.sub v2 x1 (some (IntKind.i64.wrap (x1 + v5.fst)))).bind fun v1 => bif esOk v2 1 then (v5.snd.str v1).bind fun v0 => some ((v0, 0), v5.snd) else none else none := by intros; exact (f72_run ..).trans (by kernel_rfl)
theorem ok72 : FnOk Try.prog 72 (specF enc72 (sem72 f72)) := by
  refine spec_ok (C := CC72) good72 rfl rfl rfl (by kernel_rfl) Try.func72 (c := bodyOf Try.f72) (by kernel_rfl) (by kernel_rfl) (Nat.le_of_eq Try.ntmps72.symm) dec72 enc72 de72 _ ?_
  intro args H q h
  unfold sem72 at h
  split at h
  · rw [← f72_eq]; exact h
  · cases h
/-- A text that ends with a nought. -/
def strR (l : List UInt8) (a m : Int) : ByteArray × Int :=
  bif hasI l.length a 0 then (match fi (l.drop a.toNat) with
    | none => ({ data := #[] }, 7)
    | some k => bif decide ((k : Int) > mm Builtin.max m 0) then ({ data := #[] }, 6) else (⟨((l.drop a.toNat).take k).toArray⟩, 0)) else ({ data := #[] }, 7)
theorem fi_lt : ∀ {l : List UInt8} {k : Nat}, fi l = some k → k < l.length
  | [], k, h => by cases h
  | b :: l, k, h => by
    unfold fi at h
    cases hb : (b == 0) with
    | true => rw [hb] at h; cases h; simp
    | false =>
      rw [hb, cond_false, Option.map_eq_some_iff] at h
      obtain ⟨j, h1, rfl⟩ := h
      have := fi_lt h1
      simp; omega
theorem f72_spec {F : Nat → Prop} {id : Nat} {b : List UInt8} {H : Heap} (hr : RP F H id b) (hb : b.length ≤ 1048576) (a m : Int) : f72 (some (id, 0)) a m H = some (strR b a m, H) := by
  obtain ⟨s, r1, r2⟩ := rp_len hr
  have hh := has_eq r2 (by omega) a 0
  rw [q72]
  unfold strR
  cases hc : hasI b.length a 0 with
  | false =>
    rw [hc] at hh
    simp only [nsome, ct, cf, bs, az, r1, tSlice, hh, Bool.not_false]
  | true =>
    rw [hc] at hh
    have ha : 0 ≤ a ∧ a ≤ b.length := by simp only [hasI, Bool.and_eq_true, decide_eq_true_eq] at hc; omega
    obtain ⟨k, rfl⟩ := Int.eq_ofNat_of_zero_le ha.1
    obtain ⟨s1, c1, c2, c3⟩ := r2.subE E8_len k (by omega)
    have h45 := f84_spec c2
    rw [Int.toNat_natCast]
    cases hfi : fi (b.drop k) with
    | none =>
      rw [hfi] at h45
      have hn : decide ((-1 : Int) < 0) = true := by decide
      simp only [nsome, ct, cf, bs, az, r1, tSlice, hh, Bool.not_true, c1, r2.esOkT, h45, hn]
    | some j =>
      rw [hfi] at h45
      have hj := fi_lt hfi
      rw [List.length_drop] at hj
      have hn : decide ((j : Int) < 0) = false := decide_eq_false (by omega)
      have g3 : IntKind.i64.wrap ((k : Int) + (j : Int)) = ((k + j : Nat) : Int) := by rw [wrap_i64 (by omega) (by omega)]; omega
      obtain ⟨s2, e1, e2, _⟩ := r2.sub E8_len k (k + j) (by omega) (by omega)
      rw [show k + j - k = j by omega] at e2
      cases hd : decide ((j : Int) > mm Builtin.max m 0) <;>
        simp only [nsome, ct, cf, bs, az, r1, tSlice, hh, Bool.not_true, c1, r2.esOkT, h45, hn, hd, g3, e1, e2.str]
/-! 38: R2_Nought -/
noncomputable def CC38 : Ctx := { P := Try.prog, own := [], fns := [], nt := 19, nums := [], live := [(2, ⟨[0, 5], [], [4], []⟩)] }
theorem good38 : Callees Try.prog CC38.fns [] CC38.nums := Callees.nil Try.prog
theorem hN38 : CtxNat CC38 := good38.ctx rfl rfl rfl
def enc38 (r : Int) : List TV := [.c (Cell.int .i64 (r))]
def dec38 : AV → Option (Int)
  | .c (Cell.int .i64 q0) => some (q0)
  | _ => none
theorem de38 (v : AV) (r : Int) (h : dec38 v = some r) : v = oneOf (enc38 r) := by
  unfold dec38 at h
  split at h
  · cases h; rfl
  · cases h
abbrev Ty38 := (Option Sl) → Int → Heap → Option (Int × Heap)
def sem38 (f : Ty38) : List TV → Heap → Option (Int × Heap)
  | [.c (Cell.slice b), .c (Cell.int .i64 x1)], H => f b x1 H
  | _, _ => none
noncomputable def f38 : Ty38 := hide fun b x1 H => fnA CC38 Try.f38.results.toList (bodyOf Try.f38) _ [.c (Cell.slice b), .c (Cell.int .i64 x1)] H (decF dec38)
theorem f38_eq (b : (Option Sl)) (x1 : Int) (H : Heap) : f38 b x1 H = fnA CC38 Try.f38.results.toList (bodyOf Try.f38) _ [.c (Cell.slice b), .c (Cell.int .i64 x1)] H (decF dec38) := by unfold f38; rw [hide_eq]
theorem f38_run (b : (Option Sl)) (x1 : Int) (H : Heap) : f38 b x1 H = fnL CC38 (lpD CC38) Try.f38.results.toList (bodyOf Try.f38) [.c (Cell.slice b), .c (Cell.int .i64 x1)] H (decF dec38) := (f38_eq ..).trans (fnA_lpD hN38 ..)
def S38_2 (t0 : (Option Sl)) (t5 : Int) (H : Heap) : St := ⟨[(0, .c (Cell.slice t0)), (5, .c (Cell.int .i64 t5))], [], H⟩
noncomputable def D38_2 (n : Nat) (t0 : (Option Sl)) (t5 : Int) (H : Heap) : Option (AExit × St) := loopN (exec CC38 (Code.l (Code.l (Code.r (Code.l (Code.r (bodyOf Try.f38))))))) (keepOf CC38.live (Code.l (Code.l (Code.r (Code.l (Code.r (bodyOf Try.f38))))))) n (S38_2 t0 t5 H) retD
noncomputable def LL38_2 (t0 : (Option Sl)) (t5 : Int) (H : Heap) : Option (AExit × St) := loopsD CC38 (Code.l (Code.l (Code.r (Code.l (Code.r (bodyOf Try.f38)))))) (S38_2 t0 t5 H)
theorem LL38_2_of (m : Nat) (hm : m < 18446744073709551616) (t0 : (Option Sl)) (t5 : Int) (H : Heap) : ∃ n, LL38_2 t0 t5 H = D38_2 (n + m + 1) t0 t5 H := loopsD_of _ _ _ m hm
def X38_2 (x0 : Int) (H : Heap) : St := { env := [(4, AV.c (Cell.int IntKind.i64 x0))], loc := [], heap := H }
def X38_2a (H : Heap) : St := { env := [], loc := [], heap := H }
noncomputable def J38_2 : AExit × St → Option (Int × Heap) := fun p => blockK 0 (seqK (execL CC38 (lpD CC38) (Code.r (Code.r (bodyOf Try.f38)))) (retA CC38 [ResultVar.tmp 4] (decF dec38))) p.fst p.snd
theorem D38_2_s : ∀ (n : Nat) (t0 : Option Sl) (t5 : Int) (H : Heap), D38_2 (n + 1) t0 t5 H = bif decide (t5 < slen t0) then t0.bind fun v2 => bif inb t5 v2.len && v2.esz == 1 then (H.get v2.id (v2.off + t5.toNat * 1)).bind fun v1 => (Cell.toInt IntKind.u8 v1).bind fun v0 => bif v0 == 0 then some (AExit.ret, X38_2 t5 H) else D38_2 n t0 (IntKind.i64.wrap (t5 + 1)) H else none else some (AExit.exit 0, X38_2a H) := by intros; exact (loopN_stepD hN38 _ _ _ _).trans (by kernel_rfl)
theorem q38 : ∀ (b : Option Sl) (x1 : Int) (H : Heap), f38 b x1 H = (LL38_2 b x1 H).bind J38_2 := by intros; exact (f38_run ..).trans (by kernel_rfl)
theorem J38_2_0 : ∀ (x0 : Int) (H : Heap), J38_2 (AExit.ret, X38_2 x0 H) = some (x0, H) := by intros; kernel_rfl
theorem J38_2_1 : ∀ (H : Heap), J38_2 (AExit.exit 0, X38_2a H) = some (-1, H) := by intros; kernel_rfl
theorem ok38 : FnOk Try.prog 38 (specF enc38 (sem38 f38)) := by
  refine spec_ok (C := CC38) good38 rfl rfl rfl (by kernel_rfl) Try.func38 (c := bodyOf Try.f38) (by kernel_rfl) (by kernel_rfl) (Nat.le_of_eq Try.ntmps38.symm) dec38 enc38 de38 _ ?_
  intro args H q h
  unfold sem38 at h
  split at h
  · rw [← f38_eq]; exact h
  · cases h
theorem loop38 {H : Heap} {s : Option Sl} {l : List UInt8} (h : RS 1 E8 H s l) (hl : l.length ≤ 1048576) : ∀ (m n i : Nat), i + m = l.length →
    (∀ k, fi (l.drop i) = some k → D38_2 (n + m + 1) s (i : Int) H = some (.ret, X38_2 ((i + k : Nat) : Int) H)) ∧ (fi (l.drop i) = none → D38_2 (n + m + 1) s (i : Int) H = some (.exit 0, X38_2a H))
  | 0, n, i, hi => by
    have g : decide ((i : Int) < slen s) = false := by rw [h.slenEq]; simp; omega
    have e : l.drop i = [] := List.drop_eq_nil_of_le (by omega)
    rw [e]
    exact ⟨(fun k e => nomatch e), fun _ => by rw [D38_2_s, g, cf]⟩
  | m + 1, n, i, hi => by
    have hil : i < l.length := by omega
    have hb : l[i]? = some l[i] := List.getElem?_eq_getElem hil
    have h0 := h
    obtain ⟨sl, rfl, g2, g4⟩ := h.idx1 hb (e := fun b => .int .u8 (b.toNat : Int)) fun _ => rfl
    have g : decide ((i : Int) < slen (some sl)) = true := by rw [h0.slenEq]; simp; omega
    have g3 : IntKind.i64.wrap ((i : Int) + 1) = ((i + 1 : Nat) : Int) := by rw [wrap_i64 (by omega) (by omega)]; omega
    have hd : l.drop i = l[i] :: l.drop (i + 1) := List.drop_eq_getElem_cons hil
    obtain ⟨j1, j2⟩ := loop38 h0 hl m n (i + 1) (by omega)
    rw [show n + (m + 1) + 1 = (n + m + 1) + 1 by omega, D38_2_s, g, hd]
    unfold fi
    cases hz : (l[i] == 0) with
    | true =>
      have hz' : (((l[i].toNat : Nat) : Int) == 0) = true := by rw [eq_of_beq hz]; rfl
      refine ⟨fun k e => ?_, fun e => by cases e⟩
      cases e
      simp only [ct, bs, g2, g4, tInt, hz']
      rfl
    | false =>
      have hz' : (((l[i].toNat : Nat) : Int) == 0) = false := by
        simp only [beq_eq_false_iff_ne, ne_eq] at hz ⊢
        intro e
        exact hz (UInt8.toNat_inj.1 (by simpa using e))
      simp only [ct, cf, bs, g2, g3, g4, tInt, hz', cond_false]
      refine ⟨fun k e => ?_, fun e => ?_⟩
      · rw [Option.map_eq_some_iff] at e
        obtain ⟨k', e1, rfl⟩ := e
        rw [j1 k' e1, show i + (k' + 1) = i + 1 + k' by omega]
      · rw [Option.map_eq_none_iff] at e
        exact j2 e
theorem f38_spec {H : Heap} {s : Option Sl} {l : List UInt8} (h : RS 1 E8 H s l) (hl : l.length ≤ 1048576) (i : Nat) (hi : i ≤ l.length) : f38 s (i : Int) H = some ((match fi (l.drop i) with | some k => ((i + k : Nat) : Int) | none => -1), H) := by
  obtain ⟨n, hn⟩ := LL38_2_of (l.length - i) (by omega) s (i : Int) H
  obtain ⟨j1, j2⟩ := loop38 h hl (l.length - i) n i (by omega)
  rw [q38, hn]
  cases hf : fi (l.drop i) with
  | none => exact bnd (j2 hf) (J38_2_1 _)
  | some k => exact bnd (j1 k hf) (J38_2_0 _ _)
/-! 80: rope_Rope_Cut -/
noncomputable def CC80 : Ctx := { P := Try.prog, own := [], fns := [(77, F77), (56, specF enc56 (sem56 f56))], nt := 31, nums := [77], live := [] }
theorem good80 : Callees Try.prog CC80.fns [] CC80.nums := ((Callees.nil Try.prog).cons ok56 (specF_nat _ _)).cons_num ok77 F77_num
theorem hN80 : CtxNat CC80 := good80.ctx rfl rfl rfl
def enc80 (r : (Option Sl) × Int) : List TV := [.c (Cell.slice (r.1)), .c (Cell.int .i64 (r.2))]
def dec80 : AV → Option ((Option Sl) × Int)
  | .tup [.c (Cell.slice q0), .c (Cell.int .i64 q1)] => some (q0, q1)
  | _ => none
theorem de80 (v : AV) (r : (Option Sl) × Int) (h : dec80 v = some r) : v = oneOf (enc80 r) := by
  unfold dec80 at h
  split at h
  · cases h; rfl
  · cases h
abbrev Ty80 := (Option (Nat × Nat)) → Int → Int → Heap → Option (((Option Sl) × Int) × Heap)
def sem80 (f : Ty80) : List TV → Heap → Option (((Option Sl) × Int) × Heap)
  | [.c (Cell.ptr r), .c (Cell.int .i64 x1), .c (Cell.int .i64 n)], H => f r x1 n H
  | _, _ => none
noncomputable def f80 : Ty80 := hide fun r x1 n H => fnA CC80 Try.f80.results.toList (bodyOf Try.f80) _ [.c (Cell.ptr r), .c (Cell.int .i64 x1), .c (Cell.int .i64 n)] H (decF dec80)
theorem f80_eq (r : (Option (Nat × Nat))) (x1 : Int) (n : Int) (H : Heap) : f80 r x1 n H = fnA CC80 Try.f80.results.toList (bodyOf Try.f80) _ [.c (Cell.ptr r), .c (Cell.int .i64 x1), .c (Cell.int .i64 n)] H (decF dec80) := by unfold f80; rw [hide_eq]
theorem f80_run (r : (Option (Nat × Nat))) (x1 : Int) (n : Int) (H : Heap) : f80 r x1 n H = fnL CC80 (lpD CC80) Try.f80.results.toList (bodyOf Try.f80) [.c (Cell.ptr r), .c (Cell.int .i64 x1), .c (Cell.int .i64 n)] H (decF dec80) := (f80_eq ..).trans (fnA_lpD hN80 ..)
theorem q80 : ∀ (r : Option (Nat × Nat)) (x1 n : Int) (H : Heap), f80 r x1 n H = bif r.isNone then some ((none, 1), H) else r.bind fun v7 => (H.get v7.fst (v7.snd + 0)).bind fun v6 => v6.toSlice.bind fun v5 => bif !rope_store_has v5 x1 n then some ((none, 7), H) else r.bind fun v4 => (H.get v4.fst (v4.snd + 0 + 0)).bind fun v3 => v3.toSlice.bind fun v2 => (Sl.sub v2 x1 (some (IntKind.i64.wrap (x1 + n)))).bind fun v1 => bif esOk v2 1 then (f56 v1 H).bind fun v0 => some ((v0.fst, 0), v0.snd) else none := by intros; exact (f80_run ..).trans (by kernel_rfl)
theorem ok80 : FnOk Try.prog 80 (specF enc80 (sem80 f80)) := by
  refine spec_ok (C := CC80) good80 rfl rfl rfl (by kernel_rfl) Try.func80 (c := bodyOf Try.f80) (by kernel_rfl) (by kernel_rfl) (Nat.le_of_eq Try.ntmps80.symm) dec80 enc80 de80 _ ?_
  intro args H q h
  unfold sem80 at h
  split at h
  · rw [← f80_eq]; exact h
  · cases h
theorem f80_no {F : Nat → Prop} {id : Nat} {b : List UInt8} {H : Heap} (hr : RP F H id b) (hb : b.length ≤ 1048576) (a n : Int) (hh : hasI b.length a n = false) : f80 (some (id, 0)) a n H = some ((none, 7), H) := by
  obtain ⟨s, r1, r2⟩ := rp_len hr
  have hh' := (has_eq r2 (by omega) a n).trans hh
  rw [q80]
  simp only [nsome, ct, cf, bs, az, r1, tSlice, hh', Bool.not_false]
theorem f80_spec {F : Nat → Prop} {id : Nat} {b : List UInt8} {H : Heap} (hr : RP F H id b) (hb : b.length ≤ 1048576) (a k : Nat) (hh : a + k ≤ b.length) : ∃ s' H', f80 (some (id, 0)) (a : Int) (k : Int) H = some ((s', 0), H') ∧ OS 1 E8 H' s' ((b.drop a).take k) ∧ Kp No H H' ∧ New H.length s' := by
  obtain ⟨s, r1, r2⟩ := rp_len hr
  have hh' : rope_store_has s (a : Int) (k : Int) = true := by rw [has_eq r2 (by omega)]; simp [hasI]; omega
  have g3 : IntKind.i64.wrap ((a : Int) + (k : Int)) = ((a + k : Nat) : Int) := by rw [wrap_i64 (by omega) (by omega)]; omega
  obtain ⟨s1, c1, c2, c3⟩ := r2.sub E8_len a (a + k) (by omega) hh
  rw [show a + k - a = k by omega] at c2
  obtain ⟨s', H', d1, d2, d3, d4⟩ := f56_spec s1 _ H c2 (by simp [most]; omega)
  refine ⟨s', H', ?_, d2, d3, d4⟩
  rw [q80]
  simp only [nsome, ct, cf, bs, az, r1, tSlice, hh', Bool.not_true, g3, c1, r2.esOkT, d1]
