/- Layer 4: what an image tells. -/
import Derived.Test.YtnjdajcgcnjamaaImR
namespace Go.Proofs.Ytnjdajcgcnjamaa
open Go Go.Proofs.Ytnjdajcgcnjamaa.Ab
set_option linter.unusedVariables false
set_option linter.unusedSimpArgs false
set_option maxRecDepth 100000
noncomputable section
theorem f43_x {H : Heap} {s : Sg} {sd : Option Sl} (h : RS 1 E8 H sd s.data) (hl : s.data.length ≤ 1000) (k fl sz a : Int) : f43 k fl s.addr sz sd a H = some (byteP s a, H) := by
  rw [q43, h.slenEq, u64_len _ (by omega)]
  unfold byteP
  by_cases g : IntKind.u64.wrap (a - s.addr) < (s.data.length : Int)
  · obtain ⟨sl, e, g1, g2⟩ := byte_len h _ (wrap_nn _) g
    rw [dT g, ct, ct, show sd.bind = (some sl).bind (β := Int × Heap) by rw [e]]
    simp only [Ab.bs, g1, ct, g2, tInt]
  · rw [dF g, cf, cf]
/-! a byte -/
theorem loop16 {H : Heap} {t : Option Sl} {l : List Sg} (hR : RS 5 ESg H t l) (hl : l.length < 10000) (hu : ∀ s ∈ l, SgU s) (hd : ∀ s ∈ l, RS 1 E8 H s.sl s.data ∧ s.data.length ≤ 1000) {a : Int} (ha : u64r a) : ∀ (m n i : Nat), i + m = l.length →
    (D16_2 (n + m + 1) a t (l.length : Int) (i : Int) H).bind J16_2 = some (findB a (l.drop i), H)
  | 0, n, i, hm => by
    rw [List.drop_eq_nil_of_le (by omega), D16_2_s, dF (by omega), cf, Ab.bs, J16_2_1]; rfl
  | m + 1, n, i, hm => by
    have hi : i < l.length := by omega
    obtain ⟨sl, e0, g1, c0, c1, c2, c3, c4⟩ := getsSg hR (List.getElem?_eq_getElem hi)
    have hsu := hu _ (List.getElem_mem hi)
    obtain ⟨d1, d2⟩ := hd _ (List.getElem_mem hi)
    have ih := loop16 hR hl hu hd ha m n (i + 1) (by omega)
    rw [show n + (m + 1) + 1 = (n + m + 1) + 1 by omega, D16_2_s, dT (by omega), ct, List.drop_eq_getElem_cons hi, findB]
    rw [show t.bind = (some sl).bind (β := AExit × St) by rw [e0]]
    simp only [Ab.bs, g1, ct, c0, c1, c2, c3, c4, tInt, tSlice, f20_x hsu ha, f43_x d1 d2, i64_succ i (by omega)]
    cases hasP l[i] a 1 with
    | true => simp only [ct, Ab.bs, J16_2_0]
    | false => simp only [cf]; exact ih
section
variable {H : Heap} {k fl ad sz : Int} {sd dt st : Option Sl} {en : Int} {fu tk : Option Sl} {m : Im}
/-- The data's segments as they lie in the heap. -/
theorem IR.data (h : IR H k fl ad sz sd dt st en fu tk m) (hm : ImOk m) : ∃ l, RS 5 ESg H dt l ∧ l.map er = m.dt.map er ∧ l.length < 1000 ∧ (∀ s ∈ l, SgU s) ∧ (∀ s ∈ l, RS 1 E8 H s.sl s.data ∧ s.data.length ≤ 1000) ∧ ∀ s ∈ l, ∃ s' ∈ m.dt, s'.flags = s.flags := by
  obtain ⟨l, h1, h2, h3⟩ := h.hdt
  have hlen : l.length = m.dt.length := by have := congrArg List.length h2; simpa using this
  have hmem : ∀ s ∈ l, ∃ s' ∈ m.dt, er s' = er s := fun s hs => by
    have : er s ∈ m.dt.map er := h2 ▸ List.mem_map_of_mem hs
    obtain ⟨s', h1, h2⟩ := List.mem_map.1 this
    exact ⟨s', h1, h2⟩
  refine ⟨l, h1, h2, by have := hm.dl; omega, fun s hs => ?_, fun s hs => ?_, fun s hs => ?_⟩
  · obtain ⟨s', h1, h2⟩ := hmem s hs
    have := (hm.du s' h1).1
    have e1 : s'.addr = s.addr := by have := congrArg Sg.addr h2; exact this
    have e2 : s'.size = s.size := by have := congrArg Sg.size h2; exact this
    unfold SgU at *
    rwa [e1, e2] at this
  · obtain ⟨s', h1, h2⟩ := hmem s hs
    have := (hm.du s' h1).2
    have e1 : s'.data = s.data := by have := congrArg Sg.data h2; exact this
    rw [e1] at this
    exact ⟨h3 s hs, this⟩
  · obtain ⟨s', h1, h2⟩ := hmem s hs
    exact ⟨s', h1, by have := congrArg Sg.flags h2; exact this⟩
theorem f16_x (ir : IR H k fl ad sz sd dt st en fu tk m) (hm : ImOk m) {a : Int} (ha : u64r a) : ∃ H', f16 k fl ad sz sd dt st en fu tk a H = some (byteI m a, H') ∧ Kp No H H' := by
  obtain ⟨l, d1, d2, d3, d4, d5, _⟩ := ir.data hm
  obtain ⟨o', ho'⟩ : ∃ o' : Sg, o' = { m.o with sl := sd } := ⟨_, rfl⟩
  have kP : Kp No H (H ++ [Blk.row [Cell.int IntKind.i64 k, Cell.int IntKind.i64 fl, Cell.int IntKind.u64 ad, Cell.int IntKind.u64 sz, Cell.slice sd] false]) := Kp.push1 _ _
  have hO : OS 5 ESg (H ++ [Blk.row [Cell.int IntKind.i64 k, Cell.int IntKind.i64 fl, Cell.int IntKind.u64 ad, Cell.int IntKind.u64 sz, Cell.slice sd] false]) (some ⟨H.length, 0, 1, 1, 5⟩) [o'] := by
    refine ⟨rfl, rfl, Nat.le_refl _, _, push_get _ _, by simp, fun i c e => ?_⟩
    rw [ho'] at e
    rw [ir.hk, ir.hf, ir.ha, ir.hs]
    simpa [ESg] using e
  obtain ⟨t4, H4, a1, a2, a3, _⟩ := append_OS ESg_len (by decide) (by' := 56) hO (d1.no kP) (by simp [most]; omega)
  have k4 : Kp No H H4 := kP.trans a3 (fun _ h => h) fun i hi ⟨q, e, e2⟩ => by cases e; simp at e2; omega
  have hu4 : ∀ x ∈ [o'] ++ l, SgU x := fun x hx => by
    rcases List.mem_append.1 hx with hx | hx
    · simp at hx; rw [hx, ho']; exact hm.ou
    · exact d4 x hx
  have hd4 : ∀ x ∈ [o'] ++ l, RS 1 E8 H4 x.sl x.data ∧ x.data.length ≤ 1000 := fun x hx => by
    rcases List.mem_append.1 hx with hx | hx
    · simp at hx; rw [hx, ho']; exact ⟨ir.hd.no k4, hm.od⟩
    · exact ⟨(d5 x hx).1.no k4, (d5 x hx).2⟩
  have hL : ([o'] ++ l).length < 10000 := by simp; omega
  obtain ⟨n5, hn5⟩ := LL16_2_of ([o'] ++ l).length (by omega) a t4 (([o'] ++ l).length : Int) 0 H4
  have e5 := loop16 a2.rs hL hu4 hd4 ha ([o'] ++ l).length n5 0 (by omega)
  rw [List.drop_zero] at e5
  have hb : findB a ([o'] ++ l) = byteI m a := by
    rw [List.singleton_append, findB, ← findB_er a l, d2, findB_er, ho']; rfl
  rw [hb] at e5
  exact ⟨H4, by rw [q16, a1, Ab.bs]; simp only []; rw [a2.rs.slenEq, hn5]; exact e5, k4⟩
end
/-! a number -/
def bN (s : Sg) (a : Int) (j : Nat) : Nat := (byteP s (IntKind.u64.wrap (a + (j : Int)))).toNat
theorem byteP_r (s : Sg) (a : Int) : 0 ≤ byteP s a ∧ byteP s a < 256 := by
  unfold byteP
  cases decide (IntKind.u64.wrap (a - s.addr) < (s.data.length : Int)) with
  | false => simp
  | true =>
    have := ((s.data[(IntKind.u64.wrap (a - s.addr)).toNat]?).getD 0).toNat_lt
    rw [cond_true]; omega
theorem bN_eq (s : Sg) (a : Int) (j : Nat) : byteP s (IntKind.u64.wrap (a + (j : Int))) = (bN s a j : Int) := by
  have := byteP_r s (IntKind.u64.wrap (a + (j : Int)))
  unfold bN; omega
theorem bN_lt (s : Sg) (a : Int) (j : Nat) : bN s a j < 256 := by
  have := byteP_r s (IntKind.u64.wrap (a + (j : Int)))
  unfold bN; omega
def lowN (b : Nat → Nat) : Nat → Nat
  | 0 => 0
  | i + 1 => lowN b i + b i * 256 ^ i
def hiN (b : Nat → Nat) : Nat → Nat
  | 0 => 0
  | k + 1 => hiN b k * 256 + b (7 - k)
theorem lowN_lt {b : Nat → Nat} (hb : ∀ j, b j < 256) : ∀ i, lowN b i < 256 ^ i
  | 0 => by simp [lowN]
  | i + 1 => by
    have h1 := lowN_lt hb i
    have h2 : b i * 256 ^ i ≤ 255 * 256 ^ i := Nat.mul_le_mul (by have := hb i; omega) (Nat.le_refl _)
    rw [lowN, Nat.pow_succ]; omega
theorem hiN_lt {b : Nat → Nat} (hb : ∀ j, b j < 256) : ∀ i, hiN b i < 256 ^ i
  | 0 => by simp [hiN]
  | i + 1 => by
    have h1 := hiN_lt hb i
    have := hb (7 - i)
    rw [hiN, Nat.pow_succ]; omega
theorem low_hi (b : Nat → Nat) : lowN b 8 = hiN b 8 := by
  simp only [lowN, hiN, Nat.sub_zero, Nat.reduceSub, Nat.reducePow, Nat.sub_self]; omega
theorem or_place {v b i : Nat} (hi : i < 8) (hv : v < 256 ^ i) (hb : b < 256) : bor .u64 (v : Int) (ishl .u64 (IntKind.u64.wrap (b : Int)) (IntKind.u64.wrap (8 * (i : Int)))) = ((v + b * 256 ^ i : Nat) : Int) := by
  have e1 : IntKind.u64.wrap (b : Int) = (b : Int) := by rw [wrap_u64]; omega
  have e2 : IntKind.u64.wrap (8 * (i : Int)) = ((8 * i : Nat) : Int) := by rw [wrap_u64]; omega
  have hp : (2 : Nat) ^ (8 * i) = 256 ^ i := by rw [Nat.pow_mul]
  have hq : (256 : Nat) ^ i ≤ 256 ^ 7 := Nat.pow_le_pow_right (by omega) (by omega)
  have h1 : b * 256 ^ i ≤ 255 * 256 ^ 7 := Nat.mul_le_mul (by omega) hq
  rw [e1, e2, shl_n b (8 * i) (256 ^ i) (by omega) hp, bor_u64]
  have e3 : ((v : Int) % 18446744073709551616).toNat = v := by omega
  have e4 : (((b * 256 ^ i % 18446744073709551616 : Nat) : Int) % 18446744073709551616).toNat = 256 ^ i * b := by rw [Nat.mul_comm (256 ^ i)]; omega
  rw [e3, e4, Nat.or_comm, ← hp, ← Nat.two_pow_add_eq_or_of_lt (by rw [hp]; exact hv), hp, Nat.mul_comm b]
  congr 1; omega
theorem loop17b {H : Heap} {s : Sg} (h : RS 1 E8 H s.sl s.data) (hl : s.data.length ≤ 1000) (a : Int) : ∀ (m n i : Nat), i + m = 8 →
    D17_7 (n + m + 1) a ((lowN (bN s a) i : Nat) : Int) (i : Int) s.kind s.flags s.addr s.size s.sl H = some (.exit 2, X17_7 ((lowN (bN s a) 8 : Nat) : Int) H)
  | 0, n, i, hm => by
    have : i = 8 := by omega
    subst this
    rw [D17_7_s, dF (by omega), cf]
  | m + 1, n, i, hm => by
    have w : IntKind.u64.wrap ((i : Int) + 1) = ((i + 1 : Nat) : Int) := by rw [wrap_u64]; omega
    have ih := loop17b h hl a m n (i + 1) (by omega)
    rw [show n + (m + 1) + 1 = (n + m + 1) + 1 by omega, D17_7_s, dT (by omega), ct, f42_x h hl, Ab.bs, dF (show ¬ IntKind.u64.wrap (8 * (i : Int)) < 0 by have := wrap_nn (8 * (i : Int)); omega), cf]
    simp only [bN_eq]
    rw [or_place (by omega) (lowN_lt (bN_lt s a) i) (bN_lt s a i), w]
    exact ih
theorem loop18b {H : Heap} {s : Sg} (h : RS 1 E8 H s.sl s.data) (hl : s.data.length ≤ 1000) (a : Int) : ∀ (m n : Nat), m ≤ 8 →
    D18_7 (n + m + 1) a ((hiN (bN s a) (8 - m) : Nat) : Int) ((m : Int) - 1) s.kind s.flags s.addr s.size s.sl H = some (.exit 2, X18_7 ((hiN (bN s a) 8 : Nat) : Int) H)
  | 0, n, hm => by rw [D18_7_s, dF (by omega), cf]
  | m + 1, n, hm => by
    have e : (((m + 1 : Nat) : Int) - 1) = m := by omega
    have w1 : IntKind.i64.wrap ((m : Int) - 1) = (m : Int) - 1 := wrap_i64 (by omega) (by omega)
    have w2 : IntKind.u64.wrap (m : Int) = (m : Int) := by rw [wrap_u64]; omega
    have ih := loop18b h hl a m n (by omega)
    have hp : (256 : Nat) ^ (8 - (m + 1)) ≤ 256 ^ 7 := Nat.pow_le_pow_right (by omega) (by omega)
    have h1 := hiN_lt (bN_lt s a) (8 - (m + 1))
    have h2 := bN_lt s a m
    have e8 : hiN (bN s a) (8 - m) = hiN (bN s a) (8 - (m + 1)) * 256 + bN s a m := by
      rw [show 8 - m = (8 - (m + 1)) + 1 by omega, hiN, show 7 - (8 - (m + 1)) = m by omega]
    rw [show n + (m + 1) + 1 = (n + m + 1) + 1 by omega, e, D18_7_s, dT (by omega), ct, w2, f43_x h hl, Ab.bs]
    simp only [bN_eq]
    have w3 : IntKind.u64.wrap (IntKind.u64.wrap (((hiN (bN s a) (8 - (m + 1)) : Nat) : Int) * 256) + IntKind.u64.wrap ((bN s a m : Nat) : Int)) = ((hiN (bN s a) (8 - m) : Nat) : Int) := by
      rw [e8, wrap_u64, wrap_u64, wrap_u64]; omega
    rw [w3, w1]
    exact ih
def fixP (a : Int) : List Sg → Int × Bool
  | [] => (0, false)
  | s :: r => bif !(band IntKind.i64 s.flags 2 != 0) && hasP s a 8 then (((lowN (bN s a) 8 : Nat) : Int), true) else fixP a r
theorem loop17a {H : Heap} {t : Option Sl} {l : List Sg} (hR : RS 5 ESg H t l) (hl : l.length < 10000) (hu : ∀ s ∈ l, SgU s) (hd : ∀ s ∈ l, RS 1 E8 H s.sl s.data ∧ s.data.length ≤ 1000) {a : Int} (ha : u64r a) : ∀ (m n i : Nat), i + m = l.length →
    (D17_2 (n + m + 1) a t (l.length : Int) (i : Int) H).bind J17_2 = some (fixP a (l.drop i), H)
  | 0, n, i, hm => by
    rw [List.drop_eq_nil_of_le (by omega), D17_2_s, dF (by omega), cf, Ab.bs, J17_2_0]; rfl
  | m + 1, n, i, hm => by
    have hi : i < l.length := by omega
    obtain ⟨sl, e0, g1, c0, c1, c2, c3, c4⟩ := getsSg hR (List.getElem?_eq_getElem hi)
    have hsu := hu _ (List.getElem_mem hi)
    obtain ⟨d1, d2⟩ := hd _ (List.getElem_mem hi)
    have ih := loop17a hR hl hu hd ha m n (i + 1) (by omega)
    rw [show n + (m + 1) + 1 = (n + m + 1) + 1 by omega, D17_2_s, dT (by omega), ct, List.drop_eq_getElem_cons hi, fixP]
    rw [show t.bind = (some sl).bind (β := AExit × St) by rw [e0]]
    simp only [Ab.bs, g1, ct, c0, c1, c2, c3, c4, tInt, tSlice, i64_succ i (by omega)]
    generalize l[i] = s at *
    cases band IntKind.i64 s.flags 2 != 0 with
    | true => simp only [ct, Bool.not_true, Bool.false_and, cf]; exact ih
    | false =>
      simp only [cf, f10_x hsu ha, Ab.bs, Bool.not_false, Bool.true_and]
      cases hasP s a 8 with
      | false => simp only [Bool.not_false, ct, cf]; exact ih
      | true =>
        obtain ⟨n1, hn1⟩ := LL17_7_of 8 (by omega) a 0 0 s.kind s.flags s.addr s.size s.sl H
        have e1 : D17_7 (n1 + 8 + 1) a 0 0 s.kind s.flags s.addr s.size s.sl H = _ := loop17b d1 d2 a 8 n1 0 rfl
        simp only [Bool.not_true, cf, ct, hn1, e1, Ab.bs, J17_7_0, J17_2_1]
theorem loop18a {H : Heap} {t : Option Sl} {l : List Sg} (hR : RS 5 ESg H t l) (hl : l.length < 10000) (hu : ∀ s ∈ l, SgU s) (hk : ∀ s ∈ l, 0 ≤ s.flags ∧ s.flags ≤ 7) (hd : ∀ s ∈ l, RS 1 E8 H s.sl s.data ∧ s.data.length ≤ 1000) {a : Int} (ha : u64r a) : ∀ (m n i : Nat), i + m = l.length →
    (D18_2 (n + m + 1) a t (l.length : Int) (i : Int) H).bind J18_2 = some (fixP a (l.drop i), H)
  | 0, n, i, hm => by
    rw [List.drop_eq_nil_of_le (by omega), D18_2_s, dF (by omega), cf, Ab.bs, J18_2_0]; rfl
  | m + 1, n, i, hm => by
    have hi : i < l.length := by omega
    obtain ⟨sl, e0, g1, c0, c1, c2, c3, c4⟩ := getsSg hR (List.getElem?_eq_getElem hi)
    have hsu := hu _ (List.getElem_mem hi)
    have hsk := hk _ (List.getElem_mem hi)
    obtain ⟨d1, d2⟩ := hd _ (List.getElem_mem hi)
    have ih := loop18a hR hl hu hk hd ha m n (i + 1) (by omega)
    rw [show n + (m + 1) + 1 = (n + m + 1) + 1 by omega, D18_2_s, dT (by omega), ct, List.drop_eq_getElem_cons hi, fixP]
    rw [show t.bind = (some sl).bind (β := AExit × St) by rw [e0]]
    simp only [Ab.bs, g1, ct, c0, c1, c2, c3, c4, tInt, tSlice, i64_succ i (by omega)]
    generalize l[i] = s at *
    rw [isW_mod hsk]
    cases !(band IntKind.i64 s.flags 2 != 0) with
    | false => simp only [Bool.false_and, cf]; exact ih
    | true =>
      simp only [ct, f20_x hsu ha, Ab.bs, Bool.true_and]
      cases hasP s a 8 with
      | false => simp only [cf]; exact ih
      | true =>
        obtain ⟨n1, hn1⟩ := LL18_7_of 8 (by omega) a 0 7 s.kind s.flags s.addr s.size s.sl H
        have e1 : D18_7 (n1 + 8 + 1) a 0 7 s.kind s.flags s.addr s.size s.sl H = _ := loop18b d1 d2 a 8 n1 (Nat.le_refl _)
        simp only [ct, hn1, e1, Ab.bs, J18_7_0, J18_2_1, low_hi]
theorem fixP_er (a : Int) : ∀ l : List Sg, fixP a (l.map er) = fixP a l
  | [] => rfl
  | s :: r => by
    rw [List.map_cons, fixP, fixP, fixP_er a r]; rfl
section
variable {H : Heap} {k fl ad sz : Int} {sd dt st : Option Sl} {en : Int} {fu tk : Option Sl} {m : Im}
theorem f17_x (ir : IR H k fl ad sz sd dt st en fu tk m) (hm : ImOk m) {a : Int} (ha : u64r a) : f17 k fl ad sz sd dt st en fu tk a H = some (fixP a m.dt, H) := by
  obtain ⟨l, d1, d2, d3, d4, d5, _⟩ := ir.data hm
  obtain ⟨n, hn⟩ := LL17_2_of l.length (by omega) a dt (l.length : Int) 0 H
  have e := loop17a d1 (by omega) d4 d5 ha l.length n 0 (by omega)
  rw [List.drop_zero, ← fixP_er, d2, fixP_er] at e
  rw [q17, d1.slenEq, hn]; exact e
theorem f18_x (ir : IR H k fl ad sz sd dt st en fu tk m) (hm : ImOk m) (hf : ∀ s ∈ m.dt, 0 ≤ s.flags ∧ s.flags ≤ 7) {a : Int} (ha : u64r a) : f18 k fl ad sz sd dt st en fu tk a H = some (fixP a m.dt, H) := by
  obtain ⟨l, d1, d2, d3, d4, d5, d6⟩ := ir.data hm
  obtain ⟨n, hn⟩ := LL18_2_of l.length (by omega) a dt (l.length : Int) 0 H
  have e := loop18a d1 (by omega) d4 (fun s hs => by obtain ⟨s', h1, h2⟩ := d6 s hs; rw [← h2]; exact hf s' h1) d5 ha l.length n 0 (by omega)
  rw [List.drop_zero, ← fixP_er, d2, fixP_er] at e
  rw [q18, d1.slenEq, hn]; exact e
end
/-! the roots -/
theorem loop21b {H0 : Heap} {t : Option Sl} {l : List Int} (hR : RS 1 E64 H0 t l) (hl : l.length < 10000) : ∀ (m n i : Nat) (u : Option Sl) (la : List Int) (H : Heap), i + m = l.length → la.length ≤ 20000 + i → Kp No H0 H → RS 1 E64 H u la →
    ∃ u' H', (D21_8 (n + m + 1) u t (l.length : Int) (i : Int) H).bind J21_8 = some (u', H') ∧ Kp No H H' ∧ RS 1 E64 H' u' (intoAll la (l.drop i))
  | 0, n, i, u, la, H, hm, ha, k, hr => by
    rw [List.drop_eq_nil_of_le (by omega)]
    exact ⟨u, H, by rw [D21_8_s, dF (by omega), cf, Ab.bs, J21_8_0], Kp.refl _ _, hr⟩
  | m + 1, n, i, u, la, H, hm, ha, k, hr => by
    have hi : i < l.length := by omega
    obtain ⟨sl, e0, g1, c0⟩ := gets64 (hR.no k) (List.getElem?_eq_getElem hi)
    obtain ⟨u1, H1, e1, k1, r1⟩ := f40_x hr (by omega) l[i]
    obtain ⟨u', H', e2, k2, r2⟩ := loop21b hR hl m n (i + 1) u1 _ H1 (by omega) (by have := into_len l[i] la; omega) (k.tr k1) r1
    rw [show n + (m + 1) + 1 = (n + m + 1) + 1 by omega, D21_8_s, dT (by omega), ct, List.drop_eq_getElem_cons hi]
    rw [show t.bind = (some sl).bind (β := AExit × St) by rw [e0]]
    refine ⟨u', H', ?_, k1.tr k2, r2⟩
    simp only [Ab.bs, g1, ct, c0, tInt, e1, i64_succ i (by omega)]
    exact e2
theorem loop21a {H0 : Heap} {t : Option Sl} {l : List Int} (hR : RS 1 E64 H0 t l) (hl : l.length < 10000) (b0 b1 b2 b3 : Int) (b4 b5 b6 : Option Sl) (b7 : Int) (b8 b9 : Option Sl) : ∀ (m n i : Nat) (u : Option Sl) (la : List Int) (H : Heap), i + m = l.length → la.length ≤ 1 + i → Kp No H0 H → RS 1 E64 H u la →
    ∃ u' H', D21_3 (n + m + 1) u t (l.length : Int) (i : Int) b0 b1 b2 b3 b4 b5 b6 b7 b8 b9 H = some (.exit 0, X21_3 u' b0 b1 b2 b3 b4 b5 b6 b7 b8 b9 H') ∧ Kp No H H' ∧ RS 1 E64 H' u' (intoAll la (l.drop i))
  | 0, n, i, u, la, H, hm, ha, k, hr => by
    rw [List.drop_eq_nil_of_le (by omega)]
    exact ⟨u, H, by rw [D21_3_s, dF (by omega), cf], Kp.refl _ _, hr⟩
  | m + 1, n, i, u, la, H, hm, ha, k, hr => by
    have hi : i < l.length := by omega
    obtain ⟨sl, e0, g1, c0⟩ := gets64 (hR.no k) (List.getElem?_eq_getElem hi)
    obtain ⟨u1, H1, e1, k1, r1⟩ := f40_x hr (by omega) l[i]
    obtain ⟨u', H', e2, k2, r2⟩ := loop21a hR hl b0 b1 b2 b3 b4 b5 b6 b7 b8 b9 m n (i + 1) u1 _ H1 (by omega) (by have := into_len l[i] la; omega) (k.tr k1) r1
    rw [show n + (m + 1) + 1 = (n + m + 1) + 1 by omega, D21_3_s, dT (by omega), ct, List.drop_eq_getElem_cons hi]
    rw [show t.bind = (some sl).bind (β := AExit × St) by rw [e0]]
    refine ⟨u', H', ?_, k1.tr k2, r2⟩
    simp only [Ab.bs, g1, ct, c0, tInt, e1, i64_succ i (by omega)]
    exact e2
theorem f21_x {H : Heap} {k fl ad sz : Int} {sd dt st : Option Sl} {en : Int} {fu tk : Option Sl} {m : Im} (h : IR H k fl ad sz sd dt st en fu tk m) (hl : m.fu.length + m.tk.length < 10000) : ∃ u H', f21 k fl ad sz sd dt st en fu tk H = some (u, H') ∧ RS 1 E64 H' u (rootsP m) ∧ Kp No H H' := by
  have kP : Kp No H (H ++ [Blk.row [Cell.int IntKind.u64 en] false]) := Kp.push1 _ _
  have r0 : RS 1 E64 (H ++ [Blk.row [Cell.int IntKind.u64 en] false]) (some ⟨H.length, 0, 1, 1, 1⟩) [en] := rs_new [en] (ro := false) (by rw [push_get]; rfl) rfl
  have h1 := h.no kP
  obtain ⟨n1, hn1⟩ := LL21_3_of m.fu.length (by omega) (some ⟨H.length, 0, 1, 1, 1⟩) fu (m.fu.length : Int) 0 k fl ad sz sd dt st en fu tk (H ++ [Blk.row [Cell.int IntKind.u64 en] false])
  obtain ⟨u1, H1, e1, k1, r1⟩ := loop21a h1.hfu (by omega) k fl ad sz sd dt st en fu tk m.fu.length n1 0 _ [en] _ (by omega) (by simp) (Kp.refl _ _) r0
  rw [List.drop_zero] at r1
  have h2 := h1.no k1
  have hlen := all_len m.fu [en]
  obtain ⟨n2, hn2⟩ := LL21_8_of m.tk.length (by omega) u1 tk (m.tk.length : Int) 0 H1
  obtain ⟨u2, H2, e2, k2, r2⟩ := loop21b h2.htk (by omega) m.tk.length n2 0 u1 _ H1 (by omega) (by simp at hlen; omega) (Kp.refl _ _) r1
  rw [List.drop_zero] at r2
  have he : intoAll (intoAll [en] m.fu) m.tk = rootsP m := by
    unfold rootsP
    refine strict_ext (all_strict _ _ (all_strict _ _ ⟨(fun _ h => by cases h), trivial⟩)) (rising_strict _) fun x => ?_
    rw [all_mem, all_mem, rising_mem, h.hen]
    simp only [List.mem_cons, List.mem_append, List.not_mem_nil, or_false, or_assoc]
  rw [he] at r2
  have e1' : D21_3 (n1 + m.fu.length + 1) (some ⟨H.length, 0, 1, 1, 1⟩) fu (m.fu.length : Int) 0 k fl ad sz sd dt st en fu tk (H ++ [Blk.row [Cell.int IntKind.u64 en] false]) = _ := e1
  exact ⟨u2, H2, by rw [q21, h1.hfu.slenEq, hn1, e1', Ab.bs, J21_3_0, h2.htk.slenEq, hn2]; exact e2, r2, (kP.tr k1).tr k2⟩
end
end Go.Proofs.Ytnjdajcgcnjamaa
