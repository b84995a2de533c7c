/- Layer 28: events are put in order. -/
import Derived.Test.YthakpjkmianglaaCaD
import Derived.Test.YthakpjkmianglaaCa1b
namespace Go.Proofs.Ythakpjkmianglaa
open Go Go.Proofs.Ythakpjkmianglaa.Ab
set_option linter.unusedVariables false
set_option linter.unusedSimpArgs false
set_option maxRecDepth 100000
noncomputable section
def colF (A : Nat → Nat → Bool) (i j k : Nat) : Int := (((List.range i).filter fun a => A a k).length : Int) + if k < j ∧ A i k = true then 1 else 0
def nats (l : List Nat) : List Int := l.map fun (a : Nat) => (a : Int)
def rowF (A : Nat → Nat → Bool) (n i j t : Nat) : List Int := if t < i then nats ((List.range n).filter (A t)) else if t = i then nats ((List.range j).filter (A i)) else []
theorem colF_le (A : Nat → Nat → Bool) (i j k : Nat) : 0 ≤ colF A i j k ∧ colF A i j k ≤ i + 1 := by
  unfold colF
  have := List.length_filter_le (fun a => A a k) (List.range i)
  rw [List.length_range] at this
  split <;> omega
theorem colF_next (A : Nat → Nat → Bool) (i n k : Nat) (hk : k < n) : colF A i n k = colF A (i + 1) 0 k := by
  unfold colF
  rw [List.range_succ, List.filter_append]
  cases h : A i k <;> simp [h, hk]
theorem rowF_next (A : Nat → Nat → Bool) (n i t : Nat) : rowF A n i n t = rowF A n (i + 1) 0 t := by
  unfold rowF
  by_cases h1 : t < i
  · rw [if_pos h1, if_pos (by omega)]
  · rw [if_neg h1]
    by_cases h2 : t = i
    · subst h2; rw [if_pos rfl, if_pos (by omega)]
    · rw [if_neg h2, if_neg (by omega)]
      split <;> simp [nats]
theorem getsS {H : Heap} {s : Option Sl} {l : List (Option Sl)} (h : RS 1 ES H s l) {i : Nat} {a : Option Sl} (hi : l[i]? = some a) :
    ∃ sl, s = some sl ∧ (inb (i : Int) sl.len && sl.esz == 1) = true ∧ H.get sl.id (sl.off + ((i : Nat) : Int).toNat * 1) = some (.slice a) := by
  obtain ⟨sl, e, h1, h2⟩ := h.idx ES_len hi
  exact ⟨sl, e, h1, by simpa using h2 0 _ rfl⟩
theorem getsB {H : Heap} {s : Option Sl} {l : List Bool} (h : RS 1 EB H s l) {i : Nat} {a : Bool} (hi : l[i]? = some a) :
    ∃ sl, s = some sl ∧ (inb (i : Int) sl.len && sl.esz == 1) = true ∧ H.get sl.id (sl.off + ((i : Nat) : Int).toNat * 1) = some (.bool a) := by
  obtain ⟨sl, e, h1, h2⟩ := h.idx EB_len hi
  exact ⟨sl, e, h1, by simpa using h2 0 _ rfl⟩
theorem tab_inc (A : Nat → Nat → Bool) (n i j : Nat) (hj : j < n) (h : A i j = true) : (tab n (colF A i j)).set j (colF A i j j + 1) = tab n (colF A i (j + 1)) := by
  refine tab_set _ _ _ hj fun k hk => ?_
  unfold colF
  by_cases e : k = j
  · subst e; simp [h]
  · rw [if_neg e]
    congr 1
    have : (k < j + 1 ∧ A i k = true) ↔ (k < j ∧ A i k = true) := ⟨fun ⟨a, b⟩ => ⟨by omega, b⟩, fun ⟨a, b⟩ => ⟨by omega, b⟩⟩
    simp only [this]
theorem tab_row (A : Nat → Nat → Bool) (n i j : Nat) (hi : i < n) (h : A i j = true) : (tab n (rowF A n i j)).set i (nats ((List.range j).filter (A i)) ++ [(j : Int)]) = tab n (rowF A n i (j + 1)) := by
  refine tab_set _ _ _ hi fun k hk => ?_
  by_cases e : k = i
  · rw [if_pos e]
    subst e
    unfold rowF
    rw [if_neg (by omega), if_pos rfl, List.range_succ, List.filter_append]
    simp [nats, h]
  · rw [if_neg e]
    unfold rowF
    rw [if_neg e, if_neg e]
/-- While the order is made. -/
structure SP (HB H : Heap) (sb sd : Sl) (so : Option Sl) (be : List Int) (dn : List Bool) (o : List Int) : Prop where
  b : OS 1 EI H (some sb) be
  d : OS 1 EB H (some sd) dn
  o : OS 1 EI H so o
  hd : HB.length ≤ sd.id
  ho : ∀ q, so = some q → HB.length ≤ q.id ∧ q.id ≠ sd.id
  hb : sb.id < HB.length
  k : Kp (Ab.One sb.id) HB H
theorem SP.dec {HB H : Heap} {sb sd : Sl} {so : Option Sl} {be : List Int} {dn : List Bool} {o : List Int} (h : SP HB H sb sd so be dn o) {j : Nat} (hj : j < be.length) (v : Int) :
    ∃ H', H.put sb.id (sb.off + ((j : Nat) : Int).toNat * 1) [.int .i64 v] = some H' ∧ SP HB H' sb sd so (be.set j v) dn o := by
  obtain ⟨H', e1, e2, e3, e4⟩ := OS.put EI_len (vs := [.int .i64 v]) (y := v) (j := 0) h.b (List.getElem?_eq_getElem hj) (by simp) rfl
  have h1 := h.hd
  have h2 := h.hb
  refine ⟨H', e1, e2, h.d.kp e3 (fun sl e => by cases e; unfold Ab.One; omega), h.o.kp e3 (fun sl e => by have := (h.ho sl e).1; unfold Ab.One; omega), h.hd, h.ho, h.hb, h.k.trans e3 (fun _ h => h) fun _ _ h => h⟩
theorem SP.done {HB H : Heap} {sb sd : Sl} {so : Option Sl} {be : List Int} {dn : List Bool} {o : List Int} (h : SP HB H sb sd so be dn o) {j : Nat} (hj : j < dn.length) (v : Bool) :
    ∃ H', H.put sd.id (sd.off + ((j : Nat) : Int).toNat * 1) [.bool v] = some H' ∧ SP HB H' sb sd so be (dn.set j v) o := by
  obtain ⟨H', e1, e2, e3, e4⟩ := OS.put EB_len (vs := [.bool v]) (y := v) (j := 0) h.d (List.getElem?_eq_getElem hj) (by simp) rfl
  have h1 := h.hd
  have h2 := h.hb
  refine ⟨H', e1, h.b.kp e3 (fun sl e => by cases e; unfold Ab.One; omega), e2, h.o.kp e3 (fun sl e => (h.ho sl e).2), h.hd, h.ho, h.hb, h.k.trans e3 (fun _ h => h) fun i hi he => ?_⟩
  have : i = sd.id := he
  omega
theorem SP.out {HB H : Heap} {sb sd : Sl} {so : Option Sl} {be : List Int} {dn : List Bool} {o : List Int} (h : SP HB H sb sd so be dn o) (hl : o.length < 1000) (v : Int) :
    ∃ s' H', (H ++ [Blk.row [Cell.int IntKind.i64 v] false]).append 1 8 so (some { id := List.length H, off := 0, len := 1, cap := 1, esz := 1 }) = some (s', H') ∧ SP HB H' sb sd s' be dn (o ++ [v]) := by
  have hP : Kp No H (H ++ [Blk.row [Cell.int IntKind.i64 v] false]) := Kp.push1 _ _
  have x1 : RS 1 EI (H ++ [Blk.row [Cell.int IntKind.i64 v] false]) (some ⟨H.length, 0, 1, 1, 1⟩) [v] := ⟨rfl, rfl, Nat.le_refl _, fun k c e => by
    cases k with
    | zero => rw [get_of (push_get _ _)]; simpa [EI] using e
    | succ k => simp [EI] at e⟩
  obtain ⟨s', H1, f1, f2, f3, f4⟩ := append_OS EI_len (by omega) (by' := 8) (h.o.no hP) x1 (by simp [most]; omega)
  have h1 := h.hd
  have h2 := h.hb
  have h3 := h.k.len
  have hlen : (H ++ [Blk.row [Cell.int IntKind.i64 v] false]).length = H.length + 1 := by simp
  refine ⟨s', H1, f1, (h.b.no hP).kp f3 ?_, (h.d.no hP).kp f3 ?_, f2, h.hd, ?_, h.hb, ?_⟩
  · rintro sl e ⟨q, e1, e2⟩
    cases e
    have := (h.ho q e1).1; omega
  · rintro sl e ⟨q, e1, e2⟩
    cases e
    exact (h.ho q e1).2 e2.symm
  · intro q e
    rcases f4 q e with ⟨q', e1, e2⟩ | e1
    · have := h.ho q' e1; rw [e2]; exact this
    · have := h.d.lt; omega
  · refine (h.k.trans hP (D := Ab.One sb.id) (fun _ h => h) fun _ _ h => absurd h (fun x => x)).trans f3 (fun _ h => h) fun i hi hf => ?_
    obtain ⟨q, e1, e2⟩ := hf
    have := (h.ho q e1).1; omega
theorem tab_dec (n : Nat) (f : Nat → Int) (r : List Nat) (hr : r.Nodup) (j : Nat) (hj : j < r.length) (hn : r[j] < n) :
    (tab n (fun k => f k - if k ∈ r.take j then 1 else 0)).set r[j] (f r[j] - (if r[j] ∈ r.take j then 1 else 0) - 1) = tab n (fun k => f k - if k ∈ r.take (j + 1) then 1 else 0) := by
  have hnm : r[j] ∉ r.take j := by
    intro hm
    obtain ⟨i, hi, e⟩ := List.getElem_of_mem hm
    rw [List.length_take] at hi
    rw [List.getElem_take] at e
    exact (List.pairwise_iff_getElem.1 (List.nodup_iff_pairwise_ne.1 hr)) i j (by omega) hj (by omega) e
  have hm : ∀ a, a ∈ r.take (j + 1) ↔ a ∈ r.take j ∨ a = r[j] := fun a => by rw [List.take_succ_eq_append_getElem hj, List.mem_append, List.mem_singleton]
  refine tab_set _ _ _ hn fun k hk => ?_
  by_cases e : k = r[j]
  · subst e; simp [hm, hnm]
  · simp [hm, e]
def Sorted1 (A : Nat → Nat → Bool) (n m : Nat) (o : List Nat) (so : Option Sl) (ok : Bool) (H : Heap) : Prop :=
  match sortX A n m o with
  | some o' => ok = true ∧ RS 1 EI H so (nats o')
  | none => ok = false ∧ so = none
theorem loop15a8 (A : Nat → Nat → Bool) (H0 : Heap) (b n : Nat) (hn : n < 1000) (hA : ∀ G, Kp No H0 G → ∀ i j : Nat, i < n → j < n → f23 (some (b, 0)) (i : Int) (j : Int) G = some (A i j, G)) (sb sn : Sl) (i : Nat) (hi : i < n) : ∀ (m q j : Nat) (nx : List (Option Sl)) (H : Heap), j + m = n → SI H0 H n sb sn (tab n (colF A i j)) nx (tab n (rowF A n i j)) →
    ∃ nx' H', D15a_8 (q + m + 1) (some (b, 0)) (n : Int) (some sb) (some sn) (i : Int) (n : Int) (i : Int) (n : Int) (j : Int) H = some (.exit 2, X15a_8 (some (b, 0)) (n : Int) (some sb) (some sn) (n : Int) (i : Int) H') ∧
      SI H0 H' n sb sn (tab n (colF A i n)) nx' (tab n (rowF A n i n))
  | 0, q, j, nx, H, hm, h => by
    have g : decide ((j : Int) < (n : Int)) = false := by simp; omega
    rw [show j = n by omega] at h
    exact ⟨nx, H, by rw [D15a_8_s, g, cf], h⟩
  | m + 1, q, j, nx, H, hm, h => by
    have g : decide ((j : Int) < (n : Int)) = true := by simp; omega
    have hj : j < n := by omega
    rw [show q + (m + 1) + 1 = (q + m + 1) + 1 by omega, D15a_8_s, g, ct, hA H h.k i j hi hj, Ab.bs]
    dsimp only
    cases hAij : A i j with
    | false =>
      have e1 : tab n (colF A i j) = tab n (colF A i (j + 1)) := tab_eq fun k hk => by
        unfold colF
        congr 1
        have : (k < j + 1 ∧ A i k = true) ↔ (k < j ∧ A i k = true) := ⟨fun ⟨a, c⟩ => ⟨by
          rcases Nat.lt_or_ge k j with h | h
          · exact h
          · rw [show k = j by omega, hAij] at c; exact absurd c (by simp), c⟩, fun ⟨a, c⟩ => ⟨by omega, c⟩⟩
        simp only [this]
      have e2 : tab n (rowF A n i j) = tab n (rowF A n i (j + 1)) := tab_eq fun k hk => by
        unfold rowF
        rw [List.range_succ, List.filter_append]
        simp [hAij]
      rw [e1, e2] at h
      rw [cf, i64_succ j (by omega)]
      exact loop15a8 A H0 b n hn hA sb sn i hi m q (j + 1) nx H (by omega) h
    | true =>
      rw [ct]
      have hc := colF_le A i j j
      obtain ⟨sl, e0, g1, c0⟩ := gets1 h.b.rs (tab_get (colF A i j) hj)
      cases e0
      obtain ⟨H1, p1, h1⟩ := h.inc hj (colF A i j j + 1)
      obtain ⟨row, l, r1, r2, r3⟩ := h1.row hi
      obtain ⟨sl, e0, g2, c1⟩ := getsS h1.nn.rs r1
      cases e0
      have hl : l = nats ((List.range j).filter (A i)) := by
        rw [tab_get _ hi] at r2
        cases r2
        unfold rowF
        rw [if_neg (by omega), if_pos rfl]
      have hll : l.length < 1000 := by
        rw [hl]
        have := List.length_filter_le (A i) (List.range j)
        rw [List.length_range] at this
        unfold nats
        rw [List.length_map]; omega
      obtain ⟨s', H2, H3, a1, a2, a3⟩ := h1.app r1 r2 hll (j : Int)
      rw [tab_inc A n i j hj hAij, hl, tab_row A n i j hi hAij] at a3
      obtain ⟨nx', H', r5, r6⟩ := loop15a8 A H0 b n hn hA sb sn i hi m q (j + 1) _ H3 (by omega) a3
      refine ⟨nx', H', ?_, r6⟩
      have hw : IntKind.i64.wrap (colF A i j j + 1) = colF A i j j + 1 := wrap_i64 (by omega) (by omega)
      simp only [Ab.bs, g1, ct, c0, tInt, hw, p1, g2, c1, tSlice, a1, a2, i64_succ j (by omega)]
      exact r5
theorem loop15a5 (A : Nat → Nat → Bool) (H0 : Heap) (b n : Nat) (hn : n < 1000) (hA : ∀ G, Kp No H0 G → ∀ i j : Nat, i < n → j < n → f23 (some (b, 0)) (i : Int) (j : Int) G = some (A i j, G)) (sb sn : Sl) : ∀ (m q i : Nat) (nx : List (Option Sl)) (H : Heap), i + m = n → SI H0 H n sb sn (tab n (colF A i 0)) nx (tab n (rowF A n i 0)) →
    ∃ nx' H', D15a_5 (q + m + 1) (some (b, 0)) (n : Int) (some sb) (some sn) (n : Int) (i : Int) H = some (.exit 0, X15a_5 (n : Int) (some sb) (some sn) H') ∧
      SI H0 H' n sb sn (tab n (colF A n 0)) nx' (tab n (rowF A n n 0))
  | 0, q, i, nx, H, hm, h => by
    have g : decide ((i : Int) < (n : Int)) = false := by simp; omega
    rw [show i = n by omega] at h
    exact ⟨nx, H, by rw [D15a_5_s, g, cf], h⟩
  | m + 1, q, i, nx, H, hm, h => by
    have g : decide ((i : Int) < (n : Int)) = true := by simp; omega
    have hi : i < n := by omega
    obtain ⟨q2, e⟩ := LL15a_8_of n (by omega) (some (b, 0)) (n : Int) (some sb) (some sn) (i : Int) (n : Int) (i : Int) (n : Int) 0 H
    obtain ⟨nx1, H1, r1, r2⟩ := loop15a8 A H0 b n hn hA sb sn i hi n q2 0 nx H (by omega) h
    rw [tab_eq fun k hk => colF_next A i n k hk, tab_eq fun k hk => rowF_next A n i k] at r2
    obtain ⟨nx2, H2, r3, r4⟩ := loop15a5 A H0 b n hn hA sb sn m q (i + 1) nx1 H1 (by omega) r2
    refine ⟨nx2, H2, ?_, r4⟩
    have e' := e.trans r1
    rw [show q + (m + 1) + 1 = (q + m + 1) + 1 by omega, D15a_5_s, g, ct, e', Ab.bs, J15a_8_0, i64_succ i (by omega)]
    exact r3
theorem loop15a27 (HB : Heap) (n : Nat) (sb sd : Sl) (so : Option Sl) (t8 t11 : Option Sl) (t58 t59 : Int) (dn : List Bool) (o : List Int) (s : Option Sl) (r : List Nat) (hr : r.Nodup) (hrn : ∀ a ∈ r, a < n) (hn : n < 1000) (hrl : r.length < 1000)
    (hs : RS 1 EI HB s (nats r)) (hne : ∀ q, s = some q → q.id ≠ sb.id) (f : Nat → Int) (hf : ∀ k, -1000 ≤ f k ∧ f k ≤ 1000) : ∀ (m q j : Nat) (H : Heap), j + m = r.length → SP HB H sb sd so (tab n fun k => f k - if k ∈ r.take j then 1 else 0) dn o →
    ∃ H', D15a_27 (q + m + 1) (n : Int) (some sb) t8 t11 so t58 t59 s (r.length : Int) (j : Int) H = some (.exit 8, X15a_27 (n : Int) (some sb) t8 t11 so t58 t59 H') ∧ SP HB H' sb sd so (tab n fun k => f k - if k ∈ r then 1 else 0) dn o
  | 0, q, j, H, hm, h => by
    have g : decide ((j : Int) < (r.length : Int)) = false := by simp; omega
    rw [List.take_of_length_le (by omega)] at h
    exact ⟨H, by rw [D15a_27_s, g, cf], h⟩
  | m + 1, q, j, H, hm, h => by
    have g : decide ((j : Int) < (r.length : Int)) = true := by simp; omega
    have hj : j < r.length := by omega
    have hjn := hrn r[j] (List.getElem_mem hj)
    have hs1 : RS 1 EI H s (nats r) := hs.kp h.k fun q e _ => hne q e
    obtain ⟨sl, e0, g1, c0⟩ := gets1 hs1 (show (nats r)[j]? = some ((r[j] : Nat) : Int) by unfold nats; rw [List.getElem?_map, List.getElem?_eq_getElem hj]; rfl)
    obtain ⟨sl2, e2, g2, c1⟩ := gets1 h.b.rs (tab_get (fun k => f k - if k ∈ r.take j then 1 else 0) hjn)
    cases e2
    have hfk := hf r[j]
    have hbd : -1001 ≤ f r[j] - (if r[j] ∈ r.take j then 1 else 0) ∧ f r[j] - (if r[j] ∈ r.take j then 1 else 0) ≤ 1000 := by split <;> omega
    obtain ⟨H1, p1, h1⟩ := h.dec (j := r[j]) (by rw [tab_length]; exact hjn) (f r[j] - (if r[j] ∈ r.take j then 1 else 0) - 1)
    rw [tab_dec n f r hr j hj hjn] at h1
    obtain ⟨H2, r1, r2⟩ := loop15a27 HB n sb sd so t8 t11 t58 t59 dn o s r hr hrn hn hrl hs hne f hf m q (j + 1) H1 (by omega) h1
    refine ⟨H2, ?_, r2⟩
    have hw : IntKind.i64.wrap (f r[j] - (if r[j] ∈ r.take j then 1 else 0) - 1) = f r[j] - (if r[j] ∈ r.take j then 1 else 0) - 1 := wrap_i64 (by omega) (by omega)
    rw [show q + (m + 1) + 1 = (q + m + 1) + 1 by omega, D15a_27_s, g, ct]
    rw [e0] at r1 ⊢
    simp only [Ab.bs, g1, ct, c0, tInt, g2, c1, hw, p1, i64_succ j (by omega)]
    exact r1
theorem loop15a20 (A : Nat → Nat → Bool) (HB : Heap) (n : Nat) (hn : n < 1000) (sb sd : Sl) (so t8 : Option Sl) (t58 t59 : Int) (o : List Nat) (os : List Int) (H : Heap) (h : SP HB H sb sd so (tab n (cnt A n o)) (tab n fun k => o.contains k) os) : ∀ (m q i : Nat), i + m = n →
    D15a_20 (q + m + 1) (n : Int) (some sb) t8 (some sd) so (i : Int) t58 t59 H = some (.exit 6, X15a_20 (n : Int) (some sb) t8 (some sd) so ((srch (freeX A n o) m i : Nat) : Int) t58 t59 H)
  | 0, q, i, hm => by
    have g : decide ((i : Int) < (n : Int)) = false := by simp; omega
    rw [D15a_20_s, g, cf]; rfl
  | m + 1, q, i, hm => by
    have g : decide ((i : Int) < (n : Int)) = true := by simp; omega
    have hi : i < n := by omega
    have ih := loop15a20 A HB n hn sb sd so t8 t58 t59 o os H h m q (i + 1) (by omega)
    obtain ⟨sl, e0, g1, c0⟩ := getsB h.d.rs (tab_get (fun k => o.contains k) hi)
    cases e0
    obtain ⟨sl, e0, g2, c1⟩ := gets1 h.b.rs (tab_get (cnt A n o) hi)
    cases e0
    rw [show q + (m + 1) + 1 = (q + m + 1) + 1 by omega, D15a_20_s, g, ct]
    unfold srch
    simp only [Ab.bs, g1, ct, c0, tBool, g2, c1, tInt, i64_succ i (by omega)]
    unfold freeX
    unfold freeX at ih
    cases o.contains i
    · cases decide (cnt A n o i > 0)
      · rfl
      · simp only [cf, ct, ih, Bool.not_true, Bool.and_false]
    · simp only [cf, ct, ih, Bool.not_true, Bool.false_and]
theorem loop15a18 (A : Nat → Nat → Bool) (H0 HB : Heap) (n : Nat) (hn : n < 1000) (sb sn sd : Sl) (be0 : List Int) (nx : List (Option Sl)) (hS : SI H0 HB n sb sn be0 nx (tab n (rowF A n n 0))) : ∀ (m q i : Nat) (so : Option Sl) (o : List Nat) (H : Heap), i + m = n → (∀ a ∈ o, a < n) → o.length = i →
    SP HB H sb sd so (tab n (cnt A n o)) (tab n fun k => o.contains k) (nats o) →
    ∃ so' ok H', (D15a_18 (q + m + 1) (n : Int) (some sb) (some sn) (some sd) so (n : Int) (i : Int) H).bind J15a_18 = some ((so', ok), H') ∧ Sorted1 A n m o so' ok H' ∧ Kp (Ab.One sb.id) HB H'
  | 0, q, i, so, o, H, hm, hon, hol, h => by
    have g : decide ((i : Int) < (n : Int)) = false := by simp; omega
    exact ⟨so, true, H, by rw [D15a_18_s, g, cf, Ab.bs, J15a_18_0], ⟨rfl, h.o.rs⟩, h.k⟩
  | m + 1, q, i, so, o, H, hm, hon, hol, h => by
    have g : decide ((i : Int) < (n : Int)) = true := by simp; omega
    obtain ⟨q2, e⟩ := LL15a_20_of n (by omega) (n : Int) (some sb) (some sn) (some sd) so 0 (n : Int) (i : Int) H
    have e' := e.trans (loop15a20 A HB n hn sb sd so (some sn) (n : Int) (i : Int) o (nats o) H h n q2 0 (by omega))
    rw [show q + (m + 1) + 1 = (q + m + 1) + 1 by omega, D15a_18_s, g, ct, e', Ab.bs, J15a_20_0]
    unfold Sorted1 sortX
    have hb : (((srch (freeX A n o) n 0 : Nat) : Int) == (n : Int)) = (srch (freeX A n o) n 0 == n) := by
      rw [Bool.eq_iff_iff]; simp only [beq_iff_eq]; omega
    rw [hb]
    have hsp := srch_spec (freeX A n o) n 0
    generalize srch (freeX A n o) n 0 = x at hsp ⊢
    cases hx : x == n with
    | true =>
      refine ⟨none, false, H, by rw [ct, Ab.bs, J15a_18_1], ?_, h.k⟩
      rw [ct]; exact ⟨rfl, rfl⟩
    | false =>
      rw [cf]
      have hxn : x < n ∧ freeX A n o x = true := by
        rcases hsp with ⟨h1, _⟩ | ⟨h1, _, h3⟩
        · rw [h1] at hx; simp at hx
        · exact ⟨by omega, h3⟩
      obtain ⟨hxl, hfree⟩ := hxn
      have hxc : o.contains x = false := by
        unfold freeX at hfree
        cases hc : o.contains x with
        | false => rfl
        | true => rw [hc] at hfree; cases hfree
      obtain ⟨sl, e0, g1, c0⟩ := getsB h.d.rs (tab_get (fun k => o.contains k) hxl)
      cases e0
      obtain ⟨H1, p1, h1⟩ := h.done (j := x) (by rw [tab_length]; exact hxl) true
      have hdn : (tab n fun k => o.contains k).set x true = tab n fun k => (o ++ [x]).contains k := tab_set _ _ _ hxl fun k hk => by
        by_cases e : k = x
        · subst e; simp
        · simp [e]
      rw [hdn] at h1
      obtain ⟨s', H2, p2, h2⟩ := h1.out (by unfold nats; rw [List.length_map]; omega) (x : Int)
      have hno : nats o ++ [(x : Int)] = nats (o ++ [x]) := by simp [nats]
      rw [hno] at h2
      obtain ⟨row, l, r1, r2, r3⟩ := hS.row hxl
      have hl : l = nats ((List.range n).filter (A x)) := by
        rw [tab_get _ hxl] at r2
        cases r2
        unfold rowF
        rw [if_pos hxl]
      rw [hl] at r3
      have hnn : RS 1 ES H2 (some sn) nx := hS.nn.rs.kp h2.k fun q e _ => by cases e; exact fun x => hS.ne x.symm
      obtain ⟨sl, e0, g2, c1⟩ := getsS hnn r1
      cases e0
      have hrow : RS 1 EI H2 row (nats ((List.range n).filter (A x))) := r3.rs.kp h2.k fun q e _ => by subst e; exact (hS.hr x q r1).2.1
      have hlen : ((List.range n).filter (A x)).length < 1000 := by
        have := List.length_filter_le (A x) (List.range n)
        rw [List.length_range] at this; omega
      obtain ⟨q3, e3⟩ := LL15a_27_of ((List.range n).filter (A x)).length (by omega) (n : Int) (some sb) (some sn) (some sd) s' (n : Int) (i : Int) row (slen row) 0 H2
      have hsl : slen row = (((List.range n).filter (A x)).length : Int) := by rw [hrow.slenEq]; simp [nats]
      obtain ⟨H3, r4, r5⟩ := loop15a27 HB n sb sd s' (some sn) (some sd) (n : Int) (i : Int) (tab n fun k => (o ++ [x]).contains k) (nats (o ++ [x])) row ((List.range n).filter (A x)) (List.nodup_range.filter _) (fun a ha => by simp at ha; exact ha.1) hn hlen r3.rs
        (fun q e => by subst e; exact (hS.hr x q r1).2.1) (cnt A n o) (fun k => by have := cnt_le A n o k; omega) ((List.range n).filter (A x)).length q3 0 H2 (by omega) (by
          have : (tab n fun k => cnt A n o k - if k ∈ ((List.range n).filter (A x)).take 0 then 1 else 0) = tab n (cnt A n o) := tab_eq fun k hk => by simp
          rw [this]; exact h2)
      have hcn : (tab n fun k => cnt A n o k - if k ∈ (List.range n).filter (A x) then 1 else 0) = tab n (cnt A n (o ++ [x])) := tab_eq fun k hk => by
        rw [cnt_done A n o x k hxl hxc]
        simp [hk]
      rw [hcn] at r5
      obtain ⟨so', ok, H', t1, t2, t3⟩ := loop15a18 A H0 HB n hn sb sn sd be0 nx hS m q (i + 1) s' (o ++ [x]) H3 (by omega) (fun a ha => by
        rcases List.mem_append.1 ha with h | h
        · exact hon a h
        · simp at h; omega) (by simp; omega) r5
      refine ⟨so', ok, H', ?_, ?_, t3⟩
      · rw [hsl] at e3
        simp only [Ab.bs, g1, ct, p1, p2, g2, c1, tSlice, hsl]
        rw [e3]
        rw [show (0 : Int) = ((0 : Nat) : Int) from rfl, r4, Ab.bs, J15a_27_0, i64_succ i (by omega)]
        exact t1
      · rw [cf]; exact t2
theorem f15a_x {H : Heap} {b : Nat} {s : XS} {x : Ex} (h : World H b s x) (A : Nat → Nat → Bool) (hA : ∀ G, Kp No H G → ∀ i j : Nat, i < x.L.length → j < x.L.length → f23 (some (b, 0)) (i : Int) (j : Int) G = some (A i j, G)) :
    ∃ so ok H', f15a (some (b, 0)) (some (b, 0)) H = some ((so, ok), H') ∧ Sorted1 A x.L.length x.L.length [] so ok H' ∧ Kp No H H' := by
  obtain ⟨m, ps, hw⟩ := h
  obtain ⟨w0, w1, w3, w4, w5⟩ := hw.g
  have hb := hw.x.bl
  obtain ⟨H1, m1, o1, k1, l1⟩ := make_OS (E := EI) EI_len H (0 : Int) x.L.length 8 (by unfold most; omega) (by unfold most; omega)
  obtain ⟨H2, m2, o2, k2, l2⟩ := make_OS (E := ES) ES_len H1 (none : Option Sl) x.L.length 24 (by unfold most; omega) (by unfold most; omega)
  have m1' : H.make 1 8 [Cell.int IntKind.i64 0] (x.L.length : Int) (x.L.length : Int) = some (some ⟨H.length, 0, x.L.length, x.L.length, 1⟩, H1) := m1
  have m2' : H1.make 1 24 [Cell.slice none] (x.L.length : Int) (x.L.length : Int) = some (some ⟨H1.length, 0, x.L.length, x.L.length, 1⟩, H2) := m2
  have hS : SI H H2 x.L.length ⟨H.length, 0, x.L.length, x.L.length, 1⟩ ⟨H1.length, 0, x.L.length, x.L.length, 1⟩ (tab x.L.length (colF A 0 0)) (List.replicate x.L.length none) (tab x.L.length (rowF A x.L.length 0 0)) := by
    have e1 : tab x.L.length (colF A 0 0) = List.replicate x.L.length 0 := by
      rw [← tab_rep]; exact tab_eq fun k hk => by simp [colF]
    have e2 : tab x.L.length (rowF A x.L.length 0 0) = List.replicate x.L.length [] := by
      rw [← tab_rep]; exact tab_eq fun k hk => by simp [rowF, nats]
    rw [e1, e2]
    refine ⟨o1.no k2, o2, by simp, by simp, by simp, fun t sl l h1 h2 => ?_, Nat.le_refl _, k1.len, by show H.length ≠ H1.length; omega, fun t sl h1 => ?_, fun t u sl sl' h1 => ?_, k1.tr k2⟩
    · rw [List.getElem?_replicate] at h1 h2
      split at h1
      · rename_i ht
        rw [if_pos ht] at h2
        cases h1; cases h2; rfl
      · cases h1
    · rw [List.getElem?_replicate] at h1
      split at h1 <;> cases h1
    · rw [List.getElem?_replicate] at h1
      split at h1 <;> cases h1
  obtain ⟨q, e⟩ := LL15a_5_of x.L.length (by omega) (some (b, 0)) (x.L.length : Int) (some ⟨H.length, 0, x.L.length, x.L.length, 1⟩) (some ⟨H1.length, 0, x.L.length, x.L.length, 1⟩) (x.L.length : Int) 0 H2
  obtain ⟨nx, H3, r1, r2⟩ := loop15a5 A H b x.L.length hb hA ⟨H.length, 0, x.L.length, x.L.length, 1⟩ ⟨H1.length, 0, x.L.length, x.L.length, 1⟩ x.L.length q 0 _ H2 (by omega) hS
  have e' := e.trans r1
  rw [q15a, Ab.bs, show (b, 0).snd + 0 + 0 = 0 from rfl, w0, Ab.bs, tSlice, Ab.bs, hw.x.l.slenEq, m1', Ab.bs]
  dsimp only
  rw [m2', Ab.bs]
  dsimp only
  rw [e', Ab.bs, J15a_5_0]
  obtain ⟨H4, m4, o4, k4, l4⟩ := make_OS (E := EB) EB_len H3 false x.L.length 1 (by unfold most; omega) (by unfold most; omega)
  have m4' : H3.make 1 1 [Cell.bool false] (x.L.length : Int) (x.L.length : Int) = some (some ⟨H3.length, 0, x.L.length, x.L.length, 1⟩, H4) := m4
  rw [m4', Ab.bs]
  dsimp only
  obtain ⟨q2, e2⟩ := LL15a_18_of x.L.length (by omega) (x.L.length : Int) (some ⟨H.length, 0, x.L.length, x.L.length, 1⟩) (some ⟨H1.length, 0, x.L.length, x.L.length, 1⟩) (some ⟨H3.length, 0, x.L.length, x.L.length, 1⟩) none (x.L.length : Int) 0 H4
  have hP : SP H3 H4 ⟨H.length, 0, x.L.length, x.L.length, 1⟩ ⟨H3.length, 0, x.L.length, x.L.length, 1⟩ none (tab x.L.length (cnt A x.L.length [])) (tab x.L.length fun k => ([] : List Nat).contains k) (nats []) := by
    have e1 : tab x.L.length (cnt A x.L.length []) = tab x.L.length (colF A x.L.length 0) := tab_eq fun k hk => by simp [cnt, colF]
    have e2 : (tab x.L.length fun k => ([] : List Nat).contains k) = List.replicate x.L.length false := by
      rw [← tab_rep]; exact tab_eq fun k hk => by simp
    rw [e1, e2]
    exact ⟨r2.b.no k4, o4, rfl, Nat.le_refl _, (fun q e => by cases e), r2.b.lt, k4.mono fun _ _ h => absurd h (fun x => x)⟩
  obtain ⟨so, ok, H5, t1, t2, t3⟩ := loop15a18 A H H3 x.L.length hb ⟨H.length, 0, x.L.length, x.L.length, 1⟩ ⟨H1.length, 0, x.L.length, x.L.length, 1⟩ ⟨H3.length, 0, x.L.length, x.L.length, 1⟩ _ nx r2 x.L.length q2 0 none [] H4 (by omega) (by simp) rfl hP
  refine ⟨so, ok, H5, ?_, t2, r2.k.trSet t3 (Nat.le_refl _)⟩
  rw [e2]
  exact t1
theorem loop15b8 (A : Nat → Nat → Bool) (H0 : Heap) (b n : Nat) (hn : n < 1000) (hA : ∀ G, Kp No H0 G → ∀ i j : Nat, i < n → j < n → f16 (some (b, 0)) (i : Int) (j : Int) G = some (A i j, G)) (sb sn : Sl) (i : Nat) (hi : i < n) : ∀ (m q j : Nat) (nx : List (Option Sl)) (H : Heap), j + m = n → SI H0 H n sb sn (tab n (colF A i j)) nx (tab n (rowF A n i j)) →
    ∃ nx' H', D15b_8 (q + m + 1) (some (b, 0)) (n : Int) (some sb) (some sn) (i : Int) (n : Int) (i : Int) (n : Int) (j : Int) H = some (.exit 2, X15b_8 (some (b, 0)) (n : Int) (some sb) (some sn) (n : Int) (i : Int) H') ∧
      SI H0 H' n sb sn (tab n (colF A i n)) nx' (tab n (rowF A n i n))
  | 0, q, j, nx, H, hm, h => by
    have g : decide ((j : Int) < (n : Int)) = false := by simp; omega
    rw [show j = n by omega] at h
    exact ⟨nx, H, by rw [D15b_8_s, g, cf], h⟩
  | m + 1, q, j, nx, H, hm, h => by
    have g : decide ((j : Int) < (n : Int)) = true := by simp; omega
    have hj : j < n := by omega
    rw [show q + (m + 1) + 1 = (q + m + 1) + 1 by omega, D15b_8_s, g, ct, hA H h.k i j hi hj, Ab.bs]
    dsimp only
    cases hAij : A i j with
    | false =>
      have e1 : tab n (colF A i j) = tab n (colF A i (j + 1)) := tab_eq fun k hk => by
        unfold colF
        congr 1
        have : (k < j + 1 ∧ A i k = true) ↔ (k < j ∧ A i k = true) := ⟨fun ⟨a, c⟩ => ⟨by
          rcases Nat.lt_or_ge k j with h | h
          · exact h
          · rw [show k = j by omega, hAij] at c; exact absurd c (by simp), c⟩, fun ⟨a, c⟩ => ⟨by omega, c⟩⟩
        simp only [this]
      have e2 : tab n (rowF A n i j) = tab n (rowF A n i (j + 1)) := tab_eq fun k hk => by
        unfold rowF
        rw [List.range_succ, List.filter_append]
        simp [hAij]
      rw [e1, e2] at h
      rw [cf, i64_succ j (by omega)]
      exact loop15b8 A H0 b n hn hA sb sn i hi m q (j + 1) nx H (by omega) h
    | true =>
      rw [ct]
      have hc := colF_le A i j j
      obtain ⟨sl, e0, g1, c0⟩ := gets1 h.b.rs (tab_get (colF A i j) hj)
      cases e0
      obtain ⟨H1, p1, h1⟩ := h.inc hj (colF A i j j + 1)
      obtain ⟨row, l, r1, r2, r3⟩ := h1.row hi
      obtain ⟨sl, e0, g2, c1⟩ := getsS h1.nn.rs r1
      cases e0
      have hl : l = nats ((List.range j).filter (A i)) := by
        rw [tab_get _ hi] at r2
        cases r2
        unfold rowF
        rw [if_neg (by omega), if_pos rfl]
      have hll : l.length < 1000 := by
        rw [hl]
        have := List.length_filter_le (A i) (List.range j)
        rw [List.length_range] at this
        unfold nats
        rw [List.length_map]; omega
      obtain ⟨s', H2, H3, a1, a2, a3⟩ := h1.app r1 r2 hll (j : Int)
      rw [tab_inc A n i j hj hAij, hl, tab_row A n i j hi hAij] at a3
      obtain ⟨nx', H', r5, r6⟩ := loop15b8 A H0 b n hn hA sb sn i hi m q (j + 1) _ H3 (by omega) a3
      refine ⟨nx', H', ?_, r6⟩
      have hw : IntKind.i64.wrap (colF A i j j + 1) = colF A i j j + 1 := wrap_i64 (by omega) (by omega)
      simp only [Ab.bs, g1, ct, c0, tInt, hw, p1, g2, c1, tSlice, a1, a2, i64_succ j (by omega)]
      exact r5
theorem loop15b5 (A : Nat → Nat → Bool) (H0 : Heap) (b n : Nat) (hn : n < 1000) (hA : ∀ G, Kp No H0 G → ∀ i j : Nat, i < n → j < n → f16 (some (b, 0)) (i : Int) (j : Int) G = some (A i j, G)) (sb sn : Sl) : ∀ (m q i : Nat) (nx : List (Option Sl)) (H : Heap), i + m = n → SI H0 H n sb sn (tab n (colF A i 0)) nx (tab n (rowF A n i 0)) →
    ∃ nx' H', D15b_5 (q + m + 1) (some (b, 0)) (n : Int) (some sb) (some sn) (n : Int) (i : Int) H = some (.exit 0, X15b_5 (n : Int) (some sb) (some sn) H') ∧
      SI H0 H' n sb sn (tab n (colF A n 0)) nx' (tab n (rowF A n n 0))
  | 0, q, i, nx, H, hm, h => by
    have g : decide ((i : Int) < (n : Int)) = false := by simp; omega
    rw [show i = n by omega] at h
    exact ⟨nx, H, by rw [D15b_5_s, g, cf], h⟩
  | m + 1, q, i, nx, H, hm, h => by
    have g : decide ((i : Int) < (n : Int)) = true := by simp; omega
    have hi : i < n := by omega
    obtain ⟨q2, e⟩ := LL15b_8_of n (by omega) (some (b, 0)) (n : Int) (some sb) (some sn) (i : Int) (n : Int) (i : Int) (n : Int) 0 H
    obtain ⟨nx1, H1, r1, r2⟩ := loop15b8 A H0 b n hn hA sb sn i hi n q2 0 nx H (by omega) h
    rw [tab_eq fun k hk => colF_next A i n k hk, tab_eq fun k hk => rowF_next A n i k] at r2
    obtain ⟨nx2, H2, r3, r4⟩ := loop15b5 A H0 b n hn hA sb sn m q (i + 1) nx1 H1 (by omega) r2
    refine ⟨nx2, H2, ?_, r4⟩
    have e' := e.trans r1
    rw [show q + (m + 1) + 1 = (q + m + 1) + 1 by omega, D15b_5_s, g, ct, e', Ab.bs, J15b_8_0, i64_succ i (by omega)]
    exact r3
theorem loop15b27 (HB : Heap) (n : Nat) (sb sd : Sl) (so : Option Sl) (t8 t11 : Option Sl) (t58 t59 : Int) (dn : List Bool) (o : List Int) (s : Option Sl) (r : List Nat) (hr : r.Nodup) (hrn : ∀ a ∈ r, a < n) (hn : n < 1000) (hrl : r.length < 1000)
    (hs : RS 1 EI HB s (nats r)) (hne : ∀ q, s = some q → q.id ≠ sb.id) (f : Nat → Int) (hf : ∀ k, -1000 ≤ f k ∧ f k ≤ 1000) : ∀ (m q j : Nat) (H : Heap), j + m = r.length → SP HB H sb sd so (tab n fun k => f k - if k ∈ r.take j then 1 else 0) dn o →
    ∃ H', D15b_27 (q + m + 1) (n : Int) (some sb) t8 t11 so t58 t59 s (r.length : Int) (j : Int) H = some (.exit 8, X15b_27 (n : Int) (some sb) t8 t11 so t58 t59 H') ∧ SP HB H' sb sd so (tab n fun k => f k - if k ∈ r then 1 else 0) dn o
  | 0, q, j, H, hm, h => by
    have g : decide ((j : Int) < (r.length : Int)) = false := by simp; omega
    rw [List.take_of_length_le (by omega)] at h
    exact ⟨H, by rw [D15b_27_s, g, cf], h⟩
  | m + 1, q, j, H, hm, h => by
    have g : decide ((j : Int) < (r.length : Int)) = true := by simp; omega
    have hj : j < r.length := by omega
    have hjn := hrn r[j] (List.getElem_mem hj)
    have hs1 : RS 1 EI H s (nats r) := hs.kp h.k fun q e _ => hne q e
    obtain ⟨sl, e0, g1, c0⟩ := gets1 hs1 (show (nats r)[j]? = some ((r[j] : Nat) : Int) by unfold nats; rw [List.getElem?_map, List.getElem?_eq_getElem hj]; rfl)
    obtain ⟨sl2, e2, g2, c1⟩ := gets1 h.b.rs (tab_get (fun k => f k - if k ∈ r.take j then 1 else 0) hjn)
    cases e2
    have hfk := hf r[j]
    have hbd : -1001 ≤ f r[j] - (if r[j] ∈ r.take j then 1 else 0) ∧ f r[j] - (if r[j] ∈ r.take j then 1 else 0) ≤ 1000 := by split <;> omega
    obtain ⟨H1, p1, h1⟩ := h.dec (j := r[j]) (by rw [tab_length]; exact hjn) (f r[j] - (if r[j] ∈ r.take j then 1 else 0) - 1)
    rw [tab_dec n f r hr j hj hjn] at h1
    obtain ⟨H2, r1, r2⟩ := loop15b27 HB n sb sd so t8 t11 t58 t59 dn o s r hr hrn hn hrl hs hne f hf m q (j + 1) H1 (by omega) h1
    refine ⟨H2, ?_, r2⟩
    have hw : IntKind.i64.wrap (f r[j] - (if r[j] ∈ r.take j then 1 else 0) - 1) = f r[j] - (if r[j] ∈ r.take j then 1 else 0) - 1 := wrap_i64 (by omega) (by omega)
    rw [show q + (m + 1) + 1 = (q + m + 1) + 1 by omega, D15b_27_s, g, ct]
    rw [e0] at r1 ⊢
    simp only [Ab.bs, g1, ct, c0, tInt, g2, c1, hw, p1, i64_succ j (by omega)]
    exact r1
theorem loop15b20 (A : Nat → Nat → Bool) (HB : Heap) (n : Nat) (hn : n < 1000) (sb sd : Sl) (so t8 : Option Sl) (t58 t59 : Int) (o : List Nat) (os : List Int) (H : Heap) (h : SP HB H sb sd so (tab n (cnt A n o)) (tab n fun k => o.contains k) os) : ∀ (m q i : Nat), i + m = n →
    D15b_20 (q + m + 1) (n : Int) (some sb) t8 (some sd) so (i : Int) t58 t59 H = some (.exit 6, X15b_20 (n : Int) (some sb) t8 (some sd) so ((srch (freeX A n o) m i : Nat) : Int) t58 t59 H)
  | 0, q, i, hm => by
    have g : decide ((i : Int) < (n : Int)) = false := by simp; omega
    rw [D15b_20_s, g, cf]; rfl
  | m + 1, q, i, hm => by
    have g : decide ((i : Int) < (n : Int)) = true := by simp; omega
    have hi : i < n := by omega
    have ih := loop15b20 A HB n hn sb sd so t8 t58 t59 o os H h m q (i + 1) (by omega)
    obtain ⟨sl, e0, g1, c0⟩ := getsB h.d.rs (tab_get (fun k => o.contains k) hi)
    cases e0
    obtain ⟨sl, e0, g2, c1⟩ := gets1 h.b.rs (tab_get (cnt A n o) hi)
    cases e0
    rw [show q + (m + 1) + 1 = (q + m + 1) + 1 by omega, D15b_20_s, g, ct]
    unfold srch
    simp only [Ab.bs, g1, ct, c0, tBool, g2, c1, tInt, i64_succ i (by omega)]
    unfold freeX
    unfold freeX at ih
    cases o.contains i
    · cases decide (cnt A n o i > 0)
      · rfl
      · simp only [cf, ct, ih, Bool.not_true, Bool.and_false]
    · simp only [cf, ct, ih, Bool.not_true, Bool.false_and]
theorem loop15b18 (A : Nat → Nat → Bool) (H0 HB : Heap) (n : Nat) (hn : n < 1000) (sb sn sd : Sl) (be0 : List Int) (nx : List (Option Sl)) (hS : SI H0 HB n sb sn be0 nx (tab n (rowF A n n 0))) : ∀ (m q i : Nat) (so : Option Sl) (o : List Nat) (H : Heap), i + m = n → (∀ a ∈ o, a < n) → o.length = i →
    SP HB H sb sd so (tab n (cnt A n o)) (tab n fun k => o.contains k) (nats o) →
    ∃ so' ok H', (D15b_18 (q + m + 1) (n : Int) (some sb) (some sn) (some sd) so (n : Int) (i : Int) H).bind J15b_18 = some ((so', ok), H') ∧ Sorted1 A n m o so' ok H' ∧ Kp (Ab.One sb.id) HB H'
  | 0, q, i, so, o, H, hm, hon, hol, h => by
    have g : decide ((i : Int) < (n : Int)) = false := by simp; omega
    exact ⟨so, true, H, by rw [D15b_18_s, g, cf, Ab.bs, J15b_18_0], ⟨rfl, h.o.rs⟩, h.k⟩
  | m + 1, q, i, so, o, H, hm, hon, hol, h => by
    have g : decide ((i : Int) < (n : Int)) = true := by simp; omega
    obtain ⟨q2, e⟩ := LL15b_20_of n (by omega) (n : Int) (some sb) (some sn) (some sd) so 0 (n : Int) (i : Int) H
    have e' := e.trans (loop15b20 A HB n hn sb sd so (some sn) (n : Int) (i : Int) o (nats o) H h n q2 0 (by omega))
    rw [show q + (m + 1) + 1 = (q + m + 1) + 1 by omega, D15b_18_s, g, ct, e', Ab.bs, J15b_20_0]
    unfold Sorted1 sortX
    have hb : (((srch (freeX A n o) n 0 : Nat) : Int) == (n : Int)) = (srch (freeX A n o) n 0 == n) := by
      rw [Bool.eq_iff_iff]; simp only [beq_iff_eq]; omega
    rw [hb]
    have hsp := srch_spec (freeX A n o) n 0
    generalize srch (freeX A n o) n 0 = x at hsp ⊢
    cases hx : x == n with
    | true =>
      refine ⟨none, false, H, by rw [ct, Ab.bs, J15b_18_1], ?_, h.k⟩
      rw [ct]; exact ⟨rfl, rfl⟩
    | false =>
      rw [cf]
      have hxn : x < n ∧ freeX A n o x = true := by
        rcases hsp with ⟨h1, _⟩ | ⟨h1, _, h3⟩
        · rw [h1] at hx; simp at hx
        · exact ⟨by omega, h3⟩
      obtain ⟨hxl, hfree⟩ := hxn
      have hxc : o.contains x = false := by
        unfold freeX at hfree
        cases hc : o.contains x with
        | false => rfl
        | true => rw [hc] at hfree; cases hfree
      obtain ⟨sl, e0, g1, c0⟩ := getsB h.d.rs (tab_get (fun k => o.contains k) hxl)
      cases e0
      obtain ⟨H1, p1, h1⟩ := h.done (j := x) (by rw [tab_length]; exact hxl) true
      have hdn : (tab n fun k => o.contains k).set x true = tab n fun k => (o ++ [x]).contains k := tab_set _ _ _ hxl fun k hk => by
        by_cases e : k = x
        · subst e; simp
        · simp [e]
      rw [hdn] at h1
      obtain ⟨s', H2, p2, h2⟩ := h1.out (by unfold nats; rw [List.length_map]; omega) (x : Int)
      have hno : nats o ++ [(x : Int)] = nats (o ++ [x]) := by simp [nats]
      rw [hno] at h2
      obtain ⟨row, l, r1, r2, r3⟩ := hS.row hxl
      have hl : l = nats ((List.range n).filter (A x)) := by
        rw [tab_get _ hxl] at r2
        cases r2
        unfold rowF
        rw [if_pos hxl]
      rw [hl] at r3
      have hnn : RS 1 ES H2 (some sn) nx := hS.nn.rs.kp h2.k fun q e _ => by cases e; exact fun x => hS.ne x.symm
      obtain ⟨sl, e0, g2, c1⟩ := getsS hnn r1
      cases e0
      have hrow : RS 1 EI H2 row (nats ((List.range n).filter (A x))) := r3.rs.kp h2.k fun q e _ => by subst e; exact (hS.hr x q r1).2.1
      have hlen : ((List.range n).filter (A x)).length < 1000 := by
        have := List.length_filter_le (A x) (List.range n)
        rw [List.length_range] at this; omega
      obtain ⟨q3, e3⟩ := LL15b_27_of ((List.range n).filter (A x)).length (by omega) (n : Int) (some sb) (some sn) (some sd) s' (n : Int) (i : Int) row (slen row) 0 H2
      have hsl : slen row = (((List.range n).filter (A x)).length : Int) := by rw [hrow.slenEq]; simp [nats]
      obtain ⟨H3, r4, r5⟩ := loop15b27 HB n sb sd s' (some sn) (some sd) (n : Int) (i : Int) (tab n fun k => (o ++ [x]).contains k) (nats (o ++ [x])) row ((List.range n).filter (A x)) (List.nodup_range.filter _) (fun a ha => by simp at ha; exact ha.1) hn hlen r3.rs
        (fun q e => by subst e; exact (hS.hr x q r1).2.1) (cnt A n o) (fun k => by have := cnt_le A n o k; omega) ((List.range n).filter (A x)).length q3 0 H2 (by omega) (by
          have : (tab n fun k => cnt A n o k - if k ∈ ((List.range n).filter (A x)).take 0 then 1 else 0) = tab n (cnt A n o) := tab_eq fun k hk => by simp
          rw [this]; exact h2)
      have hcn : (tab n fun k => cnt A n o k - if k ∈ (List.range n).filter (A x) then 1 else 0) = tab n (cnt A n (o ++ [x])) := tab_eq fun k hk => by
        rw [cnt_done A n o x k hxl hxc]
        simp [hk]
      rw [hcn] at r5
      obtain ⟨so', ok, H', t1, t2, t3⟩ := loop15b18 A H0 HB n hn sb sn sd be0 nx hS m q (i + 1) s' (o ++ [x]) H3 (by omega) (fun a ha => by
        rcases List.mem_append.1 ha with h | h
        · exact hon a h
        · simp at h; omega) (by simp; omega) r5
      refine ⟨so', ok, H', ?_, ?_, t3⟩
      · rw [hsl] at e3
        simp only [Ab.bs, g1, ct, p1, p2, g2, c1, tSlice, hsl]
        rw [e3]
        rw [show (0 : Int) = ((0 : Nat) : Int) from rfl, r4, Ab.bs, J15b_27_0, i64_succ i (by omega)]
        exact t1
      · rw [cf]; exact t2
theorem f15b_x {H : Heap} {b : Nat} {s : XS} {x : Ex} (h : World H b s x) (A : Nat → Nat → Bool) (hA : ∀ G, Kp No H G → ∀ i j : Nat, i < x.L.length → j < x.L.length → f16 (some (b, 0)) (i : Int) (j : Int) G = some (A i j, G)) :
    ∃ so ok H', f15b (some (b, 0)) (some (b, 0)) H = some ((so, ok), H') ∧ Sorted1 A x.L.length x.L.length [] so ok H' ∧ Kp No H H' := by
  obtain ⟨m, ps, hw⟩ := h
  obtain ⟨w0, w1, w3, w4, w5⟩ := hw.g
  have hb := hw.x.bl
  obtain ⟨H1, m1, o1, k1, l1⟩ := make_OS (E := EI) EI_len H (0 : Int) x.L.length 8 (by unfold most; omega) (by unfold most; omega)
  obtain ⟨H2, m2, o2, k2, l2⟩ := make_OS (E := ES) ES_len H1 (none : Option Sl) x.L.length 24 (by unfold most; omega) (by unfold most; omega)
  have m1' : H.make 1 8 [Cell.int IntKind.i64 0] (x.L.length : Int) (x.L.length : Int) = some (some ⟨H.length, 0, x.L.length, x.L.length, 1⟩, H1) := m1
  have m2' : H1.make 1 24 [Cell.slice none] (x.L.length : Int) (x.L.length : Int) = some (some ⟨H1.length, 0, x.L.length, x.L.length, 1⟩, H2) := m2
  have hS : SI H H2 x.L.length ⟨H.length, 0, x.L.length, x.L.length, 1⟩ ⟨H1.length, 0, x.L.length, x.L.length, 1⟩ (tab x.L.length (colF A 0 0)) (List.replicate x.L.length none) (tab x.L.length (rowF A x.L.length 0 0)) := by
    have e1 : tab x.L.length (colF A 0 0) = List.replicate x.L.length 0 := by
      rw [← tab_rep]; exact tab_eq fun k hk => by simp [colF]
    have e2 : tab x.L.length (rowF A x.L.length 0 0) = List.replicate x.L.length [] := by
      rw [← tab_rep]; exact tab_eq fun k hk => by simp [rowF, nats]
    rw [e1, e2]
    refine ⟨o1.no k2, o2, by simp, by simp, by simp, fun t sl l h1 h2 => ?_, Nat.le_refl _, k1.len, by show H.length ≠ H1.length; omega, fun t sl h1 => ?_, fun t u sl sl' h1 => ?_, k1.tr k2⟩
    · rw [List.getElem?_replicate] at h1 h2
      split at h1
      · rename_i ht
        rw [if_pos ht] at h2
        cases h1; cases h2; rfl
      · cases h1
    · rw [List.getElem?_replicate] at h1
      split at h1 <;> cases h1
    · rw [List.getElem?_replicate] at h1
      split at h1 <;> cases h1
  obtain ⟨q, e⟩ := LL15b_5_of x.L.length (by omega) (some (b, 0)) (x.L.length : Int) (some ⟨H.length, 0, x.L.length, x.L.length, 1⟩) (some ⟨H1.length, 0, x.L.length, x.L.length, 1⟩) (x.L.length : Int) 0 H2
  obtain ⟨nx, H3, r1, r2⟩ := loop15b5 A H b x.L.length hb hA ⟨H.length, 0, x.L.length, x.L.length, 1⟩ ⟨H1.length, 0, x.L.length, x.L.length, 1⟩ x.L.length q 0 _ H2 (by omega) hS
  have e' := e.trans r1
  rw [q15b, Ab.bs, show (b, 0).snd + 0 + 0 = 0 from rfl, w0, Ab.bs, tSlice, Ab.bs, hw.x.l.slenEq, m1', Ab.bs]
  dsimp only
  rw [m2', Ab.bs]
  dsimp only
  rw [e', Ab.bs, J15b_5_0]
  obtain ⟨H4, m4, o4, k4, l4⟩ := make_OS (E := EB) EB_len H3 false x.L.length 1 (by unfold most; omega) (by unfold most; omega)
  have m4' : H3.make 1 1 [Cell.bool false] (x.L.length : Int) (x.L.length : Int) = some (some ⟨H3.length, 0, x.L.length, x.L.length, 1⟩, H4) := m4
  rw [m4', Ab.bs]
  dsimp only
  obtain ⟨q2, e2⟩ := LL15b_18_of x.L.length (by omega) (x.L.length : Int) (some ⟨H.length, 0, x.L.length, x.L.length, 1⟩) (some ⟨H1.length, 0, x.L.length, x.L.length, 1⟩) (some ⟨H3.length, 0, x.L.length, x.L.length, 1⟩) none (x.L.length : Int) 0 H4
  have hP : SP H3 H4 ⟨H.length, 0, x.L.length, x.L.length, 1⟩ ⟨H3.length, 0, x.L.length, x.L.length, 1⟩ none (tab x.L.length (cnt A x.L.length [])) (tab x.L.length fun k => ([] : List Nat).contains k) (nats []) := by
    have e1 : tab x.L.length (cnt A x.L.length []) = tab x.L.length (colF A x.L.length 0) := tab_eq fun k hk => by simp [cnt, colF]
    have e2 : (tab x.L.length fun k => ([] : List Nat).contains k) = List.replicate x.L.length false := by
      rw [← tab_rep]; exact tab_eq fun k hk => by simp
    rw [e1, e2]
    exact ⟨r2.b.no k4, o4, rfl, Nat.le_refl _, (fun q e => by cases e), r2.b.lt, k4.mono fun _ _ h => absurd h (fun x => x)⟩
  obtain ⟨so, ok, H5, t1, t2, t3⟩ := loop15b18 A H H3 x.L.length hb ⟨H.length, 0, x.L.length, x.L.length, 1⟩ ⟨H1.length, 0, x.L.length, x.L.length, 1⟩ ⟨H3.length, 0, x.L.length, x.L.length, 1⟩ _ nx r2 x.L.length q2 0 none [] H4 (by omega) (by simp) rfl hP
  refine ⟨so, ok, H5, ?_, t2, r2.k.trSet t3 (Nat.le_refl _)⟩
  rw [e2]
  exact t1
end
end Go.Proofs.Ythakpjkmianglaa
