/- Layer 4: the program's image: what it tells. -/
import Derived.Test.YtnjdajcgcnjamaaImJ
namespace Go.Proofs.Ytnjdajcgcnjamaa
open Go Go.Proofs.Ytnjdajcgcnjamaa.Ab
set_option linter.unusedVariables false
set_option linter.unusedSimpArgs false
set_option maxRecDepth 100000
noncomputable section
/-! lists, one behind the other -/
def RS64 (H : Heap) (t : Option Sl) (ls : List (List Int)) : Prop :=
  ∃ ps : List (Option Sl), RS 1 ES H t ps ∧ ps.length = ls.length ∧ ∀ (j : Nat) p l, ps[j]? = some p → ls[j]? = some l → RS 1 E64 H p l
def totL : List (List Int) → Nat
  | [] => 0
  | l :: r => l.length + totL r
theorem totL_flat : ∀ ls : List (List Int), ls.flatten.length = totL ls
  | [] => rfl
  | l :: r => by rw [List.flatten_cons, List.length_append, totL_flat r]; rfl
theorem totL_app : ∀ (a b : List (List Int)), totL (a ++ b) = totL a + totL b
  | [], b => by simp [totL]
  | l :: r, b => by simp [totL, totL_app r b]; omega
theorem loop35a {H : Heap} {t : Option Sl} {ls : List (List Int)} (h : RS64 H t ls) (hl : ls.length < 1000) (ht : totL ls < 50000) : ∀ (m n i : Nat) (t0 : Option Sl), i + m = ls.length →
    D35_3 (n + m + 1) t0 ((totL (ls.take i) : Nat) : Int) t (ls.length : Int) (i : Int) H = some (.exit 0, X35_3 t0 ((totL ls : Nat) : Int) H)
  | 0, n, i, t0, hm => by
    rw [D35_3_s, dF (by omega), cf, List.take_of_length_le (by omega)]
  | m + 1, n, i, t0, hm => by
    have hi : i < ls.length := by omega
    obtain ⟨ps, p1, p2, p3⟩ := id h
    have hpi : ps[i]? = some ps[i] := List.getElem?_eq_getElem (by omega)
    have hli : ls[i]? = some ls[i] := List.getElem?_eq_getElem hi
    obtain ⟨sl, e0, g2, g4⟩ := p1.idx1 hpi (e := fun s => .slice s) fun _ => rfl
    have hp := p3 i _ _ hpi hli
    have hs : totL ls = totL (ls.take i) + (ls[i].length + totL (ls.drop (i + 1))) := by
      have e : ls = ls.take i ++ ls[i] :: ls.drop (i + 1) := by rw [← List.drop_eq_getElem_cons hi, List.take_append_drop]
      have := totL_app (ls.take i) (ls[i] :: ls.drop (i + 1))
      rw [← e] at this
      exact this
    have hs2 : totL (ls.take (i + 1)) = totL (ls.take i) + ls[i].length := by rw [List.take_succ_eq_append_getElem hi, totL_app]; simp [totL]
    have w : IntKind.i64.wrap (((totL (ls.take i) : Nat) : Int) + (ls[i].length : Int)) = ((totL (ls.take (i + 1)) : Nat) : Int) := by rw [wrap_i64 (by omega) (by omega)]; omega
    rw [show n + (m + 1) + 1 = (n + m + 1) + 1 by omega, D35_3_s, dT (by omega), ct]
    rw [show t.bind = (some sl).bind (β := AExit × St) by rw [e0]]
    simp only [Ab.bs, g2, ct, g4, tSlice, hp.slenEq, w, i64_succ i (by omega)]
    rw [dF (by omega), cf]
    exact loop35a h hl ht m n (i + 1) t0 (by omega)
theorem RS64.no {H H' : Heap} {t : Option Sl} {ls : List (List Int)} (h : RS64 H t ls) (k : Kp No H H') : RS64 H' t ls := by
  obtain ⟨ps, p1, p2, p3⟩ := h
  exact ⟨ps, p1.no k, p2, fun j p l a b => (p3 j p l a b).no k⟩
theorem loop35b {H0 : Heap} {t : Option Sl} {ls : List (List Int)} (h0 : RS64 H0 t ls) (hl : ls.length < 1000) (ht : totL ls < 50000) : ∀ (m n i : Nat) (u : Option Sl) (H : Heap), i + m = ls.length → Kp No H0 H → OS 1 E64 H u (ls.take i).flatten → New H0.length u →
    ∃ u' H', D35_11 (n + m + 1) u t (ls.length : Int) (i : Int) H = some (.exit 2, X35_11 u' H') ∧ Kp No H0 H' ∧ OS 1 E64 H' u' ls.flatten ∧ New H0.length u'
  | 0, n, i, u, H, hm, hk, ho, hn => by
    refine ⟨u, H, by rw [D35_11_s, dF (by omega), cf], hk, ?_, hn⟩
    rwa [List.take_of_length_le (by omega)] at ho
  | m + 1, n, i, u, H, hm, hk, ho, hn => by
    have hi : i < ls.length := by omega
    obtain ⟨ps, p1, p2, p3⟩ := h0.no hk
    have hpi : ps[i]? = some ps[i] := List.getElem?_eq_getElem (by omega)
    have hli : ls[i]? = some ls[i] := List.getElem?_eq_getElem hi
    obtain ⟨sl, e0, g2, g4⟩ := p1.idx1 hpi (e := fun s => .slice s) fun _ => rfl
    have hp := p3 i _ _ hpi hli
    have hs : totL ls = totL (ls.take i) + (ls[i].length + totL (ls.drop (i + 1))) := by
      have e : ls = ls.take i ++ ls[i] :: ls.drop (i + 1) := by rw [← List.drop_eq_getElem_cons hi, List.take_append_drop]
      have := totL_app (ls.take i) (ls[i] :: ls.drop (i + 1))
      rw [← e] at this
      exact this
    obtain ⟨u2, H2, a1, a2, a3, a4⟩ := append_OS E64_len (by decide) (by' := 8) ho hp (by rw [totL_flat]; simp [most]; omega)
    have hf : (ls.take i).flatten ++ ls[i] = (ls.take (i + 1)).flatten := by rw [List.take_succ_eq_append_getElem hi, List.flatten_append, List.flatten_cons, List.flatten_nil, List.append_nil]
    rw [hf] at a2
    have k2 : Kp No H0 H2 := hk.trans a3 (fun _ h => h) fun j hj ⟨q, e, e2⟩ => by have := hn q e; omega
    have n2 : New H0.length u2 := fun q e => by
      rcases a4 q e with ⟨q', e1, e2⟩ | h
      · rw [e2]; exact hn q' e1
      · have := hk.len; omega
    obtain ⟨u', H', e', k', o', n'⟩ := loop35b h0 hl ht m n (i + 1) u2 H2 (by omega) k2 a2 n2
    refine ⟨u', H', ?_, k', o', n'⟩
    rw [show n + (m + 1) + 1 = (n + m + 1) + 1 by omega, D35_11_s, dT (by omega), ct]
    rw [show t.bind = (some sl).bind (β := AExit × St) by rw [e0]]
    simp only [Ab.bs, g2, ct, g4, tSlice, a1, i64_succ i (by omega)]
    exact e'
theorem f63_x (k : Nat) (hk : k < 50000) (H : Heap) : ∃ u H', f63 none (k : Int) H = some (u, H') ∧ OS 1 E64 H' u ([] : List Int) ∧ Kp No H H' ∧ New H.length u := by
  have w0 : IntKind.i64.wrap (0 - slen none) = 0 := by decide
  have w : IntKind.i64.wrap ((k : Int) - 0) = (k : Int) := by rw [wrap_i64 (by omega) (by omega)]; omega
  rw [q63, dF (by omega), cf]
  rw [show capNil none = some 0 from rfl]
  simp only [Ab.bs, w0, w]
  by_cases g : k = 0
  · subst g
    exact ⟨none, H, by rw [dF (by omega), cf], rfl, Kp.refl _ _, fun _ e => nomatch e⟩
  · rw [dT (by omega), ct, show Sl.sub none 0 (some 0) = some none from rfl, Ab.bs, show esOk none 1 = true from rfl, ct]
    have ha : H.appendZ 1 8 none [Cell.int IntKind.u64 0] (k : Int) = some (some ⟨H.length, 0, k, k, 1⟩, H ++ [.row (List.replicate k [Cell.int IntKind.u64 0]).flatten false]) := by
      unfold Heap.appendZ Heap.app
      rw [if_pos (by unfold most; omega), Int.toNat_natCast, if_neg g]
      simp only []
      rw [if_pos (by unfold most; omega)]
    have hsb : Sl.sub (some ⟨H.length, 0, k, k, 1⟩) 0 (some (slen none)) = some (some ⟨H.length, 0, 0, k, 1⟩) := by
      unfold Sl.sub slen
      simp only [Option.getD_some]
      rw [if_pos (by omega)]
      simp
    have hes : esOk (some ⟨H.length, 0, k, k, 1⟩) 1 = true := rfl
    refine ⟨some ⟨H.length, 0, 0, k, 1⟩, _, by rw [ha, Ab.bs, hsb, Ab.bs, hes, ct], ⟨rfl, rfl, Nat.zero_le _, _, push_get _ _, by simp, fun i c e => by simp at e⟩, Kp.push1 _ _, fun q e => by cases e; exact Nat.le_refl _⟩
theorem f35_x {H : Heap} {t : Option Sl} {ls : List (List Int)} (h : RS64 H t ls) (hl : ls.length < 1000) (ht : totL ls < 50000) : ∃ u H', f35 t H = some (u, H') ∧ OS 1 E64 H' u ls.flatten ∧ Kp No H H' ∧ New H.length u := by
  have hsl : slen t = (ls.length : Int) := by
    obtain ⟨ps, p1, p2, _⟩ := h
    rw [p1.slenEq, p2]
  obtain ⟨n1, hn1⟩ := LL35_3_of ls.length (by omega) t 0 t (ls.length : Int) 0 H
  have e1 := loop35a h hl ht ls.length n1 0 t (by omega)
  obtain ⟨u0, H1, e2, o2, k2, n2⟩ := f63_x (totL ls) ht H
  obtain ⟨n3, hn3⟩ := LL35_11_of ls.length (by omega) u0 t (ls.length : Int) 0 H1
  obtain ⟨u, H2, e3, k3, o3, n3'⟩ := loop35b h hl ht ls.length n3 0 u0 H1 (by omega) k2 o2 n2
  refine ⟨u, H2, ?_, o3, k3, n3'⟩
  have e1' : D35_3 (n1 + ls.length + 1) t 0 t (ls.length : Int) 0 H = some (.exit 0, X35_3 t ((totL ls : Nat) : Int) H) := e1
  have e3' : D35_11 (n3 + ls.length + 1) u0 t (ls.length : Int) 0 H1 = some (.exit 2, X35_11 u H2) := e3
  rw [q35, hsl, hn1, e1', Ab.bs, J35_3_0, e2, Ab.bs]
  simp only []
  rw [hsl, hn3, e3', Ab.bs, J35_11_0]
/-! roots -/
def rootsP (m : Im) : List Int := risingP (m.en :: (m.fu ++ m.tk))
theorem f13_x {H : Heap} {k fl ad sz : Int} {sd dt st : Option Sl} {en : Int} {fu tk : Option Sl} {m : Im} (h : IR H k fl ad sz sd dt st en fu tk m) (hl : m.fu.length + m.tk.length < 10000) :
    ∃ u H', f13 k fl ad sz sd dt st en fu tk H = some (u, H') ∧ RS 1 E64 H' u (rootsP m) ∧ Kp No H H' := by
  have kA : Kp No H (H ++ [Blk.row [Cell.int IntKind.u64 en] false]) := Kp.push1 _ _
  have kB : Kp No (H ++ [Blk.row [Cell.int IntKind.u64 en] false]) (H ++ [Blk.row [Cell.int IntKind.u64 en] false] ++ [Blk.row [Cell.slice (some ⟨H.length, 0, 1, 1, 1⟩), Cell.slice fu, Cell.slice tk] false]) := Kp.push1 _ _
  have rA : RS 1 E64 (H ++ [Blk.row [Cell.int IntKind.u64 en] false]) (some ⟨H.length, 0, 1, 1, 1⟩) [en] := rs_new [en] (ro := false) (by rw [push_get]; rfl) rfl
  have hs : RS64 (H ++ [Blk.row [Cell.int IntKind.u64 en] false] ++ [Blk.row [Cell.slice (some ⟨H.length, 0, 1, 1, 1⟩), Cell.slice fu, Cell.slice tk] false]) (some ⟨(H ++ [Blk.row [Cell.int IntKind.u64 en] false]).length, 0, 3, 3, 1⟩) [[en], m.fu, m.tk] := by
    refine ⟨[some ⟨H.length, 0, 1, 1, 1⟩, fu, tk], rs_new _ (ro := false) (by rw [push_get]; rfl) rfl, rfl, fun j p l hp hl => ?_⟩
    match j with
    | 0 => cases hp; cases hl; exact rA.no kB
    | 1 => cases hp; cases hl; exact (h.hfu.no kA).no kB
    | 2 => cases hp; cases hl; exact (h.htk.no kA).no kB
    | j + 3 => simp at hp
  obtain ⟨u, H2, e2, o2, k2, n2⟩ := f35_x hs (by simp) (by simp [totL]; omega)
  obtain ⟨u', H3, e3, o3, k3, _⟩ := f34_x o2 (by simp; omega)
  have hfl : [[en], m.fu, m.tk].flatten = m.en :: (m.fu ++ m.tk) := by rw [h.hen]; simp
  rw [hfl] at o3
  refine ⟨u', H3, by rw [q13, e2, Ab.bs, e3, Ab.bs], o3.rs, ((kA.tr kB).tr k2).trans k3 (fun _ h => h) fun i hi ⟨q, e, e5⟩ => ?_⟩
  have := n2 q e
  have := kA.len; have := kB.len; omega
/-! bytes -/
def byteP (s : Sg) (a : Int) : Int := bif decide (IntKind.u64.wrap (a - s.addr) < (s.data.length : Int)) then (((s.data[(IntKind.u64.wrap (a - s.addr)).toNat]?).getD 0).toNat : Int) else 0
theorem byte_len {H : Heap} {s : Option Sl} {l : List UInt8} (h : RS 1 E8 H s l) (i : Int) (hi : 0 ≤ i) (hl : i < (l.length : Int)) : ∃ sl, s = some sl ∧ (inb i sl.len && sl.esz == 1) = true ∧ H.get sl.id (sl.off + i.toNat * 1) = some (.int .u8 (((l[i.toNat]?).getD 0).toNat : Int)) := by
  have hx : l[i.toNat]? = some (l[i.toNat]'(by omega)) := List.getElem?_eq_getElem (by omega)
  obtain ⟨sl, e, g1, g2⟩ := h.idx1 hx (e := fun b => .int .u8 (b.toNat : Int)) fun _ => rfl
  rw [show ((i.toNat : Nat) : Int) = i by omega] at g1 g2
  exact ⟨sl, e, g1, by rw [hx]; exact g2⟩
theorem wrap_nn (n : Int) : 0 ≤ IntKind.u64.wrap n := by rw [wrap_u64]; omega
theorem f42_x {H : Heap} {s : Sg} {sd : Option Sl} (h : RS 1 E8 H sd s.data) (hl : s.data.length ≤ 1000) (k fl sz a : Int) : f42 k fl s.addr sz sd a H = some (byteP s a, H) := by
  rw [q42, h.slenEq, u64_len _ (by omega)]
  unfold byteP
  by_cases g : IntKind.u64.wrap (a - s.addr) < (s.data.length : Int)
  · obtain ⟨sl, e, g1, g2⟩ := byte_len h _ (wrap_nn _) g
    rw [dT g, ct, ct, show sd.bind = (some sl).bind (β := Int × Heap) by rw [e]]
    simp only [Ab.bs, g1, ct, g2, tInt]
  · rw [dF g, cf, cf]
def findB (a : Int) : List Sg → Int × Bool
  | [] => (0, false)
  | s :: r => bif hasP s a 1 then (byteP s a, true) else findB a r
theorem findB_er (a : Int) : ∀ l : List Sg, findB a (l.map er) = findB a l
  | [] => rfl
  | s :: r => by
    unfold findB
    rw [List.map_cons]
    simp only []
    rw [findB_er a r]; rfl
def byteI (m : Im) (a : Int) : Int × Bool := bif hasP m.o a 1 then (byteP m.o a, true) else findB a m.dt
theorem loop15 {H : Heap} {t : Option Sl} {l : List Sg} (hR : RS 5 ESg H t l) (hl : l.length < 1000) (hu : ∀ s ∈ l, SgU s) (hd : ∀ s ∈ l, RS 1 E8 H s.sl s.data ∧ s.data.length ≤ 1000) {a : Int} (ha : u64r a) : ∀ (m n i : Nat), i + m = l.length →
    (D15_4 (n + m + 1) a t (l.length : Int) (i : Int) H).bind J15_4 = some (findB a (l.drop i), H)
  | 0, n, i, hm => by
    rw [List.drop_eq_nil_of_le (by omega), D15_4_s, dF (by omega), cf, Ab.bs, J15_4_1]; rfl
  | m + 1, n, i, hm => by
    have hi : i < l.length := by omega
    obtain ⟨sl, e0, g1, c0, c1, c2, c3, c4⟩ := getsSg hR (List.getElem?_eq_getElem hi)
    have hsu := hu _ (List.getElem_mem hi)
    obtain ⟨d1, d2⟩ := hd _ (List.getElem_mem hi)
    have ih := loop15 hR hl hu hd ha m n (i + 1) (by omega)
    rw [show n + (m + 1) + 1 = (n + m + 1) + 1 by omega, D15_4_s, dT (by omega), ct, List.drop_eq_getElem_cons hi, findB]
    rw [show t.bind = (some sl).bind (β := AExit × St) by rw [e0]]
    simp only [Ab.bs, g1, ct, c0, c1, c2, c3, c4, tInt, tSlice, f10_x hsu ha, f42_x d1 d2, i64_succ i (by omega)]
    cases hasP l[i] a 1 with
    | true => simp only [ct, Ab.bs, J15_4_0]
    | false => simp only [cf]; exact ih
/-- What is known of a file that has an image. -/
structure OkF (f : Fl) : Prop where
  ok : FOk f
  cut : cutOk f
  e : (ofP f).1 = 0
theorem of_ok {f : Fl} (h : (ofP f).1 = 0) : mayF f = true ∧ f.M = 62 ∧ sizedP f = true ∧ (textP (loadsP f)).2 = true ∧ ∃ ar l, stP f.sg 0 f.sg = some ar ∧ hasP (textP (loadsP f)).1 f.E 1 = true ∧ takenP f (textP (loadsP f)).1 f.rl = some l ∧
    ofP f = (0, ⟨(textP (loadsP f)).1, sortP ((loadsP f).filter fun s => !isX s), ar, f.E, risingP (funcsP (textP (loadsP f)).1 f.sy), risingP l⟩) := by
  unfold ofP at h
  cases h1 : mayF f with
  | false => rw [h1] at h; cases h
  | true =>
  cases h2 : f.M != 62 with
  | true => rw [h1, h2] at h; cases h
  | false =>
  cases h3 : sizedP f with
  | false => rw [h1, h2, h3] at h; cases h
  | true =>
  cases h4 : (textP (loadsP f)).2 with
  | false => rw [h1, h2, h3, h4] at h; cases h
  | true =>
  rw [h1, h2, h3, h4] at h
  cases h5 : stP f.sg 0 f.sg with
  | none => rw [h5] at h; cases h
  | some ar =>
  rw [h5] at h
  cases h6 : hasP (textP (loadsP f)).1 f.E 1 with
  | false => simp only [h6] at h; cases h
  | true =>
  cases h7 : takenP f (textP (loadsP f)).1 f.rl with
  | none => simp only [h6, h7] at h; cases h
  | some l =>
  refine ⟨rfl, by simpa using h2, rfl, rfl, ar, l, rfl, rfl, rfl, ?_⟩
  unfold ofP
  rw [h1, h2, h3, h4, h5]
  simp only [h6, h7]; rfl
theorem sortP_len (l : List Sg) : (sortP l).length = l.length := by
  have hi : ∀ (x : Sg) (m : List Sg), (ins x m).length = m.length + 1 := fun x m => by
    induction m with
    | nil => rfl
    | cons y l ih => unfold ins; split <;> simp [ih]
  have : ∀ (l m : List Sg), (l.foldl (fun m s => ins s m) m).length = m.length + l.length := fun l => by
    induction l with
    | nil => intro m; rfl
    | cons s l ih => intro m; rw [List.foldl_cons, ih, hi]; simp; omega
  unfold sortP
  rw [this]; simp
theorem mem_sortP {l : List Sg} {z : Sg} (h : z ∈ sortP l) : z ∈ l := by
  rcases mem_ins_fold _ _ h with h | h
  · cases h
  · exact h
structure ImOk (m : Im) : Prop where
  ou : SgU m.o
  od : m.o.data.length ≤ 1000
  dl : m.dt.length < 1000
  du : ∀ s ∈ m.dt, SgU s ∧ s.data.length ≤ 1000
theorem rising_len (l : List Int) : (risingP l).length ≤ l.length := by
  have hd : ∀ (l : List Int) (p : Int), (ddp p l).length ≤ l.length := fun l => by
    induction l with
    | nil => intro p; simp [ddp]
    | cons x l ih =>
      intro p
      unfold ddp
      cases x == p
      · have := ih x; simp; omega
      · have := ih p; simp; omega
  unfold risingP
  have hl : (l.mergeSort fun x y => decide (x ≤ y)).length = l.length := List.length_mergeSort _
  generalize l.mergeSort (fun x y => decide (x ≤ y)) = m at *
  cases m with
  | nil => simp [compP]
  | cons x r => have := hd r x; simp [compP] at *; omega
theorem funcs_len (c : Sg) : ∀ l : List Sy, (funcsP c l).length ≤ l.length
  | [] => by simp [funcsP]
  | x :: l => by
    have := funcs_len c l
    unfold funcsP; cases (x.kind == 2 && hasP c x.addr 1) <;> simp <;> omega
theorem taken_len (f : Fl) (c : Sg) : ∀ (x : List Rl) (l : List Int), takenP f c x = some l → l.length ≤ x.length
  | [], l, h => by cases h; simp
  | r :: x, l, h => by
    unfold takenP at h
    cases hv : (heldP f r).2 with
    | false => rw [hv] at h; cases h
    | true =>
      rw [hv] at h
      simp only [Bool.not_true, cond_false, Option.map_eq_some_iff] at h
      obtain ⟨l', h1, rfl⟩ := h
      have := taken_len f c x l' h1
      cases hasP c (heldP f r).1 1 <;> simp <;> omega
theorem im_ok {f : Fl} (hf : FOk f) (hc : cutOk f) (h : (ofP f).1 = 0) : ImOk (ofP f).2 ∧ (ofP f).2.fu.length + (ofP f).2.tk.length < 10000 := by
  obtain ⟨h1, h2, h3, h4, ar, l, h5, h6, h7, h8⟩ := of_ok h
  obtain ⟨_, l1, l2, l3, _⟩ := may_ok h1 hf
  rw [h8]
  have hlm : ∀ x ∈ loadsP f, x ∈ f.sg := fun x hx => (List.mem_filter.1 hx).1
  have hll : (loadsP f).length ≤ 24 := Nat.le_trans (List.length_filter_le _ _) l1
  have hcm := tx_mem (loadsP f) [] 0 z0
  refine ⟨⟨?_, ?_, ?_, ?_⟩, ?_⟩
  · show SgU (textP (loadsP f)).1
    unfold textP
    rcases hcm with e | e
    · rw [e]; unfold SgU u64r z0; simp
    · exact hf.sg _ (hlm _ e)
  · show (textP (loadsP f)).1.data.length ≤ 1000
    unfold textP
    rcases hcm with e | e
    · rw [e]; simp [z0]
    · exact hc _ (hlm _ e)
  · show (sortP _).length < 1000
    rw [sortP_len]
    have := List.length_filter_le (fun s => !isX s) (loadsP f)
    omega
  · intro s hs
    have := hlm s (List.mem_filter.1 (mem_sortP hs)).1
    exact ⟨hf.sg s this, hc s this⟩
  · have a1 := rising_len (funcsP (textP (loadsP f)).1 f.sy)
    have a2 := rising_len l
    have a3 := funcs_len (textP (loadsP f)).1 f.sy
    have a4 := taken_len f _ _ _ h7
    show (risingP _).length + (risingP _).length < 10000
    omega
theorem f15_x {H : Heap} {k fl ad sz : Int} {sd dt st : Option Sl} {en : Int} {fu tk : Option Sl} {m : Im} (h : IR H k fl ad sz sd dt st en fu tk m) (hm : ImOk m) {a : Int} (ha : u64r a) :
    f15 k fl ad sz sd dt st en fu tk a H = some (byteI m a, H) := by
  obtain ⟨l, h1, h2, h3⟩ := h.hdt
  have hlen : l.length = m.dt.length := by have := congrArg List.length h2; simpa using this
  have hmem : ∀ s ∈ l, ∃ s' ∈ m.dt, er s' = er s := fun s hs => by
    have : er s ∈ m.dt.map er := h2 ▸ List.mem_map_of_mem hs
    obtain ⟨s', h1, h2⟩ := List.mem_map.1 this
    exact ⟨s', h1, h2⟩
  have hu : ∀ s ∈ l, SgU s := fun s hs => by
    obtain ⟨s', h1, h2⟩ := hmem s hs
    have := (hm.du s' h1).1
    have e1 : s'.addr = s.addr := by have := congrArg Sg.addr h2; exact this
    have e2 : s'.size = s.size := by have := congrArg Sg.size h2; exact this
    unfold SgU at *
    rwa [e1, e2] at this
  have hd : ∀ s ∈ l, RS 1 E8 H s.sl s.data ∧ s.data.length ≤ 1000 := fun s hs => by
    obtain ⟨s', h1, h2⟩ := hmem s hs
    have := (hm.du s' h1).2
    have e1 : s'.data = s.data := by have := congrArg Sg.data h2; exact this
    rw [e1] at this
    exact ⟨h3 s hs, this⟩
  have e19 : f19 k fl ad sz sd dt st en fu tk a H = some (hasP m.o a 1, H) := by
    have := f19_x (c := { m.o with sl := sd }) hm.ou ha dt st en fu tk H
    rw [h.hk, h.hf, h.ha, h.hs]; exact this
  obtain ⟨n, hn⟩ := LL15_4_of l.length (by have := hm.dl; omega) a dt (l.length : Int) 0 H
  have hloop := loop15 h1 (by have := hm.dl; omega) hu hd ha l.length n 0 (by omega)
  rw [List.drop_zero] at hloop
  unfold byteI
  rw [q15, e19, Ab.bs]
  simp only []
  cases hasP m.o a 1 with
  | true =>
    have := f42_x h.hd hm.od k fl sz a
    rw [ct, ct, h.ha, this, Ab.bs]
  | false =>
    rw [cf, cf, h1.slenEq, hn, ← findB_er a m.dt, ← h2, findB_er]
    exact hloop
/-! the example -/
def sA1 (i : Nat) : Sg := ⟨1, 5, 4096, 1, some ⟨i, 0, 1, 1, 1⟩, [195]⟩
def sA2 : Sg := ⟨1610612737, 1, 65536, 64, none, []⟩
def flA (i : Nat) : Fl := ⟨62, 4096, [sA1 i, sA2], [], []⟩
theorem ofA (i : Nat) : ofP (flA i) = (0, ⟨sA1 i, [], [(65536, 64, true)], 4096, risingP [], risingP []⟩) := by kernel_rfl
theorem rising0 : risingP [] = [] := by simp [risingP, compP]
theorem rising1 (x : Int) : risingP [x] = [x] := by simp [risingP, compP, ddp]
theorem f9_x (H : Heap) : Says (f9 H) H true := by
  have kA : Kp No H (H ++ [Blk.row [Cell.int IntKind.u8 195] false]) := Kp.push1 _ _
  have kB : Kp No (H ++ [Blk.row [Cell.int IntKind.u8 195] false]) (H ++ [Blk.row [Cell.int IntKind.u8 195] false] ++ [Blk.row [Cell.int IntKind.i64 1, Cell.int IntKind.i64 5, Cell.int IntKind.u64 4096, Cell.int IntKind.u64 1, Cell.slice (some { id := List.length H, off := 0, len := 1, cap := 1, esz := 1 }), Cell.int IntKind.i64 1610612737, Cell.int IntKind.i64 1, Cell.int IntKind.u64 65536, Cell.int IntKind.u64 64, Cell.slice none] false]) := Kp.push1 _ _
  have rA : RS 1 E8 (H ++ [Blk.row [Cell.int IntKind.u8 195] false]) (some ⟨H.length, 0, 1, 1, 1⟩) [195] := rs_new [195] (ro := false) (by rw [push_get]; rfl) rfl
  have fr : FR (H ++ [Blk.row [Cell.int IntKind.u8 195] false] ++ [Blk.row [Cell.int IntKind.i64 1, Cell.int IntKind.i64 5, Cell.int IntKind.u64 4096, Cell.int IntKind.u64 1, Cell.slice (some { id := List.length H, off := 0, len := 1, cap := 1, esz := 1 }), Cell.int IntKind.i64 1610612737, Cell.int IntKind.i64 1, Cell.int IntKind.u64 65536, Cell.int IntKind.u64 64, Cell.slice none] false])
      ⟨62, 4096, some ⟨(H ++ [Blk.row [Cell.int IntKind.u8 195] false]).length, 0, 2, 2, 5⟩, none, none⟩ (flA H.length) := by
    refine ⟨rfl, rfl, rs_new [sA1 H.length, sA2] (ro := false) (by rw [push_get]; rfl) rfl, rfl, rfl, fun x hx => ?_⟩
    simp only [flA, List.mem_cons, List.not_mem_nil, or_false] at hx
    rcases hx with rfl | rfl
    · exact rA.no kB
    · exact rfl
  have hf : FOk (flA H.length) := by
    refine ⟨by unfold u64r flA; simp, fun s hs => ?_, (fun _ h => by cases h), (fun _ h => by cases h)⟩
    simp only [flA, List.mem_cons, List.not_mem_nil, or_false] at hs
    rcases hs with rfl | rfl <;> unfold u64r <;> simp [sA1, sA2]
  have hc : cutOk (flA H.length) := fun s hs => by
    simp only [flA, List.mem_cons, List.not_mem_nil, or_false] at hs
    rcases hs with rfl | rfl <;> simp [sA1, sA2]
  have he : (ofP (flA H.length)).1 = 0 := by rw [ofA]
  obtain ⟨k, fl, ad, sz, sd, dt, st, en, fu, tk, H1, e1, k1, r1, _⟩ := f7_x fr hf hc
  have ir := r1 he
  obtain ⟨io, il⟩ := im_ok hf hc he
  obtain ⟨u, H2, e2, o2, k2⟩ := f13_x ir il
  have ir2 := ir.no k2
  have e3 := f15_x ir2 io (a := 4096) (by unfold u64r; omega)
  have e4 : f19 k fl ad sz sd dt st en fu tk 4097 H2 = some (false, H2) := by
    have := f19_x (c := { (ofP (flA H.length)).2.o with sl := sd }) io.ou (a := 4097) (by unfold u64r; omega) dt st en fu tk H2
    rw [ir.hk, ir.hf, ir.ha, ir.hs]
    rw [this, ofA]
    rfl
  have hroot : rootsP (ofP (flA H.length)).2 = [4096] := by
    rw [ofA]
    unfold rootsP
    simp only [rising0, List.append_nil, rising1]
  rw [hroot] at o2
  have hb : byteI (ofP (flA H.length)).2 4096 = (195, true) := by rw [ofA]; kernel_rfl
  rw [hb] at e3
  have hst : RS 3 EAr H2 st [(65536, 64, true)] := by
    have := ir2.hst
    rw [ofA] at this
    exact this
  obtain ⟨su, eu, gu, cu⟩ := gets64 o2 (i := 0) rfl
  obtain ⟨ss, es, gs, cs⟩ := hst.idx EAr_len (i := 0) rfl
  have cu' : H2.get su.id (su.off + 0) = some (.int .u64 4096) := by simpa using cu
  have s0 : H2.get ss.id (ss.off + 0) = some (.int .u64 65536) := by simpa using cs 0 _ rfl
  have s1 : H2.get ss.id (ss.off + 0 + 1) = some (.int .u64 64) := by simpa using cs 1 _ rfl
  have s2 : H2.get ss.id (ss.off + 0 + 2) = some (.bool true) := by simpa using cs 2 _ rfl
  have s2' : H2.get ss.id (ss.off + 0 + 1 + 1) = some (.bool true) := s2
  have gu' : (inb 0 su.len && su.esz == 1) = true := gu
  have gs' : (inb 0 ss.len && ss.esz == 3) = true := gs
  have lu : (slen u == 1) = true := by rw [o2.slenEq]; rfl
  have ls : (slen st == 1) = true := by rw [hst.slenEq]; rfl
  subst es
  subst eu
  refine ⟨H2, ?_, ((kA.tr kB).tr k1).tr k2⟩
  have e1' : f7 62 4096 (some { id := List.length (H ++ [Blk.row [Cell.int IntKind.u8 195] false]), off := 0, len := 2, cap := 2, esz := 5 }) none none (H ++ [Blk.row [Cell.int IntKind.u8 195] false] ++ [Blk.row [Cell.int IntKind.i64 1, Cell.int IntKind.i64 5, Cell.int IntKind.u64 4096, Cell.int IntKind.u64 1, Cell.slice (some { id := List.length H, off := 0, len := 1, cap := 1, esz := 1 }), Cell.int IntKind.i64 1610612737, Cell.int IntKind.i64 1, Cell.int IntKind.u64 65536, Cell.int IntKind.u64 64, Cell.slice none] false]) = some ((k, fl, ad, sz, sd, dt, some ss, en, fu, tk, (ofP (flA H.length)).1), H1) := e1
  rw [q9, e1', he]
  have w : IntKind.u64.wrap (65536 + 64) = 65600 := by decide
  simp only [Ab.bs, e2, e3, lu, ls, ct, gu', gs', cu', s0, s1, s2, s2', tInt, tBool, e4, Bool.not_false, q11, w]
  rfl
end
end Go.Proofs.Ytnjdajcgcnjamaa
