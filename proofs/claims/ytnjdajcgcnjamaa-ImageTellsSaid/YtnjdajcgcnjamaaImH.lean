/- Layer 4: the program's image: numbers rising, what relocations hold, what is marked. -/
import Derived.Test.YtnjdajcgcnjamaaImG
namespace Go.Proofs.Ytnjdajcgcnjamaa
open Go Go.Proofs.Ytnjdajcgcnjamaa.Ab
set_option linter.unusedVariables false
set_option linter.unusedSimpArgs false
set_option maxRecDepth 100000
noncomputable section
/-! numbers rising -/
def ddp (p : Int) : List Int → List Int
  | [] => []
  | x :: r => bif x == p then ddp p r else x :: ddp x r
def compP : List Int → List Int
  | [] => []
  | x :: r => x :: ddp x r
def risingP (l : List Int) : List Int := compP (l.mergeSort fun x y => decide (x ≤ y))
theorem gets64 {H : Heap} {s : Option Sl} {l : List Int} (h : RS 1 E64 H s l) {i : Nat} {e : Int} (hi : l[i]? = some e) :
    ∃ sl, s = some sl ∧ (inb (i : Int) sl.len && sl.esz == 1) = true ∧ H.get sl.id (sl.off + ((i : Nat) : Int).toNat * 1) = some (.int .u64 e) := by
  obtain ⟨sl, e, h1, h2⟩ := h.idx E64_len hi
  exact ⟨sl, e, h1, by simpa using h2 0 _ rfl⟩
theorem loop62b (sl s2 : Sl) (k0 : Nat) (hs2 : s2.id = sl.id ∧ s2.off = sl.off + k0 ∧ s2.len + k0 = sl.len ∧ s2.esz = 1) : ∀ (x : List Int) (n : Nat) (A C : List Int) (p : Int) (H : Heap), OS 1 E64 H (some sl) (A ++ (C ++ [p]) ++ x) → (A ++ (C ++ [p]) ++ x).length < 100000 → k0 + 1 ≤ (A ++ (C ++ [p])).length →
    ∃ H', D62_9 (n + x.length + 1) (some sl) (A.length : Int) (some s2) (((A ++ (C ++ [p])).length - k0 : Nat) : Int) H = some (.exit 2, X62_9 (some sl) ((A ++ ddp p x).length : Nat) H') ∧ Kp (One sl.id) H H' ∧
      ∃ B' : List Int, OS 1 E64 H' (some sl) (A ++ ddp p x ++ B')
  | [], n, A, C, p, H, h, hl, hk => by
    refine ⟨H, ?_, Kp.refl _ _, C ++ [p], by simpa [ddp] using h⟩
    have hlen := h.1
    have g : decide ((((A ++ (C ++ [p])).length - k0 : Nat) : Int) < slen (some s2)) = false := by
      unfold slen
      rw [List.append_nil] at hlen
      exact dF (by simp only []; omega)
    rw [show n + [].length + 1 = n + 1 from rfl, D62_9_s, g, cf]; simp [ddp]
  | y :: x, n, A, C, p, H, h, hl, hk => by
    have hlen := h.1
    have hL : (A ++ (C ++ [p]) ++ y :: x).length = (A ++ (C ++ [p])).length + x.length + 1 := by simp; omega
    have hm : (A ++ (C ++ [p])).length = A.length + C.length + 1 := by simp; omega
    have hes := h.2.1
    have g : decide ((((A ++ (C ++ [p])).length - k0 : Nat) : Int) < slen (some s2)) = true := dT (by unfold slen; simp only []; omega)
    have hy : (A ++ (C ++ [p]) ++ y :: x)[(A ++ (C ++ [p])).length]? = some y := by rw [List.getElem?_append_right (Nat.le_refl _)]; simp
    have hp : (A ++ (C ++ [p]) ++ y :: x)[(A ++ (C ++ [p])).length - 1]? = some p := by
      rw [List.getElem?_append_left (by omega), ← List.append_assoc, List.getElem?_append_right (by simp only [List.length_append, List.length_cons, List.length_nil]; omega)]
      simp
    obtain ⟨sl', e0, g1, c1⟩ := gets64 h.rs hy
    cases e0
    obtain ⟨sl', e0, g2, c2⟩ := gets64 h.rs hp
    cases e0
    have i1 : (inb (((A ++ (C ++ [p])).length - k0 : Nat) : Int) s2.len && s2.esz == 1) = true := by rw [hs2.2.2.2]; simp [inb]; omega
    have i2 : (inb ((((A ++ (C ++ [p])).length - k0 - 1) : Nat) : Int) s2.len && s2.esz == 1) = true := by rw [hs2.2.2.2]; simp [inb]; omega
    have d1 : H.get s2.id (s2.off + (((A ++ (C ++ [p])).length - k0 : Nat) : Int).toNat * 1) = some (.int .u64 y) := by
      rw [← c1, hs2.1, hs2.2.1]; congr 1; omega
    have d2 : H.get s2.id (s2.off + ((((A ++ (C ++ [p])).length - k0 - 1) : Nat) : Int).toNat * 1) = some (.int .u64 p) := by
      rw [← c2, hs2.1, hs2.2.1]; congr 1; omega
    have w1 : IntKind.i64.wrap ((((A ++ (C ++ [p])).length - k0 : Nat) : Int) - 1) = ((((A ++ (C ++ [p])).length - k0 - 1) : Nat) : Int) := wm1 _ (by omega) (by omega)
    have w2 : IntKind.i64.wrap ((((A ++ (C ++ [p])).length - k0 : Nat) : Int) + 1) = ((((A ++ (C ++ [p])).length - k0 + 1) : Nat) : Int) := wp1 _ (by omega)
    have w3 : IntKind.i64.wrap ((A.length : Int) + 1) = ((A.length + 1 : Nat) : Int) := wp1 _ (by omega)
    rw [show n + (y :: x).length + 1 = (n + x.length + 1) + 1 by simp; omega, D62_9_s, g, ct]
    simp only [Ab.bs, i1, i2, d1, d2, w1, w2, w3, ct, tInt]
    cases hq : y == p with
    | true =>
      have hyp : y = p := by simpa using hq
      have hne : (y != p) = false := by unfold bne; rw [hq]; rfl
      rw [hne, cf]
      have h' : OS 1 E64 H (some sl) (A ++ ((C ++ [p]) ++ [y]) ++ x) := by simpa using h
      obtain ⟨H', e', k', B', o'⟩ := loop62b sl s2 k0 hs2 x n A (C ++ [p]) y H h' (by simp at hl ⊢; omega) (by simp; omega)
      refine ⟨H', ?_, k', B', by rw [ddp, hq, ct]; rw [← hyp]; exact o'⟩
      rw [ddp, hq, ct, ← hyp, ← e', ← hyp]
      congr 1
      simp; omega
    | false =>
      have hne : (y != p) = true := by unfold bne; rw [hq]; rfl
      rw [hne, ct]
      obtain ⟨b, B2, hB⟩ : ∃ b B2, C ++ [p] = b :: B2 := by cases C with | nil => exact ⟨p, [], rfl⟩ | cons b B2 => exact ⟨b, B2 ++ [p], rfl⟩
      have hA : (A ++ (C ++ [p]) ++ y :: x)[A.length]? = some b := by rw [hB, List.append_assoc, List.getElem?_append_right (Nat.le_refl _)]; simp
      obtain ⟨H1, p1, o1, k1, _⟩ := h.put (i := A.length) (j := 0) (y := y) (vs := E64 y) E64_len hA (by simp [E64]) (by simp [splice, E64])
      have o2 : OS 1 E64 H1 (some sl) ((A ++ [y]) ++ (B2 ++ [y]) ++ x) := by
        rw [hB] at o1
        simpa using o1
      obtain ⟨sl', e0, g3, _⟩ := gets64 h.rs hA
      cases e0
      have p1' : H.put sl.id (sl.off + (A.length : Int).toNat * 1) [Cell.int IntKind.u64 y] = some H1 := by rw [Int.toNat_natCast]; exact p1
      have hB2 : B2.length = C.length := by
        have := congrArg List.length hB
        simp at this; omega
      obtain ⟨H', e', k', B', o'⟩ := loop62b sl s2 k0 hs2 x n (A ++ [y]) B2 y H1 o2 (by simp at hl ⊢; omega) (by simp; omega)
      refine ⟨H', ?_, k1.one k', B', by rw [ddp, hq, cf]; simpa using o'⟩
      rw [ddp, hq, cf]
      simp only [g3, ct, p1', Ab.bs]
      rw [show ((A.length + 1 : Nat) : Int) = ((A ++ [y]).length : Int) by simp, show ((((A ++ (C ++ [p])).length - k0 + 1) : Nat) : Int) = ((((A ++ [y]) ++ (B2 ++ [y])).length - k0 : Nat) : Int) by simp; omega, e']
      simp
theorem sub_E64 {H : Heap} {sl : Sl} {A B : List Int} (h : RS 1 E64 H (some sl) (A ++ B)) : Sl.sub (some sl) (A.length : Int) none = some (some ⟨sl.id, sl.off + A.length * 1, B.length, sl.cap - A.length, 1⟩) := clear_sub h
theorem loop62a (sl : Sl) : ∀ (x : List Int) (n : Nat) (A : List Int) (p : Int) (H : Heap), OS 1 E64 H (some sl) (A ++ [p] ++ x) → (A ++ [p] ++ x).length < 100000 →
    ∃ s' H', (D62_4 (n + x.length + 1) (some sl) ((A ++ [p]).length : Int) H).bind J62_4 = some (s', H') ∧ OS 1 E64 H' s' (A ++ p :: ddp p x) ∧ Kp (One sl.id) H H' ∧ (∀ q, s' = some q → q.id = sl.id)
  | [], n, A, p, H, h, hl => by
    refine ⟨some sl, H, ?_, by simpa [ddp] using h, Kp.refl _ _, fun q e => by cases e; rfl⟩
    have g : decide (((A ++ [p]).length : Int) < slen (some sl)) = false := by rw [h.rs.slenEq]; simp
    rw [show n + [].length + 1 = n + 1 from rfl, D62_4_s, g, cf, Ab.bs, J62_4_0]
  | y :: x, n, A, p, H, h, hl => by
    have hlen : (A ++ [p] ++ y :: x).length = A.length + x.length + 2 := by simp; omega
    have g : decide (((A ++ [p]).length : Int) < slen (some sl)) = true := by rw [h.rs.slenEq]; simp; omega
    have hy : (A ++ [p] ++ y :: x)[A.length + 1]? = some y := by rw [List.getElem?_append_right (by simp)]; simp
    have hp : (A ++ [p] ++ y :: x)[A.length]? = some p := by rw [List.append_assoc, List.getElem?_append_right (Nat.le_refl _)]; simp
    obtain ⟨sl', e0, g1, c1⟩ := gets64 h.rs hy
    cases e0
    obtain ⟨sl', e0, g2, c2⟩ := gets64 h.rs hp
    cases e0
    have eA : ((A ++ [p]).length : Int) = ((A.length + 1 : Nat) : Int) := by simp
    have w1 : IntKind.i64.wrap (((A.length + 1 : Nat) : Int) - 1) = (A.length : Int) := ws1 _ (by omega)
    have w2 : IntKind.i64.wrap (((A.length + 1 : Nat) : Int) + 1) = ((A.length + 1 + 1 : Nat) : Int) := wp1 _ (by omega)
    have hes : esOk (some sl) 1 = true := h.rs.esOkT
    rw [show n + (y :: x).length + 1 = (n + x.length + 1) + 1 by simp; omega, D62_4_s, g, ct, eA, ddp]
    simp only [Ab.bs, g1, g2, c1, c2, w1, w2, ct, tInt]
    cases hq : y == p with
    | true =>
      have hyp : y = p := by simpa using hq
      have hsub := sub_E64 (A := A ++ [p]) (B := y :: x) h.rs
      rw [eA] at hsub
      obtain ⟨n1, hn1⟩ := LL62_9_of x.length (by omega) (some sl) ((A.length + 1 : Nat) : Int) (some ⟨sl.id, sl.off + (A ++ [p]).length * 1, (y :: x).length, sl.cap - (A ++ [p]).length, 1⟩) 1 H
      have h' : OS 1 E64 H (some sl) ((A ++ [p]) ++ ([] ++ [y]) ++ x) := by simpa using h
      have hsl := h.1
      obtain ⟨H1, e1, k1, B1, o1⟩ := loop62b sl ⟨sl.id, sl.off + (A ++ [p]).length * 1, (y :: x).length, sl.cap - (A ++ [p]).length, 1⟩ (A ++ [p]).length ⟨rfl, by simp, by simp; simp at hsl; omega, rfl⟩ x n1 (A ++ [p]) [] y H h' (by simp at hl ⊢; omega) (by simp)
      obtain ⟨H2, c3, o2, k2⟩ := clear_OS E64_len 0 o1
      obtain ⟨s3, c4, o3, i3⟩ := o2.sub0 E64_len (A ++ [p] ++ ddp y x).length (by simp)
      rw [List.take_left] at o3
      refine ⟨s3, H2, ?_, ?_, k1.one k2, fun q e => by obtain ⟨_, e1, e2⟩ := i3 q e; cases e1; exact e2⟩
      · have e1' : D62_9 (n1 + x.length + 1) (some sl) ((A.length + 1 : Nat) : Int) (some ⟨sl.id, sl.off + (A ++ [p]).length * 1, (y :: x).length, sl.cap - (A ++ [p]).length, 1⟩) 1 H = some (.exit 2, X62_9 (some sl) ((A ++ [p] ++ ddp y x).length : Nat) H1) := by
          have e9 : ((A ++ [p] ++ ([] ++ [y])).length - (A ++ [p]).length) = 1 := by simp only [List.length_append, List.length_cons, List.length_nil]; omega
          rw [← e1, e9, eA]; rfl
        simp only [hsub, Ab.bs, hes, ct, hn1, e1', J62_9_0, sub_E64 o1.rs]
        rw [show H1.clear 1 [Cell.int IntKind.u64 0] _ = some H2 from c3, Ab.bs, c4, Ab.bs, Ab.bs, J62_4_1]
      · rw [ct, ← hyp]
        rw [hyp] at o3 ⊢
        simpa using o3
    | false =>
      have h' : OS 1 E64 H (some sl) ((A ++ [p]) ++ [y] ++ x) := by simpa using h
      obtain ⟨s', H', e', o', k', i'⟩ := loop62a sl x n (A ++ [p]) y H h' (by simp at hl ⊢; omega)
      refine ⟨s', H', ?_, by rw [cf]; simpa using o', k', i'⟩
      rw [cf, ← e']
      congr 2
      simp only [List.length_append, List.length_cons, List.length_nil]
theorem f62_x {H : Heap} {t : Option Sl} {l : List Int} (h : OS 1 E64 H t l) (hl : l.length < 100000) : ∃ t' H', f62 t H = some (t', H') ∧ OS 1 E64 H' t' (compP l) ∧ Kp (Of t) H H' ∧ (∀ q, t' = some q → ∃ p, t = some p ∧ q.id = p.id) := by
  rw [q62, h.rs.slenEq]
  cases l with
  | nil => exact ⟨t, H, by rw [dT (by simp), ct], h, Kp.refl _ _, fun q e => ⟨q, e, rfl⟩⟩
  | cons x r =>
    cases r with
    | nil => exact ⟨t, H, by rw [dT (by simp), ct], by simpa [compP, ddp] using h, Kp.refl _ _, fun q e => ⟨q, e, rfl⟩⟩
    | cons y r =>
      cases t with
      | none =>
        have : x :: y :: r = [] := h
        cases this
      | some sl =>
        obtain ⟨n, hn⟩ := LL62_4_of (y :: r).length (by simp at hl ⊢; omega) (some sl) 1 H
        obtain ⟨s', H', e, o, k, i⟩ := loop62a sl (y :: r) n [] x H h hl
        refine ⟨s', H', ?_, by simpa [compP] using o, k.mono fun i _ hi => ⟨sl, rfl, hi⟩, fun q e => ⟨sl, rfl, i q e⟩⟩
        rw [dF (by simp; omega), cf, hn]
        exact e
theorem f34_x {H : Heap} {t : Option Sl} {l : List Int} (h : OS 1 E64 H t l) (hl : l.length < 65536) : ∃ t' H', f34 t H = some (t', H') ∧ OS 1 E64 H' t' (risingP l) ∧ Kp (Of t) H H' ∧ (∀ q, t' = some q → ∃ p, t = some p ∧ q.id = p.id) := by
  obtain ⟨H1, e1, o1, k1⟩ := f61_x h hl
  obtain ⟨t', H2, e2, o2, k2, i2⟩ := f62_x o1 (by rw [List.length_mergeSort]; omega)
  exact ⟨t', H2, by rw [q34, e1, Ab.bs, e2, Ab.bs], o2, k1.trans k2 (fun _ h => h) fun _ _ h => h, i2⟩
/-! what relocations hold -/
theorem f75_x {F : Nat → Prop} {H : Heap} {id : Nat} {l : List UInt8} (h : RP F H id l) (hl : l.length ≤ 1000000) (a : Nat) : f75 (some (id, 0)) (a : Int) 8 H = some (bif hasI l.length a 8 then (((numB ((l.drop a).take 8) : Nat) : Int), 0) else (0, 7), H) := by
  obtain ⟨s, h1, h2, _⟩ := h
  have c0 : H.get id (0 + 0) = some (.slice s) := by rw [get_of h1]; rfl
  have b8 : bits_Is 8 = true := by decide
  rw [q75]
  have hn : (some (id, 0) : Option (Nat × Nat)).isNone = false := rfl
  simp only [hn, cf, b8, Bool.not_true, Ab.bs, c0, tSlice, has_eq h2.rs (by omega)]
  cases hh : hasI l.length a 8 with
  | false => simp only [Bool.not_false, ct, cf]
  | true =>
    have hb : a + 8 ≤ l.length := by
      unfold hasI at hh
      simp only [Bool.and_eq_true, decide_eq_true_eq] at hh
      omega
    have e := f82_spec s l (by omega) a 8 (by omega) hb H h2.rs
    rw [show ((8 : Nat) : Int) = 8 from rfl] at e
    simp only [Bool.not_true, cf, ct, e, Ab.bs]
def heldL (want a : Int) : List Sg → Int × Bool
  | [] => (0, false)
  | s :: r => bif isX s then heldL want a r else bif decide (a < s.addr) then heldL want a r else bif decide (a - s.addr > (s.data.length : Int)) then heldL want a r
      else bif hasI s.data.length (a - s.addr) 8 then (want, ((numB ((s.data.drop (a - s.addr).toNat).take 8) : Nat) : Int) == want) else heldL want a r
theorem loop60 {H0 : Heap} {t : Option Sl} {l : List Sg} (hl : l.length < 1000) (hu : ∀ s ∈ l, SgU s) (hd : ∀ s ∈ l, RS 1 E8 H0 s.sl s.data ∧ s.data.length ≤ 1000) (want a b1 b2 : Int) (ha : u64r a) : ∀ (m n i : Nat) (H : Heap), i + m = l.length → Kp No H0 H → RS 5 ESg H t l →
    ∃ H', (D60_3 (n + m + 1) want t (l.length : Int) (i : Int) a b1 b2 H).bind J60_3 = some (heldL want a (l.drop i), H') ∧ Kp No H H'
  | 0, n, i, H, hm, hk, hR => by
    have g : decide ((i : Int) < (l.length : Int)) = false := by simp; omega
    refine ⟨H, ?_, Kp.refl _ _⟩
    rw [List.drop_eq_nil_of_le (by omega), D60_3_s, g, cf, Ab.bs, J60_3_1]; rfl
  | m + 1, n, i, H, hm, hk, hR => by
    have g : decide ((i : Int) < (l.length : Int)) = true := by simp; omega
    have hi : i < l.length := by omega
    obtain ⟨sl, e0, g1, c0, c1, c2, c3, c4⟩ := getsSg hR (List.getElem?_eq_getElem hi)
    have hsu := hu _ (List.getElem_mem hi)
    obtain ⟨hsd, hsn⟩ := hd _ (List.getElem_mem hi)
    have ih := fun H1 k1 r1 => loop60 (t := t) hl hu hd want a b1 b2 ha m n (i + 1) H1 (by omega) k1 r1
    rw [show n + (m + 1) + 1 = (n + m + 1) + 1 by omega, D60_3_s, g, ct, List.drop_eq_getElem_cons hi, heldL]
    rw [show t.bind = (some sl).bind (β := AExit × St) by rw [e0]]
    simp only [Ab.bs, g1, ct, c0, c1, c2, c3, c4, tInt, tSlice, i64_succ i (by omega)]
    generalize l[i] = s at *
    rw [show (band IntKind.i64 s.flags 1 != 0) = isX s from rfl]
    cases hx : isX s with
    | true => simp only [ct]; exact ih H hk hR
    | false =>
      simp only [cf]
      by_cases g2 : a < s.addr
      · simp only [dT g2, ct]; exact ih H hk hR
      · unfold SgU u64r at *
        have w1 : IntKind.u64.wrap (a - s.addr) = a - s.addr := by rw [wrap_u64]; omega
        simp only [dF g2, cf, w1, hsd.slenEq, u64_len _ (show s.data.length < 1000000 by omega)]
        have hsl := (hsd.no hk).slenEq
        rw [hsd.slenEq] at hsl
        by_cases g3 : a - s.addr > (s.data.length : Int)
        · simp only [dT g3, ct]; exact ih H hk hR
        · have w2 : IntKind.i64.wrap (a - s.addr) = (((a - s.addr).toNat : Nat) : Int) := by rw [wrap_i64 (by omega) (by omega)]; omega
          have w3 : ((((a - s.addr).toNat : Nat)) : Int) = a - s.addr := by omega
          simp only [dF g3, cf, w2]
          have kP : Kp No H (H ++ [Blk.row [Cell.slice s.sl] false]) := Kp.push1 _ _
          have hrow : RS 1 ES (H ++ [Blk.row [Cell.slice s.sl] false]) (some ⟨H.length, 0, 1, 1, 1⟩) [s.sl] := rs_new [s.sl] (ro := false) (by rw [push_get]; rfl) rfl
          obtain ⟨H1, e1, r1, k1⟩ := f74_spec (H ++ [Blk.row [Cell.slice s.sl] false]) (some ⟨H.length, 0, 1, 1, 1⟩) [s.data] ⟨[s.sl], hrow, rfl, fun j p l hp hl => by
              cases j with
              | zero => cases hp; cases hl; exact (hsd.no hk).no kP
              | succ j => simp at hp⟩ (by simp) (by simp; omega)
          have hc : catCut [] [s.data] = s.data := by
            simp only [catCut, List.nil_append, List.length_nil, Nat.sub_zero]
            rw [List.take_of_length_le (by omega)]
          rw [hc] at r1
          have e2 := f75_x r1 (by omega) (a - s.addr).toNat
          rw [w3] at e2
          rw [e1]
          simp only [Ab.bs, e2, w3]
          cases hh : hasI s.data.length (a - s.addr) 8 with
          | true =>
            refine ⟨H1, ?_, kP.tr k1⟩
            simp only [ct]
            rw [show ((0 : Int) == 0) = true from rfl, ct, Ab.bs, J60_3_0]
          | false =>
            simp only [cf]
            rw [show ((7 : Int) == 0) = false from rfl, cf]
            obtain ⟨H2, e3, k3⟩ := ih H1 (hk.tr (kP.tr k1)) (hR.no (kP.tr k1))
            exact ⟨H2, e3, (kP.tr k1).tr k3⟩
def heldP (f : Fl) (r : Rl) : Int × Bool :=
  heldL (IntKind.u64.wrap (((f.sy[r.sym.toNat]?).getD ⟨⟨#[]⟩, 0, 0, 0⟩).addr + IntKind.u64.wrap r.add)) r.at' (f.sg.filter fun s => s.kind == 1)
theorem f60_x {H : Heap} {s : FS} {f : Fl} (h : FR H s f) (hl : f.sg.length ≤ 100) (hu : ∀ s ∈ f.sg, SgU s) (hd : ∀ s ∈ f.sg, s.data.length ≤ 1000) {r : Rl} (hr : 0 ≤ r.sym ∧ r.sym < f.sy.length) (ha : u64r r.at') : Says (f60 s.M s.E s.sg s.sy s.rl r.at' r.sym r.add H) H (heldP f r) := by
  have hi : r.sym.toNat < f.sy.length := by omega
  have hi? := List.getElem?_eq_getElem hi
  obtain ⟨sl, e0, g1, c0, c1, c2, c3⟩ := getsSy h.sy hi?
  have es : ((r.sym.toNat : Nat) : Int) = r.sym := by omega
  rw [es] at g1 c2
  obtain ⟨t, H1, e1, o1, k1, _⟩ := f24_x h hl 1
  have c2' : H.get sl.id (sl.off + r.sym.toNat * 4 + 2) = some (.int .u64 f.sy[r.sym.toNat].addr) := c2
  have hlf : (f.sg.filter fun s => s.kind == 1).length ≤ f.sg.length := List.length_filter_le _ _
  obtain ⟨n, hn⟩ := LL60_3_of (f.sg.filter fun s => s.kind == 1).length (by omega) (IntKind.u64.wrap (f.sy[r.sym.toNat].addr + IntKind.u64.wrap r.add)) t ((f.sg.filter fun s => s.kind == 1).length : Int) 0 r.at' r.sym r.add H1
  obtain ⟨H2, e2, k2⟩ := loop60 (H0 := H) (t := t) (l := f.sg.filter fun s => s.kind == 1) (by omega) (fun s hs => hu s (List.mem_filter.1 hs).1) (fun s hs => ⟨h.sd s (List.mem_filter.1 hs).1, hd s (List.mem_filter.1 hs).1⟩) (IntKind.u64.wrap (f.sy[r.sym.toNat].addr + IntKind.u64.wrap r.add)) r.at' r.sym r.add ha (f.sg.filter fun s => s.kind == 1).length n 0 H1 (by omega) k1 o1.rs
  rw [List.drop_zero] at e2
  refine ⟨H2, ?_, k1.tr k2⟩
  rw [q60]
  rw [show s.sy.bind = (some sl).bind (β := (Int × Bool) × Heap) by rw [e0]]
  simp only [Ab.bs, g1, ct, c2', tInt, e1, o1.rs.slenEq, hn]
  unfold heldP
  rw [hi?]
  exact e2
/-! what is marked -/
theorem growK {α : Type} {n by' : Nat} {Ec : α → List Cell} (hE : ∀ x, (Ec x).length = n) (hn : 0 < n) {H : Heap} (t : Option Sl) (l : List α) (ho : OS n Ec H t l) (x : α) (hb : (l.length + 1) * by' ≤ most) :
    ∃ t' H2, (H ++ [Blk.row (Ec x) false]).append n by' t (some ⟨H.length, 0, 1, 1, n⟩) = some (t', H2) ∧ OS n Ec H2 t' (l ++ [x]) ∧ Kp (Of t) H H2 ∧ (∀ q, t' = some q → (∃ p, t = some p ∧ q.id = p.id) ∨ H.length ≤ q.id) := by
  have kP : Kp No H (H ++ [Blk.row (Ec x) false]) := Kp.push1 _ _
  have xr : RS n Ec (H ++ [Blk.row (Ec x) false]) (some ⟨H.length, 0, 1, 1, n⟩) [x] := rs_new [x] (ro := false) (by rw [push_get]; simp) rfl
  obtain ⟨t', H2, a1, a2, a3, a4⟩ := append_OS hE hn (by' := by') (ho.no kP) xr (by simpa using hb)
  refine ⟨t', H2, a1, a2, kP.trans a3 (fun _ h => h.elim) fun i hi h => h, fun q e => ?_⟩
  rcases a4 q e with ⟨q', e1, e2⟩ | h
  · exact .inl ⟨q', e1, e2⟩
  · have := kP.len; exact .inr (by omega)
def ibRow (c : Sg) (dt st : Option Sl) (en : Int) (fu tk : Option Sl) : Blk := .row [.int .i64 c.kind, .int .i64 c.flags, .int .u64 c.addr, .int .u64 c.size, .slice c.sl, .slice dt, .slice st, .int .u64 en, .slice fu, .slice tk] false
theorem ib_get {H : Heap} {id : Nat} {c : Sg} {dt st : Option Sl} {en : Int} {fu tk : Option Sl} (h : H[id]? = some (ibRow c dt st en fu tk)) :
    H.get id 0 = some (.int .i64 c.kind) ∧ H.get id (0 + 1) = some (.int .i64 c.flags) ∧ H.get id (0 + 1 + 1) = some (.int .u64 c.addr) ∧ H.get id (0 + 1 + 1 + 1) = some (.int .u64 c.size) ∧ H.get id (0 + 1 + 1 + 1 + 1) = some (.slice c.sl) ∧
    H.get id (0 + 1 + 1 + 1 + 1 + 1) = some (.slice dt) ∧ H.get id (0 + 1 + 1 + 1 + 1 + 1 + 1) = some (.slice st) ∧ H.get id (0 + 1 + 1 + 1 + 1 + 1 + 1 + 1) = some (.int .u64 en) ∧ H.get id (0 + 1 + 1 + 1 + 1 + 1 + 1 + 1 + 1) = some (.slice fu) ∧ H.get id (0 + 1 + 1 + 1 + 1 + 1 + 1 + 1 + 1 + 1) = some (.slice tk) := by
  unfold ibRow at h
  refine ⟨?_, ?_, ?_, ?_, ?_, ?_, ?_, ?_, ?_, ?_⟩ <;> rw [get_of h] <;> rfl
theorem ib_put8 {H : Heap} {id : Nat} {c : Sg} {dt st : Option Sl} {en : Int} {fu tk : Option Sl} (h : H[id]? = some (ibRow c dt st en fu tk)) (x : Option Sl) : H.put id (0 + 8) [.slice x] = some (H.set id (ibRow c dt st en x tk)) := by
  unfold ibRow at h
  rw [put_of h (by simp)]; rfl
theorem ib_put9 {H : Heap} {id : Nat} {c : Sg} {dt st : Option Sl} {en : Int} {fu tk : Option Sl} (h : H[id]? = some (ibRow c dt st en fu tk)) (x : Option Sl) : H.put id (0 + 9) [.slice x] = some (H.set id (ibRow c dt st en fu x)) := by
  unfold ibRow at h
  rw [put_of h (by simp)]; rfl
theorem f19_x {c : Sg} (hc : SgU c) {a : Int} (ha : u64r a) (m5 m6 : Option Sl) (m7 : Int) (m8 m9 : Option Sl) (H : Heap) : f19 c.kind c.flags c.addr c.size c.sl m5 m6 m7 m8 m9 a H = some (hasP c a 1, H) := by
  rw [q19, f10_x hc ha, Ab.bs]
def funcsP (c : Sg) : List Sy → List Int
  | [] => []
  | s :: r => bif s.kind == 2 && hasP c s.addr 1 then s.addr :: funcsP c r else funcsP c r
/-- The image's block in the making. -/
structure MK (H0 H : Heap) (id : Nat) (c : Sg) (dt st : Option Sl) (en : Int) (fu tk : Option Sl) (a b : List Int) : Prop where
  k : Kp No H0 H
  id0 : H0.length ≤ id
  row : H[id]? = some (ibRow c dt st en fu tk)
  ofu : OS 1 E64 H fu a
  otk : OS 1 E64 H tk b
  nf : ∀ q, fu = some q → q.id ≠ id ∧ H0.length ≤ q.id
  nt : ∀ q, tk = some q → q.id ≠ id ∧ H0.length ≤ q.id
  ft : ∀ p q, fu = some p → tk = some q → p.id ≠ q.id
theorem MK.no {H0 H H' : Heap} {id : Nat} {c : Sg} {dt st : Option Sl} {en : Int} {fu tk : Option Sl} {a b : List Int} (h : MK H0 H id c dt st en fu tk a b) (k : Kp No H H') : MK H0 H' id c dt st en fu tk a b :=
  ⟨h.k.tr k, h.id0, k.bk h.row, h.ofu.no k, h.otk.no k, h.nf, h.nt, h.ft⟩
/-- The image's own blocks. -/
def Mx (id : Nat) (fu tk : Option Sl) (i : Nat) : Prop := i = id ∨ Of fu i ∨ Of tk i
theorem MK.addF {H0 H : Heap} {id : Nat} {c : Sg} {dt st : Option Sl} {en : Int} {fu tk : Option Sl} {a b : List Int} (h : MK H0 H id c dt st en fu tk a b) (x : Int) (hl : a.length < 1000) :
    ∃ fu' H2 H3, (H ++ [Blk.row [Cell.int IntKind.u64 x] false]).append 1 8 fu (some ⟨H.length, 0, 1, 1, 1⟩) = some (fu', H2) ∧ H2.put id (0 + 8) [.slice fu'] = some H3 ∧ MK H0 H3 id c dt st en fu' tk (a ++ [x]) b ∧ Kp (Mx id fu tk) H H3 ∧ (∀ q, fu' = some q → Of fu q.id ∨ H.length ≤ q.id) := by
  obtain ⟨fu', H2, a1, a2, a3, a4⟩ := growK E64_len (by decide) (by' := 8) fu a h.ofu x (by simp [most]; omega)
  have hid := lt_of h.row
  have r2 : H2[id]? = some (ibRow c dt st en fu tk) := a3.at h.row (by rintro ⟨q, e, e2⟩; exact (h.nf q e).1 e2.symm)
  have hn' : ∀ q, fu' = some q → q.id ≠ id ∧ H0.length ≤ q.id := fun q e => by
    rcases a4 q e with ⟨p, e1, e2⟩ | g
    · rw [e2]; exact h.nf p e1
    · have := h.k.len; exact ⟨by omega, by omega⟩
  have tk2 : OS 1 E64 H2 tk b := h.otk.kp a3 fun q e ⟨p, e1, e2⟩ => h.ft p q e1 e e2.symm
  refine ⟨fu', H2, _, a1, ib_put8 r2 fu', ⟨(h.k.trans a3 (fun _ h => h) fun i hi ⟨q, e, e2⟩ => by have := (h.nf q e).2; omega).trans (Kp.set _ _ _) (fun _ h => h) (fun i hi e => by have : i = id := e; have := h.id0; omega), h.id0, set_get' (lt_of r2), a2.kp (Kp.set _ _ _) (fun q e => (hn' q e).1), tk2.kp (Kp.set _ _ _) (fun q e => (h.nt q e).1), hn', h.nt, fun p q e1 e2 => ?_⟩, ?_, ?_⟩
  · rcases a4 p e1 with ⟨p', e3, e4⟩ | g
    · rw [e4]; exact h.ft p' q e3 e2
    · subst e2
      have := h.otk.lt; omega
  · exact a3.trans (Kp.set _ _ _) (fun i hi => .inr (.inl hi)) fun i _ e => .inl e
  · intro q e
    rcases a4 q e with ⟨p, e1, e2⟩ | g
    · exact .inl ⟨p, e1, e2⟩
    · exact .inr g
theorem MK.addT {H0 H : Heap} {id : Nat} {c : Sg} {dt st : Option Sl} {en : Int} {fu tk : Option Sl} {a b : List Int} (h : MK H0 H id c dt st en fu tk a b) (x : Int) (hl : b.length < 1000) :
    ∃ tk' H2 H3, (H ++ [Blk.row [Cell.int IntKind.u64 x] false]).append 1 8 tk (some ⟨H.length, 0, 1, 1, 1⟩) = some (tk', H2) ∧ H2.put id (0 + 9) [.slice tk'] = some H3 ∧ MK H0 H3 id c dt st en fu tk' a (b ++ [x]) ∧ Kp (Mx id fu tk) H H3 ∧ (∀ q, tk' = some q → Of tk q.id ∨ H.length ≤ q.id) := by
  obtain ⟨tk', H2, a1, a2, a3, a4⟩ := growK E64_len (by decide) (by' := 8) tk b h.otk x (by simp [most]; omega)
  have hid := lt_of h.row
  have r2 : H2[id]? = some (ibRow c dt st en fu tk) := a3.at h.row (by rintro ⟨q, e, e2⟩; exact (h.nt q e).1 e2.symm)
  have hn' : ∀ q, tk' = some q → q.id ≠ id ∧ H0.length ≤ q.id := fun q e => by
    rcases a4 q e with ⟨p, e1, e2⟩ | g
    · rw [e2]; exact h.nt p e1
    · have := h.k.len; exact ⟨by omega, by omega⟩
  have fu2 : OS 1 E64 H2 fu a := h.ofu.kp a3 fun q e ⟨p, e1, e2⟩ => h.ft q p e e1 e2
  refine ⟨tk', H2, _, a1, ib_put9 r2 tk', ⟨(h.k.trans a3 (fun _ h => h) fun i hi ⟨q, e, e2⟩ => by have := (h.nt q e).2; omega).trans (Kp.set _ _ _) (fun _ h => h) (fun i hi e => by have : i = id := e; have := h.id0; omega), h.id0, set_get' (lt_of r2), fu2.kp (Kp.set _ _ _) (fun q e => (h.nf q e).1), a2.kp (Kp.set _ _ _) (fun q e => (hn' q e).1), h.nf, hn', fun p q e1 e2 => ?_⟩, ?_, ?_⟩
  · rcases a4 q e2 with ⟨p', e3, e4⟩ | g
    · rw [e4]; exact h.ft p p' e1 e3
    · subst e1
      have := h.ofu.lt; omega
  · exact a3.trans (Kp.set _ _ _) (fun i hi => .inr (.inr hi)) fun i _ e => .inl e
  · intro q e
    rcases a4 q e with ⟨p, e1, e2⟩ | g
    · exact .inl ⟨p, e1, e2⟩
    · exact .inr g
end
end Go.Proofs.Ytnjdajcgcnjamaa
