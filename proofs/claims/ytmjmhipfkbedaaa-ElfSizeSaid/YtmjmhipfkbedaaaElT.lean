/- Layer 3: the document writes numbers, rows, heads. -/
import Derived.Test.YtmjmhipfkbedaaaElS
namespace Go.Proofs.Ytmjmhipfkbedaaa
open Go Go.Proofs.Ytmjmhipfkbedaaa.Ab
set_option linter.unusedVariables false
set_option linter.unusedSimpArgs false
set_option maxRecDepth 100000
noncomputable section
/-- From one slice and heap to another: only the slice's own block changes. -/
structure Ap (H : Heap) (b : Option Sl) (H' : Heap) (b' : Option Sl) : Prop where
  k : Kp (Of b) H H'
  f : Fr2 H.length b b'
theorem Ap.refl (H : Heap) (b : Option Sl) : Ap H b H b := ⟨Kp.refl _ _, fun q e => .inl ⟨q, e, rfl⟩⟩
theorem Ap.no {H H' : Heap} (b : Option Sl) (k : Kp No H H') : Ap H b H' b := ⟨k.mono fun _ _ h => absurd h (fun x => x), fun q e => .inl ⟨q, e, rfl⟩⟩
theorem Ap.tr {H H' H'' : Heap} {b b' b'' : Option Sl} (h : Ap H b H' b') (k : Ap H' b' H'' b'') : Ap H b H'' b'' := by
  refine ⟨h.k.trans k.k (fun _ h => h) fun i hi ⟨q, e1, e2⟩ => ?_, fun q e => ?_⟩
  · rcases h.f q e1 with ⟨q', x1, x2⟩ | x
    · exact ⟨q', x1, by omega⟩
    · omega
  · rcases k.f q e with ⟨q', x1, x2⟩ | x
    · rcases h.f q' x1 with ⟨q2, y1, y2⟩ | y
      · exact .inl ⟨q2, y1, by omega⟩
      · exact .inr (by omega)
    · have := h.k.len
      exact .inr (by omega)
theorem ap_app {α : Type} {n by' : Nat} {Ec : α → List Cell} (hE : ∀ x, (Ec x).length = n) (hn : 0 < n) {H : Heap} {b x : Option Sl} {l m : List α} (ho : OS n Ec H b l) (hx : RS n Ec H x m) (hb : (l.length + m.length) * by' ≤ most) :
    ∃ b' H', H.append n by' b x = some (b', H') ∧ OS n Ec H' b' (l ++ m) ∧ Ap H b H' b' := by
  obtain ⟨b', H', a1, a2, a3, a4⟩ := append_OS hE hn (by' := by') ho hx hb
  exact ⟨b', H', a1, a2, a3, a4⟩
/-- Another slice's cells stay. -/
theorem Ap.rs {α : Type} {n : Nat} {Ec : α → List Cell} {H H' : Heap} {b b' t : Option Sl} {l : List α} (h : Ap H b H' b') (ht : RS n Ec H t l) (hd : ∀ q sl, b = some q → t = some sl → sl.id ≠ q.id) : RS n Ec H' t l :=
  ht.kp h.k fun sl e _ ⟨q, e1, e2⟩ => hd q sl e1 e e2
def Apart (b t : Option Sl) : Prop := ∀ q sl, b = some q → t = some sl → sl.id ≠ q.id
theorem Ap.apart {H H' : Heap} {b b' t : Option Sl} (h : Ap H b H' b') (hd : Apart b t) (hl : ∀ sl, t = some sl → sl.id < H.length) : Apart b' t := fun q sl e1 e2 => by
  have := hl sl e2
  rcases h.f q e1 with ⟨q', x1, x2⟩ | x
  · have := hd q' sl x1 e2; omega
  · omega
theorem fresh_apart {H : Heap} {b : Option Sl} {l : List UInt8} (ho : OS 1 E8 H b l) (k c e : Nat) : Apart b (some ⟨H.length, k, c, c, e⟩) := fun q sl e1 e2 => by
  cases e2; subst e1; have := ho.lt; simp only; omega
/-! even -/
theorem tmod16 (n : Nat) : (n : Int).tmod 16 = ((n % 16 : Nat) : Int) := rfl
theorem loop25 : ∀ (m n : Nat) (b : Option Sl) (l : List UInt8) (H : Heap), padN l.length 16 = m → OS 1 E8 H b l → l.length ≤ 1099511627776 →
    ∃ b' H', D25_1 (n + m + 1) b H = some (.exit 0, X25_1 b' H') ∧ OS 1 E8 H' b' (l ++ zs (padN l.length 16)) ∧ Ap H b H' b'
  | 0, n, b, l, H, hm, ho, hl => by
    have g : ((slen b).tmod 16 != 0) = false := by
      rw [ho.rs.slenEq, tmod16]; unfold padN at hm; simp; omega
    refine ⟨b, H, by rw [D25_1_s, g, cf], ?_, Ap.refl _ _⟩
    rw [hm]; simpa [zs] using ho
  | m + 1, n, b, l, H, hm, ho, hl => by
    have g : ((slen b).tmod 16 != 0) = true := by
      rw [ho.rs.slenEq, tmod16]; unfold padN at hm; simp; omega
    have kP : Kp No H (H ++ [Blk.row [Cell.int IntKind.u8 0] false]) := Kp.push1 _ _
    have xr : RS 1 E8 (H ++ [Blk.row [Cell.int IntKind.u8 0] false]) (some ⟨H.length, 0, 1, 1, 1⟩) [(0 : UInt8)] := rs_new (E := E8) [(0 : UInt8)] (ro := false) (by rw [push_get]; rfl) rfl
    obtain ⟨b2, H2, r1, r2, r3⟩ := ap_app (by' := 1) E8_len (by decide) (ho.no kP) xr (by unfold most; simp; omega)
    have hpad : padN (l ++ [0]).length 16 = m := by unfold padN at hm ⊢; simp; omega
    obtain ⟨b3, H3, q1, q2, q3⟩ := loop25 m n b2 (l ++ [0]) H2 hpad r2 (by
      unfold padN at hm; simp; omega)
    refine ⟨b3, H3, ?_, ?_, (Ap.no b kP).tr (r3.tr q3)⟩
    · rw [show n + (m + 1) + 1 = (n + m + 1) + 1 by omega, D25_1_s, g, ct, r1, Ab.bs]; exact q1
    · rw [hpad] at q2
      rw [hm, show zs (m + 1) = [0] ++ zs m from rfl, ← List.append_assoc]; exact q2
theorem f25_x {H : Heap} {b : Option Sl} {l : List UInt8} (ho : OS 1 E8 H b l) (hl : l.length ≤ 1099511627776) : ∃ b' H', f25 b H = some (b', H') ∧ OS 1 E8 H' b' (l ++ zs (padN l.length 16)) ∧ Ap H b H' b' := by
  obtain ⟨n, e⟩ := LL25_1_of (padN l.length 16) (by unfold padN; omega) b H
  obtain ⟨b', H', r1, r2⟩ := loop25 (padN l.length 16) n b l H rfl ho hl
  exact ⟨b', H', by rw [q25, e, r1, Ab.bs, J25_1_0], r2⟩
/-! nums -/
theorem loop57 {H0 : Heap} {b0 t : Option Sl} {vs : List Nat} {l : List UInt8} (w : Nat) (hw : w ≤ 8) (hv : ∀ v ∈ vs, v < 18446744073709551616) (ht : RS 1 EU H0 t vs) (hd : Apart b0 t) (hlt : ∀ sl, t = some sl → sl.id < H0.length) (hvl : vs.length ≤ 1000) (hl : l.length ≤ 1099511627776) :
    ∀ (m n i : Nat) (b : Option Sl) (H : Heap), i + m = vs.length → OS 1 E8 H b (l ++ (vs.take i).flatMap (leB w)) → Ap H0 b0 H b →
    ∃ b' H', D57_2 (n + m + 1) b (w : Int) t (vs.length : Int) (i : Int) H = some (.exit 0, X57_2 b' H') ∧ OS 1 E8 H' b' (l ++ vs.flatMap (leB w)) ∧ Ap H0 b0 H' b'
  | 0, n, i, b, H, hm, ho, ha => by
    have g : decide ((i : Int) < (vs.length : Int)) = false := by simp; omega
    rw [List.take_of_length_le (by omega)] at ho
    exact ⟨b, H, by rw [D57_2_s, g, cf], ho, ha⟩
  | m + 1, n, i, b, H, hm, ho, ha => by
    have hi : i < vs.length := by omega
    have g : decide ((i : Int) < (vs.length : Int)) = true := by simp; omega
    obtain ⟨sl, e0, g1, c0⟩ := getsU (ha.rs ht hd) (List.getElem?_eq_getElem hi)
    obtain ⟨s', H1, x1, x2, x3, x4⟩ := f78_spec w vs[i] hw (hv _ (List.getElem_mem hi)) H
    have hfl : ((vs.take i).flatMap (leB w)).length ≤ 8000 := by
      have : ∀ q : List Nat, (q.flatMap (leB w)).length = w * q.length := fun q => by
        induction q with
        | nil => rfl
        | cons a q ih => rw [List.flatMap_cons, List.length_append, leB_length, ih, List.length_cons, Nat.mul_succ]; omega
      rw [this, List.length_take, Nat.min_eq_left (by omega)]
      calc w * i ≤ 8 * i := Nat.mul_le_mul_right _ hw
        _ ≤ 8000 := by omega
    obtain ⟨b2, H2, r1, r2, r3⟩ := ap_app (by' := 1) E8_len (by decide) (ho.no x3) x2.rs (by rw [leB_length, List.length_append]; unfold most; omega)
    have ha2 := (ha.tr (Ap.no b x3)).tr r3
    obtain ⟨b3, H3, q1, q2⟩ := loop57 w hw hv ht hd hlt hvl hl m n (i + 1) b2 H2 (by omega) (by
      rw [List.take_succ_eq_append_getElem hi, List.flatMap_append, ← List.append_assoc]
      simpa using r2) ha2
    refine ⟨b3, H3, ?_, q2⟩
    rw [show n + (m + 1) + 1 = (n + m + 1) + 1 by omega, D57_2_s, g, ct]
    rw [show t.bind = (some sl).bind (β := AExit × St) by rw [e0]]
    simp only [Ab.bs, g1, ct, c0, tInt, x1, r1, i64_succ i (show i < 9223372036854775807 by omega)]
    exact q1
theorem f57_x {H : Heap} {b t : Option Sl} {vs : List Nat} {l : List UInt8} (w : Nat) (hw : w ≤ 8) (hv : ∀ v ∈ vs, v < 18446744073709551616) (ho : OS 1 E8 H b l) (ht : RS 1 EU H t vs) (hd : Apart b t) (hlt : ∀ sl, t = some sl → sl.id < H.length) (hvl : vs.length ≤ 1000) (hl : l.length ≤ 1099511627776) :
    ∃ b' H', f57 b (w : Int) t H = some (b', H') ∧ OS 1 E8 H' b' (l ++ vs.flatMap (leB w)) ∧ Ap H b H' b' := by
  obtain ⟨n, e⟩ := LL57_2_of vs.length (by omega) b (w : Int) t (slen t) 0 H
  obtain ⟨b', H', r1, r2⟩ := loop57 w hw hv ht hd hlt hvl hl vs.length n 0 b H (by omega) (by simpa using ho) (Ap.refl _ _)
  refine ⟨b', H', ?_, r2⟩
  rw [ht.slenEq] at e
  rw [q57, ht.slenEq, e.trans r1, Ab.bs, J57_2_0]
/-- Numbers of a new row. -/
theorem nums_go {H : Heap} {b : Option Sl} {l : List UInt8} (ho : OS 1 E8 H b l) (hl : l.length ≤ 1099511627776) (w : Nat) (hw : w ≤ 8) (vs : List Nat) (hv : ∀ v ∈ vs, v < 18446744073709551616) (hvl : vs.length ≤ 1000) (wi : Int) (row : List Cell) (k : Nat) (hwi : wi = (w : Int)) (hk : k = vs.length) (hrow : row = vs.flatMap EU) :
    ∃ b' H', f57 b wi (some ⟨H.length, 0, k, k, 1⟩) (H ++ [Blk.row row false]) = some (b', H') ∧ OS 1 E8 H' b' (l ++ vs.flatMap (leB w)) ∧ Ap H b H' b' := by
  subst hwi hk hrow
  have kP : Kp No H (H ++ [Blk.row (vs.flatMap EU) false]) := Kp.push1 _ _
  have xr : RS 1 EU (H ++ [Blk.row (vs.flatMap EU) false]) (some ⟨H.length, 0, vs.length, vs.length, 1⟩) vs := rs_new (E := EU) vs (ro := false) (push_get _ _) rfl
  obtain ⟨b', H', r1, r2, r3⟩ := f57_x w hw hv (ho.no kP) xr (fresh_apart ho _ _ _) (fun sl e => by cases e; simp) hvl hl
  exact ⟨b', H', r1, r2, (Ap.no b kP).tr r3⟩
end
end Go.Proofs.Ytmjmhipfkbedaaa
