/- Layer 28: events, executions as the program reads them; may it be one? -/
import Derived.Test.YthakpjkmianglaaCa1
import Derived.Test.YthakpjkmianglaaAb33
namespace Go.Proofs.Ythakpjkmianglaa
open Go Go.Proofs.Ythakpjkmianglaa.Ab
set_option linter.unusedVariables false
set_option linter.unusedSimpArgs false
set_option maxRecDepth 100000
noncomputable section
/-- An event. -/
structure Ev where
  T : Int
  K : Int
  A : Int
  W : Int
  ac : Bool
  q : Bool
  re : Bool
  ex : Bool
  F : Int
def E9 (e : Ev) : List Cell := [.int .i64 e.T, .int .i64 e.K, .int .u64 e.A, .int .i64 e.W, .bool e.ac, .bool e.q, .bool e.re, .bool e.ex, .int .i64 e.F]
theorem E9_len (e : Ev) : (E9 e).length = 9 := rfl
def EI (n : Int) : List Cell := [.int .i64 n]
theorem EI_len (n : Int) : (EI n).length = 1 := rfl
def EP (p : Int × Int) : List Cell := [.int .i64 p.1, .int .i64 p.2]
theorem EP_len (p : Int × Int) : (EP p).length = 2 := rfl
def dE : Ev := ⟨0, 0, 0, 0, false, false, false, false, 0⟩
theorem gets9 {H : Heap} {s : Option Sl} {l : List Ev} (h : RS 9 E9 H s l) {i : Nat} {e : Ev} (hi : l[i]? = some e) :
    ∃ sl, s = some sl ∧ (inb (i : Int) sl.len && sl.esz == 9) = true ∧ H.get sl.id (sl.off + ((i : Nat) : Int).toNat * 9) = some (.int .i64 e.T) ∧ H.get sl.id (sl.off + ((i : Nat) : Int).toNat * 9 + 1) = some (.int .i64 e.K) ∧
      H.get sl.id (sl.off + ((i : Nat) : Int).toNat * 9 + 1 + 1) = some (.int .u64 e.A) ∧ H.get sl.id (sl.off + ((i : Nat) : Int).toNat * 9 + 1 + 1 + 1) = some (.int .i64 e.W) ∧
      H.get sl.id (sl.off + ((i : Nat) : Int).toNat * 9 + 1 + 1 + 1 + 1) = some (.bool e.ac) ∧ H.get sl.id (sl.off + ((i : Nat) : Int).toNat * 9 + 1 + 1 + 1 + 1 + 1) = some (.bool e.q) ∧
      H.get sl.id (sl.off + ((i : Nat) : Int).toNat * 9 + 1 + 1 + 1 + 1 + 1 + 1) = some (.bool e.re) ∧ H.get sl.id (sl.off + ((i : Nat) : Int).toNat * 9 + 1 + 1 + 1 + 1 + 1 + 1 + 1) = some (.bool e.ex) ∧
      H.get sl.id (sl.off + ((i : Nat) : Int).toNat * 9 + 1 + 1 + 1 + 1 + 1 + 1 + 1 + 1) = some (.int .i64 e.F) := by
  obtain ⟨sl, e, h1, h2⟩ := h.idx E9_len hi
  exact ⟨sl, e, h1, by simpa using h2 0 _ rfl, by simpa using h2 1 _ rfl, by simpa using h2 2 _ rfl, by simpa using h2 3 _ rfl, by simpa using h2 4 _ rfl, by simpa using h2 5 _ rfl, by simpa using h2 6 _ rfl, by simpa using h2 7 _ rfl, by simpa using h2 8 _ rfl⟩
theorem gets1 {H : Heap} {s : Option Sl} {l : List Int} (h : RS 1 EI H s l) {i : Nat} {n : Int} (hi : l[i]? = some n) :
    ∃ sl, s = some sl ∧ (inb (i : Int) sl.len && sl.esz == 1) = true ∧ H.get sl.id (sl.off + ((i : Nat) : Int).toNat * 1) = some (.int .i64 n) := by
  obtain ⟨sl, e, h1, h2⟩ := h.idx EI_len hi
  exact ⟨sl, e, h1, by simpa using h2 0 _ rfl⟩
theorem gets2 {H : Heap} {s : Option Sl} {l : List (Int × Int)} (h : RS 2 EP H s l) {i : Nat} {p : Int × Int} (hi : l[i]? = some p) :
    ∃ sl, s = some sl ∧ (inb (i : Int) sl.len && sl.esz == 2) = true ∧ H.get sl.id (sl.off + ((i : Nat) : Int).toNat * 2) = some (.int .i64 p.1) ∧ H.get sl.id (sl.off + ((i : Nat) : Int).toNat * 2 + 1) = some (.int .i64 p.2) := by
  obtain ⟨sl, e, h1, h2⟩ := h.idx EP_len hi
  exact ⟨sl, e, h1, by simpa using h2 0 _ rfl, by simpa using h2 1 _ rfl⟩
theorem i64_succ (i : Nat) (h : i < 9223372036854775807) : IntKind.i64.wrap ((i : Int) + 1) = ((i + 1 : Nat) : Int) := by
  rw [wrap_i64 (by omega) (by omega)]; rfl
/-- The i-th event, by a whole number. -/
def atE (L : List Ev) (i : Int) : Ev := (L[i.toNat]?).getD dE
def hasX (L : List Ev) (i : Int) : Bool := decide (i ≥ 0) && decide (i < (L.length : Int))
theorem hasX_at {L : List Ev} {i : Int} (h : hasX L i = true) : L[i.toNat]? = some (atE L i) ∧ ((i.toNat : Nat) : Int) = i := by
  unfold hasX at h
  simp only [Bool.and_eq_true, decide_eq_true_eq] at h
  have hi : i.toNat < L.length := by omega
  exact ⟨by unfold atE; rw [List.getElem?_eq_getElem hi]; rfl, by omega⟩
/-- The i-th event's cells, by a whole number. -/
theorem getsE {H : Heap} {s : Option Sl} {L : List Ev} (h : RS 9 E9 H s L) {i : Int} (hi : hasX L i = true) :
    ∃ sl, s = some sl ∧ (inb i sl.len && sl.esz == 9) = true ∧ H.get sl.id (sl.off + i.toNat * 9) = some (.int .i64 (atE L i).T) ∧ H.get sl.id (sl.off + i.toNat * 9 + 1) = some (.int .i64 (atE L i).K) ∧
      H.get sl.id (sl.off + i.toNat * 9 + 1 + 1) = some (.int .u64 (atE L i).A) ∧ H.get sl.id (sl.off + i.toNat * 9 + 1 + 1 + 1) = some (.int .i64 (atE L i).W) ∧
      H.get sl.id (sl.off + i.toNat * 9 + 1 + 1 + 1 + 1) = some (.bool (atE L i).ac) ∧ H.get sl.id (sl.off + i.toNat * 9 + 1 + 1 + 1 + 1 + 1) = some (.bool (atE L i).q) ∧
      H.get sl.id (sl.off + i.toNat * 9 + 1 + 1 + 1 + 1 + 1 + 1) = some (.bool (atE L i).re) ∧ H.get sl.id (sl.off + i.toNat * 9 + 1 + 1 + 1 + 1 + 1 + 1 + 1) = some (.bool (atE L i).ex) ∧
      H.get sl.id (sl.off + i.toNat * 9 + 1 + 1 + 1 + 1 + 1 + 1 + 1 + 1) = some (.int .i64 (atE L i).F) := by
  obtain ⟨h1, h2⟩ := hasX_at hi
  have := gets9 h h1
  rw [h2] at this
  exact this
def Ev.acc (e : Ev) : Bool := e.K == 1 || e.K == 2
def Ev.mayE (e : Ev) : Bool := decide (e.K ≥ 1) && (decide (e.K ≤ 4) && (decide (e.T ≥ 0) && (decide (e.T ≤ 7) && (!e.acc || bits_Is e.W))))
def Ev.place (e f : Ev) : Bool := e.acc && (f.acc && (e.A == f.A && e.W == f.W))
def Ev.meets (e f : Ev) : Bool := e.acc && (f.acc && (decide (IntKind.u64.wrap (f.A - e.A) < IntKind.u64.wrap e.W) || decide (IntKind.u64.wrap (e.A - f.A) < IntKind.u64.wrap f.W)))
theorem f26_x (e : Ev) (H : Heap) : f26 e.T e.K e.A e.W e.ac e.q e.re e.ex e.F H = some (e.acc, H) := by
  rw [q26]; unfold Ev.acc; cases e.K == 1 <;> rfl
theorem f30_x (e : Ev) (H : Heap) : f30 e.T e.K e.A e.W e.ac e.q e.re e.ex e.F H = some (e.mayE, H) := by
  rw [q30, f26_x]; unfold Ev.mayE
  cases decide (e.K ≥ 1) <;> cases decide (e.K ≤ 4) <;> cases decide (e.T ≥ 0) <;> cases decide (e.T ≤ 7) <;> cases e.acc <;> rfl
theorem f27_x (e f : Ev) (H : Heap) : f27 e.T e.K e.A e.W e.ac e.q e.re e.ex e.F f.T f.K f.A f.W f.ac f.q f.re f.ex f.F H = some (e.place f, H) := by
  rw [q27, f26_x]; unfold Ev.place
  simp only [Ab.bs, f26_x]
  cases e.acc <;> cases f.acc <;> cases e.A == f.A <;> rfl
theorem f39_x (e f : Ev) (H : Heap) : f39 e.T e.K e.A e.W e.ac e.q e.re e.ex e.F f.T f.K f.A f.W f.ac f.q f.re f.ex f.F H = some (e.meets f, H) := by
  rw [q39, f26_x]; unfold Ev.meets
  simp only [Ab.bs, f26_x]
  cases e.acc <;> cases f.acc <;> cases decide (IntKind.u64.wrap (f.A - e.A) < IntKind.u64.wrap e.W) <;> rfl
theorem f31_x {H : Heap} {s0 s1 s2 s3 : Option Sl} {L : List Ev} (h : RS 9 E9 H s0 L) (i : Int) (G : Heap) : f31 s0 s1 s2 s3 i G = some (hasX L i, G) := by
  rw [q31, h.slenEq]; unfold hasX; cases decide (i ≥ 0) <;> rfl

/-! maps by whole numbers -/
def IM {β : Type} (V : β → TV) (H : Heap) (m : Nat) (l : List (Int × β)) : Prop := ∃ es c, H[m]? = some (.map es c) ∧ es.map (fun e => (e.1, e.2.1)) = l.map fun p => (Cell.int .i64 p.1, V p.2)
theorem findKey_int {β : Type} (V : β → TV) (k : Int) : ∀ (es : List (Cell × TV × Nat)) (l : List (Int × β)) (n : Nat), es.map (fun e => (e.1, e.2.1)) = l.map (fun p => (Cell.int .i64 p.1, V p.2)) →
    ∃ j : Nat, findKey (.int .i64 k) es n = some (match l.lookup k with | some b => some (j, V b) | none => none)
  | [], [], n, _ => ⟨0, rfl⟩
  | [], _ :: _, n, h => by simp at h
  | _ :: _, [], n, h => by simp at h
  | e :: es, p :: l, n, h => by
    simp only [List.map_cons, List.cons.injEq, Prod.mk.injEq] at h
    obtain ⟨⟨h1, h2⟩, h3⟩ := h
    obtain ⟨j, ih⟩ := findKey_int V k es l (n + 1) h3
    unfold findKey
    rw [h1, List.lookup_cons]
    show ∃ j : Nat, (match (bif IntKind.i64 == IntKind.i64 then some (k == p.1) else none) with | some true => some (some (n, e.2.1)) | some false => findKey (.int .i64 k) es (n + 1) | none => none) = _
    rw [show (IntKind.i64 == IntKind.i64) = true from rfl, cond_true]
    by_cases hk : k = p.1
    · subst hk
      exact ⟨n, by simp [h2]⟩
    · have : (k == p.1) = false := by simp [hk]
      rw [this]
      exact ⟨j, ih⟩
theorem IM.find {β : Type} {V : β → TV} {H : Heap} {m : Nat} {l : List (Int × β)} (h : IM V H m l) (k : Int) (z : TV) : H.find (some m) (.int .i64 k) z = some (match l.lookup k with | some b => (V b, true) | none => (z, false)) := by
  obtain ⟨es, c, h1, h2⟩ := h
  obtain ⟨j, h3⟩ := findKey_int V k es l 0 h2
  unfold Heap.find Heap.findAt
  simp only [h1, h3]
  cases l.lookup k <;> rfl
theorem IM.put {β : Type} {V : β → TV} {H : Heap} {m : Nat} {l : List (Int × β)} (h : IM V H m l) (k : Int) (b : β) (hk : l.lookup k = none) : ∃ H', H.mapPut (some m) (.int .i64 k) (V b) = some H' ∧ IM V H' m (l ++ [(k, b)]) ∧ Kp (One m) H H' ∧ H'.length = H.length := by
  obtain ⟨es, c, h1, h2⟩ := h
  obtain ⟨j, h3⟩ := findKey_int V k es l 0 h2
  rw [hk] at h3
  refine ⟨_, by unfold Heap.mapPut; simp only [h1, h3]; rfl, ⟨_, _, set_get' (lt_of h1), by simp [h2]⟩, Kp.set _ _ _, by simp⟩
theorem IM.len {β : Type} {V : β → TV} {H : Heap} {m : Nat} {l : List (Int × β)} (h : IM V H m l) : H.mapLen (some m) = some (l.length : Int) := by
  obtain ⟨es, c, h1, h2⟩ := h
  unfold Heap.mapLen
  have := congrArg List.length h2
  simp only [List.length_map] at this
  simp only [h1, this]
theorem IM.kp {β : Type} {V : β → TV} {F : Nat → Prop} {H H' : Heap} {m : Nat} {l : List (Int × β)} (h : IM V H m l) (k : Kp F H H') (hn : ¬ F m) : IM V H' m l := by
  obtain ⟨es, c, h1, h2⟩ := h
  exact ⟨es, c, k.at h1 hn, h2⟩
theorem IM.new {β : Type} (V : β → TV) {H : Heap} {m : Nat} (h : H[m]? = some (.map [] 0)) : IM V H m [] := ⟨[], 0, h, rfl⟩
theorem lookup_keys {β : Type} (k : Int) : ∀ l : List (Int × β), l.lookup k = none ↔ k ∉ l.map (·.1)
  | [] => by simp
  | p :: l => by
    rw [List.lookup_cons, List.map_cons, List.mem_cons]
    by_cases h : k = p.1
    · subst h; simp
    · have : (k == p.1) = false := by simp [h]
      simp only [this, h, false_or]
      exact lookup_keys k l
/-- An execution, and its slices. -/
structure Ex where
  L : List Ev
  Rf : List Int
  Co : List Int
  Ad : List (Int × Int)
structure XS where
  l : Option Sl
  r : Option Sl
  c : Option Sl
  e : Option Sl
structure RX (H : Heap) (s : XS) (x : Ex) : Prop where
  l : RS 9 E9 H s.l x.L
  r : RS 1 EI H s.r x.Rf
  c : RS 1 EI H s.c x.Co
  e : RS 2 EP H s.e x.Ad
  bl : x.L.length < 1000
  br : x.Rf.length < 1000
  bc : x.Co.length < 1000
  be : x.Ad.length < 1000
theorem RX.no {H H' : Heap} {s : XS} {x : Ex} (h : RX H s x) (k : Kp No H H') : RX H' s x := ⟨h.l.no k, h.r.no k, h.c.no k, h.e.no k, h.bl, h.br, h.bc, h.be⟩

/-! Co has each Write once -/
def nWrites (L : List Ev) : Nat := (L.filter fun e => e.K == 2).length
def seenOk (L : List Ev) : List Int → List Int → Bool
  | [], d => (nWrites L : Int) == (d.length : Int)
  | i :: r, d => hasX L i && ((atE L i).K == 2 && (!d.contains i && seenOk L r (d ++ [i])))
def VT (_ : Unit) : TV := .c (.bool true)
def dones (d : List Int) : List (Int × Unit) := d.map fun i => (i, ())
theorem dones_look (d : List Int) (i : Int) : (dones d).lookup i = bif d.contains i then some () else none := by
  cases h : d.contains i with
  | false =>
    rw [cf, lookup_keys]; simp [dones] at h ⊢; exact h
  | true =>
    rw [ct]
    cases h2 : (dones d).lookup i with
    | some u => rfl
    | none =>
      rw [lookup_keys] at h2; simp [dones] at h h2; exact absurd h h2
theorem loop32b {H : Heap} {s : XS} {x : Ex} (h : RX H s x) (t : Option Nat) : ∀ (m n i : Nat) (k : Nat), i + m = x.L.length → k ≤ i →
    (D32_11 (n + m + 1) t (k : Int) s.l (x.L.length : Int) (i : Int) H).bind J32_11 = (H.mapLen t).bind fun v => some (((k + nWrites (x.L.drop i) : Nat) : Int) == v, H)
  | 0, n, i, k, hm, hk => by
    have g : decide ((i : Int) < (x.L.length : Int)) = false := by simp; omega
    rw [D32_11_s, g, cf, Ab.bs, J32_11_0, List.drop_eq_nil_of_le (by omega)]
    rfl
  | m + 1, n, i, k, hm, hk => by
    have g : decide ((i : Int) < (x.L.length : Int)) = true := by simp; omega
    have hi : i < x.L.length := by omega
    obtain ⟨sl, e0, g1, c0, c1, c2, c3, c4, c5, c6, c7, c8⟩ := gets9 h.l (List.getElem?_eq_getElem hi)
    have hb := h.bl
    have ih := loop32b h t m n (i + 1)
    rw [show n + (m + 1) + 1 = (n + m + 1) + 1 by omega, D32_11_s, g, ct, e0]
    rw [e0] at ih
    simp only [ct, Ab.bs, g1, c0, c1, c2, c3, c4, c5, c6, c7, c8, tInt, tBool, i64_succ i (by omega), i64_succ k (by omega)]
    rw [List.drop_eq_getElem_cons hi]
    unfold nWrites
    rw [List.filter_cons]
    cases hk2 : x.L[i].K == 2
    · rw [cf, ih k (by omega) (by omega)]; rfl
    · rw [ct, ih (k + 1) (by omega) (by omega), if_pos rfl, List.length_cons]
      unfold nWrites
      rw [show k + 1 + (List.filter (fun e => e.K == 2) (List.drop (i + 1) x.L)).length = k + ((List.filter (fun e => e.K == 2) (List.drop (i + 1) x.L)).length + 1) by omega]
theorem loop32a {s : XS} {x : Ex} {H0 : Heap} (h0 : RX H0 s x) (M : Nat) (hM0 : H0.length ≤ M) : ∀ (m n i : Nat) (d : List Int) (H : Heap), Kp No H0 H → i + m = x.Co.length → IM VT H M (dones d) →
    ∃ H', (D32_3 (n + m + 1) (some M) s.c (x.Co.length : Int) (i : Int) s.l s.r s.c s.e H).bind J32_3 = some (seenOk x.L (x.Co.drop i) d, H') ∧ Kp No H0 H'
  | 0, n, i, d, H, k0, hm, hM => by
    have h := h0.no k0
    have g : decide ((i : Int) < (x.Co.length : Int)) = false := by simp; omega
    refine ⟨H, ?_, k0⟩
    obtain ⟨q, e⟩ := LL32_11_of x.L.length (by have := h.bl; omega) (some M) 0 s.l (slen s.l) 0 H
    have := loop32b h (some M) x.L.length q 0 0 (Nat.zero_add _) (Nat.le_refl _)
    rw [D32_3_s, g, cf, Ab.bs, J32_3_1, e, h.l.slenEq, show (0 : Int) = ((0 : Nat) : Int) from rfl, this, hM.len, show List.drop i x.Co = [] from List.drop_eq_nil_of_le (by omega), Ab.bs, List.drop_zero, Nat.zero_add]
    simp [seenOk, dones]
  | m + 1, n, i, d, H, k0, hm, hM => by
    have h := h0.no k0
    have g : decide ((i : Int) < (x.Co.length : Int)) = true := by simp; omega
    have hi : i < x.Co.length := by omega
    obtain ⟨sl, e0, g1, c0⟩ := gets1 h.c (List.getElem?_eq_getElem hi)
    have hb := h.bc
    rw [show n + (m + 1) + 1 = (n + m + 1) + 1 by omega, D32_3_s, g, ct, List.drop_eq_getElem_cons hi]
    unfold seenOk
    rw [show s.c.bind = (some sl).bind (β := AExit × St) by rw [e0]]
    simp only [ct, Ab.bs, g1, c0, tInt, f31_x h.l]
    cases h1 : hasX x.L x.Co[i] with
    | false => exact ⟨H, by rw [Bool.not_false, ct, Ab.bs, J32_3_0]; rfl, k0⟩
    | true =>
      rw [Bool.not_true, cf]
      obtain ⟨sl2, e2, k1, d0, d1, d2, d3, d4, d5, d6, d7, d8⟩ := getsE h.l h1
      rw [show s.l.bind = (some sl2).bind (β := AExit × St) by rw [e2]]
      simp only [ct, Ab.bs, k1, d1, tInt, bne]
      cases h2 : (atE x.L x.Co[i]).K == 2 with
      | false => exact ⟨H, by rw [Bool.not_false, ct, Ab.bs, J32_3_0]; rfl, k0⟩
      | true =>
        rw [Bool.not_true, cf, hM.find, Ab.bs, dones_look]
        cases h3 : d.contains x.Co[i] with
        | true => exact ⟨H, by simp only [ct, cf, VT, TV.cell, Ab.bs, tBool, J32_3_0]; rfl, k0⟩
        | false =>
          simp only [ct, cf, TV.cell, Ab.bs, tBool]
          obtain ⟨H', e3, e4, e5, e6⟩ := hM.put x.Co[i] () (by rw [dones_look, h3, cf])
          have e3' : H.mapPut (some M) (Cell.int IntKind.i64 x.Co[i]) (TV.c (Cell.bool true)) = some H' := e3
          rw [e3', Ab.bs, i64_succ i (by omega)]
          obtain ⟨H2, r1, r2⟩ := loop32a h0 M hM0 m n (i + 1) (d ++ [x.Co[i]]) H' (k0.trSet e5 hM0) (by omega) (by simpa [dones] using e4)
          refine ⟨H2, ?_, r2⟩
          rw [e0] at r1 ⊢
          rw [r1]; rfl
theorem f32_x {H : Heap} {s : XS} {x : Ex} (h : RX H s x) : Says (f32 s.l s.r s.c s.e H) H (seenOk x.L x.Co []) := by
  rw [q32]
  obtain ⟨n, e⟩ := LL32_3_of x.Co.length (by have := h.bc; omega) (some H.length) s.c (slen s.c) 0 s.l s.r s.c s.e (H ++ [Blk.map [] 0])
  obtain ⟨H', r1, r2⟩ := loop32a h H.length (Nat.le_refl _) x.Co.length n 0 [] (H ++ [Blk.map [] 0]) (Kp.push1 _ _) (by omega) (IM.new VT (push_get _ _))
  rw [e, h.c.slenEq, show (0 : Int) = ((0 : Nat) : Int) from rfl, r1]
  exact ⟨H', rfl, r2⟩
def allFrom {α : Type} (p : Nat → α → Bool) : List α → Nat → Bool
  | [], _ => true
  | a :: l, i => p i a && allFrom p l (i + 1)
/-- Is a Read from a Write of its place, or from none? -/
def rdOk (L : List Ev) (i : Nat) (w : Int) : Bool := w == -1 || (hasX L w && ((atE L i).K == 1 && ((atE L w).K == 2 && (atE L i).place (atE L w))))
theorem hasX_nat {L : List Ev} {i : Nat} (h : i < L.length) : hasX L (i : Int) = true := by simp [hasX, h]
theorem atE_nat {L : List Ev} {i : Nat} (h : i < L.length) : atE L (i : Int) = L[i] := by simp [atE, h]
theorem loop33 {H : Heap} {s : XS} {x : Ex} (h : RX H s x) (hl : x.Rf.length = x.L.length) : ∀ (m n i : Nat), i + m = x.Rf.length →
    (D33_4 (n + m + 1) s.r (x.Rf.length : Int) (i : Int) s.l s.r s.c s.e H).bind J33_4 = some (allFrom (rdOk x.L) (x.Rf.drop i) i, H)
  | 0, n, i, hm => by
    have g : decide ((i : Int) < (x.Rf.length : Int)) = false := by simp; omega
    rw [D33_4_s, g, cf, Ab.bs, J33_4_1, List.drop_eq_nil_of_le (by omega)]; rfl
  | m + 1, n, i, hm => by
    have g : decide ((i : Int) < (x.Rf.length : Int)) = true := by simp; omega
    have hi : i < x.Rf.length := by omega
    have hb := h.br
    obtain ⟨sl, e0, g1, c0⟩ := gets1 h.r (List.getElem?_eq_getElem hi)
    have ih := loop33 h hl m n (i + 1) (by omega)
    rw [show n + (m + 1) + 1 = (n + m + 1) + 1 by omega, D33_4_s, g, ct, List.drop_eq_getElem_cons hi]
    rw [e0] at ih ⊢
    unfold allFrom rdOk
    simp only [ct, Ab.bs, g1, c0, tInt, f31_x h.l, i64_succ i (by omega)]
    cases h0 : x.Rf[i] == -1 with
    | true => rw [ct, ih]; rfl
    | false =>
      rw [cf]
      cases h1 : hasX x.L x.Rf[i] with
      | false => rw [Bool.not_false, ct, Ab.bs, J33_4_0]; rfl
      | true =>
        rw [Bool.not_true, cf]
        obtain ⟨sl2, e2, k1, d0, d1, d2, d3, d4, d5, d6, d7, d8⟩ := getsE h.l h1
        obtain ⟨sl3, e3, k3, b0, b1, b2, b3, b4, b5, b6, b7, b8⟩ := getsE h.l (hasX_nat (L := x.L) (i := i) (by omega))
        rw [e2] at e3; cases e3
        rw [e2] at ih ⊢
        simp only [ct, Ab.bs, k1, k3, d0, d1, d2, d3, d4, d5, d6, d7, d8, b0, b1, b2, b3, b4, b5, b6, b7, b8, tInt, tBool, bne, f27_x]
        cases (atE x.L (i : Int)).K == 1
        · rw [Bool.not_false, ct, Ab.bs, J33_4_0]; rfl
        · rw [Bool.not_true, cf]
          cases (atE x.L x.Rf[i]).K == 2
          · rw [Bool.not_false, ct, Ab.bs, J33_4_0]; rfl
          · rw [Bool.not_true, cf]
            cases (atE x.L (i : Int)).place (atE x.L x.Rf[i])
            · rw [Bool.not_false, ct, Ab.bs, J33_4_0]; rfl
            · rw [Bool.not_true, cf, ih]; rfl
def readsX (x : Ex) : Bool := x.Rf.length == x.L.length && allFrom (rdOk x.L) x.Rf 0
theorem f33_x {H : Heap} {s : XS} {x : Ex} (h : RX H s x) : f33 s.l s.r s.c s.e H = some (readsX x, H) := by
  rw [q33, h.l.slenEq, h.r.slenEq]
  unfold readsX
  by_cases hl : x.Rf.length = x.L.length
  · have e1 : ((x.Rf.length : Int) != (x.L.length : Int)) = false := by simp [hl]
    obtain ⟨n, e⟩ := LL33_4_of x.Rf.length (by have := h.br; omega) s.r (x.Rf.length : Int) 0 s.l s.r s.c s.e H
    have := loop33 h hl x.Rf.length n 0 (by omega)
    rw [e1, cf, e, show (0 : Int) = ((0 : Nat) : Int) from rfl, this]
    simp [hl]
  · have e1 : ((x.Rf.length : Int) != (x.L.length : Int)) = true := by simp; omega
    rw [e1, ct]; simp [hl]

/-! alike -/
def alikeX (L : List Ev) : Bool := allFrom (fun i e => allFrom (fun _ f => !e.meets f || e.place f) (L.take i) 0) L 0
theorem loop34b {H : Heap} (e : Ev) (t8 : Option Sl) (t9 : Int) (i : Nat) (l0 l1 l2 l3 : Option Sl) (N : Nat) (s : Option Sl) (l : List Ev) (h : RS 9 E9 H s l) (hb : l.length < 1000) : ∀ (m n j : Nat), j + m = l.length →
    (D34_5 (n + m + 1) t8 t9 (i : Int) s (l.length : Int) (j : Int) l0 l1 l2 l3 e.T e.K e.A e.W e.ac e.q e.re e.ex e.F H).bind (J34_5 N) =
      bif allFrom (fun _ f => !e.meets f || e.place f) (l.drop j) j then D34_2 N t8 t9 (IntKind.i64.wrap ((i : Int) + 1)) l0 l1 l2 l3 H else some (.ret, X34_2a false H)
  | 0, n, j, hm => by
    have g : decide ((j : Int) < (l.length : Int)) = false := by simp; omega
    rw [D34_5_s, g, cf, Ab.bs, J34_5_1, List.drop_eq_nil_of_le (by omega)]; rfl
  | m + 1, n, j, hm => by
    have g : decide ((j : Int) < (l.length : Int)) = true := by simp; omega
    have hi : j < l.length := by omega
    obtain ⟨sl, e0, g1, c0, c1, c2, c3, c4, c5, c6, c7, c8⟩ := gets9 h (List.getElem?_eq_getElem hi)
    have ih := loop34b e t8 t9 i l0 l1 l2 l3 N s l h hb m n (j + 1) (by omega)
    rw [show n + (m + 1) + 1 = (n + m + 1) + 1 by omega, D34_5_s, g, ct, List.drop_eq_getElem_cons hi]
    rw [e0] at ih ⊢
    unfold allFrom
    simp only [ct, Ab.bs, g1, c0, c1, c2, c3, c4, c5, c6, c7, c8, tInt, tBool, f39_x, i64_succ j (by omega)]
    cases e.meets l[j]
    · rw [cf, ih]; rfl
    · rw [ct, f27_x, Ab.bs]
      dsimp only
      cases e.place l[j]
      · rw [Bool.not_false, ct, Ab.bs, J34_5_0]; rfl
      · rw [Bool.not_true, cf, ih]; rfl
theorem loop34a {H : Heap} {s : XS} {x : Ex} (h : RX H s x) : ∀ (m n i : Nat), i + m = x.L.length →
    (D34_2 (n + m + 1) s.l (x.L.length : Int) (i : Int) s.l s.r s.c s.e H).bind J34_2 = some (allFrom (fun i e => allFrom (fun _ f => !e.meets f || e.place f) (x.L.take i) 0) (x.L.drop i) i, H)
  | 0, n, i, hm => by
    have g : decide ((i : Int) < (x.L.length : Int)) = false := by simp; omega
    rw [D34_2_s, g, cf, Ab.bs, J34_2_0, List.drop_eq_nil_of_le (by omega)]; rfl
  | m + 1, n, i, hm => by
    have g : decide ((i : Int) < (x.L.length : Int)) = true := by simp; omega
    have hi : i < x.L.length := by omega
    have hb := h.bl
    obtain ⟨sl, e0, g1, c0, c1, c2, c3, c4, c5, c6, c7, c8⟩ := gets9 h.l (List.getElem?_eq_getElem hi)
    have ih := loop34a h m n (i + 1) (by omega)
    obtain ⟨s', u1, u2, u3⟩ := h.l.sub0 E9_len i (by omega)
    have hes : esOk s.l 9 = true := by
      have := h.l
      rw [e0] at this ⊢
      simpa [esOk] using this.2.1
    rw [show n + (m + 1) + 1 = (n + m + 1) + 1 by omega, D34_2_s, g, ct, List.drop_eq_getElem_cons hi]
    rw [u1, hes]
    rw [show s.l.bind = (some sl).bind (β := AExit × St) by rw [e0]]
    unfold allFrom
    simp only [ct, Ab.bs, g1, c0, c1, c2, c3, c4, c5, c6, c7, c8, tInt, tBool]
    have hlt : (x.L.take i).length < 1000 := by rw [List.length_take]; omega
    obtain ⟨q, e⟩ := LL34_5_of (x.L.take i).length (by omega) s.l (x.L.length : Int) (i : Int) s' (slen s') 0 s.l s.r s.c s.e x.L[i].T x.L[i].K x.L[i].A x.L[i].W x.L[i].ac x.L[i].q x.L[i].re x.L[i].ex x.L[i].F H
    have := loop34b x.L[i] s.l (x.L.length : Int) i s.l s.r s.c s.e (n + m + 1) s' (x.L.take i) u2 hlt (x.L.take i).length q 0 (by omega)
    rw [e, u2.slenEq, show (0 : Int) = ((0 : Nat) : Int) from rfl, this, List.drop_zero, i64_succ i (by omega)]
    cases allFrom (fun _ f => !x.L[i].meets f || x.L[i].place f) (x.L.take i) 0
    · rw [cf, Ab.bs, J34_2_1]; rfl
    · rw [ct, ih]; rfl
theorem f34_x {H : Heap} {s : XS} {x : Ex} (h : RX H s x) : f34 s.l s.r s.c s.e H = some (alikeX x.L, H) := by
  rw [q34, h.l.slenEq]
  obtain ⟨n, e⟩ := LL34_2_of x.L.length (by have := h.bl; omega) s.l (x.L.length : Int) 0 s.l s.r s.c s.e H
  have := loop34a h x.L.length n 0 (by omega)
  rw [e, show (0 : Int) = ((0 : Nat) : Int) from rfl, this]
  rfl

/-! May -/
def mayX (x : Ex) : Bool := decide (x.L.length ≤ 400) && (x.L.all Ev.mayE && (x.Ad.all (fun p => hasX x.L p.1 && hasX x.L p.2) && (seenOk x.L x.Co [] && (readsX x && alikeX x.L))))
theorem loop18b {H : Heap} {s : XS} {x : Ex} (h : RX H s x) : ∀ (m n i : Nat), i + m = x.Ad.length →
    Says ((D18_10 (n + m + 1) s.e (x.Ad.length : Int) (i : Int) s.l s.r s.c s.e H).bind J18_10) H ((x.Ad.drop i).all (fun p => hasX x.L p.1 && hasX x.L p.2) && (seenOk x.L x.Co [] && (readsX x && alikeX x.L)))
  | 0, n, i, hm => by
    have g : decide ((i : Int) < (x.Ad.length : Int)) = false := by simp; omega
    rw [D18_10_s, g, cf, Ab.bs, J18_10_1, List.drop_eq_nil_of_le (by omega)]
    refine says_bind (f32_x h) fun H1 k1 => ?_
    have h1 := h.no k1
    simp only [f33_x h1, f34_x h1, Ab.bs]
    cases seenOk x.L x.Co [] <;> cases readsX x <;> exact says_ret rfl
  | m + 1, n, i, hm => by
    have g : decide ((i : Int) < (x.Ad.length : Int)) = true := by simp; omega
    have hi : i < x.Ad.length := by omega
    have hb := h.be
    obtain ⟨sl, e0, g1, c0, c1⟩ := gets2 h.e (List.getElem?_eq_getElem hi)
    have ih := loop18b h m n (i + 1) (by omega)
    rw [show n + (m + 1) + 1 = (n + m + 1) + 1 by omega, D18_10_s, g, ct, List.drop_eq_getElem_cons hi, List.all_cons]
    rw [e0] at ih ⊢
    simp only [ct, Ab.bs, g1, c0, c1, tInt, f31_x h.l, i64_succ i (by omega)]
    cases hasX x.L x.Ad[i].1
    · rw [Bool.not_false, ct, Ab.bs, J18_10_0]; exact says_ret rfl
    · rw [Bool.not_true, cf]
      cases hasX x.L x.Ad[i].2
      · rw [Bool.not_false, ct, Ab.bs, J18_10_0]; exact says_ret rfl
      · rw [Bool.not_true, cf]; exact ih
theorem loop18a {H : Heap} {s : XS} {x : Ex} (h : RX H s x) : ∀ (m n i : Nat), i + m = x.L.length →
    Says ((D18_4 (n + m + 1) s.l (x.L.length : Int) (i : Int) s.l s.r s.c s.e H).bind J18_4) H ((x.L.drop i).all Ev.mayE && (x.Ad.all (fun p => hasX x.L p.1 && hasX x.L p.2) && (seenOk x.L x.Co [] && (readsX x && alikeX x.L))))
  | 0, n, i, hm => by
    have g : decide ((i : Int) < (x.L.length : Int)) = false := by simp; omega
    rw [D18_4_s, g, cf, Ab.bs, J18_4_1, List.drop_eq_nil_of_le (by omega)]
    obtain ⟨n, e⟩ := LL18_10_of x.Ad.length (by have := h.be; omega) s.e (x.Ad.length : Int) 0 s.l s.r s.c s.e H
    have := loop18b h x.Ad.length n 0 (by omega)
    rw [h.e.slenEq, e]
    exact this
  | m + 1, n, i, hm => by
    have g : decide ((i : Int) < (x.L.length : Int)) = true := by simp; omega
    have hi : i < x.L.length := by omega
    have hb := h.bl
    obtain ⟨sl, e0, g1, c0, c1, c2, c3, c4, c5, c6, c7, c8⟩ := gets9 h.l (List.getElem?_eq_getElem hi)
    have ih := loop18a h m n (i + 1) (by omega)
    rw [show n + (m + 1) + 1 = (n + m + 1) + 1 by omega, D18_4_s, g, ct, List.drop_eq_getElem_cons hi, List.all_cons]
    rw [e0] at ih ⊢
    simp only [ct, Ab.bs, g1, c0, c1, c2, c3, c4, c5, c6, c7, c8, tInt, tBool, f30_x, i64_succ i (by omega)]
    cases x.L[i].mayE
    · rw [Bool.not_false, ct, Ab.bs, J18_4_0]; exact says_ret rfl
    · rw [Bool.not_true, cf]; exact ih
theorem f18_x {H : Heap} {s : XS} {x : Ex} (h : RX H s x) : Says (f18 s.l s.r s.c s.e H) H (mayX x) := by
  rw [q18, h.l.slenEq]
  unfold mayX
  by_cases hl : x.L.length ≤ 400
  · rw [show decide ((x.L.length : Int) > 400) = false by simp; omega, cf, show decide (x.L.length ≤ 400) = true by simp [hl], Bool.true_and]
    obtain ⟨n, e⟩ := LL18_4_of x.L.length (by have := h.bl; omega) s.l (x.L.length : Int) 0 s.l s.r s.c s.e H
    have := loop18a h x.L.length n 0 (by omega)
    rw [e]; exact this
  · rw [show decide ((x.L.length : Int) > 400) = true by simp; omega, ct, show decide (x.L.length ≤ 400) = false by simp [hl], Bool.false_and]
    exact says_ret rfl
end
end Go.Proofs.Ythakpjkmianglaa
