/- Layer 28: what is ahead of what, as the program says it. -/
import Derived.Test.YthakpjkmianglaaCaA
namespace Go.Proofs.Ythakpjkmianglaa
open Go Go.Proofs.Ythakpjkmianglaa.Ab
set_option linter.unusedVariables false
set_option linter.unusedSimpArgs false
set_option maxRecDepth 100000
noncomputable section
def VI (n : Int) : TV := .c (.int .i64 n)
/-- Where the Writes stand in Co. -/
def coFrom : List Int → Nat → List (Int × Int)
  | [], _ => []
  | i :: l, k => (i, (k : Int)) :: coFrom l (k + 1)
def atX (x : Ex) (i : Int) : Int := ((coFrom x.Co 0).lookup i).getD 0
/-- The pairs' reads, as they are found: the last exclusive access of each thread. -/
def stepP (L : List Ev) (i : Nat) (e : Ev) (last : List Int) : Int × List Int :=
  bif e.ex && e.acc then
    (bif e.K == 2 && (decide ((last[e.T.toNat]?).getD 0 ≥ 0) && ((atE L ((last[e.T.toNat]?).getD 0)).K == 1 && (atE L ((last[e.T.toNat]?).getD 0)).place e)) then (last[e.T.toNat]?).getD 0 else -1, last.set e.T.toNat (i : Int))
  else (-1, last)
def pairsFrom (L : List Ev) : List Ev → Nat → List Int → List Int
  | [], _, _ => []
  | e :: r, i, last => (stepP L i e last).1 :: pairsFrom L r (i + 1) (stepP L i e last).2
def last0 : List Int := List.replicate 8 (-1)
def pairsX (x : Ex) : List Int := pairsFrom x.L x.L 0 last0
theorem pairsFrom_length (L : List Ev) : ∀ (l : List Ev) (i : Nat) (last : List Int), (pairsFrom L l i last).length = l.length
  | [], _, _ => rfl
  | e :: r, i, last => by simp [pairsFrom, pairsFrom_length L r]
/-- A world that can be read. -/
structure WR (H : Heap) (b : Nat) (s : XS) (x : Ex) (co : List (Int × Int)) (pr : List Int) (m : Nat) (ps : Option Sl) : Prop where
  hd : H[b]? = some (.row [.slice s.l, .slice s.r, .slice s.c, .slice s.e, .map (some m), .slice ps] false)
  at_ : IM VI H m co
  pr : RS 1 EI H ps pr
  x : RX H s x
theorem WR.no {H H' : Heap} {b : Nat} {s : XS} {x : Ex} {co : List (Int × Int)} {pr : List Int} {m : Nat} {ps : Option Sl} (h : WR H b s x co pr m ps) (k : Kp No H H') : WR H' b s x co pr m ps :=
  ⟨k.bk h.hd, h.at_.kp k fun h => h, h.pr.no k, h.x.no k⟩
def World (H : Heap) (b : Nat) (s : XS) (x : Ex) : Prop := ∃ m ps, WR H b s x (coFrom x.Co 0) (pairsX x) m ps
theorem World.no {H H' : Heap} {b : Nat} {s : XS} {x : Ex} (h : World H b s x) (k : Kp No H H') : World H' b s x := by
  obtain ⟨m, ps, h⟩ := h
  exact ⟨m, ps, h.no k⟩
section
variable {H : Heap} {b : Nat} {s : XS} {x : Ex} {co : List (Int × Int)} {pr : List Int} {m : Nat} {ps : Option Sl}
theorem WR.g (h : WR H b s x co pr m ps) : H.get b 0 = some (.slice s.l) ∧ H.get b 1 = some (.slice s.r) ∧ H.get b 3 = some (.slice s.e) ∧ H.get b 4 = some (.map (some m)) ∧ H.get b 5 = some (.slice ps) := by
  refine ⟨?_, ?_, ?_, ?_, ?_⟩ <;> (rw [get_of h.hd]; rfl)
end
/-- A number of a list, by a whole number. -/
def atI (l : List Int) (i : Int) : Int := (l[i.toNat]?).getD 0
theorem getsI {H : Heap} {s : Option Sl} {l : List Int} {L : List Ev} (h : RS 1 EI H s l) {i : Int} (hl : l.length = L.length) (hi : hasX L i = true) :
    ∃ sl, s = some sl ∧ (inb i sl.len && sl.esz == 1) = true ∧ H.get sl.id (sl.off + i.toNat * 1) = some (.int .i64 (atI l i)) := by
  unfold hasX at hi
  simp only [Bool.and_eq_true, decide_eq_true_eq] at hi
  have h1 : l[i.toNat]? = some (atI l i) := by
    have hi : i.toNat < l.length := by omega
    unfold atI; rw [List.getElem?_eq_getElem hi]; rfl
  have := gets1 h h1
  rw [show ((i.toNat : Nat) : Int) = i by omega] at this
  exact this
theorem IM.find0 {H : Heap} {m : Nat} {l : List (Int × Int)} (h : IM VI H m l) (k : Int) : H.find (some m) (.int .i64 k) (TV.c (Cell.int IntKind.i64 0)) = some (TV.c (Cell.int .i64 ((l.lookup k).getD 0)), (l.lookup k).isSome) := by
  rw [h.find]
  cases l.lookup k <;> rfl
theorem cellC (c : Cell) : (TV.c c).cell = some c := by simp [TV.cell]
def rfX (x : Ex) (i j : Int) : Bool := (atE x.L j).K == 1 && atI x.Rf j == i
def coX (x : Ex) (i j : Int) : Bool := (atE x.L i).K == 2 && ((atE x.L j).K == 2 && ((atE x.L i).place (atE x.L j) && decide (atX x i < atX x j)))
def frX (x : Ex) (i j : Int) : Bool := (atE x.L i).K == 1 && ((atE x.L j).K == 2 && ((atE x.L i).place (atE x.L j) && (decide (atI x.Rf i < 0) || decide (atX x (atI x.Rf i) < atX x j))))
def insideX (x : Ex) (i j : Int) : Bool := (decide (i < j) && ((atE x.L i).T == (atE x.L j).T && (atE x.L i).place (atE x.L j))) || (rfX x i j || (coX x i j || frX x i j))
theorem f29_x {H : Heap} {b : Nat} {s : XS} {x : Ex} (h : World H b s x) (hr : x.Rf.length = x.L.length) (i j : Int) (hj : hasX x.L j = true) : f29 (some (b, 0)) i j H = some (rfX x i j, H) := by
  obtain ⟨m, ps, h⟩ := h
  obtain ⟨w0, w1, w3, w4, w5⟩ := h.g
  rw [q29]
  obtain ⟨sl, e0, g1, c0, c1, c2, c3, c4, c5, c6, c7, c8⟩ := getsE h.x.l hj
  obtain ⟨sl2, e2, g2, d0⟩ := getsI h.x.r hr hj
  rw [e0] at w0; rw [e2] at w1
  simp only [az, za, Ab.bs, w0, w1, tSlice, ct, g1, g2, c1, d0, tInt]
  unfold rfX
  cases (atE x.L j).K == 1 <;> rfl
theorem f25_x {H : Heap} {b : Nat} {s : XS} {x : Ex} (h : World H b s x) (i j : Int) (hi : hasX x.L i = true) (hj : hasX x.L j = true) : f25 (some (b, 0)) i j H = some (coX x i j, H) := by
  obtain ⟨m, ps, h⟩ := h
  obtain ⟨w0, w1, w3, w4, w5⟩ := h.g
  rw [q25]
  obtain ⟨sl, e0, g1, c0, c1, c2, c3, c4, c5, c6, c7, c8⟩ := getsE h.x.l hi
  obtain ⟨sl2, e2, g2, d0, d1, d2, d3, d4, d5, d6, d7, d8⟩ := getsE h.x.l hj
  rw [e0] at w0 e2; cases e2
  simp only [az, za, Ab.bs, w0, w4, tSlice, tMap, ct, g1, g2, c0, c1, c2, c3, c4, c5, c6, c7, c8, d0, d1, d2, d3, d4, d5, d6, d7, d8, tInt, tBool, f27_x, h.at_.find0, cellC]
  unfold coX atX
  cases (atE x.L i).K == 2 <;> cases (atE x.L j).K == 2 <;> cases (atE x.L i).place (atE x.L j) <;> rfl
theorem f24_x {H : Heap} {b : Nat} {s : XS} {x : Ex} (h : World H b s x) (hr : x.Rf.length = x.L.length) (i j : Int) (hi : hasX x.L i = true) (hj : hasX x.L j = true) : f24 (some (b, 0)) i j H = some (frX x i j, H) := by
  obtain ⟨m, ps, h⟩ := h
  obtain ⟨w0, w1, w3, w4, w5⟩ := h.g
  rw [q24]
  obtain ⟨sl, e0, g1, c0, c1, c2, c3, c4, c5, c6, c7, c8⟩ := getsE h.x.l hi
  obtain ⟨sl2, e2, g2, d0, d1, d2, d3, d4, d5, d6, d7, d8⟩ := getsE h.x.l hj
  obtain ⟨sl3, e3, g3, b0⟩ := getsI h.x.r hr hi
  rw [e0] at w0 e2; cases e2
  rw [e3] at w1
  simp only [az, za, Ab.bs, w0, w1, w4, tSlice, tMap, ct, g1, g2, g3, c0, c1, c2, c3, c4, c5, c6, c7, c8, d0, d1, d2, d3, d4, d5, d6, d7, d8, b0, tInt, tBool, bne, f27_x, h.at_.find0, cellC]
  unfold frX atX
  cases (atE x.L i).K == 1 <;> cases (atE x.L j).K == 2 <;> cases (atE x.L i).place (atE x.L j) <;> cases decide (atI x.Rf i < 0) <;> rfl
theorem f23_x {H : Heap} {b : Nat} {s : XS} {x : Ex} (h : World H b s x) (hr : x.Rf.length = x.L.length) (i j : Int) (hi : hasX x.L i = true) (hj : hasX x.L j = true) : f23 (some (b, 0)) i j H = some (insideX x i j, H) := by
  have hW := h
  obtain ⟨m, ps, h⟩ := h
  obtain ⟨w0, w1, w3, w4, w5⟩ := h.g
  rw [q23]
  obtain ⟨sl, e0, g1, c0, c1, c2, c3, c4, c5, c6, c7, c8⟩ := getsE h.x.l hi
  obtain ⟨sl2, e2, g2, d0, d1, d2, d3, d4, d5, d6, d7, d8⟩ := getsE h.x.l hj
  rw [e0] at w0 e2; cases e2
  simp only [az, za, Ab.bs, w0, w1, w4, tSlice, tMap, ct, g1, g2, c0, c1, c2, c3, c4, c5, c6, c7, c8, d0, d1, d2, d3, d4, d5, d6, d7, d8, tInt, tBool, bne, f27_x, f29_x hW hr i j hj, f25_x hW i j hi hj, f24_x hW hr i j hi hj]
  unfold insideX
  cases decide (i < j) <;> cases (atE x.L i).T == (atE x.L j).T <;> cases (atE x.L i).place (atE x.L j) <;> cases rfX x i j <;> cases coX x i j <;> rfl
/-! fences -/
def barE (a b e : Ev) : Bool := e.T == a.T && (e.K == 4 || (e.K == 3 && (e.F == 1 || (e.F == 2 && a.K == 1) || (e.F == 3 && (a.K == 2 && b.K == 2)))))
def fencedX (L : List Ev) (i j : Nat) : Bool := ((L.drop (i + 1)).take (j - (i + 1))).any (barE (atE L (i : Int)) (atE L (j : Int)))
theorem loop37 {H : Heap} (a b : Ev) (s : Option Sl) (l : List Ev) (h : RS 9 E9 H s l) (hb : l.length < 1000) : ∀ (m n j : Nat), j + m = l.length →
    (D37_3 (n + m + 1) s (l.length : Int) (j : Int) a.T a.K a.A a.W a.ac a.q a.re a.ex a.F b.T b.K b.A b.W b.ac b.q b.re b.ex b.F H).bind J37_3 = some ((l.drop j).any (barE a b), H)
  | 0, n, j, hm => by
    have g : decide ((j : Int) < (l.length : Int)) = false := by simp; omega
    rw [D37_3_s, g, cf, Ab.bs, J37_3_1, List.drop_eq_nil_of_le (by omega)]; rfl
  | m + 1, n, j, hm => by
    have g : decide ((j : Int) < (l.length : Int)) = true := by simp; omega
    have hi : j < l.length := by omega
    obtain ⟨sl, e0, g1, c0, c1, c2, c3, c4, c5, c6, c7, c8⟩ := gets9 h (List.getElem?_eq_getElem hi)
    have ih := loop37 a b s l h hb m n (j + 1) (by omega)
    rw [show n + (m + 1) + 1 = (n + m + 1) + 1 by omega, D37_3_s, g, ct, List.drop_eq_getElem_cons hi, List.any_cons]
    rw [e0] at ih ⊢
    simp only [ct, Ab.bs, g1, c0, c1, c2, c3, c4, c5, c6, c7, c8, tInt, tBool, bne, i64_succ j (by omega)]
    generalize (List.drop (j + 1) l).any (barE a b) = R at ih ⊢
    unfold barE
    cases l[j].T == a.T
    · simp only [Bool.not_false, ct, ih, Bool.false_and, Bool.false_or]
    · simp only [Bool.not_true, cf, Bool.true_and]
      cases l[j].K == 4
      · simp only [cf, Bool.false_or]
        cases l[j].K == 3
        · simp only [Bool.not_false, ct, ih, Bool.false_and, Bool.false_or]
        · simp only [Bool.not_true, cf, Bool.true_and]
          cases l[j].F == 1
          · simp only [cf, Bool.false_or]
            cases l[j].F == 2 <;> cases a.K == 1 <;> cases l[j].F == 3 <;> cases a.K == 2 <;> cases b.K == 2 <;> simp only [ct, cf, ih, Ab.bs, J37_3_0, Bool.and_true, Bool.and_false, Bool.true_and, Bool.false_and, Bool.or_true, Bool.or_false, Bool.true_or, Bool.false_or]
          · simp only [ct, Ab.bs, J37_3_0, Bool.true_or]
      · simp only [ct, Ab.bs, J37_3_0, Bool.true_or]
theorem f37_x {H : Heap} {b : Nat} {s : XS} {x : Ex} (h : World H b s x) (i j : Nat) (hj : j < x.L.length) (hij : i < j) : f37 (some (b, 0)) (i : Int) (j : Int) H = some (fencedX x.L i j, H) := by
  obtain ⟨m, ps, h⟩ := h
  obtain ⟨w0, w1, w3, w4, w5⟩ := h.g
  rw [q37]
  have hb := h.x.bl
  obtain ⟨sl, e0, g1, c0, c1, c2, c3, c4, c5, c6, c7, c8⟩ := getsE h.x.l (hasX_nat (L := x.L) (i := i) (by omega))
  obtain ⟨sl2, e2, g2, d0, d1, d2, d3, d4, d5, d6, d7, d8⟩ := getsE h.x.l (hasX_nat (L := x.L) (i := j) (by omega))
  obtain ⟨s', u1, u2, u3⟩ := h.x.l.sub E9_len (i + 1) j (by omega) (by omega)
  have hes : esOk s.l 9 = true := by
    have := h.x.l
    rw [e0] at this ⊢
    simpa [esOk] using this.2.1
  rw [e0] at e2; cases e2
  rw [e0] at w0 u1 hes
  have hlt : ((x.L.drop (i + 1)).take (j - (i + 1))).length < 1000 := by rw [List.length_take, List.length_drop]; omega
  obtain ⟨q, e⟩ := LL37_3_of ((x.L.drop (i + 1)).take (j - (i + 1))).length (by omega) s' (slen s') 0 (atE x.L i).T (atE x.L i).K (atE x.L i).A (atE x.L i).W (atE x.L i).ac (atE x.L i).q (atE x.L i).re (atE x.L i).ex (atE x.L i).F (atE x.L j).T (atE x.L j).K (atE x.L j).A (atE x.L j).W (atE x.L j).ac (atE x.L j).q (atE x.L j).re (atE x.L j).ex (atE x.L j).F H
  have := loop37 (atE x.L i) (atE x.L j) s' _ u2 hlt ((x.L.drop (i + 1)).take (j - (i + 1))).length q 0 (by omega)
  rw [List.drop_zero] at this
  simp only [az, za, Ab.bs, w0, tSlice, ct, g1, g2, c0, c1, c2, c3, c4, c5, c6, c7, c8, d0, d1, d2, d3, d4, d5, d6, d7, d8, tInt, tBool, i64_succ i (by omega), u1, hes]
  rw [e, u2.slenEq, show (0 : Int) = ((0 : Nat) : Int) from rfl, this]
  rfl
def ordB (a3 b3 a4 b4 a1 ac q b2 re a2 are b1 bac bq pj pi rf fen : Bool) : Bool :=
  bif a3 || b3 then false else bif a4 || b4 then true else bif (a1 && (ac || q)) || (b2 && re) then true else bif a2 && (are && (b1 && bac)) then true else bif pj && b2 then true else bif pi && (rf && (bac || bq)) then true else fen
def orderedX (x : Ex) (i j : Nat) : Bool := ordB ((atE x.L i).K == 3) ((atE x.L j).K == 3) ((atE x.L i).K == 4) ((atE x.L j).K == 4) ((atE x.L i).K == 1) (atE x.L i).ac (atE x.L i).q ((atE x.L j).K == 2) (atE x.L j).re ((atE x.L i).K == 2) (atE x.L i).re ((atE x.L j).K == 1) (atE x.L j).ac (atE x.L j).q
  (atI (pairsX x) j == (i : Int)) (decide (atI (pairsX x) i ≥ 0)) (rfX x i j) (fencedX x.L i j)
theorem f28_x {H : Heap} {b : Nat} {s : XS} {x : Ex} (h : World H b s x) (hr : x.Rf.length = x.L.length) (i j : Nat) (hj : j < x.L.length) (hij : i < j) : f28 (some (b, 0)) (i : Int) (j : Int) H = some (orderedX x i j, H) := by
  have hW := h
  obtain ⟨m, ps, h⟩ := h
  obtain ⟨w0, w1, w3, w4, w5⟩ := h.g
  rw [q28]
  have hxi := hasX_nat (L := x.L) (i := i) (by omega)
  have hxj := hasX_nat (L := x.L) (i := j) (by omega)
  obtain ⟨sl, e0, g1, c0, c1, c2, c3, c4, c5, c6, c7, c8⟩ := getsE h.x.l hxi
  obtain ⟨sl2, e2, g2, d0, d1, d2, d3, d4, d5, d6, d7, d8⟩ := getsE h.x.l hxj
  have hpl : (pairsX x).length = x.L.length := pairsFrom_length ..
  obtain ⟨sl3, e3, g3, p0⟩ := getsI h.pr hpl hxi
  obtain ⟨sl4, e4, g4, p1⟩ := getsI h.pr hpl hxj
  rw [e0] at w0 e2; cases e2
  rw [e3] at w5 e4; cases e4
  simp only [az, za, Ab.bs, w0, w5, tSlice, ct, g1, g2, g3, g4, c0, c1, c2, c3, c4, c5, c6, c7, c8, d0, d1, d2, d3, d4, d5, d6, d7, d8, p0, p1, tInt, tBool, f29_x hW hr i j hxj, f37_x hW i j hj hij]
  unfold orderedX
  generalize ((atE x.L i).K == 3) = a3
  generalize ((atE x.L j).K == 3) = b3
  generalize ((atE x.L i).K == 4) = a4
  generalize ((atE x.L j).K == 4) = b4
  generalize ((atE x.L i).K == 1) = a1
  generalize (atE x.L i).ac = ac
  generalize (atE x.L i).q = q
  generalize ((atE x.L j).K == 2) = b2
  generalize (atE x.L j).re = re
  generalize ((atE x.L i).K == 2) = a2
  generalize (atE x.L i).re = are
  generalize ((atE x.L j).K == 1) = b1
  generalize (atE x.L j).ac = bac
  generalize (atE x.L j).q = bq
  generalize (atI (pairsX x) j == (i : Int)) = pj
  generalize decide (atI (pairsX x) i ≥ 0) = pi
  generalize rfX x i j = rf
  generalize fencedX x.L i j = fen
  cases a3
  · cases b3
    · cases a4
      · cases b4
        · cases a1 <;> cases ac <;> try rfl
          all_goals (cases q <;> try rfl)
          all_goals (cases b2 <;> cases re <;> try rfl)
          all_goals (cases a2 <;> cases are <;> try rfl)
          all_goals (cases b1 <;> cases bac <;> try rfl)
          all_goals (cases pj <;> cases pi <;> try rfl)
          all_goals (cases rf <;> try rfl)
          all_goals (cases bq <;> rfl)
        · rfl
      · rfl
    · rfl
  · rfl
def adX (x : Ex) (i j : Int) : Bool := x.Ad.any fun p => p.1 == i && p.2 == j
def aheadX (x : Ex) (i j : Nat) : Bool :=
  adX x i j || (bif (atE x.L i).T == (atE x.L j).T then decide ((i : Int) < (j : Int)) && orderedX x i j else rfX x i j || (coX x i j || frX x i j))
theorem loop16 {H : Heap} {b : Nat} {s : XS} {x : Ex} (h : World H b s x) (hr : x.Rf.length = x.L.length) (i j : Nat) (hi : i < x.L.length) (hj : j < x.L.length) : ∀ (m n k : Nat), k + m = x.Ad.length →
    (D16_2 (n + m + 1) (some (b, 0)) (i : Int) (j : Int) s.e (x.Ad.length : Int) (k : Int) H).bind J16_2 =
      some ((x.Ad.drop k).any (fun p => p.1 == (i : Int) && p.2 == (j : Int)) || (bif (atE x.L i).T == (atE x.L j).T then decide ((i : Int) < (j : Int)) && orderedX x i j else rfX x i j || (coX x i j || frX x i j)), H)
  | 0, n, k, hm => by
    have g : decide ((k : Int) < (x.Ad.length : Int)) = false := by simp; omega
    rw [D16_2_s, g, cf, Ab.bs, J16_2_1, List.drop_eq_nil_of_le (by omega)]
    have hW := h
    obtain ⟨m, ps, h⟩ := h
    obtain ⟨w0, w1, w3, w4, w5⟩ := h.g
    have hxi := hasX_nat (L := x.L) (i := i) (by omega)
    have hxj := hasX_nat (L := x.L) (i := j) (by omega)
    obtain ⟨sl, e0, g1, c0, c1, c2, c3, c4, c5, c6, c7, c8⟩ := getsE h.x.l hxi
    obtain ⟨sl2, e2, g2, d0, d1, d2, d3, d4, d5, d6, d7, d8⟩ := getsE h.x.l hxj
    rw [e0] at w0 e2; cases e2
    simp only [az, za, Ab.bs, w0, tSlice, ct, g1, g2, c0, d0, tInt, f29_x hW hr i j hxj, f25_x hW i j hxi hxj, f24_x hW hr i j hxi hxj, List.any_nil, Bool.false_or]
    cases (atE x.L i).T == (atE x.L j).T
    · rw [cf, cf]; cases rfX x i j <;> cases coX x i j <;> rfl
    · rw [ct, ct]
      cases hij : decide ((i : Int) < (j : Int))
      · rfl
      · have : i < j := by simpa using hij
        rw [ct, f28_x hW hr i j hj this]; rfl
  | m + 1, n, k, hm => by
    have g : decide ((k : Int) < (x.Ad.length : Int)) = true := by simp; omega
    have hk : k < x.Ad.length := by omega
    have hW := h
    have ih := loop16 h hr i j hi hj m n (k + 1) (by omega)
    obtain ⟨m', ps, h⟩ := h
    have hb := h.x.be
    obtain ⟨sl, e0, g1, c0, c1⟩ := gets2 h.x.e (List.getElem?_eq_getElem hk)
    rw [show n + (m + 1) + 1 = (n + m + 1) + 1 by omega, D16_2_s, g, ct, List.drop_eq_getElem_cons hk, List.any_cons]
    rw [e0] at ih ⊢
    simp only [ct, Ab.bs, g1, c0, c1, tInt, i64_succ k (by omega)]
    cases x.Ad[k].1 == (i : Int)
    · rw [cf, ih]; rfl
    · rw [ct]
      cases x.Ad[k].2 == (j : Int)
      · rw [cf, ih]; rfl
      · rw [ct, Ab.bs, J16_2_0]; rfl
theorem f16_x {H : Heap} {b : Nat} {s : XS} {x : Ex} (h : World H b s x) (hr : x.Rf.length = x.L.length) (i j : Nat) (hi : i < x.L.length) (hj : j < x.L.length) : f16 (some (b, 0)) (i : Int) (j : Int) H = some (aheadX x i j, H) := by
  have hW := h
  obtain ⟨m, ps, h⟩ := h
  obtain ⟨w0, w1, w3, w4, w5⟩ := h.g
  obtain ⟨n, e⟩ := LL16_2_of x.Ad.length (by have := h.x.be; omega) (some (b, 0)) (i : Int) (j : Int) s.e (x.Ad.length : Int) 0 H
  have := loop16 hW hr i j hi hj x.Ad.length n 0 (by omega)
  rw [q16, Ab.bs, show (b, 0).snd + 0 + 3 = 3 from rfl, w3, Ab.bs, tSlice, Ab.bs, h.x.e.slenEq, e, show (0 : Int) = ((0 : Nat) : Int) from rfl, this]
  rfl
end
end Go.Proofs.Ythakpjkmianglaa
