/- Layer 28: what is ahead of what, as the document says it; it is so as the program says it. -/
import Derived.Test.YthakpjkmianglaaCaJ
import Derived.Test.YthakpjkmianglaaCa1c
namespace Go.Proofs.Ythakpjkmianglaa
open Go Go.Proofs.Ythakpjkmianglaa.Ab
set_option linter.unusedVariables false
set_option linter.unusedSimpArgs false
set_option maxRecDepth 100000
noncomputable section
def placeR (a b : Ev) : Bool := decide (a.K ≤ 2) && (decide (b.K ≤ 2) && (a.A == b.A && a.W == b.W))
theorem f35_x (e f : Ev) (H : Heap) : f35 e.T e.K e.A e.W e.ac e.q e.re e.ex e.F f.T f.K f.A f.W f.ac f.q f.re f.ex f.F H = some (placeR e f, H) := by
  rw [q35]; unfold placeR
  cases decide (e.K ≤ 2) <;> cases decide (f.K ≤ 2) <;> cases e.A == f.A <;> rfl
def atRF (i : Int) : List Int → Nat → Int
  | [], _ => -1
  | c :: l, k => bif c == i then (k : Int) else atRF i l (k + 1)
def atR (x : Ex) (i : Int) : Int := atRF i x.Co 0
theorem loop36 {H : Heap} {s : XS} {x : Ex} (h : RX H s x) (i : Int) : ∀ (m n k : Nat), k + m = x.Co.length →
    (D36_2 (n + m + 1) i s.c (x.Co.length : Int) (k : Int) H).bind J36_2 = some (atRF i (x.Co.drop k) k, H)
  | 0, n, k, hm => by
    have g : decide ((k : Int) < (x.Co.length : Int)) = false := by simp; omega
    rw [D36_2_s, g, cf, Ab.bs, J36_2_1, List.drop_eq_nil_of_le (by omega)]; rfl
  | m + 1, n, k, hm => by
    have g : decide ((k : Int) < (x.Co.length : Int)) = true := by simp; omega
    have hk : k < x.Co.length := by omega
    have hb := h.bc
    obtain ⟨sl, e0, g1, c0⟩ := gets1 h.c (List.getElem?_eq_getElem hk)
    have ih := loop36 h i m n (k + 1) (by omega)
    rw [show n + (m + 1) + 1 = (n + m + 1) + 1 by omega, D36_2_s, g, ct, List.drop_eq_getElem_cons hk]
    rw [e0] at ih ⊢
    unfold atRF
    simp only [Ab.bs, g1, ct, c0, tInt, i64_succ k (by omega)]
    cases x.Co[k] == i
    · rw [cf, cf]; exact ih
    · rw [ct, ct, Ab.bs, J36_2_0]
theorem f36_x {H : Heap} {s : XS} {x : Ex} (h : RX H s x) (i : Int) : f36 s.l s.r s.c s.e i H = some (atR x i, H) := by
  rw [q36, h.c.slenEq]
  obtain ⟨n, e⟩ := LL36_2_of x.Co.length (by have := h.bc; omega) i s.c (x.Co.length : Int) 0 H
  have := loop36 h i x.Co.length n 0 (by omega)
  rw [e, show (0 : Int) = ((0 : Nat) : Int) from rfl, this]; rfl
def comR (x : Ex) (i j : Int) : Bool :=
  !decide ((atE x.L i).K > 2) && (!decide ((atE x.L j).K > 2) && (placeR (atE x.L i) (atE x.L j) &&
    (bif (atE x.L i).K == 2 && (atE x.L j).K == 1 then atI x.Rf j == i else bif (atE x.L i).K == 2 && (atE x.L j).K == 2 then decide (atR x i < atR x j)
      else (atE x.L i).K == 1 && ((atE x.L j).K == 2 && (atI x.Rf i == -1 || decide (atR x (atI x.Rf i) < atR x j))))))
theorem f20_x {H : Heap} {s : XS} {x : Ex} (h : RX H s x) (hr : x.Rf.length = x.L.length) (i j : Int) (hi : hasX x.L i = true) (hj : hasX x.L j = true) : f20 s.l s.r s.c s.e i j H = some (comR x i j, H) := by
  rw [q20]
  obtain ⟨sl, e0, g1, c0, c1, c2, c3, c4, c5, c6, c7, c8⟩ := getsE h.l hi
  obtain ⟨sl2, e2, g2, d0, d1, d2, d3, d4, d5, d6, d7, d8⟩ := getsE h.l hj
  obtain ⟨sl3, e3, g3, b0⟩ := getsI h.r hr hi
  obtain ⟨sl4, e4, g4, b1⟩ := getsI h.r hr hj
  rw [e0] at e2; cases e2
  rw [e3] at e4; cases e4
  have f36' : ∀ k, f36 (some sl) (some sl3) s.c s.e k H = some (atR x k, H) := fun k => by rw [← e0, ← e3]; exact f36_x h k
  rw [e0, e3]
  simp only [az, za, Ab.bs, ct, g1, g2, g3, g4, c0, c1, c2, c3, c4, c5, c6, c7, c8, d0, d1, d2, d3, d4, d5, d6, d7, d8, b0, b1, tInt, tBool, f35_x, f36']
  unfold comR
  generalize decide ((atE x.L i).K > 2) = p1
  generalize decide ((atE x.L j).K > 2) = p2
  generalize placeR (atE x.L i) (atE x.L j) = p3
  generalize ((atE x.L i).K == 2) = a2
  generalize ((atE x.L j).K == 1) = b1
  generalize ((atE x.L j).K == 2) = b2
  generalize ((atE x.L i).K == 1) = a1
  generalize (atI x.Rf j == i) = r1
  generalize (atI x.Rf i == -1) = r2
  generalize decide (atR x i < atR x j) = r3
  generalize decide (atR x (atI x.Rf i) < atR x j) = r4
  cases p1 <;> cases p2 <;> cases p3 <;> try rfl
  all_goals (cases a2 <;> cases b1 <;> cases b2 <;> cases a1 <;> try rfl)
  all_goals (cases r2 <;> rfl)
theorem loop21 {H : Heap} {s : XS} {x : Ex} (h : RX H s x) (i j : Nat) (hi : i < x.L.length) (hj : j < x.L.length) : ∀ (m n k : Nat), k + m = j →
    (D21_2 (n + m + 1) (i : Int) (j : Int) (k : Int) s.l s.r s.c s.e H).bind J21_2 = some (((x.L.drop k).take m).any (barE (atE x.L (i : Int)) (atE x.L (j : Int))), H)
  | 0, n, k, hm => by
    have g : decide ((k : Int) < (j : Int)) = false := by simp; omega
    rw [D21_2_s, g, cf, Ab.bs, J21_2_1]; rfl
  | m + 1, n, k, hm => by
    have g : decide ((k : Int) < (j : Int)) = true := by simp; omega
    have hk : k < x.L.length := by omega
    have hb := h.bl
    obtain ⟨sl, e0, g1, c0, c1, c2, c3, c4, c5, c6, c7, c8⟩ := gets9 h.l (List.getElem?_eq_getElem hk)
    obtain ⟨sl2, e2, g2, d0, d1, _⟩ := getsE h.l (hasX_nat hi)
    obtain ⟨sl3, e3, g3, b0, b1, _⟩ := getsE h.l (hasX_nat hj)
    rw [e0] at e2 e3; cases e2; cases e3
    have ih := loop21 h i j hi hj m n (k + 1) (by omega)
    rw [show n + (m + 1) + 1 = (n + m + 1) + 1 by omega, D21_2_s, g, ct, List.drop_eq_getElem_cons hk, List.take_succ_cons, List.any_cons]
    rw [e0] at ih ⊢
    simp only [az, Ab.bs, g1, g2, g3, ct, c0, c1, c2, c3, c4, c5, c6, c7, c8, d0, d1, b1, tInt, tBool, bne, i64_succ k (by omega)]
    generalize (List.take m (List.drop (k + 1) x.L)).any (barE (atE x.L (i : Int)) (atE x.L (j : Int))) = R at ih ⊢
    unfold barE
    cases x.L[k].T == (atE x.L (i : Int)).T
    · simp only [Bool.not_false, ct, ih, Bool.false_and, Bool.false_or]
    · simp only [Bool.not_true, cf, Bool.true_and]
      cases x.L[k].K == 4
      · simp only [cf, Bool.false_or]
        cases x.L[k].K == 3
        · simp only [cf, ih, Bool.false_and, Bool.false_or]
        · simp only [ct, Bool.true_and]
          cases x.L[k].F == 1
          · simp only [cf, Bool.false_or]
            cases x.L[k].F == 2 <;> cases (atE x.L (i : Int)).K == 1 <;> cases x.L[k].F == 3 <;> cases (atE x.L (i : Int)).K == 2 <;> cases (atE x.L (j : Int)).K == 2 <;> simp only [ct, cf, ih, Ab.bs, J21_2_0, Bool.and_true, Bool.and_false, Bool.true_and, Bool.false_and, Bool.or_true, Bool.or_false, Bool.true_or, Bool.false_or]
          · simp only [ct, Ab.bs, J21_2_0, Bool.true_or]
      · simp only [ct, Ab.bs, J21_2_0, Bool.true_or]
theorem f21_x {H : Heap} {s : XS} {x : Ex} (h : RX H s x) (i j : Nat) (hj : j < x.L.length) (hij : i < j) : f21 s.l s.r s.c s.e (i : Int) (j : Int) H = some (fencedX x.L i j, H) := by
  have hb := h.bl
  rw [q21, i64_succ i (by omega)]
  obtain ⟨n, e⟩ := LL21_2_of (j - (i + 1)) (by omega) (i : Int) (j : Int) ((i + 1 : Nat) : Int) s.l s.r s.c s.e H
  rw [e, loop21 h i j (by omega) hj (j - (i + 1)) n (i + 1) (by omega)]
  rfl
def pairD (L : List Ev) (e : Ev) : Nat → Int
  | 0 => -1
  | m + 1 => bif (atE L m).T == e.T then bif (atE L m).ex then bif decide ((atE L m).K ≤ 2) then (bif (atE L m).K == 1 then (bif placeR (atE L m) e then (m : Int) else -1) else -1) else pairD L e m else pairD L e m else pairD L e m
def pairR (L : List Ev) (i : Nat) : Int := bif (atE L i).ex then bif (atE L i).K == 2 then pairD L (atE L i) i else -1 else -1
theorem loop22 {H : Heap} {s : XS} {x : Ex} (h : RX H s x) (e : Ev) (t : Int) : ∀ (m n : Nat), m ≤ x.L.length → t = (m : Int) - 1 →
    (D22_3 (n + m + 1) t s.l s.r s.c s.e e.T e.K e.A e.W e.ac e.q e.re e.ex e.F H).bind J22_3 = some (bif e.ex then bif e.K == 2 then pairD x.L e m else -1 else -1, H)
  | 0, n, hm, ht => by
    have g : decide (t ≥ 0) = false := by simp; omega
    rw [D22_3_s, g]
    cases e.ex <;> cases e.K == 2 <;> simp only [ct, cf, Ab.bs, J22_3_1] <;> rfl
  | m + 1, n, hm, ht => by
    have g : decide (t ≥ 0) = true := by simp; omega
    have hb := h.bl
    have ht' : t = (m : Int) := by omega
    subst ht'
    obtain ⟨sl, e0, g1, c0, c1, c2, c3, c4, c5, c6, c7, c8⟩ := getsE h.l (hasX_nat (by omega : m < x.L.length))
    have ih := loop22 h e ((m : Int) - 1) m n (by omega) rfl
    have hw : IntKind.i64.wrap ((m : Int) - 1) = (m : Int) - 1 := wrap_i64 (by omega) (by omega)
    rw [show n + (m + 1) + 1 = (n + m + 1) + 1 by omega, D22_3_s, g]
    rw [e0] at ih ⊢
    cases hex : e.ex with
    | false => simp only [cf, Ab.bs, J22_3_1]
    | true =>
      cases hK : e.K == 2 with
      | false => simp only [ct, cf, Ab.bs, J22_3_1]
      | true =>
        rw [hex, hK, ct, ct] at ih
        unfold pairD
        have h35 : f35 (atE x.L m).T (atE x.L m).K (atE x.L m).A (atE x.L m).W (atE x.L m).ac (atE x.L m).q (atE x.L m).re (atE x.L m).ex (atE x.L m).F e.T e.K e.A e.W e.ac e.q e.re true e.F H = some (placeR (atE x.L m) e, H) := by rw [← hex]; exact f35_x ..
        simp only [Ab.bs, g1, ct, c0, c1, c2, c3, c4, c5, c6, c7, c8, tInt, tBool, hw]
        cases (atE x.L m).T == e.T
        · simp only [cf]; exact ih
        · cases hex2 : (atE x.L m).ex
          · simp only [ct, cf]; exact ih
          · cases decide ((atE x.L m).K ≤ 2)
            · simp only [ct, cf]; exact ih
            · cases (atE x.L m).K == 1
              · simp only [ct, cf, Ab.bs, J22_3_0]
              · rw [hex2] at h35
                simp only [ct, h35, Ab.bs]
                cases placeR (atE x.L m) e
                · simp only [cf, Ab.bs, J22_3_0]
                · simp only [ct, Ab.bs, J22_3_0]
theorem f22_x {H : Heap} {s : XS} {x : Ex} (h : RX H s x) (i : Nat) (hi : i < x.L.length) : f22 s.l s.r s.c s.e (i : Int) H = some (pairR x.L i, H) := by
  have hb := h.bl
  obtain ⟨sl, e0, g1, c0, c1, c2, c3, c4, c5, c6, c7, c8⟩ := getsE h.l (hasX_nat hi)
  have hw : IntKind.i64.wrap ((i : Int) - 1) = (i : Int) - 1 := wrap_i64 (by omega) (by omega)
  obtain ⟨n, e⟩ := LL22_3_of i (by omega) ((i : Int) - 1) s.l s.r s.c s.e (atE x.L i).T (atE x.L i).K (atE x.L i).A (atE x.L i).W (atE x.L i).ac (atE x.L i).q (atE x.L i).re (atE x.L i).ex (atE x.L i).F H
  have hL := loop22 h (atE x.L i) ((i : Int) - 1) i n (by omega) rfl
  rw [q22]
  rw [show s.l.bind = (some sl).bind (β := Int × Heap) by rw [e0]]
  simp only [Ab.bs, g1, ct, c0, c1, c2, c3, c4, c5, c6, c7, c8, tInt, tBool, hw]
  rw [e, hL]; rfl
def ordR (a4 b4 bar a1 ac q b2 re a2 are b1 bac bq pj pi rf : Bool) : Bool :=
  a4 || (b4 || (bar || ((a1 && (ac || q)) || ((b2 && re) || ((a2 && (are && (b1 && bac))) || (pj || (pi && (b1 && (rf && (bac || bq))))))))))
def aheadR (x : Ex) (i j : Nat) : Bool :=
  adX x i j || (bif !((atE x.L i).T == (atE x.L j).T) then comR x i j else bif decide ((i : Int) ≥ (j : Int)) then false else bif (atE x.L i).K == 3 || (atE x.L j).K == 3 then false else
    ordR ((atE x.L i).K == 4) ((atE x.L j).K == 4) (fencedX x.L i j) ((atE x.L i).K == 1) (atE x.L i).ac (atE x.L i).q ((atE x.L j).K == 2) (atE x.L j).re ((atE x.L i).K == 2) (atE x.L i).re ((atE x.L j).K == 1) (atE x.L j).ac (atE x.L j).q
      (pairR x.L j == (i : Int)) (decide (pairR x.L i ≥ 0)) (atI x.Rf j == (i : Int)))
theorem j11_x {H : Heap} {s : XS} {x : Ex} (h : RX H s x) (hr : x.Rf.length = x.L.length) (i j : Nat) (hi : i < x.L.length) (hj : j < x.L.length) :
    J11_2 (.exit 0, X11_2a (i : Int) (j : Int) s.l s.r s.c s.e H) = some (bif !((atE x.L i).T == (atE x.L j).T) then comR x i j else bif decide ((i : Int) ≥ (j : Int)) then false else bif (atE x.L i).K == 3 || (atE x.L j).K == 3 then false else
    ordR ((atE x.L i).K == 4) ((atE x.L j).K == 4) (fencedX x.L i j) ((atE x.L i).K == 1) (atE x.L i).ac (atE x.L i).q ((atE x.L j).K == 2) (atE x.L j).re ((atE x.L i).K == 2) (atE x.L i).re ((atE x.L j).K == 1) (atE x.L j).ac (atE x.L j).q
      (pairR x.L j == (i : Int)) (decide (pairR x.L i ≥ 0)) (atI x.Rf j == (i : Int)), H) := by
  rw [J11_2_1]
  have hxi := hasX_nat hi
  have hxj := hasX_nat hj
  obtain ⟨sl, e0, g1, c0, c1, c2, c3, c4, c5, c6, c7, c8⟩ := getsE h.l hxi
  obtain ⟨sl2, e2, g2, d0, d1, d2, d3, d4, d5, d6, d7, d8⟩ := getsE h.l hxj
  obtain ⟨sl4, e4, g4, b1⟩ := getsI h.r hr hxj
  rw [e0] at e2; cases e2
  have f20' : f20 (some sl) (some sl4) s.c s.e (i : Int) (j : Int) H = some (comR x i j, H) := by rw [← e0, ← e4]; exact f20_x h hr i j hxi hxj
  have f22' : f22 (some sl) (some sl4) s.c s.e (i : Int) H = some (pairR x.L i, H) := by rw [← e0, ← e4]; exact f22_x h i hi
  have f22'' : f22 (some sl) (some sl4) s.c s.e (j : Int) H = some (pairR x.L j, H) := by rw [← e0, ← e4]; exact f22_x h j hj
  rw [e0, e4]
  simp only [Ab.bs, ct, g1, g2, g4, c0, c1, c2, c3, c4, c5, c6, c7, c8, d0, d1, d2, d3, d4, d5, d6, d7, d8, b1, tInt, tBool, f20', f22', f22'', bne]
  cases (atE x.L i).T == (atE x.L j).T with
  | false => rfl
  | true =>
    cases hij : decide ((i : Int) ≥ (j : Int)) with
    | true => rfl
    | false =>
      simp only [decide_eq_false_iff_not] at hij
      have f21' : f21 (some sl) (some sl4) s.c s.e (i : Int) (j : Int) H = some (fencedX x.L i j, H) := by rw [← e0, ← e4]; exact f21_x h i j hj (by omega)
      simp only [f21', Ab.bs, f22', f22'', g4, b1, ct, tInt]
      generalize ((atE x.L i).K == 3) = a3
      generalize ((atE x.L j).K == 3) = b3
      generalize ((atE x.L i).K == 4) = a4
      generalize ((atE x.L j).K == 4) = b4
      generalize ((atE x.L i).K == 1) = a1
      generalize (atE x.L i).ac = ac
      generalize (atE x.L i).q = q
      generalize ((atE x.L j).K == 2) = b2
      generalize (atE x.L j).re = re
      generalize ((atE x.L i).K == 2) = a2
      generalize (atE x.L i).re = are
      generalize ((atE x.L j).K == 1) = b1
      generalize (atE x.L j).ac = bac
      generalize (atE x.L j).q = bq
      generalize (pairR x.L j == (i : Int)) = pj
      generalize decide (pairR x.L i ≥ 0) = pi
      generalize (atI x.Rf j == (i : Int)) = rf
      generalize fencedX x.L i j = fen
      cases a3
      · cases b3
        · cases a4
          · cases b4
            · cases bac <;> cases fen <;> cases bq <;> try rfl
              all_goals (cases a1 <;> cases ac <;> try rfl)
              all_goals (cases q <;> try rfl)
              all_goals (cases b2 <;> cases re <;> try rfl)
              all_goals (cases a2 <;> cases are <;> try rfl)
              all_goals (cases b1 <;> try rfl)
              all_goals (cases pj <;> cases pi <;> try rfl)
              all_goals (cases rf <;> rfl)
            · cases bac <;> cases bq <;> rfl
          · cases bac <;> cases bq <;> rfl
        · rfl
      · rfl
theorem loop11 {H : Heap} {s : XS} {x : Ex} (h : RX H s x) (hr : x.Rf.length = x.L.length) (i j : Nat) (hi : i < x.L.length) (hj : j < x.L.length) : ∀ (m n k : Nat), k + m = x.Ad.length →
    (D11_2 (n + m + 1) (i : Int) (j : Int) s.e (x.Ad.length : Int) (k : Int) s.l s.r s.c s.e H).bind J11_2 =
      some ((x.Ad.drop k).any (fun p => p.1 == (i : Int) && p.2 == (j : Int)) || (bif !((atE x.L i).T == (atE x.L j).T) then comR x i j else bif decide ((i : Int) ≥ (j : Int)) then false else bif (atE x.L i).K == 3 || (atE x.L j).K == 3 then false else
    ordR ((atE x.L i).K == 4) ((atE x.L j).K == 4) (fencedX x.L i j) ((atE x.L i).K == 1) (atE x.L i).ac (atE x.L i).q ((atE x.L j).K == 2) (atE x.L j).re ((atE x.L i).K == 2) (atE x.L i).re ((atE x.L j).K == 1) (atE x.L j).ac (atE x.L j).q
      (pairR x.L j == (i : Int)) (decide (pairR x.L i ≥ 0)) (atI x.Rf j == (i : Int))), H)
  | 0, n, k, hm => by
    have g : decide ((k : Int) < (x.Ad.length : Int)) = false := by simp; omega
    rw [D11_2_s, g, cf, Ab.bs, j11_x h hr i j hi hj, List.drop_eq_nil_of_le (by omega), List.any_nil, Bool.false_or]
  | m + 1, n, k, hm => by
    have g : decide ((k : Int) < (x.Ad.length : Int)) = true := by simp; omega
    have hk : k < x.Ad.length := by omega
    have ih := loop11 h hr i j hi hj m n (k + 1) (by omega)
    have hb := h.be
    obtain ⟨sl, e0, g1, c0, c1⟩ := gets2 h.e (List.getElem?_eq_getElem hk)
    rw [show n + (m + 1) + 1 = (n + m + 1) + 1 by omega, D11_2_s, g, ct, List.drop_eq_getElem_cons hk, List.any_cons]
    rw [show s.e.bind = (some sl).bind (β := AExit × St) by rw [e0]]
    simp only [ct, Ab.bs, g1, c0, c1, tInt, i64_succ k (by omega), Bool.and_true]
    cases x.Ad[k].1 == (i : Int) && x.Ad[k].2 == (j : Int)
    · rw [cf, ih]; rfl
    · rw [ct, Ab.bs, J11_2_0]; rfl
theorem f11_x {H : Heap} {s : XS} {x : Ex} (h : RX H s x) (hr : x.Rf.length = x.L.length) (i j : Nat) (hi : i < x.L.length) (hj : j < x.L.length) : f11 s.l s.r s.c s.e (i : Int) (j : Int) H = some (aheadR x i j, H) := by
  obtain ⟨n, e⟩ := LL11_2_of x.Ad.length (by have := h.be; omega) (i : Int) (j : Int) s.e (x.Ad.length : Int) 0 s.l s.r s.c s.e H
  have := loop11 h hr i j hi hj x.Ad.length n 0 (by omega)
  rw [q11, h.e.slenEq, e, show (0 : Int) = ((0 : Nat) : Int) from rfl, this]
  rfl

/-! the document's is within the program's -/
theorem mayE_K {e : Ev} (h : e.mayE = true) : 1 ≤ e.K ∧ e.K ≤ 4 := by
  unfold Ev.mayE at h
  simp only [Bool.and_eq_true, decide_eq_true_eq] at h
  omega
theorem MayI.atK {x : Ex} (h : MayI x) {i : Nat} (hi : i < x.L.length) : 1 ≤ (atE x.L i).K ∧ (atE x.L i).K ≤ 4 := by
  rw [atE_nat hi]; exact mayE_K (h.e _ (List.getElem_mem hi))
theorem acc_of {e : Ev} (h : 1 ≤ e.K) : e.acc = decide (e.K ≤ 2) := by
  unfold Ev.acc
  rw [Bool.eq_iff_iff]; simp only [Bool.or_eq_true, beq_iff_eq, decide_eq_true_eq]; omega
theorem place_of {e f : Ev} (h1 : 1 ≤ e.K) (h2 : 1 ≤ f.K) : e.place f = placeR e f := by
  unfold Ev.place placeR
  rw [acc_of h1, acc_of h2]
theorem pairD_last {x : Ex} (h : MayI x) (e : Ev) (he : 1 ≤ e.K) : ∀ m, m ≤ x.L.length → pairD x.L e m = bif decide (lastD x.L e.T m ≥ 0) && ((atE x.L (lastD x.L e.T m)).K == 1 && (atE x.L (lastD x.L e.T m)).place e) then lastD x.L e.T m else -1
  | 0, _ => rfl
  | m + 1, hm => by
    have ih := pairD_last h e he m (by omega)
    have hK := (h.atK (by omega : m < x.L.length)).1
    unfold pairD
    rw [show lastD x.L e.T (m + 1) = bif (atE x.L m).T == e.T && ((atE x.L m).ex && (atE x.L m).acc) then (m : Int) else lastD x.L e.T m from rfl, acc_of hK]
    cases (atE x.L m).T == e.T
    · simp only [cf, Bool.false_and]; exact ih
    · cases (atE x.L m).ex
      · simp only [ct, cf, Bool.false_and, Bool.and_false]; exact ih
      · cases decide ((atE x.L m).K ≤ 2)
        · simp only [ct, cf, Bool.and_false]; exact ih
        · simp only [ct, Bool.and_true, place_of hK he, show decide ((m : Int) ≥ 0) = true by simp, Bool.true_and]
          cases (atE x.L m).K == 1 <;> cases placeR (atE x.L m) e <;> rfl
theorem pairR_pv {x : Ex} (h : MayI x) {i : Nat} (hi : i < x.L.length) : pairR x.L i = pv x.L i := by
  have hK := (h.atK hi).1
  unfold pairR pv
  rw [pairD_last h _ hK i (by omega)]
  have hacc : ((atE x.L i).K == 2) = true → (atE x.L i).acc = true := fun e => by unfold Ev.acc; rw [e, Bool.or_true]
  cases (atE x.L i).ex
  · rfl
  · cases h2 : (atE x.L i).K == 2
    · simp only [ct, cf, Bool.false_and, Bool.and_false]
    · rw [hacc h2]
      simp only [ct, Bool.true_and]
theorem nWrites_range (L : List Ev) : nWrites L = ((List.range L.length).filter fun (i : Nat) => (atE L (i : Int)).K == 2).length := by
  have hL : L = (List.range L.length).map fun i : Nat => atE L (i : Int) := by
    apply List.ext_getElem?
    intro i
    rw [List.getElem?_map]
    by_cases hi : i < L.length
    · rw [List.getElem?_range hi, List.getElem?_eq_getElem hi, Option.map_some, atE_nat hi]
    · rw [List.getElem?_eq_none (by omega), List.getElem?_eq_none (by simp; omega)]; rfl
  unfold nWrites
  conv => lhs; rw [hL]
  rw [List.filter_map, List.length_map]
  rfl
/-- Each Write stands in Co. -/
theorem MayI.mem {x : Ex} (h : MayI x) {i : Nat} (hi : i < x.L.length) (hK : (atE x.L i).K = 2) : (i : Int) ∈ x.Co := by
  by_cases hm : (i : Int) ∈ x.Co
  · exact hm
  · have hsub := nodup_sub (i :: x.Co.map Int.toNat) ((List.range x.L.length).filter fun (i : Nat) => (atE x.L (i : Int)).K == 2) (List.nodup_cons.2 ⟨fun hc => by
      obtain ⟨c, h1, h2⟩ := List.mem_map.1 hc
      have := hasX_nn (h.co c h1).1
      exact hm (by rw [show (i : Int) = c by omega]; exact h1), by
      rw [List.nodup_iff_pairwise_ne, List.pairwise_map]
      refine (List.nodup_iff_pairwise_ne.1 h.nd).imp_of_mem fun {a b} ha hb hab e => hab ?_
      have := hasX_nn (h.co a ha).1
      have := hasX_nn (h.co b hb).1
      omega⟩) fun a ha => by
        rcases List.mem_cons.1 ha with e | e
        · subst e; simp [hi, hK]
        · obtain ⟨c, h1, rfl⟩ := List.mem_map.1 e
          obtain ⟨h3, h4⟩ := h.co c h1
          have h5 := (hasX_at h3).2
          have h6 := (List.getElem?_eq_some_iff.1 (hasX_at h3).1).1
          rw [List.mem_filter]
          exact ⟨by simpa using h6, by rw [h5]; simpa using h4⟩
    rw [← nWrites_range, h.nw] at hsub
    simp at hsub
    omega
theorem atRF_look (c : Int) : ∀ (l : List Int) (k : Nat), c ∈ l → (coFrom l k).lookup c = some (atRF c l k)
  | [], _, h => by simp at h
  | b :: l, k, h => by
    unfold coFrom atRF
    rw [List.lookup_cons]
    by_cases e : c = b
    · subst e; simp
    · have e1 : (c == b) = false := by simpa using e
      have e2 : (b == c) = false := by simpa using fun x => e x.symm
      rw [e1, e2, cf]
      exact atRF_look c l (k + 1) (by rcases List.mem_cons.1 h with h | h; exact absurd h e; exact h)
theorem atR_eq {x : Ex} {c : Int} (h : c ∈ x.Co) : atX x c = atR x c := by
  unfold atX atR
  rw [atRF_look c x.Co 0 h]; rfl
theorem comR_le {x : Ex} (h : MayI x) {i j : Nat} (hi : i < x.L.length) (hj : j < x.L.length) (hc : comR x i j = true) : (rfX x i j || (coX x i j || frX x i j)) = true := by
  unfold comR at hc
  rw [Bool.and_eq_true, Bool.and_eq_true, Bool.and_eq_true] at hc
  obtain ⟨_, _, hp, hc⟩ := hc
  rw [← place_of (h.atK hi).1 (h.atK hj).1] at hp
  cases c1 : (atE x.L i).K == 2 && (atE x.L j).K == 1 with
  | true =>
    rw [c1, ct] at hc
    rw [Bool.and_eq_true] at c1
    unfold rfX
    rw [c1.2, hc]; rfl
  | false =>
    rw [c1, cf] at hc
    cases c2 : (atE x.L i).K == 2 && (atE x.L j).K == 2 with
    | true =>
      rw [c2, ct] at hc
      rw [Bool.and_eq_true] at c2
      have : coX x i j = true := by
        unfold coX
        rw [c2.1, c2.2, hp, atR_eq (h.mem hi (by simpa using c2.1)), atR_eq (h.mem hj (by simpa using c2.2)), hc]; rfl
      rw [this]; simp
    | false =>
      rw [c2, cf, Bool.and_eq_true, Bool.and_eq_true] at hc
      obtain ⟨k1, k2, hc⟩ := hc
      have : frX x i j = true := by
        unfold frX
        rw [k1, k2, hp]
        simp only [Bool.true_and]
        rw [Bool.or_eq_true] at hc ⊢
        rcases hc with hc | hc
        · left; rw [beq_iff_eq] at hc; rw [hc]; rfl
        · have hir : i < x.Rf.length := by rw [h.rl]; exact hi
          have hrd := h.rd i _ (List.getElem?_eq_getElem hir)
          have ha : atI x.Rf (i : Int) = x.Rf[i] := by unfold atI; rw [Int.toNat_natCast, List.getElem?_eq_getElem hir]; rfl
          rw [← ha] at hrd
          unfold rdOk at hrd
          rw [Bool.or_eq_true] at hrd
          rcases hrd with h1 | h1
          · left; rw [beq_iff_eq] at h1; rw [h1]; rfl
          · right
            rw [Bool.and_eq_true, Bool.and_eq_true, Bool.and_eq_true] at h1
            obtain ⟨h1, _, h2, _⟩ := h1
            have hq := hasX_at h1
            have hl := (List.getElem?_eq_some_iff.1 hq.1).1
            have hm : atI x.Rf (i : Int) ∈ x.Co := by
              have := h.mem hl (by rw [hq.2]; simpa using h2)
              rw [hq.2] at this; exact this
            rw [atR_eq hm, atR_eq (h.mem hj (by simpa using k2))]
            exact hc
      rw [this]; simp
theorem aheadR_le {x : Ex} (h : MayI x) {i j : Nat} (hi : i < x.L.length) (hj : j < x.L.length) (ha : aheadR x i j = true) : aheadX x i j = true := by
  unfold aheadR at ha
  unfold aheadX
  rw [Bool.or_eq_true] at ha ⊢
  rcases ha with ha | ha
  · exact .inl ha
  · right
    cases hT : (atE x.L i).T == (atE x.L j).T with
    | false =>
      rw [hT, Bool.not_false, ct] at ha
      rw [cf]; exact comR_le h hi hj ha
    | true =>
      rw [hT, Bool.not_true, cf] at ha
      rw [ct]
      cases hij : decide ((i : Int) ≥ (j : Int)) with
      | true => rw [hij, ct] at ha; cases ha
      | false =>
        rw [hij, cf] at ha
        simp only [decide_eq_false_iff_not] at hij
        rw [show decide ((i : Int) < (j : Int)) = true by simp; omega, Bool.true_and]
        unfold orderedX
        rw [atI_pairs h hi, atI_pairs h hj, ← pairR_pv h hi, ← pairR_pv h hj]
        unfold rfX
        have hpj : (pairR x.L j == (i : Int)) = true → ((atE x.L j).K == 2) = true := fun e => by
          rw [pairR_pv h hj, beq_iff_eq] at e
          rcases pv_cases x.L j with h1 | ⟨r, _, _, _, h2⟩
          · rw [h1] at e; omega
          · simpa using h2
        generalize ((atE x.L i).K == 3) = a3 at ha ⊢
        generalize ((atE x.L j).K == 3) = b3 at ha ⊢
        generalize ((atE x.L i).K == 4) = a4 at ha ⊢
        generalize ((atE x.L j).K == 4) = b4 at ha ⊢
        generalize ((atE x.L i).K == 1) = a1 at ha ⊢
        generalize (atE x.L i).ac = ac at ha ⊢
        generalize (atE x.L i).q = q at ha ⊢
        generalize ((atE x.L j).K == 2) = b2 at ha hpj ⊢
        generalize (atE x.L j).re = re at ha ⊢
        generalize ((atE x.L i).K == 2) = a2 at ha ⊢
        generalize (atE x.L i).re = are at ha ⊢
        generalize ((atE x.L j).K == 1) = b1 at ha ⊢
        generalize (atE x.L j).ac = bac at ha ⊢
        generalize (atE x.L j).q = bq at ha ⊢
        generalize (pairR x.L j == (i : Int)) = pj at ha hpj ⊢
        generalize decide (pairR x.L i ≥ 0) = pi at ha ⊢
        generalize (atI x.Rf j == (i : Int)) = rf at ha ⊢
        generalize fencedX x.L i j = fen at ha ⊢
        unfold ordR at ha
        unfold ordB
        cases a3 <;> cases b3 <;> simp only [Bool.or_self, Bool.or_true, Bool.true_or, ct, cf] at ha ⊢ <;> first | (cases ha; done) | skip
        cases a4 <;> cases b4 <;> simp only [Bool.or_self, Bool.or_true, Bool.true_or, ct, cf, Bool.false_or] at ha ⊢
        cases pj
        · simp only [Bool.false_and, cf, Bool.false_or] at ha ⊢
          cases a1 <;> cases b2 <;> cases a2 <;> cases b1 <;> cases pi <;> cases rf <;> simp only [Bool.true_and, Bool.false_and, Bool.or_false, Bool.false_or, Bool.and_true, Bool.and_false, ct, cf] at ha ⊢ <;> grind
        · rw [hpj rfl]
          simp only [Bool.true_and, ct]
          cases a1 && (ac || q) || re <;> cases a2 && (are && (b1 && bac)) <;> rfl
end
end Go.Proofs.Ythakpjkmianglaa
