/- Layer 28: executions cut, handed to the program; the examples. -/
import Derived.Test.YthakpjkmianglaaCaF
import Derived.Test.YthakpjkmianglaaCa1c
namespace Go.Proofs.Ythakpjkmianglaa
open Go Go.Proofs.Ythakpjkmianglaa.Ab
set_option linter.unusedVariables false
set_option linter.unusedSimpArgs false
set_option maxRecDepth 100000
noncomputable section
theorem rs_new {α : Type} {n : Nat} {E : α → List Cell} {H : Heap} {id k : Nat} (l : List α) {ro : Bool} (h : H[id]? = some (.row (l.flatMap E) ro)) (hl : k = l.length) : RS n E H (some ⟨id, 0, k, k, n⟩) l := by
  subst hl
  exact ⟨rfl, rfl, Nat.le_refl _, fun i c e => by rw [get_of h]; simpa using e⟩
def cutX (x : Ex) : Ex := ⟨x.L.take 24, x.Rf.take 24, x.Co.take 24, x.Ad.take 6⟩
theorem cut1 {α : Type} {n : Nat} {E : α → List Cell} (hE : ∀ x, (E x).length = n) {H : Heap} {s : Option Sl} {l : List α} (h : RS n E H s l) (k : Nat) :
    (decide (slen s > (k : Int)) = true ∧ ∃ s', Sl.sub s 0 (some (k : Int)) = some s' ∧ RS n E H s' (l.take k) ∧ esOk s n = true ∧ esOk s' n = true) ∨ (decide (slen s > (k : Int)) = false ∧ RS n E H s (l.take k)) := by
  rw [h.slenEq]
  by_cases hk : l.length > k
  · refine .inl ⟨by simp; omega, ?_⟩
    obtain ⟨s', u1, u2, u3⟩ := h.sub0 hE k (by omega)
    have es : ∀ (s : Option Sl) (l : List α), RS n E H s l → esOk s n = true := fun s l h => by
      cases s with
      | none => rfl
      | some sl => simpa [esOk] using h.2.1
    exact ⟨s', u1, u2, es _ _ h, es _ _ u2⟩
  · refine .inr ⟨by simp; omega, ?_⟩
    rw [List.take_of_length_le (by omega)]; exact h
theorem f6_x {H : Heap} {s : XS} {x : Ex} (hl : RS 9 E9 H s.l x.L) (hr : RS 1 EI H s.r x.Rf) (hc : RS 1 EI H s.c x.Co) (he : RS 2 EP H s.e x.Ad) :
    ∃ a b c d, f6 s.l s.r s.c s.e H = some ((a, b, c, d), H) ∧ RX H ⟨a, b, c, d⟩ (cutX x) := by
  rw [q6]
  have b1 : (x.L.take 24).length < 1000 := by rw [List.length_take]; omega
  have b2 : (x.Rf.take 24).length < 1000 := by rw [List.length_take]; omega
  have b3 : (x.Co.take 24).length < 1000 := by rw [List.length_take]; omega
  have b4 : (x.Ad.take 6).length < 1000 := by rw [List.length_take]; omega
  have c1 := cut1 E9_len hl 24
  have c2 := cut1 EI_len hr 24
  have c3 := cut1 EI_len hc 24
  have c4 := cut1 EP_len he 6
  simp only [Int.cast_ofNat_Int] at c1 c2 c3 c4
  rcases c1 with ⟨d1, s1, u1, r1, e1, e1'⟩ | ⟨d1, r1⟩ <;> rcases c2 with ⟨d2, s2, u2, r2, e2, e2'⟩ | ⟨d2, r2⟩ <;> rcases c3 with ⟨d3, s3, u3, r3, e3, e3'⟩ | ⟨d3, r3⟩ <;> rcases c4 with ⟨d4, s4, u4, r4, e4, e4'⟩ | ⟨d4, r4⟩ <;>
    (simp only [d1, d2, d3, d4, ct, cf, Ab.bs, *]; refine ⟨_, _, _, _, rfl, ?_⟩; exact ⟨r1, r2, r3, r4, b1, b2, b3, b4⟩)
theorem loop8 {s : XS} {x : Ex} {H0 : Heap} (h0 : RX H0 s x) : ∀ (m n i : Nat) (y : Option Sl) (H : Heap), i + m = x.L.length → Kp No H0 H → OS 9 E9 H y (x.L.take i) → (∀ q, y = some q → H0.length ≤ q.id) →
    ∃ y' H', (D8_3 (n + m + 1) s.l (x.L.length : Int) (i : Int) none none none none y s.r s.c s.e H).bind J8_3 = some ((y', s.r, s.c, s.e), H') ∧ Kp No H0 H' ∧ OS 9 E9 H' y' x.L
  | 0, n, i, y, H, hm, k, ho, hy => by
    have g : decide ((i : Int) < (x.L.length : Int)) = false := by simp; omega
    rw [List.take_of_length_le (by omega)] at ho
    exact ⟨y, H, by rw [D8_3_s, g, cf, Ab.bs, J8_3_0], k, ho⟩
  | m + 1, n, i, y, H, hm, k, ho, hy => by
    have g : decide ((i : Int) < (x.L.length : Int)) = true := by simp; omega
    have hi : i < x.L.length := by omega
    have h := h0.no k
    have hb := h.bl
    obtain ⟨sl, e0, g1, c0, c1, c2, c3, c4, c5, c6, c7, c8⟩ := gets9 h.l (List.getElem?_eq_getElem hi)
    have kP : Kp No H (H ++ [Blk.row (E9 x.L[i]) false]) := Kp.push1 _ _
    have xr : RS 9 E9 (H ++ [Blk.row (E9 x.L[i]) false]) (some ⟨H.length, 0, 1, 1, 9⟩) [x.L[i]] := rs_new [x.L[i]] (ro := false) (by rw [push_get]; simp) rfl
    obtain ⟨y1, H1, f1, f2, f3, f4⟩ := append_OS E9_len (by omega) (by' := 48) (ho.no kP) xr (by rw [List.length_take]; simp [most]; omega)
    have kk : Kp No H0 H1 := (k.tr kP).trans f3 (fun _ h => h) fun j hj hf => by
      obtain ⟨q, e1, e2⟩ := hf
      have := hy q e1; omega
    rw [show x.L.take i ++ [x.L[i]] = x.L.take (i + 1) from (List.take_succ_eq_append_getElem hi).symm] at f2
    obtain ⟨y2, H2, r1, r2, r3⟩ := loop8 h0 m n (i + 1) y1 H1 (by omega) kk f2 fun q e => by
      rcases f4 q e with ⟨q', e1, e2⟩ | e1
      · have := hy q' e1; omega
      · have := k.len; rw [List.length_append] at e1; omega
    refine ⟨y2, H2, ?_, r2, r3⟩
    have f1' : (H ++ [Blk.row [Cell.int IntKind.i64 x.L[i].T, Cell.int IntKind.i64 x.L[i].K, Cell.int IntKind.u64 x.L[i].A, Cell.int IntKind.i64 x.L[i].W, Cell.bool x.L[i].ac, Cell.bool x.L[i].q, Cell.bool x.L[i].re, Cell.bool x.L[i].ex, Cell.int IntKind.i64 x.L[i].F] false]).append 9 48 y (some { id := List.length H, off := 0, len := 1, cap := 1, esz := 9 }) = some (y1, H1) := f1
    rw [show n + (m + 1) + 1 = (n + m + 1) + 1 by omega, D8_3_s, g, ct]
    rw [show s.l.bind = (some sl).bind (β := AExit × St) by rw [e0]]
    simp only [Ab.bs, g1, ct, c0, c1, c2, c3, c4, c5, c6, c7, c8, tInt, tBool, f1', i64_succ i (by omega)]
    exact r1
theorem f8_x {H : Heap} {s : XS} {x : Ex} (h : RX H s x) : ∃ y H', f8 s.l s.r s.c s.e H = some ((y, s.r, s.c, s.e), H') ∧ Kp No H H' ∧ RX H' ⟨y, s.r, s.c, s.e⟩ x := by
  rw [q8]
  obtain ⟨n, e⟩ := LL8_3_of x.L.length (by have := h.bl; omega) s.l (slen s.l) 0 none none none none none s.r s.c s.e H
  obtain ⟨y, H', r1, r2, r3⟩ := loop8 h x.L.length n 0 none H (by omega) (Kp.refl _ _) rfl (by simp)
  refine ⟨y, H', ?_, r2, r3.rs, (h.no r2).r, (h.no r2).c, (h.no r2).e, h.bl, h.br, h.bc, h.be⟩
  rw [h.l.slenEq] at e ⊢
  rw [e]
  exact r1
/-- The examples of the chapter. -/
def evK (k t a : Int) : Ev := ⟨t, k, a, 8, false, k == 1, k == 2, false, 0⟩
def exA : Ex := ⟨[evK 2 0 8, evK 1 0 16, evK 2 1 16, evK 1 1 8], [-1, -1, -1, -1], [0, 2], []⟩
def exB : Ex := ⟨[evK 2 0 8, evK 2 0 16, evK 1 1 16, evK 1 1 8], [-1, -1, 1, -1], [0, 1], []⟩
theorem oA : (orderX exA).isSome = true := by kernel_rfl
theorem oB : (orderX exB).isSome = false := by kernel_rfl
theorem mB : mayX exB = true := by kernel_rfl
theorem aB : (mayX exB && aheadX exB 0 1) = true := by kernel_rfl
theorem aA : (mayX exA && aheadX exA 0 1) = false := by kernel_rfl
theorem Answers.ok {x : Ex} {so : Option Sl} {ok : Bool} {H : Heap} (h : Answers x so ok H) : ok = (orderX x).isSome := by
  unfold Answers at h
  cases e : orderX x with
  | none => rw [e] at h; exact h.1
  | some o => rw [e] at h; exact h.1
theorem says_step {α β : Type} {q : Option (α × Heap)} {H G : Heap} {v : α} {k : α × Heap → Option (β × Heap)} {u : β} (e : q = some (v, G)) (kp : Kp No H G) (h : Says (k (v, G)) G u) : Says (q.bind k) H u := by
  obtain ⟨H2, e2, k2⟩ := h
  exact ⟨H2, by rw [e]; exact e2, kp.tr k2⟩
def rowsX (x : Ex) : List Blk := [.row (x.L.flatMap E9) false, .row (x.Rf.flatMap EI) false, .row (x.Co.flatMap EI) false]
theorem rowsX_rx (H K : Heap) (x : Ex) (hx : x.Ad = []) (b1 : x.L.length < 1000) (b2 : x.Rf.length < 1000) (b3 : x.Co.length < 1000) :
    RX (H ++ (rowsX x ++ K)) ⟨some ⟨H.length, 0, x.L.length, x.L.length, 9⟩, some ⟨H.length + 1, 0, x.Rf.length, x.Rf.length, 1⟩, some ⟨H.length + 2, 0, x.Co.length, x.Co.length, 1⟩, none⟩ x :=
  ⟨rs_new x.L (ro := false) (by simp [rowsX]) rfl, rs_new x.Rf (ro := false) (by simp [rowsX]) rfl, rs_new x.Co (ro := false) (by simp [rowsX]) rfl, hx, b1, b2, b3, by rw [hx]; simp⟩
theorem len1 (H : Heap) (a : Blk) : (H ++ [a]).length = H.length + 1 := by simp
theorem len2 (H : Heap) (a b : Blk) : (H ++ [a] ++ [b]).length = H.length + 2 := by simp
theorem len3 (H : Heap) (a b c : Blk) : (H ++ [a] ++ [b] ++ [c]).length = H.length + 3 := by simp
theorem len4 (H : Heap) (a b c d : Blk) : (H ++ [a] ++ [b] ++ [c] ++ [d]).length = H.length + 4 := by simp
theorem len5 (H : Heap) (a b c d e : Blk) : (H ++ [a] ++ [b] ++ [c] ++ [d] ++ [e]).length = H.length + 5 := by simp
theorem app6 (H : Heap) (a b c d e f : Blk) : H ++ [a] ++ [b] ++ [c] ++ [d] ++ [e] ++ [f] = H ++ [a, b, c, d, e, f] := by simp
theorem f9_x (H : Heap) : Says (f9 H) H true := by
  rw [q9]
  simp only [q17, Ab.bs, len1, len2, len3, len4, len5, app6]
  have kG : Kp No H (H ++ (rowsX exA ++ rowsX exB)) := Kp.push _ _ _
  have xA : RX (H ++ (rowsX exA ++ rowsX exB)) ⟨some ⟨H.length, 0, 4, 4, 9⟩, some ⟨H.length + 1, 0, 4, 4, 1⟩, some ⟨H.length + 2, 0, 2, 2, 1⟩, none⟩ exA := rowsX_rx H (rowsX exB) exA rfl (by decide) (by decide) (by decide)
  have xB : RX (H ++ (rowsX exA ++ rowsX exB)) ⟨some ⟨H.length + 3, 0, 4, 4, 9⟩, some ⟨H.length + 4, 0, 4, 4, 1⟩, some ⟨H.length + 5, 0, 2, 2, 1⟩, none⟩ exB := by
    have := rowsX_rx (H ++ rowsX exA) [] exB rfl (by decide) (by decide) (by decide)
    rw [List.append_nil, List.append_assoc, List.length_append] at this
    exact this
  obtain ⟨soA, okA, G1, e1, t1, k1⟩ := f7_x xA
  rw [t1.ok, oA] at e1
  refine says_step e1 (kG.tr k1) ?_
  obtain ⟨soB, okB, G2, e2, t2, k2⟩ := f7_x (xB.no k1)
  rw [t2.ok, oB] at e2
  refine says_step e2 k2 ?_
  simp only [ct, Bool.not_false]
  obtain ⟨G3, e3, k3⟩ := f18_x (xB.no (k1.tr k2))
  rw [mB] at e3
  refine says_step e3 k3 ?_
  simp only [ct]
  obtain ⟨G4, e4, k4⟩ := f19_x (xB.no ((k1.tr k2).tr k3)) 0 1 (by decide) (by decide)
  rw [aB] at e4
  refine says_step e4 k4 ?_
  simp only [ct]
  obtain ⟨G5, e5, k5⟩ := f19_x (xA.no (((k1.tr k2).tr k3).tr k4)) 0 1 (by decide) (by decide)
  rw [aA] at e5
  refine says_step e5 k5 ?_
  exact says_ret rfl
end
end Go.Proofs.Ythakpjkmianglaa
