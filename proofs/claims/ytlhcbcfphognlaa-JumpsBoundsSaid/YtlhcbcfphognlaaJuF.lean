/- Layer 11: what is known behind code. -/
import Derived.Test.YtlhcbcfphognlaaJuE
namespace Go.Proofs.Ytlhcbcfphognlaa
open Go Go.Proofs.Ytlhcbcfphognlaa.Ab
set_option linter.unusedVariables false
set_option linter.unusedSimpArgs false
set_option maxRecDepth 100000
noncomputable section
def E20 (x : Ins) : List Cell := [Cell.int .i64 x.op, Cell.int .i64 x.w, Cell.int .i64 x.w2, Cell.int .i64 x.a.k, Cell.int .i64 x.a.r, Cell.int .i64 x.a.b, Cell.int .i64 x.a.i, Cell.int .i64 x.a.s, Cell.int .i64 x.a.d, Cell.int .i64 x.b.k, Cell.int .i64 x.b.r, Cell.int .i64 x.b.b, Cell.int .i64 x.b.i, Cell.int .i64 x.b.s, Cell.int .i64 x.b.d, Cell.int .i64 x.imm, Cell.int .i64 x.cc, Cell.bool x.lock, Cell.bool x.rep, Cell.int .i64 x.len]
theorem E20_len (x : Ins) : (E20 x).length = 20 := rfl
theorem gets20 {H : Heap} {l : Option Sl} {xs : List Ins} (h : RS 20 E20 H l xs) {i : Nat} {x : Ins} (hi : xs[i]? = some x) :
    ∃ sl, l = some sl ∧ (inb (i : Int) sl.len && sl.esz == 20) = true ∧
      H.get sl.id (sl.off + (i : Int).toNat * 20) = some (Cell.int .i64 x.op) ∧
      H.get sl.id (sl.off + (i : Int).toNat * 20 + 1) = some (Cell.int .i64 x.w) ∧
      H.get sl.id (sl.off + (i : Int).toNat * 20 + 1 + 1) = some (Cell.int .i64 x.w2) ∧
      H.get sl.id (sl.off + (i : Int).toNat * 20 + 1 + 1 + 1) = some (Cell.int .i64 x.a.k) ∧
      H.get sl.id (sl.off + (i : Int).toNat * 20 + 1 + 1 + 1 + 1) = some (Cell.int .i64 x.a.r) ∧
      H.get sl.id (sl.off + (i : Int).toNat * 20 + 1 + 1 + 1 + 1 + 1) = some (Cell.int .i64 x.a.b) ∧
      H.get sl.id (sl.off + (i : Int).toNat * 20 + 1 + 1 + 1 + 1 + 1 + 1) = some (Cell.int .i64 x.a.i) ∧
      H.get sl.id (sl.off + (i : Int).toNat * 20 + 1 + 1 + 1 + 1 + 1 + 1 + 1) = some (Cell.int .i64 x.a.s) ∧
      H.get sl.id (sl.off + (i : Int).toNat * 20 + 1 + 1 + 1 + 1 + 1 + 1 + 1 + 1) = some (Cell.int .i64 x.a.d) ∧
      H.get sl.id (sl.off + (i : Int).toNat * 20 + 1 + 1 + 1 + 1 + 1 + 1 + 1 + 1 + 1) = some (Cell.int .i64 x.b.k) ∧
      H.get sl.id (sl.off + (i : Int).toNat * 20 + 1 + 1 + 1 + 1 + 1 + 1 + 1 + 1 + 1 + 1) = some (Cell.int .i64 x.b.r) ∧
      H.get sl.id (sl.off + (i : Int).toNat * 20 + 1 + 1 + 1 + 1 + 1 + 1 + 1 + 1 + 1 + 1 + 1) = some (Cell.int .i64 x.b.b) ∧
      H.get sl.id (sl.off + (i : Int).toNat * 20 + 1 + 1 + 1 + 1 + 1 + 1 + 1 + 1 + 1 + 1 + 1 + 1) = some (Cell.int .i64 x.b.i) ∧
      H.get sl.id (sl.off + (i : Int).toNat * 20 + 1 + 1 + 1 + 1 + 1 + 1 + 1 + 1 + 1 + 1 + 1 + 1 + 1) = some (Cell.int .i64 x.b.s) ∧
      H.get sl.id (sl.off + (i : Int).toNat * 20 + 1 + 1 + 1 + 1 + 1 + 1 + 1 + 1 + 1 + 1 + 1 + 1 + 1 + 1) = some (Cell.int .i64 x.b.d) ∧
      H.get sl.id (sl.off + (i : Int).toNat * 20 + 1 + 1 + 1 + 1 + 1 + 1 + 1 + 1 + 1 + 1 + 1 + 1 + 1 + 1 + 1) = some (Cell.int .i64 x.imm) ∧
      H.get sl.id (sl.off + (i : Int).toNat * 20 + 1 + 1 + 1 + 1 + 1 + 1 + 1 + 1 + 1 + 1 + 1 + 1 + 1 + 1 + 1 + 1) = some (Cell.int .i64 x.cc) ∧
      H.get sl.id (sl.off + (i : Int).toNat * 20 + 1 + 1 + 1 + 1 + 1 + 1 + 1 + 1 + 1 + 1 + 1 + 1 + 1 + 1 + 1 + 1 + 1) = some (Cell.bool x.lock) ∧
      H.get sl.id (sl.off + (i : Int).toNat * 20 + 1 + 1 + 1 + 1 + 1 + 1 + 1 + 1 + 1 + 1 + 1 + 1 + 1 + 1 + 1 + 1 + 1 + 1) = some (Cell.bool x.rep) ∧
      H.get sl.id (sl.off + (i : Int).toNat * 20 + 1 + 1 + 1 + 1 + 1 + 1 + 1 + 1 + 1 + 1 + 1 + 1 + 1 + 1 + 1 + 1 + 1 + 1 + 1) = some (Cell.int .i64 x.len) := by
  obtain ⟨sl, h1, h2, h3⟩ := h.idx E20_len hi
  exact ⟨sl, h1, h2, h3 0 _ rfl, h3 1 _ rfl, h3 2 _ rfl, h3 3 _ rfl, h3 4 _ rfl, h3 5 _ rfl, h3 6 _ rfl, h3 7 _ rfl, h3 8 _ rfl, h3 9 _ rfl, h3 10 _ rfl, h3 11 _ rfl, h3 12 _ rfl, h3 13 _ rfl, h3 14 _ rfl, h3 15 _ rfl, h3 16 _ rfl, h3 17 _ rfl, h3 18 _ rfl, h3 19 _ rfl⟩
theorem RS.kx {α : Type} {n : Nat} {E : α → List Cell} {H H' : Heap} {s : Option Sl} {l : List α} (h : RS n E H s l) (k : Kx H H') : RS n E H' s l := by
  cases s with
  | none => exact h
  | some sl =>
    refine ⟨h.1, h.2.1, h.2.2.1, fun i c e => ?_⟩
    have h4 := h.2.2.2 i c e
    obtain ⟨cs, ro, g1, g2⟩ := getRow h4
    rw [get_of (k _ _ g1)]
    exact g2
theorem Kx.of {F : Nat → Prop} {H H' : Heap} (k : Kp F H H') (h : ∀ i, i < H.length → ¬ F i) : Kx H H' := fun i b e => k.at e (h i (lt_of e))
theorem g6_x (x : Ins) (H : Heap) : g6 x.op x.w x.w2 x.a.k x.a.r x.a.b x.a.i x.a.s x.a.d x.b.k x.b.r x.b.b x.b.i x.b.s x.b.d x.imm x.cc x.lock x.rep x.len H = some (x.op, x.w, x.w2, x.a.k, x.a.r, x.a.b, x.a.i, x.a.s, x.a.d, x.b.k, x.b.r, x.b.b, x.b.i, x.b.s, x.b.d, x.imm, x.cc, x.lock, x.rep, x.len) := by
  rw [g6_eq]
  refine readOf_eq ?_
  have h19 : ∀ a b c d e f : Int, g19 a b c d e f H = some (a, b, c, d, e, f) := fun a b c d e f => by
    rw [g19_eq]
    refine readOf_eq ?_
    rw [q19]
  rw [q6]
  simp only [h19, Ab.bs]
theorem loop12 (l : Option Sl) (xs : List Ins) (hx : xs.length ≤ 12) (L : Nat) (hsl : ∀ sl, l = some sl → xs ≠ [] → sl.id < L) : ∀ (m n i : Nat) (o : Option Sl) (H : Heap), i + m = xs.length → RS 20 E20 H l xs → OS 20 E20 H o (xs.take i) → New L o → L ≤ H.length →
    ∃ o' H', D12_5 (n + m + 1) l o l (xs.length : Int) (i : Int) H = some (.exit 0, X12_5 l o' H') ∧ OS 20 E20 H' o' xs ∧ RS 20 E20 H' l xs ∧ Kp (fun k => L ≤ k) H H'
  | 0, n, i, o, H, h, hl, ho, hn, hL => by
    have g : decide ((i : Int) < (xs.length : Int)) = false := by simp; omega
    refine ⟨o, H, by rw [D12_5_s, g, cf], ?_, hl, Kp.refl _ _⟩
    rw [List.take_of_length_le (by omega)] at ho
    exact ho
  | m + 1, n, i, o, H, h, hl, ho, hn, hL => by
    have hi : i < xs.length := by omega
    have g : decide ((i : Int) < (xs.length : Int)) = true := by simp; omega
    have e2 : IntKind.i64.wrap ((i : Int) + 1) = ((i + 1 : Nat) : Int) := by rw [wrap_i64 (by omega) (by omega)]; rfl
    obtain ⟨sl, rfl, hin, r0, r1, r2, r3, r4, r5, r6, r7, r8, r9, r10, r11, r12, r13, r14, r15, r16, r17, r18, r19⟩ := gets20 hl (List.getElem?_eq_getElem hi)
    let x := xs[i]
    have hrow : RS 20 E20 (H ++ [Blk.row (E20 xs[i]) false]) (some { id := H.length, off := 0, len := 1, cap := 1, esz := 20 }) [xs[i]] :=
      ⟨rfl, rfl, Nat.le_refl _, fun j c e => by rw [Nat.zero_add]; exact row_get _ _ _ _ _ (by simpa using e)⟩
    have kp : Kp (fun k => L ≤ k) H (H ++ [Blk.row (E20 xs[i]) false]) := Kp.push _ _ _
    obtain ⟨o', H', a1, a2, a3, a4⟩ := append_OS E20_len (by decide) (by' := 152) (ho.kp (Kp.push No H [Blk.row (E20 xs[i]) false]) fun _ _ h => h) hrow (by simp [most]; omega)
    have a3' : Kp (fun k => L ≤ k) (H ++ [Blk.row (E20 xs[i]) false]) H' := a3.mono fun k _ hk => by
      obtain ⟨s, hs, rfl⟩ := hk
      exact hn s hs
    have kk : Kp (fun k => L ≤ k) H H' := kp.trans a3' (fun _ h => h) fun _ _ h => h
    have hl' : RS 20 E20 H' (some sl) xs := RS.kp hl kk fun s e h0 => Nat.not_le_of_lt (hsl s e h0)
    have hn' : New L o' := fun s hs => by
      rcases a4 s hs with ⟨s0, e0, e1⟩ | e1
      · rw [e1]; exact hn s0 e0
      · simp at e1; omega
    obtain ⟨o2, H2, b1, b2, b3, b4⟩ := loop12 (some sl) xs hx L hsl m n (i + 1) o' H' (by omega) hl' (by rw [List.take_succ_eq_append_getElem hi]; exact a2) hn' (Nat.le_trans hL kk.len)
    refine ⟨o2, H2, ?_, b2, b3, kk.trans b4 (fun _ h => h) fun _ _ h => h⟩
    rw [show n + (m + 1) + 1 = (n + m + 1) + 1 by omega, D12_5_s, g]
    simp only [ct, Ab.bs, hin, r0, r1, r2, r3, r4, r5, r6, r7, r8, r9, r10, r11, r12, r13, r14, r15, r16, r17, r18, r19, tInt, show ∀ b : Bool, (Cell.bool b).toBool = some b from fun _ => rfl, g6_x, e2]
    show (Heap.append (H ++ [Blk.row (E20 xs[i]) false]) 20 152 o _).bind _ = _
    rw [a1, Ab.bs]
    exact b1
theorem f12_x (l : Option Sl) (xs : List Ins) (hl0 : xs.length ≤ maxLen) (H : Heap) (h : RS 20 E20 H l xs) :
    ∃ l' o H', f12 l H = some ((l', o), H') ∧ RS 20 E20 H' l' (xs.take 12) ∧ RS 20 E20 H' o (xs.take 12) ∧ Kx H H' := by
  have key : ∀ (l' : Option Sl) (ys : List Ins), ys.length ≤ 12 → RS 20 E20 H l' ys → ∃ o H', (LL12_5 l' none l' (slen l') 0 H).bind J12_5 = some ((l', o), H') ∧ RS 20 E20 H' l' ys ∧ RS 20 E20 H' o ys ∧ Kx H H' := by
    intro l' ys hy h'
    obtain ⟨n, e⟩ := LL12_5_of ys.length (by omega) l' none l' (slen l') 0 H
    obtain ⟨o, H', a1, a2, a3, a4⟩ := loop12 l' ys hy H.length (fun sl e h0 => by subst e; exact RS.lt E20_len (by decide) h' h0) ys.length n 0 none H (by omega) h' (by rw [List.take_zero]; rfl) (fun _ e => nomatch e) (Nat.le_refl _)
    refine ⟨o, H', ?_, a3, a2.rs, Kx.of a4 fun i hi => Nat.not_le_of_lt hi⟩
    rw [e, h'.slenEq, show (0 : Int) = ((0 : Nat) : Int) from rfl, a1, Ab.bs, J12_5_0]
  rw [q12]
  by_cases hc : 12 < xs.length
  · have g : decide (slen l > 12) = true := by rw [h.slenEq]; simp; omega
    obtain ⟨l', b1, b2, b3⟩ := h.sub0 E20_len 12 (by omega)
    obtain ⟨o, H', c1, c2, c3, c4⟩ := key l' (xs.take 12) (by simp; omega) b2
    refine ⟨l', o, H', ?_, c2, c3, c4⟩
    rw [g, ct, show (12 : Int) = ((12 : Nat) : Int) from rfl, b1, Ab.bs, h.esOkT, ct, c1]
  · have g : decide (slen l > 12) = false := by rw [h.slenEq]; simp; omega
    obtain ⟨o, H', c1, c2, c3, c4⟩ := key l xs (by omega) h
    refine ⟨l, o, H', by rw [g, cf, c1], ?_, ?_, c4⟩
    · rw [List.take_of_length_le (by omega)]; exact c2
    · rw [List.take_of_length_le (by omega)]; exact c3
/-- What is known behind a comparison and a jump. -/
def bound2 (c j : Ins) : Int × Int × Bool :=
  bif c.rmay && (j.rmay && (j.op == 36 && (j.cc == 7 && (c.op == 8 && (decide (c.w ≥ 4) && (c.a.k == 1 && (c.b.k == 3 && (!decide (c.imm < 0) && !decide (c.imm ≥ 64))))))))) then (c.a.r, c.imm, true) else (0, 0, false)
theorem f13_x (o : Option Sl) (ys : List Ins) (hy : ys.length ≤ 12) (hw : ∀ x ∈ ys, x.Wf) (H : Heap) (h : RS 20 E20 H o ys) :
    Says (f13 o H) H (if hl : 2 ≤ ys.length then bound2 ys[ys.length - 2] ys[ys.length - 1] else (0, 0, false)) := by
  rw [q13]
  by_cases h2 : 2 ≤ ys.length
  · have g : decide (slen o < 2) = false := by rw [h.slenEq]; simp; omega
    have e1 : IntKind.i64.wrap (slen o - 1) = ((ys.length - 1 : Nat) : Int) := by rw [h.slenEq, wrap_i64 (by omega) (by omega)]; omega
    have e2 : IntKind.i64.wrap (slen o - 2) = ((ys.length - 2 : Nat) : Int) := by rw [h.slenEq, wrap_i64 (by omega) (by omega)]; omega
    rw [dif_pos h2, g, cf, e1, e2]
    have i1 : ys.length - 1 < ys.length := by omega
    have i2 : ys.length - 2 < ys.length := by omega
    have w1 := hw _ (List.getElem_mem i1)
    have w2 := hw _ (List.getElem_mem i2)
    obtain ⟨sl, rfl, hin, r0, r1, r2, r3, r4, r5, r6, r7, r8, r9, r10, r11, r12, r13, r14, r15, r16, r17, r18, r19⟩ := gets20 h (List.getElem?_eq_getElem i1)
    obtain ⟨sl', e, hin', s0, s1, s2, s3, s4, s5, s6, s7, s8, s9, s10, s11, s12, s13, s14, s15, s16, s17, s18, s19⟩ := gets20 h (List.getElem?_eq_getElem i2)
    cases e
    simp only [ct, Ab.bs, hin, hin', r0, r1, r2, r3, r4, r5, r6, r7, r8, r9, r10, r11, r12, r13, r14, r15, r16, r17, r18, r19, s0, s1, s2, s3, s4, s5, s6, s7, s8, s9, s10, s11, s12, s13, s14, s15, s16, s17, s18, s19, tInt, show ∀ b : Bool, (Cell.bool b).toBool = some b from fun _ => rfl]
    generalize ys[ys.length - 1] = j at *
    generalize ys[ys.length - 2] = c at *
    refine says_bind (f15_x c w2 H) fun H1 _ => ?_
    rw [may_eq c w2]
    unfold bound2
    dsimp only
    cases c.rmay
    · exact says_ret rfl
    · rw [ct, Bool.true_and]
      refine says_bind (f15_x j w1 H1) fun H2 _ => ?_
      rw [may_eq j w1]
      dsimp only
      cases j.rmay
      · exact says_ret rfl
      · rw [ct, Bool.true_and]
        simp only [bne]
        cases (j.op == 36) <;> cases (j.cc == 7) <;> cases (c.op == 8) <;> cases decide (c.w ≥ 4) <;> cases (c.a.k == 1) <;> cases (c.b.k == 3) <;> cases decide (c.imm < 0) <;> cases decide (c.imm ≥ 64) <;> exact says_ret rfl
  · have g : decide (slen o < 2) = true := by rw [h.slenEq]; simp; omega
    rw [dif_neg h2, g, ct]
    exact says_ret rfl
end
end Go.Proofs.Ytlhcbcfphognlaa
