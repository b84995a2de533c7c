/- Layer 4: the document's image of a file. -/
import Derived.Test.YtnjdajcgcnjamaaImP
namespace Go.Proofs.Ytnjdajcgcnjamaa
open Go Go.Proofs.Ytnjdajcgcnjamaa.Ab
set_option linter.unusedVariables false
set_option linter.unusedSimpArgs false
set_option maxRecDepth 100000
noncomputable section
/-! Into -/
def intoL (v : Int) : Bool → List Int → List Int
  | b, [] => bif b then [] else [v]
  | b, x :: r => bif !b && decide (x ≥ v) then v :: (bif x != v then x :: intoL v true r else intoL v true r) else bif x != v then x :: intoL v b r else intoL v b r
def intoP (v : Int) (l : List Int) : List Int := intoL v false l
theorem intoL_true (v x : Int) : ∀ l : List Int, x ∈ intoL v true l ↔ x ∈ l ∧ x ≠ v
  | [] => by simp [intoL]
  | y :: r => by
    have ih := intoL_true v x r
    rw [intoL, Bool.not_true, Bool.false_and, cf]
    by_cases e : y = v
    · have : (y != v) = false := by simp [e]
      rw [this, cf, ih, List.mem_cons]
      constructor
      · rintro ⟨a, b⟩; exact ⟨.inr a, b⟩
      · rintro ⟨a | a, b⟩
        · exact absurd (a.trans e) b
        · exact ⟨a, b⟩
    · have : (y != v) = true := by simp [e]
      rw [this, ct, List.mem_cons, ih, List.mem_cons]
      constructor
      · rintro (a | ⟨a, b⟩)
        · exact ⟨.inl a, a ▸ e⟩
        · exact ⟨.inr a, b⟩
      · rintro ⟨a | a, b⟩
        · exact .inl a
        · exact .inr ⟨a, b⟩
theorem into_mem (v x : Int) : ∀ l : List Int, x ∈ intoP v l ↔ x = v ∨ x ∈ l
  | [] => by simp [intoP, intoL]
  | y :: r => by
    have ih := into_mem v x r
    have it := intoL_true v x r
    unfold intoP at ih ⊢
    rw [intoL, Bool.not_false, Bool.true_and]
    by_cases g : y ≥ v
    · rw [dT g, ct]
      by_cases e : y = v
      · have : (y != v) = false := by simp [e]
        rw [this, cf, List.mem_cons, it, List.mem_cons, e]
        constructor
        · rintro (a | ⟨a, _⟩)
          · exact .inl a
          · exact .inr (.inr a)
        · rintro (a | a | a)
          · exact .inl a
          · exact .inl a
          · by_cases z : x = v
            · exact .inl z
            · exact .inr ⟨a, z⟩
      · have : (y != v) = true := by simp [e]
        rw [this, ct, List.mem_cons, List.mem_cons, it, List.mem_cons]
        constructor
        · rintro (a | a | ⟨a, _⟩)
          · exact .inl a
          · exact .inr (.inl a)
          · exact .inr (.inr a)
        · rintro (a | a | a)
          · exact .inl a
          · exact .inr (.inl a)
          · by_cases z : x = v
            · exact .inl z
            · exact .inr (.inr ⟨a, z⟩)
    · rw [dF g, cf]
      have : (y != v) = true := by simp; omega
      rw [this, ct, List.mem_cons, ih, List.mem_cons]
      constructor
      · rintro (a | a | a)
        · exact .inr (.inl a)
        · exact .inl a
        · exact .inr (.inr a)
      · rintro (a | a | a)
        · exact .inr (.inl a)
        · exact .inl a
        · exact .inr (.inr a)
theorem intoT_strict (v : Int) : ∀ l : List Int, Strict l → Strict (intoL v true l)
  | [], _ => trivial
  | y :: r, h => by
    have ih := intoT_strict v r h.2
    rw [intoL, Bool.not_true, Bool.false_and, cf]
    cases y != v with
    | false => exact ih
    | true => exact ⟨fun z hz => h.1 z ((intoL_true v z r).1 hz).1, ih⟩
theorem into_strict (v : Int) : ∀ l : List Int, Strict l → Strict (intoP v l)
  | [], _ => ⟨(fun _ h => by cases h), trivial⟩
  | y :: r, h => by
    have ih := into_strict v r h.2
    have it := intoT_strict v r h.2
    unfold intoP at *
    rw [intoL, Bool.not_false, Bool.true_and]
    by_cases g : y ≥ v
    · rw [dT g, ct]
      by_cases e : y = v
      · have : (y != v) = false := by simp [e]
        rw [this, cf]
        exact ⟨fun z hz => by have := h.1 z ((intoL_true v z r).1 hz).1; omega, it⟩
      · have : (y != v) = true := by simp [e]
        rw [this, ct]
        refine ⟨fun z hz => ?_, fun z hz => h.1 z ((intoL_true v z r).1 hz).1, it⟩
        rcases List.mem_cons.1 hz with hz | hz
        · omega
        · have := h.1 z ((intoL_true v z r).1 hz).1; omega
    · rw [dF g, cf]
      have : (y != v) = true := by simp; omega
      rw [this, ct]
      refine ⟨fun z hz => ?_, ih⟩
      rcases (into_mem v z r).1 hz with hz | hz
      · omega
      · exact h.1 z hz
theorem intoT_len (v : Int) : ∀ (l : List Int), (intoL v true l).length ≤ l.length
  | [] => by simp [intoL]
  | y :: r => by
    have := intoT_len v r
    rw [intoL, Bool.not_true, Bool.false_and, cf]
    cases y != v <;> simp <;> omega
theorem into_len (v : Int) : ∀ (l : List Int), (intoP v l).length ≤ l.length + 1
  | [] => by simp [intoP, intoL]
  | y :: r => by
    have := into_len v r
    have := intoT_len v r
    unfold intoP at *
    rw [intoL]
    cases (!false && decide (y ≥ v)) <;> cases y != v <;> simp <;> omega
def intoAll (l xs : List Int) : List Int := xs.foldl (fun a x => intoP x a) l
theorem all_mem : ∀ (xs l : List Int) (y : Int), y ∈ intoAll l xs ↔ y ∈ l ∨ y ∈ xs
  | [], l, y => by simp [intoAll]
  | x :: xs, l, y => by
    have := all_mem xs (intoP x l) y
    unfold intoAll at *
    rw [List.foldl_cons, this, into_mem, List.mem_cons]
    constructor
    · rintro ((a | a) | a)
      · exact .inr (.inl a)
      · exact .inl a
      · exact .inr (.inr a)
    · rintro (a | a | a)
      · exact .inl (.inr a)
      · exact .inl (.inl a)
      · exact .inr a
theorem all_strict : ∀ (xs l : List Int), Strict l → Strict (intoAll l xs)
  | [], l, h => h
  | x :: xs, l, h => all_strict xs (intoP x l) (into_strict x l h)
theorem all_len : ∀ (xs l : List Int), (intoAll l xs).length ≤ l.length + xs.length
  | [], l => Nat.le_refl _
  | x :: xs, l => by
    have := all_len xs (intoP x l)
    have := into_len x l
    unfold intoAll at *
    rw [List.foldl_cons]
    simp; omega
theorem all_rising (xs : List Int) : intoAll [] xs = risingP xs := strict_ext (all_strict xs [] trivial) (rising_strict xs) fun x => by rw [all_mem, rising_mem]; simp
theorem loop40 {H0 : Heap} {t : Option Sl} {l : List Int} (hR : RS 1 E64 H0 t l) (hl : l.length < 50000) (v : Int) : ∀ (m n i : Nat) (u : Option Sl) (b : Bool) (acc : List Int) (H : Heap), i + m = l.length → acc.length ≤ 2 * i → Kp No H0 H → OS 1 E64 H u acc → New H0.length u →
    ∃ u' H', (D40_4 (n + m + 1) v u b t (l.length : Int) (i : Int) H).bind J40_4 = some (u', H') ∧ Kp No H0 H' ∧ OS 1 E64 H' u' (acc ++ intoL v b (l.drop i))
  | 0, n, i, u, b, acc, H, hm, ha, hk, ho, hn => by
    rw [List.drop_eq_nil_of_le (by omega), D40_4_s, dF (by omega), cf, Ab.bs, J40_4_0]
    cases b with
    | true => exact ⟨u, H, by simp only [Bool.not_true, cf], hk, by simpa [intoL] using ho⟩
    | false =>
      obtain ⟨u2, H2, p1, k2, o2, n2⟩ := grow E64_len (by decide) (by' := 8) hk u _ ho hn v (by simp [most]; omega)
      have p1' : (H ++ [Blk.row [Cell.int IntKind.u64 v] false]).append 1 8 u (some ⟨H.length, 0, 1, 1, 1⟩) = some (u2, H2) := p1
      exact ⟨u2, H2, by simp only [Bool.not_false, ct, p1', Ab.bs], k2, o2⟩
  | m + 1, n, i, u, b, acc, H, hm, ha, hk, ho, hn => by
    have hi : i < l.length := by omega
    obtain ⟨sl, e0, g1, c0⟩ := gets64 (hR.no hk) (List.getElem?_eq_getElem hi)
    rw [show n + (m + 1) + 1 = (n + m + 1) + 1 by omega, D40_4_s, dT (by omega), ct, List.drop_eq_getElem_cons hi, intoL]
    rw [show t.bind = (some sl).bind (β := AExit × St) by rw [e0]]
    simp only [Ab.bs, g1, ct, c0, tInt, i64_succ i (by omega)]
    generalize l[i] = x at *
    have gr : ∀ (w : Int) (u : Option Sl) (acc : List Int) (H : Heap), acc.length ≤ 2 * i + 1 → Kp No H0 H → OS 1 E64 H u acc → New H0.length u → ∃ u2 H2, (H ++ [Blk.row [Cell.int IntKind.u64 w] false]).append 1 8 u (some ⟨H.length, 0, 1, 1, 1⟩) = some (u2, H2) ∧ Kp No H0 H2 ∧ OS 1 E64 H2 u2 (acc ++ [w]) ∧ New H0.length u2 :=
      fun w u acc H h1 h2 h3 h4 => grow E64_len (by decide) (by' := 8) h2 u _ h3 h4 w (by simp [most]; omega)
    have ih := fun u b acc H => loop40 (t := t) hR hl v m n (i + 1) u b acc H (by omega)
    cases hb : (!b && decide (x ≥ v)) with
    | true =>
      have hb2 : b = false ∧ decide (x ≥ v) = true := by
        cases b
        · exact ⟨rfl, by simpa using hb⟩
        · cases hb
      obtain ⟨rfl, g⟩ := hb2
      obtain ⟨u1, H1, p1, k1, o1, n1⟩ := gr v u acc H (by omega) hk ho hn
      simp only [Bool.not_false, ct, g, p1, Ab.bs]
      cases x != v with
      | true =>
        obtain ⟨u2, H2, p2, k2, o2, n2⟩ := gr x u1 _ H1 (by simp; omega) k1 o1 n1
        obtain ⟨u', H', e1, e2, e3⟩ := ih u2 true _ H2 (by simp; omega) k2 o2 n2
        refine ⟨u', H', by simp only [ct, p2, Ab.bs]; exact e1, e2, ?_⟩
        simpa using e3
      | false =>
        obtain ⟨u', H', e1, e2, e3⟩ := ih u1 true _ H1 (by simp; omega) k1 o1 n1
        refine ⟨u', H', by simp only [cf]; exact e1, e2, ?_⟩
        simpa using e3
    | false =>
      have go : ∃ u' H', (bif x != v then ((H ++ [Blk.row [Cell.int IntKind.u64 x] false]).append 1 8 u (some ⟨H.length, 0, 1, 1, 1⟩)).bind fun v3 => D40_4 (n + m + 1) v v3.fst b t (l.length : Int) ((i + 1 : Nat) : Int) v3.snd else D40_4 (n + m + 1) v u b t (l.length : Int) ((i + 1 : Nat) : Int) H).bind J40_4 = some (u', H') ∧ Kp No H0 H' ∧ OS 1 E64 H' u' (acc ++ (bif x != v then x :: intoL v b (l.drop (i + 1)) else intoL v b (l.drop (i + 1)))) := by
        cases x != v with
        | true =>
          obtain ⟨u2, H2, p2, k2, o2, n2⟩ := gr x u _ H (by omega) hk ho hn
          obtain ⟨u', H', e1, e2, e3⟩ := ih u2 b _ H2 (by simp; omega) k2 o2 n2
          refine ⟨u', H', by simp only [ct, p2, Ab.bs]; exact e1, e2, ?_⟩
          simpa using e3
        | false =>
          obtain ⟨u', H', e1, e2, e3⟩ := ih u b _ H (by omega) hk ho hn
          exact ⟨u', H', by simp only [cf]; exact e1, e2, by simpa using e3⟩
      cases b with
      | true => simp only [Bool.not_true, cf]; exact go
      | false =>
        rw [Bool.not_false, Bool.true_and] at hb
        simp only [Bool.not_false, ct, hb, cf]; exact go
theorem f40_x {H : Heap} {t : Option Sl} {l : List Int} (hR : RS 1 E64 H t l) (hl : l.length < 50000) (v : Int) : ∃ u H', f40 t v H = some (u, H') ∧ Kp No H H' ∧ RS 1 E64 H' u (intoP v l) := by
  obtain ⟨n, hn⟩ := LL40_4_of l.length (by omega) v none false t (l.length : Int) 0 H
  obtain ⟨u', H', e1, e2, e3⟩ := loop40 hR hl v l.length n 0 none false [] H (by omega) (by simp) (Kp.refl _ _) rfl (fun _ h => by cases h)
  rw [List.drop_zero] at e3
  exact ⟨u', H', by rw [q40, hR.slenEq, hn]; exact e1, e2, e3.rs⟩
/-! what a relocation holds -/
theorem f66_x {H : Heap} {t : Option Sl} {l : List UInt8} (h : RS 1 E8 H t l) (hl : l.length ≤ 1000) (a : Nat) (ha : a ≤ 100000) : f66 t (a : Int) 8 H = some (hasI l.length (a : Int) 8, H) := by
  rw [q66, h.slenEq, wrap_i64 (by omega) (by omega)]
  unfold hasI
  rw [dT (show (a : Int) ≥ 0 by omega), dT (show (8 : Int) ≥ 0 by omega), ct, ct, Bool.true_and, Bool.true_and]
  by_cases g : (a : Int) ≤ (l.length : Int)
  · rw [dT g, ct]; rfl
  · rw [dF g, cf]; rfl
theorem loop67 {t : Option Sl} {l : List UInt8} {H : Heap} (hs : RS 1 E8 H t l) (hl : l.length ≤ 8) : ∀ (m n : Nat), m ≤ l.length →
    D67_3 (n + m + 1) t ((numB (l.drop m) : Nat) : Int) ((m : Int) - 1) H = some (.exit 0, X67_3 ((numB l : Nat) : Int) H)
  | 0, n, hm => by rw [D67_3_s, dF (by omega), cf]; rfl
  | m + 1, n, hm => by
    have hb : m < l.length := by omega
    obtain ⟨sl, e0, g2, g4⟩ := hs.idx1 (List.getElem?_eq_getElem hb) (e := fun b => .int .u8 (b.toNat : Int)) fun _ => rfl
    have e : (((m + 1 : Nat) : Int) - 1) = m := by omega
    have g3 : IntKind.i64.wrap ((m : Int) - 1) = (m : Int) - 1 := wrap_i64 (by omega) (by omega)
    have hlt : numB (l.drop (m + 1)) < 72057594037927936 := numB7 (by simp; omega)
    have hx := l[m].toNat_lt
    have e2 : l.drop m = l[m] :: l.drop (m + 1) := List.drop_eq_getElem_cons hb
    have w1 : IntKind.u64.wrap (((numB (l.drop (m + 1)) : Nat) : Int) * 256) = ((numB (l.drop (m + 1)) : Nat) : Int) * 256 := by rw [wrap_u64]; omega
    have w2 : IntKind.u64.wrap (l[m].toNat : Int) = (l[m].toNat : Int) := by rw [wrap_u64]; omega
    have w3 : IntKind.u64.wrap (((numB (l.drop (m + 1)) : Nat) : Int) * 256 + (l[m].toNat : Int)) = ((numB (l.drop m) : Nat) : Int) := by
      rw [wrap_u64, e2]; simp only [numB]; omega
    have ih := loop67 hs hl m n (by omega)
    rw [show n + (m + 1) + 1 = (n + m + 1) + 1 by omega, e, D67_3_s, dT (by omega), ct]
    rw [show t.bind = (some sl).bind (β := AExit × St) by rw [e0]]
    simp only [ct, Ab.bs, g2, g3, g4, tInt, w1, w2, w3]
    exact ih
theorem f67_x {t : Option Sl} {l : List UInt8} {H : Heap} (hs : RS 1 E8 H t l) (hl : l.length ≤ 8) : f67 t H = some (((numB l : Nat) : Int), H) := by
  obtain ⟨n, hn⟩ := LL67_3_of l.length (by omega) t 0 ((l.length : Int) - 1) H
  have := loop67 hs hl l.length n (Nat.le_refl _)
  rw [List.drop_eq_nil_of_le (Nat.le_refl _)] at this
  rw [q67, hs.slenEq, wrap_i64 (by omega) (by omega), hn, show D67_3 (n + l.length + 1) t 0 ((l.length : Int) - 1) H = _ from this, Ab.bs, J67_3_0]
theorem loop41 {H : Heap} {t : Option Sl} {l : List Sg} (hR : RS 5 ESg H t l) (hl : l.length < 1000) (hu : ∀ s ∈ l, SgU s) (hk : ∀ s ∈ l, 0 ≤ s.flags ∧ s.flags ≤ 7) (hd : ∀ s ∈ l, RS 1 E8 H s.sl s.data ∧ s.data.length ≤ 1000) (want a b1 b2 : Int) (ha : u64r a) : ∀ (m n i : Nat), i + m = l.length →
    (D41_3 (n + m + 1) want t (l.length : Int) (i : Int) a b1 b2 H).bind J41_3 = some (heldL want a ((l.drop i).filter ld), H)
  | 0, n, i, hm => by
    rw [List.drop_eq_nil_of_le (by omega), D41_3_s, dF (by omega), cf, Ab.bs, J41_3_1]; rfl
  | m + 1, n, i, hm => by
    have hi : i < l.length := by omega
    obtain ⟨sl, e0, g1, c0, c1, c2, c3, c4⟩ := getsSg hR (List.getElem?_eq_getElem hi)
    have hsu := hu _ (List.getElem_mem hi)
    have hsk := hk _ (List.getElem_mem hi)
    obtain ⟨hsd, hsn⟩ := hd _ (List.getElem_mem hi)
    have ih := loop41 hR hl hu hk hd want a b1 b2 ha m n (i + 1) (by omega)
    rw [show n + (m + 1) + 1 = (n + m + 1) + 1 by omega, D41_3_s, dT (by omega), ct, List.drop_eq_getElem_cons hi, List.filter_cons]
    rw [show t.bind = (some sl).bind (β := AExit × St) by rw [e0]]
    simp only [Ab.bs, g1, ct, c0, c1, c2, c3, c4, tInt, tSlice, i64_succ i (by omega)]
    generalize l[i] = s at *
    rw [isX_mod hsk]
    cases hk1 : s.kind == 1 with
    | false =>
      have hk2 : (s.kind != 1) = true := by simp [bne, hk1]
      have hk3 : ld s = false := hk1
      rw [hk2, ct, hk3, if_neg Bool.false_ne_true]; exact ih
    | true =>
      have hk2 : (s.kind != 1) = false := by simp [bne, hk1]
      have hk3 : ld s = true := hk1
      rw [hk2, cf, hk3, if_pos rfl, heldL]
      cases hx : isX s with
      | true => simp only [ct]; exact ih
      | false =>
        simp only [cf]
        by_cases g2 : a < s.addr
        · simp only [dT g2, ct]; exact ih
        · unfold SgU u64r at *
          have w1 : IntKind.u64.wrap (a - s.addr) = a - s.addr := by rw [wrap_u64]; omega
          simp only [dF g2, cf, w1, hsd.slenEq, u64_len _ (show s.data.length < 1000000 by omega)]
          by_cases g3 : a - s.addr > (s.data.length : Int)
          · simp only [dT g3, ct]; exact ih
          · have w2 : IntKind.i64.wrap (a - s.addr) = (((a - s.addr).toNat : Nat) : Int) := by rw [wrap_i64 (by omega) (by omega)]; omega
            have w3 : ((((a - s.addr).toNat : Nat)) : Int) = a - s.addr := by omega
            have e1 := f66_x hsd hsn (a - s.addr).toNat (by omega)
            simp only [dF g3, cf, w2, e1, Ab.bs]
            rw [w3]
            cases hh : hasI s.data.length (a - s.addr) 8 with
            | false => simp only [Bool.not_false, ct, cf]; exact ih
            | true =>
              unfold hasI at hh
              simp only [Bool.and_eq_true, decide_eq_true_eq] at hh
              have w4 : IntKind.i64.wrap (a - s.addr + 8) = (((a - s.addr).toNat + 8 : Nat) : Int) := by rw [wrap_i64 (by omega) (by omega)]; omega
              obtain ⟨p, p1, p2, _⟩ := hsd.sub E8_len (a - s.addr).toNat ((a - s.addr).toNat + 8) (by omega) (by omega)
              rw [w3] at p1
              rw [show (a - s.addr).toNat + 8 - (a - s.addr).toNat = 8 by omega] at p2
              have e2 := f67_x p2 (by simp; omega)
              simp only [Bool.not_true, cf, w4, p1, Ab.bs, hsd.esOkT, ct, e2, J41_3_0]
theorem f41_x {H : Heap} {s : FS} {f : Fl} (h : FR H s f) (hl : f.sg.length ≤ 100) (hu : ∀ s ∈ f.sg, SgU s) (hk : ∀ s ∈ f.sg, 0 ≤ s.flags ∧ s.flags ≤ 7) (hd : ∀ s ∈ f.sg, s.data.length ≤ 1000) {r : Rl} (hr : 0 ≤ r.sym ∧ r.sym < f.sy.length) (ha : u64r r.at') : f41 s.M s.E s.sg s.sy s.rl r.at' r.sym r.add H = some (heldP f r, H) := by
  have hi : r.sym.toNat < f.sy.length := by omega
  have hi? := List.getElem?_eq_getElem hi
  obtain ⟨sl, e0, g1, c0, c1, c2, c3⟩ := getsSy h.sy hi?
  have es : ((r.sym.toNat : Nat) : Int) = r.sym := by omega
  rw [es] at g1 c2
  have c2' : H.get sl.id (sl.off + r.sym.toNat * 4 + 2) = some (.int .u64 f.sy[r.sym.toNat].addr) := c2
  obtain ⟨n, hn⟩ := LL41_3_of f.sg.length (by omega) (IntKind.u64.wrap (f.sy[r.sym.toNat].addr + IntKind.u64.wrap r.add)) s.sg (f.sg.length : Int) 0 r.at' r.sym r.add H
  have e2 := loop41 h.sg (by omega) hu hk (fun s hs => ⟨h.sd s hs, hd s hs⟩) (IntKind.u64.wrap (f.sy[r.sym.toNat].addr + IntKind.u64.wrap r.add)) r.at' r.sym r.add ha f.sg.length n 0 (by omega)
  rw [List.drop_zero] at e2
  rw [q41]
  rw [show s.sy.bind = (some sl).bind (β := (Int × Bool) × Heap) by rw [e0]]
  simp only [Ab.bs, g1, ct, c2', tInt, h.sg.slenEq, hn]
  unfold heldP
  rw [hi?]
  exact e2
end
end Go.Proofs.Ytnjdajcgcnjamaa
