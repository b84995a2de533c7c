/- Layer 28: there is an order exactly if the events have ranks; an access that is no acquire and no release any more. -/
import Derived.Test.YthakpjkmianglaaCaF
namespace Go.Proofs.Ythakpjkmianglaa
open Go Go.Proofs.Ythakpjkmianglaa.Ab
set_option linter.unusedVariables false
set_option linter.unusedSimpArgs false
set_option maxRecDepth 100000
noncomputable section
theorem nodup_sub : ∀ (l m : List Nat), l.Nodup → (∀ a ∈ l, a ∈ m) → l.length ≤ m.length
  | [], m, _, _ => Nat.zero_le _
  | a :: l, m, hn, hs => by
    rw [List.nodup_cons] at hn
    have ha : a ∈ m := hs a (by simp)
    have := nodup_sub l (m.erase a) hn.2 fun b hb => (List.mem_erase_of_ne (fun e => by subst e; exact hn.1 hb)).2 (hs b (by simp [hb]))
    rw [List.length_erase_of_mem ha] at this
    have := List.length_pos_of_mem ha
    simp only [List.length_cons]; omega
theorem nodup_full {n : Nat} {l : List Nat} (hn : l.Nodup) (hl : ∀ a ∈ l, a < n) (hlen : n ≤ l.length) {i : Nat} (hi : i < n) : i ∈ l := by
  by_cases h : i ∈ l
  · exact h
  · have := nodup_sub (i :: l) (List.range n) (List.nodup_cons.2 ⟨h, hn⟩) fun a ha => by
      rcases List.mem_cons.1 ha with e | e
      · rw [e]; simpa using hi
      · simpa using hl a e
    simp at this; omega
/-- What has been put in order so far. -/
structure Good (A : Nat → Nat → Bool) (n : Nat) (o : List Nat) : Prop where
  nd : o.Nodup
  lt : ∀ a ∈ o, a < n
  be : ∀ (p : Nat) (a : Nat), o[p]? = some a → ∀ i, i < n → A i a = true → i ∈ o.take p
theorem cnt_zero {A : Nat → Nat → Bool} {n : Nat} {o : List Nat} {x : Nat} : cnt A n o x > 0 ↔ ∃ i, i < n ∧ A i x = true ∧ i ∉ o := by
  unfold cnt
  constructor
  · intro h
    have h' : 0 < ((List.range n).filter fun a => A a x && !o.contains a).length := by omega
    obtain ⟨i, hi⟩ := List.exists_mem_of_length_pos h'
    simp at hi
    exact ⟨i, hi.1, hi.2.1, hi.2.2⟩
  · rintro ⟨i, h1, h2, h3⟩
    have : i ∈ (List.range n).filter fun a => A a x && !o.contains a := by simp [h1, h2, h3]
    have := List.length_pos_of_mem this
    omega
theorem free_iff {A : Nat → Nat → Bool} {n : Nat} {o : List Nat} {x : Nat} : freeX A n o x = true ↔ x ∉ o ∧ ∀ i, i < n → A i x = true → i ∈ o := by
  unfold freeX
  rw [Bool.and_eq_true, Bool.not_eq_true', Bool.not_eq_true', decide_eq_false_iff_not, cnt_zero]
  constructor
  · rintro ⟨h1, h2⟩
    refine ⟨by simpa using h1, fun i hi hA => ?_⟩
    by_cases h : i ∈ o
    · exact h
    · exact absurd ⟨i, hi, hA, h⟩ h2
  · rintro ⟨h1, h2⟩
    exact ⟨by simpa using h1, fun ⟨i, hi, hA, h⟩ => h (h2 i hi hA)⟩
theorem Good.step {A : Nat → Nat → Bool} {n : Nat} {o : List Nat} (h : Good A n o) {x : Nat} (hx : x < n) (hf : freeX A n o x = true) : Good A n (o ++ [x]) := by
  rw [free_iff] at hf
  refine ⟨List.nodup_append.2 ⟨h.nd, by simp, fun a ha b hb => by simp at hb; subst hb; exact fun e => hf.1 (e ▸ ha)⟩, fun a ha => ?_, fun p a hp i hi hA => ?_⟩
  · rcases List.mem_append.1 ha with h1 | h1
    · exact h.lt a h1
    · simp at h1; omega
  · rcases Nat.lt_or_ge p o.length with hl | hl
    · rw [List.getElem?_append_left hl] at hp
      rw [List.take_append_of_le_length (by omega)]
      exact h.be p a hp i hi hA
    · rw [List.getElem?_append_right hl] at hp
      have e1 : p = o.length := by
        have := (List.getElem?_eq_some_iff.1 hp).1
        simp at this; omega
      subst e1
      simp at hp
      subst hp
      rw [List.take_left]
      exact hf.2 i hi hA
theorem sort_good {A : Nat → Nat → Bool} {n : Nat} : ∀ (m : Nat) (o o' : List Nat), Good A n o → sortX A n m o = some o' → Good A n o' ∧ o'.length = o.length + m
  | 0, o, o', h, e => by
    unfold sortX at e; cases e; exact ⟨h, rfl⟩
  | m + 1, o, o', h, e => by
    unfold sortX at e
    have hs := srch_spec (freeX A n o) n 0
    generalize srch (freeX A n o) n 0 = x at hs e
    cases hx : x == n with
    | true => rw [hx, ct] at e; cases e
    | false =>
      rw [hx, cf] at e
      rcases hs with ⟨h1, _⟩ | ⟨h1, _, h3⟩
      · rw [h1] at hx; simp at hx
      · obtain ⟨g1, g2⟩ := sort_good m _ o' (h.step (by omega) h3) e
        exact ⟨g1, by rw [g2]; simp; omega⟩
theorem Good.nil (A : Nat → Nat → Bool) (n : Nat) : Good A n [] := ⟨List.nodup_nil, by simp, fun p a h => by simp at h⟩
theorem least {n : Nat} (P : Nat → Prop) (r : Nat → Nat) : ∀ (b : Nat) (x : Nat), r x ≤ b → x < n → P x → ∃ y, y < n ∧ P y ∧ ∀ z, z < n → P z → r y ≤ r z
  | 0, x, hb, hx, hp => ⟨x, hx, hp, fun z _ _ => by omega⟩
  | b + 1, x, hb, hx, hp => by
    by_cases h : ∃ z, z < n ∧ P z ∧ r z ≤ b
    · obtain ⟨z, h1, h2, h3⟩ := h
      exact least P r b z h3 h1 h2
    · refine ⟨x, hx, hp, fun z h1 h2 => ?_⟩
      rcases Nat.lt_or_ge b (r z) with h3 | h3
      · omega
      · exact absurd ⟨z, h1, h2, h3⟩ h
theorem sort_of_rank {A : Nat → Nat → Bool} {n : Nat} (r : Nat → Nat) (hr : ∀ i j, i < n → j < n → A i j = true → r i < r j) : ∀ (m : Nat) (o : List Nat), Good A n o → o.length + m = n → (sortX A n m o).isSome = true
  | 0, o, h, e => rfl
  | m + 1, o, h, e => by
    unfold sortX
    have hs := srch_spec (freeX A n o) n 0
    obtain ⟨x0, hx0, hx1⟩ : ∃ x, x < n ∧ x ∉ o := by
      by_cases h1 : ∃ x, x < n ∧ x ∉ o
      · exact h1
      · have := nodup_sub (List.range n) o List.nodup_range fun a ha => by
          by_cases h2 : a ∈ o
          · exact h2
          · exact absurd ⟨a, by simpa using ha, h2⟩ h1
        simp at this; omega
    obtain ⟨y, y1, y2, y3⟩ := least (n := n) (fun x => x ∉ o) r (r x0) x0 (Nat.le_refl _) hx0 hx1
    have hy : freeX A n o y = true := free_iff.2 ⟨y2, fun i hi hA => by
      by_cases h2 : i ∈ o
      · exact h2
      · have := y3 i hi h2
        have := hr i y hi y1 hA
        omega⟩
    generalize srch (freeX A n o) n 0 = x at hs ⊢
    rcases hs with ⟨h1, h2⟩ | ⟨h1, _, h3⟩
    · rw [h2 y (by omega) (by omega)] at hy; cases hy
    · rw [show (x == n) = false by simp; omega, cf]
      exact sort_of_rank r hr m _ (h.step (by omega) h3) (by simp; omega)
/-- There is an order exactly if there are ranks. -/
theorem sort_iff {A : Nat → Nat → Bool} {n : Nat} : (sortX A n n []).isSome = true ↔ ∃ r : Nat → Nat, ∀ i j, i < n → j < n → A i j = true → r i < r j := by
  constructor
  · intro h
    obtain ⟨o, ho⟩ := Option.isSome_iff_exists.1 h
    obtain ⟨g, hl⟩ := sort_good n [] o (Good.nil A n) ho
    simp only [List.length_nil, Nat.zero_add] at hl
    refine ⟨fun i => o.idxOf i, fun i j hi hj hA => ?_⟩
    have hjo := nodup_full g.nd g.lt (by omega) hj
    have h1 := g.be (o.idxOf j) j (by rw [List.getElem?_eq_getElem (List.idxOf_lt_length_of_mem hjo), List.getElem_idxOf]) i hi hA
    obtain ⟨q, hq, e⟩ := List.getElem_of_mem h1
    rw [List.length_take] at hq
    rw [List.getElem_take] at e
    have hq2 : q < o.length := by omega
    have : o.idxOf i = q := by rw [← e]; exact g.nd.idxOf_getElem q hq2
    show o.idxOf i < o.idxOf j
    omega
  · rintro ⟨r, hr⟩
    exact sort_of_rank r hr n [] (Good.nil A n) (by simp)
theorem sort_mono {A B : Nat → Nat → Bool} {n m : Nat} (u : Nat → Nat) (hu : ∀ i, i < m → u i < n) (h : ∀ i j, i < m → j < m → B i j = true → A (u i) (u j) = true) (hA : (sortX A n n []).isSome = true) : (sortX B m m []).isSome = true := by
  obtain ⟨r, hr⟩ := sort_iff.1 hA
  exact sort_iff.2 ⟨fun i => r (u i), fun i j hi hj hB => hr _ _ (hu i hi) (hu j hj) (h i j hi hj hB)⟩
theorem ordB_mono {a3 b3 a4 b4 a1 ac q b2 re a2 are b1 bac bq pj pi rf fen ac' q' re' are' bac' bq' fen' : Bool} (h1 : ac = true → ac' = true) (h2 : q = true → q' = true) (h3 : re = true → re' = true) (h4 : are = true → are' = true) (h5 : bac = true → bac' = true) (h6 : bq = true → bq' = true) (h7 : fen = true → fen' = true)
    (h : ordB a3 b3 a4 b4 a1 ac q b2 re a2 are b1 bac bq pj pi rf fen = true) : ordB a3 b3 a4 b4 a1 ac' q' b2 re' a2 are' b1 bac' bq' pj pi rf fen' = true := by
  unfold ordB at h ⊢
  cases a3 <;> cases b3 <;> cases a4 <;> cases b4 <;> simp only [Bool.or_true, Bool.or_false, Bool.true_or, Bool.or_self, ct, cf] at h ⊢ <;> first | (cases h; done) | rfl | skip
  cases a1 <;> cases b2 <;> cases a2 <;> cases b1 <;> cases pj <;> cases pi <;> cases rf <;> simp only [Bool.true_and, Bool.false_and, Bool.or_false, Bool.false_or, Bool.and_true, Bool.and_false, ct, cf] at h ⊢ <;> grind

/-! an access that is no acquire and no release any more -/
def Ev.core (e : Ev) : Ev := { e with ac := false, q := false, re := false }
def coreL (L : List Ev) : List Ev := L.map Ev.core
def coreX (x : Ex) : Ex := { x with L := coreL x.L }
theorem atE_core (L : List Ev) (i : Int) : atE (coreL L) i = (atE L i).core := by
  unfold atE coreL
  rw [List.getElem?_map]
  cases L[i.toNat]? <;> rfl
theorem hasX_core (L : List Ev) (i : Int) : hasX (coreL L) i = hasX L i := by unfold hasX coreL; rw [List.length_map]
theorem place_core (e f : Ev) : e.core.place f.core = e.place f := rfl
theorem meets_core (e f : Ev) : e.core.meets f.core = e.meets f := rfl
theorem nWrites_core (L : List Ev) : nWrites (coreL L) = nWrites L := by
  unfold nWrites coreL
  rw [List.filter_map, List.length_map]; rfl
theorem seenOk_core (L : List Ev) : ∀ l d, seenOk (coreL L) l d = seenOk L l d
  | [], d => by unfold seenOk; rw [nWrites_core]
  | i :: l, d => by
    unfold seenOk
    rw [hasX_core, atE_core, seenOk_core L l]; rfl
theorem rdOk_core (L : List Ev) (i : Nat) (w : Int) : rdOk (coreL L) i w = rdOk L i w := by
  unfold rdOk
  rw [hasX_core, atE_core, atE_core, place_core]; rfl
theorem allFrom_map {α β : Type} (f : α → β) (p : Nat → β → Bool) : ∀ (l : List α) (i : Nat), allFrom p (l.map f) i = allFrom (fun i a => p i (f a)) l i
  | [], _ => rfl
  | a :: l, i => by
    rw [List.map_cons]
    unfold allFrom
    rw [allFrom_map f p l]
theorem alikeX_core (L : List Ev) : alikeX (coreL L) = alikeX L := by
  unfold alikeX
  conv => lhs; unfold coreL
  rw [allFrom_map]
  congr 1
  funext i e
  rw [← List.map_take, allFrom_map]
  rfl
theorem mayX_core (x : Ex) : mayX (coreX x) = mayX x := by
  unfold mayX coreX readsX
  dsimp only
  have e1 : (coreL x.L).length = x.L.length := by unfold coreL; simp
  have e2 : (coreL x.L).all Ev.mayE = x.L.all Ev.mayE := by unfold coreL; rw [List.all_map]; rfl
  have e3 : (x.Ad.all fun p => hasX (coreL x.L) p.1 && hasX (coreL x.L) p.2) = x.Ad.all fun p => hasX x.L p.1 && hasX x.L p.2 := by
    congr 1; funext p; rw [hasX_core, hasX_core]
  have e4 : allFrom (rdOk (coreL x.L)) x.Rf 0 = allFrom (rdOk x.L) x.Rf 0 := by
    congr 1; funext i w; exact rdOk_core ..
  rw [e1, e2, e3, seenOk_core, e4, alikeX_core]
theorem stepP_core (L : List Ev) (i : Nat) (e : Ev) (last : List Int) : stepP (coreL L) i e.core last = stepP L i e last := by
  unfold stepP
  rw [atE_core]; rfl
theorem pairsFrom_core (L : List Ev) : ∀ (l : List Ev) (i : Nat) (last : List Int), pairsFrom (coreL L) (coreL l) i last = pairsFrom L l i last
  | [], _, _ => rfl
  | e :: l, i, last => by
    show pairsFrom (coreL L) (e.core :: coreL l) i last = _
    unfold pairsFrom
    rw [stepP_core, pairsFrom_core L l]
theorem pairsX_core (x : Ex) : pairsX (coreX x) = pairsX x := pairsFrom_core x.L x.L 0 last0
theorem rfX_core (x : Ex) (i j : Int) : rfX (coreX x) i j = rfX x i j := by
  unfold rfX coreX; dsimp only; rw [atE_core]; rfl
theorem coX_core (x : Ex) (i j : Int) : coX (coreX x) i j = coX x i j := by
  unfold coX coreX; dsimp only; rw [atE_core, atE_core]; rfl
theorem frX_core (x : Ex) (i j : Int) : frX (coreX x) i j = frX x i j := by
  unfold frX coreX; dsimp only; rw [atE_core, atE_core]; rfl
theorem insideX_core (x : Ex) (i j : Int) : insideX (coreX x) i j = insideX x i j := by
  unfold insideX
  rw [rfX_core, coX_core, frX_core]
  unfold coreX; dsimp only; rw [atE_core, atE_core]; rfl
theorem internalX_core (x : Ex) : internalX (coreX x) = internalX x := by
  unfold internalX
  have e1 : (coreX x).L.length = x.L.length := by unfold coreX coreL; simp
  have e2 : (fun i j : Nat => insideX (coreX x) i j) = fun i j : Nat => insideX x i j := by funext i j; exact insideX_core ..
  rw [mayX_core, e1, e2]
theorem atomicX_core (x : Ex) : atomicX (coreX x) = atomicX x := by
  unfold atomicX
  rw [mayX_core, pairsX_core]
  congr 2
  funext i r
  congr 1
  show allFrom (apart (coreX x) i r) (coreL x.L) 0 = _
  unfold coreL
  rw [allFrom_map]
  congr 1
  funext j e
  unfold apart
  rw [frX_core, coX_core]
  show (!(!(e.core.T == (atE (coreL x.L) i).T) && (frX x r j && coX x j i))) = _
  rw [atE_core]; rfl
def weakX (x : Ex) (k : Nat) : Ex := { x with L := x.L.set k ((x.L[k]?).getD dE).core }
theorem core_core (e : Ev) : e.core.core = e.core := rfl
theorem coreX_weak (x : Ex) (k : Nat) : coreX (weakX x k) = coreX x := by
  unfold coreX weakX coreL
  dsimp only
  congr 1
  apply List.ext_getElem?
  intro i
  rw [List.getElem?_map, List.getElem?_map, List.getElem?_set]
  by_cases h : k = i
  · subst h
    rw [if_pos rfl]
    by_cases hl : k < x.L.length
    · rw [if_pos hl, List.getElem?_eq_getElem hl]; rfl
    · rw [if_neg hl, List.getElem?_eq_none (by omega)]
  · rw [if_neg h]
/-- Fewer acquires and releases: less is ahead. -/
theorem weak_at (x : Ex) (k : Nat) (i : Nat) : (atE (weakX x k).L i).core = (atE x.L i).core ∧ ((atE (weakX x k).L i).ac = true → (atE x.L i).ac = true) ∧ ((atE (weakX x k).L i).q = true → (atE x.L i).q = true) ∧ ((atE (weakX x k).L i).re = true → (atE x.L i).re = true) := by
  refine ⟨by rw [← atE_core, ← atE_core]; exact congrArg (fun y => atE y.L i) (coreX_weak x k), ?_⟩
  unfold weakX atE
  dsimp only
  rw [Int.toNat_natCast, List.getElem?_set]
  by_cases h : k = i
  · subst h
    rw [if_pos rfl]
    by_cases hl : k < x.L.length
    · rw [if_pos hl]; simp [Ev.core]
    · rw [if_neg hl, List.getElem?_eq_none (by omega)]; simp [dE]
  · rw [if_neg h]; exact ⟨id, id, id⟩
theorem fenced_core (L : List Ev) (i j : Nat) : fencedX (coreL L) i j = fencedX L i j := by
  unfold fencedX
  rw [atE_core, atE_core]
  unfold coreL
  rw [← List.map_drop, ← List.map_take, List.any_map]
  rfl
theorem ahead_weak (x : Ex) (k i j : Nat) (h : aheadX (weakX x k) i j = true) : aheadX x i j = true := by
  have hc := coreX_weak x k
  obtain ⟨a1, a2, a3, a4⟩ := weak_at x k i
  obtain ⟨b1, b2, b3, b4⟩ := weak_at x k j
  have e1 : rfX (weakX x k) i j = rfX x i j := by rw [← rfX_core, hc, rfX_core]
  have e2 : coX (weakX x k) i j = coX x i j := by rw [← coX_core, hc, coX_core]
  have e3 : frX (weakX x k) i j = frX x i j := by rw [← frX_core, hc, frX_core]
  have e4 : pairsX (weakX x k) = pairsX x := by rw [← pairsX_core, hc, pairsX_core]
  have e5 : fencedX (weakX x k).L i j = fencedX x.L i j := by
    rw [← fenced_core, ← fenced_core x.L]
    exact congrArg (fun y : Ex => fencedX y.L i j) hc
  have T1 : (atE (weakX x k).L i).T = (atE x.L i).T := by have := congrArg Ev.T a1; exact this
  have T2 : (atE (weakX x k).L j).T = (atE x.L j).T := by have := congrArg Ev.T b1; exact this
  have K1 : (atE (weakX x k).L i).K = (atE x.L i).K := by have := congrArg Ev.K a1; exact this
  have K2 : (atE (weakX x k).L j).K = (atE x.L j).K := by have := congrArg Ev.K b1; exact this
  unfold aheadX at h ⊢
  rw [e1, e2, e3, T1, T2] at h
  have ead : adX (weakX x k) i j = adX x i j := rfl
  rw [ead] at h
  rw [Bool.or_eq_true] at h ⊢
  rcases h with h | h
  · exact .inl h
  · right
    cases hT : (atE x.L i).T == (atE x.L j).T with
    | false => rw [hT] at h; exact h
    | true =>
      rw [hT, ct, Bool.and_eq_true] at h
      rw [ct, Bool.and_eq_true]
      refine ⟨h.1, ?_⟩
      have ho := h.2
      unfold orderedX at ho ⊢
      rw [e1, e4, e5, K1, K2] at ho
      exact ordB_mono a2 a3 b4 a4 b2 b3 id ho
theorem weaker_law (x : Ex) (k : Nat) (h : (orderX x).isSome = true) : (orderX (weakX x k)).isSome = true := by
  have hc := coreX_weak x k
  have e1 : internalX (weakX x k) = internalX x := by rw [← internalX_core, hc, internalX_core]
  have e2 : atomicX (weakX x k) = atomicX x := by rw [← atomicX_core, hc, atomicX_core]
  have e3 : (weakX x k).L.length = x.L.length := by unfold weakX; simp
  unfold orderX at h ⊢
  rw [e1, e2, e3]
  cases hI : internalX x && atomicX x with
  | false => rw [hI] at h; cases h
  | true =>
    rw [hI, ct] at h
    rw [ct]
    exact sort_mono (fun i => i) (fun i hi => hi) (fun i j _ _ hB => ahead_weak x k i j hB) h
end
end Go.Proofs.Ythakpjkmianglaa
