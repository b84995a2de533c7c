/- Layer 4: the program's image of a file. -/
import Derived.Test.YtnjdajcgcnjamaaImH
namespace Go.Proofs.Ytnjdajcgcnjamaa
open Go Go.Proofs.Ytnjdajcgcnjamaa.Ab
set_option linter.unusedVariables false
set_option linter.unusedSimpArgs false
set_option maxRecDepth 100000
noncomputable section
theorem Mx.next {H H2 H3 : Heap} {id : Nat} {fu fu' tk tk' : Option Sl} (k : Kp (Mx id fu tk) H H2) (g : Kp (Mx id fu' tk') H2 H3) (hf : ∀ q, fu' = some q → Of fu q.id ∨ H.length ≤ q.id) (ht : ∀ q, tk' = some q → Of tk q.id ∨ H.length ≤ q.id) : Kp (Mx id fu tk) H H3 :=
  k.trans g (fun _ h => h) fun i hi h => by
    rcases h with h | ⟨q, e, rfl⟩ | ⟨q, e, rfl⟩
    · exact .inl h
    · rcases hf q e with h | h
      · exact .inr (.inl h)
      · omega
    · rcases ht q e with h | h
      · exact .inr (.inr h)
      · omega
theorem of_old {H : Heap} {n : Nat} {α : Type} {E : α → List Cell} {t : Option Sl} {l : List α} (h : OS n E H t l) : ∀ q, t = some q → Of t q.id ∨ H.length ≤ q.id := fun q e => .inl ⟨q, e, rfl⟩
theorem old_trans {H H2 : Heap} {fu fu' fu2 : Option Sl} (hl : H.length ≤ H2.length) (h1 : ∀ q, fu' = some q → Of fu q.id ∨ H.length ≤ q.id) (h2 : ∀ q, fu2 = some q → Of fu' q.id ∨ H2.length ≤ q.id) : ∀ q, fu2 = some q → Of fu q.id ∨ H.length ≤ q.id := fun q e => by
  rcases h2 q e with ⟨p, e1, e2⟩ | h
  · rcases h1 p e1 with h | h
    · exact .inl (e2 ▸ h)
    · exact .inr (by omega)
  · exact .inr (by omega)
section
variable {H0 : Heap} {s : FS} {f : Fl} {id : Nat} {c : Sg} {dt st : Option Sl} {en : Int}
theorem loop33a (hR0 : FR H0 s f) (hc : SgU c) (hl : f.sy.length < 1000) (hu : ∀ x ∈ f.sy, u64r x.addr) (tk : Option Sl) (b : List Int) : ∀ (m n i : Nat) (fu : Option Sl) (a : List Int) (H : Heap), i + m = f.sy.length → a.length ≤ i → MK H0 H id c dt st en fu tk a b →
    ∃ fu' H', D33_2 (n + m + 1) (some (id, 0)) s.sy (f.sy.length : Int) (i : Int) s.M s.E s.sg s.sy s.rl H = some (.exit 0, X33_2 (some (id, 0)) s.M s.E s.sg s.sy s.rl H') ∧
      MK H0 H' id c dt st en fu' tk (a ++ funcsP c (f.sy.drop i)) b ∧ Kp (Mx id fu tk) H H' ∧ (∀ q, fu' = some q → Of fu q.id ∨ H.length ≤ q.id)
  | 0, n, i, fu, a, H, hm, ha, hk => by
    have g : decide ((i : Int) < (f.sy.length : Int)) = false := by simp; omega
    refine ⟨fu, H, by rw [D33_2_s, g, cf], ?_, Kp.refl _ _, of_old hk.ofu⟩
    rw [List.drop_eq_nil_of_le (by omega)]
    simpa [funcsP] using hk
  | m + 1, n, i, fu, a, H, hm, ha, hk => by
    have hR := hR0.no hk.k
    have g : decide ((i : Int) < (f.sy.length : Int)) = true := by simp; omega
    have hi : i < f.sy.length := by omega
    obtain ⟨sl, e0, g1, c0, c1, c2, c3⟩ := getsSy hR.sy (List.getElem?_eq_getElem hi)
    have hxu := hu _ (List.getElem_mem hi)
    obtain ⟨d0, d1, d2, d3, d4, d5, d6, d7, d8, d9⟩ := ib_get hk.row
    rw [show n + (m + 1) + 1 = (n + m + 1) + 1 by omega, D33_2_s, g, ct, List.drop_eq_getElem_cons hi, funcsP]
    rw [show s.sy.bind = (some sl).bind (β := AExit × St) by rw [e0]]
    simp only [Ab.bs, g1, ct, c0, c1, c2, c3, tInt, tStr, tSlice, d0, d1, d2, d3, d4, d5, d6, d7, d8, d9, f19_x hc hxu, i64_succ i (by omega)]
    generalize f.sy[i] = x at *
    cases hk2 : x.kind == 2 with
    | false =>
      simp only [cf, Bool.false_and]
      exact loop33a hR0 hc hl hu tk b m n (i + 1) fu a H (by omega) (by omega) hk
    | true =>
      simp only [ct, Bool.true_and]
      cases hh : hasP c x.addr 1 with
      | false =>
        simp only [cf]
        exact loop33a hR0 hc hl hu tk b m n (i + 1) fu a H (by omega) (by omega) hk
      | true =>
        simp only [ct]
        obtain ⟨fu2, H2, H3, a1, a2, m3, k3, f3⟩ := hk.addF x.addr (by omega)
        obtain ⟨fu', H', e', m', k', f'⟩ := loop33a hR0 hc hl hu tk b m n (i + 1) fu2 (a ++ [x.addr]) H3 (by omega) (by simp; omega) m3
        have d8' : H.get id (0 + 8) = some (.slice fu) := d8
        refine ⟨fu', H', ?_, by simpa using m', Mx.next k3 k' f3 (of_old hk.otk), old_trans k3.len f3 f'⟩
        simp only [d8', tSlice, a1, Ab.bs, a2]
        exact e'
def takenP (f : Fl) (c : Sg) : List Rl → Option (List Int)
  | [] => some []
  | r :: rs => bif !(heldP f r).2 then none else (takenP f c rs).map fun l => bif hasP c (heldP f r).1 1 then (heldP f r).1 :: l else l
theorem held_u {want a : Int} (h : u64r want) : ∀ l, u64r (heldL want a l).1
  | [] => by unfold heldL u64r; omega
  | s :: r => by
    unfold heldL
    cases isX s <;> cases decide (a < s.addr) <;> cases decide (a - s.addr > (s.data.length : Int)) <;> cases hasI s.data.length (a - s.addr) 8 <;> first | exact h | exact held_u h r
theorem loop33b (hR0 : FR H0 s f) (hc : SgU c) (hl : f.rl.length < 1000) (hsg : f.sg.length ≤ 100) (hu : ∀ s ∈ f.sg, SgU s) (hd : ∀ s ∈ f.sg, s.data.length ≤ 1000) (hr : ∀ r ∈ f.rl, (0 ≤ r.sym ∧ r.sym < f.sy.length) ∧ u64r r.at') (fu : Option Sl) (a : List Int) : ∀ (m n i : Nat) (tk : Option Sl) (b : List Int) (H : Heap), i + m = f.rl.length → b.length ≤ i → MK H0 H id c dt st en fu tk a b →
    ∃ tk' H', Kp (Mx id fu tk) H H' ∧ Kp No H0 H' ∧ match takenP f c (f.rl.drop i) with
      | none => (D33_8 (n + m + 1) (some (id, 0)) s.rl (f.rl.length : Int) (i : Int) s.M s.E s.sg s.sy s.rl H).bind J33_8 = some (false, H')
      | some l => D33_8 (n + m + 1) (some (id, 0)) s.rl (f.rl.length : Int) (i : Int) s.M s.E s.sg s.sy s.rl H = some (.exit 2, X33_8a (some (id, 0)) H') ∧ MK H0 H' id c dt st en fu tk' a (b ++ l) ∧ (∀ q, tk' = some q → Of tk q.id ∨ H.length ≤ q.id)
  | 0, n, i, tk, b, H, hm, ha, hk => by
    have g : decide ((i : Int) < (f.rl.length : Int)) = false := by simp; omega
    refine ⟨tk, H, Kp.refl _ _, hk.k, ?_⟩
    rw [List.drop_eq_nil_of_le (by omega)]
    simp only [takenP]
    exact ⟨by rw [D33_8_s, g, cf], by simpa using hk, of_old hk.otk⟩
  | m + 1, n, i, tk, b, H, hm, ha, hk => by
    have hR := hR0.no hk.k
    have g : decide ((i : Int) < (f.rl.length : Int)) = true := by simp; omega
    have hi : i < f.rl.length := by omega
    obtain ⟨sl, e0, g1, c0, c1, c2⟩ := getsRl hR.rl (List.getElem?_eq_getElem hi)
    obtain ⟨hx1, hx2⟩ := hr _ (List.getElem_mem hi)
    obtain ⟨H1, e1, k1⟩ := f60_x hR hsg hu hd hx1 hx2
    have hk1 := hk.no k1
    obtain ⟨d0, d1, d2, d3, d4, d5, d6, d7, d8, d9⟩ := ib_get hk1.row
    have hvu : u64r (heldP f f.rl[i]).1 := held_u (by unfold u64r; rw [wrap_u64]; omega) _
    rw [show n + (m + 1) + 1 = (n + m + 1) + 1 by omega, D33_8_s, g, ct, List.drop_eq_getElem_cons hi, takenP]
    rw [show s.rl.bind = (some sl).bind (β := AExit × St) by rw [e0]]
    simp only [Ab.bs, g1, ct, c0, c1, c2, tInt, e1, d0, d1, d2, d3, d4, d5, d6, d7, d8, d9, tSlice, f19_x hc hvu, i64_succ i (by omega)]
    generalize f.rl[i] = x at *
    have kx : Kp (Mx id fu tk) H H1 := k1.mono fun _ _ h => h.elim
    cases hv : (heldP f x).2 with
    | false =>
      simp only [Bool.not_false, ct, Ab.bs, J33_8_0]
      exact ⟨none, H1, kx, hk1.k, rfl⟩
    | true =>
      simp only [Bool.not_true, cf]
      have hlen := k1.len
      cases hh : hasP c (heldP f x).1 1 with
      | false =>
        obtain ⟨tk', H', k', k0', r⟩ := loop33b hR0 hc hl hsg hu hd hr fu a m n (i + 1) tk b H1 (by omega) (by omega) hk1
        refine ⟨tk', H', Mx.next kx k' (of_old hk.ofu) (of_old hk.otk), k0', ?_⟩
        simp only [cf]
        cases ht : takenP f c (f.rl.drop (i + 1)) with
        | none => rw [ht] at r; simpa using r
        | some l =>
          rw [ht] at r
          simp only [Option.map_some]
          exact ⟨r.1, r.2.1, fun q e => by
            rcases r.2.2 q e with h | h
            · exact .inl h
            · exact .inr (by omega)⟩
      | true =>
        obtain ⟨tk2, H2, H3, a1, a2, m3, k3, f3⟩ := hk1.addT (heldP f x).1 (by omega)
        obtain ⟨tk', H', k', k0', r⟩ := loop33b hR0 hc hl hsg hu hd hr fu a m n (i + 1) tk2 (b ++ [(heldP f x).1]) H3 (by omega) (by simp; omega) m3
        have f3' : ∀ q, tk2 = some q → Of tk q.id ∨ H.length ≤ q.id := fun q e => by
          rcases f3 q e with h | h
          · exact .inl h
          · exact .inr (by omega)
        have k3' : Kp (Mx id fu tk) H H3 := Mx.next kx k3 (of_old hk.ofu) (of_old hk.otk)
        have d9' : H1.get id (0 + 9) = some (.slice tk) := d9
        refine ⟨tk', H', Mx.next k3' k' (of_old hk.ofu) f3', k0', ?_⟩
        simp only [ct, d9', tSlice, a1, Ab.bs, a2]
        cases ht : takenP f c (f.rl.drop (i + 1)) with
        | none => rw [ht] at r; simpa using r
        | some l =>
          rw [ht] at r
          simp only [Option.map_some]
          exact ⟨r.1, by simpa using r.2.1, old_trans k3'.len f3' r.2.2⟩
theorem f33_x (hR0 : FR H0 s f) (hc : SgU c) (h1 : f.sg.length ≤ 100) (h2 : f.sy.length ≤ 100) (h3 : f.rl.length ≤ 100) (hu : ∀ s ∈ f.sg, SgU s) (hy : ∀ x ∈ f.sy, u64r x.addr) (hd : ∀ s ∈ f.sg, s.data.length ≤ 1000) (hr : ∀ r ∈ f.rl, (0 ≤ r.sym ∧ r.sym < f.sy.length) ∧ u64r r.at') {H : Heap} (hk : MK H0 H id c dt st en none none [] []) :
    ∃ fu tk H', Kp (One id) H H' ∧ Kp No H0 H' ∧ match takenP f c f.rl with
      | none => f33 (some (id, 0)) s.M s.E s.sg s.sy s.rl H = some (false, H')
      | some l => f33 (some (id, 0)) s.M s.E s.sg s.sy s.rl H = some (true, H') ∧ MK H0 H' id c dt st en fu tk (risingP (funcsP c f.sy)) (risingP l) := by
  obtain ⟨n1, hn1⟩ := LL33_2_of f.sy.length (by omega) (some (id, 0)) s.sy (f.sy.length : Int) 0 s.M s.E s.sg s.sy s.rl H
  obtain ⟨fu, H1, e1, m1, k1, f1⟩ := loop33a hR0 hc (by omega) hy none [] f.sy.length n1 0 none [] H (by omega) (Nat.le_refl _) hk
  rw [List.drop_zero, List.nil_append] at m1
  obtain ⟨n2, hn2⟩ := LL33_8_of f.rl.length (by omega) (some (id, 0)) s.rl (f.rl.length : Int) 0 s.M s.E s.sg s.sy s.rl H1
  obtain ⟨tk, H2, k2, k02, r⟩ := loop33b hR0 hc (by omega) h1 hu hd hr fu (funcsP c f.sy) f.rl.length n2 0 none [] H1 (by omega) (Nat.le_refl _) m1
  rw [List.drop_zero] at r
  have k12 : Kp (Mx id none none) H H2 := Mx.next k1 k2 f1 fun q e => nomatch e
  have kone : ∀ {A B : Heap}, Kp (Mx id none none) A B → Kp (One id) A B := fun k => k.mono fun i _ h => by
    rcases h with h | ⟨q, e, _⟩ | ⟨q, e, _⟩
    · exact h
    · cases e
    · cases e
  have q0 : f33 (some (id, 0)) s.M s.E s.sg s.sy s.rl H = (D33_8 (n2 + f.rl.length + 1) (some (id, 0)) s.rl (f.rl.length : Int) ((0 : Nat) : Int) s.M s.E s.sg s.sy s.rl H1).bind J33_8 := by
    rw [q33, hR0.sy.slenEq, hn1, show (0 : Int) = ((0 : Nat) : Int) from rfl, e1, Ab.bs, J33_2_0, hR0.rl.slenEq, hn2]
    rfl
  cases ht : takenP f c f.rl with
  | none =>
    rw [ht] at r
    exact ⟨none, none, H2, kone k12, k02, by rw [q0]; exact r⟩
  | some l =>
    rw [ht] at r
    obtain ⟨e2, m2, f2⟩ := r
    rw [List.nil_append] at m2
    have hfl : (funcsP c f.sy).length < 65536 := by
      have : ∀ l : List Sy, (funcsP c l).length ≤ l.length := fun l => by
        induction l with
        | nil => simp [funcsP]
        | cons x l ih => unfold funcsP; cases (x.kind == 2 && hasP c x.addr 1) <;> simp <;> omega
      have := this f.sy
      omega
    have htl : l.length < 65536 := by
      have : ∀ (x : List Rl) (l : List Int), takenP f c x = some l → l.length ≤ x.length := fun x => by
        induction x with
        | nil => intro l h; cases h; simp
        | cons r x ih =>
          intro l h
          unfold takenP at h
          cases hv : (heldP f r).2 with
          | false => rw [hv] at h; cases h
          | true =>
            rw [hv] at h
            simp only [Bool.not_true, cond_false, Option.map_eq_some_iff] at h
            obtain ⟨l', h1, rfl⟩ := h
            have := ih l' h1
            cases hasP c (heldP f r).1 1 <;> simp <;> omega
      have := this f.rl l ht
      omega
    obtain ⟨d0, d1, d2, d3, d4, d5, d6, d7, d8, d9⟩ := ib_get m2.row
    obtain ⟨fu', H3, e3, o3, k3, i3⟩ := f34_x m2.ofu hfl
    have hid := lt_of m2.row
    have r3 : H3[id]? = some (ibRow c dt st en fu tk) := k3.at m2.row (by rintro ⟨q, e, e2⟩; exact (m2.nf q e).1 e2.symm)
    have t3 : OS 1 E64 H3 tk l := m2.otk.kp k3 fun q e ⟨p, e1, e2⟩ => m2.ft p q e1 e e2.symm
    have hsame : same id H2 H3 = true := same_iff.2 (k3.same id hid (by rintro ⟨q, e, e2⟩; exact (m2.nf q e).1 e2.symm))
    obtain ⟨b0, b1, b2, b3, b4, b5, b6, b7, b8, b9⟩ := ib_get r3
    obtain ⟨tk', H4, e4, o4, k4, i4⟩ := f34_x t3 htl
    have r4 : H4[id]? = some (ibRow c dt st en fu tk) := k4.at r3 (by rintro ⟨q, e, e2⟩; exact (m2.nt q e).1 e2.symm)
    have p5 := ib_put8 r4 fu'
    have r5 : (H4.set id (ibRow c dt st en fu' tk))[id]? = some (ibRow c dt st en fu' tk) := set_get' (lt_of r4)
    have p6 := ib_put9 r5 tk'
    have r6 : ((H4.set id (ibRow c dt st en fu' tk)).set id (ibRow c dt st en fu' tk'))[id]? = some (ibRow c dt st en fu' tk') := set_get' (lt_of r5)
    have nf' : ∀ q, fu' = some q → q.id ≠ id ∧ H0.length ≤ q.id := fun q e => by
      obtain ⟨p, e1, e2⟩ := i3 q e
      rw [e2]; exact m2.nf p e1
    have nt' : ∀ q, tk' = some q → q.id ≠ id ∧ H0.length ≤ q.id := fun q e => by
      obtain ⟨p, e1, e2⟩ := i4 q e
      rw [e2]; exact m2.nt p e1
    have ft' : ∀ p q, fu' = some p → tk' = some q → p.id ≠ q.id := fun p q e1 e2 => by
      obtain ⟨p', e3, e4⟩ := i3 p e1
      obtain ⟨q', e5, e6⟩ := i4 q e2
      rw [e4, e6]; exact m2.ft p' q' e3 e5
    have o3' : OS 1 E64 H4 fu' (risingP (funcsP c f.sy)) := o3.kp k4 fun q e ⟨p, e1, e2⟩ => by
      obtain ⟨q', e3, e4⟩ := i3 q e
      exact m2.ft q' p e3 e1 (by omega)
    have kA : Kp (Mx id fu tk) H2 H4 := (k3.mono (D := Mx id fu tk) fun i _ h => .inr (.inl h)).trans (k4.mono (D := Mx id fu tk) fun i _ h => .inr (.inr h)) (fun _ h => h) fun _ _ h => h
    have kB : Kp (Mx id fu tk) H2 ((H4.set id (ibRow c dt st en fu' tk)).set id (ibRow c dt st en fu' tk')) := kA.trans ((Kp.set _ _ _).one (Kp.set _ _ _)) (fun _ h => h) fun i _ h => .inl h
    have kC : Kp No H0 ((H4.set id (ibRow c dt st en fu' tk)).set id (ibRow c dt st en fu' tk')) := m2.k.trans kB (fun _ h => h) fun i hi h => by
      rcases h with h | ⟨q, e, h⟩ | ⟨q, e, h⟩
      · have := m2.id0; omega
      · have := (m2.nf q e).2; omega
      · have := (m2.nt q e).2; omega
    have hN : ∀ q : Option Sl, (∀ x, q = some x → x.id ≠ id) → ∀ sl, q = some sl → ¬ One id sl.id := fun q h sl e g => h sl e g
    refine ⟨fu', tk', _, kone (Mx.next k12 kB (fun q e => ?_) fun q e => ?_), kC, ?_, ⟨kC, m2.id0, r6, ?_, ?_, nf', nt', ft'⟩⟩
    · rcases f1 q e with h | h
      · exact .inl h
      · exact .inr h
    · rcases f2 q e with h | h
      · exact .inl h
      · exact .inr (by have := k1.len; omega)
    · rw [q0, e2, Ab.bs, J33_8_1]
      have d8' : H2.get id (0 + 8) = some (.slice fu) := d8
      have b9' : H3.get id (0 + 9) = some (.slice tk) := b9
      simp only [Ab.bs, d8', tSlice, e3, b9', hsame, ct, e4, p5, p6]
    · exact (o3'.kp (Kp.set _ _ _) fun q e g => (nf' q e).1 g).kp (Kp.set _ _ _) fun q e g => (nf' q e).1 g
    · exact (o4.kp (Kp.set _ _ _) fun q e g => (nt' q e).1 g).kp (Kp.set _ _ _) fun q e g => (nt' q e).1 g
end
end
end Go.Proofs.Ytnjdajcgcnjamaa
