/- Layer 10: what a step begins with. -/
import Derived.Test.YtnipccoenalnkaaGreatSqG
import Derived.Test.YtnipccoenalnkaaGreatXl
namespace Go.Proofs.YtnipccoenalnkaaGreat
open Go Go.Proofs.YtnipccoenalnkaaGreat.Ab
set_option linter.unusedVariables false
set_option linter.unusedSimpArgs false
set_option maxRecDepth 100000
noncomputable section
theorem u64w (n : Int) : u64p (IntKind.u64.wrap n) := by unfold u64p; rw [wrap_u64]; omega
theorem Go2.ge {H H' : Heap} {L : Nat} {M M' : Mm} {R R' : Rm} {c d : Co} (P : Par H L M R c d) (g : Go2 M R M' R' H H') : ∀ i, (M.In i ∨ R.Inm i) → L ≤ i := fun i h => by
  rcases h with h | h
  · exact P.m.ge h
  · exact P.r.ge (.inl h)
theorem store2 {H : Heap} {L N : Nat} {M : Mm} {R : Rm} {c : Co} (P : Par H L M R c c) (f : c.Fit N) (hN : N < 65536) (t a w v : Int) (ha : u64p a) (hv : u64p v) :
    ∃ M' R' H1 H', f32 M.p t a w v H = some ((storeC c t a w v).1, H1) ∧ f33 R.p t a w v H1 = some ((storeC c t a w v).1, H') ∧ Par H' L M' R' (storeC c t a w v).2 (storeC c t a w v).2 ∧ Go2 M R M' R' H H' :=
  both P (f := fun p H => f32 p t a w v H) (g := fun p H => f33 p t a w v H) (fun M H h => store_x h f hN t a w v) (fun R H h => rstore_x h f hN t a w v ha hv)
theorem loop8 (L : Nat) (o ops : Option Sl) (ys : List Ar) (xs : List Cal) (hx : xs.length ≤ 9223372036854775807) (hxw : ∀ x, x ∈ xs → x.Wf) (p q : Option (Nat × Nat)) : ∀ (m n i : Nat) (M : Mm) (R : Rm) (c : Co) (H : Heap), M.p = p → R.p = q → i + m = xs.length → i ≤ 12 → Par H L M R c c → c.Fit i → RSL 5 E5 H L o ys → RSL 7 E7 H L ops xs →
    ∃ (M' : Mm) (R' : Rm) (c' : Co) (N : Nat) (H' : Heap), D8_7 (n + m + 1) (S8_7 o p q ops (xs.length : Int) (i : Int) H) = some (.exit 0, X8_7 p q H') ∧ M'.p = p ∧ Par H' L M' R' c' c' ∧ c'.Fit N ∧ N ≤ 12
  | 0, n, i, M, R, c, H, hp, hq, hm, hi, P, f, ho, hs => ⟨M, R, c, i, H, by rw [D8_7_s, dF (by omega), cf], hp, P, f, hi⟩
  | m + 1, n, i, M, R, c, H, hp, hq, hm, hi, P, f, ho, hs => by
    have hil : i < xs.length := by omega
    obtain ⟨sl, e0, g, c0, c1, c2, c3, c4, c5, c6⟩ := gets7 hs.1 (List.getElem?_eq_getElem hil)
    have hw := hxw _ (List.getElem_mem hil)
    rw [show n + (m + 1) + 1 = (n + m + 1) + 1 by omega, D8_7_s, dT (by omega), ct]
    rw [show ops.bind = (some sl).bind (β := AExit × St) by rw [e0]]
    simp only [Ab.bs, g, ct, c0, c1, c2, c3, c4, c5, c6, tInt, tBool, i64_succ i (by omega)]
    generalize xs[i] = x at *
    by_cases h12 : i = 12
    · subst h12
      exact ⟨M, R, c, 12, H, by rw [dT (by omega), ct], hp, P, f, Nat.le_refl _⟩
    · rw [dF (show ¬ (i : Int) ≥ 12 by omega), cf]
      have act : ∀ a, u64p a → ∃ (M' : Mm) (R' : Rm) (c' : Co) (N : Nat) (H' : Heap), ((f32 p x.t a x.w x.v H).bind fun v6 => (f33 q x.t a x.w x.v v6.2).bind fun v5 => D8_7 (n + m + 1) (S8_7 o p q ops (xs.length : Int) ((i + 1 : Nat) : Int) v5.2)) = some (.exit 0, X8_7 p q H') ∧ M'.p = p ∧ Par H' L M' R' c' c' ∧ c'.Fit N ∧ N ≤ 12 := by
        intro a ha
        obtain ⟨M1, R1, H1, H2, e1, e2, P1, G⟩ := store2 P f (by omega) x.t a x.w x.v ha hw.v
        rw [hp] at e1
        rw [hq] at e2
        have hge := Go2.ge P G
        obtain ⟨M', R', c', N, H', r⟩ := loop8 L o ops ys xs hx hxw p q m n (i + 1) M1 R1 _ H2 (by unfold Mm.p; rw [G.bm]; exact hp) (by unfold Rm.p; rw [G.br]; exact hq) (by omega) (by omega) P1 (store_fit f _ _ _ _) (ho.kp G.k hge) (hs.kp G.k hge)
        refine ⟨M', R', c', N, H', ?_, r.2⟩
        rw [e1, Ab.bs]
        simp only []
        rw [e2, Ab.bs]
        exact r.1
      cases x.near with
      | false => simp only [cf]; exact act x.at' hw.a
      | true =>
        simp only [ct, ho.1.slenEq]
        by_cases hy : ys.length = 0
        · rw [dF (by omega), cf]; exact act x.at' hw.a
        · rw [dT (by omega), ct]
          have h0 : 0 < ys.length := by omega
          obtain ⟨so, eo, go, ko⟩ := ho.1.idx E5_len (List.getElem?_eq_getElem h0)
          have k0 := ko 0 (.int .u64 ys[0].lo) rfl
          have k0' : H.get so.id (so.off + 0 + 0) = some (.int .u64 ys[0].lo) := k0
          clear k0 ko
          generalize ys[0].lo = lo at *
          have hb : ∀ {β : Type} (f : Sl → Option β), o.bind f = f so := fun f => by rw [eo]; rfl
          rw [hb]
          have go' : (inb 0 so.len && so.esz == 5) = true := go
          simp only [go', ct, k0', Ab.bs, tInt]
          exact act (IntKind.u64.wrap (lo + x.at'.tmod 72)) (u64w _)
theorem f8_x (s : TStart) (zs : List Ar) (hz : zs.length ≤ 9223372036854775807) (xs : List Cal) (hx : xs.length ≤ 9223372036854775807) (hxw : ∀ x, x ∈ xs → x.Wf) (H : Heap) (hR : RS 5 E5 H s.L zs) (hX : ∀ x, x ∈ zs → RS 1 E8 H x.sl x.data) (hS : RS 7 E7 H s.ops xs) :
    ∃ (M : Mm) (q : Option (Nat × Nat)) (c : Co) (N L : Nat) (H' : Heap), f8 s H = some ((M.p, q), H') ∧ M.Is H' L c ∧ c.Fit N ∧ N ≤ 12 := by
  obtain ⟨o, ys, H1, a1, a2, a3⟩ := f22_x s.L zs hz H hR hX
  obtain ⟨M, H2, b1, b2, b3, b4⟩ := ours_x o ys H1 a2
  obtain ⟨R, H3, c1, c2, c3, c4⟩ := rnew_x o ys H2 (a2.no b4)
  have hb : M.b < H2.length := b3.lt ⟨.hd, rfl⟩
  have P : Par H3 M.b M R (freshC ys) (freshC ys) := ⟨b3.no c4, c3.mono (by omega), fun i h1 h2 => by
    have := b3.lt h1; have := c3.ge h2; omega⟩
  have fit := fresh_fit a2
  have hS3 : RSL 7 E7 H3 M.b s.ops xs := (RSL.of E7_len (by decide) (hS.no a3) b2).kp (b4.tr c4) fun _ h => absurd h (fun h => h)
  have ho3 : RSL 5 E5 H3 M.b o ys := (RSL.of E5_len (by decide) a2.r b2).kp (b4.tr c4) fun _ h => absurd h (fun h => h)
  have run : ∀ (M1 : Mm) (R1 : Rm) (c : Co) (G : Heap), M1.p = M.p → R1.p = R.p → Par G M.b M1 R1 c c → c.Fit 0 → RSL 5 E5 G M.b o ys → RSL 7 E7 G M.b s.ops xs → ∃ (M' : Mm) (q : Option (Nat × Nat)) (c : Co) (N L : Nat) (H' : Heap), (LL8_7 (S8_7 o M.p R.p s.ops (slen s.ops) 0 G)).bind J8_7 = some ((M'.p, q), H') ∧ M'.Is H' L c ∧ c.Fit N ∧ N ≤ 12 := by
    intro M1 R1 c G h1 h2 P1 f1 ho hs
    obtain ⟨n, e⟩ := LL8_7_of xs.length (by omega) (S8_7 o M.p R.p s.ops (slen s.ops) 0 G)
    obtain ⟨M', R', c', N, H', r1, r2, r3, r4, r5⟩ := loop8 M.b o s.ops ys xs hx hxw M.p R.p xs.length n 0 M1 R1 c G h1 h2 (by omega) (by omega) P1 f1 ho hs
    refine ⟨M', R.p, c', N, M.b, H', ?_, r3.m, r4, r5⟩
    rw [e, hs.1.slenEq, show (0 : Int) = ((0 : Nat) : Int) from rfl, r1, Ab.bs, J8_7_0, r2]
  rw [q8, a1, Ab.bs]
  dsimp only
  rw [b1, Ab.bs]
  dsimp only
  rw [c1, Ab.bs]
  dsimp only
  cases s.mine with
  | false => rw [cf]; exact run M R _ H3 rfl rfl P fit ho3 hS3
  | true =>
    obtain ⟨M1, R1, H4, H5, e1, e2, P1, G⟩ := both P (f := fun p H => f30 p 0 1 H) (g := fun p H => f31 p 0 1 H) (fun M H h => own_x h fit 0 1) (fun R H h => rown_x h fit 0 1)
    have hge := Go2.ge P G
    rw [ct, e1, Ab.bs]
    dsimp only
    rw [e2, Ab.bs]
    exact run M1 R1 _ H5 (by unfold Mm.p; rw [G.bm]) (by unfold Rm.p; rw [G.br]) P1 (own_fit fit 0 1) (ho3.kp G.k hge) (hS3.kp G.k hge)
end
end Go.Proofs.YtnipccoenalnkaaGreat
