/- Layer 10: what a step begins with. -/
import Derived.Test.YtnipccoenalnkaaGreatSqG
import Derived.Test.YtnipccoenalnkaaGreatXl
namespace Go.Proofs.YtnipccoenalnkaaGreat
open Go Go.Proofs.YtnipccoenalnkaaGreat.Ab
set_option linter.unusedVariables false
set_option linter.unusedSimpArgs false
set_option maxRecDepth 100000
noncomputable section
theorem u64w (n : Int) : u64p (IntKind.u64.wrap n) := by unfold u64p; rw [wrap_u64]; omega
theorem Go2.ge {H H' : Heap} {L : Nat} {M M' : Mm} {R R' : Rm} {c d : Co} (P : Par H L M R c d) (g : Go2 M R M' R' H H') : ∀ i, (M.In i ∨ R.Inm i) → L ≤ i := fun i h => by
  rcases h with h | h
  · exact P.m.ge h
  · exact P.r.ge (.inl h)
theorem store2 {H : Heap} {L N : Nat} {M : Mm} {R : Rm} {c : Co} (P : Par H L M R c c) (f : c.Fit N) (hN : N < 65536) (t a w v : Int) (ha : u64p a) (hv : u64p v) :
    ∃ M' R' H1 H', f32 M.p t a w v H = some ((storeC c t a w v).1, H1) ∧ f33 R.p t a w v H1 = some ((storeC c t a w v).1, H') ∧ Par H' L M' R' (storeC c t a w v).2 (storeC c t a w v).2 ∧ Go2 M R M' R' H H' :=
  both P (f := fun p H => f32 p t a w v H) (g := fun p H => f33 p t a w v H) (fun M H h => store_x h f hN t a w v) (fun R H h => rstore_x h f hN t a w v ha hv)
/-- Where a store of a law goes; some stores, one behind the other. -/
def atC (lo : Option Int) (x : Cal) : Int := match lo with
  | some lo => bif x.near then IntKind.u64.wrap (lo + x.at'.tmod 72) else x.at'
  | none => x.at'
def opsC (lo : Option Int) : List Cal → Nat → Co → Co
  | [], _, c => c
  | _ :: _, 0, c => c
  | x :: l, n + 1, c => opsC lo l n (storeC c x.t (atC lo x) x.w x.v).2
theorem loop8 (L : Nat) (o ops : Option Sl) (ys : List Ar) (xs : List Cal) (hx : xs.length ≤ 9223372036854775807) (hxw : ∀ x, x ∈ xs → x.Wf) (p q : Option (Nat × Nat)) : ∀ (m n i : Nat) (M : Mm) (R : Rm) (c : Co) (H : Heap), M.p = p → R.p = q → i + m = xs.length → i ≤ 12 → Par H L M R c c → c.Fit i → RSL 5 E5 H L o ys → RSL 7 E7 H L ops xs →
    ∃ (M' : Mm) (R' : Rm) (c' : Co) (N : Nat) (H' : Heap), D8_7 (n + m + 1) (S8_7 o p q ops (xs.length : Int) (i : Int) H) = some (.exit 0, X8_7 p q H') ∧ M'.p = p ∧ Par H' L M' R' c' c' ∧ c'.Fit N ∧ N ≤ 12 ∧ c' = opsC (ys.head?.map Ar.lo) (xs.drop i) (12 - i) c ∧ Kp (fun j => L ≤ j) H H'
  | 0, n, i, M, R, c, H, hp, hq, hm, hi, P, f, ho, hs => ⟨M, R, c, i, H, by rw [D8_7_s, dF (by omega), cf], hp, P, f, hi, by rw [List.drop_eq_nil_of_le (by omega)]; rfl, Kp.refl _ _⟩
  | m + 1, n, i, M, R, c, H, hp, hq, hm, hi, P, f, ho, hs => by
    have hil : i < xs.length := by omega
    obtain ⟨sl, e0, g, c0, c1, c2, c3, c4, c5, c6⟩ := gets7 hs.1 (List.getElem?_eq_getElem hil)
    have hw := hxw _ (List.getElem_mem hil)
    rw [show n + (m + 1) + 1 = (n + m + 1) + 1 by omega, D8_7_s, dT (by omega), ct]
    rw [show ops.bind = (some sl).bind (β := AExit × St) by rw [e0]]
    simp only [Ab.bs, g, ct, c0, c1, c2, c3, c4, c5, c6, tInt, tBool, i64_succ i (by omega)]
    have hdr : xs.drop i = xs[i] :: xs.drop (i + 1) := List.drop_eq_getElem_cons hil
    by_cases h12 : i = 12
    · subst h12
      exact ⟨M, R, c, 12, H, by rw [dT (by omega), ct], hp, P, f, Nat.le_refl _, by rw [List.drop_eq_getElem_cons hil]; rfl, Kp.refl _ _⟩
    · rw [dF (show ¬ (i : Int) ≥ 12 by omega), cf]
      generalize xs[i] = x at *
      have act : ∀ a, u64p a → a = atC (ys.head?.map Ar.lo) x → ∃ (M' : Mm) (R' : Rm) (c' : Co) (N : Nat) (H' : Heap), ((f32 p x.t a x.w x.v H).bind fun v6 => (f33 q x.t a x.w x.v v6.2).bind fun v5 => D8_7 (n + m + 1) (S8_7 o p q ops (xs.length : Int) ((i + 1 : Nat) : Int) v5.2)) = some (.exit 0, X8_7 p q H') ∧ M'.p = p ∧ Par H' L M' R' c' c' ∧ c'.Fit N ∧ N ≤ 12 ∧ c' = opsC (ys.head?.map Ar.lo) (xs.drop i) (12 - i) c ∧ Kp (fun j => L ≤ j) H H' := by
        intro a ha hat
        obtain ⟨M1, R1, H1, H2, e1, e2, P1, G⟩ := store2 P f (by omega) x.t a x.w x.v ha hw.v
        rw [hp] at e1
        rw [hq] at e2
        have hge := Go2.ge P G
        obtain ⟨M', R', c', N, H', r⟩ := loop8 L o ops ys xs hx hxw p q m n (i + 1) M1 R1 _ H2 (by unfold Mm.p; rw [G.bm]; exact hp) (by unfold Rm.p; rw [G.br]; exact hq) (by omega) (by omega) P1 (store_fit f _ _ _ _) (ho.kp G.k hge) (hs.kp G.k hge)
        refine ⟨M', R', c', N, H', ?_, r.2.1, r.2.2.1, r.2.2.2.1, r.2.2.2.2.1, ?_, G.k.trans r.2.2.2.2.2.2 hge fun _ _ h => h⟩
        · rw [e1, Ab.bs]
          simp only []
          rw [e2, Ab.bs]
          exact r.1
        · rw [r.2.2.2.2.2.1, hdr, show 12 - i = (12 - (i + 1)) + 1 by omega]
          show _ = opsC _ (xs.drop (i + 1)) _ _
          rw [← hat]
      cases hnr : x.near with
      | false => simp only [cf]; exact act x.at' hw.a (by unfold atC; rw [hnr]; cases ys.head?.map Ar.lo <;> rfl)
      | true =>
        simp only [ct, ho.1.slenEq]
        by_cases hy : ys.length = 0
        · rw [dF (by omega), cf]; exact act x.at' hw.a (by rw [show ys = [] from List.eq_nil_of_length_eq_zero hy]; rfl)
        · rw [dT (by omega), ct]
          have h0 : 0 < ys.length := by omega
          obtain ⟨so, eo, go, ko⟩ := ho.1.idx E5_len (List.getElem?_eq_getElem h0)
          have k0 := ko 0 (.int .u64 ys[0].lo) rfl
          have k0' : H.get so.id (so.off + 0 + 0) = some (.int .u64 ys[0].lo) := k0
          clear k0 ko
          have hlo : ys.head?.map Ar.lo = some ys[0].lo := by rw [List.head?_eq_getElem?, List.getElem?_eq_getElem h0]; rfl
          generalize ys[0].lo = lo at *
          have hb : ∀ {β : Type} (f : Sl → Option β), o.bind f = f so := fun f => by rw [eo]; rfl
          rw [hb]
          have go' : (inb 0 so.len && so.esz == 5) = true := go
          simp only [go', ct, k0', Ab.bs, tInt]
          exact act (IntKind.u64.wrap (lo + x.at'.tmod 72)) (u64w _) (by unfold atC; rw [hlo, hnr]; rfl)
/-- Memory behind what was ahead of a step. -/
def worldC (ys : List Ar) (xs : List Cal) (mine : Bool) : Co := opsC (ys.head?.map Ar.lo) xs 12 (bif mine then (ownC (freshC ys) 0 1).2 else freshC ys)
theorem f8_y (s : TStart) (zs : List Ar) (hz : zs.length ≤ 9223372036854775807) (xs : List Cal) (hx : xs.length ≤ 9223372036854775807) (hxw : ∀ x, x ∈ xs → x.Wf) (H : Heap) (hR : RS 5 E5 H s.L zs) (hX : ∀ x, x ∈ zs → RS 1 E8 H x.sl x.data) (hS : RS 7 E7 H s.ops xs) :
    ∃ (M : Mm) (q : Option (Nat × Nat)) (c : Co) (N L : Nat) (H' : Heap), f8 s H = some ((M.p, q), H') ∧ M.Is H' L c ∧ c.Fit N ∧ N ≤ 12 ∧ Kp No H H' ∧ (∀ i, M.In i → H.length ≤ i) ∧ ∃ ys, ys.map Ar.inf = (zs.take 8).map cutI ∧ c = worldC ys xs s.mine := by
  obtain ⟨o, ys, H1, a1, a2, a3, a4⟩ := f22_y s.L zs hz H hR hX
  obtain ⟨M, H2, b1, b2, b3, b4⟩ := ours_x o ys H1 a2
  obtain ⟨R, H3, c1, c2, c3, c4⟩ := rnew_x o ys H2 (a2.no b4)
  have hb : M.b < H2.length := b3.lt ⟨.hd, rfl⟩
  have P : Par H3 M.b M R (freshC ys) (freshC ys) := ⟨b3.no c4, c3.mono (by omega), fun i h1 h2 => by
    have := b3.lt h1; have := c3.ge h2; omega⟩
  have fit := fresh_fit a2
  have hS3 : RSL 7 E7 H3 M.b s.ops xs := (RSL.of E7_len (by decide) (hS.no a3) b2).kp (b4.tr c4) fun _ h => absurd h (fun h => h)
  have ho3 : RSL 5 E5 H3 M.b o ys := (RSL.of E5_len (by decide) a2.r b2).kp (b4.tr c4) fun _ h => absurd h (fun h => h)
  have run : ∀ (M1 : Mm) (R1 : Rm) (c0 : Co) (G : Heap), M1.p = M.p → R1.p = R.p → Par G M.b M1 R1 c0 c0 → c0.Fit 0 → RSL 5 E5 G M.b o ys → RSL 7 E7 G M.b s.ops xs → ∃ (M' : Mm) (q : Option (Nat × Nat)) (c : Co) (N L : Nat) (H' : Heap), (LL8_7 (S8_7 o M.p R.p s.ops (slen s.ops) 0 G)).bind J8_7 = some ((M'.p, q), H') ∧ M'.Is H' L c ∧ c.Fit N ∧ N ≤ 12 ∧ Kp (fun j => M.b ≤ j) G H' ∧ (∀ i, M'.In i → M.b ≤ i) ∧ c = opsC (ys.head?.map Ar.lo) xs 12 c0 := by
    intro M1 R1 c0 G h1 h2 P1 f1 ho hs
    obtain ⟨n, e⟩ := LL8_7_of xs.length (by omega) (S8_7 o M.p R.p s.ops (slen s.ops) 0 G)
    obtain ⟨M', R', c', N, H', r1, r2, r3, r4, r5, r6, r7⟩ := loop8 M.b o s.ops ys xs hx hxw M.p R.p xs.length n 0 M1 R1 c0 G h1 h2 (by omega) (by omega) P1 f1 ho hs
    refine ⟨M', R.p, c', N, M.b, H', ?_, r3.m, r4, r5, r7, fun i h => r3.m.ge h, r6⟩
    rw [e, hs.1.slenEq, show (0 : Int) = ((0 : Nat) : Int) from rfl, r1, Ab.bs, J8_7_0, r2]
  rw [q8, a1, Ab.bs]
  dsimp only
  rw [b1, Ab.bs]
  dsimp only
  rw [c1, Ab.bs]
  dsimp only
  have k03 : Kp No H H3 := (a3.tr b4).tr c4
  have hbl : H.length ≤ M.b := Nat.le_trans a3.len b2
  cases hmi : s.mine with
  | false =>
    rw [cf]
    obtain ⟨M', q, c, N, L, H', z1, z2, z3, z4, z5, z6, z7⟩ := run M R _ H3 rfl rfl P fit ho3 hS3
    exact ⟨M', q, c, N, L, H', z1, z2, z3, z4, k03.trans z5 (fun _ h => h) fun i hi h => absurd h (by omega), fun i h => Nat.le_trans hbl (z6 i h), ys, a4, by rw [z7]; rfl⟩
  | true =>
    obtain ⟨M1, R1, H4, H5, e1, e2, P1, G⟩ := both P (f := fun p H => f30 p 0 1 H) (g := fun p H => f31 p 0 1 H) (fun M H h => own_x h fit 0 1) (fun R H h => rown_x h fit 0 1)
    have hge := Go2.ge P G
    rw [ct, e1, Ab.bs]
    dsimp only
    rw [e2, Ab.bs]
    obtain ⟨M', q, c, N, L, H', z1, z2, z3, z4, z5, z6, z7⟩ := run M1 R1 _ H5 (by unfold Mm.p; rw [G.bm]) (by unfold Rm.p; rw [G.br]) P1 (own_fit fit 0 1) (ho3.kp G.k hge) (hS3.kp G.k hge)
    have k05 : Kp No H H5 := k03.trans G.k (fun _ h => h) fun i hi h => absurd (hge i h) (by omega)
    exact ⟨M', q, c, N, L, H', z1, z2, z3, z4, k05.trans z5 (fun _ h => h) fun i hi h => absurd h (by omega), fun i h => Nat.le_trans hbl (z6 i h), ys, a4, by rw [z7]; rfl⟩
end
end Go.Proofs.YtnipccoenalnkaaGreat
