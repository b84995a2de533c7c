/- Layer 10: memory, of layer 9: to a private area nobody comes but its thread: MemPrivate holds. -/
import Derived.Test.YtnipccoenalnkaaGreatSmO
namespace Go.Proofs.YtnipccoenalnkaaGreat
open Go Go.Proofs.YtnipccoenalnkaaGreat.Ab
set_option linter.unusedVariables false
set_option linter.unusedSimpArgs false
set_option maxRecDepth 100000
noncomputable section
/-! ### the document's New and Find -/
theorem loop29 {β : Type} {en : Nat} {eE : β → List Cell} (b L : Nat) (l : Option Sl) (zs : List Ar) (hz : zs.length ≤ 1000) (hl : ∀ sl, l = some sl → zs ≠ [] → sl.id < L) : ∀ (m n i : Nat) (s : Option Sl) (ars : List Ar) (H : Heap), i + m = zs.length →
    MRg en eE H b L s ars nils noRows → ars.length = i → RS 5 E5 H l zs → Src H L zs → Freshes zs ars →
    ∃ s' ars' H', D29_3 (n + m + 1) (some (b, 0)) l (zs.length : Int) (i : Int) H = some (.exit 0, X29_3 (some (b, 0)) H') ∧ MRg en eE H' b L s' ars' nils noRows ∧ ars'.length = zs.length ∧ Freshes zs ars' ∧ Kp (fun i => L ≤ i) H H'
  | 0, n, i, s, ars, H, hm, hM, hi, hR, hS, hF => by
    have g : decide ((i : Int) < (zs.length : Int)) = false := by simp; omega
    exact ⟨s, ars, H, by rw [D29_3_s, g, cf], hM, by omega, hF, Kp.refl _ _⟩
  | m + 1, n, i, s, ars, H, hm, hM, hi, hR, hS, hF => by
    have g : decide ((i : Int) < (zs.length : Int)) = true := by simp; omega
    have hlt : i < zs.length := by omega
    have hzi := List.getElem?_eq_getElem hlt
    have hmem : zs[i] ∈ zs := List.getElem_mem hlt
    obtain ⟨sl, rfl, g1, c0, c1, c2, c3, c4⟩ := gets5 hR hzi
    obtain ⟨d, H1, e1, e2, e3, e4⟩ := clone_x H zs[i].sl zs[i].data (hS.d _ hmem) (hS.dn _ hmem)
    have hM1 := hM.no e3
    have hL : L ≤ H.length := by
      have := hM.ge .hd b rfl; have := hM.lt .hd b rfl; omega
    obtain ⟨s', H2, H3, f1, f2, f3, f4⟩ := hM1.add (by omega) { lo := zs[i].lo, sl := d, data := zs[i].data, wr := zs[i].wr, pr := zs[i].pr, ow := -1 } H.length e2 e4 (fun x j hj => hM.lt x j hj) hL
    have hg : H1.get b (0 + 0) = some (.slice s) := by rw [get_of hM1.hd]; rfl
    have kk : Kp (fun i => L ≤ i) H H3 := (e3.mono (D := fun i => L ≤ i) fun i _ hf => absurd hf (fun h => h)).trans f4 (fun _ h => h) fun _ _ h => h
    obtain ⟨s4, ars4, H4, r1, r2, r3, r4, r5⟩ := loop29 b L (some sl) zs hz hl m n (i + 1) s' _ H3 (by omega) f3 (by simp; omega) (hR.kp kk fun sl e h0 => Nat.not_le_of_lt (hl sl e h0)) (hS.kp kk) (fun k a hk => by
      rcases Nat.lt_or_ge k ars.length with h1 | h1
      · rw [List.getElem?_append_left h1] at hk; exact hF k a hk
      · rw [List.getElem?_append_right h1] at hk
        cases hm : k - ars.length with
        | succ q => rw [hm] at hk; simp at hk
        | zero =>
          rw [hm] at hk
          simp at hk
          subst hk
          exact ⟨zs[i], by rw [show k = i by omega]; exact hzi, rfl, rfl, rfl, rfl, rfl⟩)
    refine ⟨s4, ars4, H4, ?_, r2, r3, r4, kk.trans r5 (fun _ h => h) fun _ _ h => h⟩
    rw [show n + (m + 1) + 1 = (n + m + 1) + 1 by omega, D29_3_s, g]
    simp only [ct, Ab.bs, g1, c0, c1, c2, c3, c4, tInt, tSlice, tBool, e1, hg]
    have f1 : (H1 ++ [Blk.row [Cell.int .u64 zs[i].lo, Cell.slice d, Cell.bool zs[i].wr, Cell.bool zs[i].pr, Cell.int .i64 (-1)] false]).append 5 48 s (some { id := List.length H1, off := 0, len := 1, cap := 1, esz := 5 }) = some (s', H2) := f1
    rw [f1, Ab.bs]
    dsimp only
    rw [show (0 : Nat) + 0 = 0 from rfl, f2, Ab.bs, i64_succ i (by omega)]
    exact r1
theorem f29_x {β : Type} {en : Nat} {eE : β → List Cell} (l : Option Sl) (zs : List Ar) (hz : zs.length ≤ 1000) (H : Heap) (hR : RS 5 E5 H l zs) (hS : Src H H.length zs) :
    ∃ s ars H', f29 l H = some (some (H.length, 0), H') ∧ MRg en eE H' H.length H.length s ars nils noRows ∧ ars.length = zs.length ∧ Freshes zs ars ∧ Kp No H H' := by
  rw [q29]
  have k0 := Kp.push1 H (Blk.row [Cell.slice none, Cell.slice none, Cell.slice none, Cell.slice none, Cell.slice none, Cell.slice none, Cell.slice none, Cell.slice none, Cell.slice none] false)
  have hR1 := hR.no k0
  have hS1 := hS.kp (k0.mono (D := fun i => H.length ≤ i) fun i _ hf => absurd hf (fun h => h))
  have hM := MRg.empty (en := en) (eE := eE) H
  generalize (H ++ [Blk.row [Cell.slice none, Cell.slice none, Cell.slice none, Cell.slice none, Cell.slice none, Cell.slice none, Cell.slice none, Cell.slice none, Cell.slice none] false]) = H1 at *
  obtain ⟨n, e⟩ := LL29_3_of zs.length (by omega) (some (H.length, 0)) l (slen l) 0 H1
  obtain ⟨s, ars, H', r1, r2, r3, r4, r5⟩ := loop29 H.length H.length l zs hz (fun sl e h0 => by subst e; exact RS.lt E5_len (by decide) hR h0) zs.length n 0 none [] H1 (by omega) hM rfl hR1 hS1 (fun k a hk => by simp at hk)
  refine ⟨s, ars, H', ?_, r2, r3, r4, k0.tr' r5⟩
  rw [e, hR.slenEq, show (0 : Int) = ((0 : Nat) : Int) from rfl, r1, Ab.bs, J29_3_0]
theorem loop109 (s : Option Sl) (ars : List Ar) (hn : ars.length < 9223372036854775807) (x : Int) (H : Heap) (h : RS 5 E5 H s ars) : ∀ (m n i : Nat), i + m = ars.length →
    (D109_2 (n + m + 1) x s (ars.length : Int) (i : Int) H).bind J109_2 = some (findFrom x (ars.drop i) i, H)
  | 0, n, i, hm => by
    have g : decide ((i : Int) < (ars.length : Int)) = false := by simp; omega
    rw [D109_2_s, g, cf, Ab.bs, J109_2_1, List.drop_eq_nil_of_le (by omega)]
    rfl
  | m + 1, n, i, hm => by
    have g : decide ((i : Int) < (ars.length : Int)) = true := by simp; omega
    have hi : i < ars.length := by omega
    obtain ⟨sl, rfl, g1, c0, c1, c2, c3, c4⟩ := gets5 h (List.getElem?_eq_getElem hi)
    have ih := loop109 (some sl) ars hn x H h m n (i + 1) (by omega)
    rw [show n + (m + 1) + 1 = (n + m + 1) + 1 by omega, D109_2_s, g]
    simp only [ct, Ab.bs, g1, c0, c1, c2, c3, c4, tInt, tSlice, tBool, i64_succ i (by omega)]
    rw [List.drop_eq_getElem_cons hi]
    unfold findFrom Ar.has
    cases decide (IntKind.u64.wrap (x - ars[i].lo) < IntKind.u64.wrap (slen ars[i].sl))
    · rw [cf, cf]; exact ih
    · rw [ct, ct, Ab.bs, J109_2_0]
theorem f109_x (p : Nat × Nat) (ars : List Ar) (x : Int) (H : Heap) (h : Rd H p ars) : f109 (some p) x H = some (findA ars x, H) := by
  obtain ⟨h0, s, h1, h2⟩ := h
  rw [q109]
  simp only [Ab.bs, h1, tSlice]
  obtain ⟨n, e⟩ := LL109_2_of ars.length (by omega) x s (slen s) 0 H
  have := loop109 s ars h0 x H h2 ars.length n 0 (by omega)
  rw [List.drop_zero] at this
  rw [e, h2.slenEq, show (0 : Int) = ((0 : Nat) : Int) from rfl, this]
  rfl
/-! ### the law -/
/-- Two lists of areas have the same addresses. -/
theorem find_same (x : Int) : ∀ (l m : List Ar) (i : Nat), l.length = m.length → (∀ (k : Nat) (a c : Ar), l[k]? = some a → m[k]? = some c → a.has x = c.has x) → findFrom x l i = findFrom x m i
  | [], [], i, _, _ => rfl
  | [], _ :: _, i, h, _ => by simp at h
  | _ :: _, [], i, h, _ => by simp at h
  | a :: l, c :: m, i, h, hs => by
    unfold findFrom
    rw [hs 0 a c rfl rfl, find_same x l m (i + 1) (by simpa using h) fun k => hs (k + 1)]
end
end Go.Proofs.YtnipccoenalnkaaGreat
