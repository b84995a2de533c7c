/- Layer 10: memory, of layer 9: memory made of areas. -/
import Derived.Test.YtnipccoenalnkaaGreatSmC
namespace Go.Proofs.YtnipccoenalnkaaGreat
open Go Go.Proofs.YtnipccoenalnkaaGreat.Ab
set_option linter.unusedVariables false
set_option linter.unusedSimpArgs false
set_option maxRecDepth 100000
noncomputable section
def nils : List (Option Sl) := List.replicate 8 none
def noRows {β : Type} : List (List β) := List.replicate 8 []
/-- An area, its bytes being the memory's own. -/
def Fresh (z a : Ar) : Prop := a.lo = z.lo ∧ a.data = z.data ∧ a.wr = z.wr ∧ a.pr = z.pr ∧ a.ow = -1
def Freshes (zs ars : List Ar) : Prop := ∀ (k : Nat) (a : Ar), ars[k]? = some a → ∃ z, zs[k]? = some z ∧ Fresh z a
/-- What is read while memory is made: it lies below. -/
structure Src (H : Heap) (L : Nat) (zs : List Ar) : Prop where
  d : ∀ z, z ∈ zs → RS 1 E8 H z.sl z.data
  dl : ∀ z, z ∈ zs → ∀ sl, z.sl = some sl → z.data ≠ [] → sl.id < L
  dn : ∀ z, z ∈ zs → z.data.length ≤ 1048576
theorem Src.kp {H H' : Heap} {L : Nat} {zs : List Ar} (h : Src H L zs) (k : Kp (fun i => L ≤ i) H H') : Src H' L zs :=
  ⟨fun z hz => (h.d z hz).kp k fun sl e h0 => Nat.not_le_of_lt (h.dl z hz sl e h0), h.dl, h.dn⟩
theorem loop41 (b L : Nat) (l : Option Sl) (zs : List Ar) (hz : zs.length ≤ 1000) (hl : ∀ sl, l = some sl → zs ≠ [] → sl.id < L) : ∀ (m n i : Nat) (s : Option Sl) (ars : List Ar) (H : Heap), i + m = zs.length →
    MR H b L s ars nils noRows → ars.length = i → RS 4 E4 H l zs → Src H L zs → Freshes zs ars →
    ∃ s' ars' H', D41_3 (n + m + 1) (some (b, 0)) l (zs.length : Int) (i : Int) H = some (.exit 0, X41_3 (some (b, 0)) H') ∧ MR H' b L s' ars' nils noRows ∧ ars'.length = zs.length ∧ Freshes zs ars' ∧ Kp (fun i => L ≤ i) H H'
  | 0, n, i, s, ars, H, hm, hM, hi, hR, hS, hF => by
    have g : decide ((i : Int) < (zs.length : Int)) = false := by simp; omega
    exact ⟨s, ars, H, by rw [D41_3_s, g, cf], hM, by omega, hF, Kp.refl _ _⟩
  | m + 1, n, i, s, ars, H, hm, hM, hi, hR, hS, hF => by
    have g : decide ((i : Int) < (zs.length : Int)) = true := by simp; omega
    have hlt : i < zs.length := by omega
    have hzi := List.getElem?_eq_getElem hlt
    have hmem : zs[i] ∈ zs := List.getElem_mem hlt
    obtain ⟨sl, rfl, g1, c0, c1, c2, c3⟩ := gets4 hR hzi
    obtain ⟨d, H1, e1, e2, e3, e4⟩ := f84_x zs[i].sl zs[i].data H (hS.d _ hmem) (hS.dn _ hmem)
    have hM1 := hM.no e3
    have hL : L ≤ H.length := by
      have := hM.ge .hd b rfl; have := hM.lt .hd b rfl; omega
    obtain ⟨s', H2, H3, f1, f2, f3, f4⟩ := hM1.add (by omega) { lo := zs[i].lo, sl := d, data := zs[i].data, wr := zs[i].wr, pr := zs[i].pr, ow := -1 } H.length e2 e4 (fun x j hj => hM.lt x j hj) hL
    have hg : H1.get b (0 + 0) = some (.slice s) := by rw [get_of hM1.hd]; rfl
    have kk : Kp (fun i => L ≤ i) H H3 := (e3.mono (D := fun i => L ≤ i) fun i _ hf => absurd hf (fun h => h)).trans f4 (fun _ h => h) fun _ _ h => h
    obtain ⟨s4, ars4, H4, r1, r2, r3, r4, r5⟩ := loop41 b L (some sl) zs hz hl m n (i + 1) s' _ H3 (by omega) f3 (by simp; omega) (hR.kp kk fun sl e h0 => Nat.not_le_of_lt (hl sl e h0)) (hS.kp kk) (fun k a hk => by
      rcases Nat.lt_or_ge k ars.length with h1 | h1
      · rw [List.getElem?_append_left h1] at hk; exact hF k a hk
      · rw [List.getElem?_append_right h1] at hk
        cases hm : k - ars.length with
        | succ q => rw [hm] at hk; simp at hk
        | zero =>
          rw [hm] at hk
          simp at hk
          subst hk
          exact ⟨zs[i], by rw [show k = i by omega]; exact hzi, rfl, rfl, rfl, rfl, rfl⟩)
    refine ⟨s4, ars4, H4, ?_, r2, r3, r4, kk.trans r5 (fun _ h => h) fun _ _ h => h⟩
    rw [show n + (m + 1) + 1 = (n + m + 1) + 1 by omega, D41_3_s, g]
    simp only [ct, Ab.bs, g1, c0, c1, c2, c3, tInt, tSlice, tBool, e1, hg]
    have f1 : (H1 ++ [Blk.row [Cell.int .u64 zs[i].lo, Cell.slice d, Cell.bool zs[i].wr, Cell.bool zs[i].pr, Cell.int .i64 (-1)] false]).append 5 48 s (some { id := List.length H1, off := 0, len := 1, cap := 1, esz := 5 }) = some (s', H2) := f1
    rw [f1, Ab.bs]
    dsimp only
    rw [show (0 : Nat) + 0 = 0 from rfl, f2, Ab.bs, i64_succ i (by omega)]
    exact r1
theorem MRg.empty {β : Type} {en : Nat} {eE : β → List Cell} (H : Heap) : MRg en eE (H ++ [Blk.row [Cell.slice none, Cell.slice none, Cell.slice none, Cell.slice none, Cell.slice none, Cell.slice none, Cell.slice none, Cell.slice none, Cell.slice none] false]) H.length H.length none [] nils noRows where
  hd := push_get _ _
  ar := rfl
  dt k a e := by simp at e
  ro t r l hr hl := by
    simp only [nils, noRows, List.getElem?_replicate] at hr hl
    split at hr
    · rename_i ht
      rw [if_pos ht] at hl
      cases hr; cases hl; rfl
    · cases hr
  rl := rfl
  rw := rfl
  inj x y i hx hy := by
    have hr : ∀ t, idAt H.length none [] nils (.row t) = none := fun t => by
      simp only [idAt, nils, List.getElem?_replicate]
      split <;> rfl
    cases x with
    | hd => cases y with
      | hd => rfl
      | ar => cases hy
      | dt k => simp [idAt] at hy
      | row t => rw [hr] at hy; cases hy
    | ar => cases hx
    | dt k => simp [idAt] at hx
    | row t => rw [hr] at hx; cases hx
  ge x i hx := by
    cases x with
    | hd => cases hx; exact Nat.le_refl _
    | ar => cases hx
    | dt k => simp [idAt] at hx
    | row t =>
      simp only [idAt, nils, List.getElem?_replicate] at hx
      split at hx <;> cases hx
  lt x i hx := by
    cases x with
    | hd => cases hx; simp
    | ar => cases hx
    | dt k => simp [idAt] at hx
    | row t =>
      simp only [idAt, nils, List.getElem?_replicate] at hx
      split at hx <;> cases hx
/-- mem.New. -/
theorem f41_x (l : Option Sl) (zs : List Ar) (hz : zs.length ≤ 1000) (H : Heap) (hR : RS 4 E4 H l zs) (hS : Src H H.length zs) :
    ∃ s ars H', f41 l H = some (some (H.length, 0), H') ∧ MR H' H.length H.length s ars nils noRows ∧ ars.length = zs.length ∧ Freshes zs ars ∧ Kp No H H' := by
  rw [q41]
  have k0 := Kp.push1 H (Blk.row [Cell.slice none, Cell.slice none, Cell.slice none, Cell.slice none, Cell.slice none, Cell.slice none, Cell.slice none, Cell.slice none, Cell.slice none] false)
  have hR1 := hR.no k0
  have hS1 := hS.kp (k0.mono (D := fun i => H.length ≤ i) fun i _ hf => absurd hf (fun h => h))
  have hM := MRg.empty (en := 3) (eE := E3) H
  generalize (H ++ [Blk.row [Cell.slice none, Cell.slice none, Cell.slice none, Cell.slice none, Cell.slice none, Cell.slice none, Cell.slice none, Cell.slice none, Cell.slice none] false]) = H1 at *
  obtain ⟨n, e⟩ := LL41_3_of zs.length (by omega) (some (H.length, 0)) l (slen l) 0 H1
  obtain ⟨s, ars, H', r1, r2, r3, r4, r5⟩ := loop41 H.length H.length l zs hz (fun sl e h0 => by subst e; exact RS.lt E4_len (by decide) hR h0) zs.length n 0 none [] H1 (by omega) hM rfl hR1 hS1 (fun k a hk => by simp at hk)
  refine ⟨s, ars, H', ?_, r2, r3, r4, k0.tr' r5⟩
  rw [e, hR.slenEq, show (0 : Int) = ((0 : Nat) : Int) from rfl, r1, Ab.bs, J41_3_0]
end
end Go.Proofs.YtnipccoenalnkaaGreat
