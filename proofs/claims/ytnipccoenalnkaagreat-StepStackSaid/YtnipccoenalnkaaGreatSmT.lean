/- Layer 10: memory, of layer 9: stores come into memory in their order. -/
import Derived.Test.YtnipccoenalnkaaGreatSmS
namespace Go.Proofs.YtnipccoenalnkaaGreat
open Go Go.Proofs.YtnipccoenalnkaaGreat.Ab
set_option linter.unusedVariables false
set_option linter.unusedSimpArgs false
set_option maxRecDepth 100000
noncomputable section
/-! ### a law's memory -/
def freshC (ys : List Ar) : Co := ⟨nfs (ys.map fun z => { z with ow := -1 }), noRows⟩
theorem fresh_nf {ys ars : List Ar} (hl : ars.length = ys.length) (h : Freshes ys ars) : nfs ars = (freshC ys).ars := by
  refine List.ext_getElem? fun j => ?_
  show (nfs ars)[j]? = (nfs (ys.map fun z => { z with ow := -1 }))[j]?
  rw [nfs_at, nfs_at, List.getElem?_map]
  cases hj : ars[j]? with
  | none =>
    have : ys[j]? = none := List.getElem?_eq_none (by have := List.getElem?_eq_none_iff.1 hj; omega)
    rw [this]; rfl
  | some a =>
    obtain ⟨z, e1, e2, e3, e4, e5, e6⟩ := h j a hj
    rw [e1]
    obtain ⟨l1, s1, d1, w1, p1, o1⟩ := a
    obtain ⟨l2, s2, d2, w2, p2, o2⟩ := z
    simp only at e2 e3 e4 e5 e6
    subst e2 e3 e4 e5 e6
    rfl
theorem fresh_fit {H : Heap} {o : Option Sl} {ys : List Ar} (h : Cutd H o ys) : (freshC ys).Fit 0 :=
  ⟨by have := h.n; simp [freshC, nfs]; omega, fun a ha => by
    simp only [freshC, nfs, List.map_map, List.mem_map] at ha
    obtain ⟨z, hz, rfl⟩ := ha
    have := (h.d z hz).2
    show z.data.length ≤ 1048576
    omega, rfl, fun l hl => by
    have : l = [] := List.eq_of_mem_replicate hl
    rw [this]; exact ⟨Nat.le_refl _, fun st h => by simp at h⟩⟩
theorem Mm.Is.mono {M : Mm} {H : Heap} {L K : Nat} {c : Co} (h : M.Is H L c) (hk : K ≤ L) : M.Is H K c :=
  ⟨⟨h.m.hd, h.m.ar, h.m.dt, h.m.ro, h.m.rl, h.m.rw, h.m.inj, fun x i e => Nat.le_trans hk (h.m.ge x i e), h.m.lt⟩, h.a, h.r⟩
theorem ours_x (o : Option Sl) (ys : List Ar) (H : Heap) (h : Cutd H o ys) : ∃ (M : Mm) (H' : Heap), f28 o H = some (M.p, H') ∧ H.length ≤ M.b ∧ M.Is H' M.b (freshC ys) ∧ Kp No H H' := by
  obtain ⟨b, s, ars, H', e1, e2, e3, e4, e5, e6⟩ := f28_x o ys H h
  exact ⟨⟨b, s, ars, nils, noRows⟩, H', e1, e2, ⟨e3, fresh_nf e4 e5, rfl⟩, e6⟩
/-! ### what lies below -/
def RSL {α : Type} (n : Nat) (E : α → List Cell) (H : Heap) (L : Nat) (s : Option Sl) (l : List α) : Prop := RS n E H s l ∧ ∀ sl, s = some sl → l ≠ [] → sl.id < L
theorem RSL.kp {α : Type} {n : Nat} {E : α → List Cell} {F : Nat → Prop} {H H' : Heap} {L : Nat} {s : Option Sl} {l : List α} (h : RSL n E H L s l) (k : Kp F H H') (hF : ∀ i, F i → L ≤ i) : RSL n E H' L s l :=
  ⟨h.1.kp k fun sl e h0 hf => Nat.not_le_of_lt (h.2 sl e h0) (hF _ hf), h.2⟩
theorem RSL.of {α : Type} {n : Nat} {E : α → List Cell} (hE : ∀ x, (E x).length = n) (hn : 0 < n) {H : Heap} {L : Nat} {s : Option Sl} {l : List α} (h : RS n E H s l) (hL : H.length ≤ L) : RSL n E H L s l :=
  ⟨h, fun sl e h0 => by rw [e] at h; exact Nat.lt_of_lt_of_le (RS.lt hE hn h h0) hL⟩
theorem Two.other {F : Nat → Prop} {H H' : Heap} {L : Nat} {M N : Mm} {c d : Co} (h : Two H L M N c d) (k : Kp F H H') (h1 : ∀ i, M.In i → ¬ F i) (h2 : ∀ i, N.In i → ¬ F i) : Two H' L M N c d := ⟨h.m.other k h1, h.n.other k h2, h.d⟩
theorem gets7 {H : Heap} {s : Option Sl} {l : List Cal} (h : RS 7 E7 H s l) {i : Nat} {a : Cal} (hi : l[i]? = some a) :
    ∃ sl, s = some sl ∧ (inb (i : Int) sl.len && sl.esz == 7) = true ∧ H.get sl.id (sl.off + ((i : Nat) : Int).toNat * 7) = some (.int .i64 a.kind) ∧ H.get sl.id (sl.off + ((i : Nat) : Int).toNat * 7 + 1) = some (.int .i64 a.t) ∧
      H.get sl.id (sl.off + ((i : Nat) : Int).toNat * 7 + 1 + 1) = some (.bool a.near) ∧ H.get sl.id (sl.off + ((i : Nat) : Int).toNat * 7 + 1 + 1 + 1) = some (.int .i64 a.inn) ∧ H.get sl.id (sl.off + ((i : Nat) : Int).toNat * 7 + 1 + 1 + 1 + 1) = some (.int .u64 a.at') ∧
      H.get sl.id (sl.off + ((i : Nat) : Int).toNat * 7 + 1 + 1 + 1 + 1 + 1) = some (.int .i64 a.w) ∧ H.get sl.id (sl.off + ((i : Nat) : Int).toNat * 7 + 1 + 1 + 1 + 1 + 1 + 1) = some (.int .u64 a.v) := by
  obtain ⟨sl, e, h1, h2⟩ := h.idx E7_len hi
  exact ⟨sl, e, h1, by simpa using h2 0 _ rfl, by simpa using h2 1 _ rfl, by simpa using h2 2 _ rfl, by simpa using h2 3 _ rfl, by simpa using h2 4 _ rfl, by simpa using h2 5 _ rfl, by simpa using h2 6 _ rfl⟩
def Cal.put (o : Cal) (a : Int) : Cal := { o with at' := a }
/-! ### the stores -/
def one (l : List Sto) : List (List Sto) := noRows.set 0 l
/-! ### a number that is cut is written as itself -/
theorem sh8 : ∀ i, i < 8 → min (IntKind.u64.wrap (8 * ((i : Nat) : Int))).toNat IntKind.u64.bits = 8 * i := by decide
theorem byte_cut (v : Int) (k m : Nat) (h : k + 8 ≤ m) : v % 2 ^ m / 2 ^ k % 256 = v / 2 ^ k % 256 := by
  obtain ⟨d, rfl⟩ : ∃ d, m = k + 8 + d := ⟨m - (k + 8), by omega⟩
  have hk : (0 : Int) < 2 ^ k := Int.pow_pos (by decide)
  have e : (2 : Int) ^ (k + 8 + d) = 2 ^ k * (256 * 2 ^ d) := by rw [Int.pow_add, Int.pow_add, Int.mul_assoc]; rfl
  rw [e, Int.emod_def v, Int.mul_assoc, Int.sub_eq_add_neg, ← Int.mul_neg, Int.add_mul_ediv_left _ _ (Int.ne_of_gt hk), ← Int.mul_neg, ← Int.mul_assoc, Int.mul_assoc 256]
  generalize 2 ^ d * -(v / (2 ^ k * (256 * 2 ^ d))) = q
  omega
theorem byte_zx (v w : Int) (hw : isW8 w = true) (i : Nat) (hi : i < w.toNat) : byteOf (zxv v w) i = byteOf v i := by
  rw [mask_eq v w hw]
  unfold byteOf ishr
  have h8 : i < 8 := by rcases isW8_w hw with e | e | e | e <;> omega
  rw [sh8 i h8]
  have hp : (0 : Int) ≤ 2 ^ (8 * i) := Int.le_of_lt (Int.pow_pos (by decide))
  rw [Int.fdiv_eq_ediv_of_nonneg _ hp, Int.fdiv_eq_ediv_of_nonneg _ hp]
  have := byte_cut v (8 * i) (8 * w.toNat) (by omega)
  simp only [IntKind.wrap, IntKind.bits, IntKind.signed]
  simpa using this
/-! ### the second loop -/
end
end Go.Proofs.YtnipccoenalnkaaGreat
