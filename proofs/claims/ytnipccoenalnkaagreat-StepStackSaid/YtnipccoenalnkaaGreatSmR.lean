/- Layer 10: memory, of layer 9: the threads' rows. -/
import Derived.Test.YtnipccoenalnkaaGreatSmW
namespace Go.Proofs.YtnipccoenalnkaaGreat
open Go Go.Proofs.YtnipccoenalnkaaGreat.Ab
set_option linter.unusedVariables false
set_option linter.unusedSimpArgs false
set_option maxRecDepth 100000
noncomputable section
theorem splice_row (x : Cell) (l : List Cell) (t : Nat) (c : Cell) (h : t < l.length) : splice (x :: l) (t + 1) [c] = x :: l.set t c := by
  unfold splice
  rw [List.set_eq_take_append_cons_drop, if_pos h]
  simp
theorem slot_row {b : Nat} {s : Option Sl} {ars : List Ar} {rs : List (Option Sl)} {t : Nat} {r : Option Sl} (x : Slot) (ht : t < rs.length) : (x = .row t → idAt b s ars (rs.set t r) x = idO r) ∧ (x ≠ .row t → idAt b s ars (rs.set t r) x = idAt b s ars rs x) := by
  cases x with
  | row j =>
    simp only [idAt]
    by_cases e : t = j
    · subst e
      exact ⟨(fun _ => by rw [List.getElem?_set_self ht]; rfl), fun h => absurd rfl h⟩
    · exact ⟨(fun h => by cases h; exact absurd rfl e), (fun _ => by rw [List.getElem?_set_ne e])⟩
  | _ => exact ⟨(fun h => by cases h), fun _ => rfl⟩
theorem MRg.setRow {H0 H : Heap} {b L : Nat} {s : Option Sl} {ars : List Ar} {rs : List (Option Sl)} {β : Type} {en : Nat} {eE : β → List Cell} {rows : List (List β)} (h : MRg en eE H0 b L s ars rs rows) {t : Nat} {rt : Option Sl} (ht : rs[t]? = some rt) (k : Kp (Of rt) H0 H) {r : Option Sl} {l : List β} (ho : OS en eE H r l) (hid : ∀ i, idO r = some i → idO rt = some i ∨ H0.length ≤ i) :
    ∃ H', H.put b (0 + 1 + ((t : Nat) : Int).toNat * 1) [Cell.slice r] = some H' ∧ MRg en eE H' b L s ars (rs.set t r) (rows.set t l) ∧ Stp b s ars rs ars (rs.set t r) H0 H' := by
  have hlt := (List.getElem?_eq_some_iff.1 ht).1
  have hidt : ∀ i, idO rt = some i → idAt b s ars rs (.row t) = some i := fun i hi => by simp only [idAt, ht, Option.bind_some]; exact hi
  have nof : ∀ (x : Slot), x ≠ .row t → ∀ i, idAt b s ars rs x = some i → ¬ Of rt i := by
    rintro x hx i hi ⟨sl, e, f⟩
    exact hx (h.inj x (.row t) i hi (hidt i (by rw [e, f]; rfl)))
  have hb := k.at h.hd (nof .hd (by intro x; cases x) b rfl)
  have hput : H.put b (0 + 1 + ((t : Nat) : Int).toNat * 1) [Cell.slice r] = some (H.set b (.row (Cell.slice s :: (rs.set t r).map Cell.slice) false)) := by
    rw [show 0 + 1 + ((t : Nat) : Int).toNat * 1 = t + 1 by omega, put_of hb (by simp; omega), splice_row _ _ _ _ (by simpa using hlt), List.map_set]
  have kset : Kp (One b) H (H.set b (.row (Cell.slice s :: (rs.set t r).map Cell.slice) false)) := Kp.set _ _ _
  have rlt : ∀ i, idO r = some i → i < H.length := fun i hi => by
    cases r with
    | none => cases hi
    | some sl => cases hi; exact OS.lt ho
  have rb : ∀ i, idO r = some i → i ≠ b := by
    rintro i hi rfl
    rcases hid i hi with e | e
    · have := h.inj .hd (.row t) i rfl (hidt i e); cases this
    · have := h.lt .hd i rfl; omega
  have keep : ∀ {α : Type} {n : Nat} {E : α → List Cell} {q : Option Sl} {m : List α} (x : Slot), x ≠ .row t → x ≠ .hd → (∀ i, idO q = some i → idAt b s ars rs x = some i) → OS n E H0 q m → OS n E (H.set b (.row (Cell.slice s :: (rs.set t r).map Cell.slice) false)) q m := by
    intro α n E q m x h1 h2 h3 h4
    exact OS.other (OS.other h4 k fun i hi => nof x h1 i (h3 i hi)) kset fun i hi hf => by
      have : i = b := hf
      subst this
      exact h2 (h.inj x .hd i (h3 i hi) rfl)
  refine ⟨_, hput, ⟨set_get' (lt_of hb), ?_, ?_, ?_, by simpa using h.rl, by simpa using h.rw, ?_, ?_, ?_⟩, ?_⟩
  · exact keep .ar (by intro x; cases x) (by intro x; cases x) (fun i hi => hi) h.ar
  · intro j a hj
    exact keep (.dt j) (by intro x; cases x) (by intro x; cases x) (fun i hi => by simp only [idAt, hj, Option.bind_some]; exact hi) (h.dt j a hj)
  · intro j q m hq hm
    rcases set_at hq with ⟨rfl, rfl, _⟩ | ⟨hne, hq⟩
    · rcases set_at hm with ⟨_, rfl, _⟩ | ⟨hne, _⟩
      · exact OS.other ho kset fun i hi hf => rb i hi hf
      · exact absurd rfl hne
    · rcases set_at hm with ⟨e, _, _⟩ | ⟨_, hm⟩
      · exact absurd e hne
      · exact keep (.row j) (by intro x; cases x; exact hne rfl) (by intro x; cases x) (fun i hi => by simp only [idAt, hq, Option.bind_some]; exact hi) (h.ro j q m hq hm)
  · intro x y i hx hy
    have key : ∀ (x : Slot) (i : Nat), idAt b s ars (rs.set t r) x = some i → (x = .row t ∧ idO r = some i) ∨ (x ≠ .row t ∧ idAt b s ars rs x = some i) := fun x i hx => by
      by_cases e : x = .row t
      · rw [(slot_row x hlt).1 e] at hx; exact .inl ⟨e, hx⟩
      · rw [(slot_row x hlt).2 e] at hx; exact .inr ⟨e, hx⟩
    rcases key x i hx with ⟨rfl, e1⟩ | ⟨n1, e1⟩ <;> rcases key y i hy with ⟨rfl, e2⟩ | ⟨n2, e2⟩
    · rfl
    · rcases hid i e1 with e | e
      · exact absurd (h.inj y (.row t) i e2 (hidt i e)) n2
      · have := h.lt y i e2; omega
    · rcases hid i e2 with e | e
      · exact absurd (h.inj x (.row t) i e1 (hidt i e)) n1
      · have := h.lt x i e1; omega
    · exact h.inj x y i e1 e2
  · intro x i hx
    by_cases e : x = .row t
    · rw [(slot_row x hlt).1 e] at hx
      rcases hid i hx with f | f
      · exact h.ge _ i (hidt i f)
      · have := h.ge .hd b rfl; have := h.lt .hd b rfl; omega
    · rw [(slot_row x hlt).2 e] at hx; exact h.ge x i hx
  · intro x i hx
    simp only [List.length_set]
    by_cases e : x = .row t
    · rw [(slot_row x hlt).1 e] at hx; exact rlt i hx
    · rw [(slot_row x hlt).2 e] at hx; exact Nat.lt_of_lt_of_le (h.lt x i hx) k.len
  · refine ⟨(k.mono (D := InM b s ars rs) fun i _ hf => ?_).trans (kset.mono (D := InM b s ars rs) fun i _ hf => ?_) (fun _ h => h) fun _ _ h => h, fun i hi => ?_⟩
    · obtain ⟨sl, e, f⟩ := hf
      exact ⟨_, hidt i (by rw [e, f]; rfl)⟩
    · have : i = b := hf
      rw [this]; exact ⟨.hd, rfl⟩
    · obtain ⟨x, hx⟩ := hi
      by_cases e : x = .row t
      · rw [(slot_row x hlt).1 e] at hx
        rcases hid i hx with f | f
        · exact .inl ⟨_, hidt i f⟩
        · exact .inr f
      · rw [(slot_row x hlt).2 e] at hx; exact .inl ⟨x, hx⟩
/-! ### Drain -/
structure Sto.Good (st : Sto) (ars : List Ar) : Prop where
  w : isW8 st.w = true
  f : Found ars st.at' 0 st.w.toNat
theorem head_row {H : Heap} {b L : Nat} {s : Option Sl} {ars : List Ar} {rs : List (Option Sl)} {β : Type} {en : Nat} {eE : β → List Cell} {rows : List (List β)} (h : MRg en eE H b L s ars rs rows) {t : Nat} {r : Option Sl} (hr : rs[t]? = some r) : H.get b (0 + 1 + ((t : Nat) : Int).toNat * 1) = some (.slice r) := by
  rw [get_of h.hd, show 0 + 1 + ((t : Nat) : Int).toNat * 1 = t + 1 by omega, List.getElem?_cons_succ, List.getElem?_map, hr]; rfl
/-! ### Flush, Put -/
/-! ### Store -/
def zxv (v w : Int) : Int := band .u64 v (ishr .u64 18446744073709551615 (IntKind.i64.wrap (64 - IntKind.i64.wrap (8 * w))))
theorem f60_x (v w : Int) (hw : isW8 w = true) (H : Heap) : f60 v w H = some (zxv v w, H) := by
  rw [q60, q107, f105_x, Ab.bs, hw]
  have hw := isW8_w hw
  have : decide (IntKind.i64.wrap (64 - IntKind.i64.wrap (8 * w)) < 0) = false := by
    rcases hw with e | e | e | e <;> rw [e] <;> decide
  simp only [Bool.not_true, cf, this, Ab.bs]
  rfl
theorem row3 (H : Heap) (a : Sto) : RS 3 E3 (H ++ [Blk.row (E3 a) false]) (some { id := H.length, off := 0, len := 1, cap := 1, esz := 3 }) [a] :=
  ⟨rfl, rfl, Nat.le_refl _, fun j c e => by rw [Nat.zero_add, get_of (push_get _ _)]; simpa using e⟩
theorem f32_yes {H : Heap} {b L : Nat} {s : Option Sl} {ars : List Ar} {rs : List (Option Sl)} {rows : List (List Sto)} (h : MR H b L s ars rs rows) (hn : ars.length ≤ 1000) (t x w v : Int) (hm : mayA ars t x w true = true) {l : List Sto} (hl : rows[t.toNat]? = some l) (hll : l.length < 65536) :
    ∃ r H', f32 (some (b, 0)) t x w v H = some (true, H') ∧ MR H' b L s ars (rs.set t.toNat r) (rows.set t.toNat (l ++ [⟨x, w, zxv v w⟩])) ∧ Stp b s ars rs ars (rs.set t.toNat r) H H' := by
  obtain ⟨H1, e1, e2⟩ := f59_x (b, 0) ars t x w true H (h.rd (by omega))
  have hm0 := hm
  unfold mayA at hm0
  simp only [Bool.and_eq_true] at hm0
  obtain ⟨ht, hw, _, ha⟩ := hm0
  have m1 := h.no e2
  obtain ⟨i8, t, rfl, ht8⟩ := inb8 ht
  have hl : rows[t]? = some l := hl
  obtain ⟨rt, hr⟩ : ∃ rt, rs[t]? = some rt := ⟨_, List.getElem?_eq_getElem (by rw [h.rl]; exact ht8)⟩
  have hro := m1.ro t _ l hr hl
  have hs := hro.rs.slenEq
  have k2 := Kp.push1 H1 (Blk.row (E3 ⟨x, w, zxv v w⟩) false)
  obtain ⟨r, H2, a1, a2, a3, a4⟩ := append_OS E3_len (by decide) (by' := 24) (hro.no k2) (row3 H1 ⟨x, w, zxv v w⟩) (by simp [most]; omega)
  have k12 : Kp (Of rt) H1 H2 := (k2.mono (D := Of rt) fun i _ hf => absurd hf (fun h => h)).trans a3 (fun _ h => h) fun _ _ h => h
  obtain ⟨H3, p1, p2, p3⟩ := m1.setRow hr k12 a2 (fun i hi => by
    cases r with
    | none => cases hi
    | some sr =>
      cases hi
      rcases a4 sr rfl with ⟨s0, f0, f1⟩ | f
      · exact .inl (by rw [f0]; show some s0.id = some sr.id; rw [f1])
      · exact .inr (by show H1.length ≤ sr.id; simp at f; omega))
  refine ⟨r, H3, ?_, p2, (Stp.no e2).trans p3⟩
  have hs0 : decide (slen rt ≥ 65536) = false := by rw [hs]; simp; omega
  have sm : same b H1 H1 = true := same_iff.2 rfl
  rw [q32, e1, Ab.bs, hm]
  simp only [Bool.not_true, cf, Ab.bs, i8, ct, head_row m1 hr, tSlice, hs0, f60_x v w hw, sm]
  have a1 : (H1 ++ [Blk.row [Cell.int .u64 x, Cell.int .i64 w, Cell.int .u64 (zxv v w)] false]).append 3 24 rt (some { id := List.length H1, off := 0, len := 1, cap := 1, esz := 3 }) = some (r, H2) := a1
  simp only [a1, Ab.bs, p1]
/-! ### Same, Pending -/
/-- What is stored is what is written: bytes of a number that is cut to a width. -/
theorem mask_eq (v : Int) (w : Int) (hw : isW8 w = true) : zxv v w = v % 2 ^ (8 * w.toNat) := by
  unfold zxv
  rcases isW8_w hw with e | e | e | e <;> rw [e]
  · rw [show ishr .u64 18446744073709551615 (IntKind.i64.wrap (64 - IntKind.i64.wrap (8 * 1))) = 2 ^ 8 - 1 by decide, band_mask v (by omega)]; rfl
  · rw [show ishr .u64 18446744073709551615 (IntKind.i64.wrap (64 - IntKind.i64.wrap (8 * 2))) = 2 ^ 16 - 1 by decide, band_mask v (by omega)]; rfl
  · rw [show ishr .u64 18446744073709551615 (IntKind.i64.wrap (64 - IntKind.i64.wrap (8 * 4))) = 2 ^ 32 - 1 by decide, band_mask v (by omega)]; rfl
  · rw [show ishr .u64 18446744073709551615 (IntKind.i64.wrap (64 - IntKind.i64.wrap (8 * 8))) = 2 ^ 64 - 1 by decide, band_mask v (by omega)]; rfl
end
end Go.Proofs.YtnipccoenalnkaaGreat
