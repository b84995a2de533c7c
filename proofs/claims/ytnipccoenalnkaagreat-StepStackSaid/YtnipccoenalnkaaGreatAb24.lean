/- The abstract machine, 24: a law's data as read-only rows. -/
import Derived.Test.YtnipccoenalnkaaGreatAb23
import Derived.DeepKeys4
namespace Go.Proofs.YtnipccoenalnkaaGreat.Ab
open Go Go.ChangeShapes Go.WideShapes Go.ChangeAt Go.RowKit
set_option linter.unusedVariables false
set_option linter.unusedSimpArgs false

/-- Plain data: bools, ints, strings, slices, structs and arrays of them. -/
def plainT (P : Program) : Nat → TypeId → Bool
  | 0, _ => false
  | n + 1, t =>
    isVar P t && rowFine P t && match P.underlying t with
    | some .bool => true
    | some (.int _) => true
    | some .string => true
    | some (.slice e) => Nat.blt 0 (P.cellsOf e) && plainT P n e
    | some (.struct fs) => fs.toList.all fun f => plainT P n f.type
    | some (.array _ e) => plainT P n e
    | _ => false
/-- Cells that hold plain data of a type, slices being read-only rows. -/
def Sh (P : Program) (H : Heap) : Nat → TypeId → List Cell → Prop
  | 0, _, _ => False
  | n + 1, t, cs =>
    match P.underlying t with
    | some .bool => ∃ b, cs = [.bool b]
    | some (.int k) => ∃ x, cs = [.int k x] ∧ (Lit.int k x).wf = true
    | some .string => ∃ s, cs = [.str s] ∧ s.size ≤ maxLen
    | some (.slice e) => cs = [.slice none] ∨ ∃ (s : Sl) (row : List Cell), cs = [.slice (some s)] ∧ s.off = 0 ∧ s.cap = s.len ∧ s.len ≤ maxLen ∧ s.esz = P.cellsOf e ∧ (0 < s.len → H[s.id]? = some (.row row true)) ∧
        row.length = s.len * P.cellsOf e ∧ ∀ i, i < s.len → Sh P H n e ((row.drop (i * P.cellsOf e)).take (P.cellsOf e))
    | some (.struct fs) => cs.length = P.cellsOf t ∧ ∀ (j : Nat) (f : Field), fs.toList[j]? = some f → Sh P H n f.type ((cs.drop f.offset).take (P.cellsOf f.type))
    | some (.array m e) => cs.length = P.cellsOf t ∧ ∀ i, i < m → Sh P H n e ((cs.drop (i * P.cellsOf e)).take (P.cellsOf e))
    | _ => False

theorem Sh.mono {P : Program} {H H2 : Heap} : ∀ {n : Nat} {t : TypeId} {cs : List Cell}, Sh P H n t cs → Sh P (H ++ H2) n t cs
  | 0, t, cs, h => h
  | n + 1, t, cs, h => by
    unfold Sh at h ⊢
    split at h
    · exact h
    · exact h
    · exact h
    · rcases h with h | ⟨s, row, h1, h2, h3, h4, h5, h6, h7, h8⟩
      · exact .inl h
      · refine .inr ⟨s, row, h1, h2, h3, h4, h5, fun h0 => ?_, h7, fun i hi => (h8 i hi).mono⟩
        have h9 := h6 h0
        rw [List.getElem?_append_left (List.getElem?_eq_some_iff.1 h9).1]
        exact h9
    · exact ⟨h.1, fun j f hf => (h.2 j f hf).mono⟩
    · exact ⟨h.1, fun i hi => (h.2 i hi).mono⟩
    · exact h

def NoOwn (H : Heap) : Prop := ∀ i, ¬ OwnAt H i
/-- The cells of some data, laid abstractly. -/
def Laid (P : Program) (W : World) (n : Nat) (t : TypeId) (vals : List Value) : Prop :=
  ∀ (ρ : Rho) (H : Heap), HR ρ H W → NoOwn H → ∃ ρ' H2 cs, HR ρ' (H ++ H2) W ∧ ρ.le ρ' ∧ NoOwn (H ++ H2) ∧ LR ρ' cs vals ∧ Sh P (H ++ H2) n t cs
/-- One cell alone. -/
theorem laid_one {P : Program} {W : World} {n : Nat} {t : TypeId} {v : Value} {c : Cell} (hc : ∀ ρ, CR ρ c v) (hs : ∀ H, Sh P H n t [c]) : Laid P W n t [v] :=
  fun ρ H h hn => ⟨ρ, [], [c], by simpa using h, Rho.le_refl ρ, by simpa using hn, .cons (hc ρ) .nil, hs _⟩

def offOf (P : Program) (ts : List TypeId) (j : Nat) : Nat := ((ts.take j).map P.cellsOf).sum
/-- Parts, one behind the other. -/
theorem laid_parts {P : Program} {W : World} {n : Nat} : ∀ (ts : List TypeId) (vals : List Value), vals.length = (ts.map P.cellsOf).sum →
    (∀ j t, ts[j]? = some t → Laid P W n t ((vals.drop (offOf P ts j)).take (P.cellsOf t))) → ∀ (ρ : Rho) (H : Heap), HR ρ H W → NoOwn H →
    ∃ ρ' H2 cs, HR ρ' (H ++ H2) W ∧ ρ.le ρ' ∧ NoOwn (H ++ H2) ∧ LR ρ' cs vals ∧ ∀ j t, ts[j]? = some t → Sh P (H ++ H2) n t ((cs.drop (offOf P ts j)).take (P.cellsOf t))
  | [], vals, hl, hp, ρ, H, h, hn => by
    have : vals = [] := List.eq_nil_of_length_eq_zero (by simpa using hl)
    subst this
    exact ⟨ρ, [], [], by simpa using h, Rho.le_refl ρ, by simpa using hn, .nil, fun j t hj => by simp at hj⟩
  | t :: ts, vals, hl, hp, ρ, H, h, hn => by
    simp only [List.map_cons, List.sum_cons] at hl
    obtain ⟨ρ1, H1, c1, g1, g2, g3, g4, g5⟩ := hp 0 t rfl ρ H h hn
    simp only [offOf, List.take_zero, List.map_nil, List.sum_nil, List.drop_zero] at g4
    have hoff : ∀ j, offOf P (t :: ts) (j + 1) = P.cellsOf t + offOf P ts j := by intro j; simp [offOf]
    obtain ⟨ρ2, H2, c2, k1, k2, k3, k4, k5⟩ := laid_parts (P := P) (W := W) (n := n) ts (vals.drop (P.cellsOf t)) (by simp; omega) (fun j u hj => by
      have := hp (j + 1) u (by simpa using hj)
      rw [hoff, ← List.drop_drop] at this
      exact this) ρ1 (H ++ H1) g1 g3
    have hlen : c1.length = P.cellsOf t := by rw [g4.length]; simp; omega
    refine ⟨ρ2, H1 ++ H2, c1 ++ c2, by rw [← List.append_assoc]; exact k1, Rho.le_trans g2 k2, by rw [← List.append_assoc]; exact k3, ?_, ?_⟩
    · have := (g4.mono k2).append k4
      rwa [List.take_append_drop] at this
    · intro j u hj
      rw [← List.append_assoc]
      cases j with
      | zero =>
        simp at hj
        subst hj
        simp only [offOf, List.take_zero, List.map_nil, List.sum_nil, List.drop_zero]
        rw [List.take_append_of_le_length (by omega), List.take_of_length_le (by omega)]
        exact g5.mono
      | succ j =>
        rw [hoff, ← List.drop_drop, ← hlen, List.drop_left]
        exact k5 j u (by simpa using hj)
theorem offOf_replicate (P : Program) (e : TypeId) : ∀ (m j : Nat), j ≤ m → offOf P (List.replicate m e) j = j * P.cellsOf e := by
  intro m j hj
  unfold offOf
  rw [List.take_replicate, Nat.min_eq_left hj, List.map_replicate]
  simp
theorem own_append {H : Heap} {row : List Cell} (h : NoOwn H) : NoOwn (H ++ [.row row true]) := by
  intro i hi
  rcases Nat.lt_trichotomy i H.length with hl | hl | hl
  · apply h i
    unfold OwnAt at hi ⊢
    rw [List.getElem?_append_left hl] at hi
    exact hi
  · subst hl
    rcases hi with ⟨cs, hi⟩ | ⟨es, c, hi⟩ <;> simp at hi
  · rcases hi with ⟨cs, hi⟩ | ⟨es, c, hi⟩ <;> rw [List.getElem?_eq_none (by simp; omega)] at hi <;> cases hi
/-- One read-only row more. -/
theorem hr_row {ρ : Rho} {H : Heap} {W : World} (h : HR ρ H W) (hn : NoOwn H) {row : List Cell} {vals : List Value} (hr : LR ρ row vals) {b o : Nat} {c : Array Value} {e : TypeId} {fz : Nat × Nat} (hb : W.heap[b]? = some (.cells c e fz))
    (hv : ∀ j v, vals[j]? = some v → c[o + j]? = some v) : ∃ ρ' : Rho, HR ρ' (H ++ [.row row true]) W ∧ ρ.le ρ' ∧ ρ' H.length = some (b, o, none) := by
  have hlt : b < W.heap.size := (Array.getElem?_eq_some_iff.1 hb).1
  have hnew : ρ H.length = none := h.fresh _ (Nat.le_refl _)
  have hle := Rho.le_put (x := (b, o, none)) hnew
  have hno := own_append (row := row) hn
  refine ⟨ρ.put H.length (b, o, none), ⟨?_, ?_, fun i j b o m o' m' hi => absurd hi (hno i), fun i j b o m b' o' m' hi => absurd hi (hno i), ?_, ?_, ?_⟩, hle, put_self⟩
  · intro id cs ro hi
    by_cases hid : id = H.length
    · subst hid
      simp at hi
      obtain ⟨rfl, rfl⟩ := hi
      refine ⟨b, o, none, c, e, fz, put_self, hb, fun j x hj => ?_, fun h => by cases h⟩
      obtain ⟨v, h1, h2⟩ := hr.get hj
      exact ⟨v, hv j v h1, h2.mono hle⟩
    · have hidl : id < H.length := by
        have := (List.getElem?_eq_some_iff.1 hi).1
        simp at this; omega
      rw [List.getElem?_append_left hidl] at hi
      obtain ⟨b', o', m, c', e', fz', h1, h2, h3, h4⟩ := h.row id cs ro hi
      exact ⟨b', o', m, c', e', fz', hle _ _ h1, h2, fun j x hj => by
        obtain ⟨v, h5, h6⟩ := h3 j x hj
        exact ⟨v, h5, h6.mono hle⟩, h4⟩
  · intro id es cl hi
    exact absurd (.inr ⟨es, cl, hi⟩) (hno id)
  · intro id hid
    simp at hid
    rw [put_ne (by omega)]
    exact h.fresh id (by omega)
  · intro id b' o' m' hi
    by_cases hid : id = H.length
    · subst hid
      rw [put_self] at hi
      cases hi
      exact hlt
    · rw [put_ne hid] at hi
      exact h.inw id b' o' m' hi
  · intro id hi
    have hidl : id < H.length := by
      have h1 := (List.getElem?_eq_some_iff.1 hi).1
      simp at h1
      by_cases hid : id = H.length
      · subst hid; simp at hi
      · omega
    rw [List.getElem?_append_left hidl] at hi
    rw [put_ne (by omega)]
    exact h.hole id hi
theorem mapM_each {α β : Type} {f : α → Option β} : ∀ {xs : List α} {ys : List β}, xs.mapM f = some ys → ys.length = xs.length ∧ ∀ x ∈ xs, ∃ y, f x = some y
  | [], ys, h => by simp at h; subst h; exact ⟨rfl, fun x hx => by simp at hx⟩
  | x :: xs, ys, h => by
    simp only [List.mapM_cons, Option.bind_eq_bind, Option.bind_eq_some_iff] at h
    obtain ⟨y, hy, zs, hzs, h⟩ := h
    cases h
    obtain ⟨h1, h2⟩ := mapM_each hzs
    exact ⟨by simp [h1], fun u hu => by
      rcases List.mem_cons.1 hu with rfl | hu
      · exact ⟨y, hy⟩
      · exact h2 u hu⟩
theorem mapM_get {α β : Type} {f : α → Option β} : ∀ {xs : List α} {ys : List β}, xs.mapM f = some ys → ∀ (i : Nat) (x : α), xs[i]? = some x → ∃ y, f x = some y ∧ ys[i]? = some y
  | [], ys, h, i, x, hx => by simp at hx
  | a :: xs, ys, h, i, x, hx => by
    simp only [List.mapM_cons, Option.bind_eq_bind, Option.bind_eq_some_iff] at h
    obtain ⟨y, hy, zs, hzs, h⟩ := h
    cases h
    cases i with
    | zero => simp at hx; subst hx; exact ⟨y, hy, rfl⟩
    | succ i => simpa using mapM_get hzs i x (by simpa using hx)
theorem rows_sum {P : Program} {t : TypeId} {fs : Array Field} (hu : P.underlying t = some (.struct fs)) (hv : isVar P t = true) (hf : rowFine P t = true) :
    P.cellsOf t = ((fs.toList.map (·.type)).map P.cellsOf).sum ∧ ∀ (j : Nat) (f : Field), fs.toList[j]? = some f → f.offset = offOf P (fs.toList.map (·.type)) j := by
  unfold rowFine at hf
  rw [hv, hu] at hf
  simp only [Bool.not_true, Bool.false_or, Bool.and_eq_true, beq_iff_eq] at hf
  obtain ⟨⟨_, h1⟩, h2⟩ := hf
  refine ⟨by rw [h1, List.map_map]; rfl, fun j f hj => ?_⟩
  rw [List.all_eq_true] at h2
  have hl := (List.getElem?_eq_some_iff.1 hj).1
  have := h2 j (by simpa using hl)
  rw [hj] at this
  simp only [beq_iff_eq] at this
  rw [this]
  unfold offOf
  rw [← List.map_take, List.map_map]
  rfl
theorem cell_inv {W : World} {a : Addr} {v : Value} (h : W.cell? a = some v) : ∃ c e fz, W.heap[a.block]? = some (.cells c e fz) ∧ a.spot = none ∧ c[a.off]? = some v := by
  unfold World.cell? at h
  split at h
  · rename_i c e fz hb
    split at h
    · cases h
    · rename_i hs
      exact ⟨c, e, fz, hb, by simpa using hs, h⟩
  · cases h
theorem add_block (a : Addr) (k : Nat) : (a.add k).block = a.block := by unfold Addr.add; split <;> rfl
theorem add_off (a : Addr) (k : Nat) : (a.add k).off = a.off + k := by unfold Addr.add; split <;> simp_all
theorem block_of {W : World} {a : Addr} {n : Nat} {l : List Value} (hn : 0 < n) (h : W.cells? 0 (a.add (0 * n)) n = some l) : ∃ c e fz, W.heap[a.block]? = some (.cells c e fz) ∧ a.spot = none := by
  unfold World.cells? at h
  rw [if_pos (Nat.zero_le _)] at h
  obtain ⟨y, hy, _⟩ := mapM_get h 0 0 (by simp [hn])
  obtain ⟨c, e, fz, h1, h2, _⟩ := cell_inv hy
  simp [Addr.add] at h1 h2
  exact ⟨c, e, fz, h1, h2⟩
theorem cells_block {W : World} {a : Addr} {k n : Nat} {l : List Value} {c : Array Value} {e : TypeId} {fz : Nat × Nat} (hb : W.heap[a.block]? = some (.cells c e fz)) (_hs : a.spot = none) (h : W.cells? 0 (a.add k) n = some l) :
    l = (c.toList.drop (a.off + k)).take n ∧ (0 < n → a.off + k + n ≤ c.size) := by
  unfold World.cells? at h
  rw [if_pos (Nat.zero_le _)] at h
  have hl := (mapM_each h).1
  simp at hl
  have each : ∀ i, i < n → ∃ y, c[a.off + k + i]? = some y ∧ l[i]? = some y := by
    intro i hi
    obtain ⟨y, hy, hy2⟩ := mapM_get h i i (by simp [hi])
    obtain ⟨c', e', fz', h1, _, h3⟩ := cell_inv hy
    rw [add_block, add_block, hb] at h1
    cases h1
    rw [add_off, add_off] at h3
    exact ⟨y, h3, hy2⟩
  have hsz : 0 < n → a.off + k + n ≤ c.size := by
    intro h0
    obtain ⟨y, h1, _⟩ := each (n - 1) (by omega)
    have := (Array.getElem?_eq_some_iff.1 h1).1
    omega
  refine ⟨?_, hsz⟩
  apply List.ext_getElem?
  intro i
  by_cases hi : i < n
  · obtain ⟨y, h1, h2⟩ := each i hi
    rw [h2, List.getElem?_take_of_lt hi, List.getElem?_drop]
    simpa using h1.symm
  · rw [List.getElem?_eq_none (by omega), List.getElem?_eq_none (by simp; omega)]
/-- Data that is trodden is laid. -/
theorem trod_laid {H : Type} {enc : TypeId × Value → H} {P : Program} {W : World} {sp : Nat → Bool} (hsp : ∀ b, sp b = true) : ∀ (n F : Nat) (t : TypeId) (vals : List Value) (x : DataW H × List MemPlace),
    plainT P n t = true → DataW.trod enc P W 0 sp true F t vals = some x → Laid P W n t vals
  | 0, F, t, vals, x, hp, h => by cases hp
  | n + 1, 0, t, vals, x, hp, h => by cases h
  | n + 1, F + 1, t, vals, x, hp, h => by
    unfold plainT at hp
    simp only [Bool.and_eq_true] at hp
    obtain ⟨⟨hvar, hfine⟩, hp⟩ := hp
    unfold DataW.trod at h
    split at h
    · rename_i b hu
      exact laid_one (c := .bool b) (fun _ => .bool b) fun H => by unfold Sh; rw [hu]; exact ⟨b, rfl⟩
    · rename_i k k' m hu
      split at h
      · rename_i hk
        obtain ⟨rfl, hw⟩ := hk
        exact laid_one (c := .int k' m) (fun _ => .int k' m) fun H => by unfold Sh; rw [hu]; exact ⟨m, rfl, hw⟩
      · cases h
    · rename_i hu; rw [hu] at hp; cases hp
    · rename_i s hu
      split at h
      · rename_i hs
        exact laid_one (c := .str s) (fun _ => .str s) fun H => by unfold Sh; rw [hu]; exact ⟨s, rfl, hs⟩
      · cases h
    · rename_i hu; rw [hu] at hp; cases hp
    · rename_i hu; rw [hu] at hp; cases hp
    · rename_i e hu
      exact laid_one (c := .slice none) (fun _ => .nilSlice) fun H => by unfold Sh; rw [hu]; exact .inl rfl
    · rename_i e a len cap hu
      rw [hu] at hp
      simp only [Bool.and_eq_true, Nat.blt_eq] at hp
      obtain ⟨hpos, hpe⟩ := hp
      split at h
      case isFalse => cases h
      rename_i hb
      simp only [Option.bind_eq_some_iff] at h
      obtain ⟨elems, hel, h⟩ := h
      obtain ⟨_, hlc, _⟩ := hb
      by_cases h0 : cap = 0
      · obtain rfl : len = 0 := by omega
        exact laid_one (c := .slice (some ⟨0, 0, 0, 0, P.cellsOf e⟩)) (fun ρ => .slice (b := 0) (o := 0) (m := none) (.inr h0) (Nat.zero_le _) (Nat.le_refl _) (.inr h0) (.inl h0))
          fun H => by unfold Sh; rw [hu]; exact .inr ⟨_, [], rfl, rfl, rfl, Nat.zero_le _, rfl, fun h => absurd h (Nat.lt_irrefl 0), by simp, fun i hi => absurd hi (Nat.not_lt_zero i)⟩
      · obtain ⟨l0, y0, hl0⟩ : ∃ l0 y0, W.cells? 0 (a.add (0 * P.cellsOf e)) (P.cellsOf e) = some l0 ∧ DataW.trod enc P W 0 sp true F e l0 = some y0 := by
          by_cases hl : len = 0
          · subst hl
            rw [hsp a.block] at h
            simp only [if_true, Option.map_eq_some_iff] at h
            obtain ⟨rest, hrest, _⟩ := h
            obtain ⟨y, hy, _⟩ := mapM_get hrest 0 0 (List.getElem?_range (by omega))
            simp only [Option.bind_eq_some_iff] at hy
            obtain ⟨l, g1, g2⟩ := hy
            exact ⟨l, y, by simpa using g1, g2⟩
          · obtain ⟨y, hy, _⟩ := mapM_get hel 0 0 (List.getElem?_range (by omega))
            simp only [Option.bind_eq_some_iff] at hy
            obtain ⟨l, g1, g2⟩ := hy
            exact ⟨l, y, g1, g2⟩
        obtain ⟨c, et, fz, hblk, hspot⟩ := block_of hpos hl0.1
        have hparts : ∀ i, i < len → ∃ y, DataW.trod enc P W 0 sp true F e ((((c.toList.drop a.off).take (len * P.cellsOf e)).drop (i * P.cellsOf e)).take (P.cellsOf e)) = some y ∧ a.off + i * P.cellsOf e + P.cellsOf e ≤ c.size := by
          intro i hi
          obtain ⟨y, hy, _⟩ := mapM_get hel i i (by simp [hi])
          simp only [Option.bind_eq_some_iff] at hy
          obtain ⟨l, g1, g2⟩ := hy
          obtain ⟨g3, g4⟩ := cells_block hblk hspot g1
          refine ⟨y, ?_, g4 hpos⟩
          have hm : i * P.cellsOf e + P.cellsOf e ≤ len * P.cellsOf e := by rw [← Nat.succ_mul]; exact Nat.mul_le_mul_right _ hi
          rw [List.drop_take, List.take_take, List.drop_drop, Nat.min_eq_left (by omega), ← g3]
          exact g2
        have hVl : ((c.toList.drop a.off).take (len * P.cellsOf e)).length = len * P.cellsOf e := by
          by_cases hl : len = 0
          · subst hl; simp
          · obtain ⟨_, _, g⟩ := hparts (len - 1) (by omega)
            have : (len - 1) * P.cellsOf e + P.cellsOf e = len * P.cellsOf e := by rw [← Nat.succ_mul]; congr 1; omega
            simp; omega
        intro ρ H1 g1 g2
        obtain ⟨ρ', H2, cs, k1, k2, k3, k4, k5⟩ := laid_parts (P := P) (W := W) (n := n) (List.replicate len e) ((c.toList.drop a.off).take (len * P.cellsOf e)) (by rw [hVl]; simp) (fun j u hj => by
          rw [List.getElem?_replicate] at hj
          split at hj
          · rename_i hjm
            cases hj
            rw [offOf_replicate P e len j (by omega)]
            obtain ⟨y, hy, _⟩ := hparts j hjm
            exact trod_laid hsp n F e _ y hpe hy
          · cases hj) ρ H1 g1 g2
        obtain ⟨ρ2, m1, m2, m3⟩ := hr_row k1 k3 k4 hblk (o := a.off) (fun j v hj => by
          have hjl : j < len * P.cellsOf e := by
            have := (List.getElem?_eq_some_iff.1 hj).1
            omega
          rw [List.getElem?_take_of_lt hjl, List.getElem?_drop] at hj
          simpa using hj)
        refine ⟨ρ2, H2 ++ [.row cs true], [.slice (some ⟨(H1 ++ H2).length, 0, len, len, P.cellsOf e⟩)], by rw [← List.append_assoc]; exact m1, Rho.le_trans k2 m2, by rw [← List.append_assoc]; exact own_append k3, .cons ?_ .nil, ?_⟩
        · refine .slice (.inl m3) hlc (Nat.le_refl _) (.inl ?_) (.inr fun m' h => by cases h)
          cases a
          simp only at hspot ⊢
          subst hspot
          rfl
        · unfold Sh
          rw [hu]
          refine .inr ⟨_, cs, rfl, rfl, rfl, show len ≤ maxLen by omega, rfl, fun _ => ?_, by rw [k4.length, hVl], fun i hi => ?_⟩
          · rw [← List.append_assoc]; simp
          · have hi : i < len := hi
            rw [← List.append_assoc, ← offOf_replicate P e len i (by omega)]
            exact (k5 i e (by simp [hi])).mono
    · rename_i vals x1 cs0 fs hu
      rw [hu] at hp
      split at h
      case isFalse => cases h
      rename_i hlen
      simp only [Option.map_eq_some_iff] at h
      obtain ⟨xs, hxs, rfl⟩ := h
      obtain ⟨r1, r2⟩ := rows_sum hu hvar hfine
      rw [List.all_eq_true] at hp
      intro ρ H1 g1 g2
      obtain ⟨ρ', H2, cs, k1, k2, k3, k4, k5⟩ := laid_parts (P := P) (W := W) (n := n) (fs.toList.map (·.type)) vals (by rw [hlen, r1]) (fun j u hj => by
        rw [List.getElem?_map, Option.map_eq_some_iff] at hj
        obtain ⟨f, hf, rfl⟩ := hj
        obtain ⟨y, hy, _⟩ := mapM_get hxs j f hf
        rw [← r2 j f hf]
        exact trod_laid hsp n F f.type _ y (hp f (List.mem_of_getElem? hf)) hy) ρ H1 g1 g2
      refine ⟨ρ', H2, cs, k1, k2, k3, k4, ?_⟩
      unfold Sh
      rw [hu]
      refine ⟨by rw [k4.length, hlen], fun j f hf => ?_⟩
      rw [r2 j f hf]
      exact k5 j f.type (by rw [List.getElem?_map, hf]; rfl)
    · rename_i vals x1 cs0 m e hu
      rw [hu] at hp
      split at h
      case isFalse => cases h
      rename_i hlen
      simp only [Option.map_eq_some_iff] at h
      obtain ⟨xs, hxs, rfl⟩ := h
      have hsz : P.cellsOf t = m * P.cellsOf e := by
        unfold rowFine at hfine
        rw [hvar, hu] at hfine
        simp only [Bool.not_true, Bool.false_or, Bool.and_eq_true, beq_iff_eq] at hfine
        exact hfine.2
      intro ρ H1 g1 g2
      obtain ⟨ρ', H2, cs, k1, k2, k3, k4, k5⟩ := laid_parts (P := P) (W := W) (n := n) (List.replicate m e) vals (by rw [hlen, hsz]; simp) (fun j u hj => by
        rw [List.getElem?_replicate] at hj
        split at hj
        · rename_i hjm
          cases hj
          rw [offOf_replicate P e m j (by omega)]
          obtain ⟨y, hy, _⟩ := mapM_get hxs j j (by simp [hjm])
          exact trod_laid hsp n F e _ y hp hy
        · cases hj) ρ H1 g1 g2
      refine ⟨ρ', H2, cs, k1, k2, k3, k4, ?_⟩
      unfold Sh
      rw [hu]
      refine ⟨by rw [k4.length, hlen], fun i hi => ?_⟩
      rw [← offOf_replicate P e m i (by omega)]
      exact k5 i e (by simp [hi])
    all_goals
      rename_i hu
      first
        | (rw [hu] at hp; cases hp; done)
        | cases h
end Go.Proofs.YtnipccoenalnkaaGreat.Ab
