/- The abstract machine, 29: facts on heaps: rows, slices that can be read, slices that are a frame's own. -/
import Derived.Test.YtnipccoenalnkaaGreatAb28
import Derived.Test.YtnipccoenalnkaaGreatAr
namespace Go.Proofs.YtnipccoenalnkaaGreat.Ab
open Go
set_option linter.unusedSimpArgs false
set_option linter.unusedVariables false

theorem bs {α β : Type} (a : α) (f : α → Option β) : (some a).bind f = f a := by
  have h : ∀ o, o = some a → o.bind f = f a := by intro o ho; subst ho; simp
  exact h _ rfl
theorem nb {α β : Type} (f : α → Option β) : (none : Option α).bind f = none := by
  have h : ∀ o, o = none → o.bind f = none := by intro o ho; subst ho; simp
  exact h _ rfl
theorem tInt (k : IntKind) (n : Int) : (Cell.int k n).toInt k = some n := by simp [Cell.toInt]
theorem tBool (b : Bool) : (Cell.bool b).toBool = some b := by simp [Cell.toBool]
theorem tSlice (s : Option Sl) : (Cell.slice s).toSlice = some s := by simp [Cell.toSlice]
theorem n1 (n : Nat) : n * 1 = n := by omega
theorem nsome {α : Type} (a : α) : (some a).isNone = false := by simp
theorem get_of {H : Heap} {id : Nat} {row : List Cell} {ro : Bool} (h : H[id]? = some (.row row ro)) (off : Nat) : H.get id off = row[off]? := by unfold Heap.get; rw [h]
theorem getRow {H : Heap} {id off : Nat} {c : Cell} (h : H.get id off = some c) : ∃ cs ro, H[id]? = some (.row cs ro) ∧ cs[off]? = some c := by
  unfold Heap.get at h
  split at h
  · rename_i cs ro h1; exact ⟨cs, ro, h1, h⟩
  · cases h
theorem get_lt {H : Heap} {id off : Nat} {c : Cell} (h : H.get id off = some c) : id < H.length := by
  obtain ⟨cs, ro, h1, _⟩ := getRow h
  exact (List.getElem?_eq_some_iff.1 h1).1
theorem get_same {H H' : Heap} {id : Nat} (h : H'[id]? = H[id]?) (off : Nat) : H'.get id off = H.get id off := by unfold Heap.get; rw [h]
theorem lt_of {H : Heap} {id : Nat} {b : Blk} (h : H[id]? = some b) : id < H.length := (List.getElem?_eq_some_iff.1 h).1
theorem put_of {H : Heap} {id : Nat} {row : List Cell} (h : H[id]? = some (.row row false)) {off : Nat} {vs : List Cell} (hb : off + vs.length ≤ row.length) : H.put id off vs = some (H.set id (.row (splice row off vs) false)) := by
  unfold Heap.put; rw [h]; simp only [hb, if_true]
theorem splice_length {row : List Cell} {off : Nat} {vs : List Cell} (h : off + vs.length ≤ row.length) : (splice row off vs).length = row.length := by
  unfold splice; simp; omega
theorem spGet {row : List Cell} {off : Nat} {vs : List Cell} (h : off + vs.length ≤ row.length) (i : Nat) : (splice row off vs)[i]? = if i < off then row[i]? else if i < off + vs.length then vs[i - off]? else row[i]? := by
  have hl : (row.take off).length = off := by simp; omega
  unfold splice
  split
  · rw [List.getElem?_append_left (by omega), List.getElem?_take_of_lt (by assumption)]
  · rw [List.getElem?_append_right (by omega), hl]
    split
    · rw [List.getElem?_append_left (by omega)]
    · rw [List.getElem?_append_right (by omega), List.getElem?_drop]
      congr 1; omega
theorem set_get' {H : Heap} {id : Nat} {a : Blk} (h : id < H.length) : (H.set id a)[id]? = some a := by simp [h]
theorem set_ne' {H : Heap} {id j : Nat} {a : Blk} (h : j ≠ id) : (H.set id a)[j]? = H[j]? := List.getElem?_set_ne (Ne.symm h)
/-- From one heap to a later one, other blocks than those of F being as they were. -/
structure Kp (F : Nat → Prop) (H H' : Heap) : Prop where
  len : H.length ≤ H'.length
  same : ∀ i, i < H.length → ¬ F i → H'[i]? = H[i]?
def No : Nat → Prop := fun _ => False
def One (k : Nat) : Nat → Prop := fun i => i = k
/-- A slice's block. -/
def Of (s : Option Sl) : Nat → Prop := fun i => ∃ sl, s = some sl ∧ i = sl.id
theorem Kp.refl (F : Nat → Prop) (H : Heap) : Kp F H H := ⟨Nat.le_refl _, fun _ _ _ => rfl⟩
theorem Kp.trans {F G D : Nat → Prop} {H H' H'' : Heap} (h : Kp F H H') (k : Kp G H' H'') (h1 : ∀ i, F i → D i) (h2 : ∀ i, i < H.length → G i → D i) : Kp D H H'' :=
  ⟨Nat.le_trans h.len k.len, fun i hi hn => by rw [k.same i (Nat.lt_of_lt_of_le hi h.len) (fun hg => hn (h2 i hi hg)), h.same i hi (fun hf => hn (h1 i hf))]⟩
theorem Kp.mono {F D : Nat → Prop} {H H' : Heap} (h : Kp F H H') (h1 : ∀ i, i < H.length → F i → D i) : Kp D H H' := ⟨h.len, fun i hi hn => h.same i hi fun hf => hn (h1 i hi hf)⟩
theorem Kp.push (F : Nat → Prop) (H X : Heap) : Kp F H (H ++ X) := ⟨by simp, fun i hi _ => List.getElem?_append_left hi⟩
theorem Kp.set (H : Heap) (id : Nat) (b : Blk) : Kp (One id) H (H.set id b) := ⟨by simp, fun i _ hn => set_ne' hn⟩
theorem Kp.at {F : Nat → Prop} {H H' : Heap} (h : Kp F H H') {i : Nat} {b : Blk} (hb : H[i]? = some b) (hn : ¬ F i) : H'[i]? = some b := by rw [h.same i (lt_of hb) hn]; exact hb
theorem Kp.get {F : Nat → Prop} {H H' : Heap} (h : Kp F H H') {i off : Nat} {c : Cell} (hb : H.get i off = some c) (hn : ¬ F i) : H'.get i off = some c := by rw [get_same (h.same i (get_lt hb) hn)]; exact hb
theorem push_get (H : Heap) (b : Blk) : (H ++ [b])[H.length]? = some b := by simp
/-- A slice that is an elder one's or lies in a new block. -/
def Fr2 (n : Nat) (s s' : Option Sl) : Prop := ∀ sl', s' = some sl' → (∃ sl, s = some sl ∧ sl'.id = sl.id) ∨ n ≤ sl'.id
def New (n : Nat) (s' : Option Sl) : Prop := ∀ sl', s' = some sl' → n ≤ sl'.id

/-- Some cells stand in a row. -/
def RC (H : Heap) (id off : Nat) (cs : List Cell) : Prop := ∀ (i : Nat) (c : Cell), cs[i]? = some c → H.get id (off + i) = some c
theorem RC.lt {H : Heap} {id off : Nat} {cs : List Cell} (h : RC H id off cs) (h0 : cs ≠ []) : id < H.length := get_lt (h 0 _ (List.getElem?_eq_getElem (List.length_pos_iff.2 h0)))
theorem RC.kp {F : Nat → Prop} {H H' : Heap} {id off : Nat} {cs : List Cell} (h : RC H id off cs) (k : Kp F H H') (hn : ¬ F id) : RC H' id off cs := fun i c e => k.get (h i c e) hn
theorem RC.sub {H : Heap} {id off : Nat} {cs : List Cell} (h : RC H id off cs) (a n : Nat) : RC H id (off + a) ((cs.drop a).take n) := fun i c e => by
  have hi : i < n := by
    have := (List.getElem?_eq_some_iff.1 e).1
    simp at this; omega
  rw [List.getElem?_take_of_lt hi, List.getElem?_drop] at e
  rw [Nat.add_assoc]; exact h _ c e
theorem RC.getN {H : Heap} {id off : Nat} {cs : List Cell} (h : RC H id off cs) (h0 : cs ≠ []) : H.getN id off cs.length = some cs := by
  have hl : 0 < cs.length := List.length_pos_iff.2 h0
  have h1 := h 0 cs[0] (List.getElem?_eq_getElem hl)
  obtain ⟨row, ro, h2, _⟩ := getRow h1
  have hg : ∀ i (hi : i < cs.length), row[off + i]? = some cs[i] := fun i hi => by rw [← get_of h2]; exact h i _ (List.getElem?_eq_getElem hi)
  have hlen : off + cs.length ≤ row.length := by
    have := (List.getElem?_eq_some_iff.1 (hg (cs.length - 1) (by omega))).1
    omega
  unfold Heap.getN
  rw [h2]
  simp only [hlen, if_true, Option.some.injEq]
  apply List.ext_getElem?
  intro i
  by_cases hi : i < cs.length
  · rw [List.getElem?_take_of_lt hi, List.getElem?_drop, hg i hi, List.getElem?_eq_getElem hi]
  · rw [List.getElem?_eq_none (by simp; omega), List.getElem?_eq_none (by omega)]

section
variable {α : Type} {n : Nat} {E : α → List Cell}
theorem flat_len (hE : ∀ x, (E x).length = n) : ∀ l : List α, (l.flatMap E).length = l.length * n
  | [] => by simp
  | x :: l => by rw [List.flatMap_cons, List.length_append, hE, flat_len hE l, List.length_cons, Nat.succ_mul]; omega
theorem flat_get (hE : ∀ x, (E x).length = n) : ∀ (l : List α) (i j : Nat) (x : α), l[i]? = some x → j < n → (l.flatMap E)[i * n + j]? = (E x)[j]?
  | [], i, j, x, h, hj => by simp at h
  | y :: l, 0, j, x, h, hj => by
    simp at h; subst h
    rw [List.flatMap_cons, Nat.zero_mul, Nat.zero_add, List.getElem?_append_left (by rw [hE]; exact hj)]
  | y :: l, i + 1, j, x, h, hj => by
    rw [List.flatMap_cons, Nat.succ_mul, List.getElem?_append_right (by rw [hE]; omega), hE, show i * n + n + j - n = i * n + j by omega]
    exact flat_get hE l i j x (by simpa using h) hj
theorem flat_drop (hE : ∀ x, (E x).length = n) : ∀ (l : List α) (a : Nat), (l.flatMap E).drop (a * n) = (l.drop a).flatMap E
  | l, 0 => by simp
  | [], a + 1 => by simp
  | y :: l, a + 1 => by
    rw [List.flatMap_cons, List.drop_succ_cons, ← flat_drop hE l a, Nat.succ_mul, Nat.add_comm, ← List.drop_drop]
    congr 1; rw [List.drop_append_of_le_length (by rw [hE]; omega), List.drop_eq_nil_of_le (by rw [hE]; omega)]; rfl
theorem flat_take (hE : ∀ x, (E x).length = n) : ∀ (l : List α) (a : Nat), (l.flatMap E).take (a * n) = (l.take a).flatMap E
  | l, 0 => by simp
  | [], a + 1 => by simp
  | y :: l, a + 1 => by
    rw [List.take_succ_cons, List.flatMap_cons, List.flatMap_cons, ← flat_take hE l a, Nat.succ_mul, Nat.add_comm]
    have := hE y
    rw [List.take_append, this, show n + a * n - n = a * n by omega, List.take_of_length_le (by omega)]
/-- A slice that can be read. -/
def RS (n : Nat) (E : α → List Cell) (H : Heap) (s : Option Sl) (l : List α) : Prop :=
  match s with
  | none => l = []
  | some sl => sl.len = l.length ∧ sl.esz = n ∧ sl.len ≤ sl.cap ∧ RC H sl.id sl.off (l.flatMap E)
theorem RS.slenEq {H : Heap} {s : Option Sl} {l : List α} (h : RS n E H s l) : slen s = (l.length : Int) := by
  cases s with
  | none => cases h; rfl
  | some sl => simp [slen, h.1]
theorem RS.nil (H : Heap) : RS n E H none ([] : List α) := rfl
theorem RS.esOkT {H : Heap} {s : Option Sl} {l : List α} (h : RS n E H s l) : esOk s n = true := by
  cases s with
  | none => rfl
  | some sl => show (sl.esz == n) = true; rw [h.2.1]; simp
theorem RS.kp {F : Nat → Prop} {H H' : Heap} {s : Option Sl} {l : List α} (h : RS n E H s l) (k : Kp F H H') (hn : ∀ sl, s = some sl → l ≠ [] → ¬ F sl.id) : RS n E H' s l := by
  cases s with
  | none => exact h
  | some sl =>
    refine ⟨h.1, h.2.1, h.2.2.1, ?_⟩
    by_cases h0 : l = []
    · subst h0; intro i c e; simp at e
    · exact h.2.2.2.kp k (hn sl rfl h0)
theorem RS.lt (hE : ∀ x, (E x).length = n) (hn : 0 < n) {H : Heap} {sl : Sl} {l : List α} (h : RS n E H (some sl) l) (h0 : l ≠ []) : sl.id < H.length := h.2.2.2.lt fun e => by
  have h4 := flat_len hE l
  rw [e] at h4
  have : 0 < l.length * n := Nat.mul_pos (List.length_pos_iff.2 h0) hn
  simp at h4; omega
/-- Of old heaps, all that is new keeps it. -/
theorem RS.new (hE : ∀ x, (E x).length = n) (hp : 0 < n) {F : Nat → Prop} {H H' : Heap} {s : Option Sl} {l : List α} (h : RS n E H s l) (k : Kp F H H') (hn : ∀ i, i < H.length → ¬ F i) : RS n E H' s l :=
  h.kp k fun sl e h0 => by subst e; exact hn _ (h.lt hE hp h0)
theorem RS.idx (hE : ∀ x, (E x).length = n) {H : Heap} {s : Option Sl} {l : List α} (h : RS n E H s l) {i : Nat} {x : α} (hi : l[i]? = some x) :
    ∃ sl, s = some sl ∧ (inb (i : Int) sl.len && sl.esz == n) = true ∧ ∀ j c, (E x)[j]? = some c → H.get sl.id (sl.off + (i : Int).toNat * n + j) = some c := by
  cases s with
  | none => cases h; simp at hi
  | some sl =>
    obtain ⟨h1, h2, _, h3⟩ := h
    have hl := (List.getElem?_eq_some_iff.1 hi).1
    refine ⟨sl, rfl, ?_, fun j c hc => ?_⟩
    · rw [h2]; simp [inb]; omega
    · have hj : j < n := by rw [← hE x]; exact (List.getElem?_eq_some_iff.1 hc).1
      rw [Int.toNat_natCast, Nat.add_assoc]
      exact h3 _ c (by rw [flat_get hE l i j x hi hj]; exact hc)
/-- One cell an element. -/
theorem RS.idx1 {E : α → List Cell} {H : Heap} {s : Option Sl} {l : List α} (h : RS 1 E H s l) {i : Nat} {x : α} (hi : l[i]? = some x) {e : α → Cell} (hE : ∀ x, E x = [e x]) :
    ∃ sl, s = some sl ∧ (inb (i : Int) sl.len && sl.esz == 1) = true ∧ H.get sl.id (sl.off + (i : Int).toNat * 1) = some (e x) := by
  obtain ⟨sl, h1, h2, h3⟩ := h.idx (fun x => by rw [hE]; rfl) hi
  exact ⟨sl, h1, h2, h3 0 (e x) (by rw [hE]; rfl)⟩
theorem RS.cells (hE : ∀ x, (E x).length = n) (hn : 0 < n) {H : Heap} {s : Option Sl} {l : List α} (h : RS n E H s l) : H.cellsOf n s = some (l.flatMap E) ∧ (slen s).toNat = l.length := by
  cases s with
  | none => cases h; exact ⟨rfl, rfl⟩
  | some sl =>
    obtain ⟨h1, h2, _, h3⟩ := h
    refine ⟨?_, by simp [slen, h1]⟩
    show (if sl.esz = n then (if sl.len = 0 then some [] else H.getN sl.id sl.off (sl.len * n)) else none) = _
    rw [if_pos h2]
    by_cases h0 : sl.len = 0
    · rw [if_pos h0]
      have : l = [] := List.eq_nil_of_length_eq_zero (by omega)
      subst this; rfl
    · rw [if_neg h0, show sl.len * n = (l.flatMap E).length by rw [flat_len hE, h1]]
      refine h3.getN fun e => ?_
      have h4 := flat_len hE l
      rw [e] at h4
      have : 0 < l.length * n := Nat.mul_pos (by omega) hn
      simp at h4; omega
/-- A part of a slice. -/
theorem RS.sub (hE : ∀ x, (E x).length = n) {H : Heap} {s : Option Sl} {l : List α} (h : RS n E H s l) (a b : Nat) (hab : a ≤ b) (hb : b ≤ l.length) :
    ∃ s', Sl.sub s (a : Int) (some (b : Int)) = some s' ∧ RS n E H s' ((l.drop a).take (b - a)) ∧ (∀ sl', s' = some sl' → ∃ sl, s = some sl ∧ sl'.id = sl.id) := by
  cases s with
  | none =>
    cases h
    simp only [List.length_nil] at hb
    have : a = 0 := by omega
    have : b = 0 := by omega
    subst a b
    exact ⟨none, rfl, by simp [RS], fun _ e => nomatch e⟩
  | some sl =>
    obtain ⟨h1, h2, h4, h3⟩ := h
    unfold Sl.sub
    simp only [Option.getD_some]
    rw [if_pos (by omega)]
    refine ⟨_, rfl, ⟨?_, h2, ?_, ?_⟩, fun sl' e => ⟨sl, rfl, by cases e; rfl⟩⟩
    · simp; omega
    · simp; omega
    · simp only [Int.toNat_natCast, h2]
      have h5 := h3.sub (a * n) ((b - a) * n)
      rw [flat_drop hE, flat_take hE] at h5
      exact h5
theorem RS.sub0 (hE : ∀ x, (E x).length = n) {H : Heap} {s : Option Sl} {l : List α} (h : RS n E H s l) (b : Nat) (hb : b ≤ l.length) :
    ∃ s', Sl.sub s 0 (some (b : Int)) = some s' ∧ RS n E H s' (l.take b) ∧ (∀ sl', s' = some sl' → ∃ sl, s = some sl ∧ sl'.id = sl.id) := by
  have := h.sub hE 0 b (by omega) hb
  simpa using this
/-- A slice that is the frame's own: it can be changed, and grows. -/
def OS (n : Nat) (E : α → List Cell) (H : Heap) (s : Option Sl) (l : List α) : Prop :=
  match s with
  | none => l = []
  | some sl => sl.len = l.length ∧ sl.esz = n ∧ sl.len ≤ sl.cap ∧ ∃ row, H[sl.id]? = some (.row row false) ∧ sl.off + sl.cap * n ≤ row.length ∧ ∀ (i : Nat) (c : Cell), (l.flatMap E)[i]? = some c → row[sl.off + i]? = some c
theorem OS.rs {H : Heap} {s : Option Sl} {l : List α} (h : OS n E H s l) : RS n E H s l := by
  cases s with
  | none => exact h
  | some sl =>
    obtain ⟨h1, h2, h5, row, h3, _, h4⟩ := h
    exact ⟨h1, h2, h5, fun i b hb => by rw [get_of h3]; exact h4 i b hb⟩
theorem OS.kp {F : Nat → Prop} {H H' : Heap} {s : Option Sl} {l : List α} (h : OS n E H s l) (k : Kp F H H') (hn : ∀ sl, s = some sl → ¬ F sl.id) : OS n E H' s l := by
  cases s with
  | none => exact h
  | some sl =>
    obtain ⟨h1, h2, h3, row, h4, h5⟩ := h
    exact ⟨h1, h2, h3, row, k.at h4 (hn sl rfl), h5⟩
theorem OS.lt {H : Heap} {sl : Sl} {l : List α} (h : OS n E H (some sl) l) : sl.id < H.length := by
  obtain ⟨_, _, _, row, h4, _⟩ := h
  exact lt_of h4
theorem app_OS (hE : ∀ x, (E x).length = n) {H : Heap} {s : Option Sl} {l m : List α} {by' : Nat} (h : OS n E H s l) (hb : (l.length + m.length) * by' ≤ most) :
    ∃ s' H', H.app n by' s m.length (m.flatMap E) = some (s', H') ∧ OS n E H' s' (l ++ m) ∧ Kp (Of s) H H' ∧ Fr2 H.length s s' := by
  unfold Heap.app
  by_cases hm : m.length = 0
  · have : m = [] := List.eq_nil_of_length_eq_zero hm
    subst this
    rw [if_pos hm]
    exact ⟨s, H, rfl, by simpa using h, Kp.refl _ _, fun sl' e => .inl ⟨sl', e, rfl⟩⟩
  rw [if_neg hm]
  have hbl := flat_len hE m
  cases s with
  | none =>
    cases h
    simp only [List.length_nil, Nat.zero_add] at hb
    simp only [hb, if_true]
    refine ⟨_, _, rfl, ⟨by simp, rfl, Nat.le_refl _, m.flatMap E, by simp, by simp only [hbl]; omega, fun i b e => by simpa using e⟩, Kp.push _ _ _, fun sl' e => ?_⟩
    cases e
    exact .inr (Nat.le_refl _)
  | some sl =>
    have hlt := h.lt
    obtain ⟨h1, h2, h3, row, h4, h5, h6⟩ := h
    have hln := flat_len hE l
    simp only [h2, ne_eq, not_true_eq_false, if_false]
    have hmul : (sl.len + m.length) * n = sl.len * n + m.length * n := Nat.add_mul ..
    have hl1 : sl.len * n = l.length * n := by rw [h1]
    by_cases hcap : sl.len + m.length ≤ sl.cap
    · have hc2 : (sl.len + m.length) * n ≤ sl.cap * n := Nat.mul_le_mul_right _ hcap
      have hfit : sl.off + sl.len * n + (m.flatMap E).length ≤ row.length := by omega
      rw [if_pos hcap, put_of h4 hfit, Option.map_some]
      have hsl : (splice row (sl.off + sl.len * n) (m.flatMap E)).length = row.length := splice_length hfit
      refine ⟨_, _, rfl, ⟨by simp [h1], rfl, by show sl.len + m.length ≤ sl.cap; omega, _, set_get' hlt, by rw [hsl]; exact h5, fun i b e => ?_⟩, ?_, fun sl' e => ?_⟩
      · show (splice row (sl.off + sl.len * n) (m.flatMap E))[sl.off + i]? = _
        rw [spGet hfit]
        rw [List.flatMap_append] at e
        by_cases hi : i < l.length * n
        · rw [if_pos (by omega)]
          rw [List.getElem?_append_left (by omega)] at e
          exact h6 i b e
        · rw [List.getElem?_append_right (by omega)] at e
          have := (List.getElem?_eq_some_iff.1 e).1
          rw [if_neg (by omega), if_pos (by omega), show sl.off + i - (sl.off + sl.len * n) = i - (l.flatMap E).length by omega]
          exact e
      · exact (Kp.set _ _ _).mono fun i _ hi => ⟨sl, rfl, hi⟩
      · cases e
        exact .inl ⟨sl, rfl, rfl⟩
    · have hc3 : sl.len * n ≤ sl.cap * n := Nat.mul_le_mul_right _ h3
      rw [if_neg hcap, if_pos (by rw [h1]; exact hb), h4]
      simp only
      rw [if_pos (by omega)]
      have htl : ((row.drop sl.off).take (sl.len * n)).length = sl.len * n := by simp; omega
      refine ⟨_, _, rfl, ⟨by simp [h1], rfl, Nat.le_refl _, (row.drop sl.off).take (sl.len * n) ++ m.flatMap E, by simp, ?_, fun i b e => ?_⟩, ⟨by simp, fun i hi hne => ?_⟩, fun sl' e => ?_⟩
      · rw [List.length_append, htl, hbl]; show 0 + (sl.len + m.length) * n ≤ _; omega
      · simp only [Nat.zero_add]
        rw [List.flatMap_append] at e
        by_cases hi : i < l.length * n
        · rw [List.getElem?_append_left (by omega), List.getElem?_take_of_lt (by omega), List.getElem?_drop]
          rw [List.getElem?_append_left (by omega)] at e
          exact h6 i b e
        · rw [List.getElem?_append_right (by omega)] at e
          rw [List.getElem?_append_right (by omega), htl, hl1, ← hln]
          exact e
      · have : i ≠ sl.id := fun e => hne ⟨sl, rfl, e⟩
        rw [List.getElem?_append_left (by simpa using hi), set_ne' this]
      · cases e
        exact .inr (by simp)
theorem append_OS (hE : ∀ x, (E x).length = n) (hn : 0 < n) {H : Heap} {s x : Option Sl} {l m : List α} {by' : Nat} (h : OS n E H s l) (hx : RS n E H x m) (hb : (l.length + m.length) * by' ≤ most) :
    ∃ s' H', H.append n by' s x = some (s', H') ∧ OS n E H' s' (l ++ m) ∧ Kp (Of s) H H' ∧ Fr2 H.length s s' := by
  obtain ⟨h1, h2⟩ := hx.cells hE hn
  unfold Heap.append
  rw [h1, bs, h2]
  exact app_OS hE h hb
/-- A slice of nothing, just made. -/
theorem OS_new (H : Heap) : OS n E (H ++ [.row [] false]) (some ⟨H.length, 0, 0, 0, n⟩) [] :=
  ⟨rfl, rfl, Nat.le_refl _, [], by simp, by simp, fun i b e => by simp at e⟩
/-- An element of one's own slice, changed in part. -/
theorem OS.put (hE : ∀ x, (E x).length = n) {H : Heap} {sl : Sl} {l : List α} (h : OS n E H (some sl) l) {i j : Nat} {x y : α} {vs : List Cell} (hi : l[i]? = some x) (hj : j + vs.length ≤ n) (hy : E y = splice (E x) j vs) :
    ∃ H', H.put sl.id (sl.off + i * n + j) vs = some H' ∧ OS n E H' (some sl) (l.set i y) ∧ Kp (One sl.id) H H' ∧ H'.length = H.length := by
  have hlt := h.lt
  obtain ⟨h1, h2, h3, row, h4, h5, h6⟩ := h
  have hil := (List.getElem?_eq_some_iff.1 hi).1
  have hc : (i + 1) * n ≤ sl.cap * n := Nat.mul_le_mul_right _ (by omega)
  rw [Nat.succ_mul] at hc
  have hfit : sl.off + i * n + j + vs.length ≤ row.length := by omega
  refine ⟨_, put_of h4 hfit, ⟨by simpa using h1, h2, h3, _, set_get' hlt, by rw [splice_length hfit]; exact h5, fun k c e => ?_⟩, Kp.set _ _ _, by simp⟩
  rw [spGet hfit]
  have hlen := flat_len hE (l.set i y)
  have hk := (List.getElem?_eq_some_iff.1 e).1
  rw [hlen, List.length_set] at hk
  have hn : 0 < n := by
    rcases Nat.eq_zero_or_pos n with h | h
    · subst h; simp at hk
    · exact h
  have hq : k / n < l.length := (Nat.div_lt_iff_lt_mul hn).2 hk
  have hm : k % n < n := Nat.mod_lt _ hn
  have hkk : k = k / n * n + k % n := by rw [Nat.mul_comm]; exact (Nat.div_add_mod k n).symm
  by_cases hki : k / n = i
  · have e1 : (l.set i y)[k / n]? = some y := by rw [hki]; simp [hil]
    rw [hkk, flat_get hE _ _ _ y e1 hm, hy, spGet (by rw [hE]; exact hj)] at e
    have hki2 : k / n * n = i * n := by rw [hki]
    by_cases g1 : k % n < j
    · rw [if_pos g1] at e
      rw [if_pos (by omega)]
      refine h6 k c ?_
      rw [hkk, flat_get hE _ _ _ x (by rw [hki]; exact hi) hm]; exact e
    · rw [if_neg g1] at e
      by_cases g2 : k % n < j + vs.length
      · rw [if_pos g2] at e
        rw [if_neg (by omega), if_pos (by omega), ← e]; congr 1; omega
      · rw [if_neg g2] at e
        rw [if_neg (by omega), if_neg (by omega)]
        refine h6 k c ?_
        rw [hkk, flat_get hE _ _ _ x (by rw [hki]; exact hi) hm]; exact e
  · obtain ⟨z, hz⟩ : ∃ z, l[k / n]? = some z := ⟨l[k / n], List.getElem?_eq_getElem hq⟩
    have e1 : (l.set i y)[k / n]? = some z := by rw [List.getElem?_set_ne (Ne.symm hki)]; exact hz
    have e2 : (l.flatMap E)[k]? = some c := by
      rw [hkk, flat_get hE _ _ _ z e1 hm] at e
      rw [hkk, flat_get hE _ _ _ z hz hm]; exact e
    have h7 := h6 k c e2
    have : sl.off + k < sl.off + i * n + j ∨ sl.off + i * n + j + vs.length ≤ sl.off + k := by
      rcases Nat.lt_or_ge (k / n) i with h | h
      · left
        have := Nat.mul_le_mul_right n (show k / n + 1 ≤ i from h)
        rw [Nat.succ_mul] at this
        omega
      · right
        have := Nat.mul_le_mul_right n (show i + 1 ≤ k / n by omega)
        rw [Nat.succ_mul] at this
        omega
    rcases this with h | h
    · rw [if_pos h]; exact h7
    · rw [if_neg (by omega), if_neg (by omega)]; exact h7
/-- Elements of one's own slice, written over. -/
theorem OS.over (hE : ∀ x, (E x).length = n) {H : Heap} {sl : Sl} {l m : List α} {a : Nat} (h : OS n E H (some sl) l) (ha : a + m.length ≤ l.length) {row : List Cell} (hrow : H[sl.id]? = some (.row row false)) :
    OS n E (H.set sl.id (.row (splice row (sl.off + a * n) (m.flatMap E)) false)) (some sl) (l.take a ++ m ++ l.drop (a + m.length)) ∧ sl.off + a * n + (m.flatMap E).length ≤ row.length := by
  have hlt := h.lt
  obtain ⟨h1, h2, h3, row', h4, h5, h6⟩ := h
  rw [hrow] at h4; cases h4
  have hm := flat_len hE m
  have hc : (a + m.length) * n ≤ sl.cap * n := Nat.mul_le_mul_right _ (by omega)
  rw [Nat.add_mul] at hc
  have hfit : sl.off + a * n + (m.flatMap E).length ≤ row.length := by omega
  refine ⟨⟨by simp; omega, h2, h3, _, set_get' hlt, by rw [splice_length hfit]; exact h5, fun i c e => ?_⟩, hfit⟩
  have hal : (l.take a).length = a := by simp; omega
  have e1 : (l.take a ++ m ++ l.drop (a + m.length)).flatMap E = (l.flatMap E).take (a * n) ++ m.flatMap E ++ (l.flatMap E).drop ((a + m.length) * n) := by
    rw [List.flatMap_append, List.flatMap_append, ← flat_take hE, ← flat_drop hE]
  rw [e1] at e
  have hl := flat_len hE l
  have hal2 : a * n + m.length * n ≤ l.length * n := by rw [← Nat.add_mul]; exact Nat.mul_le_mul_right _ ha
  have ht : ((l.flatMap E).take (a * n)).length = a * n := by rw [List.length_take]; omega
  rw [spGet hfit]
  by_cases g1 : i < a * n
  · rw [List.append_assoc, List.getElem?_append_left (by omega), List.getElem?_take_of_lt g1] at e
    rw [if_pos (by omega)]; exact h6 i c e
  · by_cases g2 : i < a * n + (m.flatMap E).length
    · rw [List.append_assoc, List.getElem?_append_right (by omega), List.getElem?_append_left (by omega), ht] at e
      rw [if_neg (by omega), if_pos (by omega), ← e]; congr 1; omega
    · rw [List.getElem?_append_right (by rw [List.length_append]; omega), List.length_append, ht, List.getElem?_drop] at e
      rw [if_neg (by omega), if_neg (by omega)]
      refine h6 i c ?_
      rw [← e]; congr 1; rw [Nat.add_mul]; omega
end

/-! bytes -/
def E8 (b : UInt8) : List Cell := [.int .u8 (b.toNat : Int)]
theorem E8_len (b : UInt8) : (E8 b).length = 1 := rfl
theorem toBytes_flat : ∀ l : List UInt8, toBytes (l.flatMap E8) = some l
  | [] => rfl
  | b :: l => by
    rw [List.flatMap_cons]
    show (toBytes (l.flatMap E8)).map (fun r => UInt8.ofNat ((b.toNat : Int).toNat) :: r) = _
    rw [toBytes_flat l]; simp
theorem RS.str {H : Heap} {s : Option Sl} {l : List UInt8} (h : RS 1 E8 H s l) : H.str s = some ⟨l.toArray⟩ := by
  cases s with
  | none => cases h; rfl
  | some sl =>
    obtain ⟨h1, h2, _, h3⟩ := h
    unfold Heap.str
    simp only [h2, if_true]
    by_cases h0 : sl.len = 0
    · rw [if_pos h0]
      have : l = [] := List.eq_nil_of_length_eq_zero (by omega)
      subst this; rfl
    · rw [if_neg h0, show sl.len = (l.flatMap E8).length by rw [flat_len E8_len, h1, Nat.mul_one], h3.getN, bs, toBytes_flat]
      · rfl
      · intro e
        have h4 := flat_len E8_len l
        rw [e] at h4; simp at h4; omega
end Go.Proofs.YtnipccoenalnkaaGreat.Ab
