/- Layer 4: the program's image: which segments; sizes; the text. -/
import Derived.Test.YtnjdajcgcnjamaaImE
namespace Go.Proofs.Ytnjdajcgcnjamaa
open Go Go.Proofs.Ytnjdajcgcnjamaa.Ab
set_option linter.unusedVariables false
set_option linter.unusedSimpArgs false
set_option maxRecDepth 100000
noncomputable section
/-! slices of one's own, cleared, cut -/
theorem clear_sub {α : Type} {n : Nat} {E : α → List Cell} {H : Heap} {sl : Sl} {A B : List α} (h : RS n E H (some sl) (A ++ B)) : Sl.sub (some sl) (A.length : Int) none = some (some ⟨sl.id, sl.off + A.length * n, B.length, sl.cap - A.length, n⟩) := by
  have h1 : sl.len = A.length + B.length := by simpa using h.1
  have h2 := h.2.1
  have h3 := h.2.2.1
  unfold Sl.sub
  simp only [Option.getD_none]
  rw [if_pos (by omega)]
  congr 3
  · rw [h2]; simp
  · omega
theorem clear_OS {α : Type} {n : Nat} {E : α → List Cell} (hE : ∀ x, (E x).length = n) (z : α) {H : Heap} {sl : Sl} {A B : List α} {cap : Nat} (h : OS n E H (some sl) (A ++ B)) :
    ∃ H', H.clear n (E z) (some ⟨sl.id, sl.off + A.length * n, B.length, cap, n⟩) = some H' ∧ OS n E H' (some sl) (A ++ List.replicate B.length z) ∧ Kp (One sl.id) H H' := by
  unfold Heap.clear
  simp only [if_true]
  by_cases h0 : B.length = 0
  · have : B = [] := List.eq_nil_of_length_eq_zero h0
    subst this
    exact ⟨H, by simp, by simpa using h, Kp.refl _ _⟩
  · rw [if_neg h0]
    obtain ⟨_, _, _, row, hrow, _⟩ := id h
    obtain ⟨h2, hfit⟩ := h.over hE (a := A.length) (m := List.replicate B.length z) (by simp) hrow
    refine ⟨H.set sl.id (.row (splice row (sl.off + A.length * n) ((List.replicate B.length z).flatMap E)) false), ?_, ?_, Kp.set _ _ _⟩
    · rw [rep_flat z, put_of hrow hfit]
    · simpa using h2
theorem Ab.OS.sub0 {α : Type} {n : Nat} {E : α → List Cell} (hE : ∀ x, (E x).length = n) {H : Heap} {s : Option Sl} {l : List α} (h : OS n E H s l) (b : Nat) (hb : b ≤ l.length) :
    ∃ s', Sl.sub s 0 (some (b : Int)) = some s' ∧ OS n E H s' (l.take b) ∧ (∀ sl', s' = some sl' → ∃ sl, s = some sl ∧ sl'.id = sl.id) := by
  obtain ⟨s', h1, h2, h3⟩ := h.rs.sub0 hE b hb
  refine ⟨s', h1, ?_, h3⟩
  cases s with
  | none =>
    have : l = [] := h
    subst this
    have hb0 : b = 0 := by simpa using hb
    subst hb0
    simp [Sl.sub] at h1
    subst h1
    simp [OS]
  | some sl =>
    obtain ⟨o1, o2, o3, row, o4, o5, o6⟩ := h
    unfold Sl.sub at h1
    simp only [Option.getD_some] at h1
    rw [if_pos (by omega)] at h1
    cases h1
    refine ⟨by simp; omega, o2, by simp; omega, row, o4, by simp; exact o5, fun i c e => ?_⟩
    simp only [Int.toNat_zero, Nat.zero_mul, Nat.add_zero]
    refine o6 i c ?_
    rw [← flat_take hE] at e
    have hi := (List.getElem?_eq_some_iff.1 e).1
    rw [List.length_take] at hi
    rwa [List.getElem?_take_of_lt (by omega)] at e
/-! which segments -/
def isX (s : Sg) : Bool := band IntKind.i64 s.flags 1 != 0
theorem f54_x {H : Heap} {q : Nat} {k : Int} (h : H.get q 0 = some (.int .i64 k)) {a b c d : Int} {e : Option Sl} : f54 a b c d e (some (q, 0)) H = some (a != k, H) := by rw [q54]; simp only [Ab.bs, h, tInt]
theorem f28_x {H : Heap} {a b c d : Int} {e : Option Sl} : f28 a b c d e H = some (band IntKind.i64 b 1 != 0, H) := q28 a b c d e H
def fidx (p : Sg → Bool) : Nat → List Sg → Int
  | _, [] => -1
  | i, s :: r => bif p s then (i : Int) else fidx p (i + 1) r
theorem fidx_spec (p : Sg → Bool) : ∀ (l : List Sg) (i : Nat), (fidx p i l = -1 ∧ ∀ s ∈ l, p s = false) ∨ ∃ A s x, l = A ++ s :: x ∧ (∀ s ∈ A, p s = false) ∧ p s = true ∧ fidx p i l = ((i + A.length : Nat) : Int)
  | [], i => .inl ⟨rfl, (fun _ h => by cases h)⟩
  | s :: r, i => by
    cases hp : p s with
    | true => exact .inr ⟨[], s, r, rfl, (fun _ h => by cases h), hp, by simp [fidx, hp]⟩
    | false =>
      rcases fidx_spec p r (i + 1) with ⟨h1, h2⟩ | ⟨A, t, x, h1, h2, h3, h4⟩
      · exact .inl ⟨by simp [fidx, hp, h1], fun t ht => by
        rcases List.mem_cons.1 ht with rfl | h
        · exact hp
        · exact h2 t h⟩
      · exact .inr ⟨s :: A, t, x, by simp [h1], (fun u hu => by
        rcases List.mem_cons.1 hu with rfl | h
        · exact hp
        · exact h2 u h), h3, by simp [fidx, hp, h4]; omega⟩
theorem loop57b {H : Heap} {t : Option Sl} {l : List Sg} (hR : RS 5 ESg H t l) (hl : l.length < 1000) {q : Nat} {k : Int} (hq : H.get q 0 = some (.int .i64 k)) : ∀ (m n i : Nat), i + m = l.length →
    (D57b_2 (n + m + 1) t (some (q, 0)) (l.length : Int) (i : Int) H).bind J57b_2 = some (fidx (fun s : Sg => s.kind != k) i (l.drop i), H)
  | 0, n, i, hm => by
    have g : decide ((i : Int) < (l.length : Int)) = false := by simp; omega
    rw [List.drop_eq_nil_of_le (by omega), D57b_2_s, g, cf, Ab.bs, J57b_2_1]; rfl
  | m + 1, n, i, hm => by
    have g : decide ((i : Int) < (l.length : Int)) = true := by simp; omega
    have hi : i < l.length := by omega
    obtain ⟨sl, e0, g1, c0, c1, c2, c3, c4⟩ := getsSg hR (List.getElem?_eq_getElem hi)
    have ih := loop57b hR hl hq m n (i + 1) (by omega)
    rw [show n + (m + 1) + 1 = (n + m + 1) + 1 by omega, D57b_2_s, g, ct, List.drop_eq_getElem_cons hi, fidx]
    rw [show t.bind = (some sl).bind (β := AExit × St) by rw [e0]]
    simp only [Ab.bs, g1, ct, c0, c1, c2, c3, c4, tInt, tSlice, f54_x hq, i64_succ i (by omega)]
    cases hp : (fun s : Sg => s.kind != k) l[i] with
    | true => 
      have hp' : (l[i].kind != k) = true := hp
      rw [hp', ct, Ab.bs, J57b_2_0, ct]
    | false =>
      have hp' : (l[i].kind != k) = false := hp
      rw [hp', cf, cf, ih]
theorem f57b_x {H : Heap} {t : Option Sl} {l : List Sg} (hR : RS 5 ESg H t l) (hl : l.length < 1000) {q : Nat} {k : Int} (hq : H.get q 0 = some (.int .i64 k)) : f57b t (some (q, 0)) H = some (fidx (fun s : Sg => s.kind != k) 0 l, H) := by
  obtain ⟨n, e⟩ := LL57b_2_of l.length (by omega) t (some (q, 0)) (l.length : Int) 0 H
  have h := loop57b hR hl hq l.length n 0 (by omega)
  rw [List.drop_zero] at h
  rw [q57b, hR.slenEq, e]
  exact h
theorem loop27a (sl : Sl) {q : Nat} {k : Int} (hne : q ≠ sl.id) : ∀ (x : List Sg) (m n : Nat) (A B : List Sg) (H : Heap), OS 5 ESg H (some sl) (A ++ B ++ x) → x.length = m → (A ++ B ++ x).length < 1000 → 1 ≤ B.length → H.get q 0 = some (.int .i64 k) →
    ∃ H', D27a_5 (n + m + 1) (some sl) (some (q, 0)) (A.length : Int) ((A ++ B).length : Int) H = some (.exit 0, X27a_5 (some sl) ((A ++ x.filter fun s => !(fun s : Sg => s.kind != k) s).length : Nat) H') ∧ Kp (One sl.id) H H' ∧
      ∃ B' : List Sg, OS 5 ESg H' (some sl) (A ++ (x.filter fun s => !(fun s : Sg => s.kind != k) s) ++ B') ∧ (A ++ B ++ x).length = (A ++ (x.filter fun s => !(fun s : Sg => s.kind != k) s) ++ B').length
  | [], m, n, A, B, H, h, hm, hl, hB, hq => by
    subst hm
    refine ⟨H, ?_, Kp.refl _ _, B, by simpa using h, by simp⟩
    have g : decide (((A ++ B).length : Int) < slen (some sl)) = false := by rw [h.rs.slenEq]; simp
    rw [show n + [].length + 1 = n + 1 from rfl, D27a_5_s, g, cf]; simp
  | s :: x, m, n, A, B, H, h, hm, hl, hB, hq => by
    subst hm
    have hle : (A ++ B ++ s :: x).length = A.length + B.length + x.length + 1 := by simp; omega
    have g : decide (((A ++ B).length : Int) < slen (some sl)) = true := by rw [h.rs.slenEq]; simp; omega
    have hi : (A ++ B ++ s :: x)[(A ++ B).length]? = some s := by rw [List.getElem?_append_right (Nat.le_refl _)]; simp
    obtain ⟨sl', e0, g1, c0, c1, c2, c3, c4⟩ := getsSg h.rs hi
    cases e0
    have w1 : IntKind.i64.wrap (((A ++ B).length : Int) + 1) = (((A ++ B).length + 1 : Nat) : Int) := i64_succ _ (by simp; omega)
    have w2 : IntKind.i64.wrap ((A.length : Int) + 1) = ((A.length + 1 : Nat) : Int) := i64_succ _ (by omega)
    rw [show n + (s :: x).length + 1 = (n + x.length + 1) + 1 by simp; omega, D27a_5_s, g, ct]
    cases hp : (fun s : Sg => s.kind != k) s with
    | true =>
      have hp' : (s.kind != k) = true := hp
      have h' : OS 5 ESg H (some sl) (A ++ (B ++ [s]) ++ x) := by simpa using h
      obtain ⟨H', e', k', B', o', l'⟩ := loop27a sl (hne) x _ n A (B ++ [s]) H h' rfl (by simp at hl ⊢; omega) (by simp) hq
      refine ⟨H', ?_, k', B', by simpa [hp] using o', by simpa [hp] using l'⟩
      simp only [Ab.bs, g1, ct, cf, c0, c1, c2, c3, c4, tInt, tSlice, f54_x hq, hp', Bool.not_true, w1]
      rw [show (((A ++ B).length + 1 : Nat) : Int) = ((A ++ (B ++ [s])).length : Int) by simp; omega, e']
      simp [hp]
    | false =>
      have hp' : (s.kind != k) = false := hp
      obtain ⟨b, B2, rfl⟩ : ∃ b B2, B = b :: B2 := by cases B with | nil => simp at hB | cons b B2 => exact ⟨b, B2, rfl⟩
      have hA : (A ++ b :: B2 ++ s :: x)[A.length]? = some b := by rw [List.append_assoc, List.getElem?_append_right (Nat.le_refl _)]; simp
      obtain ⟨H1, p1, o1, k1, _⟩ := h.put (i := A.length) (j := 0) (y := s) (vs := ESg s) ESg_len hA (by simp [ESg]) (by simp [splice, ESg])
      have o2 : OS 5 ESg H1 (some sl) ((A ++ [s]) ++ (B2 ++ [s]) ++ x) := by simpa using o1
      obtain ⟨sl', e0, g2, _⟩ := getsSg h.rs hA
      cases e0
      have p1' : H.put sl.id (sl.off + (A.length : Int).toNat * 5) [Cell.int IntKind.i64 s.kind, Cell.int IntKind.i64 s.flags, Cell.int IntKind.u64 s.addr, Cell.int IntKind.u64 s.size, Cell.slice s.sl] = some H1 := by rw [Int.toNat_natCast]; exact p1
      obtain ⟨H', e', k', B', o', l'⟩ := loop27a sl (hne) x _ n (A ++ [s]) (B2 ++ [s]) H1 o2 rfl (by simp at hl ⊢; omega) (by simp) (k1.get hq hne)
      refine ⟨H', ?_, k1.one k', B', by simpa [hp] using o', by simpa [hp] using l'⟩
      simp only [Ab.bs, g1, ct, cf, c0, c1, c2, c3, c4, tInt, tSlice, f54_x hq, hp', Bool.not_false, w1, w2, g2, p1']
      rw [show ((A.length + 1 : Nat) : Int) = ((A ++ [s]).length : Int) by simp, show (((A ++ b :: B2).length + 1 : Nat) : Int) = (((A ++ [s]) ++ (B2 ++ [s])).length : Int) by simp; omega, e']
      simp [hp]
theorem f27a_x {H : Heap} {t : Option Sl} {l : List Sg} (h : OS 5 ESg H t l) (hl : l.length < 1000) {q : Nat} {k : Int} (hq : H.get q 0 = some (.int .i64 k)) (hne : ∀ sl, t = some sl → q ≠ sl.id) : ∃ t' H', f27a t (some (q, 0)) H = some (t', H') ∧ OS 5 ESg H' t' (l.filter fun s => !(fun s : Sg => s.kind != k) s) ∧ Kp (Of t) H H' ∧ (∀ sl', t' = some sl' → ∃ sl, t = some sl ∧ sl'.id = sl.id) := by
  rw [q27a, f57b_x h.rs hl hq, Ab.bs]
  rcases fidx_spec (fun s : Sg => s.kind != k) l 0 with ⟨e, hn⟩ | ⟨A, s, x, e, hA, hs, hf⟩
  · simp only [e]
    refine ⟨t, H, rfl, ?_, Kp.refl _ _, fun sl' e => ⟨sl', e, rfl⟩⟩
    rw [List.filter_eq_self.2 fun s hs => by simp [hn s hs]]
    exact h
  · subst e
    cases t with
    | none =>
      have : A ++ s :: x = [] := h
      simp at this
    | some sl =>
      have hlen : (A ++ s :: x).length = A.length + x.length + 1 := by simp; omega
      have w : IntKind.i64.wrap ((A.length : Int) + 1) = ((A.length + 1 : Nat) : Int) := i64_succ _ (by omega)
      obtain ⟨n, hn⟩ := LL27a_5_of x.length (by omega) (some sl) (some (q, 0)) (A.length : Int) ((A.length + 1 : Nat) : Int) H
      have h' : OS 5 ESg H (some sl) (A ++ [s] ++ x) := by simpa using h
      obtain ⟨H1, e1, k1, B, o1, l1⟩ := loop27a sl (hne sl rfl) x x.length n A [s] H h' rfl (by simp at hl ⊢; omega) (by simp) hq
      have hfil : (A ++ s :: x).filter (fun s => !(fun s : Sg => s.kind != k) s) = A ++ x.filter fun s => !(fun s : Sg => s.kind != k) s := by
        rw [List.filter_append, List.filter_cons_of_neg (by simpa using hs), List.filter_eq_self.2 fun s hs => by simp [hA s hs]]
      rw [hfil]
      obtain ⟨H2, c1, o2, k2⟩ := clear_OS ESg_len ⟨0, 0, 0, 0, none, []⟩ o1
      obtain ⟨s3, c3, o3, i3⟩ := o2.sub0 ESg_len (A ++ x.filter fun s => !(fun s : Sg => s.kind != k) s).length (by simp)
      rw [List.take_left] at o3
      refine ⟨s3, H2, ?_, o3, (k1.one k2).mono fun i _ hi => ⟨sl, rfl, hi⟩, fun sl' e => i3 sl' e⟩
      have hne : ((A.length : Int) == -1) = false := by simp
      have el : (((A ++ [s]).length : Nat) : Int) = ((A.length + 1 : Nat) : Int) := by simp
      rw [el] at e1
      have hes : esOk (some sl) 5 = true := h.rs.esOkT
      simp only [hf, Nat.zero_add, hne, cf, w, hn, e1, Ab.bs, J27a_5_0, clear_sub o1.rs, hes, ct]
      rw [show H1.clear 5 [Cell.int IntKind.i64 0, Cell.int IntKind.i64 0, Cell.int IntKind.u64 0, Cell.int IntKind.u64 0, Cell.slice none] _ = some H2 from c1, Ab.bs, c3, Ab.bs]
theorem loop57c {H : Heap} {t : Option Sl} {l : List Sg} (hR : RS 5 ESg H t l) (hl : l.length < 1000) : ∀ (m n i : Nat), i + m = l.length →
    (D57c_2 (n + m + 1) t (l.length : Int) (i : Int) H).bind J57c_2 = some (fidx isX i (l.drop i), H)
  | 0, n, i, hm => by
    have g : decide ((i : Int) < (l.length : Int)) = false := by simp; omega
    rw [List.drop_eq_nil_of_le (by omega), D57c_2_s, g, cf, Ab.bs, J57c_2_1]; rfl
  | m + 1, n, i, hm => by
    have g : decide ((i : Int) < (l.length : Int)) = true := by simp; omega
    have hi : i < l.length := by omega
    obtain ⟨sl, e0, g1, c0, c1, c2, c3, c4⟩ := getsSg hR (List.getElem?_eq_getElem hi)
    have ih := loop57c hR hl m n (i + 1) (by omega)
    rw [show n + (m + 1) + 1 = (n + m + 1) + 1 by omega, D57c_2_s, g, ct, List.drop_eq_getElem_cons hi, fidx]
    rw [show t.bind = (some sl).bind (β := AExit × St) by rw [e0]]
    simp only [Ab.bs, g1, ct, c0, c1, c2, c3, c4, tInt, tSlice, f28_x, i64_succ i (by omega)]
    cases hp : isX l[i] with
    | true => 
      have hp' : (band IntKind.i64 l[i].flags 1 != 0) = true := hp
      rw [hp', ct, Ab.bs, J57c_2_0, ct]
    | false =>
      have hp' : (band IntKind.i64 l[i].flags 1 != 0) = false := hp
      rw [hp', cf, cf, ih]
theorem f57c_x {H : Heap} {t : Option Sl} {l : List Sg} (hR : RS 5 ESg H t l) (hl : l.length < 1000) : f57c t H = some (fidx isX 0 l, H) := by
  obtain ⟨n, e⟩ := LL57c_2_of l.length (by omega) t (l.length : Int) 0 H
  have h := loop57c hR hl l.length n 0 (by omega)
  rw [List.drop_zero] at h
  rw [q57c, hR.slenEq, e]
  exact h
theorem loop27b (sl : Sl) : ∀ (x : List Sg) (m n : Nat) (A B : List Sg) (H : Heap), OS 5 ESg H (some sl) (A ++ B ++ x) → x.length = m → (A ++ B ++ x).length < 1000 → 1 ≤ B.length →
    ∃ H', D27b_5 (n + m + 1) (some sl) (A.length : Int) ((A ++ B).length : Int) H = some (.exit 0, X27b_5 (some sl) ((A ++ x.filter fun s => !isX s).length : Nat) H') ∧ Kp (One sl.id) H H' ∧
      ∃ B' : List Sg, OS 5 ESg H' (some sl) (A ++ (x.filter fun s => !isX s) ++ B') ∧ (A ++ B ++ x).length = (A ++ (x.filter fun s => !isX s) ++ B').length
  | [], m, n, A, B, H, h, hm, hl, hB => by
    subst hm
    refine ⟨H, ?_, Kp.refl _ _, B, by simpa using h, by simp⟩
    have g : decide (((A ++ B).length : Int) < slen (some sl)) = false := by rw [h.rs.slenEq]; simp
    rw [show n + [].length + 1 = n + 1 from rfl, D27b_5_s, g, cf]; simp
  | s :: x, m, n, A, B, H, h, hm, hl, hB => by
    subst hm
    have hle : (A ++ B ++ s :: x).length = A.length + B.length + x.length + 1 := by simp; omega
    have g : decide (((A ++ B).length : Int) < slen (some sl)) = true := by rw [h.rs.slenEq]; simp; omega
    have hi : (A ++ B ++ s :: x)[(A ++ B).length]? = some s := by rw [List.getElem?_append_right (Nat.le_refl _)]; simp
    obtain ⟨sl', e0, g1, c0, c1, c2, c3, c4⟩ := getsSg h.rs hi
    cases e0
    have w1 : IntKind.i64.wrap (((A ++ B).length : Int) + 1) = (((A ++ B).length + 1 : Nat) : Int) := i64_succ _ (by simp; omega)
    have w2 : IntKind.i64.wrap ((A.length : Int) + 1) = ((A.length + 1 : Nat) : Int) := i64_succ _ (by omega)
    rw [show n + (s :: x).length + 1 = (n + x.length + 1) + 1 by simp; omega, D27b_5_s, g, ct]
    cases hp : isX s with
    | true =>
      have hp' : (band IntKind.i64 s.flags 1 != 0) = true := hp
      have h' : OS 5 ESg H (some sl) (A ++ (B ++ [s]) ++ x) := by simpa using h
      obtain ⟨H', e', k', B', o', l'⟩ := loop27b sl x _ n A (B ++ [s]) H h' rfl (by simp at hl ⊢; omega) (by simp)
      refine ⟨H', ?_, k', B', by simpa [hp] using o', by simpa [hp] using l'⟩
      simp only [Ab.bs, g1, ct, cf, c0, c1, c2, c3, c4, tInt, tSlice, f28_x, hp', Bool.not_true, w1]
      rw [show (((A ++ B).length + 1 : Nat) : Int) = ((A ++ (B ++ [s])).length : Int) by simp; omega, e']
      simp [hp]
    | false =>
      have hp' : (band IntKind.i64 s.flags 1 != 0) = false := hp
      obtain ⟨b, B2, rfl⟩ : ∃ b B2, B = b :: B2 := by cases B with | nil => simp at hB | cons b B2 => exact ⟨b, B2, rfl⟩
      have hA : (A ++ b :: B2 ++ s :: x)[A.length]? = some b := by rw [List.append_assoc, List.getElem?_append_right (Nat.le_refl _)]; simp
      obtain ⟨H1, p1, o1, k1, _⟩ := h.put (i := A.length) (j := 0) (y := s) (vs := ESg s) ESg_len hA (by simp [ESg]) (by simp [splice, ESg])
      have o2 : OS 5 ESg H1 (some sl) ((A ++ [s]) ++ (B2 ++ [s]) ++ x) := by simpa using o1
      obtain ⟨sl', e0, g2, _⟩ := getsSg h.rs hA
      cases e0
      have p1' : H.put sl.id (sl.off + (A.length : Int).toNat * 5) [Cell.int IntKind.i64 s.kind, Cell.int IntKind.i64 s.flags, Cell.int IntKind.u64 s.addr, Cell.int IntKind.u64 s.size, Cell.slice s.sl] = some H1 := by rw [Int.toNat_natCast]; exact p1
      obtain ⟨H', e', k', B', o', l'⟩ := loop27b sl x _ n (A ++ [s]) (B2 ++ [s]) H1 o2 rfl (by simp at hl ⊢; omega) (by simp)
      refine ⟨H', ?_, k1.one k', B', by simpa [hp] using o', by simpa [hp] using l'⟩
      simp only [Ab.bs, g1, ct, cf, c0, c1, c2, c3, c4, tInt, tSlice, f28_x, hp', Bool.not_false, w1, w2, g2, p1']
      rw [show ((A.length + 1 : Nat) : Int) = ((A ++ [s]).length : Int) by simp, show (((A ++ b :: B2).length + 1 : Nat) : Int) = (((A ++ [s]) ++ (B2 ++ [s])).length : Int) by simp; omega, e']
      simp [hp]
theorem f27b_x {H : Heap} {t : Option Sl} {l : List Sg} (h : OS 5 ESg H t l) (hl : l.length < 1000) : ∃ t' H', f27b t H = some (t', H') ∧ OS 5 ESg H' t' (l.filter fun s => !isX s) ∧ Kp (Of t) H H' ∧ (∀ sl', t' = some sl' → ∃ sl, t = some sl ∧ sl'.id = sl.id) := by
  rw [q27b, f57c_x h.rs hl, Ab.bs]
  rcases fidx_spec isX l 0 with ⟨e, hn⟩ | ⟨A, s, x, e, hA, hs, hf⟩
  · simp only [e]
    refine ⟨t, H, rfl, ?_, Kp.refl _ _, fun sl' e => ⟨sl', e, rfl⟩⟩
    rw [List.filter_eq_self.2 fun s hs => by simp [hn s hs]]
    exact h
  · subst e
    cases t with
    | none =>
      have : A ++ s :: x = [] := h
      simp at this
    | some sl =>
      have hlen : (A ++ s :: x).length = A.length + x.length + 1 := by simp; omega
      have w : IntKind.i64.wrap ((A.length : Int) + 1) = ((A.length + 1 : Nat) : Int) := i64_succ _ (by omega)
      obtain ⟨n, hn⟩ := LL27b_5_of x.length (by omega) (some sl) (A.length : Int) ((A.length + 1 : Nat) : Int) H
      have h' : OS 5 ESg H (some sl) (A ++ [s] ++ x) := by simpa using h
      obtain ⟨H1, e1, k1, B, o1, l1⟩ := loop27b sl x x.length n A [s] H h' rfl (by simp at hl ⊢; omega) (by simp)
      have hfil : (A ++ s :: x).filter (fun s => !isX s) = A ++ x.filter fun s => !isX s := by
        rw [List.filter_append, List.filter_cons_of_neg (by simpa using hs), List.filter_eq_self.2 fun s hs => by simp [hA s hs]]
      rw [hfil]
      obtain ⟨H2, c1, o2, k2⟩ := clear_OS ESg_len ⟨0, 0, 0, 0, none, []⟩ o1
      obtain ⟨s3, c3, o3, i3⟩ := o2.sub0 ESg_len (A ++ x.filter fun s => !isX s).length (by simp)
      rw [List.take_left] at o3
      refine ⟨s3, H2, ?_, o3, (k1.one k2).mono fun i _ hi => ⟨sl, rfl, hi⟩, fun sl' e => i3 sl' e⟩
      have hne : ((A.length : Int) == -1) = false := by simp
      have el : (((A ++ [s]).length : Nat) : Int) = ((A.length + 1 : Nat) : Int) := by simp
      rw [el] at e1
      have hes : esOk (some sl) 5 = true := h.rs.esOkT
      simp only [hf, Nat.zero_add, hne, cf, w, hn, e1, Ab.bs, J27b_5_0, clear_sub o1.rs, hes, ct]
      rw [show H1.clear 5 [Cell.int IntKind.i64 0, Cell.int IntKind.i64 0, Cell.int IntKind.u64 0, Cell.int IntKind.u64 0, Cell.slice none] _ = some H2 from c1, Ab.bs, c3, Ab.bs]
/-- Copies of slices. -/
theorem f53_x {H : Heap} {s : Option Sl} {l : List Sg} (h : RS 5 ESg H s l) (hl : l.length ≤ 1000) : ∃ s' H', f53 s H = some (s', H') ∧ OS 5 ESg H' s' l ∧ Kp No H H' ∧ New H.length s' := by
  rw [q53]
  cases s with
  | none =>
    cases h
    exact ⟨none, H, rfl, rfl, Kp.refl _ _, fun _ e => nomatch e⟩
  | some sl =>
    have h1 := OS_new (n := 5) (E := ESg) H
    obtain ⟨s', H', h2, h3, h4, h5⟩ := append_OS ESg_len (by decide) (by' := 56) h1 (h.new ESg_len (by decide) (Kp.push No H [.row [] false]) fun _ _ h => h) (by simp [most]; omega)
    refine ⟨s', H', by rw [nsome, cf, h2, Ab.bs], by simpa using h3, (Kp.push No H _).trans h4 (fun _ h => h) (fun i hi hf => ?_), fun sl' e => ?_⟩
    · obtain ⟨sl0, e0, e1⟩ := hf; cases e0; exact absurd e1 (by show ¬ i = H.length; omega)
    · rcases h5 sl' e with ⟨sl0, e0, e1⟩ | h
      · cases e0; rw [e1]; exact Nat.le_refl _
      · simp at h; omega
theorem f32_x' {H : Heap} {s : Option Sl} {l : List UInt8} (h : RS 1 E8 H s l) (hl : l.length ≤ 1000000) : ∃ s' H', f32 s H = some (s', H') ∧ OS 1 E8 H' s' l ∧ Kp No H H' ∧ New H.length s' := by
  rw [q32]
  cases s with
  | none =>
    cases h
    exact ⟨none, H, rfl, rfl, Kp.refl _ _, fun _ e => nomatch e⟩
  | some sl =>
    have h1 := OS_new (n := 1) (E := E8) H
    obtain ⟨s', H', h2, h3, h4, h5⟩ := append_OS E8_len (by decide) (by' := 1) h1 (h.new E8_len (by decide) (Kp.push No H [.row [] false]) fun _ _ h => h) (by simp [most]; omega)
    refine ⟨s', H', by rw [nsome, cf, h2, Ab.bs], by simpa using h3, (Kp.push No H _).trans h4 (fun _ h => h) (fun i hi hf => ?_), fun sl' e => ?_⟩
    · obtain ⟨sl0, e0, e1⟩ := hf; cases e0; exact absurd e1 (by show ¬ i = H.length; omega)
    · rcases h5 sl' e with ⟨sl0, e0, e1⟩ | h
      · cases e0; rw [e1]; exact Nat.le_refl _
      · simp at h; omega
/-- The segments of a kind, copied. -/
theorem f24_x {H : Heap} {s : FS} {f : Fl} (h : FR H s f) (hl : f.sg.length ≤ 100) (k : Int) : ∃ t H', f24 s.M s.E s.sg s.sy s.rl k H = some (t, H') ∧ OS 5 ESg H' t (f.sg.filter fun s => s.kind == k) ∧ Kp No H H' ∧ New H.length t := by
  rw [q24]
  have kP : Kp No H (H ++ [Blk.row [Cell.int IntKind.i64 k] false]) := Kp.push1 _ _
  have hb : (H ++ [Blk.row [Cell.int IntKind.i64 k] false])[H.length]? = _ := push_get _ _
  obtain ⟨t1, H1, e1, o1, k1, n1⟩ := f53_x (h.no kP).sg (by omega)
  have hq : H1.get H.length 0 = some (.int .i64 k) := k1.get (by rw [get_of hb]; rfl) fun h => h
  have hn : ∀ sl, t1 = some sl → H.length ≠ sl.id := fun sl e => by
    have := n1 sl e
    simp at this; omega
  obtain ⟨t2, H2, e2, o2, k2, i2⟩ := f27a_x o1 (by omega) hq hn
  refine ⟨t2, H2, by rw [e1, Ab.bs, e2, Ab.bs], ?_, (kP.tr k1).trans k2 (fun _ h => h) fun i hi ⟨sl, e, e2⟩ => ?_, fun sl e => ?_⟩
  · simpa [bne] using o2
  · have := n1 sl e
    simp at this; omega
  · obtain ⟨sl', e', hid⟩ := i2 sl e
    have := n1 sl' e'
    simp at this; omega
/-! sizes -/
def szOk (s : Sg) : Bool := decide (s.size ≤ 65536) && (decide (s.addr ≤ 140737487306752) && decide (s.addr + s.size ≤ 140737487306752))
def sumL : List Sg → Int
  | [] => 0
  | s :: r => (if s.kind = 1 then s.size else 0) + sumL r
def sizedP (f : Fl) : Bool := decide ((f.sg.filter fun s => s.kind == 1).length ≤ 8) && (decide ((f.sg.filter fun s => s.kind == 1610612737).length ≤ 8) && (decide (0 < (f.sg.filter fun s => s.kind == 1610612737).length) && (f.sg.all szOk && decide (sumL f.sg ≤ 65536))))
theorem loop23 {H : Heap} {t : Option Sl} {l : List Sg} (hR : RS 5 ESg H t l) (hl : l.length ≤ 100) (hu : ∀ s ∈ l, u64r s.addr ∧ u64r s.size) : ∀ (m n i : Nat) (acc : Int), i + m = l.length → 0 ≤ acc → acc ≤ 65536 * (i : Int) →
    (D23_6 (n + m + 1) acc t (l.length : Int) (i : Int) H).bind J23_6 = some ((l.drop i).all szOk && decide (acc + sumL (l.drop i) ≤ 65536), H)
  | 0, n, i, acc, hm, h0, h1 => by
    have g : decide ((i : Int) < (l.length : Int)) = false := by simp; omega
    rw [List.drop_eq_nil_of_le (by omega), D23_6_s, g, cf, Ab.bs, J23_6_1]
    simp [sumL]
  | m + 1, n, i, acc, hm, h0, h1 => by
    have g : decide ((i : Int) < (l.length : Int)) = true := by simp; omega
    have hi : i < l.length := by omega
    obtain ⟨sl, e0, g1, c0, c1, c2, c3, c4⟩ := getsSg hR (List.getElem?_eq_getElem hi)
    obtain ⟨u1, u2⟩ := hu _ (List.getElem_mem hi)
    rw [show n + (m + 1) + 1 = (n + m + 1) + 1 by omega, D23_6_s, g, ct, List.drop_eq_getElem_cons hi, List.all_cons]
    rw [show t.bind = (some sl).bind (β := AExit × St) by rw [e0]]
    simp only [Ab.bs, g1, ct, c0, c1, c2, c3, c4, tInt, tSlice, q52, i64_succ i (by omega)]
    generalize l[i] = s at *
    unfold u64r at u1 u2
    have hz : szOk s = (decide (s.size ≤ 65536) && (decide (s.addr ≤ 140737487306752) && decide (s.addr + s.size ≤ 140737487306752))) := rfl
    rw [hz]
    by_cases s1 : s.size ≤ 65536
    · by_cases s2 : s.addr ≤ 140737487306752
      · rw [dF (show ¬ s.size > 65536 by omega), dF (show ¬ s.addr > 140737487306752 by omega), cf, cf, show IntKind.u64.wrap (s.addr + s.size) = s.addr + s.size by rw [wrap_u64]; omega]
        by_cases s3 : s.addr + s.size ≤ 140737487306752
        · rw [dF (show ¬ s.addr + s.size > 140737487306752 by omega), cf, dT s1, dT s2, dT s3]
          by_cases s4 : s.kind = 1
          · have ih := loop23 hR hl hu m n (i + 1) (acc + s.size) (by omega) (by omega) (by omega)
            have : (s.kind == 1) = true := by simp [s4]
            rw [this, ct, show IntKind.u64.wrap (acc + s.size) = acc + s.size by rw [wrap_u64]; omega, ih]
            simp only [sumL, if_pos s4, Bool.true_and, Int.add_assoc]
          · have ih := loop23 hR hl hu m n (i + 1) acc (by omega) (by omega) (by omega)
            have : (s.kind == 1) = false := by simp [s4]
            rw [this, cf, ih]
            simp only [sumL, if_neg s4, Bool.true_and, Int.zero_add]
        · rw [dT (show s.addr + s.size > 140737487306752 by omega), ct, Ab.bs, J23_6_0, dF s3]; simp
      · rw [dF (show ¬ s.size > 65536 by omega), dT (show s.addr > 140737487306752 by omega), cf, ct, Ab.bs, J23_6_0, dF s2]; simp
    · rw [dT (show s.size > 65536 by omega), ct, Ab.bs, J23_6_0, dF s1]; simp
theorem f23_x {H : Heap} {s : FS} {f : Fl} (h : FR H s f) (hl : f.sg.length ≤ 100) (hu : ∀ s ∈ f.sg, u64r s.addr ∧ u64r s.size) : Says (f23 s.M s.E s.sg s.sy s.rl H) H (sizedP f) := by
  rw [q23]
  obtain ⟨t1, H1, e1, o1, k1, _⟩ := f24_x h hl 1
  have h1 := h.no k1
  obtain ⟨t2, H2, e2, o2, k2, _⟩ := f24_x h1 hl 1610612737
  have h2 := h1.no k2
  have L1 := o1.rs.slenEq
  have L2 := o2.rs.slenEq
  have b1 : (f.sg.filter fun s => s.kind == 1).length ≤ f.sg.length := List.length_filter_le _ _
  have b2 : (f.sg.filter fun s => s.kind == 1610612737).length ≤ f.sg.length := List.length_filter_le _ _
  refine ⟨H2, ?_, k1.tr k2⟩
  unfold sizedP
  simp only [e1, Ab.bs, e2, L1, L2]
  generalize (f.sg.filter fun s => s.kind == 1).length = n1 at *
  generalize (f.sg.filter fun s => s.kind == 1610612737).length = n2 at *
  by_cases g1 : n1 ≤ 8
  · rw [dF (show ¬ (n1 : Int) > 8 by omega), cf, dT g1]
    by_cases g2 : n2 ≤ 8
    · rw [dF (show ¬ (n2 : Int) > 8 by omega), cf, dT g2]
      by_cases g3 : 0 < n2
      · have : ((n2 : Int) == 0) = false := by simp; omega
        obtain ⟨n, hn⟩ := LL23_6_of f.sg.length (by omega) 0 s.sg (f.sg.length : Int) 0 H2
        have := loop23 h2.sg hl hu f.sg.length n 0 0 (by omega) (by omega) (by omega)
        rw [‹((n2 : Int) == 0) = false›, cf, dT g3, h.sg.slenEq, hn]
        rw [List.drop_zero, Int.zero_add] at this
        simpa using this
      · have : ((n2 : Int) == 0) = true := by simp; omega
        rw [this, ct, dF g3]; simp
    · rw [dT (show (n2 : Int) > 8 by omega), ct, dF g2]; simp
  · rw [dT (show (n1 : Int) > 8 by omega), ct, dF g1]; simp
end
end Go.Proofs.Ytnjdajcgcnjamaa
