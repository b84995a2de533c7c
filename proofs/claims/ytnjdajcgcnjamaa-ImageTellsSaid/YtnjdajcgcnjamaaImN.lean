/- Layer 4: rising numbers, by what is among them; images of all files; Nums. -/
import Derived.Test.YtnjdajcgcnjamaaImL
import Derived.Test.YtnjdajcgcnjamaaIm2c
namespace Go.Proofs.Ytnjdajcgcnjamaa
open Go Go.Proofs.Ytnjdajcgcnjamaa.Ab
set_option linter.unusedVariables false
set_option linter.unusedSimpArgs false
set_option maxRecDepth 100000
noncomputable section
def Strict : List Int → Prop
  | [] => True
  | x :: r => (∀ y ∈ r, x < y) ∧ Strict r
theorem strict_ext : ∀ {l m : List Int}, Strict l → Strict m → (∀ x, x ∈ l ↔ x ∈ m) → l = m
  | [], [], _, _, _ => rfl
  | [], y :: m, _, _, h => by have := (h y).2 (by simp); simp at this
  | x :: l, [], _, _, h => by have := (h x).1 (by simp); simp at this
  | x :: l, y :: m, hl, hm, h => by
    have e : x = y := by
      have a := (h x).1 (by simp)
      have b := (h y).2 (by simp)
      rcases List.mem_cons.1 a with a | a
      · exact a
      · rcases List.mem_cons.1 b with b | b
        · exact b.symm
        · have := hm.1 x a; have := hl.1 y b; omega
    subst e
    congr 1
    refine strict_ext hl.2 hm.2 fun z => ⟨fun hz => ?_, fun hz => ?_⟩
    · rcases List.mem_cons.1 ((h z).1 (by simp [hz])) with e | e
      · have := hl.1 z hz; omega
      · exact e
    · rcases List.mem_cons.1 ((h z).2 (by simp [hz])) with e | e
      · have := hm.1 z hz; omega
      · exact e
theorem ddp_mem : ∀ (l : List Int) (p x : Int), x ∈ p :: ddp p l ↔ x ∈ p :: l
  | [], p, x => by simp [ddp]
  | y :: l, p, x => by
    unfold ddp
    cases h : y == p with
    | true =>
      have : y = p := by simpa using h
      subst this
      rw [cond_true, ddp_mem l y x]
      simp
    | false =>
      have := ddp_mem l y x
      simp only [cond_false, List.mem_cons] at this ⊢
      rw [this]
theorem ddp_strict : ∀ (l : List Int) (p : Int), (p :: l).Pairwise (fun a b => a ≤ b) → Strict (p :: ddp p l)
  | [], p, _ => ⟨(fun _ h => by cases h), trivial⟩
  | y :: l, p, h => by
    have hp := List.pairwise_cons.1 h
    have hy := List.pairwise_cons.1 hp.2
    unfold ddp
    cases hq : y == p with
    | true =>
      have : y = p := by simpa using hq
      subst this
      exact ddp_strict l y hp.2
    | false =>
      have hne : y ≠ p := by simpa using hq
      have ih := ddp_strict l y hp.2
      have hlt : p < y := by have := hp.1 y (by simp); omega
      refine ⟨fun z hz => ?_, ih⟩
      rcases List.mem_cons.1 hz with rfl | hz
      · exact hlt
      · have := ih.1 z hz; omega
theorem rising_mem (l : List Int) (x : Int) : x ∈ risingP l ↔ x ∈ l := by
  unfold risingP
  have hm : x ∈ (l.mergeSort fun x y => decide (x ≤ y)) ↔ x ∈ l := List.mem_mergeSort
  rw [← hm]
  generalize l.mergeSort (fun x y => decide (x ≤ y)) = m
  cases m with
  | nil => rfl
  | cons y r => exact ddp_mem r y x
theorem rising_strict (l : List Int) : Strict (risingP l) := by
  unfold risingP
  have hp := List.pairwise_mergeSort (le := fun x y : Int => decide (x ≤ y)) (fun a b c h1 h2 => by simp at *; omega) (fun a b => by simp; omega) l
  generalize l.mergeSort (fun x y => decide (x ≤ y)) = m at *
  cases m with
  | nil => trivial
  | cons y r => exact ddp_strict r y (hp.imp fun h => by simpa using h)
/-! all files -/
theorem of_im0 {f : Fl} (h : (ofP f).1 ≠ 0) : (ofP f).2 = im0 := by
  unfold ofP at h ⊢
  cases h1 : mayF f with
  | false => rfl
  | true =>
  cases h2 : f.M != 62 with
  | true => rfl
  | false =>
  cases h3 : sizedP f with
  | false => rfl
  | true =>
  cases h4 : (textP (loadsP f)).2 with
  | false => rfl
  | true =>
  rw [h1, h2, h3, h4] at h
  simp only [Bool.not_true, cond_false] at h ⊢
  cases h5 : stP f.sg 0 f.sg with
  | none => rfl
  | some ar =>
  rw [h5] at h
  simp only [] at h ⊢
  cases h6 : hasP (textP (loadsP f)).1 f.E 1 with
  | false => rfl
  | true =>
  rw [h6] at h
  simp only [Bool.not_true, cond_false] at h ⊢
  cases h7 : takenP f (textP (loadsP f)).1 f.rl with
  | none => rfl
  | some l => rw [h7] at h; exact absurd rfl h
theorem f7_y {H : Heap} {s : FS} {f : Fl} (h : FR H s f) (hf : FOk f) (hcut : cutOk f) :
    ∃ k fl ad sz sd dt st en fu tk H', f7 s.M s.E s.sg s.sy s.rl H = some ((k, fl, ad, sz, sd, dt, st, en, fu, tk, (ofP f).1), H') ∧ Kp No H H' ∧ IR H' k fl ad sz sd dt st en fu tk (ofP f).2 ∧ ImOk (ofP f).2 ∧ (ofP f).2.fu.length + (ofP f).2.tk.length < 10000 := by
  obtain ⟨k, fl, ad, sz, sd, dt, st, en, fu, tk, H', e, g, r1, r2⟩ := f7_x h hf hcut
  refine ⟨k, fl, ad, sz, sd, dt, st, en, fu, tk, H', e, g, ?_⟩
  by_cases h0 : (ofP f).1 = 0
  · have := im_ok hf hcut h0
    exact ⟨r1 h0, this.1, this.2⟩
  · obtain ⟨rfl, rfl, rfl, rfl, rfl, rfl, rfl, rfl, rfl, rfl⟩ := r2 h0
    rw [of_im0 h0]
    exact ⟨⟨rfl, rfl, rfl, rfl, rfl, ⟨[], rfl, rfl, (fun _ h => by cases h)⟩, rfl, rfl, rfl, rfl⟩, ⟨by unfold SgU u64r im0 z0; simp, by simp [im0, z0], by simp [im0], (fun _ h => by cases h)⟩, by simp [im0]⟩
/-! Nums -/
theorem loop12 {H : Heap} {s t : Option Sl} {l : List Int} (hs : RS 1 E64 H s l) (ht : RS 1 E64 H t l) (hl : l.length < 100000) : ∀ (m n i : Nat), i + m = l.length →
    (D12_4 (n + m + 1) s t (l.length : Int) (i : Int) H).bind J12_4 = some (true, H)
  | 0, n, i, hm => by rw [D12_4_s, dF (by omega), cf, Ab.bs, J12_4_1]
  | m + 1, n, i, hm => by
    have hi : i < l.length := by omega
    obtain ⟨sl, e0, g1, c1⟩ := gets64 hs (List.getElem?_eq_getElem hi)
    obtain ⟨sl2, e2, g2, c2⟩ := gets64 ht (List.getElem?_eq_getElem hi)
    rw [show n + (m + 1) + 1 = (n + m + 1) + 1 by omega, D12_4_s, dT (by omega), ct]
    rw [show s.bind = (some sl).bind (β := AExit × St) by rw [e0], show t.bind = (some sl2).bind (β := AExit × St) by rw [e2]]
    have : (l[i] != l[i]) = false := by simp
    simp only [Ab.bs, g1, g2, ct, c1, c2, tInt, this, cf, i64_succ i (by omega)]
    exact loop12 hs ht hl m n (i + 1) (by omega)
theorem f12_n {H : Heap} {s t : Option Sl} {l : List Int} (hs : RS 1 E64 H s l) (ht : RS 1 E64 H t l) (hl : l.length < 100000) : f12 s t H = some (true, H) := by
  obtain ⟨n, hn⟩ := LL12_4_of l.length (by omega) s t (l.length : Int) 0 H
  have h := loop12 hs ht hl l.length n 0 (by omega)
  have hne : ((l.length : Int) != (l.length : Int)) = false := by simp
  rw [q12, hs.slenEq, ht.slenEq, hne, cf, hn]
  exact h
end
end Go.Proofs.Ytnjdajcgcnjamaa
