/- Layer 4: sorting numbers, 1: slices of numbers as arrays; insertion, heaps. -/
import Derived.Test.YtnjdajcgcnjamaaIm1
import Derived.Sort.AssemblyPlain
import Derived.Sort.Walk13a
import Derived.Sort.LotD4
import Derived.Sort.LotD5
namespace Go.Proofs.Ytnjdajcgcnjamaa
open Go Go.Proofs.Ytnjdajcgcnjamaa.Ab
set_option linter.unusedVariables false
set_option linter.unusedSimpArgs false
set_option maxRecDepth 100000
noncomputable section
def E64 (n : Int) : List Cell := [.int .u64 n]
theorem E64_len (n : Int) : (E64 n).length = 1 := rfl
/-- One's own slice of numbers, as an array. -/
structure SA (H : Heap) (sl : Sl) (d : Array Int) : Prop where
  os : OS 1 E64 H (some sl) d.toList
  lt : sl.len < 65536
theorem SA.size {H : Heap} {sl : Sl} {d : Array Int} (h : SA H sl d) : d.size = sl.len := by
  have := h.os.1
  simpa using this.symm
theorem SA.lt' {H : Heap} {sl : Sl} {d : Array Int} (h : SA H sl d) : d.size < 65536 := by rw [h.size]; exact h.lt
theorem SA.inb {H : Heap} {sl : Sl} {d : Array Int} (h : SA H sl d) (i : Nat) (hi : i < d.size) : (inb (i : Int) sl.len && sl.esz == 1) = true := by
  rw [h.os.2.1, ← h.size]
  simp [Ab.inb]; omega
theorem arr_get {d : Array Int} {i : Nat} (hi : i < d.size) : d.toList[i]? = some d[i]! := by
  rw [Array.getElem?_toList, Array.getElem?_eq_getElem hi, getElem!_pos d i hi]
theorem SA.get {H : Heap} {sl : Sl} {d : Array Int} (h : SA H sl d) (i : Nat) (hi : i < d.size) : H.get sl.id (sl.off + (i : Int).toNat * 1) = some (.int .u64 d[i]!) := by
  obtain ⟨sl', e, _, h3⟩ := h.os.rs.idx1 (arr_get hi) (e := fun n => .int .u64 n) fun _ => rfl
  cases e
  exact h3
theorem SA.put {H : Heap} {sl : Sl} {d : Array Int} (h : SA H sl d) (i : Nat) (hi : i < d.size) (x : Int) :
    ∃ H', H.put sl.id (sl.off + (i : Int).toNat * 1) [.int .u64 x] = some H' ∧ SA H' sl (d.setIfInBounds i x) ∧ Kp (One sl.id) H H' := by
  obtain ⟨H', h1, h2, h3, h4⟩ := h.os.put (i := i) (j := 0) (x := d[i]!) (y := x) (vs := [.int .u64 x]) E64_len (arr_get hi) (by simp) (by simp [E64, splice])
  refine ⟨H', by rw [Int.toNat_natCast]; exact h1, ⟨?_, h.lt⟩, h3⟩
  rw [Array.toList_setIfInBounds]
  exact h2
theorem Ab.Kp.one {k : Nat} {A B C : Heap} (h : Kp (One k) A B) (g : Kp (One k) B C) : Kp (One k) A C := h.trans g (fun _ h => h) fun _ _ h => h
theorem SA.swp {H : Heap} {sl : Sl} {d : Array Int} (h : SA H sl d) (i j : Nat) (hi : i < d.size) (hj : j < d.size) :
    ∃ H1 H2, H.put sl.id (sl.off + (i : Int).toNat * 1) [.int .u64 d[j]!] = some H1 ∧ H1.put sl.id (sl.off + (j : Int).toNat * 1) [.int .u64 d[i]!] = some H2 ∧ SA H2 sl (Sort.swp d i j) ∧ Kp (One sl.id) H H2 := by
  obtain ⟨H1, p1, h1, k1⟩ := h.put i hi d[j]!
  obtain ⟨H2, p2, h2, k2⟩ := h1.put j (by simpa using hj) d[i]!
  exact ⟨H1, H2, p1, p2, h2, k1.one k2⟩
theorem SA.kp {F : Nat → Prop} {H H' : Heap} {sl : Sl} {d : Array Int} (h : SA H sl d) (k : Kp F H H') (hn : ¬ F sl.id) : SA H' sl d := ⟨h.os.kp k fun sl' e => by cases e; exact hn, h.lt⟩
theorem wp1 (i : Nat) (h : i < 1000000) : IntKind.i64.wrap ((i : Int) + 1) = ((i + 1 : Nat) : Int) := by rw [wrap_i64 (by omega) (by omega)]; omega
theorem wm1 (i : Nat) (h : i < 1000000) (h1 : 1 ≤ i) : IntKind.i64.wrap ((i : Int) - 1) = ((i - 1 : Nat) : Int) := by rw [wrap_i64 (by omega) (by omega)]; omega
theorem ws1 (i : Nat) (h : i < 1000000) : IntKind.i64.wrap (((i + 1 : Nat) : Int) - 1) = (i : Int) := by rw [wrap_i64 (by omega) (by omega)]; omega
theorem wpp (i j : Nat) (h : i < 1000000) (h2 : j < 1000000) : IntKind.i64.wrap ((i : Int) + (j : Int)) = ((i + j : Nat) : Int) := by rw [wrap_i64 (by omega) (by omega)]; omega
theorem wmm (i j : Nat) (h : i < 1000000) (h2 : j ≤ i) : IntKind.i64.wrap ((i : Int) - (j : Int)) = ((i - j : Nat) : Int) := by rw [wrap_i64 (by omega) (by omega)]; omega
theorem dT {p : Prop} [Decidable p] (h : p) : decide p = true := decide_eq_true h
theorem dF {p : Prop} [Decidable p] (h : ¬ p) : decide p = false := decide_eq_false h
theorem lt_eq (x y : Int) : cmp_Less_uint64 x y = Sort.ltInt x y := rfl
theorem sz_swp (d : Array Int) (i j : Nat) : (Sort.swp d i j).size = d.size := Sort.size_swp d i j
/-! insertion -/
theorem loop83b (sl : Sl) (a : Nat) (b i : Int) : ∀ (j n : Nat) (d : Array Int) (H : Heap), SA H sl d → j < d.size →
    ∃ H', D83_4 (n + j + 1) (some sl) a b i j H = some (.exit 2, X83_4 (some sl) a b i H') ∧ SA H' sl (Sort.insInner Sort.ltInt a j d) ∧ Kp (One sl.id) H H'
  | 0, n, d, H, h, hj => ⟨H, by rw [show n + 0 + 1 = n + 1 from rfl, D83_4_s, dF (by omega), cf], by rw [Sort.insInner]; exact h, Kp.refl _ _⟩
  | j + 1, n, d, H, h, hj => by
    have hl := h.lt'
    rw [show n + (j + 1) + 1 = (n + j + 1) + 1 by omega, D83_4_s, Sort.insInner]
    by_cases g : a < j + 1
    · have g0 : decide (((j + 1 : Nat) : Int) > (a : Int)) = true := dT (by omega)
      have gj : decide (j + 1 > a) = true := dT g
      cases gl : Sort.ltInt d[j + 1]! d[j]! with
      | true =>
        obtain ⟨H1, H2, p1, p2, h2, k⟩ := h.swp (j + 1) j hj (by omega)
        obtain ⟨H', e, h', k'⟩ := loop83b sl a b i j n _ H2 h2 (by rw [sz_swp]; omega)
        refine ⟨H', ?_, ?_, k.one k'⟩
        · simp only [g0, ct, bs, h.inb (j + 1) hj, h.get (j + 1) hj, ws1 j (by omega), h.inb j (by omega), h.get j (by omega), tInt, lt_eq, gl, p1, p2]
          exact e
        · rw [if_pos (by simp [gj])]; exact h'
      | false =>
        refine ⟨H, ?_, ?_, Kp.refl _ _⟩
        · simp only [g0, ct, cf, bs, h.inb (j + 1) hj, h.get (j + 1) hj, ws1 j (by omega), h.inb j (by omega), h.get j (by omega), tInt, lt_eq, gl]
        · rw [if_neg (by simp)]; exact h
    · refine ⟨H, ?_, ?_, Kp.refl _ _⟩
      · rw [dF (by omega), cf]
      · rw [if_neg (by simp; omega)]; exact h
theorem loop83a (sl : Sl) (a b : Nat) : ∀ (m n i : Nat) (d : Array Int) (H : Heap), SA H sl d → b ≤ d.size → i ≤ b + 1 → b - i = m →
    ∃ H', D83_1 (n + m + 1) (some sl) a b i H = some (.exit 0, X83_1 H') ∧ SA H' sl (Sort.insOuter Sort.ltInt a b i d) ∧ Kp (One sl.id) H H'
  | 0, n, i, d, H, h, hb, hi, hm => ⟨H, by rw [show n + 0 + 1 = n + 1 from rfl, D83_1_s, dF (by omega), cf], by rw [Sort.insOuter, if_neg (by omega)]; exact h, Kp.refl _ _⟩
  | m + 1, n, i, d, H, h, hb, hi, hm => by
    have hl := h.lt'
    obtain ⟨n', hn⟩ := LL83_4_of i (by omega) (some sl) a b i i H
    obtain ⟨H1, e1, h1, k1⟩ := loop83b sl a b i i n' d H h (by omega)
    obtain ⟨H', e, h', k'⟩ := loop83a sl a b m n (i + 1) _ H1 h1 (by rw [h1.size, ← h.size]; exact hb) (by omega) (by omega)
    refine ⟨H', ?_, ?_, k1.one k'⟩
    · rw [show n + (m + 1) + 1 = (n + m + 1) + 1 by omega, D83_1_s, dT (by omega : (i : Int) < (b : Int)), ct, hn, e1, bs, J83_4_0, wp1 i (by omega)]
      exact e
    · rw [Sort.insOuter, if_pos (by omega)]; exact h'
theorem f83_x {H : Heap} {sl : Sl} {d : Array Int} (h : SA H sl d) (a b : Nat) (ha : a ≤ d.size) (hb : b ≤ d.size) :
    ∃ H', f83 (some sl) a b H = some ((), H') ∧ SA H' sl (Sort.insertionSort Sort.ltInt d a b) ∧ Kp (One sl.id) H H' := by
  have hl := h.lt'
  by_cases hab : a + 1 ≤ b + 1
  · obtain ⟨n, hn⟩ := LL83_1_of (b - (a + 1)) (by omega) (some sl) a b ((a + 1 : Nat) : Int) H
    obtain ⟨H', e, h', k'⟩ := loop83a sl a b (b - (a + 1)) n (a + 1) d H h hb hab rfl
    exact ⟨H', by rw [q83, wp1 a (by omega), hn, e, bs, J83_1_0], h', k'⟩
  · obtain ⟨n, hn⟩ := LL83_1_of 0 (by omega) (some sl) a b ((a + 1 : Nat) : Int) H
    refine ⟨H, ?_, ?_, Kp.refl _ _⟩
    · rw [q83, wp1 a (by omega), hn, D83_1_s, dF (by omega), cf, bs, J83_1_0]
    · rw [Sort.insertionSort, Sort.insOuter, if_neg (by omega)]; exact h
/-! heaps -/
theorem w2r (r : Nat) (h : r < 100000) : IntKind.i64.wrap (2 * (r : Int)) = ((2 * r : Nat) : Int) := by rw [wrap_i64 (by omega) (by omega)]; omega
theorem loop96 (sl : Sl) (hi first : Nat) : ∀ (m n root : Nat) (d : Array Int) (H : Heap), SA H sl d → first + hi ≤ d.size → root < 65536 → (root < hi ∨ hi ≤ 2 * root + 1) → hi - root ≤ m →
    ∃ H', (D96_1 (n + m + 1) (some sl) hi first root H).bind J96_1 = some ((), H') ∧ SA H' sl (Sort.siftDown Sort.ltInt hi first root d) ∧ Kp (One sl.id) H H' := by
  intro m
  induction m with
  | zero =>
    intro n root d H h hf hr hrt hm
    refine ⟨H, ?_, ?_, Kp.refl _ _⟩
    · rw [show n + 0 + 1 = n + 1 from rfl, D96_1_s, w2r root (by omega), wp1 _ (by omega), dT (by omega), ct, bs, J96_1_0]
    · rw [Sort.siftDown, dif_pos (by omega)]; exact h
  | succ m ih =>
    intro n root d H h hf hr hrt hm
    have hl := h.lt'
    rw [show n + (m + 1) + 1 = (n + m + 1) + 1 by omega, D96_1_s, w2r root (by omega), wp1 _ (by omega), Sort.siftDown]
    by_cases g1 : 2 * root + 1 ≥ hi
    · refine ⟨H, ?_, ?_, Kp.refl _ _⟩
      · rw [dT (by omega), ct, bs, J96_1_0]
      · rw [dif_pos g1]; exact h
    · have s1 := h.inb (first + root) (by omega)
      have s2 := h.get (first + root) (by omega)
      have s3 := h.inb (first + (2 * root + 1)) (by omega)
      have s4 := h.get (first + (2 * root + 1)) (by omega)
      have e0 : decide (((2 * root + 1 : Nat) : Int) ≥ (hi : Int)) = false := dF (by omega)
      rw [dif_neg g1]
      -- the tail at the child c
      have tail : ∀ c : Nat, root < c → c < hi → ∀ e : Option (AExit × St), 
          (Sort.ltInt d[first + root]! d[first + c]! = false → e = some (.ret, X96_1a H)) →
          (∀ H1 H2, Sort.ltInt d[first + root]! d[first + c]! = true → H.put sl.id (sl.off + ((first + root : Nat) : Int).toNat * 1) [.int .u64 d[first + c]!] = some H1 → H1.put sl.id (sl.off + ((first + c : Nat) : Int).toNat * 1) [.int .u64 d[first + root]!] = some H2 → e = D96_1 (n + m + 1) (some sl) hi first c H2) →
          ∃ H', e.bind J96_1 = some ((), H') ∧ SA H' sl (if (!Sort.ltInt d[first + root]! d[first + c]!) = true then d else Sort.siftDown Sort.ltInt hi first c (Sort.swp d (first + root) (first + c))) ∧ Kp (One sl.id) H H' := by
        intro c hc1 hc2 e he1 he2
        cases gl : Sort.ltInt d[first + root]! d[first + c]! with
        | false => exact ⟨H, by rw [he1 gl, bs, J96_1_1], by rw [if_pos (by simp)]; exact h, Kp.refl _ _⟩
        | true =>
          obtain ⟨H1, H2, p1, p2, h2, k⟩ := h.swp (first + root) (first + c) (by omega) (by omega)
          obtain ⟨H', e', h', k'⟩ := ih n c _ H2 h2 (by rw [sz_swp]; exact hf) (by omega) (.inl hc2) (by omega)
          exact ⟨H', by rw [he2 H1 H2 gl p1 p2, e'], by rw [if_neg (by simp)]; exact h', k.one k'⟩
      have w1 := wpp first (2 * root + 1) (by omega) (by omega)
      have w2 := wpp first (2 * root + 2) (by omega) (by omega)
      have w3 := wp1 (2 * root + 1) (by omega)
      have w4 := wp1 (first + (2 * root + 1)) (by omega)
      have w5 := wpp first root (by omega) (by omega)
      by_cases g2 : 2 * root + 2 < hi
      · have s5 := h.inb (first + (2 * root + 2)) (by omega)
        have s6 := h.get (first + (2 * root + 2)) (by omega)
        have e1 : decide (((2 * root + 1 + 1 : Nat) : Int) < (hi : Int)) = true := dT (by omega)
        have w3' : IntKind.i64.wrap (((2 * root + 1 : Nat) : Int) + 1) = ((2 * root + 2 : Nat) : Int) := w3
        have w4' : IntKind.i64.wrap (((first + (2 * root + 1) : Nat) : Int) + 1) = ((first + (2 * root + 2) : Nat) : Int) := w4
        have e1 : decide (((2 * root + 2 : Nat) : Int) < (hi : Int)) = true := dT (by omega)
        cases gc : Sort.ltInt d[first + (2 * root + 1)]! d[first + (2 * root + 2)]! with
        | true =>
          rw [if_pos (by simp [g2]), dif_pos g2]
          refine tail (2 * root + 2) (by omega) g2 _ ?_ ?_
          · intro g
            simp only [e0, e1, ct, cf, bs, w1, w2, w3', w4', w5, s1, s2, s3, s4, s5, s6, tInt, lt_eq, gc, g, Bool.not_false]
          · intro H1 H2 g p1 p2
            simp only [e0, e1, ct, cf, bs, w1, w2, w3', w4', w5, s1, s2, s3, s4, s5, s6, tInt, lt_eq, gc, g, Bool.not_true, p1, p2]
        | false =>
          rw [if_neg (by simp [g2])]
          refine tail (2 * root + 1) (by omega) (by omega) _ ?_ ?_
          · intro g
            simp only [e0, e1, ct, cf, bs, w1, w2, w3', w4', w5, s1, s2, s3, s4, s5, s6, tInt, lt_eq, gc, g, Bool.not_false]
          · intro H1 H2 g p1 p2
            simp only [e0, e1, ct, cf, bs, w1, w2, w3', w4', w5, s1, s2, s3, s4, s5, s6, tInt, lt_eq, gc, g, Bool.not_true, p1, p2]
      · have w3' : IntKind.i64.wrap (((2 * root + 1 : Nat) : Int) + 1) = ((2 * root + 2 : Nat) : Int) := w3
        have e1 : decide (((2 * root + 2 : Nat) : Int) < (hi : Int)) = false := dF (by omega)
        rw [if_neg (by simp; omega)]
        refine tail (2 * root + 1) (by omega) (by omega) _ ?_ ?_
        · intro g
          simp only [e0, e1, ct, cf, bs, w1, w3', w5, s1, s2, s3, s4, tInt, lt_eq, g, Bool.not_false]
        · intro H1 H2 g p1 p2
          simp only [e0, e1, ct, cf, bs, w1, w3', w5, s1, s2, s3, s4, tInt, lt_eq, g, Bool.not_true, p1, p2]
theorem f96_x {H : Heap} {sl : Sl} {d : Array Int} (h : SA H sl d) (lo hi first : Nat) (hf : first + hi ≤ d.size) (hr : lo < 65536) (hlo : lo < hi ∨ hi ≤ 2 * lo + 1) :
    ∃ H', f96 (some sl) lo hi first H = some ((), H') ∧ SA H' sl (Sort.siftDown Sort.ltInt hi first lo d) ∧ Kp (One sl.id) H H' := by
  have hl := h.lt'
  obtain ⟨n, hn⟩ := LL96_1_of (hi - lo) (by omega) (some sl) hi first lo H
  obtain ⟨H', e, h', k'⟩ := loop96 sl hi first (hi - lo) n lo d H h hf hr hlo (Nat.le_refl _)
  exact ⟨H', by rw [q96, hn, e], h', k'⟩
theorem loop84b (sl : Sl) (first : Nat) : ∀ (k n : Nat) (d : Array Int) (H : Heap), SA H sl d → first + k ≤ d.size →
    ∃ H', D84_8 (n + k + 1) (some sl) first 0 ((k : Int) - 1) H = some (.exit 2, X84_8 H') ∧ SA H' sl (Sort.heapPop Sort.ltInt first k d) ∧ Kp (One sl.id) H H'
  | 0, n, d, H, h, hk => ⟨H, by rw [show n + 0 + 1 = n + 1 from rfl, D84_8_s, dF (by omega), cf], by rw [Sort.heapPop]; exact h, Kp.refl _ _⟩
  | k + 1, n, d, H, h, hk => by
    have hl := h.lt'
    have e0 : ((k + 1 : Nat) : Int) - 1 = (k : Int) := by omega
    obtain ⟨H1, H2, p1, p2, h2, k2⟩ := h.swp first (first + k) (by omega) (by omega)
    obtain ⟨H3, e3, h3, k3⟩ := f96_x h2 0 k first (by rw [sz_swp]; omega) (by omega) (by omega)
    obtain ⟨H', e, h', k'⟩ := loop84b sl first k n _ H3 h3 (by rw [h3.size, ← h.size]; omega)
    refine ⟨H', ?_, by rw [Sort.heapPop]; exact h', (k2.one k3).one k'⟩
    have e4 : f96 (some sl) 0 (k : Int) (first : Int) H2 = some ((), H3) := e3
    have w : IntKind.i64.wrap ((k : Int) - 1) = (k : Int) - 1 := wrap_i64 (by omega) (by omega)
    rw [show n + (k + 1) + 1 = (n + k + 1) + 1 by omega, D84_8_s, e0]
    simp only [dT (show ((k : Nat) : Int) ≥ 0 by omega), ct, bs, wpp first k (by omega) (by omega), h.inb (first + k) (by omega), h.get (first + k) (by omega), h.inb first (by omega), h.get first (by omega), tInt, p1, p2, e4, w]
    exact e
theorem loop84a (sl : Sl) (first hi : Nat) : ∀ (k n : Nat) (d : Array Int) (H : Heap), SA H sl d → first + hi ≤ d.size → k ≤ hi + 1 → (hi = 0 ∨ k ≤ hi) →
    ∃ H', D84_4 (n + k + 1) (some sl) first 0 hi ((k : Int) - 1) H = some (.exit 0, X84_4 (some sl) first 0 hi H') ∧ SA H' sl (Sort.heapBuild Sort.ltInt hi first k d) ∧ Kp (One sl.id) H H'
  | 0, n, d, H, h, hk, _, _ => ⟨H, by rw [show n + 0 + 1 = n + 1 from rfl, D84_4_s, dF (by omega), cf], by rw [Sort.heapBuild]; exact h, Kp.refl _ _⟩
  | k + 1, n, d, H, h, hk, h1, h2 => by
    have hl := h.lt'
    have e0 : ((k + 1 : Nat) : Int) - 1 = (k : Int) := by omega
    obtain ⟨H3, e3, h3, k3⟩ := f96_x h k hi first hk (by omega) (by omega)
    obtain ⟨H', e, h', k'⟩ := loop84a sl first hi k n _ H3 h3 (by rw [h3.size, ← h.size]; omega) (by omega) (by omega)
    refine ⟨H', ?_, by rw [Sort.heapBuild]; exact h', k3.one k'⟩
    have w : IntKind.i64.wrap ((k : Int) - 1) = (k : Int) - 1 := wrap_i64 (by omega) (by omega)
    rw [show n + (k + 1) + 1 = (n + k + 1) + 1 by omega, D84_4_s, e0]
    simp only [dT (show ((k : Nat) : Int) ≥ 0 by omega), ct, bs, e3, w]
    exact e
theorem tdivN (a b : Nat) : ((a : Int)).tdiv (b : Int) = ((a / b : Nat) : Int) := by rw [Int.tdiv_eq_ediv_of_nonneg (by omega)]; simp
theorem f84_x {H : Heap} {sl : Sl} {d : Array Int} (h : SA H sl d) (a b : Nat) (hab : a < b) (hb : b ≤ d.size) :
    ∃ H', f84 (some sl) a b H = some ((), H') ∧ SA H' sl (Sort.heapSort Sort.ltInt d a b) ∧ Kp (One sl.id) H H' := by
  have hl := h.lt'
  have w1 : IntKind.i64.wrap ((b : Int) - (a : Int)) = ((b - a : Nat) : Int) := wmm b a (by omega) (by omega)
  have w2 : IntKind.i64.wrap (((b - a : Nat) : Int) - 1) = ((b - a - 1 : Nat) : Int) := wm1 _ (by omega) (by omega)
  have w3 : IntKind.i64.wrap (((b - a - 1 : Nat) : Int).tdiv 2) = (((b - a - 1) / 2 + 1 : Nat) : Int) - 1 := by
    rw [show (2 : Int) = ((2 : Nat) : Int) from rfl, tdivN, wrap_i64 (by omega) (by omega)]; omega
  obtain ⟨n, hn⟩ := LL84_4_of ((b - a - 1) / 2 + 1) (by omega) (some sl) a 0 ((b - a : Nat) : Int) ((((b - a - 1) / 2 + 1 : Nat) : Int) - 1) H
  obtain ⟨H1, e1, h1, k1⟩ := loop84a sl a (b - a) ((b - a - 1) / 2 + 1) n d H h (by omega) (by omega) (by omega)
  obtain ⟨n2, hn2⟩ := LL84_8_of (b - a) (by omega) (some sl) a 0 (((b - a : Nat) : Int) - 1) H1
  obtain ⟨H2, e2, h2, k2⟩ := loop84b sl a (b - a) n2 _ H1 h1 (by rw [h1.size, ← h.size]; omega)
  have w4 : IntKind.i64.wrap (((b - a : Nat) : Int) - 1) = ((b - a : Nat) : Int) - 1 := wrap_i64 (by omega) (by omega)
  refine ⟨H2, ?_, h2, k1.one k2⟩
  rw [q84, w1, w2, w3, hn, e1, bs, J84_4_0, w4, hn2, e2, bs, J84_8_0]
end
end Go.Proofs.Ytnjdajcgcnjamaa
