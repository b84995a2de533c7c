/- Layer 4: ImageApart holds. -/
import Derived.Test.YtnjdajcgcnjamaaImL
import Derived.Test.YtnjdajcgcnjamaaIm2b
namespace Go.Proofs.Ytnjdajcgcnjamaa
open Go Go.Proofs.Ytnjdajcgcnjamaa.Ab
set_option linter.unusedVariables false
set_option linter.unusedSimpArgs false
set_option maxRecDepth 100000
noncomputable section
/-! the plain law -/
def cnt (a : Int) (l : List Sg) : Nat := (l.filter fun s => hasP s a 1).length
theorem cnt_app (a : Int) (l m : List Sg) : cnt a (l ++ m) = cnt a l + cnt a m := by unfold cnt; rw [List.filter_append, List.length_append]
theorem cnt_cons (a : Int) (s : Sg) (l : List Sg) : cnt a (s :: l) = (if hasP s a 1 = true then 1 else 0) + cnt a l := by
  unfold cnt
  rw [List.filter_cons]
  split <;> simp <;> omega
theorem cnt_er (a : Int) (l : List Sg) : cnt a (l.map er) = cnt a l := by
  induction l with
  | nil => rfl
  | cons s l ih => rw [List.map_cons, cnt_cons, cnt_cons, ih]; rfl
theorem cnt_ins (a : Int) (x : Sg) : ∀ l, cnt a (ins x l) = cnt a (x :: l)
  | [] => rfl
  | y :: r => by
    unfold ins
    split
    · rfl
    · rw [cnt_cons, cnt_ins a x r, cnt_cons, cnt_cons, cnt_cons]; omega
theorem cnt_sort (a : Int) (l : List Sg) : cnt a (sortP l) = cnt a l := by
  have : ∀ (l m : List Sg), cnt a (l.foldl (fun m s => ins s m) m) = cnt a m + cnt a l := fun l => by
    induction l with
    | nil => intro m; simp [cnt]
    | cons s l ih => intro m; rw [List.foldl_cons, ih, cnt_ins, cnt_cons, cnt_cons]; omega
  unfold sortP
  rw [this]; simp [cnt]
theorem cnt_part (a : Int) (p : Sg → Bool) : ∀ l : List Sg, cnt a l = cnt a (l.filter p) + cnt a (l.filter fun s => !p s)
  | [] => rfl
  | s :: l => by
    have := cnt_part a p l
    rw [List.filter_cons, List.filter_cons]
    cases h : p s
    · simp only [Bool.not_false, if_true, if_neg Bool.false_ne_true]
      rw [cnt_cons, cnt_cons]; omega
    · simp only [Bool.not_true, if_true, if_neg Bool.false_ne_true]
      rw [cnt_cons, cnt_cons]; omega
/-- No two meet. -/
def PW (pre : List Sg) : List Sg → Prop
  | [] => True
  | s :: r => (∀ t ∈ pre, mt s t = false) ∧ PW (pre ++ [s]) r
theorem has_iff {s : Sg} {a : Int} : hasP s a 1 = true ↔ s.addr ≤ a ∧ a < s.addr + s.size := by
  unfold hasP
  simp only [Bool.and_eq_true, decide_eq_true_eq]
  omega
theorem mt_of {s t : Sg} {a : Int} (h1 : hasP s a 1 = true) (h2 : hasP t a 1 = true) : mt s t = true := by
  rw [has_iff] at h1 h2
  unfold mt
  simp only [Bool.and_eq_true, decide_eq_true_eq]
  omega
theorem cnt_zero {a : Int} {l : List Sg} (h : ∀ t ∈ l, hasP t a 1 = false) : cnt a l = 0 := by
  unfold cnt
  rw [List.filter_eq_nil_iff.2 fun t ht => by rw [h t ht]; simp]
  rfl
theorem cnt_le {a : Int} : ∀ (l pre : List Sg), PW pre l → cnt a pre ≤ 1 → cnt a pre + cnt a l ≤ 1
  | [], pre, _, h => by simpa [cnt] using h
  | s :: r, pre, h, hp => by
    have ih := cnt_le (a := a) r (pre ++ [s]) h.2
    rw [cnt_app] at ih
    rw [cnt_cons]
    have hs : cnt a [s] = if hasP s a 1 = true then 1 else 0 := by rw [cnt_cons]; simp [cnt]
    rw [hs] at ih
    by_cases g : hasP s a 1 = true
    · have z : cnt a pre = 0 := cnt_zero fun t ht => by
        cases hh : hasP t a 1 with
        | false => rfl
        | true => have := mt_of g hh; rw [h.1 t ht] at this; cases this
      rw [if_pos g] at ih ⊢
      have := ih (by omega)
      omega
    · rw [if_neg g] at ih ⊢
      have := ih (by omega)
      omega
theorem tx_true : ∀ (l pre : List Sg) (many : Nat) (o : Sg), (tx pre many o l).2 = true → PW pre l ∧ goodX (tx pre many o l).1 = true ∧ many + (l.filter isX).length = 1 ∧ ((l.filter isX = [] ∧ (tx pre many o l).1 = o) ∨ (∃ r, l.filter isX = r ++ [(tx pre many o l).1]))
  | [], pre, many, o, h => by
    unfold tx at h
    simp only [Bool.and_eq_true, decide_eq_true_eq] at h
    exact ⟨trivial, by unfold tx; exact h.2, by simpa using h.1, .inl ⟨rfl, rfl⟩⟩
  | s :: r, pre, many, o, h => by
    unfold tx at h ⊢
    cases hm : pre.any (mt s) with
    | true => rw [hm] at h; cases h
    | false =>
      rw [hm] at h
      simp only [cond_false] at h ⊢
      have hp : ∀ t ∈ pre, mt s t = false := fun t ht => by
        rw [List.any_eq_false] at hm
        simpa using hm t ht
      cases hx : isX s with
      | true =>
        rw [hx] at h
        simp only [cond_true] at h ⊢
        obtain ⟨a1, a2, a3, a4⟩ := tx_true r (pre ++ [s]) (many + 1) s h
        refine ⟨⟨hp, a1⟩, a2, by rw [List.filter_cons, hx]; simp; omega, .inr ?_⟩
        rcases a4 with ⟨b1, b2⟩ | ⟨q, b⟩
        · exact ⟨[], by rw [List.filter_cons, hx, b1, b2]; rfl⟩
        · exact ⟨s :: q, by rw [List.filter_cons, hx, b]; rfl⟩
      | false =>
        rw [hx] at h
        simp only [cond_false] at h ⊢
        obtain ⟨a1, a2, a3, a4⟩ := tx_true r (pre ++ [s]) many o h
        refine ⟨⟨hp, a1⟩, a2, by rw [List.filter_cons, hx]; simpa using a3, ?_⟩
        rw [List.filter_cons, hx]
        simpa using a4
theorem text_one {f : Fl} (h : (textP (loadsP f)).2 = true) : PW [] (loadsP f) ∧ goodX (textP (loadsP f)).1 = true ∧ (loadsP f).filter isX = [(textP (loadsP f)).1] := by
  obtain ⟨a1, a2, a3, a4⟩ := tx_true (loadsP f) [] 0 z0 h
  refine ⟨a1, a2, ?_⟩
  rcases a4 with ⟨b1, _⟩ | ⟨r, b⟩
  · rw [b1] at a3; simp at a3
  · have : r = [] := by
      rw [b] at a3; simp at a3; exact a3
    rw [b, this]; rfl
/-- What the stacks say. -/
def inS (a : Int) (x : Int × Int × Bool) : Bool := decide (a ≥ x.1) && decide (a < x.1 + x.2.1)
def apS (a : Int) (many : Nat) : List (Int × Int × Bool) → Option Nat
  | [] => some many
  | x :: r =>
    if (decide (IntKind.u64.wrap (a + 4096) ≥ x.1) && (decide (a < x.1 + x.2.1 + 4096) && (decide (a < x.1) || decide (a ≥ x.1 + x.2.1)))) = true ∧ 0 < many + (bif inS a x then 1 else 0) then none
    else apS a (many + (bif inS a x then 1 else 0)) r
theorem noneM_get {g : Sg} {i : Nat} : ∀ {l : List Sg} {k : Nat}, noneM g i k l = true → ∀ (j : Nat) (t : Sg), l[j]? = some t → k + j ≠ i → mt g t = false
  | [], k, h, j, t, ht, hn => by simp at ht
  | s :: r, k, h, j, t, ht, hn => by
    unfold noneM at h
    simp only [Bool.and_eq_true, Bool.or_eq_true, decide_eq_true_eq, Bool.not_eq_true'] at h
    cases j with
    | zero =>
      simp at ht
      subst ht
      rcases h.1 with h | h
      · omega
      · exact h
    | succ j => exact noneM_get h.2 j t (by simpa using ht) (by omega)
theorem apS_ok {f : Fl} {a : Int} (ha : u64r a) (hu : ∀ s ∈ f.sg, SgU s) (hz : ∀ s ∈ f.sg, szOk s = true) : ∀ (Q P : List Sg) (ar : List (Int × Int × Bool)) (many : Nat), f.sg = P ++ Q → stP f.sg P.length Q = some ar → many ≤ 1 →
    ((∀ t ∈ f.sg, t.kind = 1 → hasP t a 1 = false) → (∀ t ∈ P, t.kind ≠ 1 → hasP t a 1 = false) → many = 0) → (∀ t ∈ f.sg, t.kind = 1 ∨ t.kind = 1610612737) → ∃ k, k ≤ 1 ∧ apS a many ar = some k
  | [], P, ar, many, hf, hs, hm, _, _ => by cases hs; exact ⟨many, hm, rfl⟩
  | s :: Q, P, ar, many, hf, hs, hm, hZ, hk => by
    have hsm : s ∈ f.sg := by rw [hf]; simp
    have hf' : f.sg = (P ++ [s]) ++ Q := by rw [hf]; simp
    have hl : (P ++ [s]).length = P.length + 1 := by simp
    unfold stP at hs
    cases hk1 : s.kind != 1610612737 with
    | true =>
      rw [hk1, cond_true] at hs
      have hkk : s.kind = 1 := by
        rcases hk s hsm with h | h
        · exact h
        · rw [h] at hk1; simp at hk1
      rw [← hl] at hs
      refine apS_ok ha hu hz Q (P ++ [s]) ar many hf' hs hm (fun h1 h2 => hZ h1 fun t ht hn => h2 t (by simp [ht]) hn) hk
    | false =>
      rw [hk1, cond_false] at hs
      cases hal : aloneP f.sg P.length s with
      | false => rw [hal] at hs; cases hs
      | true =>
        rw [hal] at hs
        simp only [Bool.not_true, cond_false, Option.map_eq_some_iff] at hs
        obtain ⟨ar', hs', rfl⟩ := hs
        rw [← hl] at hs'
        have hne1 : s.kind ≠ 1 := fun e => by rw [e] at hk1; simp at hk1
        obtain ⟨z1, z2, z3⟩ := sz_of (hz s hsm)
        have hus := hu s hsm
        unfold SgU u64r at hus
        unfold aloneP at hal
        simp only [Bool.and_eq_true, decide_eq_true_eq] at hal
        have hnm := hal.2.2.2
        have hin : inS a (s.addr, s.size, isX s) = hasP s a 1 := by
          rw [Bool.eq_iff_iff, has_iff]
          unfold inS
          simp only [Bool.and_eq_true, decide_eq_true_eq]
        -- about the stack, all else is away
        have away : (guardS s).addr ≤ a → a < s.addr + s.size + 4096 → (∀ t ∈ f.sg, t.kind = 1 → hasP t a 1 = false) ∧ (∀ t ∈ P, t.kind ≠ 1 → hasP t a 1 = false) := by
          intro g1 g2
          have all : ∀ (j : Nat) (t : Sg), f.sg[j]? = some t → j ≠ P.length → hasP t a 1 = false := fun j t ht hj => by
            have h1 := noneM_get hnm j t ht (by omega)
            cases hh : hasP t a 1 with
            | false => rfl
            | true =>
              have hg : hasP (guardS s) a 1 = true := by
                rw [has_iff]
                refine ⟨g1, ?_⟩
                unfold guardS at g1 ⊢
                simp only [] at g1 ⊢
                omega
              rw [mt_of hg hh] at h1; cases h1
          refine ⟨fun t ht hkt => ?_, fun t ht _ => ?_⟩
          · obtain ⟨j, hj, e⟩ := List.getElem_of_mem ht
            refine all j t (by rw [List.getElem?_eq_getElem hj, e]) fun ej => hne1 ?_
            have : f.sg[P.length]? = some s := by rw [hf, List.getElem?_append_right (Nat.le_refl _)]; simp
            subst ej
            rw [List.getElem?_eq_getElem hj, e] at this
            cases this; exact hkt
          · obtain ⟨j, hj, e⟩ := List.getElem_of_mem ht
            exact all j t (by rw [hf, List.getElem?_append_left hj, List.getElem?_eq_getElem hj, e]) (by omega)
        have hg0 : (guardS s).addr ≤ s.addr := by unfold guardS; simp only []; split <;> omega
        unfold apS
        rw [hin]
        cases hh : hasP s a 1 with
        | true =>
          have hi := has_iff.1 hh
          have hz0 := hZ (away (by omega) (by omega)).1 (away (by omega) (by omega)).2
          subst hz0
          simp only [cond_true]
          rw [if_neg (by
            simp only [Bool.and_eq_true, Bool.or_eq_true, decide_eq_true_eq]
            omega)]
          exact apS_ok ha hu hz Q (P ++ [s]) ar' (0 + 1) hf' hs' (by omega) (fun _ h2 => absurd hh (by rw [h2 s (by simp) hne1]; simp)) hk
        | false =>
          simp only [cond_false, Nat.add_zero]
          rw [if_neg (by
            simp only [Bool.and_eq_true, Bool.or_eq_true, decide_eq_true_eq]
            rintro ⟨⟨c1, c2, _⟩, c3⟩
            have ga : (guardS s).addr ≤ a := by
              unfold u64r at ha
              rw [wrap_u64] at c1
              unfold guardS
              simp only []
              split <;> omega
            have := hZ (away ga c2).1 (away ga c2).2
            omega)]
          refine apS_ok ha hu hz Q (P ++ [s]) ar' many hf' hs' hm (fun h1 h2 => hZ h1 fun t ht hn => h2 t (by simp [ht]) hn) hk
theorem kinds_of {f : Fl} (h : mayF f = true) : ∀ t ∈ f.sg, t.kind = 1 ∨ t.kind = 1610612737 := fun t ht => by
  unfold mayF at h
  simp only [Bool.and_eq_true, List.all_eq_true] at h
  have := h.2.2.2.2.1 t ht
  unfold sgMay at this
  simp only [Bool.and_eq_true, Bool.or_eq_true, beq_iff_eq] at this
  exact this.1
theorem apart {f : Fl} (hf : FOk f) (h : (ofP f).1 = 0) {a : Int} (ha : u64r a) : ∃ k, k ≤ 1 ∧ apS a (cnt a ((ofP f).2.o :: (ofP f).2.dt)) (ofP f).2.st = some k ∧ (ofP f).2.o.flags = 5 := by
  obtain ⟨h1, h2, h3, h4, ar, l, h5, h6, h7, h8⟩ := of_ok h
  obtain ⟨t1, t2, t3⟩ := text_one h4
  have hz : ∀ x ∈ f.sg, szOk x = true := by
    unfold sizedP at h3
    simp only [Bool.and_eq_true, List.all_eq_true] at h3
    exact h3.2.2.2.1
  rw [h8]
  simp only []
  have hc : cnt a ((textP (loadsP f)).1 :: sortP ((loadsP f).filter fun s => !isX s)) = cnt a (loadsP f) := by
    rw [cnt_cons, cnt_sort, cnt_part a isX (loadsP f), t3, cnt_cons]; simp [cnt]
  rw [hc]
  have hle : cnt a (loadsP f) ≤ 1 := by
    have := cnt_le (a := a) (loadsP f) [] t1 (by simp [cnt])
    simpa [cnt] using this
  obtain ⟨k, k1, k2⟩ := apS_ok ha hf.sg hz f.sg [] ar (cnt a (loadsP f)) rfl h5 hle (fun g1 _ => cnt_zero fun t ht => g1 t (List.mem_filter.1 ht).1 (by simpa using (List.mem_filter.1 ht).2)) (kinds_of h1)
  refine ⟨k, k1, k2, ?_⟩
  unfold goodX at t2
  simp only [Bool.and_eq_true, beq_iff_eq] at t2
  exact t2.1
/-! the walk -/
theorem loop3a {H : Heap} {t : Option Sl} {l : List Sg} (hR : RS 5 ESg H t l) (hl : l.length < 10000) (hu : ∀ s ∈ l, SgU s) {a : Int} (ha : u64r a) (b0 b1 b2 b3 : Int) (b4 b5 b6 : Option Sl) (b7 : Int) (b8 b9 : Option Sl) : ∀ (m n i many : Nat), i + m = l.length → many ≤ i →
    D3_9 (n + m + 1) a (many : Int) t (l.length : Int) (i : Int) b0 b1 b2 b3 b4 b5 b6 b7 b8 b9 H = some (.exit 0, X3_9 a ((many + cnt a (l.drop i) : Nat) : Int) b0 b1 b2 b3 b4 b5 b6 b7 b8 b9 H)
  | 0, n, i, many, hm, hmi => by
    rw [List.drop_eq_nil_of_le (by omega), D3_9_s, dF (by omega), cf]; rfl
  | m + 1, n, i, many, hm, hmi => by
    have hi : i < l.length := by omega
    obtain ⟨sl, e0, g1, c0, c1, c2, c3, c4⟩ := getsSg hR (List.getElem?_eq_getElem hi)
    have hsu := hu _ (List.getElem_mem hi)
    have w : IntKind.i64.wrap ((many : Int) + 1) = ((many + 1 : Nat) : Int) := i64_succ many (by omega)
    rw [show n + (m + 1) + 1 = (n + m + 1) + 1 by omega, D3_9_s, dT (by omega), ct, List.drop_eq_getElem_cons hi, cnt_cons]
    rw [show t.bind = (some sl).bind (β := AExit × St) by rw [e0]]
    simp only [Ab.bs, g1, ct, c0, c1, c2, c3, c4, tInt, tSlice, f10_x hsu ha, i64_succ i (by omega), w]
    cases hasP l[i] a 1 with
    | true =>
      rw [ct, loop3a hR hl hu ha b0 b1 b2 b3 b4 b5 b6 b7 b8 b9 m n (i + 1) (many + 1) (by omega) (by omega), if_pos rfl, Nat.add_assoc]
    | false =>
      rw [cf, loop3a hR hl hu ha b0 b1 b2 b3 b4 b5 b6 b7 b8 b9 m n (i + 1) many (by omega) (by omega), if_neg Bool.false_ne_true, Nat.zero_add]
theorem getsAr {H : Heap} {s : Option Sl} {l : List (Int × Int × Bool)} (h : RS 3 EAr H s l) {i : Nat} {e : Int × Int × Bool} (hi : l[i]? = some e) :
    ∃ sl, s = some sl ∧ (inb (i : Int) sl.len && sl.esz == 3) = true ∧ H.get sl.id (sl.off + ((i : Nat) : Int).toNat * 3) = some (.int .u64 e.1) ∧ H.get sl.id (sl.off + ((i : Nat) : Int).toNat * 3 + 1) = some (.int .u64 e.2.1) ∧ H.get sl.id (sl.off + ((i : Nat) : Int).toNat * 3 + 1 + 1) = some (.bool e.2.2) := by
  obtain ⟨sl, e, h1, h2⟩ := h.idx EAr_len hi
  exact ⟨sl, e, h1, by simpa using h2 0 _ rfl, by simpa using h2 1 _ rfl, by simpa using h2 2 _ rfl⟩
theorem loop3b {H : Heap} {t : Option Sl} {l : List (Int × Int × Bool)} (hR : RS 3 EAr H t l) (hl : l.length < 10000) (hu : ∀ x ∈ l, u64r x.1 ∧ u64r x.2.1 ∧ x.1 + x.2.1 ≤ 140737487306752) {a : Int} (ha : u64r a) (b0 b1 b2 b3 : Int) (b4 b5 b6 : Option Sl) (b7 : Int) (b8 b9 : Option Sl) : ∀ (m n i many k : Nat), i + m = l.length → many ≤ 10000 + i → apS a many (l.drop i) = some k →
    D3_15 (n + m + 1) a (many : Int) t (l.length : Int) (i : Int) b0 b1 b2 b3 b4 b5 b6 b7 b8 b9 H = some (.exit 2, X3_15a (k : Int) b0 b1 b2 b3 b4 b5 b6 b7 b8 b9 H)
  | 0, n, i, many, k, hm, hmi, hk => by
    rw [List.drop_eq_nil_of_le (by omega)] at hk
    cases hk
    rw [D3_15_s, dF (by omega), cf]
  | m + 1, n, i, many, k, hm, hmi, hk => by
    have hi : i < l.length := by omega
    obtain ⟨sl, e0, g1, c0, c1, c2⟩ := getsAr hR (List.getElem?_eq_getElem hi)
    obtain ⟨u1, u2, u3⟩ := hu _ (List.getElem_mem hi)
    have w : IntKind.i64.wrap ((many : Int) + 1) = ((many + 1 : Nat) : Int) := i64_succ many (by omega)
    rw [List.drop_eq_getElem_cons hi] at hk
    unfold apS at hk
    rw [show n + (m + 1) + 1 = (n + m + 1) + 1 by omega, D3_15_s, dT (by omega), ct]
    rw [show t.bind = (some sl).bind (β := AExit × St) by rw [e0]]
    simp only [Ab.bs, g1, ct, c0, c1, c2, tInt, tBool, q11, i64_succ i (by omega), w]
    generalize l[i] = x at *
    unfold u64r at u1 u2
    have v1 : IntKind.u64.wrap (x.1 + x.2.1) = x.1 + x.2.1 := by rw [wrap_u64]; omega
    have v2 : IntKind.u64.wrap (x.1 + x.2.1 + 4096) = x.1 + x.2.1 + 4096 := by rw [wrap_u64]; omega
    simp only [v1, v2]
    by_cases hin : a ≥ x.1 ∧ a < x.1 + x.2.1
    · have hi1 : inS a x = true := by unfold inS; simp only [Bool.and_eq_true, decide_eq_true_eq]; exact hin
      rw [hi1] at hk
      simp only [cond_true] at hk
      have n1 : ¬ a < x.1 := by omega
      have n2 : ¬ a ≥ x.1 + x.2.1 := by omega
      rw [if_neg (by
        simp only [Bool.and_eq_true, Bool.or_eq_true, decide_eq_true_eq]
        omega)] at hk
      have fin := loop3b hR hl hu ha b0 b1 b2 b3 b4 b5 b6 b7 b8 b9 m n (i + 1) (many + 1) k (by omega) (by omega) hk
      rw [dT hin.1, dT hin.2, dF n1, dF n2]
      simp only [ct, cf, fin]
      cases decide (IntKind.u64.wrap (a + 4096) ≥ x.1) <;> cases decide (a < x.1 + x.2.1 + 4096) <;> rfl
    · have hi1 : inS a x = false := by
        unfold inS
        simp only [Bool.and_eq_false_iff, decide_eq_false_iff_not]
        omega
      rw [hi1] at hk
      simp only [cond_false, Nat.add_zero] at hk
      by_cases hg : (decide (IntKind.u64.wrap (a + 4096) ≥ x.1) && (decide (a < x.1 + x.2.1 + 4096) && (decide (a < x.1) || decide (a ≥ x.1 + x.2.1)))) = true ∧ 0 < many
      · rw [if_pos hg] at hk; cases hk
      · rw [if_neg hg] at hk
        have fin := loop3b hR hl hu ha b0 b1 b2 b3 b4 b5 b6 b7 b8 b9 m n (i + 1) many k (by omega) (by omega) hk
        have hq : decide (a ≥ x.1) = false ∨ (decide (a ≥ x.1) = true ∧ decide (a < x.1 + x.2.1) = false) := by
          by_cases g : a ≥ x.1
          · exact .inr ⟨dT g, dF (by omega)⟩
          · exact .inl (dF g)
        have key : (bif decide (IntKind.u64.wrap (a + 4096) ≥ x.1) then bif decide (a < x.1 + x.2.1 + 4096) then bif decide (a < x.1) then bif decide ((many : Int) > 0) then some (AExit.ret, X3_15 false (many : Int) b0 b1 b2 b3 b4 b5 b6 b7 b8 b9 H) else D3_15 (n + m + 1) a (many : Int) t (l.length : Int) ((i + 1 : Nat) : Int) b0 b1 b2 b3 b4 b5 b6 b7 b8 b9 H else bif decide (a ≥ x.1 + x.2.1) then bif decide ((many : Int) > 0) then some (AExit.ret, X3_15 false (many : Int) b0 b1 b2 b3 b4 b5 b6 b7 b8 b9 H) else D3_15 (n + m + 1) a (many : Int) t (l.length : Int) ((i + 1 : Nat) : Int) b0 b1 b2 b3 b4 b5 b6 b7 b8 b9 H else D3_15 (n + m + 1) a (many : Int) t (l.length : Int) ((i + 1 : Nat) : Int) b0 b1 b2 b3 b4 b5 b6 b7 b8 b9 H else D3_15 (n + m + 1) a (many : Int) t (l.length : Int) ((i + 1 : Nat) : Int) b0 b1 b2 b3 b4 b5 b6 b7 b8 b9 H else D3_15 (n + m + 1) a (many : Int) t (l.length : Int) ((i + 1 : Nat) : Int) b0 b1 b2 b3 b4 b5 b6 b7 b8 b9 H) = some (.exit 2, X3_15a (k : Int) b0 b1 b2 b3 b4 b5 b6 b7 b8 b9 H) := by
          rw [fin]
          by_cases g0 : 0 < many
          · have hg' : ¬ (decide (IntKind.u64.wrap (a + 4096) ≥ x.1) && (decide (a < x.1 + x.2.1 + 4096) && (decide (a < x.1) || decide (a ≥ x.1 + x.2.1)))) = true := fun h => hg ⟨h, g0⟩
            revert hg'
            cases decide (IntKind.u64.wrap (a + 4096) ≥ x.1) <;> cases decide (a < x.1 + x.2.1 + 4096) <;> cases decide (a < x.1) <;> cases decide (a ≥ x.1 + x.2.1) <;> simp
          · rw [dF (show ¬ (many : Int) > 0 by omega)]
            cases decide (IntKind.u64.wrap (a + 4096) ≥ x.1) <;> cases decide (a < x.1 + x.2.1 + 4096) <;> cases decide (a < x.1) <;> cases decide (a ≥ x.1 + x.2.1) <;> rfl
        rcases hq with h1 | ⟨h1, h2⟩
        · rw [h1, cf]; exact key
        · rw [h1, ct, h2, cf]; exact key
theorem st_ok {f : Fl} (hu : ∀ s ∈ f.sg, SgU s) (hz : ∀ s ∈ f.sg, szOk s = true) : ∀ (l : List Sg) (i : Nat) (ar : List (Int × Int × Bool)), (∀ s ∈ l, s ∈ f.sg) → stP f.sg i l = some ar → (∀ x ∈ ar, u64r x.1 ∧ u64r x.2.1 ∧ x.1 + x.2.1 ≤ 140737487306752) ∧ ar.length ≤ l.length
  | [], i, ar, _, h => by cases h; exact ⟨(fun _ h => by cases h), Nat.le_refl _⟩
  | s :: r, i, ar, hl, h => by
    unfold stP at h
    cases hk : s.kind != 1610612737 with
    | true =>
      rw [hk, cond_true] at h
      have := st_ok hu hz r (i + 1) ar (fun x hx => hl x (by simp [hx])) h
      exact ⟨this.1, by simp; omega⟩
    | false =>
      rw [hk, cond_false] at h
      cases ha : aloneP f.sg i s with
      | false => rw [ha] at h; cases h
      | true =>
        rw [ha] at h
        simp only [Bool.not_true, cond_false, Option.map_eq_some_iff] at h
        obtain ⟨ar', h1, rfl⟩ := h
        have := st_ok hu hz r (i + 1) ar' (fun x hx => hl x (by simp [hx])) h1
        have hs := hl s (by simp)
        refine ⟨fun x hx => ?_, by simp; omega⟩
        rcases List.mem_cons.1 hx with rfl | hx
        · exact ⟨(hu s hs).1, (hu s hs).2, (sz_of (hz s hs)).2.2⟩
        · exact this.1 x hx
theorem f3_x {H : Heap} {s : FS} {f : Fl} (h : FA H s f) {a near : Int} (ha : u64r a) : ∃ H', f3 s.M s.E s.sg s.sy s.rl a near H = some (true, H') := by
  obtain ⟨s1, s2, H1, H2, e1, e2, k1, k2, r1, r2⟩ := law_file h
  obtain ⟨hok, hcut⟩ := fok_of h
  obtain ⟨k, fl, ad, sz, sd, dt, st, en, fu, tk, H3, e3, k3, g3, _⟩ := f7_x r2 hok hcut
  rw [q3, e1, Ab.bs]
  simp only []
  rw [e2, Ab.bs]
  simp only []
  rw [e3, Ab.bs]
  simp only []
  by_cases he : (ofP (cutF f)).1 = 0
  · have ir := g3 he
    obtain ⟨io, il⟩ := im_ok hok hcut he
    have hne : ((ofP (cutF f)).1 != 0) = false := by rw [he]; rfl
    rw [hne, cf]
    obtain ⟨m1, m2, m3, m4, ar, l, m5, m6, m7, m8⟩ := of_ok he
    have hz : ∀ x ∈ (cutF f).sg, szOk x = true := by
      unfold sizedP at m3
      simp only [Bool.and_eq_true, List.all_eq_true] at m3
      exact m3.2.2.2.1
    have hst : (ofP (cutF f)).2.st = ar := by rw [m8]
    obtain ⟨so1, so2⟩ := st_ok hok.sg hz (cutF f).sg 0 ar (fun _ h => h) m5
    have hlen := cutF_len f
    -- from the list of segments on
    have fin : ∀ a' : Int, u64r a' → ∃ H', (((H3 ++ [Blk.row [Cell.int IntKind.i64 k, Cell.int IntKind.i64 fl, Cell.int IntKind.u64 ad, Cell.int IntKind.u64 sz, Cell.slice sd] false]).append 5 56 (some { id := List.length H3, off := 0, len := 1, cap := 1, esz := 5 }) dt).bind fun v27 => (LL3_9 a' 0 v27.fst (slen v27.fst) 0 k fl ad sz sd dt st en fu tk v27.snd).bind J3_9) = some (true, H') := by
      intro a' ha'
      obtain ⟨ld, d1, d2, d3⟩ := ir.hdt
      have hdl : ld.length = (ofP (cutF f)).2.dt.length := by have := congrArg List.length d2; simpa using this
      have hdn := io.dl
      obtain ⟨o', ho'⟩ : ∃ o' : Sg, o' = { (ofP (cutF f)).2.o with sl := sd } := ⟨_, rfl⟩
      have kP : Kp No H3 (H3 ++ [Blk.row [Cell.int IntKind.i64 k, Cell.int IntKind.i64 fl, Cell.int IntKind.u64 ad, Cell.int IntKind.u64 sz, Cell.slice sd] false]) := Kp.push1 _ _
      have hO : OS 5 ESg (H3 ++ [Blk.row [Cell.int IntKind.i64 k, Cell.int IntKind.i64 fl, Cell.int IntKind.u64 ad, Cell.int IntKind.u64 sz, Cell.slice sd] false]) (some ⟨H3.length, 0, 1, 1, 5⟩) [o'] := by
        refine ⟨rfl, rfl, Nat.le_refl _, _, push_get _ _, by simp, fun i c e => ?_⟩
        rw [ho'] at e
        rw [ir.hk, ir.hf, ir.ha, ir.hs]
        simpa [ESg] using e
      obtain ⟨t4, H4, a1, a2, a3, _⟩ := append_OS ESg_len (by decide) (by' := 56) hO (d1.no kP) (by simp [most]; omega)
      have k4 : Kp No H3 H4 := kP.trans a3 (fun _ h => h) fun i hi ⟨q, e, e2⟩ => by cases e; simp at e2; omega
      have ir4 := ir.no k4
      have hu4 : ∀ x ∈ [o'] ++ ld, SgU x := fun x hx => by
        rcases List.mem_append.1 hx with hx | hx
        · simp at hx; rw [hx, ho']; exact io.ou
        · have : er x ∈ (ofP (cutF f)).2.dt.map er := d2 ▸ List.mem_map_of_mem hx
          obtain ⟨x', y1, y2⟩ := List.mem_map.1 this
          have := (io.du x' y1).1
          have q1 : x'.addr = x.addr := by have := congrArg Sg.addr y2; exact this
          have q2 : x'.size = x.size := by have := congrArg Sg.size y2; exact this
          unfold SgU at *
          rwa [q1, q2] at this
      have hcnt : cnt a' ([o'] ++ ld) = cnt a' ((ofP (cutF f)).2.o :: (ofP (cutF f)).2.dt) := by
        rw [cnt_app, ← cnt_er a' ld, d2, cnt_er, cnt_cons, cnt_cons, ho']
        simp [cnt]; rfl
      obtain ⟨kk, p1, p2, p3⟩ := apart hok he ha'
      rw [← hcnt] at p2
      have hL : ([o'] ++ ld).length < 10000 := by simp; omega
      obtain ⟨n5, hn5⟩ := LL3_9_of ([o'] ++ ld).length (by omega) a' 0 t4 (([o'] ++ ld).length : Int) 0 k fl ad sz sd dt st en fu tk H4
      have e5 := loop3a a2.rs hL hu4 ha' k fl ad sz sd dt st en fu tk ([o'] ++ ld).length n5 0 0 (by omega) (Nat.le_refl _)
      rw [List.drop_zero, Nat.zero_add] at e5
      obtain ⟨n6, hn6⟩ := LL3_15_of (ofP (cutF f)).2.st.length (by rw [hst]; omega) a' ((cnt a' ([o'] ++ ld) : Nat) : Int) st ((ofP (cutF f)).2.st.length : Int) 0 k fl ad sz sd dt st en fu tk H4
      have hc2 : cnt a' ([o'] ++ ld) ≤ 10000 := Nat.le_trans (List.length_filter_le _ _) (by omega)
      have e6 := loop3b ir4.hst (by rw [hst]; omega) (by rw [hst]; exact so1) ha' k fl ad sz sd dt st en fu tk (ofP (cutF f)).2.st.length n6 0 (cnt a' ([o'] ++ ld)) kk (by omega) (by omega) (by rw [List.drop_zero]; exact p2)
      obtain ⟨H7, e7, _⟩ := f9_x H4
      refine ⟨H7, ?_⟩
      have e5' : D3_9 (n5 + ([o'] ++ ld).length + 1) a' 0 t4 (([o'] ++ ld).length : Int) 0 k fl ad sz sd dt st en fu tk H4 = _ := e5
      have e6' : D3_15 (n6 + (ofP (cutF f)).2.st.length + 1) a' ((cnt a' ([o'] ++ ld) : Nat) : Int) st ((ofP (cutF f)).2.st.length : Int) 0 k fl ad sz sd dt st en fu tk H4 = _ := e6
      have hf5 : (fl == 5) = true := by rw [ir.hf, p3]; rfl
      rw [a1, Ab.bs]
      simp only []
      rw [a2.rs.slenEq, hn5, e5', Ab.bs, J3_9_0, ir4.hst.slenEq, hn6, e6', Ab.bs, J3_15_1, dT (by omega), ct, hf5, ct, e7, Ab.bs]
    by_cases g1 : near ≥ 0
    · rw [dT g1, ct, r1.sg.slenEq]
      by_cases g2 : near < ((cutF f).sg.length : Int)
      · rw [dT g2, ct]
        have hi : near.toNat < (cutF f).sg.length := by omega
        obtain ⟨sl, e0, c0, c1, c2, c3, c4, c5⟩ := getsSg ((r1.no k2).no k3).sg (List.getElem?_eq_getElem hi)
        have hnn : ((near.toNat : Nat) : Int) = near := by omega
        rw [hnn] at c0 c3 c4
        have c3' : H3.get sl.id (sl.off + near.toNat * 5 + 2) = some (.int .u64 (cutF f).sg[near.toNat].addr) := c3
        have c4' : H3.get sl.id (sl.off + near.toNat * 5 + 3) = some (.int .u64 (cutF f).sg[near.toNat].size) := c4
        have hzz := sz_of (hz _ (List.getElem_mem hi))
        have huu := hok.sg _ (List.getElem_mem hi)
        rw [show s1.sg.bind = (some sl).bind (β := Bool × Heap) by rw [e0]]
        simp only [Ab.bs, c0, ct, c3', c4', tInt]
        generalize (cutF f).sg[near.toNat] = x at *
        unfold u64r at huu
        have hq : (IntKind.u64.wrap (x.size + 9000) == 0) = false := by rw [wrap_u64]; simp; omega
        rw [hq, cf]
        exact fin _ (by unfold u64r; rw [wrap_u64]; omega)
      · rw [dF g2, cf]; exact fin a ha
    · rw [dF g1, cf]; exact fin a ha
  · have hne : ((ofP (cutF f)).1 != 0) = true := by simpa using he
    rw [hne, ct]
    obtain ⟨H7, e7, _⟩ := f9_x H3
    exact ⟨H7, by rw [e7, Ab.bs]⟩
theorem holds3 (Hp : Heap) (xs : List TV) (_hn : NoOwn Hp) (hxs : TShAll Try.prog Hp 12 Try.f3.params.toList xs) : fnA CC3 Try.f3.results.toList (bodyOf Try.f3) Bool xs Hp (fun x _ => x.cell.bind Cell.toBool) = some true := by
  have hp : Try.f3.params.toList = [27, 22, 3] := by kernel_rfl
  rw [hp] at hxs
  obtain ⟨x0, xr0, rfl, t0, hxs⟩ := hxs
  obtain ⟨x1, xr1, rfl, t1, hxs⟩ := hxs
  obtain ⟨x2, xr2, rfl, t2, hnil⟩ := hxs
  subst hnil
  obtain ⟨cs, rfl, s0⟩ := tsh_agg t0 Try.underlying27
  obtain ⟨c1, rfl, s1⟩ := tsh_c t1 (fun fs e => by rw [Try.underlying22] at e; cases e) (fun m e g => by rw [Try.underlying22] at g; cases g)
  obtain ⟨c2, rfl, s2⟩ := tsh_c t2 (fun fs e => by rw [Try.underlying3] at e; cases e) (fun m e g => by rw [Try.underlying3] at g; cases g)
  obtain ⟨s, f, rfl, r0⟩ := fl_of cs s0
  obtain ⟨a, ea, wa⟩ := sh_int s1 Try.underlying22
  obtain ⟨near, en, _⟩ := sh_int s2 Try.underlying3
  cases ea
  cases en
  obtain ⟨H', h⟩ := f3_x (near := near) r0 (wf64 wa)
  rw [f3_eq] at h
  exact law_of hN3 (fun v hv => by
    unfold dec3 at hv
    split at hv
    · cases hv; rfl
    · cases hv) h
end
end Go.Proofs.Ytnjdajcgcnjamaa
