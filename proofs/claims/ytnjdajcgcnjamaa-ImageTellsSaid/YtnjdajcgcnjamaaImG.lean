/- Layer 4: the program's image: the text, stacks, the order of segments. -/
import Derived.Test.YtnjdajcgcnjamaaImF
namespace Go.Proofs.Ytnjdajcgcnjamaa
open Go Go.Proofs.Ytnjdajcgcnjamaa.Ab
set_option linter.unusedVariables false
set_option linter.unusedSimpArgs false
set_option maxRecDepth 100000
noncomputable section
def SgU (s : Sg) : Prop := u64r s.addr ∧ u64r s.size
/-- Have two segments an address in common? -/
def mt (s t : Sg) : Bool := decide (0 < s.size) && (decide (0 < t.size) && (decide (s.addr < t.addr + t.size) && decide (t.addr < s.addr + s.size)))
theorem f55_x {s t : Sg} (hs : SgU s) (ht : SgU t) (H : Heap) : f55 s.kind s.flags s.addr s.size s.sl t.kind t.flags t.addr t.size t.sl H = some (mt s t, H) := by
  unfold SgU u64r at *
  rw [q55]
  unfold mt
  by_cases g1 : 0 < s.size
  · rw [dT (show s.size > 0 by omega), ct, Bool.true_and]
    by_cases g2 : 0 < t.size
    · rw [dT (show t.size > 0 by omega), ct, Bool.true_and]
      by_cases g3 : t.addr ≥ s.addr
      · rw [dT g3, ct, show IntKind.u64.wrap (t.addr - s.addr) = t.addr - s.addr by rw [wrap_u64]; omega, dT (show s.addr < t.addr + t.size by omega), Bool.true_and]
        by_cases g4 : t.addr - s.addr < s.size
        · rw [dT g4, ct, dT (by omega)]
        · rw [dF g4, cf, dF (show ¬ t.addr < s.addr + s.size by omega)]
          by_cases g5 : s.addr ≥ t.addr
          · rw [dT g5, ct, show IntKind.u64.wrap (s.addr - t.addr) = s.addr - t.addr by rw [wrap_u64]; omega, dF (by omega)]
          · rw [dF g5, cf]
      · rw [dF g3, cf, dT (show s.addr ≥ t.addr by omega), ct, show IntKind.u64.wrap (s.addr - t.addr) = s.addr - t.addr by rw [wrap_u64]; omega, dT (show t.addr < s.addr + s.size by omega), Bool.and_true]
        congr 2
        exact decide_eq_decide.2 (by omega)
    · rw [dF (show ¬ t.size > 0 by omega), cf]; rfl
  · rw [dF (show ¬ s.size > 0 by omega), cf]; rfl
/-! the text -/
def goodX (o : Sg) : Bool := o.flags == 5 && (o.size == (o.data.length : Int) && (decide (0 < o.data.length) && decide (o.data.length ≤ 4096)))
def tx (pre : List Sg) (many : Nat) (out : Sg) : List Sg → Sg × Bool
  | [] => (out, decide (many = 1) && goodX out)
  | s :: r => bif pre.any (mt s) then (bif isX s then s else out, false) else bif isX s then tx (pre ++ [s]) (many + 1) s r else tx (pre ++ [s]) many out r
theorem loop25b {H : Heap} {t : Option Sl} {pre : List Sg} (hR : RS 5 ESg H t pre) (hl : pre.length < 1000) (hu : ∀ s ∈ pre, SgU s) {s : Sg} (hs : SgU s) (t0 : Option Sl) (t5 : Int) (t11 : Option Sl) (t12 t13 b0 b1 b2 b3 : Int) (b4 : Option Sl) (o : Sg) : ∀ (m n i : Nat), i + m = pre.length →
    D25_10 (n + m + 1) t0 t5 t11 t12 t13 t (pre.length : Int) (i : Int) b0 b1 b2 b3 b4 o.kind o.flags o.addr o.size o.sl s.kind s.flags s.addr s.size s.sl H =
      bif (pre.drop i).any (mt s) then some (.ret, X25_10 t0 false t5 t11 t12 t13 o.kind o.flags o.addr o.size o.sl o.kind o.flags o.addr o.size o.sl H) else some (.exit 2, X25_10a t0 t5 t11 t12 t13 b0 b1 b2 b3 b4 o.kind o.flags o.addr o.size o.sl H)
  | 0, n, i, hm => by
    have g : decide ((i : Int) < (pre.length : Int)) = false := by simp; omega
    rw [List.drop_eq_nil_of_le (by omega), D25_10_s, g, cf]; rfl
  | m + 1, n, i, hm => by
    have g : decide ((i : Int) < (pre.length : Int)) = true := by simp; omega
    have hi : i < pre.length := by omega
    obtain ⟨sl, e0, g1, c0, c1, c2, c3, c4⟩ := getsSg hR (List.getElem?_eq_getElem hi)
    have ih := loop25b hR hl hu hs t0 t5 t11 t12 t13 b0 b1 b2 b3 b4 o m n (i + 1) (by omega)
    have hm' := f55_x hs (hu _ (List.getElem_mem hi)) H
    rw [show n + (m + 1) + 1 = (n + m + 1) + 1 by omega, D25_10_s, g, ct, List.drop_eq_getElem_cons hi, List.any_cons]
    rw [show t.bind = (some sl).bind (β := AExit × St) by rw [e0]]
    simp only [Ab.bs, g1, ct, c0, c1, c2, c3, c4, tInt, tSlice, hm', i64_succ i (by omega), ih]
    cases mt s pre[i] with
    | true => rw [ct, Bool.true_or, ct]
    | false => rw [cf, Bool.false_or]
theorem u64_len (n : Nat) (h : n < 1000000) : IntKind.u64.wrap (n : Int) = (n : Int) := by rw [wrap_u64]; omega
theorem loop25a {H : Heap} {t : Option Sl} {l : List Sg} (hR : RS 5 ESg H t l) (hl : l.length < 1000) (hu : ∀ s ∈ l, SgU s) (hd : ∀ s ∈ l, slen s.sl = (s.data.length : Int) ∧ s.data.length ≤ 1000) :
    ∀ (m n i many : Nat) (o : Sg) (b0 b1 b2 b3 : Int) (b4 : Option Sl), i + m = l.length → many ≤ i → slen o.sl = (o.data.length : Int) ∧ o.data.length ≤ 1000 →
    (D25_4 (n + m + 1) t (many : Int) t (l.length : Int) (i : Int) b0 b1 b2 b3 b4 o.kind o.flags o.addr o.size o.sl H).bind J25_4 = some (((tx (l.take i) many o (l.drop i)).1.kind, (tx (l.take i) many o (l.drop i)).1.flags, (tx (l.take i) many o (l.drop i)).1.addr, (tx (l.take i) many o (l.drop i)).1.size, (tx (l.take i) many o (l.drop i)).1.sl, (tx (l.take i) many o (l.drop i)).2), H)
  | 0, n, i, many, o, b0, b1, b2, b3, b4, hm, hmi, ho => by
    have g : decide ((i : Int) < (l.length : Int)) = false := by simp; omega
    rw [List.drop_eq_nil_of_le (by omega), D25_4_s, g, cf, Ab.bs, J25_4_0, ho.1, u64_len _ (by omega)]
    unfold tx goodX
    have e1 : ((many : Int) == 1) = decide (many = 1) := by
      rw [show ((many : Int) == 1) = decide ((many : Int) = 1) from rfl]
      exact decide_eq_decide.2 (by omega)
    have e2 : decide ((o.data.length : Int) > 0) = decide (0 < o.data.length) := decide_eq_decide.2 (by omega)
    have e3 : decide ((o.data.length : Int) ≤ 4096) = decide (o.data.length ≤ 4096) := decide_eq_decide.2 (by omega)
    rw [e1, e2, e3]
    cases decide (many = 1) <;> cases o.flags == 5 <;> cases o.size == (o.data.length : Int) <;> cases decide (0 < o.data.length) <;> rfl
  | m + 1, n, i, many, o, b0, b1, b2, b3, b4, hm, hmi, ho => by
    have g : decide ((i : Int) < (l.length : Int)) = true := by simp; omega
    have hi : i < l.length := by omega
    obtain ⟨sl, e0, g1, c0, c1, c2, c3, c4⟩ := getsSg hR (List.getElem?_eq_getElem hi)
    have hes := hR.esOkT
    obtain ⟨p, p1, p2, p3⟩ := hR.sub0 ESg_len i (by omega)
    have hlp : (l.take i).length = i := by simp; omega
    have hpu : ∀ s ∈ l.take i, SgU s := fun s hs => hu s (List.mem_of_mem_take hs)
    have hsu := hu _ (List.getElem_mem hi)
    have hsd := hd _ (List.getElem_mem hi)
    have htk : l.take i ++ [l[i]] = l.take (i + 1) := by rw [List.take_succ_eq_append_getElem hi]
    have w : IntKind.i64.wrap ((many : Int) + 1) = ((many + 1 : Nat) : Int) := i64_succ many (by omega)
    rw [show n + (m + 1) + 1 = (n + m + 1) + 1 by omega, D25_4_s, g, ct, List.drop_eq_getElem_cons hi, tx, htk]
    rw [show t.bind = (some sl).bind (β := AExit × St) by rw [e0]]
    simp only [Ab.bs, g1, ct, c0, c1, c2, c3, c4, tInt, tSlice, p1, hes, p2.slenEq, w]
    generalize l[i] = s at *
    rw [show (band IntKind.i64 s.flags 1 != 0) = isX s from rfl]
    cases hx : isX s with
    | true =>
      obtain ⟨n1, hn1⟩ := LL25_10_of i (by omega) t ((many + 1 : Nat) : Int) t (l.length : Int) (i : Int) p (((l.take i).length : Nat) : Int) 0 b0 b1 b2 b3 b4 s.kind s.flags s.addr s.size s.sl s.kind s.flags s.addr s.size s.sl H
      have hb := loop25b p2 (by omega) hpu hsu t ((many + 1 : Nat) : Int) t (l.length : Int) (i : Int) b0 b1 b2 b3 b4 s i n1 0 (by omega)
      rw [List.drop_zero] at hb
      rw [ct, hn1, show (0 : Int) = ((0 : Nat) : Int) from rfl, hb]
      cases ha : (l.take i).any (mt s) with
      | true => simp only [ct, Ab.bs, J25_10_0, J25_4_1]
      | false =>
        simp only [cf, ct, Ab.bs, J25_10_1, i64_succ i (by omega)]
        exact loop25a hR hl hu hd m n (i + 1) (many + 1) s b0 b1 b2 b3 b4 (by omega) (by omega) hsd
    | false =>
      obtain ⟨n1, hn1⟩ := LL25_10_of i (by omega) t (many : Int) t (l.length : Int) (i : Int) p (((l.take i).length : Nat) : Int) 0 b0 b1 b2 b3 b4 o.kind o.flags o.addr o.size o.sl s.kind s.flags s.addr s.size s.sl H
      have hb := loop25b p2 (by omega) hpu hsu t (many : Int) t (l.length : Int) (i : Int) b0 b1 b2 b3 b4 o i n1 0 (by omega)
      rw [List.drop_zero] at hb
      rw [cf, hn1, show (0 : Int) = ((0 : Nat) : Int) from rfl, hb]
      cases ha : (l.take i).any (mt s) with
      | true => simp only [ct, cf, Ab.bs, J25_10_0, J25_4_1]
      | false =>
        simp only [cf, ct, Ab.bs, J25_10_1, i64_succ i (by omega)]
        exact loop25a hR hl hu hd m n (i + 1) many o b0 b1 b2 b3 b4 (by omega) (by omega) ho
def z0 : Sg := ⟨0, 0, 0, 0, none, []⟩
def textP (l : List Sg) : Sg × Bool := tx [] 0 z0 l
theorem f25_x {H : Heap} {t : Option Sl} {l : List Sg} (hR : RS 5 ESg H t l) (hl : l.length < 1000) (hu : ∀ s ∈ l, SgU s) (hd : ∀ s ∈ l, slen s.sl = (s.data.length : Int) ∧ s.data.length ≤ 1000) :
    f25 t H = some (((textP l).1.kind, (textP l).1.flags, (textP l).1.addr, (textP l).1.size, (textP l).1.sl, (textP l).2), H) := by
  obtain ⟨n, hn⟩ := LL25_4_of l.length (by omega) t 0 t (l.length : Int) 0 0 0 0 0 none 0 0 0 0 none H
  have h := loop25a hR hl hu hd l.length n 0 0 z0 0 0 0 0 none (by omega) (by omega) ⟨rfl, by simp [z0]⟩
  rw [q25, hR.slenEq, hn]
  exact h
/-! stacks -/
def guardS (s : Sg) : Sg := ⟨0, 0, if s.addr > 4096 then s.addr - 4096 else 0, s.addr + s.size + 4096 - (if s.addr > 4096 then s.addr - 4096 else 0), none, []⟩
theorem sz_of {s : Sg} (h : szOk s = true) : s.size ≤ 65536 ∧ s.addr ≤ 140737487306752 ∧ s.addr + s.size ≤ 140737487306752 := by
  unfold szOk at h
  simp only [Bool.and_eq_true, decide_eq_true_eq] at h
  exact h
theorem f71_x {s : Sg} (hu : SgU s) (hz : szOk s = true) (H : Heap) : f71 s.kind s.flags s.addr s.size s.sl H = some (((guardS s).kind, (guardS s).flags, (guardS s).addr, (guardS s).size, (guardS s).sl), H) := by
  obtain ⟨z1, z2, z3⟩ := sz_of hz
  unfold SgU u64r at hu
  rw [q71]
  simp only [q52, Ab.bs]
  unfold guardS
  have w1 : IntKind.u64.wrap (s.addr + s.size) = s.addr + s.size := by rw [wrap_u64]; omega
  have w2 : IntKind.u64.wrap (s.addr + s.size + 4096) = s.addr + s.size + 4096 := by rw [wrap_u64]; omega
  rw [w1, w2]
  by_cases g : s.addr > 4096
  · have w3 : IntKind.u64.wrap (s.addr - 4096) = s.addr - 4096 := by rw [wrap_u64]; omega
    have w4 : IntKind.u64.wrap (s.addr + s.size + 4096 - (s.addr - 4096)) = s.addr + s.size + 4096 - (s.addr - 4096) := by rw [wrap_u64]; omega
    rw [dT g, ct, w3, w4, if_pos g]
  · have w4 : IntKind.u64.wrap (s.addr + s.size + 4096 - 0) = s.addr + s.size + 4096 - 0 := by rw [wrap_u64]; omega
    rw [dF g, cf, w4, if_neg g]
theorem guard_u {s : Sg} (hu : SgU s) (hz : szOk s = true) : SgU (guardS s) := by
  obtain ⟨z1, z2, z3⟩ := sz_of hz
  unfold SgU u64r guardS at *
  simp only []
  split <;> omega
def noneM (g : Sg) (i : Nat) : Nat → List Sg → Bool
  | _, [] => true
  | k, t :: r => (decide (k = i) || !mt g t) && noneM g i (k + 1) r
def aloneP (l : List Sg) (i : Nat) (s : Sg) : Bool := decide (s.addr % 16 = 0) && (decide (s.size % 16 = 0) && (decide (64 ≤ s.size) && noneM (guardS s) i 0 l))
theorem loop56 {H : Heap} {t : Option Sl} {l : List Sg} (hR : RS 5 ESg H t l) (hl : l.length < 1000) (hu : ∀ s ∈ l, SgU s) {s : Sg} (hs : SgU s) (hz : szOk s = true) (i : Nat) : ∀ (m n k : Nat), k + m = l.length →
    (D56_5 (n + m + 1) (i : Int) t (l.length : Int) (k : Int) s.kind s.flags s.addr s.size s.sl H).bind J56_5 = some (noneM (guardS s) i k (l.drop k), H)
  | 0, n, k, hm => by
    have g : decide ((k : Int) < (l.length : Int)) = false := by simp; omega
    rw [List.drop_eq_nil_of_le (by omega), D56_5_s, g, cf, Ab.bs, J56_5_1]; rfl
  | m + 1, n, k, hm => by
    have g : decide ((k : Int) < (l.length : Int)) = true := by simp; omega
    have hi : k < l.length := by omega
    obtain ⟨sl, e0, g1, c0, c1, c2, c3, c4⟩ := getsSg hR (List.getElem?_eq_getElem hi)
    have ih := loop56 hR hl hu hs hz i m n (k + 1) (by omega)
    have hm' := f55_x (guard_u hs hz) (hu _ (List.getElem_mem hi)) H
    rw [show n + (m + 1) + 1 = (n + m + 1) + 1 by omega, D56_5_s, g, ct, List.drop_eq_getElem_cons hi, noneM]
    rw [show t.bind = (some sl).bind (β := AExit × St) by rw [e0]]
    simp only [Ab.bs, g1, ct, c0, c1, c2, c3, c4, tInt, tSlice, f71_x hs hz, hm', i64_succ k (by omega)]
    by_cases hki : k = i
    · have : ((k : Int) != (i : Int)) = false := by simp [hki]
      rw [this, cf, ih, dT hki, Bool.true_or, Bool.true_and]
    · have : ((k : Int) != (i : Int)) = true := by simp; omega
      rw [this, ct, dF hki, Bool.false_or]
      cases mt (guardS s) l[k] with
      | true => rw [ct, Ab.bs, J56_5_0]; rfl
      | false => rw [cf, ih]; rfl
theorem tmod16 {n : Int} (h : 0 ≤ n) : (n.tmod 16 != 0) = !decide (n % 16 = 0) := by
  rw [Int.tmod_eq_emod_of_nonneg h]
  by_cases g : n % 16 = 0
  · simp [g]
  · simp [g]
theorem f56_x {H : Heap} {s : FS} {f : Fl} (h : FR H s f) (hl : f.sg.length < 1000) (hu : ∀ s ∈ f.sg, SgU s) (hz : ∀ s ∈ f.sg, szOk s = true) {i : Nat} {e : Sg} (hi : f.sg[i]? = some e) : f56 s.M s.E s.sg s.sy s.rl (i : Int) H = some (aloneP f.sg i e, H) := by
  obtain ⟨hlt, he⟩ := List.getElem?_eq_some_iff.1 hi
  have hm : e ∈ f.sg := he ▸ List.getElem_mem hlt
  have hue := hu e hm
  obtain ⟨sl, e0, g1, c0, c1, c2, c3, c4⟩ := getsSg h.sg hi
  obtain ⟨n, hn⟩ := LL56_5_of f.sg.length (by omega) (i : Int) s.sg (f.sg.length : Int) 0 e.kind e.flags e.addr e.size e.sl H
  have hloop := loop56 h.sg hl hu hue (hz e hm) i f.sg.length n 0 (by omega)
  rw [List.drop_zero] at hloop
  rw [q56]
  rw [show s.sg.bind = (some sl).bind (β := Bool × Heap) by rw [e0]]
  simp only [Ab.bs, g1, ct, c0, c1, c2, c3, c4, tInt, tSlice, tmod16 hue.1.1, tmod16 hue.2.1, h.sg.slenEq, hn]
  unfold aloneP
  by_cases d1 : e.addr % 16 = 0
  · by_cases d2 : e.size % 16 = 0
    · by_cases d3 : 64 ≤ e.size
      · rw [dT d1, dT d2, dT d3, dF (show ¬ e.size < 64 by omega)]
        exact hloop
      · rw [dT d1, dT d2, dF d3, dT (show e.size < 64 by omega)]; rfl
    · rw [dT d1, dF d2]; rfl
  · rw [dF d1]; rfl
def EAr (a : Int × Int × Bool) : List Cell := [.int .u64 a.1, .int .u64 a.2.1, .bool a.2.2]
theorem EAr_len (a : Int × Int × Bool) : (EAr a).length = 3 := rfl
def stP (l : List Sg) : Nat → List Sg → Option (List (Int × Int × Bool))
  | _, [] => some []
  | i, s :: r => bif s.kind != 1610612737 then stP l (i + 1) r else bif !aloneP l i s then none else (stP l (i + 1) r).map ((s.addr, s.size, isX s) :: ·)
theorem loop26 {H0 : Heap} {s : FS} {f : Fl} (hR0 : FR H0 s f) (hl : f.sg.length < 1000) (hu : ∀ s ∈ f.sg, SgU s) (hz : ∀ s ∈ f.sg, szOk s = true) : ∀ (m n i : Nat) (t : Option Sl) (acc : List (Int × Int × Bool)) (H : Heap), i + m = f.sg.length → acc.length ≤ i → Kp No H0 H → OS 3 EAr H t acc → New H0.length t →
    ∃ t' H', Kp No H0 H' ∧ (match stP f.sg i (f.sg.drop i) with
      | none => (D26_3 (n + m + 1) t s.sg (f.sg.length : Int) (i : Int) s.M s.E s.sg s.sy s.rl H).bind J26_3 = some ((none, false), H')
      | some ar => (D26_3 (n + m + 1) t s.sg (f.sg.length : Int) (i : Int) s.M s.E s.sg s.sy s.rl H).bind J26_3 = some ((t', true), H') ∧ OS 3 EAr H' t' (acc ++ ar) ∧ New H0.length t')
  | 0, n, i, t, acc, H, hm, ha, hk, ho, hn => by
    have g : decide ((i : Int) < (f.sg.length : Int)) = false := by simp; omega
    refine ⟨t, H, hk, ?_⟩
    rw [List.drop_eq_nil_of_le (by omega)]
    simp only [stP]
    exact ⟨by rw [D26_3_s, g, cf, Ab.bs, J26_3_1], by simpa using ho, hn⟩
  | m + 1, n, i, t, acc, H, hm, ha, hk, ho, hn => by
    have hR := hR0.no hk
    have g : decide ((i : Int) < (f.sg.length : Int)) = true := by simp; omega
    have hi : i < f.sg.length := by omega
    have hi? := List.getElem?_eq_getElem hi
    obtain ⟨sl, e0, g1, c0, c1, c2, c3, c4⟩ := getsSg hR.sg hi?
    have hal := f56_x hR hl hu hz hi?
    rw [show n + (m + 1) + 1 = (n + m + 1) + 1 by omega, D26_3_s, g, ct, List.drop_eq_getElem_cons hi, stP]
    rw [show s.sg.bind = (some sl).bind (β := AExit × St) by rw [e0]]
    simp only [Ab.bs, g1, ct, c0, c1, c2, c3, c4, tInt, tSlice, hal, i64_succ i (by omega)]
    generalize f.sg[i] = e at *
    cases hk1 : e.kind != 1610612737 with
    | true =>
      simp only [ct]
      exact loop26 hR0 hl hu hz m n (i + 1) t acc H (by omega) (by omega) hk ho hn
    | false =>
      simp only [cf]
      cases ha1 : aloneP f.sg i e with
      | false =>
        simp only [Bool.not_false, ct, Ab.bs, J26_3_0]
        exact ⟨none, H, hk, rfl⟩
      | true =>
        simp only [Bool.not_true, cf]
        obtain ⟨t2, H2, a1, k2, o2, n2⟩ := grow EAr_len (by decide) (by' := 24) hk t acc ho hn (e.addr, e.size, isX e) (by simp [most]; omega)
        obtain ⟨t', H', k', r⟩ := loop26 hR0 hl hu hz m n (i + 1) t2 (acc ++ [(e.addr, e.size, isX e)]) H2 (by omega) (by simp; omega) k2 o2 n2
        refine ⟨t', H', k', ?_⟩
        have a1' : (H ++ [Blk.row [Cell.int IntKind.u64 e.addr, Cell.int IntKind.u64 e.size, Cell.bool (band IntKind.i64 e.flags 1 != 0)] false]).append 3 24 t (some ⟨H.length, 0, 1, 1, 3⟩) = some (t2, H2) := a1
        rw [a1']
        cases hs : stP f.sg (i + 1) (f.sg.drop (i + 1)) with
        | none =>
          rw [hs] at r
          simpa using r
        | some ar =>
          rw [hs] at r
          simp only [Ab.bs, Option.map_some]
          refine ⟨r.1, ?_, r.2.2⟩
          have := r.2.1
          simpa using this
theorem f26_x {H : Heap} {s : FS} {f : Fl} (h : FR H s f) (hl : f.sg.length < 1000) (hu : ∀ s ∈ f.sg, SgU s) (hz : ∀ s ∈ f.sg, szOk s = true) :
    ∃ t' H', Kp No H H' ∧ (match stP f.sg 0 f.sg with
      | none => f26 s.M s.E s.sg s.sy s.rl H = some ((none, false), H')
      | some ar => f26 s.M s.E s.sg s.sy s.rl H = some ((t', true), H') ∧ OS 3 EAr H' t' ar ∧ New H.length t') := by
  obtain ⟨n, hn⟩ := LL26_3_of f.sg.length (by omega) none s.sg (f.sg.length : Int) 0 s.M s.E s.sg s.sy s.rl H
  obtain ⟨t', H', k', r⟩ := loop26 h hl hu hz f.sg.length n 0 none [] H (by omega) (Nat.le_refl _) (Kp.refl _ _) rfl fun _ e => nomatch e
  refine ⟨t', H', k', ?_⟩
  rw [q26, h.sg.slenEq, hn]
  exact r
/-! has -/
def hasP (s : Sg) (a n : Int) : Bool := decide (a ≥ s.addr) && (decide (a - s.addr ≤ s.size) && decide (n ≤ s.size - (a - s.addr)))
theorem f10_x {s : Sg} (hs : SgU s) {a n : Int} (ha : u64r a) (H : Heap) : f10 s.kind s.flags s.addr s.size s.sl a n H = some (hasP s a n, H) := by
  unfold SgU u64r at *
  rw [q10]
  unfold hasP
  by_cases g1 : a ≥ s.addr
  · rw [dT g1, ct, show IntKind.u64.wrap (a - s.addr) = a - s.addr by rw [wrap_u64]; omega, Bool.true_and]
    by_cases g2 : a - s.addr ≤ s.size
    · rw [dT g2, ct, show IntKind.u64.wrap (s.size - (a - s.addr)) = s.size - (a - s.addr) by rw [wrap_u64]; omega, Bool.true_and]
    · rw [dF g2, cf]; rfl
  · rw [dF g1, cf]; rfl
/-! segments by their addresses -/
/-- x, from the right, into what stands in the reversed list R; S behind it. -/
def sink (x : Sg) : List Sg → List Sg → List Sg
  | [], S => x :: S
  | y :: R, S => if x.addr < y.addr then sink x R (y :: S) else (y :: R).reverse ++ x :: S
/-- Into a list, ahead of the first that is greater. -/
def ins (x : Sg) : List Sg → List Sg
  | [] => [x]
  | y :: r => if y.addr > x.addr then x :: y :: r else y :: ins x r
def sortP (l : List Sg) : List Sg := l.foldl (fun m s => ins s m) []
def srt : List Sg → Prop
  | [] => True
  | y :: r => (∀ z ∈ r, y.addr ≤ z.addr) ∧ srt r
theorem mem_ins {x z : Sg} : ∀ {l : List Sg}, z ∈ ins x l ↔ z = x ∨ z ∈ l
  | [] => by simp [ins]
  | y :: r => by
    unfold ins
    split
    · simp
    · rw [List.mem_cons, mem_ins (l := r), List.mem_cons]
      constructor
      · rintro (h | h | h)
        · exact .inr (.inl h)
        · exact .inl h
        · exact .inr (.inr h)
      · rintro (h | h | h)
        · exact .inr (.inl h)
        · exact .inl h
        · exact .inr (.inr h)
theorem srt_ins (x : Sg) : ∀ l, srt l → srt (ins x l)
  | [], _ => ⟨(fun _ h => by cases h), trivial⟩
  | y :: r, h => by
    unfold ins
    split
    · rename_i g
      refine ⟨fun z hz => ?_, h⟩
      rcases List.mem_cons.1 hz with rfl | hz
      · omega
      · have := h.1 z hz; omega
    · rename_i g
      refine ⟨fun z hz => ?_, srt_ins x r h.2⟩
      rcases mem_ins.1 hz with rfl | hz
      · omega
      · exact h.1 z hz
theorem ins_app_gt (x : Sg) : ∀ (A : List Sg) (y : Sg) (B : List Sg), (∀ z ∈ A, z.addr ≤ x.addr) → x.addr < y.addr → ins x (A ++ y :: B) = A ++ x :: y :: B
  | [], y, B, _, h => by simp [ins, h]
  | a :: A, y, B, hA, h => by
    have := hA a (by simp)
    rw [List.cons_append, ins, if_neg (by omega), ins_app_gt x A y B (fun z hz => hA z (by simp [hz])) h]; rfl
theorem ins_app_le (x : Sg) : ∀ (A : List Sg), (∀ z ∈ A, z.addr ≤ x.addr) → ins x A = A ++ [x]
  | [], _ => rfl
  | a :: A, hA => by
    have := hA a (by simp)
    rw [ins, if_neg (by omega), ins_app_le x A fun z hz => hA z (by simp [hz])]; rfl
theorem srt_app : ∀ {A : List Sg} {y : Sg} {B : List Sg}, srt (A ++ y :: B) → ∀ z ∈ A, z.addr ≤ y.addr
  | a :: A, y, B, h, z, hz => by
    rcases List.mem_cons.1 hz with rfl | hz
    · exact h.1 y (by simp)
    · exact srt_app h.2 z hz
theorem sink_ins (x : Sg) : ∀ (R S : List Sg), srt (R.reverse ++ S) → (∀ z ∈ S, x.addr < z.addr) → sink x R S = ins x (R.reverse ++ S)
  | [], S, h, hS => by
    cases S with
    | nil => rfl
    | cons y S => simp [sink, ins, hS y (by simp)]
  | y :: R, S, h, hS => by
    rw [List.reverse_cons, List.append_assoc] at h ⊢
    unfold sink
    by_cases g : x.addr < y.addr
    · rw [if_pos g, sink_ins x R (y :: S) (by simpa using h) (fun z hz => by rcases List.mem_cons.1 hz with rfl | hz; exact g; exact hS z hz)]; rfl
    · rw [if_neg g, List.reverse_cons]
      have hA : ∀ z ∈ R.reverse ++ [y], z.addr ≤ x.addr := fun z hz => by
        rcases List.mem_append.1 hz with hz | hz
        · have := srt_app (A := R.reverse) (y := y) (B := S) (by simpa using h) z hz; omega
        · simp at hz; subst hz; omega
      rw [← List.append_assoc]
      cases S with
      | nil => rw [List.append_nil, ins_app_le x _ hA]
      | cons w S => rw [ins_app_gt x _ w S hA (hS w (by simp))]
theorem f30_x {a b : Sg} (H : Heap) : f30 a.kind a.flags a.addr a.size a.sl b.kind b.flags b.addr b.size b.sl H = some (if a.addr < b.addr then -1 else if a.addr > b.addr then 1 else 0, H) := by
  rw [q30, q31]
  have e : ∀ x, cmp_isNaN_uint64 x = false := fun x => by unfold cmp_isNaN_uint64; simp
  rw [e, e, cf, cf]
  by_cases g : a.addr < b.addr
  · rw [dT g, ct, if_pos g]; rfl
  · rw [dF g, cf, if_neg g]
    by_cases g2 : a.addr > b.addr
    · rw [dT g2, ct, if_pos g2]; rfl
    · rw [dF g2, cf, if_neg g2]; rfl
theorem loop72b (sl : Sl) (b i : Int) : ∀ (R : List Sg) (n : Nat) (x : Sg) (S : List Sg) (H : Heap), OS 5 ESg H (some sl) (R.reverse ++ x :: S) → (R.reverse ++ x :: S).length < 1000 →
    ∃ H', D72a_4 (n + R.length + 1) (some sl) 0 b i (R.length : Int) H = some (.exit 2, X72a_4 (some sl) 0 b i H') ∧ OS 5 ESg H' (some sl) (sink x R S) ∧ Kp (One sl.id) H H'
  | [], n, x, S, H, h, hl => ⟨H, by rw [show n + [].length + 1 = n + 1 from rfl, D72a_4_s, dF (by simp), cf], h, Kp.refl _ _⟩
  | y :: R, n, x, S, H, h, hl => by
    have hl2 : R.length + 2 + S.length < 1000 := by simp at hl; omega
    have hx : ((y :: R).reverse ++ x :: S)[R.length + 1]? = some x := by rw [List.getElem?_append_right (by simp)]; simp
    have hy : ((y :: R).reverse ++ x :: S)[R.length]? = some y := by rw [List.getElem?_append_left (by simp), List.reverse_cons, List.getElem?_append_right (by simp)]; simp
    obtain ⟨sl', e0, g1, c0, c1, c2, c3, c4⟩ := getsSg h.rs hx
    cases e0
    obtain ⟨sl', e0, g2, d0, d1, d2, d3, d4⟩ := getsSg h.rs hy
    cases e0
    have w : IntKind.i64.wrap ((((y :: R).length : Nat) : Int) - 1) = (R.length : Int) := by
      have e9 : (((y :: R).length : Nat) : Int) = (R.length : Int) + 1 := by simp
      rw [e9, wrap_i64 (by omega) (by omega)]; omega
    have e1 : (((y :: R).length : Nat) : Int) = ((R.length + 1 : Nat) : Int) := by simp
    rw [show n + (y :: R).length + 1 = (n + R.length + 1) + 1 by simp; omega, D72a_4_s, w, e1, dT (by omega), ct, sink]
    simp only [Ab.bs, ct, g1, g2, c0, c1, c2, c3, c4, d0, d1, d2, d3, d4, tInt, tSlice, f30_x]
    by_cases g : x.addr < y.addr
    · obtain ⟨H1, p1, o1, k1, _⟩ := h.put (i := R.length + 1) (j := 0) (y := y) (vs := ESg y) ESg_len hx (by simp [ESg]) (by simp [splice, ESg])
      have hy1 : (((y :: R).reverse ++ x :: S).set (R.length + 1) y)[R.length]? = some y := by rw [List.getElem?_set_ne (by omega)]; exact hy
      obtain ⟨H2, p2, o2, k2, _⟩ := o1.put (i := R.length) (j := 0) (y := x) (vs := ESg x) ESg_len hy1 (by simp [ESg]) (by simp [splice, ESg])
      have hset : (((y :: R).reverse ++ x :: S).set (R.length + 1) y).set R.length x = R.reverse ++ x :: (y :: S) := by
        rw [List.set_append_right _ _ (by simp)]
        simp
      rw [hset] at o2
      obtain ⟨H', e, o', k'⟩ := loop72b sl b i R n x (y :: S) H2 o2 (by simp; omega)
      have p1' : H.put sl.id (sl.off + ((R.length + 1 : Nat) : Int).toNat * 5) [Cell.int IntKind.i64 y.kind, Cell.int IntKind.i64 y.flags, Cell.int IntKind.u64 y.addr, Cell.int IntKind.u64 y.size, Cell.slice y.sl] = some H1 := by rw [Int.toNat_natCast]; exact p1
      have p2' : H1.put sl.id (sl.off + ((R.length : Nat) : Int).toNat * 5) [Cell.int IntKind.i64 x.kind, Cell.int IntKind.i64 x.flags, Cell.int IntKind.u64 x.addr, Cell.int IntKind.u64 x.size, Cell.slice x.sl] = some H2 := by rw [Int.toNat_natCast]; exact p2
      refine ⟨H', ?_, by rw [if_pos g]; exact o', (k1.one k2).one k'⟩
      rw [if_pos g]
      simp only [dT (show (-1 : Int) < 0 by omega), ct, p1', p2', Ab.bs]
      exact e
    · refine ⟨H, ?_, by rw [if_neg g]; exact h, Kp.refl _ _⟩
      rw [if_neg g]
      by_cases g2 : x.addr > y.addr
      · rw [if_pos g2, dF (by omega), cf]
      · rw [if_neg g2, dF (by omega), cf]
theorem loop72a (sl : Sl) (L : Nat) (hL : L < 1000) : ∀ (r : List Sg) (n : Nat) (A : List Sg) (H : Heap), OS 5 ESg H (some sl) (A ++ r) → A.length + r.length = L → srt A →
    ∃ H', D72a_1 (n + r.length + 1) (some sl) 0 (L : Int) (A.length : Int) H = some (.exit 0, X72a_1 H') ∧ OS 5 ESg H' (some sl) (r.foldl (fun m s => ins s m) A) ∧ Kp (One sl.id) H H'
  | [], n, A, H, h, hl, hs => ⟨H, by rw [show n + [].length + 1 = n + 1 from rfl, D72a_1_s, dF (by simp at hl; omega), cf], by simpa using h, Kp.refl _ _⟩
  | x :: r, n, A, H, h, hl, hs => by
    have hl2 : A.length + r.length + 1 = L := by simp at hl; omega
    obtain ⟨n1, hn1⟩ := LL72a_4_of A.length (by omega) (some sl) 0 (L : Int) (A.length : Int) (A.length : Int) H
    obtain ⟨H1, e1, o1, k1⟩ := loop72b sl (L : Int) (A.length : Int) A.reverse n1 x r H (by simpa using h) (by simp; omega)
    rw [List.length_reverse] at e1
    have hsk : sink x A.reverse r = ins x A ++ r := by
      have : ∀ (R S T : List Sg), sink x R (S ++ T) = sink x R S ++ T := fun R => by
        induction R with
        | nil => intro S T; rfl
        | cons y R ih =>
          intro S T
          unfold sink
          split
          · exact ih (y :: S) T
          · simp
      have h2 := this A.reverse [] r
      rw [List.nil_append] at h2
      rw [h2, sink_ins x A.reverse [] (by simpa using hs) fun _ h => by cases h]
      simp
    rw [hsk] at o1
    have hli : (ins x A).length = A.length + 1 := by
      have : ∀ l : List Sg, (ins x l).length = l.length + 1 := fun l => by
        induction l with
        | nil => rfl
        | cons y l ih => unfold ins; split <;> simp [ih]
      exact this A
    obtain ⟨H', e', o', k'⟩ := loop72a sl L hL r n (ins x A) H1 o1 (by omega) (srt_ins x A hs)
    refine ⟨H', ?_, o', k1.one k'⟩
    rw [show n + (x :: r).length + 1 = (n + r.length + 1) + 1 by simp; omega, D72a_1_s, dT (by omega), ct, hn1, e1, Ab.bs, J72a_4_0, i64_succ _ (by omega), ← hli]
    exact e'
theorem f29_x {H : Heap} {t : Option Sl} {l : List Sg} (h : OS 5 ESg H t l) (hl : l.length < 20) : ∃ H', f29a t H = some ((), H') ∧ OS 5 ESg H' t (sortP l) ∧ Kp (Of t) H H' := by
  have h72 : ∃ H', f72a t 0 (l.length : Int) H = some ((), H') ∧ OS 5 ESg H' t (sortP l) ∧ Kp (Of t) H H' := by
    have w : IntKind.i64.wrap (0 + 1) = 1 := by decide
    cases l with
    | nil =>
      obtain ⟨n, hn⟩ := LL72a_1_of 0 (by omega) t 0 (([] : List Sg).length : Int) 1 H
      refine ⟨H, ?_, h, Kp.refl _ _⟩
      rw [q72a, w, hn, D72a_1_s, dF (by simp), cf, Ab.bs, J72a_1_0]
    | cons x r =>
      cases t with
      | none =>
        have : x :: r = [] := h
        cases this
      | some sl =>
        obtain ⟨n, hn⟩ := LL72a_1_of r.length (by simp at hl; omega) (some sl) 0 ((x :: r).length : Int) 1 H
        obtain ⟨H', e', o', k'⟩ := loop72a sl (x :: r).length (by omega) r n [x] H h (by simp; omega) ⟨(fun _ h => by cases h), trivial⟩
        refine ⟨H', ?_, o', k'.mono fun i _ hi => ⟨sl, rfl, hi⟩⟩
        rw [q72a, w, hn, show (1 : Int) = (([x].length : Nat) : Int) from rfl, e', Ab.bs, J72a_1_0]
  obtain ⟨H', e', o', k'⟩ := h72
  refine ⟨H', ?_, o', k'⟩
  obtain ⟨n1, hn1⟩ := LL58a_2_of 0 (by omega) t (l.length : Int) 20 0 20 H
  obtain ⟨n2, hn2⟩ := LL58a_7_of 0 (by omega) t (l.length : Int) 20 H'
  rw [q29a, h.rs.slenEq, q58a, hn1, D58a_2_s, dF (by omega), cf, Ab.bs, J58a_2_0, e', Ab.bs, hn2, D58a_7_s, dF (by omega), cf, Ab.bs, J58a_7_0, Ab.bs]
end
end Go.Proofs.Ytnjdajcgcnjamaa
