/- Layer 10: memory, of layer 9: memory: whose areas are; the law's own functions. -/
import Derived.Test.YtnipccoenalnkaaGreatSmD
import Derived.Test.YtnipccoenalnkaaGreatSt0
namespace Go.Proofs.YtnipccoenalnkaaGreat
open Go Go.Proofs.YtnipccoenalnkaaGreat.Ab
set_option linter.unusedVariables false
set_option linter.unusedSimpArgs false
set_option maxRecDepth 100000
noncomputable section
/-! ### Own -/
def ownA (ars : List Ar) (t k : Int) : Bool := thrd t && (!decide (k < 0) && match ars[k.toNat]? with | some a => a.pr && a.ow == -1 | none => false)
theorem set_at {α : Type} {l : List α} {k : Nat} {y : α} {j : Nat} {c : α} (h : (l.set k y)[j]? = some c) : (j = k ∧ c = y ∧ k < l.length) ∨ (j ≠ k ∧ l[j]? = some c) := by
  by_cases e : k = j
  · subst e
    have hl : k < l.length := by
      have := (List.getElem?_eq_some_iff.1 h).1; simpa using this
    rw [List.getElem?_set_self hl] at h
    exact .inl ⟨rfl, (Option.some.inj h).symm, hl⟩
  · rw [List.getElem?_set_ne e] at h
    exact .inr ⟨fun x => e x.symm, h⟩
/-- An area becomes a thread's. -/
theorem MRg.own {H : Heap} {b L : Nat} {s : Option Sl} {ars : List Ar} {rs : List (Option Sl)} {β : Type} {en : Nat} {eE : β → List Cell} {rows : List (List β)} (h : MRg en eE H b L s ars rs rows) {k : Nat} {a : Ar} (hk : ars[k]? = some a) (t : Int) :
    ∃ sl H', s = some sl ∧ H.put sl.id (sl.off + ((k : Nat) : Int).toNat * 5 + 4) [Cell.int .i64 t] = some H' ∧ MRg en eE H' b L s (ars.set k { a with ow := t }) rs rows ∧ Kp (Of s) H H' ∧ ∀ x, idAt b s (ars.set k { a with ow := t }) rs x = idAt b s ars rs x := by
  cases s with
  | none =>
    have : ars = [] := h.ar
    rw [this] at hk; simp at hk
  | some sl =>
    obtain ⟨H', e1, e2, e3, e4⟩ := OS.put E5_len h.ar (i := k) (j := 4) (x := a) (y := { a with ow := t }) (vs := [Cell.int .i64 t]) hk (by simp) rfl
    have hid : ∀ x : Slot, x ≠ .ar → ∀ i, idAt b (some sl) ars rs x = some i → i ≠ sl.id := by
      rintro x hx i hi rfl
      exact hx (h.inj x .ar sl.id hi rfl)
    have hsame : ∀ x, idAt b (some sl) (ars.set k { a with ow := t }) rs x = idAt b (some sl) ars rs x := by
      intro x
      cases x with
      | dt j =>
        simp only [idAt]
        by_cases e : k = j
        · subst e
          rw [List.getElem?_set_self (List.getElem?_eq_some_iff.1 hk).1, hk]; rfl
        · rw [List.getElem?_set_ne e]
      | _ => rfl
    refine ⟨sl, H', rfl, e1, ⟨?_, e2, ?_, ?_, h.rl, h.rw, ?_, ?_, ?_⟩, e3.mono fun i _ hf => ?_, ?_⟩
    · exact e3.at h.hd fun hf => hid .hd (by intro x; cases x) b rfl hf
    · intro j c hc
      rcases set_at hc with ⟨rfl, rfl, _⟩ | ⟨_, hc⟩
      · exact OS.other (h.dt j a hk) e3 fun i hi hf => hid (.dt j) (by intro x; cases x) i (by simp only [idAt, hk, Option.bind_some]; exact hi) hf
      · exact OS.other (h.dt j c hc) e3 fun i hi hf => hid (.dt j) (by intro x; cases x) i (by simp only [idAt, hc, Option.bind_some]; exact hi) hf
    · intro t' r l hr hl
      exact OS.other (h.ro t' r l hr hl) e3 fun i hi hf => hid (.row t') (by intro x; cases x) i (by simp only [idAt, hr, Option.bind_some]; exact hi) hf
    · intro x y i hx hy
      rw [hsame] at hx hy
      exact h.inj x y i hx hy
    · intro x i hx; rw [hsame] at hx; exact h.ge x i hx
    · intro x i hx; rw [hsame] at hx; rw [e4]; exact h.lt x i hx
    · exact ⟨sl, rfl, hf⟩
    · exact hsame
theorem own_get {H : Heap} {b L : Nat} {s : Option Sl} {ars : List Ar} {rs : List (Option Sl)} {rows : List (List Sto)} (h : MR H b L s ars rs rows) (t k : Int) (hn : ars.length ≤ 1000) :
    (ownA ars t k = false → f30 (some (b, 0)) t k H = some (false, H)) ∧ (ownA ars t k = true → ∃ a H', ars[k.toNat]? = some a ∧ a.pr = true ∧ f30 (some (b, 0)) t k H = some (true, H') ∧ MR H' b L s (ars.set k.toNat { a with ow := t }) rs rows ∧ Kp (Of s) H H' ∧ ∀ x, idAt b s (ars.set k.toNat { a with ow := t }) rs x = idAt b s ars rs x) := by
  have hg : H.get b (0 + 0) = some (.slice s) := by rw [get_of h.hd]; rfl
  have hs := h.ar.rs.slenEq
  rw [q30, f47_x, Ab.bs]
  unfold ownA
  cases thrd t
  · exact ⟨fun _ => rfl, fun h => by simp at h⟩
  simp only [Bool.not_true, cf, Bool.true_and]
  by_cases h0 : k < 0
  · rw [decide_eq_true h0]
    exact ⟨fun _ => rfl, fun h => by simp at h⟩
  rw [decide_eq_false h0]
  simp only [cf, Bool.not_false, Bool.true_and, Ab.bs, hg, tSlice]
  obtain ⟨k, rfl⟩ := Int.eq_ofNat_of_zero_le (Int.not_lt.1 h0)
  have e4 : ((k : Nat) : Int).toNat = k := rfl
  by_cases h1 : ((k : Nat) : Int) ≥ slen s
  · rw [decide_eq_true h1]
    have hkk : ars[((k : Nat) : Int).toNat]? = none := List.getElem?_eq_none (by rw [hs] at h1; rw [e4]; omega)
    rw [hkk]
    exact ⟨fun _ => rfl, fun h => by simp at h⟩
  rw [decide_eq_false h1]
  have hlt : k < ars.length := by rw [hs] at h1; omega
  have hk := List.getElem?_eq_getElem hlt
  have hkk : ars[((k : Nat) : Int).toNat]? = some ars[k] := hk
  rw [hkk]
  obtain ⟨sl, rfl, g1, c0, c1, c2, c3, c4⟩ := gets5 h.ar.rs hk
  have c3' : H.get sl.id (sl.off + ((k : Nat) : Int).toNat * 5 + 0 + 3) = some (.bool ars[k].pr) := c3
  have c4' : H.get sl.id (sl.off + ((k : Nat) : Int).toNat * 5 + 4) = some (.int .i64 ars[k].ow) := c4
  simp only [cf, Ab.bs, g1, ct, c3', tBool]
  cases hpr : ars[k].pr
  · exact ⟨fun _ => rfl, fun h => by simp at h⟩
  simp only [Bool.not_true, cf, c4', Ab.bs, tInt, Bool.true_and]
  by_cases ho : ars[k].ow = -1
  · obtain ⟨sl', H', e, f1, f2, f3, f4⟩ := h.own hk t
    cases e
    rw [ho]
    refine ⟨fun h => by simp at h, fun _ => ⟨ars[k], H', rfl, hpr, ?_, f2, f3, f4⟩⟩
    rw [show ((-1 : Int) != -1) = false from rfl, cf, f1, Ab.bs]
  · have e : (ars[k].ow == -1) = false := by simpa using ho
    unfold bne
    rw [e, Bool.not_false, ct]
    exact ⟨fun _ => rfl, fun h => by simp at h⟩
/-! ### Cut, Ours -/
theorem loop22 (L : Nat) (l : Option Sl) (xs : List Ar) (hl : ∀ sl, l = some sl → xs ≠ [] → sl.id < L) (hx : xs.length ≤ 9223372036854775807) : ∀ (m n i : Nat) (o : Option Sl) (ys : List Ar) (H : Heap), i + m = xs.length → i ≤ 8 → ys.length = i →
    OS 5 E5 H o ys → New L o → L ≤ H.length → RS 5 E5 H l xs → (∀ x, x ∈ xs → RS 1 E8 H x.sl x.data ∧ ∀ sl, x.sl = some sl → x.data ≠ [] → sl.id < L) →
    (∀ y, y ∈ ys → RS 1 E8 H y.sl y.data ∧ (∀ sl, y.sl = some sl → y.data ≠ [] → sl.id < L) ∧ y.data.length ≤ 64) →
    ∃ o' ys' H', D22_3 (n + m + 1) o l (xs.length : Int) (i : Int) H = some (.exit 0, X22_3 o' H') ∧ ys'.length ≤ 8 ∧ OS 5 E5 H' o' ys' ∧ New L o' ∧
      (∀ y, y ∈ ys' → RS 1 E8 H' y.sl y.data ∧ (∀ sl, y.sl = some sl → y.data ≠ [] → sl.id < L) ∧ y.data.length ≤ 64) ∧ Kp (fun i => L ≤ i) H H'
  | 0, n, i, o, ys, H, hm, h8, hi, hO, hN, hL, hR, hX, hY => by
    have g : decide ((i : Int) < (xs.length : Int)) = false := by simp; omega
    exact ⟨o, ys, H, by rw [D22_3_s, g, cf], by omega, hO, hN, hY, Kp.refl _ _⟩
  | m + 1, n, i, o, ys, H, hm, h8, hi, hO, hN, hL, hR, hX, hY => by
    have g : decide ((i : Int) < (xs.length : Int)) = true := by simp; omega
    have hlt : i < xs.length := by omega
    have hzi := List.getElem?_eq_getElem hlt
    obtain ⟨hd1, hd2⟩ := hX _ (List.getElem_mem hlt)
    obtain ⟨sl, rfl, g1, c0, c1, c2, c3, c4⟩ := gets5 hR hzi
    rw [show n + (m + 1) + 1 = (n + m + 1) + 1 by omega, D22_3_s, g]
    simp only [ct, Ab.bs, g1, c0, c1, c2, c3, c4, tInt, tSlice, tBool]
    by_cases h8' : (i : Int) ≥ 8
    · rw [decide_eq_true h8', ct]
      exact ⟨o, ys, H, rfl, by omega, hO, hN, hY, Kp.refl _ _⟩
    rw [decide_eq_false h8', cf]
    have step : ∀ y : Ar, RS 1 E8 H y.sl y.data → (∀ sl, y.sl = some sl → y.data ≠ [] → sl.id < L) → y.data.length ≤ 64 →
        ∃ o1 H1, (H ++ [Blk.row (E5 y) false]).append 5 48 o (some { id := List.length H, off := 0, len := 1, cap := 1, esz := 5 }) = some (o1, H1) ∧
          ∃ o' ys' H', D22_3 (n + m + 1) o1 (some sl) (xs.length : Int) ((i + 1 : Nat) : Int) H1 = some (.exit 0, X22_3 o' H') ∧ ys'.length ≤ 8 ∧ OS 5 E5 H' o' ys' ∧ New L o' ∧
            (∀ y, y ∈ ys' → RS 1 E8 H' y.sl y.data ∧ (∀ sl, y.sl = some sl → y.data ≠ [] → sl.id < L) ∧ y.data.length ≤ 64) ∧ Kp (fun i => L ≤ i) H H' := by
      intro y hy1 hy2 hy3
      obtain ⟨o1, H1, a1, a2, a3, a4⟩ := append_OS E5_len (by decide) (by' := 48) (hO.no (Kp.push1 H (Blk.row (E5 y) false))) (row5 H y) (by simp [most]; omega)
      have kk : Kp (fun i => L ≤ i) H H1 := (Kp.push _ H [Blk.row (E5 y) false]).trans (a3.mono (D := fun i => L ≤ i) fun j _ hf => by
        obtain ⟨s, e, f⟩ := hf
        rw [f]; exact hN s e) (fun _ h => h) fun _ _ h => h
      have kd : ∀ z : Ar, RS 1 E8 H z.sl z.data → (∀ sl, z.sl = some sl → z.data ≠ [] → sl.id < L) → RS 1 E8 H1 z.sl z.data := fun z h1 h2 => h1.kp kk fun s e h0 => Nat.not_le_of_lt (h2 s e h0)
      have hN1 : New L o1 := fun s e => by
        rcases a4 s e with ⟨s0, e0, e1⟩ | e1
        · rw [e1]; exact hN s0 e0
        · simp at e1; omega
      obtain ⟨o', ys', H', r1, r2, r3, r4, r5, r6⟩ := loop22 L (some sl) xs hl hx m n (i + 1) o1 (ys ++ [y]) H1 (by omega) (by omega) (by simp; omega) a2 hN1 (Nat.le_trans hL kk.len) (hR.kp kk fun s e h0 => Nat.not_le_of_lt (hl s e h0))
        (fun x hx => ⟨kd x (hX x hx).1 (hX x hx).2, (hX x hx).2⟩) (fun z hz => by
          rcases List.mem_append.1 hz with hz | hz
          · obtain ⟨q1, q2, q3⟩ := hY z hz; exact ⟨kd z q1 q2, q2, q3⟩
          · simp at hz; subst hz; exact ⟨kd z hy1 hy2, hy2, hy3⟩)
      exact ⟨o1, H1, a1, o', ys', H', r1, r2, r3, r4, r5, kk.trans r6 (fun _ h => h) fun _ _ h => h⟩
    rw [hd1.slenEq]
    by_cases h64 : ((xs[i].data.length : Nat) : Int) > 64
    · rw [decide_eq_true h64, ct]
      obtain ⟨sc, b1, b2, b3⟩ := hd1.sub0 E8_len 64 (by omega)
      rw [show (64 : Int) = ((64 : Nat) : Int) from rfl, b1, Ab.bs, hd1.esOkT, ct]
      obtain ⟨o1, H1, s1, o', ys', H', r⟩ := step { lo := xs[i].lo, sl := sc, data := xs[i].data.take 64, wr := xs[i].wr, pr := xs[i].pr, ow := xs[i].ow } b2 (fun s e h0 => by
        obtain ⟨s0, e0, e1⟩ := b3 s e
        rw [e1]; exact hd2 s0 e0 (fun h => h0 (by rw [show xs[i].data = [] from h]; rfl))) (by simp; omega)
      refine ⟨o', ys', H', ?_, r.2⟩
      have s1 : (H ++ [Blk.row [Cell.int .u64 xs[i].lo, Cell.slice sc, Cell.bool xs[i].wr, Cell.bool xs[i].pr, Cell.int .i64 xs[i].ow] false]).append 5 48 o (some { id := List.length H, off := 0, len := 1, cap := 1, esz := 5 }) = some (o1, H1) := s1
      rw [s1, Ab.bs, i64_succ i (by omega)]
      exact r.1
    · rw [decide_eq_false h64, cf]
      obtain ⟨o1, H1, s1, o', ys', H', r⟩ := step xs[i] hd1 hd2 (by omega)
      refine ⟨o', ys', H', ?_, r.2⟩
      have s1 : (H ++ [Blk.row [Cell.int .u64 xs[i].lo, Cell.slice xs[i].sl, Cell.bool xs[i].wr, Cell.bool xs[i].pr, Cell.int .i64 xs[i].ow] false]).append 5 48 o (some { id := List.length H, off := 0, len := 1, cap := 1, esz := 5 }) = some (o1, H1) := s1
      rw [s1, Ab.bs, i64_succ i (by omega)]
      exact r.1
/-- Areas that a law has cut. -/
structure Cutd (H : Heap) (o : Option Sl) (ys : List Ar) : Prop where
  n : ys.length ≤ 8
  r : RS 5 E5 H o ys
  d : ∀ y, y ∈ ys → RS 1 E8 H y.sl y.data ∧ y.data.length ≤ 64
theorem Cutd.no {H H' : Heap} {o : Option Sl} {ys : List Ar} (h : Cutd H o ys) (k : Kp No H H') : Cutd H' o ys := ⟨h.n, h.r.no k, fun y hy => ⟨(h.d y hy).1.no k, (h.d y hy).2⟩⟩
theorem Cutd.src {H : Heap} {o : Option Sl} {ys : List Ar} (h : Cutd H o ys) : Src H H.length ys :=
  ⟨fun z hz => (h.d z hz).1, fun z hz sl e h0 => by
    have := (h.d z hz).1
    rw [e] at this
    exact RS.lt E8_len (by decide) this h0, fun z hz => by have := (h.d z hz).2; omega⟩
theorem f22_x (l : Option Sl) (xs : List Ar) (hx : xs.length ≤ 9223372036854775807) (H : Heap) (hR : RS 5 E5 H l xs) (hX : ∀ x, x ∈ xs → RS 1 E8 H x.sl x.data) :
    ∃ o ys H', f22 l H = some (o, H') ∧ Cutd H' o ys ∧ Kp No H H' := by
  rw [q22]
  obtain ⟨n, e⟩ := LL22_3_of xs.length (by omega) none l (slen l) 0 H
  obtain ⟨o, ys, H', r1, r2, r3, r4, r5, r6⟩ := loop22 H.length l xs (fun sl e h0 => by subst e; exact RS.lt E5_len (by decide) hR h0) hx xs.length n 0 none [] H (by omega) (by omega) rfl rfl (fun _ e => nomatch e) (Nat.le_refl _) hR
    (fun x hm => ⟨hX x hm, fun sl e h0 => by have := hX x hm; rw [e] at this; exact RS.lt E8_len (by decide) this h0⟩) (fun y hy => by simp at hy)
  refine ⟨o, ys, H', ?_, ⟨r2, r3.rs, fun y hy => ⟨(r5 y hy).1, (r5 y hy).2.2⟩⟩, (Kp.refl No H).tr' r6⟩
  rw [e, hR.slenEq, show (0 : Int) = ((0 : Nat) : Int) from rfl, r1, Ab.bs, J22_3_0]
theorem loop28 (L : Nat) (l : Option Sl) (xs : List Ar) (hl : ∀ sl, l = some sl → xs ≠ [] → sl.id < L) (hx : xs.length ≤ 8) : ∀ (m n i : Nat) (o : Option Sl) (H : Heap), i + m = xs.length →
    OS 4 E4 H o (xs.take i) → New L o → L ≤ H.length → RS 5 E5 H l xs →
    ∃ o' H', D28_3 (n + m + 1) o l (xs.length : Int) (i : Int) H = some (.exit 0, X28_3 o' H') ∧ OS 4 E4 H' o' xs ∧ Kp (fun i => L ≤ i) H H'
  | 0, n, i, o, H, hm, hO, hN, hL, hR => by
    have g : decide ((i : Int) < (xs.length : Int)) = false := by simp; omega
    refine ⟨o, H, by rw [D28_3_s, g, cf], ?_, Kp.refl _ _⟩
    rw [List.take_of_length_le (by omega)] at hO; exact hO
  | m + 1, n, i, o, H, hm, hO, hN, hL, hR => by
    have g : decide ((i : Int) < (xs.length : Int)) = true := by simp; omega
    have hlt : i < xs.length := by omega
    have hzi := List.getElem?_eq_getElem hlt
    obtain ⟨sl, rfl, g1, c0, c1, c2, c3, c4⟩ := gets5 hR hzi
    obtain ⟨o1, H1, a1, a2, a3, a4⟩ := append_OS E4_len (by decide) (by' := 40) (hO.no (Kp.push1 H (Blk.row (E4 xs[i]) false))) (row4 H xs[i]) (by simp [most]; omega)
    have kk : Kp (fun i => L ≤ i) H H1 := (Kp.push _ H [Blk.row (E4 xs[i]) false]).trans (a3.mono (D := fun i => L ≤ i) fun j _ hf => by
      obtain ⟨s, e, f⟩ := hf
      rw [f]; exact hN s e) (fun _ h => h) fun _ _ h => h
    have hN1 : New L o1 := fun s e => by
      rcases a4 s e with ⟨s0, e0, e1⟩ | e1
      · rw [e1]; exact hN s0 e0
      · simp at e1; omega
    obtain ⟨o', H', r1, r2, r3⟩ := loop28 L (some sl) xs hl hx m n (i + 1) o1 H1 (by omega) (by rw [List.take_succ_eq_append_getElem hlt]; exact a2) hN1 (Nat.le_trans hL kk.len) (hR.kp kk fun s e h0 => Nat.not_le_of_lt (hl s e h0))
    refine ⟨o', H', ?_, r2, kk.trans r3 (fun _ h => h) fun _ _ h => h⟩
    rw [show n + (m + 1) + 1 = (n + m + 1) + 1 by omega, D28_3_s, g]
    simp only [ct, Ab.bs, g1, c0, c1, c2, c3, c4, tInt, tSlice, tBool]
    have a1 : (H ++ [Blk.row [Cell.int .u64 xs[i].lo, Cell.slice xs[i].sl, Cell.bool xs[i].wr, Cell.bool xs[i].pr] false]).append 4 40 o (some { id := List.length H, off := 0, len := 1, cap := 1, esz := 4 }) = some (o1, H1) := a1
    rw [a1, Ab.bs, i64_succ i (by omega)]
    exact r1
/-- A law's memory of areas that it has cut. -/
theorem f28_x (o : Option Sl) (ys : List Ar) (H : Heap) (h : Cutd H o ys) :
    ∃ b s ars H', f28 o H = some (some (b, 0), H') ∧ H.length ≤ b ∧ MR H' b b s ars nils noRows ∧ ars.length = ys.length ∧ Freshes ys ars ∧ Kp No H H' := by
  rw [q28]
  obtain ⟨n, e⟩ := LL28_3_of ys.length (by have := h.n; omega) none o (slen o) 0 H
  obtain ⟨o1, H1, r1, r2, r3⟩ := loop28 H.length o ys (fun sl e h0 => by subst e; exact RS.lt E5_len (by decide) h.r h0) h.n ys.length n 0 none H (by omega) (by rw [List.take_zero]; rfl) (fun _ e => nomatch e) (Nat.le_refl _) h.r
  have k1 : Kp No H H1 := (Kp.refl No H).tr' r3
  obtain ⟨s, ars, H', f1, f2, f3, f4, f5⟩ := f41_x o1 ys (by have := h.n; omega) H1 r2.rs (h.no k1).src
  refine ⟨H1.length, s, ars, H', ?_, k1.len, f2, f3, f4, k1.tr f5⟩
  rw [e, h.r.slenEq, show (0 : Int) = ((0 : Nat) : Int) from rfl, r1, Ab.bs, J28_3_0, f1, Ab.bs]
end
end Go.Proofs.YtnipccoenalnkaaGreat
