/- Layer 10: memory, of layer 9: the document's own memory: May, Bytes, what a store writes. -/
import Derived.Test.YtnipccoenalnkaaGreatSmT
import Derived.Test.YtnipccoenalnkaaGreatSmF
namespace Go.Proofs.YtnipccoenalnkaaGreat
open Go Go.Proofs.YtnipccoenalnkaaGreat.Ab
set_option linter.unusedVariables false
set_option linter.unusedSimpArgs false
set_option maxRecDepth 100000
noncomputable section
theorem wrap_nat (i : Nat) (h : i < 9223372036854775808) : IntKind.u64.wrap ((i : Nat) : Int) = (i : Int) := by rw [wrap_u64]; omega
theorem f108_x (w : Int) (H : Heap) : f108 w H = some (isW8 w, H) := by
  rw [q108]
  unfold isW8
  cases w == 1 <;> cases w == 2 <;> cases w == 4 <;> rfl
theorem loop61 (p : Nat × Nat) (ars : List Ar) (t x : Int) (wr : Bool) (N : Nat) (hN : N ≤ 8) (H : Heap) (h : Rd H p ars) : ∀ (m n i : Nat), i + m = N →
    (D61_4 (n + m + 1) (some p) t x (N : Int) wr (i : Int) H).bind J61_4 = some (allThere ars t x wr i m, H)
  | 0, n, i, hm => by
    have g : decide ((i : Int) < (N : Int)) = false := by simp; omega
    rw [D61_4_s, g, cf, Ab.bs, J61_4_1]; rfl
  | m + 1, n, i, hm => by
    have g : decide ((i : Int) < (N : Int)) = true := by simp; omega
    have ih := loop61 p ars t x wr N hN H h m n (i + 1) (by omega)
    rw [show n + (m + 1) + 1 = (n + m + 1) + 1 by omega, D61_4_s, g, ct, wrap_nat i (by omega), f109_x p ars _ H h, Ab.bs]
    obtain ⟨h0, s, h1, h2⟩ := h
    unfold allThere
    rcases findA_cases ars (IntKind.u64.wrap (x + (i : Int))) with e | ⟨k, a, e1, e2, e3⟩
    · have ht : thereA ars t (IntKind.u64.wrap (x + (i : Int))) wr = false := by
        unfold thereA
        rw [e]
        cases ars[(-1 : Int).toNat]? <;> rfl
      rw [e, ht]
      rfl
    · have e4 : ars[((k : Nat) : Int).toNat]? = some a := e1
      have ht : thereA ars t (IntKind.u64.wrap (x + (i : Int))) wr = ((!a.pr || a.ow == t) && (a.wr || !wr)) := by
        unfold thereA
        rw [e3, e4]
        simp
      obtain ⟨sl, rfl, g1, c0, c1, c2, c3, c4⟩ := gets5 h2 e1
      have c2' : H.get sl.id (sl.off + ((k : Nat) : Int).toNat * 5 + 2) = some (.bool a.wr) := c2
      have c3' : H.get sl.id (sl.off + ((k : Nat) : Int).toNat * 5 + 3) = some (.bool a.pr) := c3
      have c4' : H.get sl.id (sl.off + ((k : Nat) : Int).toNat * 5 + 4) = some (.int .i64 a.ow) := c4
      rw [e3, ht]
      simp only [show decide (((k : Nat) : Int) < 0) = false by simp, cf, Ab.bs, h1, tSlice, g1, ct, c2', c3', c4', tInt, tBool, i64_succ i (by omega)]
      unfold bne
      cases a.pr <;> cases (a.ow == t) <;> cases wr <;> cases a.wr <;> simp only [Bool.not_true, Bool.not_false, ct, cf, Ab.bs, J61_4_0, Bool.true_or, Bool.false_or, Bool.or_true, Bool.or_false, Bool.true_and, Bool.false_and, Bool.and_true, Bool.and_false] <;> exact ih
theorem f61_x (p : Nat × Nat) (ars : List Ar) (t x w : Int) (wr : Bool) (H : Heap) (h : Rd H p ars) (hx : u64p x) : f61 (some p) t x w wr H = some (mayA ars t x w wr, H) := by
  rw [q61]
  unfold mayA thrd
  by_cases h0 : t < 0
  · rw [decide_eq_true h0, decide_eq_false (show ¬ t ≥ 0 by omega)]; rfl
  by_cases h7 : t > 7
  · rw [decide_eq_false h0, decide_eq_true h7, decide_eq_false (show ¬ t < 8 by omega), Bool.and_false]; rfl
  rw [decide_eq_false h0, decide_eq_false h7, decide_eq_true (show t ≥ 0 by omega), decide_eq_true (show t < 8 by omega), f108_x, cf, cf, Ab.bs]
  cases hw : isW8 w
  · rfl
  have hw := isW8_w hw
  have hf : decide (IntKind.u64.wrap (x + IntKind.u64.wrap (IntKind.i64.wrap (w - 1))) < x) = farA x w := by
    unfold farA u64p at *
    simp only [wrap_u64]
    rcases hw with rfl | rfl | rfl | rfl <;> rw [wrap_i64 (by omega) (by omega)] <;> apply decide_eq_decide.2 <;> omega
  dsimp only
  rw [hf]
  simp only [Bool.not_true, cf, Bool.true_and]
  cases farA x w
  · obtain ⟨n, e⟩ := LL61_4_of w.toNat (by omega) (some p) t x w wr 0 H
    have hwn : w = ((w.toNat : Nat) : Int) := by omega
    have := loop61 p ars t x wr w.toNat (by omega) H h w.toNat n 0 (by omega)
    rw [← hwn] at this
    rw [cf, e]
    exact this
  · rfl
/-! ### the bytes of a number -/
def bytesFrom (v : Int) : Nat → Nat → List UInt8
  | _, 0 => []
  | i, n + 1 => u8v (byteOf v i) :: bytesFrom v (i + 1) n
theorem bytes_len (v : Int) : ∀ n i, (bytesFrom v i n).length = n
  | 0, _ => rfl
  | n + 1, i => by unfold bytesFrom; rw [List.length_cons, bytes_len v n]
theorem bytes_last (v : Int) : ∀ n i, bytesFrom v i (n + 1) = bytesFrom v i n ++ [u8v (byteOf v (i + n))]
  | 0, i => rfl
  | n + 1, i => by
    show u8v (byteOf v i) :: bytesFrom v (i + 1) (n + 1) = u8v (byteOf v i) :: bytesFrom v (i + 1) n ++ _
    rw [bytes_last v n (i + 1), List.cons_append, show i + 1 + n = i + (n + 1) by omega]
theorem byteOf_range (v : Int) (i : Nat) : 0 ≤ byteOf v i ∧ byteOf v i < 256 := u8_range _
theorem byteOf_div (v : Int) (i : Nat) (h : i < 8) : byteOf v i = v / 2 ^ (8 * i) % 256 := by
  unfold byteOf ishr
  rw [sh8 i h, Int.fdiv_eq_ediv_of_nonneg _ (Int.le_of_lt (Int.pow_pos (by decide))), wrap_u8]
theorem row8 (H : Heap) (c : UInt8) : RS 1 E8 (H ++ [Blk.row (E8 c) false]) (some { id := H.length, off := 0, len := 1, cap := 1, esz := 1 }) [c] :=
  ⟨rfl, rfl, Nat.le_refl _, fun j c e => by rw [Nat.zero_add, get_of (push_get _ _)]; simpa using e⟩
theorem New.le {H : Heap} {L : Nat} {s s' : Option Sl} (h : New L s) (hL : L ≤ H.length) (f : Fr2 H.length s s') : New L s' := fun sl e => by
  rcases f sl e with ⟨s0, e0, e1⟩ | e1
  · rw [e1]; exact h s0 e0
  · omega
theorem Of.new {L : Nat} {s : Option Sl} (h : New L s) (i : Nat) (hi : Of s i) : L ≤ i := by
  obtain ⟨sl, e, e'⟩ := hi; rw [e']; exact h sl e
/-- One byte more. -/
theorem push8 {H : Heap} {L : Nat} {s : Option Sl} {l : List UInt8} (h : OS 1 E8 H s l) (hN : New L s) (hL : L ≤ H.length) (hl : l.length ≤ 1000) (c : UInt8) : ∃ s' H', (H ++ [Blk.row [Cell.int .u8 (c.toNat : Int)] false]).append 1 1 s (some { id := List.length H, off := 0, len := 1, cap := 1, esz := 1 }) = some (s', H') ∧ OS 1 E8 H' s' (l ++ [c]) ∧ New L s' ∧ Kp (fun i => L ≤ i) H H' := by
  obtain ⟨s', H', a1, a2, a3, a4⟩ := append_OS E8_len (by decide) (by' := 1) (h.no (Kp.push1 H (Blk.row (E8 c) false))) (row8 H c) (by simp [most]; omega)
  exact ⟨s', H', a1, a2, New.le hN (by simp; omega) a4, (Kp.push _ H [Blk.row (E8 c) false]).trans (a3.mono (D := fun i => L ≤ i) fun i _ hf => Of.new hN i hf) (fun _ h => h) fun _ _ h => h⟩
theorem loop63 (v : Int) (hv : u64p v) (N L : Nat) (hN : N ≤ 8) : ∀ (m n i : Nat) (s : Option Sl) (H : Heap), i + m = N → OS 1 E8 H s (bytesFrom v 0 i) → New L s → L ≤ H.length →
    ∃ s' H', (D63_3 (n + m + 1) (N : Int) (v / 2 ^ (8 * i)) s (i : Int) H).bind J63_3 = some (s', H') ∧ OS 1 E8 H' s' (bytesFrom v 0 N) ∧ New L s' ∧ Kp (fun i => L ≤ i) H H'
  | 0, n, i, s, H, hm, hO, hs, hL => by
    have g : decide ((i : Int) < (N : Int)) = false := by simp; omega
    obtain rfl : i = N := by omega
    exact ⟨s, H, by rw [D63_3_s, g, cf, Ab.bs, J63_3_0], hO, hs, Kp.refl _ _⟩
  | m + 1, n, i, s, H, hm, hO, hs, hL => by
    have g : decide ((i : Int) < (N : Int)) = true := by simp; omega
    have hp : (0 : Int) < 2 ^ (8 * i) := Int.pow_pos (by decide)
    have hd : 0 ≤ v / 2 ^ (8 * i) ∧ v / 2 ^ (8 * i) < 18446744073709551616 := by
      refine ⟨Int.ediv_nonneg hv.1 (Int.le_of_lt hp), Int.lt_of_le_of_lt (Int.ediv_le_self _ hv.1) hv.2⟩
    have hb : IntKind.u8.wrap ((v / 2 ^ (8 * i)).tmod 256) = ((u8v (byteOf v i)).toNat : Int) := by
      rw [u8v_eq (byteOf_range v i).1 (byteOf_range v i).2, byteOf_div v i (by omega), Int.tmod_eq_emod_of_nonneg hd.1, wrap_u8]
      omega
    have hn : IntKind.u64.wrap ((v / 2 ^ (8 * i)).tdiv 256) = v / 2 ^ (8 * (i + 1)) := by
      rw [Int.tdiv_eq_ediv_of_nonneg hd.1, show 8 * (i + 1) = 8 * i + 8 by omega, Int.pow_add, ← Int.ediv_ediv_of_nonneg (Int.le_of_lt hp)]
      generalize v / 2 ^ (8 * i) = q at *
      rw [wrap_u64, show (2 : Int) ^ 8 = 256 from rfl]
      omega
    obtain ⟨s1, H1, a1, a2, a3, a4⟩ := push8 hO hs hL (by rw [bytes_len]; omega) (u8v (byteOf v i))
    have a2' : OS 1 E8 H1 s1 (bytesFrom v 0 (i + 1)) := by rw [bytes_last, Nat.zero_add]; exact a2
    obtain ⟨s', H', r1, r2, r3, r4⟩ := loop63 v hv N L hN m n (i + 1) s1 H1 (by omega) a2' a3 (Nat.le_trans hL a4.len)
    refine ⟨s', H', ?_, r2, r3, a4.trans r4 (fun _ h => h) fun _ _ h => h⟩
    rw [show n + (m + 1) + 1 = (n + m + 1) + 1 by omega, D63_3_s, g, ct, hb, a1, Ab.bs, hn, i64_succ i (by omega)]
    exact r1
theorem f63_x (v w : Int) (hv : u64p v) (hw : isW8 w = true) (H : Heap) : ∃ s' H', f63 w v H = some (s', H') ∧ OS 1 E8 H' s' (bytesFrom v 0 w.toNat) ∧ New H.length s' ∧ Kp No H H' := by
  rw [q63]
  have hw := isW8_w hw
  obtain ⟨n, e⟩ := LL63_3_of w.toNat (by omega) w v none 0 H
  have hwn : ((w.toNat : Nat) : Int) = w := by omega
  obtain ⟨s', H', r1, r2, r3, r4⟩ := loop63 v hv w.toNat H.length (by omega) w.toNat n 0 none H (by omega) rfl (fun _ e => nomatch e) (Nat.le_refl _)
  refine ⟨s', H', ?_, r2, r3, (Kp.refl No H).tr' r4⟩
  rw [hwn] at r1
  rw [e]
  have e0 : v / 2 ^ (8 * 0) = v := by simp
  rw [e0] at r1
  exact r1
/-! ### the document's memory -/
structure RSto where
  at' : Int
  sl : Option Sl
  bytes : List UInt8
def E2 (x : RSto) : List Cell := [.int .u64 x.at', .slice x.sl]
theorem E2_len (x : RSto) : (E2 x).length = 2 := rfl
theorem row2 (H : Heap) (a : RSto) : RS 2 E2 (H ++ [Blk.row (E2 a) false]) (some { id := H.length, off := 0, len := 1, cap := 1, esz := 2 }) [a] :=
  ⟨rfl, rfl, Nat.le_refl _, fun j c e => by rw [Nat.zero_add, get_of (push_get _ _)]; simpa using e⟩
def RSto.abs (x : RSto) : Int × List UInt8 := (x.at', x.bytes)
def Sto.abs (s : Sto) : Int × List UInt8 := (s.at', bytesFrom s.v 0 s.w.toNat)
structure Rm where
  b : Nat
  s : Option Sl
  ars : List Ar
  rs : List (Option Sl)
  rows : List (List RSto)
def Rm.Inm (R : Rm) (i : Nat) : Prop := InM R.b R.s R.ars R.rs i
def Rm.In (R : Rm) (i : Nat) : Prop := R.Inm i ∨ ∃ l, l ∈ R.rows ∧ ∃ x, x ∈ l ∧ idO x.sl = some i
def Rm.p (R : Rm) : Option (Nat × Nat) := some (R.b, 0)
structure Rm.Is (R : Rm) (H : Heap) (L : Nat) (c : Co) : Prop where
  m : MRg 2 E2 H R.b L R.s R.ars R.rs R.rows
  y : ∀ l, l ∈ R.rows → ∀ x, x ∈ l → OS 1 E8 H x.sl x.bytes ∧ ∀ i, idO x.sl = some i → L ≤ i ∧ ¬ R.Inm i
  a : nfs R.ars = c.ars
  r : R.rows.map (·.map RSto.abs) = c.rows.map (·.map Sto.abs)
structure Rm.To (R S : Rm) (H H' : Heap) : Prop where
  b : S.b = R.b
  k : Kp R.Inm H H'
  idm : ∀ i, S.Inm i → R.Inm i ∨ H.length ≤ i
  idy : ∀ i, S.In i → R.In i ∨ H.length ≤ i
theorem Rm.To.no {M : Rm} {H H' : Heap} (k : Kp No H H') : M.To M H H' := ⟨rfl, k.mono fun i _ hf => absurd hf (fun h => h), fun i h => .inl h, fun i h => .inl h⟩
theorem Rm.To.trans {M N O : Rm} {A B C : Heap} (p : M.To N A B) (q : N.To O B C) : M.To O A C := by
  refine ⟨q.b.trans p.b, p.k.trans q.k (fun _ h => h) fun i hi hf => ?_, fun i h => ?_, fun i h => ?_⟩
  · rcases p.idm i hf with e | e
    · exact e
    · omega
  · rcases q.idm i h with e | e
    · exact p.idm i e
    · exact .inr (Nat.le_trans p.k.len e)
  · rcases q.idy i h with e | e
    · exact p.idy i e
    · exact .inr (Nat.le_trans p.k.len e)
theorem OS.idlt {α : Type} {n : Nat} {E : α → List Cell} {H : Heap} {s : Option Sl} {l : List α} (h : OS n E H s l) {i : Nat} (hi : idO s = some i) : i < H.length := by
  cases s with
  | none => cases hi
  | some sl => cases hi; exact OS.lt h
theorem Rm.Is.lt {R : Rm} {H : Heap} {L : Nat} {c : Co} (h : R.Is H L c) {i : Nat} (hi : R.In i) : i < H.length := by
  rcases hi with ⟨x, e⟩ | ⟨l, h1, x, h2, e⟩
  · exact h.m.lt x i e
  · exact OS.idlt (h.y l h1 x h2).1 e
theorem Rm.Is.ge {R : Rm} {H : Heap} {L : Nat} {c : Co} (h : R.Is H L c) {i : Nat} (hi : R.In i) : L ≤ i := by
  rcases hi with ⟨x, e⟩ | ⟨l, h1, x, h2, e⟩
  · exact h.m.ge x i e
  · exact ((h.y l h1 x h2).2 i e).1
theorem Rm.Is.other {R : Rm} {F : Nat → Prop} {H H' : Heap} {L : Nat} {c : Co} (h : R.Is H L c) (k : Kp F H H') (hd : ∀ i, R.In i → ¬ F i) : R.Is H' L c :=
  ⟨h.m.other k fun i hi => hd i (.inl hi), fun l hl x hx => ⟨OS.other (h.y l hl x hx).1 k fun i hi => hd i (.inr ⟨l, hl, x, hx, hi⟩), (h.y l hl x hx).2⟩, h.a, h.r⟩
theorem Rm.Is.no {R : Rm} {H H' : Heap} {L : Nat} {c : Co} (h : R.Is H L c) (k : Kp No H H') : R.Is H' L c := h.other k fun _ _ h => h
theorem Rm.Is.tru {R : Rm} {H : Heap} {L : Nat} {c : Co} (h : R.Is H L c) : Tru R.ars := h.m.tru
theorem Rm.Is.len {R : Rm} {H : Heap} {L : Nat} {c : Co} (h : R.Is H L c) : R.ars.length = c.ars.length := by rw [← h.a]; simp [nfs]
theorem Rm.Is.may {R : Rm} {H : Heap} {L : Nat} {c : Co} (h : R.Is H L c) (t x w : Int) (wr : Bool) : mayA R.ars t x w wr = mayA c.ars t x w wr := by rw [← h.a, may_nf h.tru]
theorem Rm.Is.dl {R : Rm} {H : Heap} {L N : Nat} {c : Co} (h : R.Is H L c) (f : c.Fit N) : ∀ a, a ∈ R.ars → a.data.length ≤ 1048576 := fun a ha => f.d (nfA a) (by rw [← h.a]; exact List.mem_map.2 ⟨a, ha, rfl⟩)
theorem Rm.Is.nl {R : Rm} {H : Heap} {L N : Nat} {c : Co} (h : R.Is H L c) (f : c.Fit N) : R.ars.length ≤ 1000 := by rw [h.len]; exact f.n
theorem Rm.Is.row {R : Rm} {H : Heap} {L : Nat} {c : Co} (h : R.Is H L c) {t : Nat} {l : List Sto} (hl : c.rows[t]? = some l) : ∃ q, R.rows[t]? = some q ∧ q.map RSto.abs = l.map Sto.abs := by
  have := congrArg (·[t]?) h.r
  simp only [List.getElem?_map, hl, Option.map_some] at this
  cases hq : R.rows[t]? with
  | none => rw [hq] at this; cases this
  | some q => rw [hq] at this; exact ⟨q, rfl, Option.some.inj this⟩
/-! ### write -/
theorem Rm.Is.step {R : Rm} {H H' : Heap} {L : Nat} {c c' : Co} (h : R.Is H L c) {ars' : List Ar} {rs' : List (Option Sl)} {rows' : List (List RSto)} (m : MRg 2 E2 H' R.b L R.s ars' rs' rows') (st : Stp R.b R.s R.ars R.rs ars' rs' H H')
    (hy : ∀ l, l ∈ rows' → ∀ x, x ∈ l → (∃ l0, l0 ∈ R.rows ∧ x ∈ l0) ∨ (OS 1 E8 H' x.sl x.bytes ∧ ∀ i, idO x.sl = some i → H.length ≤ i ∧ ¬ InM R.b R.s ars' rs' i)) (ha : nfs ars' = c'.ars) (hr : rows'.map (·.map RSto.abs) = c'.rows.map (·.map Sto.abs)) :
    Rm.Is ⟨R.b, R.s, ars', rs', rows'⟩ H' L c' ∧ R.To ⟨R.b, R.s, ars', rs', rows'⟩ H H' := by
  refine ⟨⟨m, fun l hl x hx => ?_, ha, hr⟩, ⟨rfl, st.k, st.ids, fun i hi => ?_⟩⟩
  · rcases hy l hl x hx with ⟨l0, h1, h2⟩ | ⟨h1, h2⟩
    · obtain ⟨y1, y2⟩ := h.y l0 h1 x h2
      refine ⟨OS.other y1 st.k fun i hi => (y2 i hi).2, fun i hi => ⟨(y2 i hi).1, fun hf => ?_⟩⟩
      rcases st.ids i hf with e | e
      · exact (y2 i hi).2 e
      · have := OS.idlt y1 hi; omega
    · refine ⟨h1, fun i hi => ⟨?_, (h2 i hi).2⟩⟩
      have := (h2 i hi).1
      have := h.ge (.inl ⟨.hd, rfl⟩ : R.In R.b)
      have := h.lt (.inl ⟨.hd, rfl⟩ : R.In R.b)
      omega
  · rcases hi with hi | ⟨l, hl, x, hx, hi⟩
    · rcases st.ids i hi with e | e
      · exact .inl (.inl e)
      · exact .inr e
    · rcases hy l hl x hx with ⟨l0, h1, h2⟩ | ⟨h1, h2⟩
      · exact .inl (.inr ⟨l0, h1, x, h2, hi⟩)
      · exact .inr (h2 i hi).1
theorem in_set {α : Type} {l : List α} {t : Nat} {y q : α} (h : q ∈ l.set t y) : q = y ∨ q ∈ l := by
  obtain ⟨k, hk⟩ := List.mem_iff_getElem?.1 h
  rcases set_at hk with ⟨_, e, _⟩ | ⟨_, hk⟩
  · exact .inl e
  · exact .inr (List.mem_of_getElem? hk)
theorem map_set' {α β : Type} (f : α → β) (l : List α) (t : Nat) (y : α) : (l.set t y).map f = (l.map f).set t (f y) := List.map_set ..
theorem thrd_lt {t : Int} (h : thrd t = false) : t < 0 ∨ t > 7 := by
  unfold thrd at h
  by_cases h0 : t < 0
  · exact .inl h0
  · rw [decide_eq_true (show t ≥ 0 by omega), Bool.true_and] at h
    have := of_decide_eq_false h
    omega
theorem thrd_nat {t : Nat} (h : t < 8) : decide (((t : Nat) : Int) < 0) = false ∧ decide (((t : Nat) : Int) > 7) = false := ⟨by simp, by simp; omega⟩
theorem rowR {R : Rm} {H : Heap} {L : Nat} {c : Co} (h : R.Is H L c) {t : Nat} (h8 : t < 8) : ∃ rt, R.rs[t]? = some rt := ⟨_, List.getElem?_eq_getElem (by rw [h.m.rl]; exact h8)⟩
theorem bytes_zx (v w : Int) (hw : isW8 w = true) : ∀ n i, i + n ≤ w.toNat → bytesFrom (zxv v w) i n = bytesFrom v i n
  | 0, _, _ => rfl
  | n + 1, i, h => by
    unfold bytesFrom
    rw [byte_zx v w hw i (by omega), bytes_zx v w hw n (i + 1) (by omega)]
theorem rstore_x {R : Rm} {H : Heap} {L N : Nat} {c : Co} (h : R.Is H L c) (f : c.Fit N) (hN : N < 65536) (t x w v : Int) (hx : u64p x) (hv : u64p v) :
    ∃ R' H', f33 R.p t x w v H = some ((storeC c t x w v).1, H') ∧ R'.Is H' L (storeC c t x w v).2 ∧ R.To R' H H' := by
  have e1 : f61 R.p t x w true H = some (mayA c.ars t x w true, H) := by rw [← h.may]; exact f61_x (R.b, 0) R.ars t x w true H (h.m.rd (by have := h.nl f; omega)) hx
  rw [q33, e1, Ab.bs]
  unfold storeC
  cases hm : mayA c.ars t x w true
  · exact ⟨R, H, rfl, h, Rm.To.no (Kp.refl _ _)⟩
  · obtain ⟨gd, ht⟩ := may_good (v := v) hm
    obtain ⟨i8, t, rfl, h8⟩ := inb8 ht
    obtain ⟨l, hl, h1, h2⟩ := f.row h8
    have hl' : c.rows[((t : Nat) : Int).toNat]? = some l := hl
    obtain ⟨q, hq, hqa⟩ := h.row hl
    have hql : q.length = l.length := by simpa using congrArg List.length hqa
    obtain ⟨rt, hr⟩ := rowR h h8
    have hro := h.m.ro t _ _ hr hq
    have hs := hro.rs.slenEq
    have hrow : H.get R.b (0 + 1 + ((t : Nat) : Int).toNat * 1) = some (.slice rt) := head_row h.m hr
    obtain ⟨B, H1, b1, b2, b3, b4⟩ := f63_x v w hv gd.w H
    have m1 := h.m.no b4
    have k2 := Kp.push1 H1 (Blk.row (E2 ⟨x, B, bytesFrom v 0 w.toNat⟩) false)
    have hro1 := m1.ro t _ _ hr hq
    obtain ⟨r, H2, a1, a2, a3, a4⟩ := append_OS E2_len (by decide) (by' := 32) (hro1.no k2) (row2 H1 ⟨x, B, bytesFrom v 0 w.toNat⟩) (by simp [most]; omega)
    have k12 : Kp (Of rt) H1 H2 := (k2.mono (D := Of rt) fun i _ hf => absurd hf (fun h => h)).trans a3 (fun _ h => h) fun _ _ h => h
    have rid : ∀ i, idO r = some i → idO rt = some i ∨ H1.length + 1 ≤ i := fun i hi => by
      cases r with
      | none => cases hi
      | some sr =>
        cases hi
        rcases a4 sr rfl with ⟨s0, f0, f1⟩ | f
        · exact .inl (by rw [f0]; show some s0.id = some sr.id; rw [f1])
        · exact .inr (by simpa using f)
    obtain ⟨H3, p1, p2, p3⟩ := m1.setRow hr k12 a2 (fun i hi => by
      rcases rid i hi with e | e
      · exact .inl e
      · exact .inr (by omega))
    have bid : ∀ i, idO B = some i → H.length ≤ i ∧ i < H1.length := fun i hi => ⟨by
      cases B with
      | none => cases hi
      | some sb => cases hi; exact b3 sb rfl, OS.idlt b2 hi⟩
    have hlt : t < R.rs.length := by rw [h.m.rl]; exact h8
    have nin : ∀ i, idO B = some i → ¬ InM R.b R.s R.ars (R.rs.set t r) i := fun i hi hf => by
      obtain ⟨y, hy⟩ := hf
      by_cases e : y = .row t
      · rw [(slot_row y hlt).1 e] at hy
        rcases rid i hy with e' | e'
        · have := h.m.lt (.row t) i (by simp only [idAt, hr, Option.bind_some]; exact e')
          have := (bid i hi).1; omega
        · have := (bid i hi).2; omega
      · rw [(slot_row y hlt).2 e] at hy
        have := h.m.lt y i hy
        have := (bid i hi).1; omega
    have hB3 : OS 1 E8 H3 B (bytesFrom v 0 w.toNat) := OS.other b2 p3.k fun i hi hf => by
      have := h.lt (.inl hf : R.In i)
      have := (bid i hi).1; omega
    obtain ⟨u1, u2⟩ := h.step (c' := ⟨c.ars, c.rows.set t (l ++ [⟨x, w, zxv v w⟩])⟩) p2 ((Stp.no b4).trans p3) (fun l0 hl0 z hz => by
      rcases in_set hl0 with rfl | hl0
      · rcases List.mem_append.1 hz with hz | hz
        · exact .inl ⟨q, List.mem_of_getElem? hq, hz⟩
        · simp at hz; subst hz
          exact .inr ⟨hB3, fun i hi => ⟨(bid i hi).1, nin i hi⟩⟩
      · exact .inl ⟨l0, hl0, hz⟩) h.a (by
      show (R.rows.set t _).map _ = (c.rows.set t _).map _
      rw [map_set', map_set', h.r]
      simp only [List.map_append, hqa]
      congr 2
      show [(x, bytesFrom v 0 w.toNat)] = [(x, bytesFrom (zxv v w) 0 w.toNat)]
      rw [bytes_zx v w gd.w _ _ (by omega)])
    rw [ct, hl']
    refine ⟨_, H3, ?_, u1, u2⟩
    have hs0 : decide (slen rt ≥ 65536) = false := by rw [hs]; simp; omega
    have sm : same R.b H H1 = true := b4.same1 (h.lt (.inl ⟨.hd, rfl⟩ : R.In R.b))
    unfold Rm.p
    simp only [Bool.not_true, cf, Ab.bs, i8, ct, hrow, tSlice, hs0, b1, sm]
    have a1 : (H1 ++ [Blk.row [Cell.int .u64 x, Cell.slice B] false]).append 2 32 rt (some { id := List.length H1, off := 0, len := 1, cap := 1, esz := 2 }) = some (r, H2) := a1
    simp only [a1, Ab.bs, p1]
/-! ### Own -/
def ownC (c : Co) (t k : Int) : Bool × Co :=
  bif ownA c.ars t k then match c.ars[k.toNat]? with
    | some a => (true, ⟨c.ars.set k.toNat { a with ow := t }, c.rows⟩)
    | none => (true, c)
  else (false, c)
theorem own_nf (l : List Ar) (t k : Int) : ownA (nfs l) t k = ownA l t k := by
  unfold ownA
  rw [nfs_at]
  cases l[k.toNat]? <;> rfl
theorem found_own {l : List Ar} {k : Nat} {a : Ar} (hk : l[k]? = some a) (t : Int) {x : Int} {i n : Nat} (h : Found l x i n) : Found (l.set k { a with ow := t }) x i n := by
  have hh : ∀ (j : Nat) (b d : Ar), l[j]? = some b → (l.set k { a with ow := t })[j]? = some d → ∀ x, b.has x = d.has x := fun j b d h1 h2 x => by
    rcases set_at h2 with ⟨rfl, rfl, _⟩ | ⟨_, h2⟩
    · rw [hk] at h1; cases h1; rfl
    · rw [h1] at h2; cases h2; rfl
  intro j h1 h2
  obtain ⟨m, b, e1, e2, e3⟩ := h j h1 h2
  have hlt : m < (l.set k { a with ow := t }).length := by simpa using (List.getElem?_eq_some_iff.1 e1).1
  refine ⟨m, _, List.getElem?_eq_getElem hlt, ?_, ?_⟩
  · rw [← hh m b _ e1 (List.getElem?_eq_getElem hlt)]; exact e2
  · rw [← e3]
    exact (find_same _ l _ 0 (by simp) fun j b d h1 h2 => hh j b d h1 h2 _).symm
theorem own_fit {c : Co} {N : Nat} (f : c.Fit N) (t k : Int) : (ownC c t k).2.Fit N := by
  unfold ownC
  cases ownA c.ars t k
  · exact f
  · rw [ct]
    cases hk : c.ars[k.toNat]? with
    | none => exact f
    | some a => exact ⟨by simpa using f.n, fun d hd => by
        rcases in_set hd with rfl | hd
        · exact f.d a (List.mem_of_getElem? hk)
        · exact f.d d hd, f.w, fun l hl => ⟨(f.g l hl).1, fun st hst => ⟨((f.g l hl).2 st hst).w, found_own hk t ((f.g l hl).2 st hst).f⟩⟩⟩
theorem nfs_own {l : List Ar} {k : Nat} (a : Ar) (t : Int) : nfs (l.set k { a with ow := t }) = (nfs l).set k { nfA a with ow := t } := by
  unfold nfs; rw [List.map_set]; rfl
theorem own_x {M : Mm} {H : Heap} {L N : Nat} {c : Co} (h : M.Is H L c) (f : c.Fit N) (t k : Int) :
    ∃ M' H', f30 M.p t k H = some ((ownC c t k).1, H') ∧ M'.Is H' L (ownC c t k).2 ∧ M.To M' H H' := by
  obtain ⟨o1, o2⟩ := own_get h.m t k (h.nl f)
  have ho : ownA c.ars t k = ownA M.ars t k := by rw [← h.a, own_nf]
  unfold ownC
  rw [ho]
  cases hO : ownA M.ars t k
  · exact ⟨M, H, o1 hO, h, Mm.To.no (Kp.refl _ _)⟩
  · obtain ⟨a, H', e1, e2, e3, e4, e5, e6⟩ := o2 hO
    have ec : c.ars[k.toNat]? = some (nfA a) := by rw [← h.a, nfs_at, e1]; rfl
    rw [ct, ec]
    refine ⟨⟨M.b, M.s, M.ars.set k.toNat { a with ow := t }, M.rs, M.rows⟩, H', e3, ⟨e4, by rw [nfs_own, h.a], h.r⟩, ⟨rfl, e5.mono fun i _ ⟨sl, q1, q2⟩ => ⟨.ar, by rw [q2]; exact idO_of q1⟩, fun i ⟨y, hy⟩ => .inl ⟨y, by rw [← e6]; exact hy⟩⟩⟩
theorem rown_x {R : Rm} {H : Heap} {L N : Nat} {c : Co} (h : R.Is H L c) (f : c.Fit N) (t k : Int) :
    ∃ R' H', f31 R.p t k H = some ((ownC c t k).1, H') ∧ R'.Is H' L (ownC c t k).2 ∧ R.To R' H H' := by
  have ho : ownA c.ars t k = ownA R.ars t k := by rw [← h.a, own_nf]
  have hg : H.get R.b (0 + 0) = some (.slice R.s) := by rw [get_of h.m.hd]; rfl
  have hs := h.m.ar.rs.slenEq
  have stay : ∀ q : Option (Bool × Heap), q = some (false, H) → ∃ R' H', q = some ((false, c).1, H') ∧ R'.Is H' L (false, c).2 ∧ R.To R' H H' := fun q e => ⟨R, H, e, h, Rm.To.no (Kp.refl _ _)⟩
  rw [q31]
  unfold ownC
  rw [ho]
  unfold ownA
  cases ht : thrd t
  · refine stay _ ?_
    rcases thrd_lt ht with e | e
    · rw [decide_eq_true e]; rfl
    · rw [decide_eq_false (show ¬ t < 0 by omega), decide_eq_true e]; rfl
  obtain ⟨i8, t, rfl, h8⟩ := inb8 ht
  rw [(thrd_nat h8).1, (thrd_nat h8).2]
  simp only [cf, Bool.true_and]
  by_cases h0 : k < 0
  · rw [decide_eq_true h0]
    exact stay _ rfl
  rw [decide_eq_false h0]
  unfold Rm.p
  simp only [cf, Bool.not_false, Bool.true_and, Ab.bs, hg, tSlice]
  obtain ⟨k, rfl⟩ := Int.eq_ofNat_of_zero_le (Int.not_lt.1 h0)
  by_cases h1 : ((k : Nat) : Int) ≥ slen R.s
  · rw [decide_eq_true h1]
    have hkk : R.ars[((k : Nat) : Int).toNat]? = none := List.getElem?_eq_none (by rw [hs] at h1; show R.ars.length ≤ k; omega)
    rw [hkk]
    exact stay _ rfl
  rw [decide_eq_false h1]
  have hlt : k < R.ars.length := by rw [hs] at h1; omega
  have hk := List.getElem?_eq_getElem hlt
  have hkk : R.ars[((k : Nat) : Int).toNat]? = some R.ars[k] := hk
  rw [hkk]
  obtain ⟨sl, hsl, g1, c0, c1, c2, c3, c4⟩ := gets5 h.m.ar.rs hk
  have c3' : H.get sl.id (sl.off + ((k : Nat) : Int).toNat * 5 + 3) = some (.bool R.ars[k].pr) := c3
  have c4' : H.get sl.id (sl.off + ((k : Nat) : Int).toNat * 5 + 4) = some (.int .i64 R.ars[k].ow) := c4
  simp only [cf, hsl, Ab.bs, g1, ct, c3', tBool]
  cases hpr : R.ars[k].pr
  · exact stay _ rfl
  simp only [Bool.not_true, cf, c4', Ab.bs, tInt, Bool.true_and]
  by_cases ho : R.ars[k].ow = -1
  · obtain ⟨sl', H', e, f1, f2, f3, f4⟩ := h.m.own hk ((t : Nat) : Int)
    rw [hsl] at e
    cases e
    have ec : c.ars[((k : Nat) : Int).toNat]? = some (nfA R.ars[k]) := by rw [← h.a, nfs_at, hkk]; rfl
    obtain ⟨u1, u2⟩ := h.step (c' := ⟨c.ars.set k { nfA R.ars[k] with ow := ((t : Nat) : Int) }, c.rows⟩) f2 ⟨f3.mono fun i _ ⟨sl, q1, q2⟩ => ⟨.ar, by rw [q2]; exact idO_of q1⟩, fun i ⟨y, hy⟩ => .inl ⟨y, by rw [← f4]; exact hy⟩⟩ (fun l0 hl0 z hz => .inl ⟨l0, hl0, hz⟩) (by rw [nfs_own, h.a]) h.r
    refine ⟨_, H', ?_, ?_, u2⟩
    · rw [ho, show ((-1 : Int) != -1) = false from rfl, cf, f1, Ab.bs]
      simp only [show ((-1 : Int) == -1) = true from rfl, ct]
      rw [ec]
    · simp only [ho, show ((-1 : Int) == -1) = true from rfl, ct]
      rw [ec]; exact u1
  · have e : (R.ars[k].ow == -1) = false := by simpa using ho
    unfold bne
    rw [e, Bool.not_false, ct]
    exact stay _ rfl
end
end Go.Proofs.YtnipccoenalnkaaGreat
