/- Layer 9: the document's own memory: May, Bytes, what a store writes. -/
import Derived.Test.YtdpmbfceadidkaaMeT
import Derived.Test.YtdpmbfceadidkaaMeF
namespace Go.Proofs.Ytdpmbfceadidkaa
open Go Go.Proofs.Ytdpmbfceadidkaa.Ab
set_option linter.unusedVariables false
set_option linter.unusedSimpArgs false
set_option maxRecDepth 100000
noncomputable section
theorem wrap_nat (i : Nat) (h : i < 9223372036854775808) : IntKind.u64.wrap ((i : Nat) : Int) = (i : Int) := by rw [wrap_u64]; omega
theorem f56_x (w : Int) (H : Heap) : f56 w H = some (isW8 w, H) := by
  rw [q56]
  unfold isW8
  cases w == 1 <;> cases w == 2 <;> cases w == 4 <;> rfl
theorem loop43 (p : Nat × Nat) (ars : List Ar) (t x : Int) (wr : Bool) (N : Nat) (hN : N ≤ 8) (H : Heap) (h : Rd H p ars) : ∀ (m n i : Nat), i + m = N →
    (D43_4 (n + m + 1) (some p) t x (N : Int) wr (i : Int) H).bind J43_4 = some (allThere ars t x wr i m, H)
  | 0, n, i, hm => by
    have g : decide ((i : Int) < (N : Int)) = false := by simp; omega
    rw [D43_4_s, g, cf, Ab.bs, J43_4_1]; rfl
  | m + 1, n, i, hm => by
    have g : decide ((i : Int) < (N : Int)) = true := by simp; omega
    have ih := loop43 p ars t x wr N hN H h m n (i + 1) (by omega)
    rw [show n + (m + 1) + 1 = (n + m + 1) + 1 by omega, D43_4_s, g, ct, wrap_nat i (by omega), f14_x p ars _ H h, Ab.bs]
    obtain ⟨h0, s, h1, h2⟩ := h
    unfold allThere
    rcases findA_cases ars (IntKind.u64.wrap (x + (i : Int))) with e | ⟨k, a, e1, e2, e3⟩
    · have ht : thereA ars t (IntKind.u64.wrap (x + (i : Int))) wr = false := by
        unfold thereA
        rw [e]
        cases ars[(-1 : Int).toNat]? <;> rfl
      rw [e, ht]
      rfl
    · have e4 : ars[((k : Nat) : Int).toNat]? = some a := e1
      have ht : thereA ars t (IntKind.u64.wrap (x + (i : Int))) wr = ((!a.pr || a.ow == t) && (a.wr || !wr)) := by
        unfold thereA
        rw [e3, e4]
        simp
      obtain ⟨sl, rfl, g1, c0, c1, c2, c3, c4⟩ := gets5 h2 e1
      have c2' : H.get sl.id (sl.off + ((k : Nat) : Int).toNat * 5 + 2) = some (.bool a.wr) := c2
      have c3' : H.get sl.id (sl.off + ((k : Nat) : Int).toNat * 5 + 3) = some (.bool a.pr) := c3
      have c4' : H.get sl.id (sl.off + ((k : Nat) : Int).toNat * 5 + 4) = some (.int .i64 a.ow) := c4
      rw [e3, ht]
      simp only [show decide (((k : Nat) : Int) < 0) = false by simp, cf, Ab.bs, h1, tSlice, g1, ct, c2', c3', c4', tInt, tBool, i64_succ i (by omega)]
      unfold bne
      cases a.pr <;> cases (a.ow == t) <;> cases wr <;> cases a.wr <;> simp only [Bool.not_true, Bool.not_false, ct, cf, Ab.bs, J43_4_0, Bool.true_or, Bool.false_or, Bool.or_true, Bool.or_false, Bool.true_and, Bool.false_and, Bool.and_true, Bool.and_false] <;> exact ih
theorem f43_x (p : Nat × Nat) (ars : List Ar) (t x w : Int) (wr : Bool) (H : Heap) (h : Rd H p ars) (hx : u64p x) : f43 (some p) t x w wr H = some (mayA ars t x w wr, H) := by
  rw [q43]
  unfold mayA thrd
  by_cases h0 : t < 0
  · rw [decide_eq_true h0, decide_eq_false (show ¬ t ≥ 0 by omega)]; rfl
  by_cases h7 : t > 7
  · rw [decide_eq_false h0, decide_eq_true h7, decide_eq_false (show ¬ t < 8 by omega), Bool.and_false]; rfl
  rw [decide_eq_false h0, decide_eq_false h7, decide_eq_true (show t ≥ 0 by omega), decide_eq_true (show t < 8 by omega), f56_x, cf, cf, Ab.bs]
  cases hw : isW8 w
  · rfl
  have hw := isW8_w hw
  have hf : decide (IntKind.u64.wrap (x + IntKind.u64.wrap (IntKind.i64.wrap (w - 1))) < x) = farA x w := by
    unfold farA u64p at *
    simp only [wrap_u64]
    rcases hw with rfl | rfl | rfl | rfl <;> rw [wrap_i64 (by omega) (by omega)] <;> apply decide_eq_decide.2 <;> omega
  dsimp only
  rw [hf]
  simp only [Bool.not_true, cf, Bool.true_and]
  cases farA x w
  · obtain ⟨n, e⟩ := LL43_4_of w.toNat (by omega) (some p) t x w wr 0 H
    have hwn : w = ((w.toNat : Nat) : Int) := by omega
    have := loop43 p ars t x wr w.toNat (by omega) H h w.toNat n 0 (by omega)
    rw [← hwn] at this
    rw [cf, e]
    exact this
  · rfl
/-! ### the bytes of a number -/
def bytesFrom (v : Int) : Nat → Nat → List UInt8
  | _, 0 => []
  | i, n + 1 => u8v (byteOf v i) :: bytesFrom v (i + 1) n
theorem bytes_len (v : Int) : ∀ n i, (bytesFrom v i n).length = n
  | 0, _ => rfl
  | n + 1, i => by unfold bytesFrom; rw [List.length_cons, bytes_len v n]
theorem bytes_last (v : Int) : ∀ n i, bytesFrom v i (n + 1) = bytesFrom v i n ++ [u8v (byteOf v (i + n))]
  | 0, i => rfl
  | n + 1, i => by
    show u8v (byteOf v i) :: bytesFrom v (i + 1) (n + 1) = u8v (byteOf v i) :: bytesFrom v (i + 1) n ++ _
    rw [bytes_last v n (i + 1), List.cons_append, show i + 1 + n = i + (n + 1) by omega]
theorem bytes_at (v : Int) : ∀ n i j, j < n → (bytesFrom v i n)[j]? = some (u8v (byteOf v (i + j)))
  | 0, i, j, h => by omega
  | n + 1, i, 0, h => rfl
  | n + 1, i, j + 1, h => by
    show (bytesFrom v (i + 1) n)[j]? = _
    rw [bytes_at v n (i + 1) j (by omega), show i + 1 + j = i + (j + 1) by omega]
theorem byteOf_range (v : Int) (i : Nat) : 0 ≤ byteOf v i ∧ byteOf v i < 256 := u8_range _
theorem byteOf_div (v : Int) (i : Nat) (h : i < 8) : byteOf v i = v / 2 ^ (8 * i) % 256 := by
  unfold byteOf ishr
  rw [sh8 i h, Int.fdiv_eq_ediv_of_nonneg _ (Int.le_of_lt (Int.pow_pos (by decide))), wrap_u8]
theorem row8 (H : Heap) (c : UInt8) : RS 1 E8 (H ++ [Blk.row (E8 c) false]) (some { id := H.length, off := 0, len := 1, cap := 1, esz := 1 }) [c] :=
  ⟨rfl, rfl, Nat.le_refl _, fun j c e => by rw [Nat.zero_add, get_of (push_get _ _)]; simpa using e⟩
theorem New.le {H : Heap} {L : Nat} {s s' : Option Sl} (h : New L s) (hL : L ≤ H.length) (f : Fr2 H.length s s') : New L s' := fun sl e => by
  rcases f sl e with ⟨s0, e0, e1⟩ | e1
  · rw [e1]; exact h s0 e0
  · omega
theorem Of.new {L : Nat} {s : Option Sl} (h : New L s) (i : Nat) (hi : Of s i) : L ≤ i := by
  obtain ⟨sl, e, e'⟩ := hi; rw [e']; exact h sl e
/-- One byte more. -/
theorem push8 {H : Heap} {L : Nat} {s : Option Sl} {l : List UInt8} (h : OS 1 E8 H s l) (hN : New L s) (hL : L ≤ H.length) (hl : l.length ≤ 1000) (c : UInt8) : ∃ s' H', (H ++ [Blk.row [Cell.int .u8 (c.toNat : Int)] false]).append 1 1 s (some { id := List.length H, off := 0, len := 1, cap := 1, esz := 1 }) = some (s', H') ∧ OS 1 E8 H' s' (l ++ [c]) ∧ New L s' ∧ Kp (fun i => L ≤ i) H H' := by
  obtain ⟨s', H', a1, a2, a3, a4⟩ := append_OS E8_len (by decide) (by' := 1) (h.no (Kp.push1 H (Blk.row (E8 c) false))) (row8 H c) (by simp [most]; omega)
  exact ⟨s', H', a1, a2, New.le hN (by simp; omega) a4, (Kp.push _ H [Blk.row (E8 c) false]).trans (a3.mono (D := fun i => L ≤ i) fun i _ hf => Of.new hN i hf) (fun _ h => h) fun _ _ h => h⟩
theorem loop54 (v : Int) (hv : u64p v) (N L : Nat) (hN : N ≤ 8) : ∀ (m n i : Nat) (s : Option Sl) (H : Heap), i + m = N → OS 1 E8 H s (bytesFrom v 0 i) → New L s → L ≤ H.length →
    ∃ s' H', (D54_3 (n + m + 1) (N : Int) (v / 2 ^ (8 * i)) s (i : Int) H).bind J54_3 = some (s', H') ∧ OS 1 E8 H' s' (bytesFrom v 0 N) ∧ New L s' ∧ Kp (fun i => L ≤ i) H H'
  | 0, n, i, s, H, hm, hO, hs, hL => by
    have g : decide ((i : Int) < (N : Int)) = false := by simp; omega
    obtain rfl : i = N := by omega
    exact ⟨s, H, by rw [D54_3_s, g, cf, Ab.bs, J54_3_0], hO, hs, Kp.refl _ _⟩
  | m + 1, n, i, s, H, hm, hO, hs, hL => by
    have g : decide ((i : Int) < (N : Int)) = true := by simp; omega
    have hp : (0 : Int) < 2 ^ (8 * i) := Int.pow_pos (by decide)
    have hd : 0 ≤ v / 2 ^ (8 * i) ∧ v / 2 ^ (8 * i) < 18446744073709551616 := by
      refine ⟨Int.ediv_nonneg hv.1 (Int.le_of_lt hp), Int.lt_of_le_of_lt (Int.ediv_le_self _ hv.1) hv.2⟩
    have hb : IntKind.u8.wrap ((v / 2 ^ (8 * i)).tmod 256) = ((u8v (byteOf v i)).toNat : Int) := by
      rw [u8v_eq (byteOf_range v i).1 (byteOf_range v i).2, byteOf_div v i (by omega), Int.tmod_eq_emod_of_nonneg hd.1, wrap_u8]
      omega
    have hn : IntKind.u64.wrap ((v / 2 ^ (8 * i)).tdiv 256) = v / 2 ^ (8 * (i + 1)) := by
      rw [Int.tdiv_eq_ediv_of_nonneg hd.1, show 8 * (i + 1) = 8 * i + 8 by omega, Int.pow_add, ← Int.ediv_ediv_of_nonneg (Int.le_of_lt hp)]
      generalize v / 2 ^ (8 * i) = q at *
      rw [wrap_u64, show (2 : Int) ^ 8 = 256 from rfl]
      omega
    obtain ⟨s1, H1, a1, a2, a3, a4⟩ := push8 hO hs hL (by rw [bytes_len]; omega) (u8v (byteOf v i))
    have a2' : OS 1 E8 H1 s1 (bytesFrom v 0 (i + 1)) := by rw [bytes_last, Nat.zero_add]; exact a2
    obtain ⟨s', H', r1, r2, r3, r4⟩ := loop54 v hv N L hN m n (i + 1) s1 H1 (by omega) a2' a3 (Nat.le_trans hL a4.len)
    refine ⟨s', H', ?_, r2, r3, a4.trans r4 (fun _ h => h) fun _ _ h => h⟩
    rw [show n + (m + 1) + 1 = (n + m + 1) + 1 by omega, D54_3_s, g, ct, hb, a1, Ab.bs, hn, i64_succ i (by omega)]
    exact r1
theorem f54_x (v w : Int) (hv : u64p v) (hw : isW8 w = true) (H : Heap) : ∃ s' H', f54 w v H = some (s', H') ∧ OS 1 E8 H' s' (bytesFrom v 0 w.toNat) ∧ New H.length s' ∧ Kp No H H' := by
  rw [q54]
  have hw := isW8_w hw
  obtain ⟨n, e⟩ := LL54_3_of w.toNat (by omega) w v none 0 H
  have hwn : ((w.toNat : Nat) : Int) = w := by omega
  obtain ⟨s', H', r1, r2, r3, r4⟩ := loop54 v hv w.toNat H.length (by omega) w.toNat n 0 none H (by omega) rfl (fun _ e => nomatch e) (Nat.le_refl _)
  refine ⟨s', H', ?_, r2, r3, (Kp.refl No H).tr' r4⟩
  rw [hwn] at r1
  rw [e]
  have e0 : v / 2 ^ (8 * 0) = v := by simp
  rw [e0] at r1
  exact r1
/-! ### the document's memory -/
structure RSto where
  at' : Int
  sl : Option Sl
  bytes : List UInt8
def E2 (x : RSto) : List Cell := [.int .u64 x.at', .slice x.sl]
theorem E2_len (x : RSto) : (E2 x).length = 2 := rfl
theorem gets2 {H : Heap} {s : Option Sl} {l : List RSto} (h : RS 2 E2 H s l) {i : Nat} {a : RSto} (hi : l[i]? = some a) :
    ∃ sl, s = some sl ∧ (inb (i : Int) sl.len && sl.esz == 2) = true ∧ H.get sl.id (sl.off + ((i : Nat) : Int).toNat * 2) = some (.int .u64 a.at') ∧ H.get sl.id (sl.off + ((i : Nat) : Int).toNat * 2 + 1) = some (.slice a.sl) := by
  obtain ⟨sl, e, h1, h2⟩ := h.idx E2_len hi
  exact ⟨sl, e, h1, by simpa using h2 0 _ rfl, by simpa using h2 1 _ rfl⟩
theorem row2 (H : Heap) (a : RSto) : RS 2 E2 (H ++ [Blk.row (E2 a) false]) (some { id := H.length, off := 0, len := 1, cap := 1, esz := 2 }) [a] :=
  ⟨rfl, rfl, Nat.le_refl _, fun j c e => by rw [Nat.zero_add, get_of (push_get _ _)]; simpa using e⟩
def RSto.abs (x : RSto) : Int × List UInt8 := (x.at', x.bytes)
def Sto.abs (s : Sto) : Int × List UInt8 := (s.at', bytesFrom s.v 0 s.w.toNat)
structure Rm where
  b : Nat
  s : Option Sl
  ars : List Ar
  rs : List (Option Sl)
  rows : List (List RSto)
def Rm.Inm (R : Rm) (i : Nat) : Prop := InM R.b R.s R.ars R.rs i
def Rm.In (R : Rm) (i : Nat) : Prop := R.Inm i ∨ ∃ l, l ∈ R.rows ∧ ∃ x, x ∈ l ∧ idO x.sl = some i
def Rm.p (R : Rm) : Option (Nat × Nat) := some (R.b, 0)
structure Rm.Is (R : Rm) (H : Heap) (L : Nat) (c : Co) : Prop where
  m : MRg 2 E2 H R.b L R.s R.ars R.rs R.rows
  y : ∀ l, l ∈ R.rows → ∀ x, x ∈ l → OS 1 E8 H x.sl x.bytes ∧ ∀ i, idO x.sl = some i → L ≤ i ∧ ¬ R.Inm i
  a : nfs R.ars = c.ars
  r : R.rows.map (·.map RSto.abs) = c.rows.map (·.map Sto.abs)
structure Rm.To (R S : Rm) (H H' : Heap) : Prop where
  b : S.b = R.b
  k : Kp R.Inm H H'
  idm : ∀ i, S.Inm i → R.Inm i ∨ H.length ≤ i
  idy : ∀ i, S.In i → R.In i ∨ H.length ≤ i
theorem Rm.To.no {M : Rm} {H H' : Heap} (k : Kp No H H') : M.To M H H' := ⟨rfl, k.mono fun i _ hf => absurd hf (fun h => h), fun i h => .inl h, fun i h => .inl h⟩
theorem Rm.To.trans {M N O : Rm} {A B C : Heap} (p : M.To N A B) (q : N.To O B C) : M.To O A C := by
  refine ⟨q.b.trans p.b, p.k.trans q.k (fun _ h => h) fun i hi hf => ?_, fun i h => ?_, fun i h => ?_⟩
  · rcases p.idm i hf with e | e
    · exact e
    · omega
  · rcases q.idm i h with e | e
    · exact p.idm i e
    · exact .inr (Nat.le_trans p.k.len e)
  · rcases q.idy i h with e | e
    · exact p.idy i e
    · exact .inr (Nat.le_trans p.k.len e)
theorem OS.idlt {α : Type} {n : Nat} {E : α → List Cell} {H : Heap} {s : Option Sl} {l : List α} (h : OS n E H s l) {i : Nat} (hi : idO s = some i) : i < H.length := by
  cases s with
  | none => cases hi
  | some sl => cases hi; exact OS.lt h
theorem Rm.Is.lt {R : Rm} {H : Heap} {L : Nat} {c : Co} (h : R.Is H L c) {i : Nat} (hi : R.In i) : i < H.length := by
  rcases hi with ⟨x, e⟩ | ⟨l, h1, x, h2, e⟩
  · exact h.m.lt x i e
  · exact OS.idlt (h.y l h1 x h2).1 e
theorem Rm.Is.ge {R : Rm} {H : Heap} {L : Nat} {c : Co} (h : R.Is H L c) {i : Nat} (hi : R.In i) : L ≤ i := by
  rcases hi with ⟨x, e⟩ | ⟨l, h1, x, h2, e⟩
  · exact h.m.ge x i e
  · exact ((h.y l h1 x h2).2 i e).1
theorem Rm.Is.other {R : Rm} {F : Nat → Prop} {H H' : Heap} {L : Nat} {c : Co} (h : R.Is H L c) (k : Kp F H H') (hd : ∀ i, R.In i → ¬ F i) : R.Is H' L c :=
  ⟨h.m.other k fun i hi => hd i (.inl hi), fun l hl x hx => ⟨OS.other (h.y l hl x hx).1 k fun i hi => hd i (.inr ⟨l, hl, x, hx, hi⟩), (h.y l hl x hx).2⟩, h.a, h.r⟩
theorem Rm.Is.no {R : Rm} {H H' : Heap} {L : Nat} {c : Co} (h : R.Is H L c) (k : Kp No H H') : R.Is H' L c := h.other k fun _ _ h => h
theorem Rm.Is.tru {R : Rm} {H : Heap} {L : Nat} {c : Co} (h : R.Is H L c) : Tru R.ars := h.m.tru
theorem Rm.Is.len {R : Rm} {H : Heap} {L : Nat} {c : Co} (h : R.Is H L c) : R.ars.length = c.ars.length := by rw [← h.a]; simp [nfs]
theorem Rm.Is.may {R : Rm} {H : Heap} {L : Nat} {c : Co} (h : R.Is H L c) (t x w : Int) (wr : Bool) : mayA R.ars t x w wr = mayA c.ars t x w wr := by rw [← h.a, may_nf h.tru]
theorem Rm.Is.dl {R : Rm} {H : Heap} {L N : Nat} {c : Co} (h : R.Is H L c) (f : c.Fit N) : ∀ a, a ∈ R.ars → a.data.length ≤ 1048576 := fun a ha => f.d (nfA a) (by rw [← h.a]; exact List.mem_map.2 ⟨a, ha, rfl⟩)
theorem Rm.Is.nl {R : Rm} {H : Heap} {L N : Nat} {c : Co} (h : R.Is H L c) (f : c.Fit N) : R.ars.length ≤ 1000 := by rw [h.len]; exact f.n
theorem Rm.Is.fnd {R : Rm} {H : Heap} {L N : Nat} {c : Co} (h : R.Is H L c) {x : Int} {i n : Nat} (g : Found c.ars x i n) : Found R.ars x i n := found_nf h.tru (by rw [h.a]; exact g)
theorem Rm.Is.row {R : Rm} {H : Heap} {L : Nat} {c : Co} (h : R.Is H L c) {t : Nat} {l : List Sto} (hl : c.rows[t]? = some l) : ∃ q, R.rows[t]? = some q ∧ q.map RSto.abs = l.map Sto.abs := by
  have := congrArg (·[t]?) h.r
  simp only [List.getElem?_map, hl, Option.map_some] at this
  cases hq : R.rows[t]? with
  | none => rw [hq] at this; cases this
  | some q => rw [hq] at this; exact ⟨q, rfl, Option.some.inj this⟩
/-! ### write -/
theorem inM_shape {b : Nat} {s : Option Sl} {l m : List Ar} {rs : List (Option Sl)} (h : shapes l = shapes m) (i : Nat) : InM b s l rs i ↔ InM b s m rs i := by
  unfold InM
  constructor <;> rintro ⟨x, hx⟩ <;> exact ⟨x, by rw [← hx]; first | exact id_shape h x | exact (id_shape h x).symm⟩
theorem loop55 {b L : Nat} {s : Option Sl} {rs : List (Option Sl)} {rows : List (List RSto)} (x v : Int) (B : Option Sl) (N : Nat) (hN : N ≤ 8) : ∀ (m n i : Nat) (ars : List Ar) (H : Heap), MRg 2 E2 H b L s ars rs rows → ars.length ≤ 1000 → (∀ a, a ∈ ars → a.data.length ≤ 1048576) → i + m = N → Found ars x i m →
    OS 1 E8 H B (bytesFrom v 0 N) → (∀ j, idO B = some j → ¬ InM b s ars rs j) →
    ∃ H', (D55_2 (n + m + 1) (some (b, 0)) B (N : Int) (i : Int) x B H).bind J55_2 = some ((), H') ∧ MRg 2 E2 H' b L s (writeN ars x v i m) rs rows ∧ Stp b s ars rs (writeN ars x v i m) rs H H'
  | 0, n, i, ars, H, h, hn, hd, hm, hf, hB, hj => by
    have g : decide ((i : Int) < (N : Int)) = false := by simp; omega
    exact ⟨H, by rw [D55_2_s, g, cf, Ab.bs, J55_2_0], h, Stp.no (Kp.refl _ _)⟩
  | m + 1, n, i, ars, H, h, hn, hd, hm, hf, hB, hj => by
    have g : decide ((i : Int) < (N : Int)) = true := by simp; omega
    obtain ⟨k, a, f1, f2, f3⟩ := hf i (Nat.le_refl _) (by omega)
    have gs : H.get b (0 + 0) = some (.slice s) := by rw [get_of h.hd]; rfl
    obtain ⟨sl, rfl, g1, c0, c1, c2, c3, c4⟩ := gets5 h.ar.rs f1
    have c0' : H.get sl.id (sl.off + ((k : Nat) : Int).toNat * 5 + 0) = some (.int .u64 a.lo) := c0
    have hda := hd a (List.mem_of_getElem? f1)
    obtain ⟨sd, d1, d2, d3⟩ := data_get h f1 f2 (by omega) f3
    obtain ⟨j, hj'⟩ : ∃ j : Nat, IntKind.u64.wrap (IntKind.u64.wrap (x + (i : Int)) - a.lo) = (j : Int) := Int.eq_ofNat_of_zero_le (by rw [wrap_u64]; exact Int.emod_nonneg _ (by decide))
    have hlt : j < a.data.length := by
      unfold Ar.has at f2
      rw [(h.dt k a f1).rs.slenEq, hj'] at f2
      have f2 := of_decide_eq_true f2
      rw [wrap_u64] at f2
      omega
    obtain ⟨sb, rfl, b1, b2⟩ := hB.rs.idx1 (bytes_at v N 0 i (by omega)) (e := fun c : UInt8 => Cell.int .u8 (c.toNat : Int)) (fun _ => rfl)
    rw [Nat.zero_add] at b2
    obtain ⟨sd', H2, p1, p2, p3, p4⟩ := h.byte f1 hlt (u8v (byteOf v i))
    rw [d1] at p1; cases p1
    have hw1 : wr1 ars (IntKind.u64.wrap (x + (i : Int))) (u8v (byteOf v i)) = ars.set k { a with data := a.data.set j (u8v (byteOf v i)) } := by
      unfold wr1
      rw [f3]
      have e4 : ars[((k : Nat) : Int).toNat]? = some a := f1
      rw [e4]
      dsimp only
      rw [hj']; rfl
    have hsh := wr1_shape ars (IntKind.u64.wrap (x + (i : Int))) (u8v (byteOf v i))
    rw [← hw1] at p3 p4
    obtain ⟨H3, r1, r2, r3⟩ := loop55 x v (some sb) N hN m n (i + 1) _ H2 p3 (by rw [len_shape hsh]; exact hn) (wr1_data hd _ _) (by omega) (found_shape hsh.symm fun q h1 h2 => hf q (by omega) (by omega))
      (OS.other hB p4.k fun i hi => hj i hi) (fun i hi hf => hj i hi ((inM_shape hsh i).1 hf))
    refine ⟨H3, ?_, r2, p4.trans r3⟩
    rw [show n + (m + 1) + 1 = (n + m + 1) + 1 by omega, D55_2_s, g]
    simp only [ct, Ab.bs, b1, b2, tInt, wrap_nat i (by omega), f14_x (b, 0) ars _ H (h.rd (by omega)), gs, tSlice, f3, g1, c0', c1, d1, d2]
    rw [hj', p2, Ab.bs, i64_succ i (by omega)]
    exact r1
theorem f55_x {H : Heap} {b L : Nat} {s : Option Sl} {ars : List Ar} {rs : List (Option Sl)} {rows : List (List RSto)} (h : MRg 2 E2 H b L s ars rs rows) (hn : ars.length ≤ 1000) (hd : ∀ a, a ∈ ars → a.data.length ≤ 1048576) (x v : Int) (N : Nat) (hN : N ≤ 8) (hf : Found ars x 0 N) {B : Option Sl} (hB : OS 1 E8 H B (bytesFrom v 0 N)) (hj : ∀ j, idO B = some j → ¬ InM b s ars rs j) :
    ∃ H', f55 (some (b, 0)) x B H = some ((), H') ∧ MRg 2 E2 H' b L s (writeN ars x v 0 N) rs rows ∧ Stp b s ars rs (writeN ars x v 0 N) rs H H' := by
  rw [q55]
  obtain ⟨n, e⟩ := LL55_2_of N (by omega) (some (b, 0)) B (slen B) 0 x B H
  obtain ⟨H', r⟩ := loop55 x v B N hN N n 0 ars H h hn hd (by omega) hf hB hj
  refine ⟨H', ?_, r.2⟩
  rw [e, hB.rs.slenEq, bytes_len]
  exact r.1
end
end Go.Proofs.Ytdpmbfceadidkaa
