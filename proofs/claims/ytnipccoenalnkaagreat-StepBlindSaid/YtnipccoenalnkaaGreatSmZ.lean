/- SmB to SmZ. -/
import Derived.Test.YtnipccoenalnkaaGreatSt0
import Derived.Test.YtnipccoenalnkaaGreatAb33
namespace Go.Proofs.YtnipccoenalnkaaGreat
open Go Go.Proofs.YtnipccoenalnkaaGreat.Ab
set_option linter.unusedVariables false
set_option linter.unusedSimpArgs false
set_option maxRecDepth 100000
noncomputable section
/-- An area ars its cells tell it. -/
structure Ar where
  lo : Int
  sl : Option Sl
  data : List UInt8
  wr : Bool
  pr : Bool
  ow : Int
def E5 (a : Ar) : List Cell := [.int .u64 a.lo, .slice a.sl, .bool a.wr, .bool a.pr, .int .i64 a.ow]
theorem E5_len (a : Ar) : (E5 a).length = 5 := rfl
def Ar.has (a : Ar) (x : Int) : Bool := decide (IntKind.u64.wrap (x - a.lo) < IntKind.u64.wrap (slen a.sl))
/-- Where an address is. -/
def findFrom (x : Int) : List Ar → Nat → Int
  | [], _ => -1
  | a :: l, i => bif a.has x then (i : Int) else findFrom x l (i + 1)
def findA (ars : List Ar) (x : Int) : Int := findFrom x ars 0
theorem findFrom_cases (x : Int) : ∀ (l : List Ar) (i : Nat), findFrom x l i = -1 ∨ ∃ (k : Nat) (a : Ar), l[k]? = some a ∧ a.has x = true ∧ findFrom x l i = ((i + k : Nat) : Int)
  | [], i => .inl rfl
  | a :: l, i => by
    unfold findFrom
    cases h : a.has x with
    | true => exact .inr ⟨0, a, rfl, h, rfl⟩
    | false =>
      rw [cf]
      rcases findFrom_cases x l (i + 1) with e | ⟨k, b, h1, h2, h3⟩
      · exact .inl e
      · exact .inr ⟨k + 1, b, h1, h2, by rw [h3]; congr 1; omega⟩
theorem findA_cases (ars : List Ar) (x : Int) : findA ars x = -1 ∨ ∃ (k : Nat) (a : Ar), ars[k]? = some a ∧ a.has x = true ∧ findA ars x = (k : Int) := by
  rcases findFrom_cases x ars 0 with e | ⟨k, a, h1, h2, h3⟩
  · exact .inl e
  · exact .inr ⟨k, a, h1, h2, by unfold findA; rw [h3, Nat.zero_add]⟩
/-- One element of five cells. -/
theorem gets5 {H : Heap} {s : Option Sl} {l : List Ar} (h : RS 5 E5 H s l) {i : Nat} {a : Ar} (hi : l[i]? = some a) :
    ∃ sl, s = some sl ∧ (inb (i : Int) sl.len && sl.esz == 5) = true ∧ H.get sl.id (sl.off + ((i : Nat) : Int).toNat * 5) = some (.int .u64 a.lo) ∧ H.get sl.id (sl.off + ((i : Nat) : Int).toNat * 5 + 1) = some (.slice a.sl) ∧
      H.get sl.id (sl.off + ((i : Nat) : Int).toNat * 5 + 1 + 1) = some (.bool a.wr) ∧ H.get sl.id (sl.off + ((i : Nat) : Int).toNat * 5 + 1 + 1 + 1) = some (.bool a.pr) ∧ H.get sl.id (sl.off + ((i : Nat) : Int).toNat * 5 + 1 + 1 + 1 + 1) = some (.int .i64 a.ow) := by
  obtain ⟨sl, e, h1, h2⟩ := h.idx E5_len hi
  exact ⟨sl, e, h1, by simpa using h2 0 _ rfl, by simpa using h2 1 _ rfl, by simpa using h2 2 _ rfl, by simpa using h2 3 _ rfl, by simpa using h2 4 _ rfl⟩
theorem f172_x (h0 : Int) (h1 : Option Sl) (h2 h3 : Bool) (h4 : Int) (b : Nat) (x : Int) (H : Heap) (hb : H.get b 0 = some (.int .u64 x)) :
    f172 h0 h1 h2 h3 h4 (some (b, 0)) H = some (decide (IntKind.u64.wrap (x - h0) < IntKind.u64.wrap (slen h1)), H) := by
  rw [q172]
  simp only [Ab.bs, hb, tInt, q173]
theorem i64_succ (i : Nat) (h : i < 9223372036854775807) : IntKind.i64.wrap ((i : Int) + 1) = ((i + 1 : Nat) : Int) := by
  rw [wrap_i64 (by omega) (by omega)]; rfl
theorem loop171 (s : Option Sl) (ars : List Ar) (hn : ars.length < 9223372036854775807) (b : Nat) (x : Int) (H : Heap) (h : RS 5 E5 H s ars) (hb : H.get b 0 = some (.int .u64 x)) : ∀ (m n i : Nat), i + m = ars.length →
    (D171a_2 (n + m + 1) s (some (b, 0)) (ars.length : Int) (i : Int) H).bind J171a_2 = some (findFrom x (ars.drop i) i, H)
  | 0, n, i, hm => by
    have g : decide ((i : Int) < (ars.length : Int)) = false := by simp; omega
    rw [D171a_2_s, g, cf, Ab.bs, J171a_2_1, List.drop_eq_nil_of_le (by omega)]
    rfl
  | m + 1, n, i, hm => by
    have g : decide ((i : Int) < (ars.length : Int)) = true := by simp; omega
    have hi : i < ars.length := by omega
    obtain ⟨sl, rfl, g1, c0, c1, c2, c3, c4⟩ := gets5 h (List.getElem?_eq_getElem hi)
    have ih := loop171 (some sl) ars hn b x H h hb m n (i + 1) (by omega)
    rw [show n + (m + 1) + 1 = (n + m + 1) + 1 by omega, D171a_2_s, g]
    simp only [ct, Ab.bs, g1, c0, c1, c2, c3, c4, tInt, tSlice, tBool, f172_x _ _ _ _ _ b x H hb, i64_succ i (by omega)]
    rw [List.drop_eq_getElem_cons hi]
    unfold findFrom Ar.has
    cases decide (IntKind.u64.wrap (x - ars[i].lo) < IntKind.u64.wrap (slen ars[i].sl))
    · rw [cf, cf]; exact ih
    · rw [ct, ct, Ab.bs, J171a_2_0]
/-- Memory can be read: its areas. -/
def Rd (H : Heap) (p : Nat × Nat) (ars : List Ar) : Prop := ars.length < 9223372036854775807 ∧ ∃ s, H.get p.1 (p.2 + 0) = some (.slice s) ∧ RS 5 E5 H s ars
theorem Rd.no {H H' : Heap} {p : Nat × Nat} {ars : List Ar} (h : Rd H p ars) (k : Kp No H H') : Rd H' p ars := by
  obtain ⟨h0, s, h1, h2⟩ := h
  exact ⟨h0, s, k.gt h1, h2.no k⟩
theorem f138_x (p : Nat × Nat) (ars : List Ar) (x : Int) (H : Heap) (h : Rd H p ars) : Says (f138 (some p) x H) H (findA ars x) := by
  rw [q138]
  refine says_push (b := Blk.row [Cell.int .u64 x] false) ?_
  obtain ⟨h0, s, h1, h2⟩ := h.no (Kp.push1 H (Blk.row [Cell.int .u64 x] false))
  have hb : (H ++ [Blk.row [Cell.int .u64 x] false]).get H.length 0 = some (.int .u64 x) := by rw [get_of (push_get _ _)]; rfl
  simp only [Ab.bs, h1, tSlice, q171a]
  obtain ⟨n, e⟩ := LL171a_2_of ars.length (by omega) s (some (H.length, 0)) (slen s) 0 (H ++ [Blk.row [Cell.int .u64 x] false])
  have := loop171 s ars h0 H.length x _ h2 hb ars.length n 0 (by omega)
  rw [List.drop_zero] at this
  rw [e, h2.slenEq, show (0 : Int) = ((0 : Nat) : Int) from rfl, this]
  exact says_ret rfl
def thereA (ars : List Ar) (t x : Int) (w : Bool) : Bool :=
  match ars[(findA ars x).toNat]? with
  | some a => !decide (findA ars x < 0) && ((!a.pr || a.ow == t) && (a.wr || !w))
  | none => false
theorem f106_x (p : Nat × Nat) (ars : List Ar) (t x : Int) (w : Bool) (H : Heap) (h : Rd H p ars) : Says (f106 (some p) t x w H) H (thereA ars t x w) := by
  rw [q106]
  refine says_bind (f138_x p ars x H h) fun H' k => ?_
  obtain ⟨h0, s, h1, h2⟩ := h.no k
  unfold thereA
  rcases findA_cases ars x with e | ⟨i, a, e1, e2, e3⟩
  · rw [e]
    simp only [show decide ((-1 : Int) < 0) = true from rfl, ct]
    refine says_ret ?_
    cases ars[(-1 : Int).toNat]? <;> rfl
  · rw [e3]
    obtain ⟨sl, rfl, g1, c0, c1, c2, c3, c4⟩ := gets5 h2 e1
    have e4 : ars[((i : Nat) : Int).toNat]? = some a := e1
    simp only [show decide (((i : Nat) : Int) < 0) = false by simp, cf, Ab.bs, h1, tSlice, g1, ct, c0, c1, c2, c3, c4, tInt, tBool, e4, Bool.not_false, Bool.true_and]
    cases a.pr <;> cases a.wr <;> cases (a.ow == t) <;> exact says_ret rfl
def isW8 (w : Int) : Bool := w == 1 || (w == 2 || (w == 4 || w == 8))
theorem f105_x (w : Int) (H : Heap) : f105 w H = some (isW8 w, H) := by
  rw [q105]
  unfold isW8
  cases w == 1 <;> cases w == 2 <;> cases w == 4 <;> rfl
def thrd (t : Int) : Bool := decide (t ≥ 0) && decide (t < 8)
theorem f47_x (p : Nat × Nat) (t : Int) (H : Heap) : f47 (some p) t H = some (thrd t, H) := by
  rw [q47]
  unfold thrd
  rw [nsome]
  cases decide (t ≥ 0) <;> rfl
/-- May all the bytes from one on be come to? -/
def allThere (ars : List Ar) (t x : Int) (w : Bool) : Nat → Nat → Bool
  | _, 0 => true
  | i, n + 1 => thereA ars t (IntKind.u64.wrap (x + (i : Int))) w && allThere ars t x w (i + 1) n
def farA (x w : Int) : Bool := decide (x > IntKind.u64.wrap (18446744073709551615 - IntKind.u64.wrap (IntKind.i64.wrap (w - 1))))
def mayA (ars : List Ar) (t x w : Int) (wr : Bool) : Bool := thrd t && (isW8 w && (!farA x w && allThere ars t x wr 0 w.toNat))
theorem u64_succ (i : Nat) (h : i < 9223372036854775807) : IntKind.u64.wrap ((i : Int) + 1) = ((i + 1 : Nat) : Int) := by
  rw [wrap_u64]; omega
theorem loop59 (p : Nat × Nat) (ars : List Ar) (t x : Int) (wr : Bool) (N : Nat) (hN : N ≤ 8) : ∀ (m n i : Nat) (H : Heap), Rd H p ars → i + m = N →
    Says ((D59_4 (n + m + 1) (some p) t x wr (N : Int) (i : Int) H).bind J59_4) H (allThere ars t x wr i m)
  | 0, n, i, H, h, hm => by
    have g : decide ((i : Int) < (N : Int)) = false := by simp; omega
    rw [D59_4_s, g, cf, Ab.bs, J59_4_1]
    exact says_ret rfl
  | m + 1, n, i, H, h, hm => by
    have g : decide ((i : Int) < (N : Int)) = true := by simp; omega
    rw [show n + (m + 1) + 1 = (n + m + 1) + 1 by omega, D59_4_s, g, ct]
    obtain ⟨H', e, k⟩ := f106_x p ars t (IntKind.u64.wrap (x + (i : Int))) wr H h
    rw [e, Ab.bs]
    unfold allThere
    cases thereA ars t (IntKind.u64.wrap (x + (i : Int))) wr
    · simp only [Bool.not_false, ct, Ab.bs, J59_4_0, Bool.false_and]
      exact ⟨H', rfl, k⟩
    · simp only [Bool.not_true, cf, Bool.true_and, u64_succ i (by omega)]
      exact says_kp k (loop59 p ars t x wr N hN m n (i + 1) H' (h.no k) (by omega))
theorem isW8_w {w : Int} (h : isW8 w = true) : w = 1 ∨ w = 2 ∨ w = 4 ∨ w = 8 := by simpa [isW8] using h
theorem f59_x (p : Nat × Nat) (ars : List Ar) (t x w : Int) (wr : Bool) (H : Heap) (h : Rd H p ars) : Says (f59 (some p) t x w wr H) H (mayA ars t x w wr) := by
  rw [q59, f47_x, Ab.bs, f105_x, Ab.bs]
  unfold mayA
  cases thrd t
  · exact says_ret rfl
  cases hw : isW8 w
  · exact says_ret rfl
  simp only [Bool.not_true, cf, Bool.true_and]
  show Says (bif farA x w then some (false, H) else _) H _
  cases farA x w
  · simp only [cf, Bool.not_false, Bool.true_and]
    have hw := isW8_w hw
    have e1 : IntKind.u64.wrap w = ((w.toNat : Nat) : Int) := by rw [wrap_u64]; omega
    obtain ⟨n, e⟩ := LL59_4_of w.toNat (by omega) (some p) t x wr (IntKind.u64.wrap w) 0 H
    rw [e, e1]
    exact loop59 p ars t x wr w.toNat (by omega) w.toNat n 0 H h (by omega)
  · exact says_ret rfl
theorem f164_no (p : Nat × Nat) (ars : List Ar) (t x w : Int) (H : Heap) (h : Rd H p ars) (hm : mayA ars t x w false = false) : Says (f164 (some p) t x w H) H (0, false) := by
  rw [q164]
  refine says_bind (f59_x p ars t x w false H h) fun H' k => ?_
  rw [hm]; exact says_ret rfl
theorem f32_no (p : Nat × Nat) (ars : List Ar) (t x w v : Int) (H : Heap) (h : Rd H p ars) (hm : mayA ars t x w true = false) : Says (f32 (some p) t x w v H) H false := by
  rw [q32]
  refine says_bind (f59_x p ars t x w true H h) fun H' k => ?_
  rw [hm]; exact says_ret rfl
/-- A store: where, how wide, what. -/
structure Sto where
  at' : Int
  w : Int
  v : Int
def E3 (x : Sto) : List Cell := [.int .u64 x.at', .int .i64 x.w, .int .u64 x.v]
theorem E3_len (x : Sto) : (E3 x).length = 3 := rfl
def E4 (a : Ar) : List Cell := [.int .u64 a.lo, .slice a.sl, .bool a.wr, .bool a.pr]
theorem E4_len (a : Ar) : (E4 a).length = 4 := rfl
inductive Slot where
  | hd
  | ar
  | dt (k : Nat)
  | row (t : Nat)
def idO (s : Option Sl) : Option Nat := s.map (·.id)
def idAt (b : Nat) (s : Option Sl) (ars : List Ar) (rs : List (Option Sl)) : Slot → Option Nat
  | .hd => some b
  | .ar => idO s
  | .dt k => (ars[k]?).bind fun a => idO a.sl
  | .row t => (rs[t]?).bind idO
/-- Memory in the heap: its block, its areas, their bytes, the threads' rows. -/
structure MRg {β : Type} (en : Nat) (eE : β → List Cell) (H : Heap) (b L : Nat) (s : Option Sl) (ars : List Ar) (rs : List (Option Sl)) (rows : List (List β)) : Prop where
  hd : H[b]? = some (.row (Cell.slice s :: rs.map Cell.slice) false)
  ar : OS 5 E5 H s ars
  dt : ∀ (k : Nat) (a : Ar), ars[k]? = some a → OS 1 E8 H a.sl a.data
  ro : ∀ (t : Nat) (r : Option Sl) (l : List β), rs[t]? = some r → rows[t]? = some l → OS en eE H r l
  rl : rs.length = 8
  rw : rows.length = 8
  inj : ∀ (x y : Slot) (i : Nat), idAt b s ars rs x = some i → idAt b s ars rs y = some i → x = y
  ge : ∀ (x : Slot) (i : Nat), idAt b s ars rs x = some i → L ≤ i
  lt : ∀ (x : Slot) (i : Nat), idAt b s ars rs x = some i → i < H.length
abbrev MR := @MRg Sto 3 E3
theorem idO_of {s : Option Sl} {sl : Sl} (h : s = some sl) : idO s = some sl.id := by rw [h]; rfl
theorem MRg.no {H H' : Heap} {b L : Nat} {s : Option Sl} {ars : List Ar} {rs : List (Option Sl)} {β : Type} {en : Nat} {eE : β → List Cell} {rows : List (List β)} (h : MRg en eE H b L s ars rs rows) (k : Kp No H H') : MRg en eE H' b L s ars rs rows :=
  ⟨k.bk h.hd, h.ar.no k, fun i a e => (h.dt i a e).no k, fun t r l e f => (h.ro t r l e f).no k, h.rl, h.rw, h.inj, h.ge, fun x i e => Nat.lt_of_lt_of_le (h.lt x i e) k.len⟩
theorem MRg.rd {H : Heap} {b L : Nat} {s : Option Sl} {ars : List Ar} {rs : List (Option Sl)} {β : Type} {en : Nat} {eE : β → List Cell} {rows : List (List β)} (h : MRg en eE H b L s ars rs rows) (hn : ars.length < 9223372036854775807) : Rd H (b, 0) ars :=
  ⟨hn, s, by rw [get_of h.hd]; rfl, h.ar.rs⟩
/-- Below all of memory's blocks nothing moves. -/
theorem OS.other {α : Type} {n : Nat} {E : α → List Cell} {F : Nat → Prop} {H H' : Heap} {s : Option Sl} {l : List α} (h : OS n E H s l) (k : Kp F H H') (hn : ∀ i, idO s = some i → ¬ F i) : OS n E H' s l :=
  h.kp k fun sl e => hn _ (idO_of e)
theorem clone_x (H : Heap) (s : Option Sl) (l : List UInt8) (hs : RS 1 E8 H s l) (hl : l.length ≤ 1048576) : ∃ s' H', (H ++ [Blk.row [] false]).append 1 1 (some { id := List.length H, off := 0, len := 0, cap := 0, esz := 1 }) s = some (s', H') ∧ OS 1 E8 H' s' l ∧ Kp No H H' ∧ New H.length s' := by
  have kp : Kp No H (H ++ [.row [] false]) := Kp.push _ _ _
  obtain ⟨s', H', h2, h3, h4, h5⟩ := append_OS E8_len (by decide) (by' := 1) (OS_new (n := 1) (E := E8) H) (hs.new E8_len (by decide) kp fun _ _ h => h) (by simp [most]; omega)
  refine ⟨s', H', h2, by simpa using h3, kp.trans h4 (fun _ h => h) (fun i hi hf => ?_), fun sl' e => ?_⟩
  · obtain ⟨sl0, e0, e1⟩ := hf; cases e0; exact absurd e1 (by show ¬ i = H.length; omega)
  · rcases h5 sl' e with ⟨sl0, e0, e1⟩ | h
    · cases e0; rw [e1]; exact Nat.le_refl _
    · simp at h; omega
theorem f84_x (b : Option Sl) (d : List UInt8) (H : Heap) (h : RS 1 E8 H b d) (hl : d.length ≤ 1048576) : ∃ s' H', f84 b H = some (s', H') ∧ OS 1 E8 H' s' d ∧ Kp No H H' ∧ New H.length s' := by
  rw [q84]
  cases b with
  | none =>
    cases h
    exact ⟨none, H, rfl, rfl, Kp.refl _ _, fun _ e => nomatch e⟩
  | some sl =>
    obtain ⟨s', H', a1, a2, a3, a4⟩ := clone_x H (some sl) d h hl
    exact ⟨s', H', by rw [show (some sl).isNone = false from rfl, cf, a1, Ab.bs], a2, a3, a4⟩
theorem gets4 {H : Heap} {s : Option Sl} {l : List Ar} (h : RS 4 E4 H s l) {i : Nat} {a : Ar} (hi : l[i]? = some a) :
    ∃ sl, s = some sl ∧ (inb (i : Int) sl.len && sl.esz == 4) = true ∧ H.get sl.id (sl.off + ((i : Nat) : Int).toNat * 4) = some (.int .u64 a.lo) ∧ H.get sl.id (sl.off + ((i : Nat) : Int).toNat * 4 + 1) = some (.slice a.sl) ∧
      H.get sl.id (sl.off + ((i : Nat) : Int).toNat * 4 + 1 + 1) = some (.bool a.wr) ∧ H.get sl.id (sl.off + ((i : Nat) : Int).toNat * 4 + 1 + 1 + 1) = some (.bool a.pr) := by
  obtain ⟨sl, e, h1, h2⟩ := h.idx E4_len hi
  exact ⟨sl, e, h1, by simpa using h2 0 _ rfl, by simpa using h2 1 _ rfl, by simpa using h2 2 _ rfl, by simpa using h2 3 _ rfl⟩
theorem row5 (H : Heap) (a : Ar) : RS 5 E5 (H ++ [Blk.row (E5 a) false]) (some { id := H.length, off := 0, len := 1, cap := 1, esz := 5 }) [a] :=
  ⟨rfl, rfl, Nat.le_refl _, fun j c e => by rw [Nat.zero_add, get_of (push_get _ _)]; simpa using e⟩
theorem row4 (H : Heap) (a : Ar) : RS 4 E4 (H ++ [Blk.row (E4 a) false]) (some { id := H.length, off := 0, len := 1, cap := 1, esz := 4 }) [a] :=
  ⟨rfl, rfl, Nat.le_refl _, fun j c e => by rw [Nat.zero_add, get_of (push_get _ _)]; simpa using e⟩
/-- One area more. -/
theorem MRg.add {H : Heap} {b L : Nat} {s : Option Sl} {ars : List Ar} {rs : List (Option Sl)} {β : Type} {en : Nat} {eE : β → List Cell} {rows : List (List β)} (h : MRg en eE H b L s ars rs rows) (hn : ars.length ≤ 1000) (a : Ar) (N : Nat) (ha : OS 1 E8 H a.sl a.data) (hnew : New N a.sl) (hN : ∀ (x : Slot) (i : Nat), idAt b s ars rs x = some i → i < N) (hL : L ≤ N) :
    ∃ s' H1 H', (H ++ [Blk.row (E5 a) false]).append 5 48 s (some { id := H.length, off := 0, len := 1, cap := 1, esz := 5 }) = some (s', H1) ∧ H1.put b 0 [Cell.slice s'] = some H' ∧ MRg en eE H' b L s' (ars ++ [a]) rs rows ∧ Kp (fun i => L ≤ i) H H' := by
  have h0 := h.no (Kp.push1 H (Blk.row (E5 a) false))
  have ha0 := ha.no (Kp.push1 H (Blk.row (E5 a) false))
  obtain ⟨s', H1, a1, a2, a3, a4⟩ := append_OS E5_len (by decide) (by' := 48) h0.ar (row5 H a) (by simp [most]; omega)
  have hb1 : H1[b]? = some (.row (Cell.slice s :: rs.map Cell.slice) false) := a3.at h0.hd fun hf => by
    obtain ⟨sl, e, f⟩ := hf
    have := h0.inj .hd .ar b rfl (by rw [f]; exact idO_of e)
    cases this
  have hput : H1.put b 0 [Cell.slice s'] = some (H1.set b (.row (Cell.slice s' :: rs.map Cell.slice) false)) := by
    rw [put_of hb1 (by simp)]; rfl
  have kset : Kp (One b) H1 (H1.set b (.row (Cell.slice s' :: rs.map Cell.slice) false)) := Kp.set _ _ _
  have lenH : (H ++ [Blk.row (E5 a) false]).length = H.length + 1 := by simp
  -- the new slice's block
  have hs' : ∀ i, idO s' = some i → idO s = some i ∨ H.length + 1 ≤ i := by
    intro i hi
    cases s' with
    | none => cases hi
    | some sl' =>
      cases hi
      rcases a4 sl' rfl with ⟨sl, e, f⟩ | f
      · exact .inl (by rw [e]; show some sl.id = _; rw [← f])
      · exact .inr (by simpa using f)
  have ltH : ∀ (x : Slot) (i : Nat), idAt b s ars rs x = some i → i < H.length := h.lt
  have haL : ∀ i, idO a.sl = some i → N ≤ i ∧ i < H.length := by
    intro i hi
    cases hsl : a.sl with
    | none => rw [hsl] at hi; cases hi
    | some sl =>
      rw [hsl] at hi; cases hi
      rw [hsl] at ha
      exact ⟨hnew sl hsl, OS.lt ha⟩
  have nb : ∀ i, idO s' = some i → i ≠ b := by
    rintro i hi rfl
    rcases hs' i hi with e | e
    · have := h.inj .hd .ar i rfl e; cases this
    · have := ltH .hd i rfl; omega
  -- what another slot holds is kept
  have keep : ∀ {α : Type} {n : Nat} {E : α → List Cell} {r : Option Sl} {l : List α}, OS n E (H ++ [Blk.row (E5 a) false]) r l → (∀ i, idO r = some i → idO s ≠ some i ∧ i ≠ b) → OS n E (H1.set b (.row (Cell.slice s' :: rs.map Cell.slice) false)) r l := by
    intro α n E r l hr hd
    refine OS.other (OS.other hr a3 fun i hi hf => ?_) kset fun i hi hf => (hd i hi).2 hf
    obtain ⟨sl, e, f⟩ := hf
    exact (hd i hi).1 (by rw [f]; exact idO_of e)
  have hdt : ∀ (k : Nat) (c : Ar), (ars ++ [a])[k]? = some c → k < ars.length ∧ ars[k]? = some c ∨ k = ars.length ∧ c = a := by
    intro k c hk
    rcases Nat.lt_or_ge k ars.length with hlt | hge
    · rw [List.getElem?_append_left hlt] at hk; exact .inl ⟨hlt, hk⟩
    · rw [List.getElem?_append_right hge] at hk
      cases hm : k - ars.length with
      | zero => rw [hm] at hk; simp at hk; exact .inr ⟨by omega, hk.symm⟩
      | succ m => rw [hm] at hk; simp at hk
  have old : ∀ (x : Slot) (i : Nat), idAt b s' (ars ++ [a]) rs x = some i → (∃ y, y = x ∧ idAt b s ars rs y = some i ∧ (x = .ar → idO s = some i)) ∨ (x = .ar ∧ H.length + 1 ≤ i) ∨ (x = .dt ars.length ∧ idO a.sl = some i) := by
    intro x i hx
    cases x with
    | hd => exact .inl ⟨.hd, rfl, hx, fun h => by cases h⟩
    | ar =>
      rcases hs' i hx with e | e
      · exact .inl ⟨.ar, rfl, e, fun _ => e⟩
      · exact .inr (.inl ⟨rfl, e⟩)
    | dt k =>
      simp only [idAt, Option.bind_eq_some_iff] at hx
      obtain ⟨c, hc, hx⟩ := hx
      rcases hdt k c hc with ⟨_, hk⟩ | ⟨rfl, rfl⟩
      · exact .inl ⟨.dt k, rfl, by simp only [idAt, hk, Option.bind_some]; exact hx, fun h => by cases h⟩
      · exact .inr (.inr ⟨rfl, hx⟩)
    | row t => exact .inl ⟨.row t, rfl, hx, fun h => by cases h⟩
  refine ⟨s', H1, _, a1, hput, ?_, ?_⟩
  · refine ⟨set_get' (lt_of hb1), ?_, ?_, ?_, h.rl, h.rw, ?_, ?_, ?_⟩
    · exact OS.other a2 kset fun i hi hf => nb i hi hf
    · intro k c hk
      rcases hdt k c hk with ⟨_, hk⟩ | ⟨rfl, rfl⟩
      · refine keep (h0.dt k c hk) fun i hi => ⟨fun hf => ?_, fun hf => ?_⟩
        · have := h0.inj (.dt k) .ar i (by simp only [idAt, hk, Option.bind_some]; exact hi) hf; cases this
        · have := h0.inj (.dt k) .hd i (by simp only [idAt, hk, Option.bind_some]; exact hi) (by rw [hf]; rfl); cases this
      · refine keep ha0 fun i hi => ⟨fun hf => ?_, fun hf => ?_⟩
        · have := (haL i hi).1; have := hN .ar i hf; omega
        · have := (haL i hi).1; have := hN .hd i (by rw [hf]; rfl); omega
    · intro t r l hr hl
      refine keep (h0.ro t r l hr hl) fun i hi => ⟨fun hf => ?_, fun hf => ?_⟩
      · have := h0.inj (.row t) .ar i (by simp only [idAt, hr, Option.bind_some]; exact hi) hf; cases this
      · have := h0.inj (.row t) .hd i (by simp only [idAt, hr, Option.bind_some]; exact hi) (by rw [hf]; rfl); cases this
    · intro x y i hx hy
      rcases old x i hx with ⟨_, rfl, e, _⟩ | ⟨rfl, e⟩ | ⟨rfl, e⟩ <;> rcases old y i hy with ⟨_, rfl, f, _⟩ | ⟨rfl, f⟩ | ⟨rfl, f⟩
      · exact h.inj _ _ i e f
      · have := ltH _ i e; omega
      · have := hN _ i e; have := (haL i f).1; omega
      · have := ltH _ i f; omega
      · rfl
      · have := (haL i f).2; omega
      · have := hN _ i f; have := (haL i e).1; omega
      · have := (haL i e).2; omega
      · rfl
    · intro x i hx
      rcases old x i hx with ⟨_, rfl, e, _⟩ | ⟨rfl, e⟩ | ⟨rfl, e⟩
      · exact h.ge _ i e
      · have := h.ge .hd b rfl; have := ltH .hd b rfl; omega
      · have := (haL i e).1; omega
    · intro x i hx
      have hle : H.length + 1 ≤ H1.length := by have := a3.len; simpa using this
      simp only [List.length_set]
      rcases old x i hx with ⟨_, rfl, e, _⟩ | ⟨rfl, e⟩ | ⟨rfl, e⟩
      · have := ltH _ i e; omega
      · cases s' with
        | none => cases hx
        | some sl' => cases hx; exact OS.lt a2
      · have := (haL i e).2; omega
  · refine ((Kp.push _ H [Blk.row (E5 a) false]).trans (a3.mono (D := fun i => L ≤ i) fun i hi hf => ?_) (fun _ h => h) fun _ _ h => h).trans (kset.mono (D := fun i => L ≤ i) fun i hi hf => ?_) (fun _ h => h) fun _ _ h => h
    · obtain ⟨sl, e, f⟩ := hf
      exact h.ge .ar i (by rw [f]; exact idO_of e)
    · have : i = b := hf
      rw [this]; exact h.ge .hd b rfl
def nils : List (Option Sl) := List.replicate 8 none
def noRows {β : Type} : List (List β) := List.replicate 8 []
/-- An area, its bytes being the memory's own. -/
def Fresh (z a : Ar) : Prop := a.lo = z.lo ∧ a.data = z.data ∧ a.wr = z.wr ∧ a.pr = z.pr ∧ a.ow = -1
def Freshes (zs ars : List Ar) : Prop := ∀ (k : Nat) (a : Ar), ars[k]? = some a → ∃ z, zs[k]? = some z ∧ Fresh z a
/-- What is read while memory is made: it lies below. -/
structure Src (H : Heap) (L : Nat) (zs : List Ar) : Prop where
  d : ∀ z, z ∈ zs → RS 1 E8 H z.sl z.data
  dl : ∀ z, z ∈ zs → ∀ sl, z.sl = some sl → z.data ≠ [] → sl.id < L
  dn : ∀ z, z ∈ zs → z.data.length ≤ 1048576
theorem Src.kp {H H' : Heap} {L : Nat} {zs : List Ar} (h : Src H L zs) (k : Kp (fun i => L ≤ i) H H') : Src H' L zs :=
  ⟨fun z hz => (h.d z hz).kp k fun sl e h0 => Nat.not_le_of_lt (h.dl z hz sl e h0), h.dl, h.dn⟩
theorem loop41 (b L : Nat) (l : Option Sl) (zs : List Ar) (hz : zs.length ≤ 1000) (hl : ∀ sl, l = some sl → zs ≠ [] → sl.id < L) : ∀ (m n i : Nat) (s : Option Sl) (ars : List Ar) (H : Heap), i + m = zs.length →
    MR H b L s ars nils noRows → ars.length = i → RS 4 E4 H l zs → Src H L zs → Freshes zs ars →
    ∃ s' ars' H', D41_3 (n + m + 1) (some (b, 0)) l (zs.length : Int) (i : Int) H = some (.exit 0, X41_3 (some (b, 0)) H') ∧ MR H' b L s' ars' nils noRows ∧ ars'.length = zs.length ∧ Freshes zs ars' ∧ Kp (fun i => L ≤ i) H H'
  | 0, n, i, s, ars, H, hm, hM, hi, hR, hS, hF => by
    have g : decide ((i : Int) < (zs.length : Int)) = false := by simp; omega
    exact ⟨s, ars, H, by rw [D41_3_s, g, cf], hM, by omega, hF, Kp.refl _ _⟩
  | m + 1, n, i, s, ars, H, hm, hM, hi, hR, hS, hF => by
    have g : decide ((i : Int) < (zs.length : Int)) = true := by simp; omega
    have hlt : i < zs.length := by omega
    have hzi := List.getElem?_eq_getElem hlt
    have hmem : zs[i] ∈ zs := List.getElem_mem hlt
    obtain ⟨sl, rfl, g1, c0, c1, c2, c3⟩ := gets4 hR hzi
    obtain ⟨d, H1, e1, e2, e3, e4⟩ := f84_x zs[i].sl zs[i].data H (hS.d _ hmem) (hS.dn _ hmem)
    have hM1 := hM.no e3
    have hL : L ≤ H.length := by
      have := hM.ge .hd b rfl; have := hM.lt .hd b rfl; omega
    obtain ⟨s', H2, H3, f1, f2, f3, f4⟩ := hM1.add (by omega) { lo := zs[i].lo, sl := d, data := zs[i].data, wr := zs[i].wr, pr := zs[i].pr, ow := -1 } H.length e2 e4 (fun x j hj => hM.lt x j hj) hL
    have hg : H1.get b (0 + 0) = some (.slice s) := by rw [get_of hM1.hd]; rfl
    have kk : Kp (fun i => L ≤ i) H H3 := (e3.mono (D := fun i => L ≤ i) fun i _ hf => absurd hf (fun h => h)).trans f4 (fun _ h => h) fun _ _ h => h
    obtain ⟨s4, ars4, H4, r1, r2, r3, r4, r5⟩ := loop41 b L (some sl) zs hz hl m n (i + 1) s' _ H3 (by omega) f3 (by simp; omega) (hR.kp kk fun sl e h0 => Nat.not_le_of_lt (hl sl e h0)) (hS.kp kk) (fun k a hk => by
      rcases Nat.lt_or_ge k ars.length with h1 | h1
      · rw [List.getElem?_append_left h1] at hk; exact hF k a hk
      · rw [List.getElem?_append_right h1] at hk
        cases hm : k - ars.length with
        | succ q => rw [hm] at hk; simp at hk
        | zero =>
          rw [hm] at hk
          simp at hk
          subst hk
          exact ⟨zs[i], by rw [show k = i by omega]; exact hzi, rfl, rfl, rfl, rfl, rfl⟩)
    refine ⟨s4, ars4, H4, ?_, r2, r3, r4, kk.trans r5 (fun _ h => h) fun _ _ h => h⟩
    rw [show n + (m + 1) + 1 = (n + m + 1) + 1 by omega, D41_3_s, g]
    simp only [ct, Ab.bs, g1, c0, c1, c2, c3, tInt, tSlice, tBool, e1, hg]
    have f1 : (H1 ++ [Blk.row [Cell.int .u64 zs[i].lo, Cell.slice d, Cell.bool zs[i].wr, Cell.bool zs[i].pr, Cell.int .i64 (-1)] false]).append 5 48 s (some { id := List.length H1, off := 0, len := 1, cap := 1, esz := 5 }) = some (s', H2) := f1
    rw [f1, Ab.bs]
    dsimp only
    rw [show (0 : Nat) + 0 = 0 from rfl, f2, Ab.bs, i64_succ i (by omega)]
    exact r1
theorem MRg.empty {β : Type} {en : Nat} {eE : β → List Cell} (H : Heap) : MRg en eE (H ++ [Blk.row [Cell.slice none, Cell.slice none, Cell.slice none, Cell.slice none, Cell.slice none, Cell.slice none, Cell.slice none, Cell.slice none, Cell.slice none] false]) H.length H.length none [] nils noRows where
  hd := push_get _ _
  ar := rfl
  dt k a e := by simp at e
  ro t r l hr hl := by
    simp only [nils, noRows, List.getElem?_replicate] at hr hl
    split at hr
    · rename_i ht
      rw [if_pos ht] at hl
      cases hr; cases hl; rfl
    · cases hr
  rl := rfl
  rw := rfl
  inj x y i hx hy := by
    have hr : ∀ t, idAt H.length none [] nils (.row t) = none := fun t => by
      simp only [idAt, nils, List.getElem?_replicate]
      split <;> rfl
    cases x with
    | hd => cases y with
      | hd => rfl
      | ar => cases hy
      | dt k => simp [idAt] at hy
      | row t => rw [hr] at hy; cases hy
    | ar => cases hx
    | dt k => simp [idAt] at hx
    | row t => rw [hr] at hx; cases hx
  ge x i hx := by
    cases x with
    | hd => cases hx; exact Nat.le_refl _
    | ar => cases hx
    | dt k => simp [idAt] at hx
    | row t =>
      simp only [idAt, nils, List.getElem?_replicate] at hx
      split at hx <;> cases hx
  lt x i hx := by
    cases x with
    | hd => cases hx; simp
    | ar => cases hx
    | dt k => simp [idAt] at hx
    | row t =>
      simp only [idAt, nils, List.getElem?_replicate] at hx
      split at hx <;> cases hx
/-- mem.New. -/
theorem f41_x (l : Option Sl) (zs : List Ar) (hz : zs.length ≤ 1000) (H : Heap) (hR : RS 4 E4 H l zs) (hS : Src H H.length zs) :
    ∃ s ars H', f41 l H = some (some (H.length, 0), H') ∧ MR H' H.length H.length s ars nils noRows ∧ ars.length = zs.length ∧ Freshes zs ars ∧ Kp No H H' := by
  rw [q41]
  have k0 := Kp.push1 H (Blk.row [Cell.slice none, Cell.slice none, Cell.slice none, Cell.slice none, Cell.slice none, Cell.slice none, Cell.slice none, Cell.slice none, Cell.slice none] false)
  have hR1 := hR.no k0
  have hS1 := hS.kp (k0.mono (D := fun i => H.length ≤ i) fun i _ hf => absurd hf (fun h => h))
  have hM := MRg.empty (en := 3) (eE := E3) H
  generalize (H ++ [Blk.row [Cell.slice none, Cell.slice none, Cell.slice none, Cell.slice none, Cell.slice none, Cell.slice none, Cell.slice none, Cell.slice none, Cell.slice none] false]) = H1 at *
  obtain ⟨n, e⟩ := LL41_3_of zs.length (by omega) (some (H.length, 0)) l (slen l) 0 H1
  obtain ⟨s, ars, H', r1, r2, r3, r4, r5⟩ := loop41 H.length H.length l zs hz (fun sl e h0 => by subst e; exact RS.lt E4_len (by decide) hR h0) zs.length n 0 none [] H1 (by omega) hM rfl hR1 hS1 (fun k a hk => by simp at hk)
  refine ⟨s, ars, H', ?_, r2, r3, r4, k0.tr' r5⟩
  rw [e, hR.slenEq, show (0 : Int) = ((0 : Nat) : Int) from rfl, r1, Ab.bs, J41_3_0]
/-! ### Own -/
def ownA (ars : List Ar) (t k : Int) : Bool := thrd t && (!decide (k < 0) && match ars[k.toNat]? with | some a => a.pr && a.ow == -1 | none => false)
theorem set_at {α : Type} {l : List α} {k : Nat} {y : α} {j : Nat} {c : α} (h : (l.set k y)[j]? = some c) : (j = k ∧ c = y ∧ k < l.length) ∨ (j ≠ k ∧ l[j]? = some c) := by
  by_cases e : k = j
  · subst e
    have hl : k < l.length := by
      have := (List.getElem?_eq_some_iff.1 h).1; simpa using this
    rw [List.getElem?_set_self hl] at h
    exact .inl ⟨rfl, (Option.some.inj h).symm, hl⟩
  · rw [List.getElem?_set_ne e] at h
    exact .inr ⟨fun x => e x.symm, h⟩
/-- An area becomes a thread's. -/
theorem MRg.own {H : Heap} {b L : Nat} {s : Option Sl} {ars : List Ar} {rs : List (Option Sl)} {β : Type} {en : Nat} {eE : β → List Cell} {rows : List (List β)} (h : MRg en eE H b L s ars rs rows) {k : Nat} {a : Ar} (hk : ars[k]? = some a) (t : Int) :
    ∃ sl H', s = some sl ∧ H.put sl.id (sl.off + ((k : Nat) : Int).toNat * 5 + 4) [Cell.int .i64 t] = some H' ∧ MRg en eE H' b L s (ars.set k { a with ow := t }) rs rows ∧ Kp (Of s) H H' ∧ ∀ x, idAt b s (ars.set k { a with ow := t }) rs x = idAt b s ars rs x := by
  cases s with
  | none =>
    have : ars = [] := h.ar
    rw [this] at hk; simp at hk
  | some sl =>
    obtain ⟨H', e1, e2, e3, e4⟩ := OS.put E5_len h.ar (i := k) (j := 4) (x := a) (y := { a with ow := t }) (vs := [Cell.int .i64 t]) hk (by simp) rfl
    have hid : ∀ x : Slot, x ≠ .ar → ∀ i, idAt b (some sl) ars rs x = some i → i ≠ sl.id := by
      rintro x hx i hi rfl
      exact hx (h.inj x .ar sl.id hi rfl)
    have hsame : ∀ x, idAt b (some sl) (ars.set k { a with ow := t }) rs x = idAt b (some sl) ars rs x := by
      intro x
      cases x with
      | dt j =>
        simp only [idAt]
        by_cases e : k = j
        · subst e
          rw [List.getElem?_set_self (List.getElem?_eq_some_iff.1 hk).1, hk]; rfl
        · rw [List.getElem?_set_ne e]
      | _ => rfl
    refine ⟨sl, H', rfl, e1, ⟨?_, e2, ?_, ?_, h.rl, h.rw, ?_, ?_, ?_⟩, e3.mono fun i _ hf => ?_, ?_⟩
    · exact e3.at h.hd fun hf => hid .hd (by intro x; cases x) b rfl hf
    · intro j c hc
      rcases set_at hc with ⟨rfl, rfl, _⟩ | ⟨_, hc⟩
      · exact OS.other (h.dt j a hk) e3 fun i hi hf => hid (.dt j) (by intro x; cases x) i (by simp only [idAt, hk, Option.bind_some]; exact hi) hf
      · exact OS.other (h.dt j c hc) e3 fun i hi hf => hid (.dt j) (by intro x; cases x) i (by simp only [idAt, hc, Option.bind_some]; exact hi) hf
    · intro t' r l hr hl
      exact OS.other (h.ro t' r l hr hl) e3 fun i hi hf => hid (.row t') (by intro x; cases x) i (by simp only [idAt, hr, Option.bind_some]; exact hi) hf
    · intro x y i hx hy
      rw [hsame] at hx hy
      exact h.inj x y i hx hy
    · intro x i hx; rw [hsame] at hx; exact h.ge x i hx
    · intro x i hx; rw [hsame] at hx; rw [e4]; exact h.lt x i hx
    · exact ⟨sl, rfl, hf⟩
    · exact hsame
theorem own_get {H : Heap} {b L : Nat} {s : Option Sl} {ars : List Ar} {rs : List (Option Sl)} {rows : List (List Sto)} (h : MR H b L s ars rs rows) (t k : Int) (hn : ars.length ≤ 1000) :
    (ownA ars t k = false → f30 (some (b, 0)) t k H = some (false, H)) ∧ (ownA ars t k = true → ∃ a H', ars[k.toNat]? = some a ∧ a.pr = true ∧ f30 (some (b, 0)) t k H = some (true, H') ∧ MR H' b L s (ars.set k.toNat { a with ow := t }) rs rows ∧ Kp (Of s) H H' ∧ ∀ x, idAt b s (ars.set k.toNat { a with ow := t }) rs x = idAt b s ars rs x) := by
  have hg : H.get b (0 + 0) = some (.slice s) := by rw [get_of h.hd]; rfl
  have hs := h.ar.rs.slenEq
  rw [q30, f47_x, Ab.bs]
  unfold ownA
  cases thrd t
  · exact ⟨fun _ => rfl, fun h => by simp at h⟩
  simp only [Bool.not_true, cf, Bool.true_and]
  by_cases h0 : k < 0
  · rw [decide_eq_true h0]
    exact ⟨fun _ => rfl, fun h => by simp at h⟩
  rw [decide_eq_false h0]
  simp only [cf, Bool.not_false, Bool.true_and, Ab.bs, hg, tSlice]
  obtain ⟨k, rfl⟩ := Int.eq_ofNat_of_zero_le (Int.not_lt.1 h0)
  have e4 : ((k : Nat) : Int).toNat = k := rfl
  by_cases h1 : ((k : Nat) : Int) ≥ slen s
  · rw [decide_eq_true h1]
    have hkk : ars[((k : Nat) : Int).toNat]? = none := List.getElem?_eq_none (by rw [hs] at h1; rw [e4]; omega)
    rw [hkk]
    exact ⟨fun _ => rfl, fun h => by simp at h⟩
  rw [decide_eq_false h1]
  have hlt : k < ars.length := by rw [hs] at h1; omega
  have hk := List.getElem?_eq_getElem hlt
  have hkk : ars[((k : Nat) : Int).toNat]? = some ars[k] := hk
  rw [hkk]
  obtain ⟨sl, rfl, g1, c0, c1, c2, c3, c4⟩ := gets5 h.ar.rs hk
  have c3' : H.get sl.id (sl.off + ((k : Nat) : Int).toNat * 5 + 0 + 3) = some (.bool ars[k].pr) := c3
  have c4' : H.get sl.id (sl.off + ((k : Nat) : Int).toNat * 5 + 4) = some (.int .i64 ars[k].ow) := c4
  simp only [cf, Ab.bs, g1, ct, c3', tBool]
  cases hpr : ars[k].pr
  · exact ⟨fun _ => rfl, fun h => by simp at h⟩
  simp only [Bool.not_true, cf, c4', Ab.bs, tInt, Bool.true_and]
  by_cases ho : ars[k].ow = -1
  · obtain ⟨sl', H', e, f1, f2, f3, f4⟩ := h.own hk t
    cases e
    rw [ho]
    refine ⟨fun h => by simp at h, fun _ => ⟨ars[k], H', rfl, hpr, ?_, f2, f3, f4⟩⟩
    rw [show ((-1 : Int) != -1) = false from rfl, cf, f1, Ab.bs]
  · have e : (ars[k].ow == -1) = false := by simpa using ho
    unfold bne
    rw [e, Bool.not_false, ct]
    exact ⟨fun _ => rfl, fun h => by simp at h⟩
/-! ### Cut, Ours -/
/-- An area without its place; the same, cut. -/
def Ar.inf (z : Ar) : Int × List UInt8 × Bool × Bool × Int := (z.lo, z.data, z.wr, z.pr, z.ow)
def cutI (z : Ar) : Int × List UInt8 × Bool × Bool × Int := (z.lo, z.data.take 64, z.wr, z.pr, z.ow)
theorem loop22 (L : Nat) (l : Option Sl) (xs : List Ar) (hl : ∀ sl, l = some sl → xs ≠ [] → sl.id < L) (hx : xs.length ≤ 9223372036854775807) : ∀ (m n i : Nat) (o : Option Sl) (ys : List Ar) (H : Heap), i + m = xs.length → i ≤ 8 → ys.length = i →
    OS 5 E5 H o ys → New L o → L ≤ H.length → RS 5 E5 H l xs → (∀ x, x ∈ xs → RS 1 E8 H x.sl x.data ∧ ∀ sl, x.sl = some sl → x.data ≠ [] → sl.id < L) →
    (∀ y, y ∈ ys → RS 1 E8 H y.sl y.data ∧ (∀ sl, y.sl = some sl → y.data ≠ [] → sl.id < L) ∧ y.data.length ≤ 64) →
    ∃ o' ys' H', D22_3 (n + m + 1) o l (xs.length : Int) (i : Int) H = some (.exit 0, X22_3 o' H') ∧ ys'.length ≤ 8 ∧ OS 5 E5 H' o' ys' ∧ New L o' ∧
      (∀ y, y ∈ ys' → RS 1 E8 H' y.sl y.data ∧ (∀ sl, y.sl = some sl → y.data ≠ [] → sl.id < L) ∧ y.data.length ≤ 64) ∧ Kp (fun i => L ≤ i) H H' ∧ ys'.map Ar.inf = ys.map Ar.inf ++ ((xs.drop i).take (8 - i)).map cutI
  | 0, n, i, o, ys, H, hm, h8, hi, hO, hN, hL, hR, hX, hY => by
    have g : decide ((i : Int) < (xs.length : Int)) = false := by simp; omega
    exact ⟨o, ys, H, by rw [D22_3_s, g, cf], by omega, hO, hN, hY, Kp.refl _ _, by rw [List.drop_eq_nil_of_le (by omega)]; simp⟩
  | m + 1, n, i, o, ys, H, hm, h8, hi, hO, hN, hL, hR, hX, hY => by
    have g : decide ((i : Int) < (xs.length : Int)) = true := by simp; omega
    have hlt : i < xs.length := by omega
    have hzi := List.getElem?_eq_getElem hlt
    obtain ⟨hd1, hd2⟩ := hX _ (List.getElem_mem hlt)
    obtain ⟨sl, rfl, g1, c0, c1, c2, c3, c4⟩ := gets5 hR hzi
    rw [show n + (m + 1) + 1 = (n + m + 1) + 1 by omega, D22_3_s, g]
    simp only [ct, Ab.bs, g1, c0, c1, c2, c3, c4, tInt, tSlice, tBool]
    by_cases h8' : (i : Int) ≥ 8
    · rw [decide_eq_true h8', ct]
      exact ⟨o, ys, H, rfl, by omega, hO, hN, hY, Kp.refl _ _, by rw [show 8 - i = 0 by omega]; simp⟩
    rw [decide_eq_false h8', cf]
    have step : ∀ y : Ar, RS 1 E8 H y.sl y.data → (∀ sl, y.sl = some sl → y.data ≠ [] → sl.id < L) → y.data.length ≤ 64 → y.inf = cutI xs[i] →
        ∃ o1 H1, (H ++ [Blk.row (E5 y) false]).append 5 48 o (some { id := List.length H, off := 0, len := 1, cap := 1, esz := 5 }) = some (o1, H1) ∧
          ∃ o' ys' H', D22_3 (n + m + 1) o1 (some sl) (xs.length : Int) ((i + 1 : Nat) : Int) H1 = some (.exit 0, X22_3 o' H') ∧ ys'.length ≤ 8 ∧ OS 5 E5 H' o' ys' ∧ New L o' ∧
            (∀ y, y ∈ ys' → RS 1 E8 H' y.sl y.data ∧ (∀ sl, y.sl = some sl → y.data ≠ [] → sl.id < L) ∧ y.data.length ≤ 64) ∧ Kp (fun i => L ≤ i) H H' ∧ ys'.map Ar.inf = ys.map Ar.inf ++ ((xs.drop i).take (8 - i)).map cutI := by
      intro y hy1 hy2 hy3 hy4
      obtain ⟨o1, H1, a1, a2, a3, a4⟩ := append_OS E5_len (by decide) (by' := 48) (hO.no (Kp.push1 H (Blk.row (E5 y) false))) (row5 H y) (by simp [most]; omega)
      have kk : Kp (fun i => L ≤ i) H H1 := (Kp.push _ H [Blk.row (E5 y) false]).trans (a3.mono (D := fun i => L ≤ i) fun j _ hf => by
        obtain ⟨s, e, f⟩ := hf
        rw [f]; exact hN s e) (fun _ h => h) fun _ _ h => h
      have kd : ∀ z : Ar, RS 1 E8 H z.sl z.data → (∀ sl, z.sl = some sl → z.data ≠ [] → sl.id < L) → RS 1 E8 H1 z.sl z.data := fun z h1 h2 => h1.kp kk fun s e h0 => Nat.not_le_of_lt (h2 s e h0)
      have hN1 : New L o1 := fun s e => by
        rcases a4 s e with ⟨s0, e0, e1⟩ | e1
        · rw [e1]; exact hN s0 e0
        · simp at e1; omega
      obtain ⟨o', ys', H', r1, r2, r3, r4, r5, r6, r7⟩ := loop22 L (some sl) xs hl hx m n (i + 1) o1 (ys ++ [y]) H1 (by omega) (by omega) (by simp; omega) a2 hN1 (Nat.le_trans hL kk.len) (hR.kp kk fun s e h0 => Nat.not_le_of_lt (hl s e h0))
        (fun x hx => ⟨kd x (hX x hx).1 (hX x hx).2, (hX x hx).2⟩) (fun z hz => by
          rcases List.mem_append.1 hz with hz | hz
          · obtain ⟨q1, q2, q3⟩ := hY z hz; exact ⟨kd z q1 q2, q2, q3⟩
          · simp at hz; subst hz; exact ⟨kd z hy1 hy2, hy2, hy3⟩)
      exact ⟨o1, H1, a1, o', ys', H', r1, r2, r3, r4, r5, kk.trans r6 (fun _ h => h) fun _ _ h => h, by
        rw [r7, List.drop_eq_getElem_cons hlt, show 8 - i = (8 - (i + 1)) + 1 by omega, List.take_succ_cons]
        simp [hy4]⟩
    rw [hd1.slenEq]
    by_cases h64 : ((xs[i].data.length : Nat) : Int) > 64
    · rw [decide_eq_true h64, ct]
      obtain ⟨sc, b1, b2, b3⟩ := hd1.sub0 E8_len 64 (by omega)
      rw [show (64 : Int) = ((64 : Nat) : Int) from rfl, b1, Ab.bs, hd1.esOkT, ct]
      obtain ⟨o1, H1, s1, o', ys', H', r⟩ := step { lo := xs[i].lo, sl := sc, data := xs[i].data.take 64, wr := xs[i].wr, pr := xs[i].pr, ow := xs[i].ow } b2 (fun s e h0 => by
        obtain ⟨s0, e0, e1⟩ := b3 s e
        rw [e1]; exact hd2 s0 e0 (fun h => h0 (by rw [show xs[i].data = [] from h]; rfl))) (by simp; omega) rfl
      refine ⟨o', ys', H', ?_, r.2⟩
      have s1 : (H ++ [Blk.row [Cell.int .u64 xs[i].lo, Cell.slice sc, Cell.bool xs[i].wr, Cell.bool xs[i].pr, Cell.int .i64 xs[i].ow] false]).append 5 48 o (some { id := List.length H, off := 0, len := 1, cap := 1, esz := 5 }) = some (o1, H1) := s1
      rw [s1, Ab.bs, i64_succ i (by omega)]
      exact r.1
    · rw [decide_eq_false h64, cf]
      obtain ⟨o1, H1, s1, o', ys', H', r⟩ := step xs[i] hd1 hd2 (by omega) (by unfold Ar.inf cutI; rw [List.take_of_length_le (by omega)])
      refine ⟨o', ys', H', ?_, r.2⟩
      have s1 : (H ++ [Blk.row [Cell.int .u64 xs[i].lo, Cell.slice xs[i].sl, Cell.bool xs[i].wr, Cell.bool xs[i].pr, Cell.int .i64 xs[i].ow] false]).append 5 48 o (some { id := List.length H, off := 0, len := 1, cap := 1, esz := 5 }) = some (o1, H1) := s1
      rw [s1, Ab.bs, i64_succ i (by omega)]
      exact r.1
/-- Areas that a law has cut. -/
structure Cutd (H : Heap) (o : Option Sl) (ys : List Ar) : Prop where
  n : ys.length ≤ 8
  r : RS 5 E5 H o ys
  d : ∀ y, y ∈ ys → RS 1 E8 H y.sl y.data ∧ y.data.length ≤ 64
theorem Cutd.no {H H' : Heap} {o : Option Sl} {ys : List Ar} (h : Cutd H o ys) (k : Kp No H H') : Cutd H' o ys := ⟨h.n, h.r.no k, fun y hy => ⟨(h.d y hy).1.no k, (h.d y hy).2⟩⟩
theorem Cutd.src {H : Heap} {o : Option Sl} {ys : List Ar} (h : Cutd H o ys) : Src H H.length ys :=
  ⟨fun z hz => (h.d z hz).1, fun z hz sl e h0 => by
    have := (h.d z hz).1
    rw [e] at this
    exact RS.lt E8_len (by decide) this h0, fun z hz => by have := (h.d z hz).2; omega⟩
theorem f22_z (L : Nat) (l : Option Sl) (xs : List Ar) (hx : xs.length ≤ 9223372036854775807) (H : Heap) (hL : L ≤ H.length) (hl : ∀ sl, l = some sl → xs ≠ [] → sl.id < L) (hR : RS 5 E5 H l xs) (hX : ∀ x, x ∈ xs → RS 1 E8 H x.sl x.data ∧ ∀ sl, x.sl = some sl → x.data ≠ [] → sl.id < L) :
    ∃ o ys H', f22 l H = some (o, H') ∧ Cutd H' o ys ∧ Kp (fun i => L ≤ i) H H' ∧ ys.map Ar.inf = (xs.take 8).map cutI ∧ New L o ∧ ∀ y, y ∈ ys → ∀ sl, y.sl = some sl → y.data ≠ [] → sl.id < L := by
  rw [q22]
  obtain ⟨n, e⟩ := LL22_3_of xs.length (by omega) none l (slen l) 0 H
  obtain ⟨o, ys, H', r1, r2, r3, r4, r5, r6, r7⟩ := loop22 L l xs hl hx xs.length n 0 none [] H (by omega) (by omega) rfl rfl (fun _ e => nomatch e) hL hR hX (fun y hy => by simp at hy)
  refine ⟨o, ys, H', ?_, ⟨r2, r3.rs, fun y hy => ⟨(r5 y hy).1, (r5 y hy).2.2⟩⟩, r6, by rw [r7]; simp, r4, fun y hy => (r5 y hy).2.1⟩
  rw [e, hR.slenEq, show (0 : Int) = ((0 : Nat) : Int) from rfl, r1, Ab.bs, J22_3_0]
theorem f22_y (l : Option Sl) (xs : List Ar) (hx : xs.length ≤ 9223372036854775807) (H : Heap) (hR : RS 5 E5 H l xs) (hX : ∀ x, x ∈ xs → RS 1 E8 H x.sl x.data) :
    ∃ o ys H', f22 l H = some (o, H') ∧ Cutd H' o ys ∧ Kp No H H' ∧ ys.map Ar.inf = (xs.take 8).map cutI := by
  obtain ⟨o, ys, H', a, b, c, d, _⟩ := f22_z H.length l xs hx H (Nat.le_refl _) (fun sl e h0 => by subst e; exact RS.lt E5_len (by decide) hR h0) hR
    (fun x hm => ⟨hX x hm, fun sl e h0 => by have := hX x hm; rw [e] at this; exact RS.lt E8_len (by decide) this h0⟩)
  exact ⟨o, ys, H', a, b, (Kp.refl No H).tr' c, d⟩
theorem loop28 (L : Nat) (l : Option Sl) (xs : List Ar) (hl : ∀ sl, l = some sl → xs ≠ [] → sl.id < L) (hx : xs.length ≤ 8) : ∀ (m n i : Nat) (o : Option Sl) (H : Heap), i + m = xs.length →
    OS 4 E4 H o (xs.take i) → New L o → L ≤ H.length → RS 5 E5 H l xs →
    ∃ o' H', D28_3 (n + m + 1) o l (xs.length : Int) (i : Int) H = some (.exit 0, X28_3 o' H') ∧ OS 4 E4 H' o' xs ∧ Kp (fun i => L ≤ i) H H'
  | 0, n, i, o, H, hm, hO, hN, hL, hR => by
    have g : decide ((i : Int) < (xs.length : Int)) = false := by simp; omega
    refine ⟨o, H, by rw [D28_3_s, g, cf], ?_, Kp.refl _ _⟩
    rw [List.take_of_length_le (by omega)] at hO; exact hO
  | m + 1, n, i, o, H, hm, hO, hN, hL, hR => by
    have g : decide ((i : Int) < (xs.length : Int)) = true := by simp; omega
    have hlt : i < xs.length := by omega
    have hzi := List.getElem?_eq_getElem hlt
    obtain ⟨sl, rfl, g1, c0, c1, c2, c3, c4⟩ := gets5 hR hzi
    obtain ⟨o1, H1, a1, a2, a3, a4⟩ := append_OS E4_len (by decide) (by' := 40) (hO.no (Kp.push1 H (Blk.row (E4 xs[i]) false))) (row4 H xs[i]) (by simp [most]; omega)
    have kk : Kp (fun i => L ≤ i) H H1 := (Kp.push _ H [Blk.row (E4 xs[i]) false]).trans (a3.mono (D := fun i => L ≤ i) fun j _ hf => by
      obtain ⟨s, e, f⟩ := hf
      rw [f]; exact hN s e) (fun _ h => h) fun _ _ h => h
    have hN1 : New L o1 := fun s e => by
      rcases a4 s e with ⟨s0, e0, e1⟩ | e1
      · rw [e1]; exact hN s0 e0
      · simp at e1; omega
    obtain ⟨o', H', r1, r2, r3⟩ := loop28 L (some sl) xs hl hx m n (i + 1) o1 H1 (by omega) (by rw [List.take_succ_eq_append_getElem hlt]; exact a2) hN1 (Nat.le_trans hL kk.len) (hR.kp kk fun s e h0 => Nat.not_le_of_lt (hl s e h0))
    refine ⟨o', H', ?_, r2, kk.trans r3 (fun _ h => h) fun _ _ h => h⟩
    rw [show n + (m + 1) + 1 = (n + m + 1) + 1 by omega, D28_3_s, g]
    simp only [ct, Ab.bs, g1, c0, c1, c2, c3, c4, tInt, tSlice, tBool]
    have a1 : (H ++ [Blk.row [Cell.int .u64 xs[i].lo, Cell.slice xs[i].sl, Cell.bool xs[i].wr, Cell.bool xs[i].pr] false]).append 4 40 o (some { id := List.length H, off := 0, len := 1, cap := 1, esz := 4 }) = some (o1, H1) := a1
    rw [a1, Ab.bs, i64_succ i (by omega)]
    exact r1
/-- A law's memory of areas that it has cut. -/
theorem f28_x (o : Option Sl) (ys : List Ar) (H : Heap) (h : Cutd H o ys) :
    ∃ b s ars H', f28 o H = some (some (b, 0), H') ∧ H.length ≤ b ∧ MR H' b b s ars nils noRows ∧ ars.length = ys.length ∧ Freshes ys ars ∧ Kp No H H' := by
  rw [q28]
  obtain ⟨n, e⟩ := LL28_3_of ys.length (by have := h.n; omega) none o (slen o) 0 H
  obtain ⟨o1, H1, r1, r2, r3⟩ := loop28 H.length o ys (fun sl e h0 => by subst e; exact RS.lt E5_len (by decide) h.r h0) h.n ys.length n 0 none H (by omega) (by rw [List.take_zero]; rfl) (fun _ e => nomatch e) (Nat.le_refl _) h.r
  have k1 : Kp No H H1 := (Kp.refl No H).tr' r3
  obtain ⟨s, ars, H', f1, f2, f3, f4, f5⟩ := f41_x o1 ys (by have := h.n; omega) H1 r2.rs (h.no k1).src
  refine ⟨H1.length, s, ars, H', ?_, k1.len, f2, f3, f4, k1.tr f5⟩
  rw [e, h.r.slenEq, show (0 : Int) = ((0 : Nat) : Int) from rfl, r1, Ab.bs, J28_3_0, f1, Ab.bs]
/-- Has a store an address? -/
def Sto.has (s : Sto) (x : Int) : Bool := decide (IntKind.u64.wrap (x - s.at') < IntKind.u64.wrap s.w)
def Sto.byte (s : Sto) (x : Int) : Int := IntKind.u8.wrap (ishr .u64 s.v (IntKind.u64.wrap (8 * IntKind.u64.wrap (x - s.at'))))
/-- The last of the first n stores that has an address. -/
def hitN (l : List Sto) (x : Int) : Nat → Option Sto
  | 0 => none
  | n + 1 => match l[n]? with
    | some s => bif s.has x then some s else hitN l x n
    | none => none
def dataAt (ars : List Ar) (x : Int) : Int :=
  match ars[(findA ars x).toNat]? with
  | some a => match a.data[(IntKind.u64.wrap (x - a.lo)).toNat]? with | some c => (c.toNat : Int) | none => 0
  | none => 0
def seesA (ars : List Ar) (l : List Sto) (x : Int) : Int :=
  match hitN l x l.length with
  | some s => s.byte x
  | none => dataAt ars x
theorem gets3 {H : Heap} {s : Option Sl} {l : List Sto} (h : RS 3 E3 H s l) {i : Nat} {a : Sto} (hi : l[i]? = some a) :
    ∃ sl, s = some sl ∧ (inb (i : Int) sl.len && sl.esz == 3) = true ∧ H.get sl.id (sl.off + ((i : Nat) : Int).toNat * 3) = some (.int .u64 a.at') ∧ H.get sl.id (sl.off + ((i : Nat) : Int).toNat * 3 + 1) = some (.int .i64 a.w) ∧
      H.get sl.id (sl.off + ((i : Nat) : Int).toNat * 3 + 1 + 1) = some (.int .u64 a.v) := by
  obtain ⟨sl, e, h1, h2⟩ := h.idx E3_len hi
  exact ⟨sl, e, h1, by simpa using h2 0 _ rfl, by simpa using h2 1 _ rfl, by simpa using h2 2 _ rfl⟩
theorem caught64 {R : Type} (id off : Nat) (H : Heap) (K : Option Sl → Option R) : caught CC180.P 102 id off H K = (H.get id off).bind fun c => c.toSlice.bind K := by kernel_rfl
theorem D180_0 (t0 : Option (Nat × Nat)) (t5 t6 id off : Nat) (H : Heap) : D180_2 0 t0 t5 t6 id off H = some (.normal, H) := by kernel_rfl
theorem u64_nn (x : Int) : decide (IntKind.u64.wrap x < 0) = false := by
  rw [wrap_u64]
  simp only [decide_eq_false_iff_not]
  have := Int.emod_nonneg x (b := 18446744073709551616) (by decide)
  omega
theorem put1 {H : Heap} {id : Nat} {c d : Cell} (h : H[id]? = some (.row [c] false)) : H.put id 0 [d] = some (H.set id (.row [d] false)) := by
  rw [put_of h (by simp)]; rfl
theorem loop180 (l : List Sto) (r : Option Sl) (x : Int) (t0 : Option (Nat × Nat)) (t5 t6 id : Nat) (c : Cell) (H : Heap) (h1 : H.get id 0 = some (.slice r)) (h2 : RS 3 E3 H r l) (h3 : H.get t5 0 = some (.int .u64 x)) (h4 : H[t6]? = some (.row [c] false)) :
    ∀ n, n ≤ l.length → D180_2 n t0 t5 t6 id 0 H = match hitN l x n with | none => some (.normal, H) | some s => some (.ret, H.set t6 (.row [Cell.int .u8 (s.byte x)] false))
  | 0, _ => D180_0 ..
  | n + 1, hn => by
    have hlt : n < l.length := by omega
    obtain ⟨sl, rfl, g1, c0, c1, c2⟩ := gets3 h2 (List.getElem?_eq_getElem hlt)
    have ih := loop180 l (some sl) x t0 t5 t6 id c H h1 h2 h3 h4 n (by omega)
    rw [D180_2_s]
    simp only [h1, Ab.bs, tSlice, g1, ct, c0, c1, c2, tInt, h3, u64_nn, cf]
    unfold hitN
    rw [List.getElem?_eq_getElem hlt]
    dsimp only
    unfold Sto.has
    cases decide (IntKind.u64.wrap (x - l[n].at') < IntKind.u64.wrap l[n].w)
    · rw [cf, cf]; exact ih
    · rw [ct, ct, put1 h4, Ab.bs]; rfl
theorem inb8 {t : Int} (h : thrd t = true) : inb t 8 = true ∧ ∃ k : Nat, t = (k : Int) ∧ k < 8 := by
  unfold thrd at h
  simp only [Bool.and_eq_true, decide_eq_true_eq] at h
  refine ⟨by simp [inb]; omega, t.toNat, by omega, by omega⟩
/-- What is at an address that is found. -/
theorem data_get {H : Heap} {b L : Nat} {s : Option Sl} {ars : List Ar} {rs : List (Option Sl)} {β : Type} {en : Nat} {eE : β → List Cell} {rows : List (List β)} (h : MRg en eE H b L s ars rs rows) {x : Int} {k : Nat} {a : Ar} (hk : ars[k]? = some a) (hx : a.has x = true) (hn : a.data.length < 18446744073709551616) (hf : findA ars x = (k : Int)) :
    ∃ sl, a.sl = some sl ∧ (inb (IntKind.u64.wrap (x - a.lo)) sl.len && sl.esz == 1) = true ∧ H.get sl.id (sl.off + (IntKind.u64.wrap (x - a.lo)).toNat * 1) = some (.int .u8 (dataAt ars x)) := by
  obtain ⟨i, hi⟩ : ∃ i : Nat, IntKind.u64.wrap (x - a.lo) = (i : Int) := Int.eq_ofNat_of_zero_le (by rw [wrap_u64]; exact Int.emod_nonneg _ (by decide))
  have hd := (h.dt k a hk).rs
  unfold Ar.has at hx
  rw [hd.slenEq, hi] at hx
  have hx := of_decide_eq_true hx
  have e : IntKind.u64.wrap ((a.data.length : Nat) : Int) = ((a.data.length : Nat) : Int) := by rw [wrap_u64]; omega
  rw [e] at hx
  have hlt : i < a.data.length := by omega
  obtain ⟨sl, e1, e2, e3⟩ := hd.idx1 (List.getElem?_eq_getElem hlt) (e := fun c : UInt8 => Cell.int .u8 (c.toNat : Int)) (fun _ => rfl)
  refine ⟨sl, e1, by rw [hi]; exact e2, ?_⟩
  rw [hi, e3]
  unfold dataAt
  have e4 : ars[(findA ars x).toNat]? = some a := by rw [hf]; exact hk
  rw [e4]
  dsimp only
  rw [hi, show ((i : Nat) : Int).toNat = i from rfl, List.getElem?_eq_getElem hlt]
theorem f180_x {H : Heap} {b L : Nat} {s : Option Sl} {ars : List Ar} {rs : List (Option Sl)} {rows : List (List Sto)} (h : MR H b L s ars rs rows) (hn : ars.length ≤ 1000) (hd : ∀ a, a ∈ ars → a.data.length ≤ 1048576) (t x : Int) (ht : thrd t = true) {l : List Sto} (hl : rows[t.toNat]? = some l) (hll : l.length < 9223372036854775807)
    {k : Nat} {a : Ar} (hk : ars[k]? = some a) (hx : a.has x = true) (hf : findA ars x = (k : Int)) : Says (f180 (some (b, 0)) t x H) H (seesA ars l x) := by
  obtain ⟨i8, t, rfl, ht8⟩ := inb8 ht
  have hl : rows[t]? = some l := hl
  have hlr : t < rs.length := by rw [h.rl]; exact ht8
  have hr := List.getElem?_eq_getElem hlr
  rw [q180]
  simp only [Ab.bs, i8, ct]
  have kX := Kp.push1 H (Blk.row [Cell.int .u64 x] false)
  generalize hX : H ++ [Blk.row [Cell.int .u64 x] false] = X at *
  have kY := Kp.push1 X (Blk.row [Cell.int .u8 0] false)
  have bX : X[H.length]? = some (.row [Cell.int .u64 x] false) := by rw [← hX]; exact push_get _ _
  have lX : H.length ≤ X.length := kX.len
  generalize hY : X ++ [Blk.row [Cell.int .u8 0] false] = Y at *
  have bY : Y[X.length]? = some (.row [Cell.int .u8 0] false) := by rw [← hY]; exact push_get _ _
  have mY := (h.no kX).no kY
  have g0 : Y.get b (0 + 1 + ((t : Nat) : Int).toNat * 1) = some (.slice rs[t]) := by
    rw [get_of mY.hd, show 0 + 1 + ((t : Nat) : Int).toNat * 1 = t + 1 by omega, List.getElem?_cons_succ, List.getElem?_map, hr]
    rfl
  rw [g0, Ab.bs, tSlice, Ab.bs]
  have kZ := Kp.push1 Y (Blk.row [Cell.slice rs[t]] false)
  have bZ : (Y ++ [Blk.row [Cell.slice rs[t]] false])[Y.length]? = some (.row [Cell.slice rs[t]] false) := push_get _ _
  generalize hZ : Y ++ [Blk.row [Cell.slice rs[t]] false] = Z at *
  have mZ := mY.no kZ
  have bZ0 := kZ.bk (kY.bk bX)
  have bZ1 := kZ.bk bY
  have kHZ : Kp No H Z := (kX.tr kY).tr kZ
  have q1 : Z.get Y.length 0 = some (.slice rs[t]) := by rw [get_of bZ]; rfl
  have q2 : Z.get H.length 0 = some (.int .u64 x) := by rw [get_of bZ0]; rfl
  have hrow := (mZ.ro t _ l hr hl).rs
  rw [LL180_2_r, caught64, q1, Ab.bs, tSlice, Ab.bs]
  have hsl : slen rs[t] = (l.length : Int) := hrow.slenEq
  rw [hsl, show decide (((l.length : Nat) : Int) ≤ 9223372036854775807) = true by simp; omega, ct, show (((l.length : Nat) : Int)).toNat = l.length from rfl,
    loop180 l rs[t] x (some (b, 0)) H.length X.length Y.length (Cell.int .u8 0) Z q1 hrow q2 bZ1 l.length (Nat.le_refl _)]
  unfold seesA
  cases hitN l x l.length with
  | some st =>
    dsimp only
    rw [Ab.bs, Ab.bs, XR180_2_x, J180_2_1]
    have bb : (Z.set X.length (.row [Cell.int .u8 (st.byte x)] false))[X.length]? = some (.row [Cell.int .u8 (st.byte x)] false) := set_get' (lt_of bZ1)
    rw [get_of bb]
    refine ⟨_, by rw [show ([Cell.int .u8 (st.byte x)] : List Cell)[0]? = some (Cell.int .u8 (st.byte x)) from rfl, Ab.bs, tInt, Ab.bs], ?_⟩
    exact kHZ.trSet (Kp.set _ _ _) lX
  | none =>
    dsimp only
    rw [Ab.bs, Ab.bs, XR180_2_x, J180_2_0]
    have rdZ := mZ.rd (by omega)
    obtain ⟨H', e1, e2⟩ := f138_x (b, 0) ars x Z rdZ
    have gs : Z.get b (0 + 0) = some (.slice s) := by rw [get_of mZ.hd]; rfl
    have mH := mZ.no e2
    obtain ⟨sl, rfl, g1, c0, c1, c2, c3, c4⟩ := gets5 mH.ar.rs hk
    obtain ⟨sd, d1, d2, d3⟩ := data_get mH hk hx (by have := hd a (List.mem_of_getElem? hk); omega) hf
    have q3 : H'.get H.length 0 = some (.int .u64 x) := e2.gt q2
    have bH := e2.bk bZ1
    have sm : ∀ o n, sameC b o n Z H' = true := e2.same1 (lt_of mZ.hd)
    simp only [Ab.bs, gs, tSlice, q2, tInt, e1, sm, ct, hf, g1, c0, c1, c2, c3, c4, tBool, q3, d1, d2, d3, put1 bH]
    have bb : (H'.set X.length (.row [Cell.int .u8 (dataAt ars x)] false))[X.length]? = some (.row [Cell.int .u8 (dataAt ars x)] false) := set_get' (lt_of bH)
    rw [get_of bb]
    refine ⟨_, by rw [show ([Cell.int .u8 (dataAt ars x)] : List Cell)[0]? = some (Cell.int .u8 (dataAt ars x)) from rfl, Ab.bs, tInt, Ab.bs], ?_⟩
    exact (kHZ.tr e2).trSet (Kp.set _ _ _) lX
/-- What is loaded. -/
def loadN (ars : List Ar) (l : List Sto) (x : Int) : Nat → Nat → Int → Int
  | _, 0, v => v
  | i, n + 1, v => loadN ars l x (i + 1) n (bor .u64 v (ishl .u64 (IntKind.u64.wrap (seesA ars l (IntKind.u64.wrap (x + (i : Int))))) (IntKind.u64.wrap (8 * (i : Int)))))
theorem there_find {ars : List Ar} {t x : Int} {w : Bool} (h : thereA ars t x w = true) : ∃ (k : Nat) (a : Ar), ars[k]? = some a ∧ a.has x = true ∧ findA ars x = (k : Int) := by
  rcases findA_cases ars x with e | e
  · unfold thereA at h
    rw [e] at h
    cases hq : ars[(-1 : Int).toNat]? with
    | none => rw [hq] at h; cases h
    | some a => rw [hq] at h; simp at h
  · exact e
theorem loop164 {b L : Nat} {s : Option Sl} {ars : List Ar} {rs : List (Option Sl)} {rows : List (List Sto)} (hn : ars.length ≤ 1000) (hd : ∀ a, a ∈ ars → a.data.length ≤ 1048576) (t x : Int) (ht : thrd t = true) {l : List Sto} (hl : rows[t.toNat]? = some l) (hll : l.length < 9223372036854775807) (N : Nat) (hN : N ≤ 8) :
    ∀ (m n i : Nat) (v : Int) (H : Heap), MR H b L s ars rs rows → i + m = N → allThere ars t x false i m = true →
      Says ((D164_5 (n + m + 1) (some (b, 0)) t x v (N : Int) (i : Int) H).bind J164_5) H (loadN ars l x i m v, true)
  | 0, n, i, v, H, h, hm, ha => by
    have g : decide ((i : Int) < (N : Int)) = false := by simp; omega
    rw [D164_5_s, g, cf, Ab.bs, J164_5_0]
    exact says_ret rfl
  | m + 1, n, i, v, H, h, hm, ha => by
    have g : decide ((i : Int) < (N : Int)) = true := by simp; omega
    unfold allThere at ha
    simp only [Bool.and_eq_true] at ha
    obtain ⟨k, a, f1, f2, f3⟩ := there_find ha.1
    obtain ⟨H', e, kk⟩ := f180_x h hn hd t _ ht hl hll f1 f2 f3
    rw [show n + (m + 1) + 1 = (n + m + 1) + 1 by omega, D164_5_s, g, ct, e, Ab.bs]
    simp only [u64_nn, cf, u64_succ i (by omega)]
    exact says_kp kk (loop164 hn hd t x ht hl hll N hN m n (i + 1) _ H' (h.no kk) (by omega) ha.2)
theorem f164_yes {H : Heap} {b L : Nat} {s : Option Sl} {ars : List Ar} {rs : List (Option Sl)} {rows : List (List Sto)} (h : MR H b L s ars rs rows) (hn : ars.length ≤ 1000) (hd : ∀ a, a ∈ ars → a.data.length ≤ 1048576) (t x w : Int) {l : List Sto} (hl : rows[t.toNat]? = some l) (hll : l.length < 9223372036854775807)
    (hm : mayA ars t x w false = true) : Says (f164 (some (b, 0)) t x w H) H (loadN ars l x 0 w.toNat 0, true) := by
  rw [q164]
  refine says_bind (f59_x (b, 0) ars t x w false H (h.rd (by omega))) fun H' k => ?_
  rw [hm]
  simp only [Bool.not_true, cf]
  unfold mayA at hm
  simp only [Bool.and_eq_true] at hm
  obtain ⟨ht, hw, _, ha⟩ := hm
  have hw := isW8_w hw
  have e1 : IntKind.u64.wrap w = ((w.toNat : Nat) : Int) := by rw [wrap_u64]; omega
  obtain ⟨n, e⟩ := LL164_5_of w.toNat (by omega) (some (b, 0)) t x 0 (IntKind.u64.wrap w) 0 H'
  rw [e, e1]
  exact loop164 hn hd t x ht hl hll w.toNat (by omega) w.toNat n 0 0 H' (h.no k) (by omega) ha
theorem area_of {H : Heap} {n : Nat} (cs : List Cell) (h : Sh Tryz.prog H (n + 3) 68 cs) : ∃ a : Ar, cs = E5 a ∧ RS 1 E8 H a.sl a.data := by
  obtain ⟨h1, h2⟩ := sh_struct h Tryz.underlying68
  have h1 : cs.length = 5 := h1.trans (by kernel_rfl)
  have hc : Tryz.prog.cellsOf 3 = 1 := by kernel_rfl
  have hb : Tryz.prog.cellsOf 4 = 1 := by kernel_rfl
  have hu : Tryz.prog.cellsOf 22 = 1 := by kernel_rfl
  have hs : Tryz.prog.cellsOf 65 = 1 := by kernel_rfl
  obtain ⟨y0, z0, _⟩ := sh_int (h2 0 _ rfl) Tryz.underlying22
  obtain ⟨y1, B, z1, hB, _⟩ := sh_slice E8 (fun _ => True) E8_len (h2 1 _ rfl) Tryz.underlying65 (by kernel_rfl) (u8_of Tryz.underlying5)
  obtain ⟨y2, z2⟩ := sh_bool (h2 2 _ rfl) Tryz.underlying4
  obtain ⟨y3, z3⟩ := sh_bool (h2 3 _ rfl) Tryz.underlying4
  obtain ⟨y4, z4, _⟩ := sh_int (h2 4 _ rfl) Tryz.underlying3
  rw [hu] at z0
  rw [hs] at z1
  rw [hb] at z2 z3
  rw [hc] at z4
  have w0 := drop_app (o := 0) z0 rfl
  have w1 := drop_app (o := 1) z1 rfl
  have w2 := drop_app (o := 2) z2 rfl
  have w3 := drop_app (o := 3) z3 rfl
  have w4 := drop_app (o := 4) z4 rfl
  have wx : cs.drop 5 = [] := List.drop_eq_nil_of_le (by omega)
  exact ⟨⟨y0, y1, B, y2, y3, y4⟩, by rw [List.drop_zero] at w0; rw [w0, w1, w2, w3, w4, wx]; rfl, hB⟩
/-- A call. -/
structure Cal where
  kind : Int
  t : Int
  near : Bool
  inn : Int
  at' : Int
  w : Int
  v : Int
def E7 (o : Cal) : List Cell := [.int .i64 o.kind, .int .i64 o.t, .bool o.near, .int .i64 o.inn, .int .u64 o.at', .int .i64 o.w, .int .u64 o.v]
theorem E7_len (o : Cal) : (E7 o).length = 7 := rfl
def u64p (x : Int) : Prop := 0 ≤ x ∧ x < 18446744073709551616
def i64p (x : Int) : Prop := -9223372036854775808 ≤ x ∧ x < 9223372036854775808
theorem i64_of {x : Int} (hx : (Lit.int .i64 x).wf = true) : i64p x := by
  unfold i64p
  have : -9223372036854775808 ≤ x ∧ x ≤ 9223372036854775807 := by simpa [Lit.wf, IntKind.min, IntKind.max, IntKind.signed, IntKind.bits] using hx
  omega
theorem u64_of {x : Int} (hx : (Lit.int .u64 x).wf = true) : u64p x := by
  unfold u64p
  have : 0 ≤ x ∧ x ≤ 18446744073709551615 := by simpa [Lit.wf, IntKind.min, IntKind.max, IntKind.signed, IntKind.bits] using hx
  omega
structure Cal.Wf (o : Cal) : Prop where
  a : u64p o.at'
  w : i64p o.w
  v : u64p o.v
  t : i64p o.t
  i : i64p o.inn
theorem cal_of {H : Heap} {n : Nat} (cs : List Cell) (h : Sh Tryz.prog H (n + 2) 78 cs) : ∃ o : Cal, cs = E7 o ∧ o.Wf := by
  obtain ⟨h1, h2⟩ := sh_struct h Tryz.underlying78
  have h1 : cs.length = 7 := h1.trans (by kernel_rfl)
  have hc : Tryz.prog.cellsOf 3 = 1 := by kernel_rfl
  have hb : Tryz.prog.cellsOf 4 = 1 := by kernel_rfl
  have hu : Tryz.prog.cellsOf 22 = 1 := by kernel_rfl
  obtain ⟨y0, z0, _⟩ := sh_int (h2 0 _ rfl) Tryz.underlying3
  obtain ⟨y1, z1, v1⟩ := sh_int (h2 1 _ rfl) Tryz.underlying3
  obtain ⟨y2, z2⟩ := sh_bool (h2 2 _ rfl) Tryz.underlying4
  obtain ⟨y3, z3, v3⟩ := sh_int (h2 3 _ rfl) Tryz.underlying3
  obtain ⟨y4, z4, v4⟩ := sh_int (h2 4 _ rfl) Tryz.underlying22
  obtain ⟨y5, z5, v5⟩ := sh_int (h2 5 _ rfl) Tryz.underlying3
  obtain ⟨y6, z6, v6⟩ := sh_int (h2 6 _ rfl) Tryz.underlying22
  rw [hc] at z0 z1 z3 z5
  rw [hb] at z2
  rw [hu] at z4 z6
  have w0 := drop_app (o := 0) z0 rfl
  have w1 := drop_app (o := 1) z1 rfl
  have w2 := drop_app (o := 2) z2 rfl
  have w3 := drop_app (o := 3) z3 rfl
  have w4 := drop_app (o := 4) z4 rfl
  have w5 := drop_app (o := 5) z5 rfl
  have w6 := drop_app (o := 6) z6 rfl
  have wx : cs.drop 7 = [] := List.drop_eq_nil_of_le (by omega)
  exact ⟨⟨y0, y1, y2, y3, y4, y5, y6⟩, by rw [List.drop_zero] at w0; rw [w0, w1, w2, w3, w4, w5, w6, wx]; rfl, ⟨u64_of v4, i64_of v5, u64_of v6, i64_of v1, i64_of v3⟩⟩
/-! ### areas but for their bytes -/
def Ar.shape (a : Ar) : Int × Option Sl × Bool × Bool × Int := (a.lo, a.sl, a.wr, a.pr, a.ow)
def shapes (ars : List Ar) : List (Int × Option Sl × Bool × Bool × Int) := ars.map Ar.shape
theorem shape_iff {a c : Ar} (h : a.shape = c.shape) : a.lo = c.lo ∧ a.sl = c.sl ∧ a.wr = c.wr ∧ a.pr = c.pr ∧ a.ow = c.ow := by
  simp only [Ar.shape, Prod.mk.injEq] at h; exact h
theorem has_shape {a c : Ar} (h : a.shape = c.shape) (x : Int) : a.has x = c.has x := by
  obtain ⟨h1, h2, _⟩ := shape_iff h
  unfold Ar.has; rw [h1, h2]
theorem find_shape (x : Int) : ∀ (l m : List Ar) (i : Nat), shapes l = shapes m → findFrom x l i = findFrom x m i
  | [], [], i, _ => rfl
  | [], _ :: _, i, h => by simp [shapes] at h
  | _ :: _, [], i, h => by simp [shapes] at h
  | a :: l, c :: m, i, h => by
    simp only [shapes, List.map_cons, List.cons.injEq] at h
    unfold findFrom
    rw [has_shape h.1 x, find_shape x l m (i + 1) h.2]
theorem findA_shape {l m : List Ar} (h : shapes l = shapes m) (x : Int) : findA l x = findA m x := find_shape x l m 0 h
theorem shape_at {l m : List Ar} (h : shapes l = shapes m) (k : Nat) : (l[k]?).map Ar.shape = (m[k]?).map Ar.shape := by
  rw [← List.getElem?_map, ← List.getElem?_map]
  exact congrArg (·[k]?) h
theorem there_shape {l m : List Ar} (h : shapes l = shapes m) (t x : Int) (w : Bool) : thereA l t x w = thereA m t x w := by
  unfold thereA
  rw [findA_shape h x]
  have := shape_at h (findA m x).toNat
  cases h1 : l[(findA m x).toNat]? with
  | none =>
    rw [h1] at this
    cases h2 : m[(findA m x).toNat]? with
    | none => rfl
    | some c => rw [h2] at this; simp at this
  | some a =>
    rw [h1] at this
    cases h2 : m[(findA m x).toNat]? with
    | none => rw [h2] at this; simp at this
    | some c =>
      rw [h2] at this
      obtain ⟨e1, e2, e3, e4, e5⟩ := shape_iff (Option.some.inj this)
      dsimp only
      rw [e3, e4, e5]
theorem all_shape {l m : List Ar} (h : shapes l = shapes m) (t x : Int) (w : Bool) : ∀ n i, allThere l t x w i n = allThere m t x w i n
  | 0, _ => rfl
  | n + 1, i => by unfold allThere; rw [there_shape h, all_shape h t x w n (i + 1)]
theorem may_shape {l m : List Ar} (h : shapes l = shapes m) (t x w : Int) (wr : Bool) : mayA l t x w wr = mayA m t x w wr := by
  unfold mayA; rw [all_shape h]
theorem shape_set {ars : List Ar} {k : Nat} {a c : Ar} (hk : ars[k]? = some a) (h : c.shape = a.shape) : shapes (ars.set k c) = shapes ars := by
  unfold shapes
  rw [List.map_set, h]
  refine List.ext_getElem? fun j => ?_
  by_cases e : k = j
  · subst e
    have hl := (List.getElem?_eq_some_iff.1 hk).1
    rw [List.getElem?_set_self (by simpa using hl), List.getElem?_map, hk]; rfl
  · rw [List.getElem?_set_ne e]
theorem OS.same {α : Type} {n : Nat} {E : α → List Cell} {H : Heap} {s : Option Sl} {l m : List α} (h : OS n E H s l) (hl : l.length = m.length) (he : l.flatMap E = m.flatMap E) : OS n E H s m := by
  cases s with
  | none =>
    have h : l = [] := h
    rw [h] at hl
    exact List.eq_nil_of_length_eq_zero hl.symm
  | some sl =>
    obtain ⟨h1, h2, h3, row, h4, h5, h6⟩ := h
    exact ⟨by rw [h1, hl], h2, h3, row, h4, h5, fun i c e => h6 i c (by rw [he]; exact e)⟩
theorem flat_shape {l m : List Ar} (h : shapes l = shapes m) : l.flatMap E5 = m.flatMap E5 := by
  have : ∀ l : List Ar, l.flatMap E5 = (shapes l).flatMap fun p => [.int .u64 p.1, .slice p.2.1, .bool p.2.2.1, .bool p.2.2.2.1, .int .i64 p.2.2.2.2] := fun l => by
    unfold shapes
    rw [List.flatMap_map]; rfl
  rw [this, this, h]
theorem len_shape {l m : List Ar} (h : shapes l = shapes m) : l.length = m.length := by
  have := congrArg List.length h
  simpa [shapes] using this
theorem id_shape {b : Nat} {s : Option Sl} {l m : List Ar} {rs : List (Option Sl)} (h : shapes l = shapes m) (x : Slot) : idAt b s l rs x = idAt b s m rs x := by
  cases x with
  | dt k =>
    simp only [idAt]
    have := shape_at h k
    cases h1 : l[k]? with
    | none =>
      rw [h1] at this
      cases h2 : m[k]? with
      | none => rfl
      | some c => rw [h2] at this; simp at this
    | some a =>
      rw [h1] at this
      cases h2 : m[k]? with
      | none => rw [h2] at this; simp at this
      | some c =>
        rw [h2] at this
        simp only [Option.bind_some]
        rw [(shape_iff (Option.some.inj this)).2.1]
  | _ => rfl
/-! ### what a step of memory moves: its own blocks alone -/
def InM (b : Nat) (s : Option Sl) (ars : List Ar) (rs : List (Option Sl)) (i : Nat) : Prop := ∃ x, idAt b s ars rs x = some i
structure Stp (b : Nat) (s : Option Sl) (ars : List Ar) (rs : List (Option Sl)) (ars' : List Ar) (rs' : List (Option Sl)) (H H' : Heap) : Prop where
  k : Kp (InM b s ars rs) H H'
  ids : ∀ i, InM b s ars' rs' i → InM b s ars rs i ∨ H.length ≤ i
theorem Stp.no {b : Nat} {s : Option Sl} {ars : List Ar} {rs : List (Option Sl)} {H H' : Heap} (k : Kp No H H') : Stp b s ars rs ars rs H H' := ⟨k.mono fun i _ hf => absurd hf (fun h => h), fun i h => .inl h⟩
theorem Stp.trans {b : Nat} {s : Option Sl} {a0 a1 a2 : List Ar} {r0 r1 r2 : List (Option Sl)} {H0 H1 H2 : Heap} (p : Stp b s a0 r0 a1 r1 H0 H1) (q : Stp b s a1 r1 a2 r2 H1 H2) : Stp b s a0 r0 a2 r2 H0 H2 := by
  refine ⟨p.k.trans q.k (fun _ h => h) fun i hi hf => ?_, fun i h => ?_⟩
  · rcases p.ids i hf with e | e
    · exact e
    · omega
  · rcases q.ids i h with e | e
    · exact p.ids i e
    · exact .inr (Nat.le_trans p.k.len e)
theorem MRg.other {H H' : Heap} {F : Nat → Prop} {b L : Nat} {s : Option Sl} {ars : List Ar} {rs : List (Option Sl)} {β : Type} {en : Nat} {eE : β → List Cell} {rows : List (List β)} (h : MRg en eE H b L s ars rs rows) (k : Kp F H H') (hd : ∀ i, InM b s ars rs i → ¬ F i) : MRg en eE H' b L s ars rs rows :=
  ⟨k.at h.hd (hd b ⟨.hd, rfl⟩), OS.other h.ar k fun i hi => hd i ⟨.ar, hi⟩, fun j a e => OS.other (h.dt j a e) k fun i hi => hd i ⟨.dt j, by simp only [idAt, e, Option.bind_some]; exact hi⟩,
    fun t r l e f => OS.other (h.ro t r l e f) k fun i hi => hd i ⟨.row t, by simp only [idAt, e, Option.bind_some]; exact hi⟩, h.rl, h.rw, h.inj, h.ge, fun x i e => Nat.lt_of_lt_of_le (h.lt x i e) k.len⟩
theorem Stp.le {H H' : Heap} {b L : Nat} {s : Option Sl} {ars ars' : List Ar} {rs rs' : List (Option Sl)} {β : Type} {en : Nat} {eE : β → List Cell} {rows : List (List β)} (p : Stp b s ars rs ars' rs' H H') (h : MRg en eE H b L s ars rs rows) : Kp (fun i => L ≤ i) H H' :=
  p.k.mono fun i _ ⟨x, e⟩ => h.ge x i e
/-! ### one byte -/
def u8v (z : Int) : UInt8 := UInt8.ofNat z.toNat
theorem u8v_eq {z : Int} (h0 : 0 ≤ z) (h1 : z < 256) : ((u8v z).toNat : Int) = z := by
  unfold u8v
  rw [UInt8.toNat_ofNat']
  omega
theorem MRg.byte {H : Heap} {b L : Nat} {s : Option Sl} {ars : List Ar} {rs : List (Option Sl)} {β : Type} {en : Nat} {eE : β → List Cell} {rows : List (List β)} (h : MRg en eE H b L s ars rs rows) {k : Nat} {a : Ar} (hk : ars[k]? = some a) {i : Nat} (hi : i < a.data.length) (c : UInt8) :
    ∃ sd H', a.sl = some sd ∧ H.put sd.id (sd.off + ((i : Nat) : Int).toNat * 1) [Cell.int .u8 (c.toNat : Int)] = some H' ∧ MRg en eE H' b L s (ars.set k { a with data := a.data.set i c }) rs rows ∧ Stp b s ars rs (ars.set k { a with data := a.data.set i c }) rs H H' := by
  have hd := h.dt k a hk
  obtain ⟨sd, hsl⟩ : ∃ sd, a.sl = some sd := by
    cases e : a.sl with
    | some sd => exact ⟨sd, rfl⟩
    | none =>
      rw [e] at hd
      have hd : a.data = [] := hd
      rw [hd] at hi; simp at hi
  · rw [hsl] at hd
    obtain ⟨H', e1, e2, e3, e4⟩ := OS.put E8_len hd (i := i) (j := 0) (x := a.data[i]) (y := c) (vs := [Cell.int .u8 (c.toNat : Int)]) (List.getElem?_eq_getElem hi) (by simp) rfl
    have hsh : shapes (ars.set k { a with data := a.data.set i c }) = shapes ars := shape_set hk rfl
    have hidk : idAt b s ars rs (.dt k) = some sd.id := by simp only [idAt, hk, Option.bind_some, hsl]; rfl
    have hid : ∀ x : Slot, x ≠ .dt k → ∀ i, idAt b s ars rs x = some i → i ≠ sd.id := by
      rintro x hx i hi rfl
      exact hx (h.inj x (.dt k) sd.id hi hidk)
    refine ⟨sd, H', hsl, e1, ⟨?_, ?_, ?_, ?_, h.rl, h.rw, ?_, ?_, ?_⟩, e3.mono fun i _ hf => ?_, fun i hi => ?_⟩
    · exact e3.at h.hd fun hf => hid .hd (by intro x; cases x) b rfl hf
    · exact OS.same (OS.other h.ar e3 fun i hi hf => hid .ar (by intro x; cases x) i hi hf) (len_shape hsh).symm (flat_shape hsh).symm
    · intro j d hj
      rcases set_at hj with ⟨rfl, rfl, _⟩ | ⟨hne, hj⟩
      · show OS 1 E8 H' a.sl (a.data.set i c)
        rw [hsl]; exact e2
      · exact OS.other (h.dt j d hj) e3 fun i hi hf => hid (.dt j) (by intro x; cases x; exact hne rfl) i (by simp only [idAt, hj, Option.bind_some]; exact hi) hf
    · intro t r l hr hl
      exact OS.other (h.ro t r l hr hl) e3 fun i hi hf => hid (.row t) (by intro x; cases x) i (by simp only [idAt, hr, Option.bind_some]; exact hi) hf
    · intro x y i hx hy
      rw [id_shape hsh] at hx hy
      exact h.inj x y i hx hy
    · intro x i hx; rw [id_shape hsh] at hx; exact h.ge x i hx
    · intro x i hx; rw [id_shape hsh] at hx; rw [e4]; exact h.lt x i hx
    · have : i = sd.id := hf
      rw [this]; exact ⟨_, hidk⟩
    · obtain ⟨x, hx⟩ := hi
      rw [id_shape hsh] at hx
      exact .inl ⟨x, hx⟩
/-! ### a store -/
def byteOf (v : Int) (i : Nat) : Int := IntKind.u8.wrap (ishr .u64 v (IntKind.u64.wrap (8 * (i : Int))))
def wr1 (ars : List Ar) (x : Int) (c : UInt8) : List Ar :=
  match ars[(findA ars x).toNat]? with
  | some a => ars.set (findA ars x).toNat { a with data := a.data.set (IntKind.u64.wrap (x - a.lo)).toNat c }
  | none => ars
theorem wr1_shape (ars : List Ar) (x : Int) (c : UInt8) : shapes (wr1 ars x c) = shapes ars := by
  unfold wr1
  cases h : ars[(findA ars x).toNat]? with
  | none => rfl
  | some a => exact shape_set h rfl
def writeN (ars : List Ar) (x v : Int) : Nat → Nat → List Ar
  | _, 0 => ars
  | i, n + 1 => writeN (wr1 ars (IntKind.u64.wrap (x + (i : Int))) (u8v (byteOf v i))) x v (i + 1) n
theorem writeN_shape (x v : Int) : ∀ (n i : Nat) (ars : List Ar), shapes (writeN ars x v i n) = shapes ars
  | 0, _, _ => rfl
  | n + 1, i, ars => by unfold writeN; rw [writeN_shape x v n (i + 1), wr1_shape]
/-- All bytes of a place are in areas. -/
def Found (ars : List Ar) (x : Int) (i n : Nat) : Prop := ∀ j, i ≤ j → j < i + n → ∃ (k : Nat) (a : Ar), ars[k]? = some a ∧ a.has (IntKind.u64.wrap (x + (j : Int))) = true ∧ findA ars (IntKind.u64.wrap (x + (j : Int))) = (k : Int)
theorem found_shape {l m : List Ar} (h : shapes l = shapes m) {x : Int} {i n : Nat} (hf : Found l x i n) : Found m x i n := fun j h1 h2 => by
  obtain ⟨k, a, e1, e2, e3⟩ := hf j h1 h2
  have := shape_at h k
  rw [e1] at this
  cases h3 : m[k]? with
  | none => rw [h3] at this; simp at this
  | some c =>
    rw [h3] at this
    exact ⟨k, c, h3, by rw [← has_shape (Option.some.inj this)]; exact e2, by rw [← findA_shape h]; exact e3⟩
theorem found_all {ars : List Ar} {t x : Int} {w : Bool} : ∀ {n i : Nat}, allThere ars t x w i n = true → Found ars x i n
  | 0, i, _ => fun j h1 h2 => by omega
  | n + 1, i, h => fun j h1 h2 => by
    unfold allThere at h
    simp only [Bool.and_eq_true] at h
    by_cases e : j = i
    · subst e; exact there_find h.1
    · exact found_all h.2 j (by omega) (by omega)
theorem u8_range (z : Int) : 0 ≤ IntKind.u8.wrap z ∧ IntKind.u8.wrap z < 256 := by
  simp [IntKind.wrap, IntKind.bits, IntKind.signed]
  omega
theorem loop83 {b L : Nat} {s : Option Sl} {rs : List (Option Sl)} {rows : List (List Sto)} (x w v : Int) (N : Nat) (hN : N ≤ 8) : ∀ (m n i : Nat) (ars : List Ar) (H : Heap), MR H b L s ars rs rows → ars.length ≤ 1000 → (∀ a, a ∈ ars → a.data.length ≤ 1048576) → i + m = N → Found ars x i m →
    ∃ H', (D83_2 (n + m + 1) (some (b, 0)) (N : Int) (i : Int) x w v H).bind J83_2 = some ((), H') ∧ MR H' b L s (writeN ars x v i m) rs rows ∧ Stp b s ars rs (writeN ars x v i m) rs H H'
  | 0, n, i, ars, H, h, hn, hd, hm, hf => by
    have g : decide ((i : Int) < (N : Int)) = false := by simp; omega
    refine ⟨H, by rw [D83_2_s, g, cf, Ab.bs, J83_2_0], h, Stp.no (Kp.refl _ _)⟩
  | m + 1, n, i, ars, H, h, hn, hd, hm, hf => by
    have g : decide ((i : Int) < (N : Int)) = true := by simp; omega
    obtain ⟨k, a, f1, f2, f3⟩ := hf i (Nat.le_refl _) (by omega)
    obtain ⟨H1, e1, e2⟩ := f138_x (b, 0) ars (IntKind.u64.wrap (x + (i : Int))) H (h.rd (by omega))
    have m1 := h.no e2
    have gs : H.get b (0 + 0) = some (.slice s) := by rw [get_of h.hd]; rfl
    have sm : ∀ o n, sameC b o n H H1 = true := e2.same1 (lt_of h.hd)
    obtain ⟨sl, rfl, g1, c0, c1, c2, c3, c4⟩ := gets5 m1.ar.rs f1
    have hda := hd a (List.mem_of_getElem? f1)
    obtain ⟨sd, d1, d2, d3⟩ := data_get m1 f1 f2 (by omega) f3
    obtain ⟨j, hj⟩ : ∃ j : Nat, IntKind.u64.wrap (IntKind.u64.wrap (x + (i : Int)) - a.lo) = (j : Int) := Int.eq_ofNat_of_zero_le (by rw [wrap_u64]; exact Int.emod_nonneg _ (by decide))
    have hlt : j < a.data.length := by
      unfold Ar.has at f2
      rw [(m1.dt k a f1).rs.slenEq, hj] at f2
      have f2 := of_decide_eq_true f2
      rw [wrap_u64] at f2
      omega
    obtain ⟨sd', H2, p1, p2, p3, p4⟩ := m1.byte f1 hlt (u8v (byteOf v i))
    rw [d1] at p1; cases p1
    have hw1 : wr1 ars (IntKind.u64.wrap (x + (i : Int))) (u8v (byteOf v i)) = ars.set k { a with data := a.data.set j (u8v (byteOf v i)) } := by
      unfold wr1
      rw [f3]
      have e4 : ars[((k : Nat) : Int).toNat]? = some a := f1
      rw [e4]
      dsimp only
      rw [hj]; rfl
    have hsh := wr1_shape ars (IntKind.u64.wrap (x + (i : Int))) (u8v (byteOf v i))
    have hd2 : ∀ c, c ∈ wr1 ars (IntKind.u64.wrap (x + (i : Int))) (u8v (byteOf v i)) → c.data.length ≤ 1048576 := fun c hc => by
      rw [hw1] at hc
      obtain ⟨q, hq⟩ := List.mem_iff_getElem?.1 hc
      rcases set_at hq with ⟨_, rfl, _⟩ | ⟨_, hq⟩
      · simpa using hda
      · exact hd c (List.mem_of_getElem? hq)
    rw [← hw1] at p3 p4
    obtain ⟨H3, r1, r2, r3⟩ := loop83 x w v N hN m n (i + 1) _ H2 p3 (by rw [len_shape hsh]; exact hn) hd2 (by omega) (found_shape hsh.symm fun q h1 h2 => hf q (by omega) (by omega))
    refine ⟨H3, ?_, r2, ((Stp.no e2).trans p4).trans r3⟩
    rw [show n + (m + 1) + 1 = (n + m + 1) + 1 by omega, D83_2_s, g]
    have hb : IntKind.u8.wrap (ishr .u64 v (IntKind.u64.wrap (8 * (i : Int)))) = ((u8v (byteOf v i)).toNat : Int) := (u8v_eq (u8_range _).1 (u8_range _).2).symm
    simp only [ct, Ab.bs, gs, tSlice, e1, sm, f3, g1, c0, c1, c2, c3, c4, tInt, tBool, u64_nn, cf, d1, d2]
    rw [hb, hj, p2, Ab.bs, u64_succ i (by omega)]
    exact r1
/-- A store comes into memory. -/
theorem f83_x {H : Heap} {b L : Nat} {s : Option Sl} {ars : List Ar} {rs : List (Option Sl)} {rows : List (List Sto)} (h : MR H b L s ars rs rows) (hn : ars.length ≤ 1000) (hd : ∀ a, a ∈ ars → a.data.length ≤ 1048576) (x w v : Int) (hw : isW8 w = true) (hf : Found ars x 0 w.toNat) :
    ∃ H', f83 (some (b, 0)) x w v H = some ((), H') ∧ MR H' b L s (writeN ars x v 0 w.toNat) rs rows ∧ Stp b s ars rs (writeN ars x v 0 w.toNat) rs H H' := by
  rw [q83]
  have hw := isW8_w hw
  have e1 : IntKind.u64.wrap w = ((w.toNat : Nat) : Int) := by rw [wrap_u64]; omega
  obtain ⟨n, e⟩ := LL83_2_of w.toNat (by omega) (some (b, 0)) (IntKind.u64.wrap w) 0 x w v H
  obtain ⟨H', r⟩ := loop83 x w v w.toNat (by omega) w.toNat n 0 ars H h hn hd (by omega) hf
  refine ⟨H', ?_, r.2⟩
  rw [e, e1]
  exact r.1
theorem splice_row (x : Cell) (l : List Cell) (t : Nat) (c : Cell) (h : t < l.length) : splice (x :: l) (t + 1) [c] = x :: l.set t c := by
  unfold splice
  rw [List.set_eq_take_append_cons_drop, if_pos h]
  simp
theorem slot_row {b : Nat} {s : Option Sl} {ars : List Ar} {rs : List (Option Sl)} {t : Nat} {r : Option Sl} (x : Slot) (ht : t < rs.length) : (x = .row t → idAt b s ars (rs.set t r) x = idO r) ∧ (x ≠ .row t → idAt b s ars (rs.set t r) x = idAt b s ars rs x) := by
  cases x with
  | row j =>
    simp only [idAt]
    by_cases e : t = j
    · subst e
      exact ⟨(fun _ => by rw [List.getElem?_set_self ht]; rfl), fun h => absurd rfl h⟩
    · exact ⟨(fun h => by cases h; exact absurd rfl e), (fun _ => by rw [List.getElem?_set_ne e])⟩
  | _ => exact ⟨(fun h => by cases h), fun _ => rfl⟩
theorem MRg.setRow {H0 H : Heap} {b L : Nat} {s : Option Sl} {ars : List Ar} {rs : List (Option Sl)} {β : Type} {en : Nat} {eE : β → List Cell} {rows : List (List β)} (h : MRg en eE H0 b L s ars rs rows) {t : Nat} {rt : Option Sl} (ht : rs[t]? = some rt) (k : Kp (Of rt) H0 H) {r : Option Sl} {l : List β} (ho : OS en eE H r l) (hid : ∀ i, idO r = some i → idO rt = some i ∨ H0.length ≤ i) :
    ∃ H', H.put b (0 + 1 + ((t : Nat) : Int).toNat * 1) [Cell.slice r] = some H' ∧ MRg en eE H' b L s ars (rs.set t r) (rows.set t l) ∧ Stp b s ars rs ars (rs.set t r) H0 H' := by
  have hlt := (List.getElem?_eq_some_iff.1 ht).1
  have hidt : ∀ i, idO rt = some i → idAt b s ars rs (.row t) = some i := fun i hi => by simp only [idAt, ht, Option.bind_some]; exact hi
  have nof : ∀ (x : Slot), x ≠ .row t → ∀ i, idAt b s ars rs x = some i → ¬ Of rt i := by
    rintro x hx i hi ⟨sl, e, f⟩
    exact hx (h.inj x (.row t) i hi (hidt i (by rw [e, f]; rfl)))
  have hb := k.at h.hd (nof .hd (by intro x; cases x) b rfl)
  have hput : H.put b (0 + 1 + ((t : Nat) : Int).toNat * 1) [Cell.slice r] = some (H.set b (.row (Cell.slice s :: (rs.set t r).map Cell.slice) false)) := by
    rw [show 0 + 1 + ((t : Nat) : Int).toNat * 1 = t + 1 by omega, put_of hb (by simp; omega), splice_row _ _ _ _ (by simpa using hlt), List.map_set]
  have kset : Kp (One b) H (H.set b (.row (Cell.slice s :: (rs.set t r).map Cell.slice) false)) := Kp.set _ _ _
  have rlt : ∀ i, idO r = some i → i < H.length := fun i hi => by
    cases r with
    | none => cases hi
    | some sl => cases hi; exact OS.lt ho
  have rb : ∀ i, idO r = some i → i ≠ b := by
    rintro i hi rfl
    rcases hid i hi with e | e
    · have := h.inj .hd (.row t) i rfl (hidt i e); cases this
    · have := h.lt .hd i rfl; omega
  have keep : ∀ {α : Type} {n : Nat} {E : α → List Cell} {q : Option Sl} {m : List α} (x : Slot), x ≠ .row t → x ≠ .hd → (∀ i, idO q = some i → idAt b s ars rs x = some i) → OS n E H0 q m → OS n E (H.set b (.row (Cell.slice s :: (rs.set t r).map Cell.slice) false)) q m := by
    intro α n E q m x h1 h2 h3 h4
    exact OS.other (OS.other h4 k fun i hi => nof x h1 i (h3 i hi)) kset fun i hi hf => by
      have : i = b := hf
      subst this
      exact h2 (h.inj x .hd i (h3 i hi) rfl)
  refine ⟨_, hput, ⟨set_get' (lt_of hb), ?_, ?_, ?_, by simpa using h.rl, by simpa using h.rw, ?_, ?_, ?_⟩, ?_⟩
  · exact keep .ar (by intro x; cases x) (by intro x; cases x) (fun i hi => hi) h.ar
  · intro j a hj
    exact keep (.dt j) (by intro x; cases x) (by intro x; cases x) (fun i hi => by simp only [idAt, hj, Option.bind_some]; exact hi) (h.dt j a hj)
  · intro j q m hq hm
    rcases set_at hq with ⟨rfl, rfl, _⟩ | ⟨hne, hq⟩
    · rcases set_at hm with ⟨_, rfl, _⟩ | ⟨hne, _⟩
      · exact OS.other ho kset fun i hi hf => rb i hi hf
      · exact absurd rfl hne
    · rcases set_at hm with ⟨e, _, _⟩ | ⟨_, hm⟩
      · exact absurd e hne
      · exact keep (.row j) (by intro x; cases x; exact hne rfl) (by intro x; cases x) (fun i hi => by simp only [idAt, hq, Option.bind_some]; exact hi) (h.ro j q m hq hm)
  · intro x y i hx hy
    have key : ∀ (x : Slot) (i : Nat), idAt b s ars (rs.set t r) x = some i → (x = .row t ∧ idO r = some i) ∨ (x ≠ .row t ∧ idAt b s ars rs x = some i) := fun x i hx => by
      by_cases e : x = .row t
      · rw [(slot_row x hlt).1 e] at hx; exact .inl ⟨e, hx⟩
      · rw [(slot_row x hlt).2 e] at hx; exact .inr ⟨e, hx⟩
    rcases key x i hx with ⟨rfl, e1⟩ | ⟨n1, e1⟩ <;> rcases key y i hy with ⟨rfl, e2⟩ | ⟨n2, e2⟩
    · rfl
    · rcases hid i e1 with e | e
      · exact absurd (h.inj y (.row t) i e2 (hidt i e)) n2
      · have := h.lt y i e2; omega
    · rcases hid i e2 with e | e
      · exact absurd (h.inj x (.row t) i e1 (hidt i e)) n1
      · have := h.lt x i e1; omega
    · exact h.inj x y i e1 e2
  · intro x i hx
    by_cases e : x = .row t
    · rw [(slot_row x hlt).1 e] at hx
      rcases hid i hx with f | f
      · exact h.ge _ i (hidt i f)
      · have := h.ge .hd b rfl; have := h.lt .hd b rfl; omega
    · rw [(slot_row x hlt).2 e] at hx; exact h.ge x i hx
  · intro x i hx
    simp only [List.length_set]
    by_cases e : x = .row t
    · rw [(slot_row x hlt).1 e] at hx; exact rlt i hx
    · rw [(slot_row x hlt).2 e] at hx; exact Nat.lt_of_lt_of_le (h.lt x i hx) k.len
  · refine ⟨(k.mono (D := InM b s ars rs) fun i _ hf => ?_).trans (kset.mono (D := InM b s ars rs) fun i _ hf => ?_) (fun _ h => h) fun _ _ h => h, fun i hi => ?_⟩
    · obtain ⟨sl, e, f⟩ := hf
      exact ⟨_, hidt i (by rw [e, f]; rfl)⟩
    · have : i = b := hf
      rw [this]; exact ⟨.hd, rfl⟩
    · obtain ⟨x, hx⟩ := hi
      by_cases e : x = .row t
      · rw [(slot_row x hlt).1 e] at hx
        rcases hid i hx with f | f
        · exact .inl ⟨_, hidt i f⟩
        · exact .inr f
      · rw [(slot_row x hlt).2 e] at hx; exact .inl ⟨x, hx⟩
/-! ### Drain -/
theorem f54_x (q : Option Sl) (l : List Sto) (H : Heap) (h : RS 3 E3 H q l) (hl : l.length ≤ 1048576) : ∃ s' H', f54 q H = some (s', H') ∧ OS 3 E3 H' s' l ∧ Kp No H H' ∧ New H.length s' := by
  rw [q54]
  cases q with
  | none =>
    cases h
    exact ⟨none, H, rfl, rfl, Kp.refl _ _, fun _ e => nomatch e⟩
  | some sl =>
    have kp : Kp No H (H ++ [.row [] false]) := Kp.push _ _ _
    obtain ⟨s', H', h2, h3, h4, h5⟩ := append_OS E3_len (by decide) (by' := 24) (OS_new (n := 3) (E := E3) H) (h.no kp) (by simp [most]; omega)
    refine ⟨s', H', by rw [show (some sl).isNone = false from rfl, cf, h2, Ab.bs], by simpa using h3, kp.trans h4 (fun _ h => h) (fun i hi hf => ?_), fun sl' e => ?_⟩
    · obtain ⟨sl0, e0, e1⟩ := hf; cases e0; exact absurd e1 (by show ¬ i = H.length; omega)
    · rcases h5 sl' e with ⟨sl0, e0, e1⟩ | h
      · cases e0; rw [e1]; exact Nat.le_refl _
      · simp at h; omega
structure Sto.Good (st : Sto) (ars : List Ar) : Prop where
  w : isW8 st.w = true
  f : Found ars st.at' 0 st.w.toNat
def drained (ars : List Ar) (st : Sto) : List Ar := writeN ars st.at' st.v 0 st.w.toNat
theorem head_row {H : Heap} {b L : Nat} {s : Option Sl} {ars : List Ar} {rs : List (Option Sl)} {β : Type} {en : Nat} {eE : β → List Cell} {rows : List (List β)} (h : MRg en eE H b L s ars rs rows) {t : Nat} {r : Option Sl} (hr : rs[t]? = some r) : H.get b (0 + 1 + ((t : Nat) : Int).toNat * 1) = some (.slice r) := by
  rw [get_of h.hd, show 0 + 1 + ((t : Nat) : Int).toNat * 1 = t + 1 by omega, List.getElem?_cons_succ, List.getElem?_map, hr]; rfl
theorem f58_nil' {H : Heap} {b L : Nat} {s : Option Sl} {ars : List Ar} {rs : List (Option Sl)} {rows : List (List Sto)} (h : MR H b L s ars rs rows) (t : Int) (ht : thrd t = true) (hl : rows[t.toNat]? = some []) : f58 (some (b, 0)) t H = some (false, H) := by
  obtain ⟨i8, t, rfl, ht8⟩ := inb8 ht
  obtain ⟨rt, hr⟩ : ∃ rt, rs[t]? = some rt := ⟨_, List.getElem?_eq_getElem (by rw [h.rl]; exact ht8)⟩
  have hro := h.ro t _ [] hr hl
  have hs := hro.rs.slenEq
  rw [q58, f47_x, Ab.bs, ht]
  simp only [Bool.not_true, cf, Ab.bs, i8, ct, head_row h hr, tSlice, hs]
  rfl
theorem f58_yes {H : Heap} {b L : Nat} {s : Option Sl} {ars : List Ar} {rs : List (Option Sl)} {rows : List (List Sto)} (h : MR H b L s ars rs rows) (hn : ars.length ≤ 1000) (hd : ∀ a, a ∈ ars → a.data.length ≤ 1048576) (t : Nat) (ht : thrd (t : Int) = true) {st : Sto} {l : List Sto} (hl : rows[t]? = some (st :: l)) (hg : st.Good ars) (hll : l.length ≤ 1048575) :
    ∃ r H', f58 (some (b, 0)) (t : Int) H = some (true, H') ∧ MR H' b L s (drained ars st) (rs.set t r) (rows.set t l) ∧ Stp b s ars rs (drained ars st) (rs.set t r) H H' := by
  obtain ⟨i8, t', e, ht8⟩ := inb8 ht
  obtain rfl : t = t' := by omega
  obtain ⟨rt, hr⟩ : ∃ rt, rs[t]? = some rt := ⟨_, List.getElem?_eq_getElem (by rw [h.rl]; exact ht8)⟩
  have hro := h.ro t _ _ hr hl
  have hs := hro.rs.slenEq
  obtain ⟨sl, e0, g1, c0, c1, c2⟩ := gets3 hro.rs (i := 0) (a := st) rfl
  have g1' : (inb 0 sl.len && sl.esz == 3) = true := g1
  have c0' : H.get sl.id (sl.off + 0) = some (.int .u64 st.at') := c0
  have c1' : H.get sl.id (sl.off + 0 + 1) = some (.int .i64 st.w) := c1
  have c2' : H.get sl.id (sl.off + 0 + 1 + 1) = some (.int .u64 st.v) := c2
  obtain ⟨H1, w1, w2, w3⟩ := f83_x h hn hd st.at' st.w st.v hg.w hg.f
  have hro1 := w2.ro t _ _ hr hl
  obtain ⟨q, s1, s2, s3⟩ := hro1.rs.subE E3_len 1 (by simp)
  have s2 : RS 3 E3 H1 q l := by simpa using s2
  obtain ⟨r, H2, v1, v2, v3, v4⟩ := f54_x q l H1 s2 (by omega)
  obtain ⟨H3, p1, p2, p3⟩ := w2.setRow hr (v3.mono (D := Of rt) fun i _ hf => absurd hf (fun h => h)) v2 (fun i hi => by
    cases r with
    | none => cases hi
    | some sr => cases hi; exact .inr (v4 sr rfl))
  refine ⟨r, H3, ?_, p2, w3.trans p3⟩
  rw [q58, f47_x, Ab.bs, ht]
  have hs0 : (slen rt == 0) = false := by rw [hs]; simp; omega
  simp only [Bool.not_true, cf, Ab.bs, i8, ct, head_row h hr, tSlice, hs0]
  rw [e0, Ab.bs, g1', ct, c0', Ab.bs, c1', Ab.bs, c2', Ab.bs, tInt, Ab.bs, tInt, Ab.bs, tInt, Ab.bs, w1, Ab.bs]
  simp only [head_row w2 hr, Ab.bs, tSlice]
  have s1 : Sl.sub rt 1 none = some q := s1
  rw [s1, Ab.bs, hro1.rs.esOkT, ct, v1, Ab.bs]
  simp only [p1, Ab.bs]
/-! ### Flush, Put -/
/-! ### Store -/
def zxv (v w : Int) : Int := band .u64 v (ishr .u64 18446744073709551615 (IntKind.i64.wrap (64 - IntKind.i64.wrap (8 * w))))
theorem f60_x (v w : Int) (hw : isW8 w = true) (H : Heap) : f60 v w H = some (zxv v w, H) := by
  rw [q60, q107, f105_x, Ab.bs, hw]
  have hw := isW8_w hw
  have : decide (IntKind.i64.wrap (64 - IntKind.i64.wrap (8 * w)) < 0) = false := by
    rcases hw with e | e | e | e <;> rw [e] <;> decide
  simp only [Bool.not_true, cf, this, Ab.bs]
  rfl
theorem row3 (H : Heap) (a : Sto) : RS 3 E3 (H ++ [Blk.row (E3 a) false]) (some { id := H.length, off := 0, len := 1, cap := 1, esz := 3 }) [a] :=
  ⟨rfl, rfl, Nat.le_refl _, fun j c e => by rw [Nat.zero_add, get_of (push_get _ _)]; simpa using e⟩
theorem f32_yes {H : Heap} {b L : Nat} {s : Option Sl} {ars : List Ar} {rs : List (Option Sl)} {rows : List (List Sto)} (h : MR H b L s ars rs rows) (hn : ars.length ≤ 1000) (t x w v : Int) (hm : mayA ars t x w true = true) {l : List Sto} (hl : rows[t.toNat]? = some l) (hll : l.length < 65536) :
    ∃ r H', f32 (some (b, 0)) t x w v H = some (true, H') ∧ MR H' b L s ars (rs.set t.toNat r) (rows.set t.toNat (l ++ [⟨x, w, zxv v w⟩])) ∧ Stp b s ars rs ars (rs.set t.toNat r) H H' := by
  obtain ⟨H1, e1, e2⟩ := f59_x (b, 0) ars t x w true H (h.rd (by omega))
  have hm0 := hm
  unfold mayA at hm0
  simp only [Bool.and_eq_true] at hm0
  obtain ⟨ht, hw, _, ha⟩ := hm0
  have m1 := h.no e2
  obtain ⟨i8, t, rfl, ht8⟩ := inb8 ht
  have hl : rows[t]? = some l := hl
  obtain ⟨rt, hr⟩ : ∃ rt, rs[t]? = some rt := ⟨_, List.getElem?_eq_getElem (by rw [h.rl]; exact ht8)⟩
  have hro := m1.ro t _ l hr hl
  have hs := hro.rs.slenEq
  have k2 := Kp.push1 H1 (Blk.row (E3 ⟨x, w, zxv v w⟩) false)
  obtain ⟨r, H2, a1, a2, a3, a4⟩ := append_OS E3_len (by decide) (by' := 24) (hro.no k2) (row3 H1 ⟨x, w, zxv v w⟩) (by simp [most]; omega)
  have k12 : Kp (Of rt) H1 H2 := (k2.mono (D := Of rt) fun i _ hf => absurd hf (fun h => h)).trans a3 (fun _ h => h) fun _ _ h => h
  obtain ⟨H3, p1, p2, p3⟩ := m1.setRow hr k12 a2 (fun i hi => by
    cases r with
    | none => cases hi
    | some sr =>
      cases hi
      rcases a4 sr rfl with ⟨s0, f0, f1⟩ | f
      · exact .inl (by rw [f0]; show some s0.id = some sr.id; rw [f1])
      · exact .inr (by show H1.length ≤ sr.id; simp at f; omega))
  refine ⟨r, H3, ?_, p2, (Stp.no e2).trans p3⟩
  have hs0 : decide (slen rt ≥ 65536) = false := by rw [hs]; simp; omega
  have sm : ∀ o n, sameC b o n H1 H1 = true := sameC_of rfl
  rw [q32, e1, Ab.bs, hm]
  simp only [Bool.not_true, cf, Ab.bs, i8, ct, head_row m1 hr, tSlice, hs0, f60_x v w hw, sm]
  have a1 : (H1 ++ [Blk.row [Cell.int .u64 x, Cell.int .i64 w, Cell.int .u64 (zxv v w)] false]).append 3 24 rt (some { id := List.length H1, off := 0, len := 1, cap := 1, esz := 3 }) = some (r, H2) := a1
  simp only [a1, Ab.bs, p1]
/-! ### Same, Pending -/
theorem f17_x {H : Heap} {b L : Nat} {s : Option Sl} {ars : List Ar} {rs : List (Option Sl)} {rows : List (List Sto)} (h : MR H b L s ars rs rows) (t : Nat) (ht : t < 8) {l : List Sto} (hl : rows[t]? = some l) : f17 (some (b, 0)) (t : Int) H = some ((l.length : Int), H) := by
  obtain ⟨rt, hr⟩ : ∃ rt, rs[t]? = some rt := ⟨_, List.getElem?_eq_getElem (by rw [h.rl]; exact ht)⟩
  have hth : thrd (t : Int) = true := by simp [thrd]; omega
  rw [q17, f47_x, Ab.bs, hth]
  simp only [Bool.not_true, cf, Ab.bs, (inb8 hth).1, ct, head_row h hr, tSlice, (h.ro t _ l hr hl).rs.slenEq]
/-- What is stored is what is written: bytes of a number that is cut to a width. -/
theorem mask_eq (v : Int) (w : Int) (hw : isW8 w = true) : zxv v w = v % 2 ^ (8 * w.toNat) := by
  unfold zxv
  rcases isW8_w hw with e | e | e | e <;> rw [e]
  · rw [show ishr .u64 18446744073709551615 (IntKind.i64.wrap (64 - IntKind.i64.wrap (8 * 1))) = 2 ^ 8 - 1 by decide, band_mask v (by omega)]; rfl
  · rw [show ishr .u64 18446744073709551615 (IntKind.i64.wrap (64 - IntKind.i64.wrap (8 * 2))) = 2 ^ 16 - 1 by decide, band_mask v (by omega)]; rfl
  · rw [show ishr .u64 18446744073709551615 (IntKind.i64.wrap (64 - IntKind.i64.wrap (8 * 4))) = 2 ^ 32 - 1 by decide, band_mask v (by omega)]; rfl
  · rw [show ishr .u64 18446744073709551615 (IntKind.i64.wrap (64 - IntKind.i64.wrap (8 * 8))) = 2 ^ 64 - 1 by decide, band_mask v (by omega)]; rfl
/-! ### areas without their places -/
def nfA (a : Ar) : Ar := { a with sl := some ⟨0, 0, a.data.length, a.data.length, 1⟩ }
def nfs (l : List Ar) : List Ar := l.map nfA
def Tru (l : List Ar) : Prop := ∀ a, a ∈ l → slen a.sl = (a.data.length : Int)
theorem MRg.tru {H : Heap} {b L : Nat} {s : Option Sl} {ars : List Ar} {rs : List (Option Sl)} {β : Type} {en : Nat} {eE : β → List Cell} {rows : List (List β)} (h : MRg en eE H b L s ars rs rows) : Tru ars := fun a ha => by
  obtain ⟨k, hk⟩ := List.mem_iff_getElem?.1 ha
  exact (h.dt k a hk).rs.slenEq
theorem has_nf {a : Ar} (h : slen a.sl = (a.data.length : Int)) (x : Int) : (nfA a).has x = a.has x := by
  unfold Ar.has; rw [h]; rfl
theorem find_nf (x : Int) : ∀ (l : List Ar) (i : Nat), Tru l → findFrom x (nfs l) i = findFrom x l i
  | [], i, _ => rfl
  | a :: l, i, h => by
    show findFrom x (nfA a :: nfs l) i = _
    unfold findFrom
    rw [has_nf (h a (by simp)) x, find_nf x l (i + 1) fun c hc => h c (by simp [hc])]
theorem findA_nf {l : List Ar} (h : Tru l) (x : Int) : findA (nfs l) x = findA l x := find_nf x l 0 h
theorem nfs_at (l : List Ar) (k : Nat) : (nfs l)[k]? = (l[k]?).map nfA := List.getElem?_map ..
theorem there_nf {l : List Ar} (h : Tru l) (t x : Int) (w : Bool) : thereA (nfs l) t x w = thereA l t x w := by
  unfold thereA
  rw [findA_nf h x, nfs_at]
  cases l[(findA l x).toNat]? <;> rfl
theorem all_nf {l : List Ar} (h : Tru l) (t x : Int) (w : Bool) : ∀ n i, allThere (nfs l) t x w i n = allThere l t x w i n
  | 0, _ => rfl
  | n + 1, i => by unfold allThere; rw [there_nf h, all_nf h t x w n (i + 1)]
theorem may_nf {l : List Ar} (h : Tru l) (t x w : Int) (wr : Bool) : mayA (nfs l) t x w wr = mayA l t x w wr := by
  unfold mayA; rw [all_nf h]
theorem wr1_nf {l : List Ar} (h : Tru l) (x : Int) (c : UInt8) : nfs (wr1 l x c) = wr1 (nfs l) x c := by
  unfold wr1
  rw [findA_nf h x, nfs_at]
  cases l[(findA l x).toNat]? with
  | none => rfl
  | some a =>
    dsimp only [Option.map_some]
    unfold nfs
    rw [List.map_set]
    congr 1
    unfold nfA
    simp
theorem tru_wr1 {l : List Ar} (h : Tru l) (x : Int) (c : UInt8) : Tru (wr1 l x c) := by
  unfold wr1
  cases hl : l[(findA l x).toNat]? with
  | none => exact h
  | some a =>
    intro d hd
    obtain ⟨k, hk⟩ := List.mem_iff_getElem?.1 hd
    rcases set_at hk with ⟨_, rfl, _⟩ | ⟨_, hk⟩
    · have := h a (List.mem_of_getElem? hl)
      simpa using this
    · exact h d (List.mem_of_getElem? hk)
theorem writeN_nf (x v : Int) : ∀ (n i : Nat) (l : List Ar), Tru l → nfs (writeN l x v i n) = writeN (nfs l) x v i n
  | 0, _, _, _ => rfl
  | n + 1, i, l, h => by
    unfold writeN
    rw [writeN_nf x v n (i + 1) _ (tru_wr1 h _ _), wr1_nf h]
theorem found_nf {l : List Ar} (h : Tru l) {x : Int} {i n : Nat} (hf : Found (nfs l) x i n) : Found l x i n := fun j h1 h2 => by
  obtain ⟨k, a, e1, e2, e3⟩ := hf j h1 h2
  rw [nfs_at] at e1
  cases hk : l[k]? with
  | none => rw [hk] at e1; cases e1
  | some c =>
    rw [hk] at e1; cases e1
    exact ⟨k, c, hk, by rw [← has_nf (h c (List.mem_of_getElem? hk))]; exact e2, by rw [← findA_nf h]; exact e3⟩
theorem wr1_data {l : List Ar} {N : Nat} (h : ∀ a, a ∈ l → a.data.length ≤ N) (x : Int) (c : UInt8) : ∀ a, a ∈ wr1 l x c → a.data.length ≤ N := by
  unfold wr1
  cases hl : l[(findA l x).toNat]? with
  | none => exact h
  | some a =>
    intro d hd
    obtain ⟨k, hk⟩ := List.mem_iff_getElem?.1 hd
    rcases set_at hk with ⟨_, rfl, _⟩ | ⟨_, hk⟩
    · simpa using h a (List.mem_of_getElem? hl)
    · exact h d (List.mem_of_getElem? hk)
theorem writeN_data {N : Nat} (x v : Int) : ∀ (n i : Nat) (l : List Ar), (∀ a, a ∈ l → a.data.length ≤ N) → ∀ a, a ∈ writeN l x v i n → a.data.length ≤ N
  | 0, _, _, h => h
  | n + 1, i, l, h => writeN_data x v n (i + 1) _ (wr1_data h _ _)
/-! ### memory without its places -/
structure Co where
  ars : List Ar
  rows : List (List Sto)
/-- Memory and its places. -/
structure Mm where
  b : Nat
  s : Option Sl
  ars : List Ar
  rs : List (Option Sl)
  rows : List (List Sto)
def Mm.In (M : Mm) (i : Nat) : Prop := InM M.b M.s M.ars M.rs i
def Mm.p (M : Mm) : Option (Nat × Nat) := some (M.b, 0)
structure Mm.Is (M : Mm) (H : Heap) (L : Nat) (c : Co) : Prop where
  m : MR H M.b L M.s M.ars M.rs M.rows
  a : nfs M.ars = c.ars
  r : M.rows = c.rows
structure Mm.To (M N : Mm) (H H' : Heap) : Prop where
  b : N.b = M.b
  k : Kp M.In H H'
  ids : ∀ i, N.In i → M.In i ∨ H.length ≤ i
theorem Mm.To.trans {M N O : Mm} {A B C : Heap} (p : M.To N A B) (q : N.To O B C) : M.To O A C := by
  refine ⟨q.b.trans p.b, p.k.trans q.k (fun _ h => h) fun i hi hf => ?_, fun i h => ?_⟩
  · rcases p.ids i hf with e | e
    · exact e
    · omega
  · rcases q.ids i h with e | e
    · exact p.ids i e
    · exact .inr (Nat.le_trans p.k.len e)
theorem Mm.To.no {M : Mm} {H H' : Heap} (k : Kp No H H') : M.To M H H' := ⟨rfl, k.mono fun i _ hf => absurd hf (fun h => h), fun i h => .inl h⟩
theorem Mm.Is.no {M : Mm} {H H' : Heap} {L : Nat} {c : Co} (h : M.Is H L c) (k : Kp No H H') : M.Is H' L c := ⟨h.m.no k, h.a, h.r⟩
theorem Mm.Is.other {M : Mm} {F : Nat → Prop} {H H' : Heap} {L : Nat} {c : Co} (h : M.Is H L c) (k : Kp F H H') (hd : ∀ i, M.In i → ¬ F i) : M.Is H' L c := ⟨h.m.other k hd, h.a, h.r⟩
theorem Mm.Is.len {M : Mm} {H : Heap} {L : Nat} {c : Co} (h : M.Is H L c) : M.ars.length = c.ars.length := by rw [← h.a]; simp [nfs]
theorem Mm.Is.tru {M : Mm} {H : Heap} {L : Nat} {c : Co} (h : M.Is H L c) : Tru M.ars := h.m.tru
theorem Mm.Is.may {M : Mm} {H : Heap} {L : Nat} {c : Co} (h : M.Is H L c) (t x w : Int) (wr : Bool) : mayA M.ars t x w wr = mayA c.ars t x w wr := by rw [← h.a, may_nf h.tru]
theorem Mm.Is.ge {M : Mm} {H : Heap} {L : Nat} {c : Co} (h : M.Is H L c) {i : Nat} (hi : M.In i) : L ≤ i := by
  obtain ⟨x, e⟩ := hi; exact h.m.ge x i e
theorem Mm.Is.lt {M : Mm} {H : Heap} {L : Nat} {c : Co} (h : M.Is H L c) {i : Nat} (hi : M.In i) : i < H.length := by
  obtain ⟨x, e⟩ := hi; exact h.m.lt x i e
/-- What holds of memory in the laws. -/
structure Co.Fit (c : Co) (N : Nat) : Prop where
  n : c.ars.length ≤ 1000
  d : ∀ a, a ∈ c.ars → a.data.length ≤ 1048576
  w : c.rows.length = 8
  g : ∀ l, l ∈ c.rows → l.length ≤ N ∧ ∀ st, st ∈ l → st.Good c.ars
theorem Mm.Is.dl {M : Mm} {H : Heap} {L N : Nat} {c : Co} (h : M.Is H L c) (f : c.Fit N) : ∀ a, a ∈ M.ars → a.data.length ≤ 1048576 := fun a ha => f.d (nfA a) (by rw [← h.a]; exact List.mem_map.2 ⟨a, ha, rfl⟩)
theorem Mm.Is.nl {M : Mm} {H : Heap} {L N : Nat} {c : Co} (h : M.Is H L c) (f : c.Fit N) : M.ars.length ≤ 1000 := by rw [h.len]; exact f.n
theorem Sto.Good.sh {st : Sto} {l m : List Ar} (h : st.Good l) (e : shapes l = shapes m) : st.Good m := ⟨h.w, found_shape e h.f⟩
theorem Mm.Is.good {M : Mm} {H : Heap} {L N : Nat} {c : Co} (h : M.Is H L c) {st : Sto} (g : st.Good c.ars) : st.Good M.ars := ⟨g.w, found_nf h.tru (by rw [h.a]; exact g.f)⟩
theorem Co.Fit.row {c : Co} {N : Nat} (f : c.Fit N) {t : Nat} (ht : t < 8) : ∃ l, c.rows[t]? = some l ∧ l.length ≤ N ∧ ∀ st, st ∈ l → st.Good c.ars := by
  have h := List.getElem?_eq_getElem (l := c.rows) (i := t) (by rw [f.w]; exact ht)
  exact ⟨_, h, f.g _ (List.mem_of_getElem? h)⟩
theorem fit_set {c : Co} {N M : Nat} (f : c.Fit N) (hNM : N ≤ M) {ars : List Ar} (hs : shapes ars = shapes c.ars) (hd : ∀ a, a ∈ ars → a.data.length ≤ 1048576) (t : Nat) (l : List Sto) (hl : l.length ≤ M) (hg : ∀ st, st ∈ l → st.Good c.ars) : Co.Fit ⟨ars, c.rows.set t l⟩ M :=
  ⟨by show ars.length ≤ 1000; rw [len_shape hs]; exact f.n, hd, by simp [f.w], fun q hq => by
    obtain ⟨k, hk⟩ := List.mem_iff_getElem?.1 hq
    rcases set_at hk with ⟨_, rfl, _⟩ | ⟨_, hk⟩
    · exact ⟨hl, fun st h => (hg st h).sh hs.symm⟩
    · have := f.g q (List.mem_of_getElem? hk)
      exact ⟨by omega, fun st h => (this.2 st h).sh hs.symm⟩⟩
/-! ### Drain -/
def drainC (c : Co) (t : Int) : Bool × Co :=
  bif thrd t then match c.rows[t.toNat]? with
    | some (st :: l) => (true, ⟨drained c.ars st, c.rows.set t.toNat l⟩)
    | _ => (false, c)
  else (false, c)
theorem drained_nf {l : List Ar} (h : Tru l) (st : Sto) : nfs (drained l st) = drained (nfs l) st := writeN_nf _ _ _ _ _ h
theorem drain_fit {c : Co} {N : Nat} (f : c.Fit N) (t : Int) : (drainC c t).2.Fit N := by
  unfold drainC
  cases ht : thrd t
  · exact f
  · obtain ⟨_, t, rfl, h8⟩ := inb8 ht
    obtain ⟨l, hl, h1, h2⟩ := f.row h8
    have hl' : c.rows[((t : Nat) : Int).toNat]? = some l := hl
    rw [ct, hl']
    cases l with
    | nil => exact f
    | cons st l => exact fit_set f (Nat.le_refl _) (writeN_shape _ _ _ _ _) (writeN_data _ _ _ _ _ f.d) _ _ (by simp at h1; omega) fun q hq => h2 q (by simp [hq])
theorem drain_x {M : Mm} {H : Heap} {L N : Nat} {c : Co} (h : M.Is H L c) (f : c.Fit N) (hN : N ≤ 1000000) (t : Int) :
    ∃ M' H', f58 M.p t H = some ((drainC c t).1, H') ∧ M'.Is H' L (drainC c t).2 ∧ M.To M' H H' := by
  unfold drainC
  cases ht : thrd t
  · refine ⟨M, H, ?_, h, Mm.To.no (Kp.refl _ _)⟩
    show f58 (some (M.b, 0)) t H = _
    rw [q58, f47_x, Ab.bs, ht]; rfl
  · obtain ⟨_, t, rfl, h8⟩ := inb8 ht
    obtain ⟨l, hl, h1, h2⟩ := f.row h8
    have hl' : c.rows[((t : Nat) : Int).toNat]? = some l := hl
    rw [ct, hl']
    have hm : M.rows[t]? = some l := by rw [h.r]; exact hl
    cases l with
    | nil => exact ⟨M, H, f58_nil' h.m _ ht hm, h, Mm.To.no (Kp.refl _ _)⟩
    | cons st l =>
      obtain ⟨r, H', e1, e2, e3⟩ := f58_yes h.m (h.nl f) (h.dl f) t ht hm (h.good (N := N) (h2 st (by simp))) (by simp at h1; omega)
      exact ⟨⟨M.b, M.s, drained M.ars st, M.rs.set t r, M.rows.set t l⟩, H', e1, ⟨e2, by rw [← h.a]; exact drained_nf h.tru st, by show M.rows.set t l = _; rw [h.r]; rfl⟩, ⟨rfl, e3.k, e3.ids⟩⟩
/-! ### Flush -/
def flushC (c : Co) (t : Int) : Int × Co :=
  bif thrd t then match c.rows[t.toNat]? with
    | some l => ((l.length : Int), ⟨l.foldl drained c.ars, c.rows.set t.toNat []⟩)
    | none => (0, c)
  else (0, c)
theorem foldl_shape : ∀ (l : List Sto) (ars : List Ar), shapes (l.foldl drained ars) = shapes ars
  | [], _ => rfl
  | st :: l, ars => (foldl_shape l _).trans (writeN_shape _ _ _ _ _)
theorem foldl_data {N : Nat} : ∀ (l : List Sto) (ars : List Ar), (∀ a, a ∈ ars → a.data.length ≤ N) → ∀ a, a ∈ l.foldl drained ars → a.data.length ≤ N
  | [], _, h => h
  | st :: l, ars, h => foldl_data l _ (writeN_data _ _ _ _ _ h)
theorem flush_fit {c : Co} {N : Nat} (f : c.Fit N) (t : Int) : (flushC c t).2.Fit N := by
  unfold flushC
  cases ht : thrd t
  · exact f
  · obtain ⟨_, t, rfl, h8⟩ := inb8 ht
    obtain ⟨l, hl, h1, h2⟩ := f.row h8
    have hl' : c.rows[((t : Nat) : Int).toNat]? = some l := hl
    rw [ct, hl']
    exact fit_set f (Nat.le_refl _) (foldl_shape _ _) (foldl_data _ _ f.d) _ _ (by simp) fun q hq => by simp at hq
theorem set_self {α : Type} {l : List α} {t : Nat} {x : α} (h : l[t]? = some x) : l.set t x = l := by
  refine List.ext_getElem? fun j => ?_
  by_cases e : t = j
  · subst e; rw [List.getElem?_set_self (List.getElem?_eq_some_iff.1 h).1, h]
  · rw [List.getElem?_set_ne e]
theorem loop27 {L N : Nat} (hN : N ≤ 1000000) (t : Nat) (h8 : t < 8) (b : Nat) : ∀ (l : List Sto) (m k : Nat) (M : Mm) (c : Co) (H : Heap), M.b = b → M.Is H L c → c.Fit N → c.rows[t]? = some l → k + l.length ≤ 2000000 →
    ∃ M' H', (D27_2 (m + l.length + 1) (some (b, 0)) (t : Int) (k : Int) H).bind J27_2 = some (((k + l.length : Nat) : Int), H') ∧ M'.Is H' L ⟨l.foldl drained c.ars, c.rows.set t []⟩ ∧ M.To M' H H'
  | [], m, k, M, c, H, hb, h, f, hl, hk => by
    have ht : thrd (t : Int) = true := by simp [thrd]; omega
    refine ⟨M, H, ?_, ⟨h.m, h.a, ?_⟩, Mm.To.no (Kp.refl _ _)⟩
    · subst hb
      rw [D27_2_s, f58_nil' h.m _ ht (by rw [h.r]; exact hl), Ab.bs, cf, Ab.bs, J27_2_0]; rfl
    · rw [h.r, set_self hl]
  | st :: l, m, k, M, c, H, hb, h, f, hl, hk => by
    have ht : thrd (t : Int) = true := by simp [thrd]; omega
    obtain ⟨M1, H1, e1, e2, e3⟩ := drain_x h f hN (t : Int)
    have f1 := drain_fit f (t : Int)
    have hl' : c.rows[((t : Nat) : Int).toNat]? = some (st :: l) := hl
    have hdr : drainC c (t : Int) = (true, ⟨drained c.ars st, c.rows.set t l⟩) := by
      unfold drainC; rw [ht, ct, hl']; rfl
    rw [hdr] at e1 e2 f1
    have hlt : t < c.rows.length := by rw [f.w]; exact h8
    obtain ⟨M2, H2, r1, r2, r3⟩ := loop27 hN t h8 b l m (k + 1) M1 _ H1 (e3.b.trans hb) e2 f1 (List.getElem?_set_self hlt) (by simp at hk; omega)
    refine ⟨M2, H2, ?_, ?_, e3.trans r3⟩
    · have e1 : f58 (some (b, 0)) (t : Int) H = some (true, H1) := by rw [← hb]; exact e1
      rw [show m + (st :: l).length + 1 = (m + l.length + 1) + 1 by simp; omega, D27_2_s, e1, Ab.bs, ct, i64_succ k (by omega), r1]
      simp; omega
    · have : (c.rows.set t l).set t [] = c.rows.set t [] := List.set_set ..
      rw [← this]; exact r2
theorem flush_x {M : Mm} {H : Heap} {L N : Nat} {c : Co} (h : M.Is H L c) (f : c.Fit N) (hN : N ≤ 1000000) (t : Int) :
    ∃ M' H', f27 M.p t H = some ((flushC c t).1, H') ∧ M'.Is H' L (flushC c t).2 ∧ M.To M' H H' := by
  rw [q27]
  unfold flushC
  cases ht : thrd t
  · refine ⟨M, H, ?_, h, Mm.To.no (Kp.refl _ _)⟩
    obtain ⟨n, e⟩ := LL27_2_of 0 (by omega) M.p t 0 H
    have : f58 M.p t H = some (false, H) := by
      show f58 (some (M.b, 0)) t H = _
      rw [q58, f47_x, Ab.bs, ht]; rfl
    rw [e, D27_2_s, this, Ab.bs, cf, Ab.bs, J27_2_0]; rfl
  · obtain ⟨_, t, rfl, h8⟩ := inb8 ht
    obtain ⟨l, hl, h1, h2⟩ := f.row h8
    have hl' : c.rows[((t : Nat) : Int).toNat]? = some l := hl
    rw [ct, hl']
    obtain ⟨n, e⟩ := LL27_2_of l.length (by omega) M.p (t : Int) 0 H
    obtain ⟨M', H', r1, r2, r3⟩ := loop27 hN t h8 M.b l n 0 M c H rfl h f hl (by omega)
    refine ⟨M', H', ?_, r2, r3⟩
    rw [e]
    have r1 : (D27_2 (n + l.length + 1) M.p (t : Int) 0 H).bind J27_2 = _ := r1
    rw [r1]
    simp
/-! ### Put, Store -/
def putC (c : Co) (t x w v : Int) : Bool × Co :=
  bif mayA c.ars t x w true then (true, ⟨writeN (flushC c t).2.ars x v 0 w.toNat, (flushC c t).2.rows⟩) else (false, c)
theorem may_good {ars : List Ar} {t x w v : Int} (h : mayA ars t x w true = true) : Sto.Good ⟨x, w, v⟩ ars ∧ thrd t = true := by
  unfold mayA at h
  simp only [Bool.and_eq_true] at h
  exact ⟨⟨h.2.1, found_all h.2.2.2⟩, h.1⟩
theorem flush_shape (c : Co) (t : Int) : shapes (flushC c t).2.ars = shapes c.ars := by
  unfold flushC
  cases thrd t
  · rfl
  · rw [ct]
    cases c.rows[t.toNat]? with
    | none => rfl
    | some l => exact foldl_shape l _
theorem put_fit {c : Co} {N : Nat} (f : c.Fit N) (t x w v : Int) : (putC c t x w v).2.Fit N := by
  unfold putC
  cases mayA c.ars t x w true
  · exact f
  · have g := flush_fit f t
    rw [ct]
    have hs : shapes (writeN (flushC c t).2.ars x v 0 w.toNat) = shapes (flushC c t).2.ars := writeN_shape _ _ _ _ _
    exact ⟨by show (writeN _ x v 0 w.toNat).length ≤ 1000; rw [len_shape hs]; exact g.n, writeN_data _ _ _ _ _ g.d, g.w, fun l hl => ⟨(g.g l hl).1, fun st h => ((g.g l hl).2 st h).sh hs.symm⟩⟩
theorem put_x {M : Mm} {H : Heap} {L N : Nat} {c : Co} (h : M.Is H L c) (f : c.Fit N) (hN : N ≤ 1000000) (t x w v : Int) :
    ∃ M' H', f38 M.p t x w v H = some ((putC c t x w v).1, H') ∧ M'.Is H' L (putC c t x w v).2 ∧ M.To M' H H' := by
  obtain ⟨H1, e1, e2⟩ := f59_x (M.b, 0) M.ars t x w true H (h.m.rd (by have := h.nl f; omega))
  have e1 : f59 M.p t x w true H = some (mayA c.ars t x w true, H1) := by rw [← h.may]; exact e1
  rw [q38, e1, Ab.bs]
  unfold putC
  cases hm : mayA c.ars t x w true
  · exact ⟨M, H1, rfl, h.no e2, Mm.To.no e2⟩
  · obtain ⟨M2, H2, g1, g2, g3⟩ := flush_x (h.no e2) f hN t
    have f2 := flush_fit f t
    obtain ⟨gd, ht⟩ := may_good (v := v) hm
    obtain ⟨H3, w1, w2, w3⟩ := f83_x g2.m (g2.nl f2) (g2.dl f2) x w v gd.w (g2.good (N := N) (gd.sh (flush_shape c t).symm)).f
    refine ⟨⟨M2.b, M2.s, writeN M2.ars x v 0 w.toNat, M2.rs, M2.rows⟩, H3, ?_, ⟨w2, ?_, g2.r⟩, (Mm.To.no e2).trans (g3.trans ⟨rfl, w3.k, w3.ids⟩)⟩
    · have g1 : f27 M.p t H1 = some ((flushC c t).1, H2) := g1
      have w1 : f83 M.p x w v H2 = some ((), H3) := by rw [← w1]; show f83 (some (M.b, 0)) x w v H2 = _; rw [g3.b]
      simp only [Bool.not_true, cf, g1, Ab.bs, w1]
      rfl
    · show nfs (writeN M2.ars x v 0 w.toNat) = writeN (flushC c t).2.ars x v 0 w.toNat
      rw [writeN_nf _ _ _ _ _ g2.tru, g2.a]
def storeC (c : Co) (t x w v : Int) : Bool × Co :=
  bif mayA c.ars t x w true then match c.rows[t.toNat]? with
    | some l => (true, ⟨c.ars, c.rows.set t.toNat (l ++ [⟨x, w, zxv v w⟩])⟩)
    | none => (true, c)
  else (false, c)
theorem store_fit {c : Co} {N : Nat} (f : c.Fit N) (t x w v : Int) : (storeC c t x w v).2.Fit (N + 1) := by
  have f' : c.Fit (N + 1) := ⟨f.n, f.d, f.w, fun l hl => ⟨by have := (f.g l hl).1; omega, (f.g l hl).2⟩⟩
  unfold storeC
  cases hm : mayA c.ars t x w true
  · exact f'
  · obtain ⟨gd, ht⟩ := may_good (v := zxv v w) hm
    obtain ⟨_, t, rfl, h8⟩ := inb8 ht
    obtain ⟨l, hl, h1, h2⟩ := f.row h8
    have hl' : c.rows[((t : Nat) : Int).toNat]? = some l := hl
    rw [ct, hl']
    refine fit_set f (by omega) rfl f.d _ _ (by simp; omega) fun st hst => ?_
    rcases List.mem_append.1 hst with hst | hst
    · exact h2 st hst
    · simp at hst; rw [hst]; exact gd
theorem store_x {M : Mm} {H : Heap} {L N : Nat} {c : Co} (h : M.Is H L c) (f : c.Fit N) (hN : N < 65536) (t x w v : Int) :
    ∃ M' H', f32 M.p t x w v H = some ((storeC c t x w v).1, H') ∧ M'.Is H' L (storeC c t x w v).2 ∧ M.To M' H H' := by
  unfold storeC
  cases hm : mayA c.ars t x w true
  · obtain ⟨H1, e1, e2⟩ := f32_no (M.b, 0) M.ars t x w v H (h.m.rd (by have := h.nl f; omega)) (by rw [h.may]; exact hm)
    exact ⟨M, H1, e1, h.no e2, Mm.To.no e2⟩
  · obtain ⟨gd, ht⟩ := may_good (v := zxv v w) hm
    obtain ⟨_, t, rfl, h8⟩ := inb8 ht
    obtain ⟨l, hl, h1, h2⟩ := f.row h8
    have hl' : c.rows[((t : Nat) : Int).toNat]? = some l := hl
    rw [ct, hl']
    obtain ⟨r, H', e1, e2, e3⟩ := f32_yes h.m (h.nl f) (t : Int) x w v (by rw [h.may]; exact hm) (l := l) (by rw [h.r]; exact hl) (by omega)
    exact ⟨⟨M.b, M.s, M.ars, M.rs.set ((t : Nat) : Int).toNat r, M.rows.set ((t : Nat) : Int).toNat (l ++ [⟨x, w, zxv v w⟩])⟩, H', e1, ⟨e2, h.a, by show M.rows.set _ _ = _; rw [h.r]⟩, ⟨rfl, e3.k, e3.ids⟩⟩
theorem pend_x {M : Mm} {H : Heap} {L : Nat} {c : Co} (h : M.Is H L c) (t : Nat) (ht : t < 8) {l : List Sto} (hl : c.rows[t]? = some l) : f17 M.p (t : Int) H = some ((l.length : Int), H) := f17_x h.m t ht (by rw [h.r]; exact hl)
/-! ### two memories -/
structure Two (H : Heap) (L : Nat) (M N : Mm) (c d : Co) : Prop where
  m : M.Is H L c
  n : N.Is H L d
  d : ∀ i, M.In i → ¬ N.In i
theorem Two.swap {H : Heap} {L : Nat} {M N : Mm} {c d : Co} (h : Two H L M N c d) : Two H L N M d c := ⟨h.n, h.m, fun i a b => h.d i b a⟩
theorem Two.step {H H' : Heap} {L : Nat} {M M' N : Mm} {c c' d : Co} (h : Two H L M N c d) (hm : M'.Is H' L c') (t : M.To M' H H') : Two H' L M' N c' d :=
  ⟨hm, h.n.other t.k fun i a b => h.d i b a, fun i a b => by
    rcases t.ids i a with e | e
    · exact h.d i e b
    · have := h.n.lt b; omega⟩
theorem Two.no {H H' : Heap} {L : Nat} {M N : Mm} {c d : Co} (h : Two H L M N c d) (k : Kp No H H') : Two H' L M N c d := ⟨h.m.no k, h.n.no k, h.d⟩
/-! ### an address -/
/-! ### a law's memory -/
def freshC (ys : List Ar) : Co := ⟨nfs (ys.map fun z => { z with ow := -1 }), noRows⟩
theorem fresh_nf {ys ars : List Ar} (hl : ars.length = ys.length) (h : Freshes ys ars) : nfs ars = (freshC ys).ars := by
  refine List.ext_getElem? fun j => ?_
  show (nfs ars)[j]? = (nfs (ys.map fun z => { z with ow := -1 }))[j]?
  rw [nfs_at, nfs_at, List.getElem?_map]
  cases hj : ars[j]? with
  | none =>
    have : ys[j]? = none := List.getElem?_eq_none (by have := List.getElem?_eq_none_iff.1 hj; omega)
    rw [this]; rfl
  | some a =>
    obtain ⟨z, e1, e2, e3, e4, e5, e6⟩ := h j a hj
    rw [e1]
    obtain ⟨l1, s1, d1, w1, p1, o1⟩ := a
    obtain ⟨l2, s2, d2, w2, p2, o2⟩ := z
    simp only at e2 e3 e4 e5 e6
    subst e2 e3 e4 e5 e6
    rfl
theorem fresh_fit {H : Heap} {o : Option Sl} {ys : List Ar} (h : Cutd H o ys) : (freshC ys).Fit 0 :=
  ⟨by have := h.n; simp [freshC, nfs]; omega, fun a ha => by
    simp only [freshC, nfs, List.map_map, List.mem_map] at ha
    obtain ⟨z, hz, rfl⟩ := ha
    have := (h.d z hz).2
    show z.data.length ≤ 1048576
    omega, rfl, fun l hl => by
    have : l = [] := List.eq_of_mem_replicate hl
    rw [this]; exact ⟨Nat.le_refl _, fun st h => by simp at h⟩⟩
theorem Mm.Is.mono {M : Mm} {H : Heap} {L K : Nat} {c : Co} (h : M.Is H L c) (hk : K ≤ L) : M.Is H K c :=
  ⟨⟨h.m.hd, h.m.ar, h.m.dt, h.m.ro, h.m.rl, h.m.rw, h.m.inj, fun x i e => Nat.le_trans hk (h.m.ge x i e), h.m.lt⟩, h.a, h.r⟩
theorem ours_x (o : Option Sl) (ys : List Ar) (H : Heap) (h : Cutd H o ys) : ∃ (M : Mm) (H' : Heap), f28 o H = some (M.p, H') ∧ H.length ≤ M.b ∧ M.Is H' M.b (freshC ys) ∧ Kp No H H' := by
  obtain ⟨b, s, ars, H', e1, e2, e3, e4, e5, e6⟩ := f28_x o ys H h
  exact ⟨⟨b, s, ars, nils, noRows⟩, H', e1, e2, ⟨e3, fresh_nf e4 e5, rfl⟩, e6⟩
/-! ### what lies below -/
def RSL {α : Type} (n : Nat) (E : α → List Cell) (H : Heap) (L : Nat) (s : Option Sl) (l : List α) : Prop := RS n E H s l ∧ ∀ sl, s = some sl → l ≠ [] → sl.id < L
theorem RSL.kp {α : Type} {n : Nat} {E : α → List Cell} {F : Nat → Prop} {H H' : Heap} {L : Nat} {s : Option Sl} {l : List α} (h : RSL n E H L s l) (k : Kp F H H') (hF : ∀ i, F i → L ≤ i) : RSL n E H' L s l :=
  ⟨h.1.kp k fun sl e h0 hf => Nat.not_le_of_lt (h.2 sl e h0) (hF _ hf), h.2⟩
theorem RSL.of {α : Type} {n : Nat} {E : α → List Cell} (hE : ∀ x, (E x).length = n) (hn : 0 < n) {H : Heap} {L : Nat} {s : Option Sl} {l : List α} (h : RS n E H s l) (hL : H.length ≤ L) : RSL n E H L s l :=
  ⟨h, fun sl e h0 => by rw [e] at h; exact Nat.lt_of_lt_of_le (RS.lt hE hn h h0) hL⟩
theorem Two.other {F : Nat → Prop} {H H' : Heap} {L : Nat} {M N : Mm} {c d : Co} (h : Two H L M N c d) (k : Kp F H H') (h1 : ∀ i, M.In i → ¬ F i) (h2 : ∀ i, N.In i → ¬ F i) : Two H' L M N c d := ⟨h.m.other k h1, h.n.other k h2, h.d⟩
theorem gets7 {H : Heap} {s : Option Sl} {l : List Cal} (h : RS 7 E7 H s l) {i : Nat} {a : Cal} (hi : l[i]? = some a) :
    ∃ sl, s = some sl ∧ (inb (i : Int) sl.len && sl.esz == 7) = true ∧ H.get sl.id (sl.off + ((i : Nat) : Int).toNat * 7) = some (.int .i64 a.kind) ∧ H.get sl.id (sl.off + ((i : Nat) : Int).toNat * 7 + 1) = some (.int .i64 a.t) ∧
      H.get sl.id (sl.off + ((i : Nat) : Int).toNat * 7 + 1 + 1) = some (.bool a.near) ∧ H.get sl.id (sl.off + ((i : Nat) : Int).toNat * 7 + 1 + 1 + 1) = some (.int .i64 a.inn) ∧ H.get sl.id (sl.off + ((i : Nat) : Int).toNat * 7 + 1 + 1 + 1 + 1) = some (.int .u64 a.at') ∧
      H.get sl.id (sl.off + ((i : Nat) : Int).toNat * 7 + 1 + 1 + 1 + 1 + 1) = some (.int .i64 a.w) ∧ H.get sl.id (sl.off + ((i : Nat) : Int).toNat * 7 + 1 + 1 + 1 + 1 + 1 + 1) = some (.int .u64 a.v) := by
  obtain ⟨sl, e, h1, h2⟩ := h.idx E7_len hi
  exact ⟨sl, e, h1, by simpa using h2 0 _ rfl, by simpa using h2 1 _ rfl, by simpa using h2 2 _ rfl, by simpa using h2 3 _ rfl, by simpa using h2 4 _ rfl, by simpa using h2 5 _ rfl, by simpa using h2 6 _ rfl⟩
def Cal.put (o : Cal) (a : Int) : Cal := { o with at' := a }
/-! ### the stores -/
def one (l : List Sto) : List (List Sto) := noRows.set 0 l
/-! ### a number that is cut is written as itself -/
theorem sh8 : ∀ i, i < 8 → min (IntKind.u64.wrap (8 * ((i : Nat) : Int))).toNat IntKind.u64.bits = 8 * i := by decide
theorem byte_cut (v : Int) (k m : Nat) (h : k + 8 ≤ m) : v % 2 ^ m / 2 ^ k % 256 = v / 2 ^ k % 256 := by
  obtain ⟨d, rfl⟩ : ∃ d, m = k + 8 + d := ⟨m - (k + 8), by omega⟩
  have hk : (0 : Int) < 2 ^ k := Int.pow_pos (by decide)
  have e : (2 : Int) ^ (k + 8 + d) = 2 ^ k * (256 * 2 ^ d) := by rw [Int.pow_add, Int.pow_add, Int.mul_assoc]; rfl
  rw [e, Int.emod_def v, Int.mul_assoc, Int.sub_eq_add_neg, ← Int.mul_neg, Int.add_mul_ediv_left _ _ (Int.ne_of_gt hk), ← Int.mul_neg, ← Int.mul_assoc, Int.mul_assoc 256]
  generalize 2 ^ d * -(v / (2 ^ k * (256 * 2 ^ d))) = q
  omega
theorem byte_zx (v w : Int) (hw : isW8 w = true) (i : Nat) (hi : i < w.toNat) : byteOf (zxv v w) i = byteOf v i := by
  rw [mask_eq v w hw]
  unfold byteOf ishr
  have h8 : i < 8 := by rcases isW8_w hw with e | e | e | e <;> omega
  rw [sh8 i h8]
  have hp : (0 : Int) ≤ 2 ^ (8 * i) := Int.le_of_lt (Int.pow_pos (by decide))
  rw [Int.fdiv_eq_ediv_of_nonneg _ hp, Int.fdiv_eq_ediv_of_nonneg _ hp]
  have := byte_cut v (8 * i) (8 * w.toNat) (by omega)
  simp only [IntKind.wrap, IntKind.bits, IntKind.signed]
  simpa using this
/-! ### the second loop -/
/-! ### the document's New and Find -/
theorem loop29 {β : Type} {en : Nat} {eE : β → List Cell} (b L : Nat) (l : Option Sl) (zs : List Ar) (hz : zs.length ≤ 1000) (hl : ∀ sl, l = some sl → zs ≠ [] → sl.id < L) : ∀ (m n i : Nat) (s : Option Sl) (ars : List Ar) (H : Heap), i + m = zs.length →
    MRg en eE H b L s ars nils noRows → ars.length = i → RS 5 E5 H l zs → Src H L zs → Freshes zs ars →
    ∃ s' ars' H', D29_3 (n + m + 1) (some (b, 0)) l (zs.length : Int) (i : Int) H = some (.exit 0, X29_3 (some (b, 0)) H') ∧ MRg en eE H' b L s' ars' nils noRows ∧ ars'.length = zs.length ∧ Freshes zs ars' ∧ Kp (fun i => L ≤ i) H H'
  | 0, n, i, s, ars, H, hm, hM, hi, hR, hS, hF => by
    have g : decide ((i : Int) < (zs.length : Int)) = false := by simp; omega
    exact ⟨s, ars, H, by rw [D29_3_s, g, cf], hM, by omega, hF, Kp.refl _ _⟩
  | m + 1, n, i, s, ars, H, hm, hM, hi, hR, hS, hF => by
    have g : decide ((i : Int) < (zs.length : Int)) = true := by simp; omega
    have hlt : i < zs.length := by omega
    have hzi := List.getElem?_eq_getElem hlt
    have hmem : zs[i] ∈ zs := List.getElem_mem hlt
    obtain ⟨sl, rfl, g1, c0, c1, c2, c3, c4⟩ := gets5 hR hzi
    obtain ⟨d, H1, e1, e2, e3, e4⟩ := clone_x H zs[i].sl zs[i].data (hS.d _ hmem) (hS.dn _ hmem)
    have hM1 := hM.no e3
    have hL : L ≤ H.length := by
      have := hM.ge .hd b rfl; have := hM.lt .hd b rfl; omega
    obtain ⟨s', H2, H3, f1, f2, f3, f4⟩ := hM1.add (by omega) { lo := zs[i].lo, sl := d, data := zs[i].data, wr := zs[i].wr, pr := zs[i].pr, ow := -1 } H.length e2 e4 (fun x j hj => hM.lt x j hj) hL
    have hg : H1.get b (0 + 0) = some (.slice s) := by rw [get_of hM1.hd]; rfl
    have kk : Kp (fun i => L ≤ i) H H3 := (e3.mono (D := fun i => L ≤ i) fun i _ hf => absurd hf (fun h => h)).trans f4 (fun _ h => h) fun _ _ h => h
    obtain ⟨s4, ars4, H4, r1, r2, r3, r4, r5⟩ := loop29 b L (some sl) zs hz hl m n (i + 1) s' _ H3 (by omega) f3 (by simp; omega) (hR.kp kk fun sl e h0 => Nat.not_le_of_lt (hl sl e h0)) (hS.kp kk) (fun k a hk => by
      rcases Nat.lt_or_ge k ars.length with h1 | h1
      · rw [List.getElem?_append_left h1] at hk; exact hF k a hk
      · rw [List.getElem?_append_right h1] at hk
        cases hm : k - ars.length with
        | succ q => rw [hm] at hk; simp at hk
        | zero =>
          rw [hm] at hk
          simp at hk
          subst hk
          exact ⟨zs[i], by rw [show k = i by omega]; exact hzi, rfl, rfl, rfl, rfl, rfl⟩)
    refine ⟨s4, ars4, H4, ?_, r2, r3, r4, kk.trans r5 (fun _ h => h) fun _ _ h => h⟩
    rw [show n + (m + 1) + 1 = (n + m + 1) + 1 by omega, D29_3_s, g]
    simp only [ct, Ab.bs, g1, c0, c1, c2, c3, c4, tInt, tSlice, tBool, e1, hg]
    have f1 : (H1 ++ [Blk.row [Cell.int .u64 zs[i].lo, Cell.slice d, Cell.bool zs[i].wr, Cell.bool zs[i].pr, Cell.int .i64 (-1)] false]).append 5 48 s (some { id := List.length H1, off := 0, len := 1, cap := 1, esz := 5 }) = some (s', H2) := f1
    rw [f1, Ab.bs]
    dsimp only
    rw [show (0 : Nat) + 0 = 0 from rfl, f2, Ab.bs, i64_succ i (by omega)]
    exact r1
theorem f29_x {β : Type} {en : Nat} {eE : β → List Cell} (l : Option Sl) (zs : List Ar) (hz : zs.length ≤ 1000) (H : Heap) (hR : RS 5 E5 H l zs) (hS : Src H H.length zs) :
    ∃ s ars H', f29 l H = some (some (H.length, 0), H') ∧ MRg en eE H' H.length H.length s ars nils noRows ∧ ars.length = zs.length ∧ Freshes zs ars ∧ Kp No H H' := by
  rw [q29]
  have k0 := Kp.push1 H (Blk.row [Cell.slice none, Cell.slice none, Cell.slice none, Cell.slice none, Cell.slice none, Cell.slice none, Cell.slice none, Cell.slice none, Cell.slice none] false)
  have hR1 := hR.no k0
  have hS1 := hS.kp (k0.mono (D := fun i => H.length ≤ i) fun i _ hf => absurd hf (fun h => h))
  have hM := MRg.empty (en := en) (eE := eE) H
  generalize (H ++ [Blk.row [Cell.slice none, Cell.slice none, Cell.slice none, Cell.slice none, Cell.slice none, Cell.slice none, Cell.slice none, Cell.slice none, Cell.slice none] false]) = H1 at *
  obtain ⟨n, e⟩ := LL29_3_of zs.length (by omega) (some (H.length, 0)) l (slen l) 0 H1
  obtain ⟨s, ars, H', r1, r2, r3, r4, r5⟩ := loop29 H.length H.length l zs hz (fun sl e h0 => by subst e; exact RS.lt E5_len (by decide) hR h0) zs.length n 0 none [] H1 (by omega) hM rfl hR1 hS1 (fun k a hk => by simp at hk)
  refine ⟨s, ars, H', ?_, r2, r3, r4, k0.tr' r5⟩
  rw [e, hR.slenEq, show (0 : Int) = ((0 : Nat) : Int) from rfl, r1, Ab.bs, J29_3_0]
theorem loop109 (s : Option Sl) (ars : List Ar) (hn : ars.length < 9223372036854775807) (x : Int) (H : Heap) (h : RS 5 E5 H s ars) : ∀ (m n i : Nat), i + m = ars.length →
    (D109_2 (n + m + 1) x s (ars.length : Int) (i : Int) H).bind J109_2 = some (findFrom x (ars.drop i) i, H)
  | 0, n, i, hm => by
    have g : decide ((i : Int) < (ars.length : Int)) = false := by simp; omega
    rw [D109_2_s, g, cf, Ab.bs, J109_2_1, List.drop_eq_nil_of_le (by omega)]
    rfl
  | m + 1, n, i, hm => by
    have g : decide ((i : Int) < (ars.length : Int)) = true := by simp; omega
    have hi : i < ars.length := by omega
    obtain ⟨sl, rfl, g1, c0, c1, c2, c3, c4⟩ := gets5 h (List.getElem?_eq_getElem hi)
    have ih := loop109 (some sl) ars hn x H h m n (i + 1) (by omega)
    rw [show n + (m + 1) + 1 = (n + m + 1) + 1 by omega, D109_2_s, g]
    simp only [ct, Ab.bs, g1, c0, c1, c2, c3, c4, tInt, tSlice, tBool, i64_succ i (by omega)]
    rw [List.drop_eq_getElem_cons hi]
    unfold findFrom Ar.has
    cases decide (IntKind.u64.wrap (x - ars[i].lo) < IntKind.u64.wrap (slen ars[i].sl))
    · rw [cf, cf]; exact ih
    · rw [ct, ct, Ab.bs, J109_2_0]
theorem f109_x (p : Nat × Nat) (ars : List Ar) (x : Int) (H : Heap) (h : Rd H p ars) : f109 (some p) x H = some (findA ars x, H) := by
  obtain ⟨h0, s, h1, h2⟩ := h
  rw [q109]
  simp only [Ab.bs, h1, tSlice]
  obtain ⟨n, e⟩ := LL109_2_of ars.length (by omega) x s (slen s) 0 H
  have := loop109 s ars h0 x H h2 ars.length n 0 (by omega)
  rw [List.drop_zero] at this
  rw [e, h2.slenEq, show (0 : Int) = ((0 : Nat) : Int) from rfl, this]
  rfl
/-! ### the law -/
/-- Two lists of areas have the same addresses. -/
theorem find_same (x : Int) : ∀ (l m : List Ar) (i : Nat), l.length = m.length → (∀ (k : Nat) (a c : Ar), l[k]? = some a → m[k]? = some c → a.has x = c.has x) → findFrom x l i = findFrom x m i
  | [], [], i, _, _ => rfl
  | [], _ :: _, i, h, _ => by simp at h
  | _ :: _, [], i, h, _ => by simp at h
  | a :: l, c :: m, i, h, hs => by
    unfold findFrom
    rw [hs 0 a c rfl rfl, find_same x l m (i + 1) (by simpa using h) fun k => hs (k + 1)]
theorem wrap_nat (i : Nat) (h : i < 9223372036854775808) : IntKind.u64.wrap ((i : Nat) : Int) = (i : Int) := by rw [wrap_u64]; omega
theorem f108_x (w : Int) (H : Heap) : f108 w H = some (isW8 w, H) := by
  rw [q108]
  unfold isW8
  cases w == 1 <;> cases w == 2 <;> cases w == 4 <;> rfl
theorem loop61 (p : Nat × Nat) (ars : List Ar) (t x : Int) (wr : Bool) (N : Nat) (hN : N ≤ 8) (H : Heap) (h : Rd H p ars) : ∀ (m n i : Nat), i + m = N →
    (D61_4 (n + m + 1) (some p) t x (N : Int) wr (i : Int) H).bind J61_4 = some (allThere ars t x wr i m, H)
  | 0, n, i, hm => by
    have g : decide ((i : Int) < (N : Int)) = false := by simp; omega
    rw [D61_4_s, g, cf, Ab.bs, J61_4_1]; rfl
  | m + 1, n, i, hm => by
    have g : decide ((i : Int) < (N : Int)) = true := by simp; omega
    have ih := loop61 p ars t x wr N hN H h m n (i + 1) (by omega)
    rw [show n + (m + 1) + 1 = (n + m + 1) + 1 by omega, D61_4_s, g, ct, wrap_nat i (by omega), f109_x p ars _ H h, Ab.bs]
    obtain ⟨h0, s, h1, h2⟩ := h
    unfold allThere
    rcases findA_cases ars (IntKind.u64.wrap (x + (i : Int))) with e | ⟨k, a, e1, e2, e3⟩
    · have ht : thereA ars t (IntKind.u64.wrap (x + (i : Int))) wr = false := by
        unfold thereA
        rw [e]
        cases ars[(-1 : Int).toNat]? <;> rfl
      rw [e, ht]
      rfl
    · have e4 : ars[((k : Nat) : Int).toNat]? = some a := e1
      have ht : thereA ars t (IntKind.u64.wrap (x + (i : Int))) wr = ((!a.pr || a.ow == t) && (a.wr || !wr)) := by
        unfold thereA
        rw [e3, e4]
        simp
      obtain ⟨sl, rfl, g1, c0, c1, c2, c3, c4⟩ := gets5 h2 e1
      have c2' : H.get sl.id (sl.off + ((k : Nat) : Int).toNat * 5 + 2) = some (.bool a.wr) := c2
      have c3' : H.get sl.id (sl.off + ((k : Nat) : Int).toNat * 5 + 3) = some (.bool a.pr) := c3
      have c4' : H.get sl.id (sl.off + ((k : Nat) : Int).toNat * 5 + 4) = some (.int .i64 a.ow) := c4
      rw [e3, ht]
      simp only [show decide (((k : Nat) : Int) < 0) = false by simp, cf, Ab.bs, h1, tSlice, g1, ct, c2', c3', c4', tInt, tBool, i64_succ i (by omega)]
      unfold bne
      cases a.pr <;> cases (a.ow == t) <;> cases wr <;> cases a.wr <;> simp only [Bool.not_true, Bool.not_false, ct, cf, Ab.bs, J61_4_0, Bool.true_or, Bool.false_or, Bool.or_true, Bool.or_false, Bool.true_and, Bool.false_and, Bool.and_true, Bool.and_false] <;> exact ih
theorem f61_x (p : Nat × Nat) (ars : List Ar) (t x w : Int) (wr : Bool) (H : Heap) (h : Rd H p ars) (hx : u64p x) : f61 (some p) t x w wr H = some (mayA ars t x w wr, H) := by
  rw [q61]
  unfold mayA thrd
  by_cases h0 : t < 0
  · rw [decide_eq_true h0, decide_eq_false (show ¬ t ≥ 0 by omega)]; rfl
  by_cases h7 : t > 7
  · rw [decide_eq_false h0, decide_eq_true h7, decide_eq_false (show ¬ t < 8 by omega), Bool.and_false]; rfl
  rw [decide_eq_false h0, decide_eq_false h7, decide_eq_true (show t ≥ 0 by omega), decide_eq_true (show t < 8 by omega), f108_x, cf, cf, Ab.bs]
  cases hw : isW8 w
  · rfl
  have hw := isW8_w hw
  have hf : decide (IntKind.u64.wrap (x + IntKind.u64.wrap (IntKind.i64.wrap (w - 1))) < x) = farA x w := by
    unfold farA u64p at *
    simp only [wrap_u64]
    rcases hw with rfl | rfl | rfl | rfl <;> rw [wrap_i64 (by omega) (by omega)] <;> apply decide_eq_decide.2 <;> omega
  dsimp only
  rw [hf]
  simp only [Bool.not_true, cf, Bool.true_and]
  cases farA x w
  · obtain ⟨n, e⟩ := LL61_4_of w.toNat (by omega) (some p) t x w wr 0 H
    have hwn : w = ((w.toNat : Nat) : Int) := by omega
    have := loop61 p ars t x wr w.toNat (by omega) H h w.toNat n 0 (by omega)
    rw [← hwn] at this
    rw [cf, e]
    exact this
  · rfl
/-! ### the bytes of a number -/
def bytesFrom (v : Int) : Nat → Nat → List UInt8
  | _, 0 => []
  | i, n + 1 => u8v (byteOf v i) :: bytesFrom v (i + 1) n
theorem bytes_len (v : Int) : ∀ n i, (bytesFrom v i n).length = n
  | 0, _ => rfl
  | n + 1, i => by unfold bytesFrom; rw [List.length_cons, bytes_len v n]
theorem bytes_last (v : Int) : ∀ n i, bytesFrom v i (n + 1) = bytesFrom v i n ++ [u8v (byteOf v (i + n))]
  | 0, i => rfl
  | n + 1, i => by
    show u8v (byteOf v i) :: bytesFrom v (i + 1) (n + 1) = u8v (byteOf v i) :: bytesFrom v (i + 1) n ++ _
    rw [bytes_last v n (i + 1), List.cons_append, show i + 1 + n = i + (n + 1) by omega]
theorem byteOf_range (v : Int) (i : Nat) : 0 ≤ byteOf v i ∧ byteOf v i < 256 := u8_range _
theorem byteOf_div (v : Int) (i : Nat) (h : i < 8) : byteOf v i = v / 2 ^ (8 * i) % 256 := by
  unfold byteOf ishr
  rw [sh8 i h, Int.fdiv_eq_ediv_of_nonneg _ (Int.le_of_lt (Int.pow_pos (by decide))), wrap_u8]
theorem row8 (H : Heap) (c : UInt8) : RS 1 E8 (H ++ [Blk.row (E8 c) false]) (some { id := H.length, off := 0, len := 1, cap := 1, esz := 1 }) [c] :=
  ⟨rfl, rfl, Nat.le_refl _, fun j c e => by rw [Nat.zero_add, get_of (push_get _ _)]; simpa using e⟩
theorem New.le {H : Heap} {L : Nat} {s s' : Option Sl} (h : New L s) (hL : L ≤ H.length) (f : Fr2 H.length s s') : New L s' := fun sl e => by
  rcases f sl e with ⟨s0, e0, e1⟩ | e1
  · rw [e1]; exact h s0 e0
  · omega
theorem Of.new {L : Nat} {s : Option Sl} (h : New L s) (i : Nat) (hi : Of s i) : L ≤ i := by
  obtain ⟨sl, e, e'⟩ := hi; rw [e']; exact h sl e
/-- One byte more. -/
theorem push8 {H : Heap} {L : Nat} {s : Option Sl} {l : List UInt8} (h : OS 1 E8 H s l) (hN : New L s) (hL : L ≤ H.length) (hl : l.length ≤ 1000) (c : UInt8) : ∃ s' H', (H ++ [Blk.row [Cell.int .u8 (c.toNat : Int)] false]).append 1 1 s (some { id := List.length H, off := 0, len := 1, cap := 1, esz := 1 }) = some (s', H') ∧ OS 1 E8 H' s' (l ++ [c]) ∧ New L s' ∧ Kp (fun i => L ≤ i) H H' := by
  obtain ⟨s', H', a1, a2, a3, a4⟩ := append_OS E8_len (by decide) (by' := 1) (h.no (Kp.push1 H (Blk.row (E8 c) false))) (row8 H c) (by simp [most]; omega)
  exact ⟨s', H', a1, a2, New.le hN (by simp; omega) a4, (Kp.push _ H [Blk.row (E8 c) false]).trans (a3.mono (D := fun i => L ≤ i) fun i _ hf => Of.new hN i hf) (fun _ h => h) fun _ _ h => h⟩
theorem loop63 (v : Int) (hv : u64p v) (N L : Nat) (hN : N ≤ 8) : ∀ (m n i : Nat) (s : Option Sl) (H : Heap), i + m = N → OS 1 E8 H s (bytesFrom v 0 i) → New L s → L ≤ H.length →
    ∃ s' H', (D63_3 (n + m + 1) (N : Int) (v / 2 ^ (8 * i)) s (i : Int) H).bind J63_3 = some (s', H') ∧ OS 1 E8 H' s' (bytesFrom v 0 N) ∧ New L s' ∧ Kp (fun i => L ≤ i) H H'
  | 0, n, i, s, H, hm, hO, hs, hL => by
    have g : decide ((i : Int) < (N : Int)) = false := by simp; omega
    obtain rfl : i = N := by omega
    exact ⟨s, H, by rw [D63_3_s, g, cf, Ab.bs, J63_3_0], hO, hs, Kp.refl _ _⟩
  | m + 1, n, i, s, H, hm, hO, hs, hL => by
    have g : decide ((i : Int) < (N : Int)) = true := by simp; omega
    have hp : (0 : Int) < 2 ^ (8 * i) := Int.pow_pos (by decide)
    have hd : 0 ≤ v / 2 ^ (8 * i) ∧ v / 2 ^ (8 * i) < 18446744073709551616 := by
      refine ⟨Int.ediv_nonneg hv.1 (Int.le_of_lt hp), Int.lt_of_le_of_lt (Int.ediv_le_self _ hv.1) hv.2⟩
    have hb : IntKind.u8.wrap ((v / 2 ^ (8 * i)).tmod 256) = ((u8v (byteOf v i)).toNat : Int) := by
      rw [u8v_eq (byteOf_range v i).1 (byteOf_range v i).2, byteOf_div v i (by omega), Int.tmod_eq_emod_of_nonneg hd.1, wrap_u8]
      omega
    have hn : IntKind.u64.wrap ((v / 2 ^ (8 * i)).tdiv 256) = v / 2 ^ (8 * (i + 1)) := by
      rw [Int.tdiv_eq_ediv_of_nonneg hd.1, show 8 * (i + 1) = 8 * i + 8 by omega, Int.pow_add, ← Int.ediv_ediv_of_nonneg (Int.le_of_lt hp)]
      generalize v / 2 ^ (8 * i) = q at *
      rw [wrap_u64, show (2 : Int) ^ 8 = 256 from rfl]
      omega
    obtain ⟨s1, H1, a1, a2, a3, a4⟩ := push8 hO hs hL (by rw [bytes_len]; omega) (u8v (byteOf v i))
    have a2' : OS 1 E8 H1 s1 (bytesFrom v 0 (i + 1)) := by rw [bytes_last, Nat.zero_add]; exact a2
    obtain ⟨s', H', r1, r2, r3, r4⟩ := loop63 v hv N L hN m n (i + 1) s1 H1 (by omega) a2' a3 (Nat.le_trans hL a4.len)
    refine ⟨s', H', ?_, r2, r3, a4.trans r4 (fun _ h => h) fun _ _ h => h⟩
    rw [show n + (m + 1) + 1 = (n + m + 1) + 1 by omega, D63_3_s, g, ct, hb, a1, Ab.bs, hn, i64_succ i (by omega)]
    exact r1
theorem f63_x (v w : Int) (hv : u64p v) (hw : isW8 w = true) (H : Heap) : ∃ s' H', f63 w v H = some (s', H') ∧ OS 1 E8 H' s' (bytesFrom v 0 w.toNat) ∧ New H.length s' ∧ Kp No H H' := by
  rw [q63]
  have hw := isW8_w hw
  obtain ⟨n, e⟩ := LL63_3_of w.toNat (by omega) w v none 0 H
  have hwn : ((w.toNat : Nat) : Int) = w := by omega
  obtain ⟨s', H', r1, r2, r3, r4⟩ := loop63 v hv w.toNat H.length (by omega) w.toNat n 0 none H (by omega) rfl (fun _ e => nomatch e) (Nat.le_refl _)
  refine ⟨s', H', ?_, r2, r3, (Kp.refl No H).tr' r4⟩
  rw [hwn] at r1
  rw [e]
  have e0 : v / 2 ^ (8 * 0) = v := by simp
  rw [e0] at r1
  exact r1
/-! ### the document's memory -/
structure RSto where
  at' : Int
  sl : Option Sl
  bytes : List UInt8
def E2 (x : RSto) : List Cell := [.int .u64 x.at', .slice x.sl]
theorem E2_len (x : RSto) : (E2 x).length = 2 := rfl
theorem row2 (H : Heap) (a : RSto) : RS 2 E2 (H ++ [Blk.row (E2 a) false]) (some { id := H.length, off := 0, len := 1, cap := 1, esz := 2 }) [a] :=
  ⟨rfl, rfl, Nat.le_refl _, fun j c e => by rw [Nat.zero_add, get_of (push_get _ _)]; simpa using e⟩
def RSto.abs (x : RSto) : Int × List UInt8 := (x.at', x.bytes)
def Sto.abs (s : Sto) : Int × List UInt8 := (s.at', bytesFrom s.v 0 s.w.toNat)
structure Rm where
  b : Nat
  s : Option Sl
  ars : List Ar
  rs : List (Option Sl)
  rows : List (List RSto)
def Rm.Inm (R : Rm) (i : Nat) : Prop := InM R.b R.s R.ars R.rs i
def Rm.In (R : Rm) (i : Nat) : Prop := R.Inm i ∨ ∃ l, l ∈ R.rows ∧ ∃ x, x ∈ l ∧ idO x.sl = some i
def Rm.p (R : Rm) : Option (Nat × Nat) := some (R.b, 0)
structure Rm.Is (R : Rm) (H : Heap) (L : Nat) (c : Co) : Prop where
  m : MRg 2 E2 H R.b L R.s R.ars R.rs R.rows
  y : ∀ l, l ∈ R.rows → ∀ x, x ∈ l → OS 1 E8 H x.sl x.bytes ∧ ∀ i, idO x.sl = some i → L ≤ i ∧ ¬ R.Inm i
  a : nfs R.ars = c.ars
  r : R.rows.map (·.map RSto.abs) = c.rows.map (·.map Sto.abs)
structure Rm.To (R S : Rm) (H H' : Heap) : Prop where
  b : S.b = R.b
  k : Kp R.Inm H H'
  idm : ∀ i, S.Inm i → R.Inm i ∨ H.length ≤ i
  idy : ∀ i, S.In i → R.In i ∨ H.length ≤ i
theorem Rm.To.no {M : Rm} {H H' : Heap} (k : Kp No H H') : M.To M H H' := ⟨rfl, k.mono fun i _ hf => absurd hf (fun h => h), fun i h => .inl h, fun i h => .inl h⟩
theorem Rm.To.trans {M N O : Rm} {A B C : Heap} (p : M.To N A B) (q : N.To O B C) : M.To O A C := by
  refine ⟨q.b.trans p.b, p.k.trans q.k (fun _ h => h) fun i hi hf => ?_, fun i h => ?_, fun i h => ?_⟩
  · rcases p.idm i hf with e | e
    · exact e
    · omega
  · rcases q.idm i h with e | e
    · exact p.idm i e
    · exact .inr (Nat.le_trans p.k.len e)
  · rcases q.idy i h with e | e
    · exact p.idy i e
    · exact .inr (Nat.le_trans p.k.len e)
theorem OS.idlt {α : Type} {n : Nat} {E : α → List Cell} {H : Heap} {s : Option Sl} {l : List α} (h : OS n E H s l) {i : Nat} (hi : idO s = some i) : i < H.length := by
  cases s with
  | none => cases hi
  | some sl => cases hi; exact OS.lt h
theorem Rm.Is.lt {R : Rm} {H : Heap} {L : Nat} {c : Co} (h : R.Is H L c) {i : Nat} (hi : R.In i) : i < H.length := by
  rcases hi with ⟨x, e⟩ | ⟨l, h1, x, h2, e⟩
  · exact h.m.lt x i e
  · exact OS.idlt (h.y l h1 x h2).1 e
theorem Rm.Is.ge {R : Rm} {H : Heap} {L : Nat} {c : Co} (h : R.Is H L c) {i : Nat} (hi : R.In i) : L ≤ i := by
  rcases hi with ⟨x, e⟩ | ⟨l, h1, x, h2, e⟩
  · exact h.m.ge x i e
  · exact ((h.y l h1 x h2).2 i e).1
theorem Rm.Is.other {R : Rm} {F : Nat → Prop} {H H' : Heap} {L : Nat} {c : Co} (h : R.Is H L c) (k : Kp F H H') (hd : ∀ i, R.In i → ¬ F i) : R.Is H' L c :=
  ⟨h.m.other k fun i hi => hd i (.inl hi), fun l hl x hx => ⟨OS.other (h.y l hl x hx).1 k fun i hi => hd i (.inr ⟨l, hl, x, hx, hi⟩), (h.y l hl x hx).2⟩, h.a, h.r⟩
theorem Rm.Is.no {R : Rm} {H H' : Heap} {L : Nat} {c : Co} (h : R.Is H L c) (k : Kp No H H') : R.Is H' L c := h.other k fun _ _ h => h
theorem Rm.Is.tru {R : Rm} {H : Heap} {L : Nat} {c : Co} (h : R.Is H L c) : Tru R.ars := h.m.tru
theorem Rm.Is.len {R : Rm} {H : Heap} {L : Nat} {c : Co} (h : R.Is H L c) : R.ars.length = c.ars.length := by rw [← h.a]; simp [nfs]
theorem Rm.Is.may {R : Rm} {H : Heap} {L : Nat} {c : Co} (h : R.Is H L c) (t x w : Int) (wr : Bool) : mayA R.ars t x w wr = mayA c.ars t x w wr := by rw [← h.a, may_nf h.tru]
theorem Rm.Is.dl {R : Rm} {H : Heap} {L N : Nat} {c : Co} (h : R.Is H L c) (f : c.Fit N) : ∀ a, a ∈ R.ars → a.data.length ≤ 1048576 := fun a ha => f.d (nfA a) (by rw [← h.a]; exact List.mem_map.2 ⟨a, ha, rfl⟩)
theorem Rm.Is.nl {R : Rm} {H : Heap} {L N : Nat} {c : Co} (h : R.Is H L c) (f : c.Fit N) : R.ars.length ≤ 1000 := by rw [h.len]; exact f.n
theorem Rm.Is.row {R : Rm} {H : Heap} {L : Nat} {c : Co} (h : R.Is H L c) {t : Nat} {l : List Sto} (hl : c.rows[t]? = some l) : ∃ q, R.rows[t]? = some q ∧ q.map RSto.abs = l.map Sto.abs := by
  have := congrArg (·[t]?) h.r
  simp only [List.getElem?_map, hl, Option.map_some] at this
  cases hq : R.rows[t]? with
  | none => rw [hq] at this; cases this
  | some q => rw [hq] at this; exact ⟨q, rfl, Option.some.inj this⟩
/-! ### write -/
theorem Rm.Is.step {R : Rm} {H H' : Heap} {L : Nat} {c c' : Co} (h : R.Is H L c) {ars' : List Ar} {rs' : List (Option Sl)} {rows' : List (List RSto)} (m : MRg 2 E2 H' R.b L R.s ars' rs' rows') (st : Stp R.b R.s R.ars R.rs ars' rs' H H')
    (hy : ∀ l, l ∈ rows' → ∀ x, x ∈ l → (∃ l0, l0 ∈ R.rows ∧ x ∈ l0) ∨ (OS 1 E8 H' x.sl x.bytes ∧ ∀ i, idO x.sl = some i → H.length ≤ i ∧ ¬ InM R.b R.s ars' rs' i)) (ha : nfs ars' = c'.ars) (hr : rows'.map (·.map RSto.abs) = c'.rows.map (·.map Sto.abs)) :
    Rm.Is ⟨R.b, R.s, ars', rs', rows'⟩ H' L c' ∧ R.To ⟨R.b, R.s, ars', rs', rows'⟩ H H' := by
  refine ⟨⟨m, fun l hl x hx => ?_, ha, hr⟩, ⟨rfl, st.k, st.ids, fun i hi => ?_⟩⟩
  · rcases hy l hl x hx with ⟨l0, h1, h2⟩ | ⟨h1, h2⟩
    · obtain ⟨y1, y2⟩ := h.y l0 h1 x h2
      refine ⟨OS.other y1 st.k fun i hi => (y2 i hi).2, fun i hi => ⟨(y2 i hi).1, fun hf => ?_⟩⟩
      rcases st.ids i hf with e | e
      · exact (y2 i hi).2 e
      · have := OS.idlt y1 hi; omega
    · refine ⟨h1, fun i hi => ⟨?_, (h2 i hi).2⟩⟩
      have := (h2 i hi).1
      have := h.ge (.inl ⟨.hd, rfl⟩ : R.In R.b)
      have := h.lt (.inl ⟨.hd, rfl⟩ : R.In R.b)
      omega
  · rcases hi with hi | ⟨l, hl, x, hx, hi⟩
    · rcases st.ids i hi with e | e
      · exact .inl (.inl e)
      · exact .inr e
    · rcases hy l hl x hx with ⟨l0, h1, h2⟩ | ⟨h1, h2⟩
      · exact .inl (.inr ⟨l0, h1, x, h2, hi⟩)
      · exact .inr (h2 i hi).1
theorem in_set {α : Type} {l : List α} {t : Nat} {y q : α} (h : q ∈ l.set t y) : q = y ∨ q ∈ l := by
  obtain ⟨k, hk⟩ := List.mem_iff_getElem?.1 h
  rcases set_at hk with ⟨_, e, _⟩ | ⟨_, hk⟩
  · exact .inl e
  · exact .inr (List.mem_of_getElem? hk)
theorem map_set' {α β : Type} (f : α → β) (l : List α) (t : Nat) (y : α) : (l.set t y).map f = (l.map f).set t (f y) := List.map_set ..
theorem thrd_lt {t : Int} (h : thrd t = false) : t < 0 ∨ t > 7 := by
  unfold thrd at h
  by_cases h0 : t < 0
  · exact .inl h0
  · rw [decide_eq_true (show t ≥ 0 by omega), Bool.true_and] at h
    have := of_decide_eq_false h
    omega
theorem thrd_nat {t : Nat} (h : t < 8) : decide (((t : Nat) : Int) < 0) = false ∧ decide (((t : Nat) : Int) > 7) = false := ⟨by simp, by simp; omega⟩
theorem rowR {R : Rm} {H : Heap} {L : Nat} {c : Co} (h : R.Is H L c) {t : Nat} (h8 : t < 8) : ∃ rt, R.rs[t]? = some rt := ⟨_, List.getElem?_eq_getElem (by rw [h.m.rl]; exact h8)⟩
theorem bytes_zx (v w : Int) (hw : isW8 w = true) : ∀ n i, i + n ≤ w.toNat → bytesFrom (zxv v w) i n = bytesFrom v i n
  | 0, _, _ => rfl
  | n + 1, i, h => by
    unfold bytesFrom
    rw [byte_zx v w hw i (by omega), bytes_zx v w hw n (i + 1) (by omega)]
theorem rstore_x {R : Rm} {H : Heap} {L N : Nat} {c : Co} (h : R.Is H L c) (f : c.Fit N) (hN : N < 65536) (t x w v : Int) (hx : u64p x) (hv : u64p v) :
    ∃ R' H', f33 R.p t x w v H = some ((storeC c t x w v).1, H') ∧ R'.Is H' L (storeC c t x w v).2 ∧ R.To R' H H' := by
  have e1 : f61 R.p t x w true H = some (mayA c.ars t x w true, H) := by rw [← h.may]; exact f61_x (R.b, 0) R.ars t x w true H (h.m.rd (by have := h.nl f; omega)) hx
  rw [q33, e1, Ab.bs]
  unfold storeC
  cases hm : mayA c.ars t x w true
  · exact ⟨R, H, rfl, h, Rm.To.no (Kp.refl _ _)⟩
  · obtain ⟨gd, ht⟩ := may_good (v := v) hm
    obtain ⟨i8, t, rfl, h8⟩ := inb8 ht
    obtain ⟨l, hl, h1, h2⟩ := f.row h8
    have hl' : c.rows[((t : Nat) : Int).toNat]? = some l := hl
    obtain ⟨q, hq, hqa⟩ := h.row hl
    have hql : q.length = l.length := by simpa using congrArg List.length hqa
    obtain ⟨rt, hr⟩ := rowR h h8
    have hro := h.m.ro t _ _ hr hq
    have hs := hro.rs.slenEq
    have hrow : H.get R.b (0 + 1 + ((t : Nat) : Int).toNat * 1) = some (.slice rt) := head_row h.m hr
    obtain ⟨B, H1, b1, b2, b3, b4⟩ := f63_x v w hv gd.w H
    have m1 := h.m.no b4
    have k2 := Kp.push1 H1 (Blk.row (E2 ⟨x, B, bytesFrom v 0 w.toNat⟩) false)
    have hro1 := m1.ro t _ _ hr hq
    obtain ⟨r, H2, a1, a2, a3, a4⟩ := append_OS E2_len (by decide) (by' := 32) (hro1.no k2) (row2 H1 ⟨x, B, bytesFrom v 0 w.toNat⟩) (by simp [most]; omega)
    have k12 : Kp (Of rt) H1 H2 := (k2.mono (D := Of rt) fun i _ hf => absurd hf (fun h => h)).trans a3 (fun _ h => h) fun _ _ h => h
    have rid : ∀ i, idO r = some i → idO rt = some i ∨ H1.length + 1 ≤ i := fun i hi => by
      cases r with
      | none => cases hi
      | some sr =>
        cases hi
        rcases a4 sr rfl with ⟨s0, f0, f1⟩ | f
        · exact .inl (by rw [f0]; show some s0.id = some sr.id; rw [f1])
        · exact .inr (by simpa using f)
    obtain ⟨H3, p1, p2, p3⟩ := m1.setRow hr k12 a2 (fun i hi => by
      rcases rid i hi with e | e
      · exact .inl e
      · exact .inr (by omega))
    have bid : ∀ i, idO B = some i → H.length ≤ i ∧ i < H1.length := fun i hi => ⟨by
      cases B with
      | none => cases hi
      | some sb => cases hi; exact b3 sb rfl, OS.idlt b2 hi⟩
    have hlt : t < R.rs.length := by rw [h.m.rl]; exact h8
    have nin : ∀ i, idO B = some i → ¬ InM R.b R.s R.ars (R.rs.set t r) i := fun i hi hf => by
      obtain ⟨y, hy⟩ := hf
      by_cases e : y = .row t
      · rw [(slot_row y hlt).1 e] at hy
        rcases rid i hy with e' | e'
        · have := h.m.lt (.row t) i (by simp only [idAt, hr, Option.bind_some]; exact e')
          have := (bid i hi).1; omega
        · have := (bid i hi).2; omega
      · rw [(slot_row y hlt).2 e] at hy
        have := h.m.lt y i hy
        have := (bid i hi).1; omega
    have hB3 : OS 1 E8 H3 B (bytesFrom v 0 w.toNat) := OS.other b2 p3.k fun i hi hf => by
      have := h.lt (.inl hf : R.In i)
      have := (bid i hi).1; omega
    obtain ⟨u1, u2⟩ := h.step (c' := ⟨c.ars, c.rows.set t (l ++ [⟨x, w, zxv v w⟩])⟩) p2 ((Stp.no b4).trans p3) (fun l0 hl0 z hz => by
      rcases in_set hl0 with rfl | hl0
      · rcases List.mem_append.1 hz with hz | hz
        · exact .inl ⟨q, List.mem_of_getElem? hq, hz⟩
        · simp at hz; subst hz
          exact .inr ⟨hB3, fun i hi => ⟨(bid i hi).1, nin i hi⟩⟩
      · exact .inl ⟨l0, hl0, hz⟩) h.a (by
      show (R.rows.set t _).map _ = (c.rows.set t _).map _
      rw [map_set', map_set', h.r]
      simp only [List.map_append, hqa]
      congr 2
      show [(x, bytesFrom v 0 w.toNat)] = [(x, bytesFrom (zxv v w) 0 w.toNat)]
      rw [bytes_zx v w gd.w _ _ (by omega)])
    rw [ct, hl']
    refine ⟨_, H3, ?_, u1, u2⟩
    have hs0 : decide (slen rt ≥ 65536) = false := by rw [hs]; simp; omega
    have sm : ∀ o n, sameC R.b o n H H1 = true := b4.same1 (h.lt (.inl ⟨.hd, rfl⟩ : R.In R.b))
    unfold Rm.p
    simp only [Bool.not_true, cf, Ab.bs, i8, ct, hrow, tSlice, hs0, b1, sm]
    have a1 : (H1 ++ [Blk.row [Cell.int .u64 x, Cell.slice B] false]).append 2 32 rt (some { id := List.length H1, off := 0, len := 1, cap := 1, esz := 2 }) = some (r, H2) := a1
    simp only [a1, Ab.bs, p1]
/-! ### Own -/
def ownC (c : Co) (t k : Int) : Bool × Co :=
  bif ownA c.ars t k then match c.ars[k.toNat]? with
    | some a => (true, ⟨c.ars.set k.toNat { a with ow := t }, c.rows⟩)
    | none => (true, c)
  else (false, c)
theorem own_nf (l : List Ar) (t k : Int) : ownA (nfs l) t k = ownA l t k := by
  unfold ownA
  rw [nfs_at]
  cases l[k.toNat]? <;> rfl
theorem found_own {l : List Ar} {k : Nat} {a : Ar} (hk : l[k]? = some a) (t : Int) {x : Int} {i n : Nat} (h : Found l x i n) : Found (l.set k { a with ow := t }) x i n := by
  have hh : ∀ (j : Nat) (b d : Ar), l[j]? = some b → (l.set k { a with ow := t })[j]? = some d → ∀ x, b.has x = d.has x := fun j b d h1 h2 x => by
    rcases set_at h2 with ⟨rfl, rfl, _⟩ | ⟨_, h2⟩
    · rw [hk] at h1; cases h1; rfl
    · rw [h1] at h2; cases h2; rfl
  intro j h1 h2
  obtain ⟨m, b, e1, e2, e3⟩ := h j h1 h2
  have hlt : m < (l.set k { a with ow := t }).length := by simpa using (List.getElem?_eq_some_iff.1 e1).1
  refine ⟨m, _, List.getElem?_eq_getElem hlt, ?_, ?_⟩
  · rw [← hh m b _ e1 (List.getElem?_eq_getElem hlt)]; exact e2
  · rw [← e3]
    exact (find_same _ l _ 0 (by simp) fun j b d h1 h2 => hh j b d h1 h2 _).symm
theorem own_fit {c : Co} {N : Nat} (f : c.Fit N) (t k : Int) : (ownC c t k).2.Fit N := by
  unfold ownC
  cases ownA c.ars t k
  · exact f
  · rw [ct]
    cases hk : c.ars[k.toNat]? with
    | none => exact f
    | some a => exact ⟨by simpa using f.n, fun d hd => by
        rcases in_set hd with rfl | hd
        · exact f.d a (List.mem_of_getElem? hk)
        · exact f.d d hd, f.w, fun l hl => ⟨(f.g l hl).1, fun st hst => ⟨((f.g l hl).2 st hst).w, found_own hk t ((f.g l hl).2 st hst).f⟩⟩⟩
theorem nfs_own {l : List Ar} {k : Nat} (a : Ar) (t : Int) : nfs (l.set k { a with ow := t }) = (nfs l).set k { nfA a with ow := t } := by
  unfold nfs; rw [List.map_set]; rfl
theorem own_x {M : Mm} {H : Heap} {L N : Nat} {c : Co} (h : M.Is H L c) (f : c.Fit N) (t k : Int) :
    ∃ M' H', f30 M.p t k H = some ((ownC c t k).1, H') ∧ M'.Is H' L (ownC c t k).2 ∧ M.To M' H H' := by
  obtain ⟨o1, o2⟩ := own_get h.m t k (h.nl f)
  have ho : ownA c.ars t k = ownA M.ars t k := by rw [← h.a, own_nf]
  unfold ownC
  rw [ho]
  cases hO : ownA M.ars t k
  · exact ⟨M, H, o1 hO, h, Mm.To.no (Kp.refl _ _)⟩
  · obtain ⟨a, H', e1, e2, e3, e4, e5, e6⟩ := o2 hO
    have ec : c.ars[k.toNat]? = some (nfA a) := by rw [← h.a, nfs_at, e1]; rfl
    rw [ct, ec]
    refine ⟨⟨M.b, M.s, M.ars.set k.toNat { a with ow := t }, M.rs, M.rows⟩, H', e3, ⟨e4, by rw [nfs_own, h.a], h.r⟩, ⟨rfl, e5.mono fun i _ ⟨sl, q1, q2⟩ => ⟨.ar, by rw [q2]; exact idO_of q1⟩, fun i ⟨y, hy⟩ => .inl ⟨y, by rw [← e6]; exact hy⟩⟩⟩
theorem rown_x {R : Rm} {H : Heap} {L N : Nat} {c : Co} (h : R.Is H L c) (f : c.Fit N) (t k : Int) :
    ∃ R' H', f31 R.p t k H = some ((ownC c t k).1, H') ∧ R'.Is H' L (ownC c t k).2 ∧ R.To R' H H' := by
  have ho : ownA c.ars t k = ownA R.ars t k := by rw [← h.a, own_nf]
  have hg : H.get R.b (0 + 0) = some (.slice R.s) := by rw [get_of h.m.hd]; rfl
  have hs := h.m.ar.rs.slenEq
  have stay : ∀ q : Option (Bool × Heap), q = some (false, H) → ∃ R' H', q = some ((false, c).1, H') ∧ R'.Is H' L (false, c).2 ∧ R.To R' H H' := fun q e => ⟨R, H, e, h, Rm.To.no (Kp.refl _ _)⟩
  rw [q31]
  unfold ownC
  rw [ho]
  unfold ownA
  cases ht : thrd t
  · refine stay _ ?_
    rcases thrd_lt ht with e | e
    · rw [decide_eq_true e]; rfl
    · rw [decide_eq_false (show ¬ t < 0 by omega), decide_eq_true e]; rfl
  obtain ⟨i8, t, rfl, h8⟩ := inb8 ht
  rw [(thrd_nat h8).1, (thrd_nat h8).2]
  simp only [cf, Bool.true_and]
  by_cases h0 : k < 0
  · rw [decide_eq_true h0]
    exact stay _ rfl
  rw [decide_eq_false h0]
  unfold Rm.p
  simp only [cf, Bool.not_false, Bool.true_and, Ab.bs, hg, tSlice]
  obtain ⟨k, rfl⟩ := Int.eq_ofNat_of_zero_le (Int.not_lt.1 h0)
  by_cases h1 : ((k : Nat) : Int) ≥ slen R.s
  · rw [decide_eq_true h1]
    have hkk : R.ars[((k : Nat) : Int).toNat]? = none := List.getElem?_eq_none (by rw [hs] at h1; show R.ars.length ≤ k; omega)
    rw [hkk]
    exact stay _ rfl
  rw [decide_eq_false h1]
  have hlt : k < R.ars.length := by rw [hs] at h1; omega
  have hk := List.getElem?_eq_getElem hlt
  have hkk : R.ars[((k : Nat) : Int).toNat]? = some R.ars[k] := hk
  rw [hkk]
  obtain ⟨sl, hsl, g1, c0, c1, c2, c3, c4⟩ := gets5 h.m.ar.rs hk
  have c3' : H.get sl.id (sl.off + ((k : Nat) : Int).toNat * 5 + 3) = some (.bool R.ars[k].pr) := c3
  have c4' : H.get sl.id (sl.off + ((k : Nat) : Int).toNat * 5 + 4) = some (.int .i64 R.ars[k].ow) := c4
  simp only [cf, hsl, Ab.bs, g1, ct, c3', tBool]
  cases hpr : R.ars[k].pr
  · exact stay _ rfl
  simp only [Bool.not_true, cf, c4', Ab.bs, tInt, Bool.true_and]
  by_cases ho : R.ars[k].ow = -1
  · obtain ⟨sl', H', e, f1, f2, f3, f4⟩ := h.m.own hk ((t : Nat) : Int)
    rw [hsl] at e
    cases e
    have ec : c.ars[((k : Nat) : Int).toNat]? = some (nfA R.ars[k]) := by rw [← h.a, nfs_at, hkk]; rfl
    obtain ⟨u1, u2⟩ := h.step (c' := ⟨c.ars.set k { nfA R.ars[k] with ow := ((t : Nat) : Int) }, c.rows⟩) f2 ⟨f3.mono fun i _ ⟨sl, q1, q2⟩ => ⟨.ar, by rw [q2]; exact idO_of q1⟩, fun i ⟨y, hy⟩ => .inl ⟨y, by rw [← f4]; exact hy⟩⟩ (fun l0 hl0 z hz => .inl ⟨l0, hl0, hz⟩) (by rw [nfs_own, h.a]) h.r
    refine ⟨_, H', ?_, ?_, u2⟩
    · rw [ho, show ((-1 : Int) != -1) = false from rfl, cf, f1, Ab.bs]
      simp only [show ((-1 : Int) == -1) = true from rfl, ct]
      rw [ec]
    · simp only [ho, show ((-1 : Int) == -1) = true from rfl, ct]
      rw [ec]; exact u1
  · have e : (R.ars[k].ow == -1) = false := by simpa using ho
    unfold bne
    rw [e, Bool.not_false, ct]
    exact stay _ rfl
/-! ### loads tell by areas and rows -/
theorem data_nf {l : List Ar} (h : Tru l) (x : Int) : dataAt (nfs l) x = dataAt l x := by
  unfold dataAt
  rw [findA_nf h x, nfs_at]
  cases l[(findA l x).toNat]? <;> rfl
theorem sees_nf {l : List Ar} (h : Tru l) (r : List Sto) (x : Int) : seesA (nfs l) r x = seesA l r x := by
  unfold seesA; rw [data_nf h]
theorem load_nf {l : List Ar} (h : Tru l) (r : List Sto) (x : Int) : ∀ n i v, loadN (nfs l) r x i n v = loadN l r x i n v
  | 0, _, _ => rfl
  | n + 1, i, v => by unfold loadN; rw [sees_nf h, load_nf h r x n]
def rowC (c : Co) (t : Int) : List Sto := (c.rows[t.toNat]?).getD []
def loadC (c : Co) (t x w : Int) : Int × Bool := bif mayA c.ars t x w false then (loadN c.ars (rowC c t) x 0 w.toNat 0, true) else (0, false)
theorem may_thrd {ars : List Ar} {t x w : Int} {wr : Bool} (h : mayA ars t x w wr = true) : thrd t = true ∧ isW8 w = true ∧ allThere ars t x wr 0 w.toNat = true := by
  unfold mayA at h
  simp only [Bool.and_eq_true] at h
  exact ⟨h.1, h.2.1, h.2.2.2⟩
theorem load_x {M : Mm} {H : Heap} {L N : Nat} {c : Co} (h : M.Is H L c) (f : c.Fit N) (hN : N ≤ 1000000) (t x w : Int) :
    ∃ M' H', f164 M.p t x w H = some (loadC c t x w, H') ∧ M'.Is H' L c ∧ M.To M' H H' := by
  unfold loadC
  cases hm : mayA c.ars t x w false
  · obtain ⟨H', e1, e2⟩ := f164_no (M.b, 0) M.ars t x w H (h.m.rd (by have := h.nl f; omega)) (by rw [h.may]; exact hm)
    exact ⟨M, H', e1, h.no e2, Mm.To.no e2⟩
  · obtain ⟨_, t, rfl, h8⟩ := inb8 (may_thrd hm).1
    obtain ⟨l, hl, h1, h2⟩ := f.row h8
    have hr : rowC c ((t : Nat) : Int) = l := by
      unfold rowC
      have hl' : c.rows[((t : Nat) : Int).toNat]? = some l := hl
      rw [hl']; rfl
    obtain ⟨H', e1, e2⟩ := f164_yes h.m (h.nl f) (h.dl f) (t : Int) x w (l := l) (by rw [h.r]; exact hl) (by omega) (by rw [h.may]; exact hm)
    rw [hr, ct, ← h.a, load_nf h.tru]
    exact ⟨M, H', e1, h.no e2 |> fun q => ⟨q.m, q.a, q.r⟩, Mm.To.no e2⟩
theorem may_x {M : Mm} {H : Heap} {L N : Nat} {c : Co} (h : M.Is H L c) (f : c.Fit N) (t x w : Int) (wr : Bool) :
    ∃ M' H', f59 M.p t x w wr H = some (mayA c.ars t x w wr, H') ∧ M'.Is H' L c ∧ M.To M' H H' := by
  obtain ⟨H', e1, e2⟩ := f59_x (M.b, 0) M.ars t x w wr H (h.m.rd (by have := h.nl f; omega))
  rw [h.may] at e1
  exact ⟨M, H', e1, h.no e2, Mm.To.no e2⟩
/-! ### what the document sees -/
/-! ### numbers of bytes -/
/-! ### Byte -/
/-! ### both -/
structure Par (H : Heap) (L : Nat) (M : Mm) (R : Rm) (c d : Co) : Prop where
  m : M.Is H L c
  r : R.Is H L d
  dj : ∀ i, M.In i → ¬ R.In i
structure Go2 (M : Mm) (R : Rm) (M' : Mm) (R' : Rm) (H H' : Heap) : Prop where
  bm : M'.b = M.b
  br : R'.b = R.b
  k : Kp (fun i => M.In i ∨ R.Inm i) H H'
  im : ∀ i, M'.In i → M.In i ∨ H.length ≤ i
  irm : ∀ i, R'.Inm i → R.Inm i ∨ H.length ≤ i
  ir : ∀ i, R'.In i → R.In i ∨ H.length ≤ i
theorem both {α β : Type} {H : Heap} {L : Nat} {M : Mm} {R : Rm} {c d c' d' : Co} (P : Par H L M R c d) {f : Option (Nat × Nat) → Heap → Option (α × Heap)} {g : Option (Nat × Nat) → Heap → Option (β × Heap)} {v : α} {u : β}
    (hf : ∀ M H, M.Is H L c → ∃ M' H', f M.p H = some (v, H') ∧ Mm.Is M' H' L c' ∧ Mm.To M M' H H') (hg : ∀ R H, R.Is H L d → ∃ R' H', g R.p H = some (u, H') ∧ Rm.Is R' H' L d' ∧ Rm.To R R' H H') :
    ∃ M' R' H1 H', f M.p H = some (v, H1) ∧ g R.p H1 = some (u, H') ∧ Par H' L M' R' c' d' ∧ Go2 M R M' R' H H' := by
  obtain ⟨M', H1, e1, e2, e3⟩ := hf M H P.m
  have r1 := P.r.other e3.k fun i hi hf => P.dj i hf hi
  obtain ⟨R', H', u1, u2, u3⟩ := hg R H1 r1
  have dj1 : ∀ i, M'.In i → ¬ R.In i := fun i a b => by
    rcases e3.ids i a with e | e
    · exact P.dj i e b
    · have := P.r.lt b; omega
  refine ⟨M', R', H1, H', e1, u1, ⟨e2.other u3.k fun i hi hf => dj1 i hi (.inl hf), u2, fun i a b => ?_⟩, ⟨e3.b, u3.b, ?_, e3.ids, fun i hi => ?_, fun i hi => ?_⟩⟩
  · rcases u3.idy i b with e | e
    · exact dj1 i a e
    · have := e2.lt a; omega
  · exact (e3.k.mono (D := fun i => M.In i ∨ R.Inm i) fun i _ hf => .inl hf).trans (u3.k.mono (D := fun i => M.In i ∨ R.Inm i) fun i hi hf => .inr hf) (fun _ h => h) fun _ _ h => h
  · rcases u3.idm i hi with e | e
    · exact .inl e
    · exact .inr (Nat.le_trans e3.k.len e)
  · rcases u3.idy i hi with e | e
    · exact .inl e
    · exact .inr (Nat.le_trans e3.k.len e)
/-! ### a step -/
structure CutL (H : Heap) (L : Nat) (o : Option Sl) (ys : List Ar) : Prop where
  n : ys.length ≤ 8
  r : RSL 5 E5 H L o ys
  d : ∀ y, y ∈ ys → RSL 1 E8 H L y.sl y.data ∧ y.data.length ≤ 64
theorem CutL.kp {F : Nat → Prop} {H H' : Heap} {L : Nat} {o : Option Sl} {ys : List Ar} (h : CutL H L o ys) (k : Kp F H H') (hF : ∀ i, F i → L ≤ i) : CutL H' L o ys := ⟨h.n, h.r.kp k hF, fun y hy => ⟨(h.d y hy).1.kp k hF, (h.d y hy).2⟩⟩
theorem CutL.no {H H' : Heap} {L : Nat} {o : Option Sl} {ys : List Ar} (h : CutL H L o ys) (k : Kp No H H') : CutL H' L o ys := h.kp k fun _ h => absurd h (fun h => h)
theorem CutL.cut {H : Heap} {L : Nat} {o : Option Sl} {ys : List Ar} (h : CutL H L o ys) : Cutd H o ys := ⟨h.n, h.r.1, fun y hy => ⟨(h.d y hy).1.1, (h.d y hy).2⟩⟩
theorem Rm.Is.mono {M : Rm} {H : Heap} {L K : Nat} {c : Co} (h : M.Is H L c) (hk : K ≤ L) : M.Is H K c :=
  ⟨⟨h.m.hd, h.m.ar, h.m.dt, h.m.ro, h.m.rl, h.m.rw, h.m.inj, fun x i e => Nat.le_trans hk (h.m.ge x i e), h.m.lt⟩, fun l hl x hx => ⟨(h.y l hl x hx).1, fun i hi => ⟨Nat.le_trans hk ((h.y l hl x hx).2 i hi).1, ((h.y l hl x hx).2 i hi).2⟩⟩, h.a, h.r⟩
theorem rnew_x (o : Option Sl) (ys : List Ar) (H : Heap) (h : Cutd H o ys) : ∃ (R : Rm) (H' : Heap), f29 o H = some (R.p, H') ∧ R.b = H.length ∧ R.Is H' H.length (freshC ys) ∧ Kp No H H' := by
  obtain ⟨s, ars, H', e1, e2, e3, e4, e5⟩ := f29_x (en := 2) (eE := E2) o ys (by have := h.n; omega) H h.r h.src
  exact ⟨⟨H.length, s, ars, nils, noRows⟩, H', e1, rfl, ⟨e2, fun l hl x hx => by
    have : l = [] := List.eq_of_mem_replicate hl
    rw [this] at hx; simp at hx, fresh_nf e3 e4, rfl⟩, e5⟩
/-! ### what others do -/
/-! ### Areas -/
structure AL (H : Heap) (L : Nat) (s : Option Sl) (zs : List Ar) : Prop where
  r : OS 4 E4 H s zs
  d : ∀ (k : Nat) (z : Ar), zs[k]? = some z → OS 1 E8 H z.sl z.data
  rn : New L s
  dn : ∀ (k : Nat) (z : Ar), zs[k]? = some z → New L z.sl
  inj : ∀ (j k : Nat) (y z : Ar) (i : Nat), zs[j]? = some y → zs[k]? = some z → idO y.sl = some i → idO z.sl = some i → j = k
  sd : ∀ (k : Nat) (z : Ar) (i : Nat), zs[k]? = some z → idO z.sl = some i → idO s ≠ some i
/-! ### the law's Same -/
/-! ### Copy -/
/-! ### the document's Same -/
/-! ### four memories -/
structure Quad (H : Heap) (L : Nat) (M : Mm) (R : Rm) (C : Mm) (S : Rm) (c d : Co) : Prop where
  p : Par H L M R c c
  q : Par H L C S d d
  mc : ∀ i, M.In i → ¬ C.In i
  ms : ∀ i, M.In i → ¬ S.In i
  cr : ∀ i, C.In i → ¬ R.In i
  rs : ∀ i, R.Inm i → ¬ S.In i
  sr : ∀ i, S.Inm i → ¬ R.In i
theorem Par.no {H H' : Heap} {L : Nat} {M : Mm} {R : Rm} {c d : Co} (h : Par H L M R c d) (k : Kp No H H') : Par H' L M R c d := ⟨h.m.no k, h.r.no k, h.dj⟩
theorem Quad.no {H H' : Heap} {L : Nat} {M : Mm} {R : Rm} {C : Mm} {S : Rm} {c d : Co} (h : Quad H L M R C S c d) (k : Kp No H H') : Quad H' L M R C S c d := ⟨h.p.no k, h.q.no k, h.mc, h.ms, h.cr, h.rs, h.sr⟩
/-! ### the loop -/
end
end Go.Proofs.YtnipccoenalnkaaGreat
