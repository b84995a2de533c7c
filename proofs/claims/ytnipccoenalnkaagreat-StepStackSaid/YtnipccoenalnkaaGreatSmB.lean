/- Layer 10: memory, of layer 9: memory: what is found, and who may come there. -/
import Derived.Test.YtnipccoenalnkaaGreatSt0
import Derived.Test.YtnipccoenalnkaaGreatAb33
namespace Go.Proofs.YtnipccoenalnkaaGreat
open Go Go.Proofs.YtnipccoenalnkaaGreat.Ab
set_option linter.unusedVariables false
set_option linter.unusedSimpArgs false
set_option maxRecDepth 100000
noncomputable section
/-- An area ars its cells tell it. -/
structure Ar where
  lo : Int
  sl : Option Sl
  data : List UInt8
  wr : Bool
  pr : Bool
  ow : Int
def E5 (a : Ar) : List Cell := [.int .u64 a.lo, .slice a.sl, .bool a.wr, .bool a.pr, .int .i64 a.ow]
theorem E5_len (a : Ar) : (E5 a).length = 5 := rfl
def Ar.has (a : Ar) (x : Int) : Bool := decide (IntKind.u64.wrap (x - a.lo) < IntKind.u64.wrap (slen a.sl))
/-- Where an address is. -/
def findFrom (x : Int) : List Ar → Nat → Int
  | [], _ => -1
  | a :: l, i => bif a.has x then (i : Int) else findFrom x l (i + 1)
def findA (ars : List Ar) (x : Int) : Int := findFrom x ars 0
theorem findFrom_cases (x : Int) : ∀ (l : List Ar) (i : Nat), findFrom x l i = -1 ∨ ∃ (k : Nat) (a : Ar), l[k]? = some a ∧ a.has x = true ∧ findFrom x l i = ((i + k : Nat) : Int)
  | [], i => .inl rfl
  | a :: l, i => by
    unfold findFrom
    cases h : a.has x with
    | true => exact .inr ⟨0, a, rfl, h, rfl⟩
    | false =>
      rw [cf]
      rcases findFrom_cases x l (i + 1) with e | ⟨k, b, h1, h2, h3⟩
      · exact .inl e
      · exact .inr ⟨k + 1, b, h1, h2, by rw [h3]; congr 1; omega⟩
theorem findA_cases (ars : List Ar) (x : Int) : findA ars x = -1 ∨ ∃ (k : Nat) (a : Ar), ars[k]? = some a ∧ a.has x = true ∧ findA ars x = (k : Int) := by
  rcases findFrom_cases x ars 0 with e | ⟨k, a, h1, h2, h3⟩
  · exact .inl e
  · exact .inr ⟨k, a, h1, h2, by unfold findA; rw [h3, Nat.zero_add]⟩
/-- One element of five cells. -/
theorem gets5 {H : Heap} {s : Option Sl} {l : List Ar} (h : RS 5 E5 H s l) {i : Nat} {a : Ar} (hi : l[i]? = some a) :
    ∃ sl, s = some sl ∧ (inb (i : Int) sl.len && sl.esz == 5) = true ∧ H.get sl.id (sl.off + ((i : Nat) : Int).toNat * 5) = some (.int .u64 a.lo) ∧ H.get sl.id (sl.off + ((i : Nat) : Int).toNat * 5 + 1) = some (.slice a.sl) ∧
      H.get sl.id (sl.off + ((i : Nat) : Int).toNat * 5 + 1 + 1) = some (.bool a.wr) ∧ H.get sl.id (sl.off + ((i : Nat) : Int).toNat * 5 + 1 + 1 + 1) = some (.bool a.pr) ∧ H.get sl.id (sl.off + ((i : Nat) : Int).toNat * 5 + 1 + 1 + 1 + 1) = some (.int .i64 a.ow) := by
  obtain ⟨sl, e, h1, h2⟩ := h.idx E5_len hi
  exact ⟨sl, e, h1, by simpa using h2 0 _ rfl, by simpa using h2 1 _ rfl, by simpa using h2 2 _ rfl, by simpa using h2 3 _ rfl, by simpa using h2 4 _ rfl⟩
theorem f172_x (h0 : Int) (h1 : Option Sl) (h2 h3 : Bool) (h4 : Int) (b : Nat) (x : Int) (H : Heap) (hb : H.get b 0 = some (.int .u64 x)) :
    f172 h0 h1 h2 h3 h4 (some (b, 0)) H = some (decide (IntKind.u64.wrap (x - h0) < IntKind.u64.wrap (slen h1)), H) := by
  rw [q172]
  simp only [Ab.bs, hb, tInt, q173]
theorem i64_succ (i : Nat) (h : i < 9223372036854775807) : IntKind.i64.wrap ((i : Int) + 1) = ((i + 1 : Nat) : Int) := by
  rw [wrap_i64 (by omega) (by omega)]; rfl
theorem loop171 (s : Option Sl) (ars : List Ar) (hn : ars.length < 9223372036854775807) (b : Nat) (x : Int) (H : Heap) (h : RS 5 E5 H s ars) (hb : H.get b 0 = some (.int .u64 x)) : ∀ (m n i : Nat), i + m = ars.length →
    (D171a_2 (n + m + 1) s (some (b, 0)) (ars.length : Int) (i : Int) H).bind J171a_2 = some (findFrom x (ars.drop i) i, H)
  | 0, n, i, hm => by
    have g : decide ((i : Int) < (ars.length : Int)) = false := by simp; omega
    rw [D171a_2_s, g, cf, Ab.bs, J171a_2_1, List.drop_eq_nil_of_le (by omega)]
    rfl
  | m + 1, n, i, hm => by
    have g : decide ((i : Int) < (ars.length : Int)) = true := by simp; omega
    have hi : i < ars.length := by omega
    obtain ⟨sl, rfl, g1, c0, c1, c2, c3, c4⟩ := gets5 h (List.getElem?_eq_getElem hi)
    have ih := loop171 (some sl) ars hn b x H h hb m n (i + 1) (by omega)
    rw [show n + (m + 1) + 1 = (n + m + 1) + 1 by omega, D171a_2_s, g]
    simp only [ct, Ab.bs, g1, c0, c1, c2, c3, c4, tInt, tSlice, tBool, f172_x _ _ _ _ _ b x H hb, i64_succ i (by omega)]
    rw [List.drop_eq_getElem_cons hi]
    unfold findFrom Ar.has
    cases decide (IntKind.u64.wrap (x - ars[i].lo) < IntKind.u64.wrap (slen ars[i].sl))
    · rw [cf, cf]; exact ih
    · rw [ct, ct, Ab.bs, J171a_2_0]
/-- Memory can be read: its areas. -/
def Rd (H : Heap) (p : Nat × Nat) (ars : List Ar) : Prop := ars.length < 9223372036854775807 ∧ ∃ s, H.get p.1 (p.2 + 0) = some (.slice s) ∧ RS 5 E5 H s ars
theorem Rd.no {H H' : Heap} {p : Nat × Nat} {ars : List Ar} (h : Rd H p ars) (k : Kp No H H') : Rd H' p ars := by
  obtain ⟨h0, s, h1, h2⟩ := h
  exact ⟨h0, s, k.gt h1, h2.no k⟩
theorem f138_x (p : Nat × Nat) (ars : List Ar) (x : Int) (H : Heap) (h : Rd H p ars) : Says (f138 (some p) x H) H (findA ars x) := by
  rw [q138]
  refine says_push (b := Blk.row [Cell.int .u64 x] false) ?_
  obtain ⟨h0, s, h1, h2⟩ := h.no (Kp.push1 H (Blk.row [Cell.int .u64 x] false))
  have hb : (H ++ [Blk.row [Cell.int .u64 x] false]).get H.length 0 = some (.int .u64 x) := by rw [get_of (push_get _ _)]; rfl
  simp only [Ab.bs, h1, tSlice, q171a]
  obtain ⟨n, e⟩ := LL171a_2_of ars.length (by omega) s (some (H.length, 0)) (slen s) 0 (H ++ [Blk.row [Cell.int .u64 x] false])
  have := loop171 s ars h0 H.length x _ h2 hb ars.length n 0 (by omega)
  rw [List.drop_zero] at this
  rw [e, h2.slenEq, show (0 : Int) = ((0 : Nat) : Int) from rfl, this]
  exact says_ret rfl
def thereA (ars : List Ar) (t x : Int) (w : Bool) : Bool :=
  match ars[(findA ars x).toNat]? with
  | some a => !decide (findA ars x < 0) && ((!a.pr || a.ow == t) && (a.wr || !w))
  | none => false
theorem f106_x (p : Nat × Nat) (ars : List Ar) (t x : Int) (w : Bool) (H : Heap) (h : Rd H p ars) : Says (f106 (some p) t x w H) H (thereA ars t x w) := by
  rw [q106]
  refine says_bind (f138_x p ars x H h) fun H' k => ?_
  obtain ⟨h0, s, h1, h2⟩ := h.no k
  unfold thereA
  rcases findA_cases ars x with e | ⟨i, a, e1, e2, e3⟩
  · rw [e]
    simp only [show decide ((-1 : Int) < 0) = true from rfl, ct]
    refine says_ret ?_
    cases ars[(-1 : Int).toNat]? <;> rfl
  · rw [e3]
    obtain ⟨sl, rfl, g1, c0, c1, c2, c3, c4⟩ := gets5 h2 e1
    have e4 : ars[((i : Nat) : Int).toNat]? = some a := e1
    simp only [show decide (((i : Nat) : Int) < 0) = false by simp, cf, Ab.bs, h1, tSlice, g1, ct, c0, c1, c2, c3, c4, tInt, tBool, e4, Bool.not_false, Bool.true_and]
    cases a.pr <;> cases a.wr <;> cases (a.ow == t) <;> exact says_ret rfl
def isW8 (w : Int) : Bool := w == 1 || (w == 2 || (w == 4 || w == 8))
theorem f105_x (w : Int) (H : Heap) : f105 w H = some (isW8 w, H) := by
  rw [q105]
  unfold isW8
  cases w == 1 <;> cases w == 2 <;> cases w == 4 <;> rfl
def thrd (t : Int) : Bool := decide (t ≥ 0) && decide (t < 8)
theorem f47_x (p : Nat × Nat) (t : Int) (H : Heap) : f47 (some p) t H = some (thrd t, H) := by
  rw [q47]
  unfold thrd
  rw [nsome]
  cases decide (t ≥ 0) <;> rfl
/-- May all the bytes from one on be come to? -/
def allThere (ars : List Ar) (t x : Int) (w : Bool) : Nat → Nat → Bool
  | _, 0 => true
  | i, n + 1 => thereA ars t (IntKind.u64.wrap (x + (i : Int))) w && allThere ars t x w (i + 1) n
def farA (x w : Int) : Bool := decide (x > IntKind.u64.wrap (18446744073709551615 - IntKind.u64.wrap (IntKind.i64.wrap (w - 1))))
def mayA (ars : List Ar) (t x w : Int) (wr : Bool) : Bool := thrd t && (isW8 w && (!farA x w && allThere ars t x wr 0 w.toNat))
theorem u64_succ (i : Nat) (h : i < 9223372036854775807) : IntKind.u64.wrap ((i : Int) + 1) = ((i + 1 : Nat) : Int) := by
  rw [wrap_u64]; omega
theorem loop59 (p : Nat × Nat) (ars : List Ar) (t x : Int) (wr : Bool) (N : Nat) (hN : N ≤ 8) : ∀ (m n i : Nat) (H : Heap), Rd H p ars → i + m = N →
    Says ((D59_4 (n + m + 1) (some p) t x wr (N : Int) (i : Int) H).bind J59_4) H (allThere ars t x wr i m)
  | 0, n, i, H, h, hm => by
    have g : decide ((i : Int) < (N : Int)) = false := by simp; omega
    rw [D59_4_s, g, cf, Ab.bs, J59_4_1]
    exact says_ret rfl
  | m + 1, n, i, H, h, hm => by
    have g : decide ((i : Int) < (N : Int)) = true := by simp; omega
    rw [show n + (m + 1) + 1 = (n + m + 1) + 1 by omega, D59_4_s, g, ct]
    obtain ⟨H', e, k⟩ := f106_x p ars t (IntKind.u64.wrap (x + (i : Int))) wr H h
    rw [e, Ab.bs]
    unfold allThere
    cases thereA ars t (IntKind.u64.wrap (x + (i : Int))) wr
    · simp only [Bool.not_false, ct, Ab.bs, J59_4_0, Bool.false_and]
      exact ⟨H', rfl, k⟩
    · simp only [Bool.not_true, cf, Bool.true_and, u64_succ i (by omega)]
      exact says_kp k (loop59 p ars t x wr N hN m n (i + 1) H' (h.no k) (by omega))
theorem isW8_w {w : Int} (h : isW8 w = true) : w = 1 ∨ w = 2 ∨ w = 4 ∨ w = 8 := by simpa [isW8] using h
theorem f59_x (p : Nat × Nat) (ars : List Ar) (t x w : Int) (wr : Bool) (H : Heap) (h : Rd H p ars) : Says (f59 (some p) t x w wr H) H (mayA ars t x w wr) := by
  rw [q59, f47_x, Ab.bs, f105_x, Ab.bs]
  unfold mayA
  cases thrd t
  · exact says_ret rfl
  cases hw : isW8 w
  · exact says_ret rfl
  simp only [Bool.not_true, cf, Bool.true_and]
  show Says (bif farA x w then some (false, H) else _) H _
  cases farA x w
  · simp only [cf, Bool.not_false, Bool.true_and]
    have hw := isW8_w hw
    have e1 : IntKind.u64.wrap w = ((w.toNat : Nat) : Int) := by rw [wrap_u64]; omega
    obtain ⟨n, e⟩ := LL59_4_of w.toNat (by omega) (some p) t x wr (IntKind.u64.wrap w) 0 H
    rw [e, e1]
    exact loop59 p ars t x wr w.toNat (by omega) w.toNat n 0 H h (by omega)
  · exact says_ret rfl
theorem f164_no (p : Nat × Nat) (ars : List Ar) (t x w : Int) (H : Heap) (h : Rd H p ars) (hm : mayA ars t x w false = false) : Says (f164 (some p) t x w H) H (0, false) := by
  rw [q164]
  refine says_bind (f59_x p ars t x w false H h) fun H' k => ?_
  rw [hm]; exact says_ret rfl
theorem f32_no (p : Nat × Nat) (ars : List Ar) (t x w v : Int) (H : Heap) (h : Rd H p ars) (hm : mayA ars t x w true = false) : Says (f32 (some p) t x w v H) H false := by
  rw [q32]
  refine says_bind (f59_x p ars t x w true H h) fun H' k => ?_
  rw [hm]; exact says_ret rfl
end
end Go.Proofs.YtnipccoenalnkaaGreat
