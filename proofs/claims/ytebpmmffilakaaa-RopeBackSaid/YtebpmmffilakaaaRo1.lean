/- Layer 2: the store's functions. -/
import Derived.Test.YtebpmmffilakaaaProg
import Derived.Test.YtebpmmffilakaaaAb26
import Derived.KernelRfl
namespace Go.Proofs.Ytebpmmffilakaaa
open Go Go.Proofs.Ytebpmmffilakaaa.Ab
set_option linter.unusedVariables false
set_option maxRecDepth 100000
noncomputable section
/-! bytes in a heap -/
def bcell (n : Nat) : Cell := .int .u8 (n : Int)
def bytesL (l : List Nat) : List Cell := l.map bcell
/-- A slice whose bytes can be read. -/
def RB (H : Heap) (s : Option Sl) (l : List Nat) : Prop :=
  match s with
  | none => l = []
  | some sl => sl.len = l.length ∧ sl.esz = 1 ∧ ∀ (i : Nat) (b : Nat), l[i]? = some b → H.get sl.id (sl.off + i) = some (bcell b)
/-- The lowest w bytes of a number, the lowest first. -/
def leN : Nat → Nat → List Nat
  | 0, _ => []
  | w + 1, v => v % 256 :: leN w (v / 256)
/-- The number of bytes, the lowest first. -/
def numN : List Nat → Nat
  | [] => 0
  | b :: l => b + 256 * numN l
theorem leN_length : ∀ w v, (leN w v).length = w
  | 0, v => rfl
  | w + 1, v => by simp [leN, leN_length w]
theorem leN_lt : ∀ w v, ∀ b ∈ leN w v, b < 256
  | 0, v, b, h => by simp [leN] at h
  | w + 1, v, b, h => by
    simp only [leN, List.mem_cons] at h
    rcases h with rfl | h
    · exact Nat.mod_lt _ (by decide)
    · exact leN_lt w _ b h
theorem num_le : ∀ w v, numN (leN w v) = v % 256 ^ w
  | 0, v => by simp [leN, numN, Nat.mod_one]
  | w + 1, v => by rw [leN, numN, num_le w, Nat.pow_succ, Nat.mul_comm (256 ^ w) 256, Nat.mod_mul]
theorem numN_lt : ∀ l : List Nat, (∀ b ∈ l, b < 256) → numN l < 256 ^ l.length
  | [], h => by simp [numN]
  | b :: l, h => by
    have h1 := numN_lt l fun c hc => h c (by simp [hc])
    have h2 := h b (by simp)
    simp only [numN, List.length_cons, Nat.pow_succ]
    omega
theorem wrapU_nat (n : Nat) (h : n < 18446744073709551616) : IntKind.u64.wrap (n : Int) = n := by rw [wrap_u64]; omega
theorem ishr_nat (v i : Nat) (h : i ≤ 64) : ishr .u64 v i = ((v / 2 ^ i : Nat) : Int) := by
  unfold ishr
  have : min ((i : Int).toNat) IntKind.u64.bits = i := by simp [IntKind.bits]; omega
  rw [this, Int.fdiv_eq_ediv_of_nonneg _ (by have := Int.pow_pos (n := 2) (m := i) (by decide); omega)]
  simp
theorem get_of {H : Heap} {id : Nat} {row : List Cell} {ro : Bool} (h : H[id]? = some (.row row ro)) (off : Nat) : H.get id off = row[off]? := by unfold Heap.get; rw [h]
theorem put_of {H : Heap} {id : Nat} {row : List Cell} (h : H[id]? = some (.row row false)) {off : Nat} {vs : List Cell} (hb : off + vs.length ≤ row.length) : H.put id off vs = some (H.set id (.row (splice row off vs) false)) := by
  unfold Heap.put; rw [h]; simp only [hb, if_true]
theorem splice_length {row : List Cell} {off : Nat} {vs : List Cell} (h : off + vs.length ≤ row.length) : (splice row off vs).length = row.length := by
  unfold splice; simp; omega
theorem splice_get {row : List Cell} {off : Nat} {vs : List Cell} (h : off + vs.length ≤ row.length) (i : Nat) : (splice row off vs)[i]? = if i < off then row[i]? else if i < off + vs.length then vs[i - off]? else row[i]? := by
  have hl : (row.take off).length = off := by simp; omega
  unfold splice
  split
  · rw [List.getElem?_append_left (by omega), List.getElem?_take_of_lt (by assumption)]
  · rw [List.getElem?_append_right (by omega), hl]
    split
    · rw [List.getElem?_append_left (by omega)]
    · rw [List.getElem?_append_right (by omega), List.getElem?_drop]
      congr 1; omega
theorem splice_more {row : List Cell} {off : Nat} {c : Cell} {vs : List Cell} (h : off + 1 + vs.length ≤ row.length) : splice (splice row off [c]) (off + 1) vs = splice row off (c :: vs) := by
  have h1 : (splice row off [c]).length = row.length := splice_length (by simp; omega)
  apply List.ext_getElem?
  intro i
  rw [splice_get (by rw [h1]; omega), splice_get (by simp; omega), splice_get (by simp; omega)]
  simp only [List.length_cons, List.length_nil]
  by_cases g1 : i < off
  · simp [g1, show i < off + 1 by omega]
  · by_cases g2 : i = off
    · subst g2; simp
    · have g3 : ¬ i < off + 1 := by omega
      simp only [g1, g3, if_false]
      by_cases g4 : i < off + 1 + vs.length
      · rw [if_pos g4, if_pos (by omega), show i - off = (i - (off + 1)) + 1 by omega, List.getElem?_cons_succ]
      · rw [if_neg g4, if_neg (by omega)]
theorem set_set' (H : Heap) (id : Nat) (a b : Blk) : (H.set id a).set id b = H.set id b := List.set_set ..
theorem set_get' {H : Heap} {id : Nat} {a : Blk} (h : id < H.length) : (H.set id a)[id]? = some a := by simp [h]
/-! 33: bits_Is -/
noncomputable def C33 : Ctx := { P := Try.prog, own := [], fns := [], nt := 17, nums := [], live := [] }
noncomputable abbrev CC33 : Ctx := C33
theorem good33 : Callees Try.prog CC33.fns [] CC33.nums := Callees.nil Try.prog
def bits_Is (w : Int) : Bool := w == 1 || (w == 2 || (w == 4 || w == 8))
theorem is_w {w : Int} (h : bits_Is w = true) : w = 1 ∨ w = 2 ∨ w = 4 ∨ w = 8 := by simpa [bits_Is] using h
noncomputable def G33 : List TV → Option (List TV)
  | [.c (Cell.int .i64 w)] => some [.c (Cell.bool ((bits_Is w)))]
  | _ => none
noncomputable def F33 : FnSem := numF G33
theorem F33_num : FnNum F33 := numF_num _
theorem e33 : ∀ (R : Type) (w : Int) (H : Heap) (K : AV → Heap → Option R) (lp : Code → St → (AExit → St → Option R) → Option R), fnL C33 lp Try.f33.results.toList (bodyOf Try.f33) [TV.c (Cell.int IntKind.i64 w)] H K = bif w == 1 then K (AV.c (Cell.bool true)) H else bif w == 2 then K (AV.c (Cell.bool true)) H else bif w == 4 then K (AV.c (Cell.bool true)) H else K (AV.c (Cell.bool (w == 8))) H := by intros; kernel_rfl
theorem s33 (R : Type) (w : Int) (H : Heap) (K : AV → Heap → Option R) (lp : Code → St → (AExit → St → Option R) → Option R) : fnL CC33 lp Try.f33.results.toList (bodyOf Try.f33) [.c (Cell.int .i64 w)] H K = K (oneOf [.c (Cell.bool ((bits_Is w)))]) H := by
  rw [e33]
  unfold bits_Is
  cases (w == 1) <;> cases (w == 2) <;> cases (w == 4) <;> rfl
theorem ok33 : FnOk Try.prog 33 F33 := by
  refine fn_ok (C := CC33) (good33.env rfl) (good33.ctx rfl rfl rfl) (by kernel_rfl) Try.func33 (c := bodyOf Try.f33) (by kernel_rfl) (by kernel_rfl) (Nat.le_of_eq Try.ntmps33.symm) ?_
  intro R args H K r h
  unfold F33 numF G33 at h
  split at h
  · rw [fnA_eq, s33]; exact h
  · cases h
/-! 34: rope_store_room -/
noncomputable def C34 : Ctx := { P := Try.prog, own := [2], fns := [], nt := 11, nums := [], live := [] }
noncomputable abbrev CC34 : Ctx := C34
theorem good34 : Callees Try.prog CC34.fns [] CC34.nums := Callees.nil Try.prog
def rope_store_room (s : Option Sl) (n : Int) : Bool := decide (n ≤ IntKind.i64.wrap (1048576 - slen s))
noncomputable def G34 : List TV → Option (List TV)
  | [.agg [Cell.slice s], .c (Cell.int .i64 n)] => some [.c (Cell.bool ((rope_store_room s n)))]
  | _ => none
noncomputable def F34 : FnSem := numF G34
theorem F34_num : FnNum F34 := numF_num _
theorem e34 : ∀ (R : Type) (s : Option Sl) (n : Int) (H : Heap) (K : AV → Heap → Option R) (lp : Code → St → (AExit → St → Option R) → Option R), fnL C34 lp Try.f34.results.toList (bodyOf Try.f34) [TV.agg [Cell.slice s], TV.c (Cell.int IntKind.i64 n)] H K = K (AV.c (Cell.bool (decide (n ≤ IntKind.i64.wrap (1048576 - slen s))))) H := by intros; kernel_rfl
theorem s34 (R : Type) (s : (Option Sl)) (n : Int) (H : Heap) (K : AV → Heap → Option R) (lp : Code → St → (AExit → St → Option R) → Option R) : fnL CC34 lp Try.f34.results.toList (bodyOf Try.f34) [.agg [Cell.slice s], .c (Cell.int .i64 n)] H K = K (oneOf [.c (Cell.bool ((rope_store_room s n)))]) H := by
  rw [e34]
  rfl
theorem ok34 : FnOk Try.prog 34 F34 := by
  refine fn_ok (C := CC34) (good34.env rfl) (good34.ctx rfl rfl rfl) (by kernel_rfl) Try.func34 (c := bodyOf Try.f34) (by kernel_rfl) (by kernel_rfl) (Nat.le_of_eq Try.ntmps34.symm) ?_
  intro R args H K r h
  unfold F34 numF G34 at h
  split at h
  · rw [fnA_eq, s34]; exact h
  · cases h
/-! 35: rope_put -/
noncomputable def C35 : Ctx := { P := Try.prog, own := [], fns := [], nt := 20, nums := [], live := [(1, ⟨[0, 2, 7, 8], [], [], []⟩)] }
noncomputable abbrev CC35 : Ctx := C35
theorem good35 : Callees Try.prog CC35.fns [] CC35.nums := Callees.nil Try.prog
abbrev Ty35 := (Option Sl) → Int → Int → Heap → Option (Unit × Heap)
def enc35 (r : Unit) : List TV := []
def dec35 : AV → Option (Unit)
  | .tup [] => some ()
  | _ => none
theorem de35 (v : AV) (r : Unit) (h : dec35 v = some r) : v = oneOf (enc35 r) := by
  unfold dec35 at h
  split at h
  · cases h; rfl
  · cases h
def sem35 (f : Ty35) : List TV → Heap → Option (Unit × Heap)
  | [.c (Cell.slice b), .c (Cell.int .i64 w), .c (Cell.int .u64 v)], H => f b w v H
  | _, _ => none
noncomputable def f35 : Ty35 := fun b w v H => fnA CC35 Try.f35.results.toList (bodyOf Try.f35) _ [.c (Cell.slice b), .c (Cell.int .i64 w), .c (Cell.int .u64 v)] H (decF dec35)
theorem e35 : ∀ (R : Type) (b : Option Sl) (w v : Int) (H : Heap) (K : AV → Heap → Option R) (lp : Code → St → (AExit → St → Option R) → Option R), fnL C35 lp Try.f35.results.toList (bodyOf Try.f35) [TV.c (Cell.slice b), TV.c (Cell.int IntKind.i64 w), TV.c (Cell.int IntKind.u64 v)] H K = lp (Code.l (Code.l (Code.r (bodyOf Try.f35)))) { env := [(0, AV.c (Cell.slice b)), (2, AV.c (Cell.int IntKind.u64 v)), (7, AV.c (Cell.int IntKind.i64 w)), (8, AV.c (Cell.int IntKind.i64 0))], loc := [], heap := H } (blockK 0 (retA C35 [] K)) := by intros; kernel_rfl
theorem b35_1 : ∀ (R : Type) (t0 : Option Sl) (t2 t7 t8 : Int) (H : Heap) (K : AExit → St → Option R) (f : St → (AExit → St → Option R) → Option R) (lp : Code → St → (AExit → St → Option R) → Option R), execL C35 lp (Code.l (Code.l (Code.r (bodyOf Try.f35)))) { env := [(0, AV.c (Cell.slice t0)), (2, AV.c (Cell.int IntKind.u64 t2)), (7, AV.c (Cell.int IntKind.i64 t7)), (8, AV.c (Cell.int IntKind.i64 t8))], loc := [], heap := H } (loopK (keepOf C35.live (Code.l (Code.l (Code.r (bodyOf Try.f35))))) f K) = bif decide (t8 < t7) then bif decide (IntKind.i64.wrap (8 * t8) < 0) then none else t0.bind fun v1 => bif inb t8 v1.len && v1.esz == 1 then (H.put v1.id (v1.off + t8.toNat * 1) [Cell.int IntKind.u8 (IntKind.u8.wrap (ishr IntKind.u64 t2 (IntKind.i64.wrap (8 * t8))))]).bind fun v0 => f { env := [(0, AV.c (Cell.slice t0)), (2, AV.c (Cell.int IntKind.u64 t2)), (7, AV.c (Cell.int IntKind.i64 t7)), (8, AV.c (Cell.int IntKind.i64 (IntKind.i64.wrap (t8 + 1))))], loc := [], heap := v0 } K else none else K (AExit.exit 0) { env := [], loc := [], heap := H } := by intros; kernel_rfl
theorem ok35 : FnOk Try.prog 35 (specF enc35 (sem35 f35)) := by
  refine spec_ok (C := CC35) good35 rfl rfl rfl (by kernel_rfl) Try.func35 (c := bodyOf Try.f35) (by kernel_rfl) (by kernel_rfl) (Nat.le_of_eq Try.ntmps35.symm) dec35 enc35 de35 _ ?_
  intro args H q h
  unfold sem35 at h
  split at h
  · exact h
  · cases h
theorem byte_of (v i : Nat) (hi : i < 8) : IntKind.u8.wrap (ishr .u64 (v : Int) (IntKind.i64.wrap (8 * (i : Int)))) = ((v / 256 ^ i % 256 : Nat) : Int) := by
  rw [wrap_i64 (by omega) (by omega), show (8 * (i : Int)) = ((8 * i : Nat) : Int) by omega, ishr_nat v _ (by omega), wrap_u8, Nat.pow_mul]
  simp
theorem loop35 (R : Type) (sl : Sl) (w : Nat) (v : Nat) (hw : w ≤ 8) (hwl : w ≤ sl.len) (hes : sl.esz = 1) (H : Heap) (hid : sl.id < H.length) (K : AExit → St → Option R) : ∀ (m n i : Nat) (row : List Cell), i + m = w → sl.off + w ≤ row.length →
    loopN (exec CC35 (Code.l (Code.l (Code.r (bodyOf Try.f35))))) (keepOf CC35.live (Code.l (Code.l (Code.r (bodyOf Try.f35))))) (n + m + 1) { env := [(0, AV.c (Cell.slice (some sl))), (2, AV.c (Cell.int IntKind.u64 (v : Int))), (7, AV.c (Cell.int IntKind.i64 (w : Int))), (8, AV.c (Cell.int IntKind.i64 (i : Int)))], loc := [], heap := H.set sl.id (.row row false) } K
      = K (AExit.exit 0) { env := [], loc := [], heap := H.set sl.id (.row (splice row (sl.off + i) (bytesL (leN m (v / 256 ^ i)))) false) }
  | 0, n, i, row, hi, hr => by
    have g : decide ((i : Int) < (w : Int)) = false := by simp; omega
    rw [loopN_step, b35_1, g, cf]
    have : splice row (sl.off + i) (bytesL (leN 0 (v / 256 ^ i))) = row := by simp [splice, leN, bytesL]
    rw [this]
  | m + 1, n, i, row, hi, hr => by
    have g : decide ((i : Int) < (w : Int)) = true := by simp; omega
    have g1 : decide (IntKind.i64.wrap (8 * (i : Int)) < 0) = false := by rw [wrap_i64 (by omega) (by omega)]; simp; omega
    have g2 : (inb (i : Int) sl.len && sl.esz == 1) = true := by rw [hes]; simp [inb]; omega
    have g3 : IntKind.i64.wrap ((i : Int) + 1) = ((i + 1 : Nat) : Int) := by rw [wrap_i64 (by omega) (by omega)]; omega
    have g4 : sl.off + (i : Int).toNat * 1 = sl.off + i := by simp
    rw [show n + (m + 1) + 1 = (n + m + 1) + 1 by omega, loopN_step, b35_1, g, g1]
    simp only [ct, cf, Option.bind_some, g2, g3, g4, byte_of v i (by omega)]
    rw [put_of (set_get' hid) (by simp; omega), Option.bind_some, set_set']
    refine (loop35 R sl w v hw hwl hes H hid K m n (i + 1) _ (by omega) (by rw [splice_length (by simp; omega)]; exact hr)).trans ?_
    have e : splice (splice row (sl.off + i) [Cell.int IntKind.u8 ((v / 256 ^ i % 256 : Nat) : Int)]) (sl.off + (i + 1)) (bytesL (leN m (v / 256 ^ (i + 1)))) = splice row (sl.off + i) (bytesL (leN (m + 1) (v / 256 ^ i))) := by
      rw [show sl.off + (i + 1) = sl.off + i + 1 by omega, splice_more (by simp [bytesL, leN_length]; omega), leN, Nat.div_div_eq_div_mul, ← Nat.pow_succ]
      rfl
    rw [e]
theorem f35_spec (sl : Sl) (w v : Nat) (hw : w ≤ 8) (hwl : w ≤ sl.len) (hes : sl.esz = 1) (H : Heap) (row : List Cell) (hrow : H[sl.id]? = some (.row row false)) (hr : sl.off + w ≤ row.length) :
    f35 (some sl) (w : Int) (v : Int) H = some ((), H.set sl.id (.row (splice row sl.off (bytesL (leN w v))) false)) := by
  have hid : sl.id < H.length := (List.getElem?_eq_some_iff.1 hrow).1
  have hH : H.set sl.id (.row row false) = H := by
    apply List.ext_getElem?
    intro i
    by_cases h : sl.id = i
    · subst h; rw [hrow]; simp [hid]
    · simp [h]
  unfold f35
  rw [fnA_eq, e35]
  obtain ⟨n, hn⟩ := loops_of CC35 (Code.l (Code.l (Code.r (bodyOf Try.f35)))) { env := [(0, AV.c (Cell.slice (some sl))), (2, AV.c (Cell.int IntKind.u64 (v : Int))), (7, AV.c (Cell.int IntKind.i64 (w : Int))), (8, AV.c (Cell.int IntKind.i64 ((0 : Nat) : Int)))], loc := [], heap := H.set sl.id (.row row false) } (blockK 0 (retA CC35 [] (decF dec35))) w (by omega)
  rw [hH] at hn
  refine (show _ = _ from hn).trans ?_
  have := loop35 _ sl w v hw hwl hes H hid (blockK 0 (retA CC35 [] (decF dec35))) w n 0 row (by omega) hr
  rw [hH] at this
  refine this.trans ?_
  simp only [Nat.add_zero, Nat.pow_zero, Nat.div_one]
  rfl
/-! 36: rope_store_has -/
noncomputable def C36 : Ctx := { P := Try.prog, own := [3], fns := [], nt := 29, nums := [], live := [] }
noncomputable abbrev CC36 : Ctx := C36
theorem good36 : Callees Try.prog CC36.fns [] CC36.nums := Callees.nil Try.prog
def rope_store_has (s : Option Sl) (a n : Int) : Bool := decide (a ≥ 0) && (decide (n ≥ 0) && (decide (a ≤ slen s) && decide (n ≤ IntKind.i64.wrap (slen s - a))))
noncomputable def G36 : List TV → Option (List TV)
  | [.agg [Cell.slice s], .c (Cell.int .i64 x1), .c (Cell.int .i64 n)] => some [.c (Cell.bool ((rope_store_has s x1 n)))]
  | _ => none
noncomputable def F36 : FnSem := numF G36
theorem F36_num : FnNum F36 := numF_num _
theorem e36 : ∀ (R : Type) (s : Option Sl) (x1 n : Int) (H : Heap) (K : AV → Heap → Option R) (lp : Code → St → (AExit → St → Option R) → Option R), fnL C36 lp Try.f36.results.toList (bodyOf Try.f36) [TV.agg [Cell.slice s], TV.c (Cell.int IntKind.i64 x1), TV.c (Cell.int IntKind.i64 n)] H K = bif decide (x1 ≥ 0) then bif decide (n ≥ 0) then bif decide (x1 ≤ slen s) then K (AV.c (Cell.bool (decide (n ≤ IntKind.i64.wrap (slen s - x1))))) H else K (AV.c (Cell.bool false)) H else K (AV.c (Cell.bool false)) H else K (AV.c (Cell.bool false)) H := by intros; kernel_rfl
theorem s36 (R : Type) (s : (Option Sl)) (x1 : Int) (n : Int) (H : Heap) (K : AV → Heap → Option R) (lp : Code → St → (AExit → St → Option R) → Option R) : fnL CC36 lp Try.f36.results.toList (bodyOf Try.f36) [.agg [Cell.slice s], .c (Cell.int .i64 x1), .c (Cell.int .i64 n)] H K = K (oneOf [.c (Cell.bool ((rope_store_has s x1 n)))]) H := by
  rw [e36]
  unfold rope_store_has
  cases decide (x1 ≥ 0) <;> cases decide (n ≥ 0) <;> cases decide (x1 ≤ slen s) <;> rfl
theorem ok36 : FnOk Try.prog 36 F36 := by
  refine fn_ok (C := CC36) (good36.env rfl) (good36.ctx rfl rfl rfl) (by kernel_rfl) Try.func36 (c := bodyOf Try.f36) (by kernel_rfl) (by kernel_rfl) (Nat.le_of_eq Try.ntmps36.symm) ?_
  intro R args H K r h
  unfold F36 numF G36 at h
  split at h
  · rw [fnA_eq, s36]; exact h
  · cases h
/-! 38: rope_store_num -/
noncomputable def C38 : Ctx := { P := Try.prog, own := [3], fns := [], nt := 27, nums := [], live := [(3, ⟨[1, 3, 7, 8], [3], [7], []⟩)] }
noncomputable abbrev CC38 : Ctx := C38
theorem good38 : Callees Try.prog CC38.fns [] CC38.nums := Callees.nil Try.prog
abbrev Ty38 := (Option Sl) → Int → Int → Heap → Option (Int × Heap)
def enc38 (r : Int) : List TV := [.c (Cell.int .u64 (r))]
def dec38 : AV → Option (Int)
  | .c (Cell.int .u64 q0) => some (q0)
  | _ => none
theorem de38 (v : AV) (r : Int) (h : dec38 v = some r) : v = oneOf (enc38 r) := by
  unfold dec38 at h
  split at h
  · cases h; rfl
  · cases h
def sem38 (f : Ty38) : List TV → Heap → Option (Int × Heap)
  | [.agg [Cell.slice s], .c (Cell.int .i64 x1), .c (Cell.int .i64 w)], H => f s x1 w H
  | _, _ => none
noncomputable def f38 : Ty38 := fun s x1 w H => fnA CC38 Try.f38.results.toList (bodyOf Try.f38) _ [.agg [Cell.slice s], .c (Cell.int .i64 x1), .c (Cell.int .i64 w)] H (decF dec38)
theorem e38 : ∀ (R : Type) (s : Option Sl) (x1 w : Int) (H : Heap) (K : AV → Heap → Option R) (lp : Code → St → (AExit → St → Option R) → Option R), fnL C38 lp Try.f38.results.toList (bodyOf Try.f38) [TV.agg [Cell.slice s], TV.c (Cell.int IntKind.i64 x1), TV.c (Cell.int IntKind.i64 w)] H K = lp (Code.l (Code.l (Code.r (Code.l (Code.r (Code.r (bodyOf Try.f38))))))) { env := [(1, AV.c (Cell.int IntKind.i64 x1)), (3, AV.lp 3 0), (7, AV.c (Cell.int IntKind.u64 0)), (8, AV.c (Cell.int IntKind.i64 (IntKind.i64.wrap (w - 1))))], loc := [(3, [Cell.slice s])], heap := H } (blockK 0 (seqK (execL C38 lp (Code.r (Code.r (Code.r (bodyOf Try.f38))))) (retA C38 [ResultVar.tmp 6] K))) := by intros; kernel_rfl
theorem b38_3 : ∀ (R : Type) (t1 t7 t8 : Int) (b3_ : Option Sl) (H : Heap) (K : AExit → St → Option R) (f : St → (AExit → St → Option R) → Option R) (lp : Code → St → (AExit → St → Option R) → Option R), execL C38 lp (Code.l (Code.l (Code.r (Code.l (Code.r (Code.r (bodyOf Try.f38))))))) { env := [(1, AV.c (Cell.int IntKind.i64 t1)), (3, AV.lp 3 0), (7, AV.c (Cell.int IntKind.u64 t7)), (8, AV.c (Cell.int IntKind.i64 t8))], loc := [(3, [Cell.slice b3_])], heap := H } (loopK (keepOf C38.live (Code.l (Code.l (Code.r (Code.l (Code.r (Code.r (bodyOf Try.f38)))))))) f K) = bif decide (t8 ≥ 0) then b3_.bind fun v2 => bif inb (IntKind.i64.wrap (t1 + t8)) v2.len && v2.esz == 1 then (H.get v2.id (v2.off + (IntKind.i64.wrap (t1 + t8)).toNat * 1)).bind fun v1 => (Cell.toInt IntKind.u8 v1).bind fun v0 => f { env := [(1, AV.c (Cell.int IntKind.i64 t1)), (3, AV.lp 3 0), (7, AV.c (Cell.int IntKind.u64 (bor IntKind.u64 (ishl IntKind.u64 t7 8) (IntKind.u64.wrap v0)))), (8, AV.c (Cell.int IntKind.i64 (IntKind.i64.wrap (t8 - 1))))], loc := [(3, [Cell.slice b3_])], heap := H } K else none else K (AExit.exit 0) { env := [(7, AV.c (Cell.int IntKind.u64 t7))], loc := [], heap := H } := by intros; kernel_rfl
theorem ok38 : FnOk Try.prog 38 (specF enc38 (sem38 f38)) := by
  refine spec_ok (C := CC38) good38 rfl rfl rfl (by kernel_rfl) Try.func38 (c := bodyOf Try.f38) (by kernel_rfl) (by kernel_rfl) (Nat.le_of_eq Try.ntmps38.symm) dec38 enc38 de38 _ ?_
  intro args H q h
  unfold sem38 at h
  split at h
  · exact h
  · cases h
theorem shl8_or (v b : Nat) (hv : v < 72057594037927936) (hb : b < 256) : bor .u64 (ishl .u64 (v : Int) 8) (IntKind.u64.wrap (b : Int)) = ((b + 256 * v : Nat) : Int) := by
  have e1 : ishl .u64 (v : Int) 8 = ((2 ^ 8 * v : Nat) : Int) := by
    unfold ishl
    have : min ((8 : Int).toNat) IntKind.u64.bits = 8 := rfl
    rw [this, wrap_u64]; omega
  rw [e1, wrapU_nat b (by omega), bor_u64]
  have h1 : (((2 ^ 8 * v : Nat) : Int) % 18446744073709551616).toNat = 2 ^ 8 * v := by omega
  have h2 : ((b : Int) % 18446744073709551616).toNat = b := by omega
  rw [h1, h2, ← Nat.two_pow_add_eq_or_of_lt (by omega)]
  congr 1; omega
theorem numN_append : ∀ (l : List Nat) (b : Nat), numN (b :: l) = b + 256 * numN l := fun _ _ => rfl
theorem RB.get {H : Heap} {s : Option Sl} {l : List Nat} (h : RB H s l) (hl : l ≠ []) : ∃ sl, s = some sl ∧ sl.len = l.length ∧ sl.esz = 1 ∧ ∀ (i : Nat) (b : Nat), l[i]? = some b → H.get sl.id (sl.off + i) = some (bcell b) := by
  cases s with
  | none => exact absurd h hl
  | some sl => exact ⟨sl, rfl, h.1, h.2.1, h.2.2⟩
theorem loop38 (R : Type) (s : Option Sl) (l : List Nat) (hB : ∀ b ∈ l, b < 256) (hmax : l.length < 4611686018427387904) (a w : Nat) (hw : w ≤ 8) (hal : a + w ≤ l.length) (H : Heap) (hs : RB H s l) (K : AExit → St → Option R) : ∀ (m n : Nat), m ≤ w →
    loopN (exec CC38 (Code.l (Code.l (Code.r (Code.l (Code.r (Code.r (bodyOf Try.f38)))))))) (keepOf CC38.live (Code.l (Code.l (Code.r (Code.l (Code.r (Code.r (bodyOf Try.f38)))))))) (n + m + 1) { env := [(1, AV.c (Cell.int IntKind.i64 (a : Int))), (3, AV.lp 3 0), (7, AV.c (Cell.int IntKind.u64 ((numN ((l.drop (a + m)).take (w - m)) : Nat) : Int))), (8, AV.c (Cell.int IntKind.i64 ((m : Int) - 1)))], loc := [(3, [Cell.slice s])], heap := H } K
      = K (AExit.exit 0) { env := [(7, AV.c (Cell.int IntKind.u64 ((numN ((l.drop a).take w) : Nat) : Int)))], loc := [], heap := H }
  | 0, n, hm => by
    have g : decide (((0 : Nat) : Int) - 1 ≥ 0) = false := by decide
    rw [loopN_step, b38_3, g, cf]; rfl
  | m + 1, n, hm => by
    have hne : l ≠ [] := by rintro rfl; simp at hal; omega
    obtain ⟨sl, rfl, h1, h2, h3⟩ := hs.get hne
    have hb : a + m < l.length := by omega
    have hlb : l[a + m]? = some l[a + m] := List.getElem?_eq_getElem hb
    have hB' := hB l[a + m] (List.getElem_mem hb)
    have e : (((m + 1 : Nat) : Int) - 1) = m := by omega
    have g : decide ((m : Int) ≥ 0) = true := by simp
    have g1 : IntKind.i64.wrap ((a : Int) + (m : Int)) = ((a + m : Nat) : Int) := by rw [wrap_i64 (by omega) (by omega)]; omega
    have g2 : (inb ((a + m : Nat) : Int) sl.len && sl.esz == 1) = true := by rw [h2, h1]; simp [inb]; omega
    have g3 : IntKind.i64.wrap ((m : Int) - 1) = (m : Int) - 1 := wrap_i64 (by omega) (by omega)
    have g4 : sl.off + (((a + m : Nat) : Int)).toNat * 1 = sl.off + (a + m) := by rw [Int.toNat_natCast, Nat.mul_one]
    have hlt : numN ((l.drop (a + (m + 1))).take (w - (m + 1))) < 72057594037927936 := by
      have h5 := numN_lt ((l.drop (a + (m + 1))).take (w - (m + 1))) fun b hb => hB b (List.mem_of_mem_drop (List.mem_of_mem_take hb))
      have h6 : ((l.drop (a + (m + 1))).take (w - (m + 1))).length ≤ 7 := by simp; omega
      exact Nat.lt_of_lt_of_le h5 (Nat.le_trans (Nat.pow_le_pow_right (by decide) h6) (by decide))
    rw [show n + (m + 1) + 1 = (n + m + 1) + 1 by omega, e, loopN_step, b38_3, g]
    simp only [ct, Option.bind_some, g1, g2, g3, g4, h3 (a + m) _ hlb]
    show (some _).bind _ = _
    rw [Option.bind_some, shl8_or _ _ hlt hB', ← numN_append]
    have e2 : l[a + m] :: (l.drop (a + (m + 1))).take (w - (m + 1)) = (l.drop (a + m)).take (w - m) := by
      rw [show w - m = (w - (m + 1)) + 1 by omega, List.drop_eq_getElem_cons hb, List.take_succ_cons]; rfl
    rw [e2]
    exact loop38 R (some sl) l hB hmax a w hw hal H hs K m n (by omega)
theorem f38_spec (s : Option Sl) (l : List Nat) (hB : ∀ b ∈ l, b < 256) (hmax : l.length < 4611686018427387904) (a w : Nat) (hw : w ≤ 8) (hal : a + w ≤ l.length) (H : Heap) (hs : RB H s l) :
    f38 s (a : Int) (w : Int) H = some (((numN ((l.drop a).take w) : Nat) : Int), H) := by
  unfold f38
  rw [fnA_eq, e38]
  have g : IntKind.i64.wrap ((w : Int) - 1) = (w : Int) - 1 := wrap_i64 (by omega) (by omega)
  rw [g]
  obtain ⟨n, hn⟩ := loops_of CC38 (Code.l (Code.l (Code.r (Code.l (Code.r (Code.r (bodyOf Try.f38))))))) { env := [(1, AV.c (Cell.int IntKind.i64 (a : Int))), (3, AV.lp 3 0), (7, AV.c (Cell.int IntKind.u64 0)), (8, AV.c (Cell.int IntKind.i64 ((w : Int) - 1)))], loc := [(3, [Cell.slice s])], heap := H } (blockK 0 (seqK (execL CC38 (loops CC38) (Code.r (Code.r (Code.r (bodyOf Try.f38))))) (retA CC38 [ResultVar.tmp 6] (decF dec38)))) w (by omega)
  refine (show _ = _ from hn).trans ?_
  have h := loop38 _ s l hB hmax a w hw hal H hs (blockK 0 (seqK (execL CC38 (loops CC38) (Code.r (Code.r (Code.r (bodyOf Try.f38))))) (retA CC38 [ResultVar.tmp 6] (decF dec38)))) w n (Nat.le_refl _)
  rw [Nat.sub_self] at h
  refine (show _ = _ from h).trans ?_
  generalize numN ((l.drop a).take w) = v
  show _ = _
  kernel_rfl
