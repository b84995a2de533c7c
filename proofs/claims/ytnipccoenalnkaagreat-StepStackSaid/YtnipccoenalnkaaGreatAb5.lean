/- The abstract machine, 5: operations that only compute, or make one block. -/
import Derived.Test.YtnipccoenalnkaaGreatAb4
import Derived.Laws.StructEq
import Derived.OrdersIn
import Derived.LoopNIn
import Derived.ChangeKeysEq
namespace Go.Proofs.YtnipccoenalnkaaGreat.Ab
open Go
set_option linter.unusedVariables false
set_option linter.unusedSimpArgs false

section
variable {R : Type} {C : Ctx} {o : Oper} {st : St} {K : St → Option R} {r : R} {ρ : Rho} {L : Nat → Option Nat} {a : Act} {w : World} {next : Act → World → Prop} {Q : Exit → Act → World → Prop} {rd : Option Nat}

/-- Frames of functions (none), and of a round of a range over a function. -/
def Fen (rd : Option Nat) : Fence := { fn := fun _ => True, depth := none, alive := false, round := rd }
theorem room_fen (rd : Option Nat) (n : Nat) : (Fen rd).room n := fun d h => by cases h
theorem semAt_of {rd : Option Nat} {P : Program} {o : Oper} {a : Act} {w w' : World} {x : Next} (h : (execOp a.eval o).run P w = .ok x w') (hx : ∀ d, x ≠ .defer d) : (o.semAt rd a.eval).run P w = .ok x w' := by
  cases rd with
  | none => exact h
  | some l =>
    unfold Oper.semAt
    split
    · rename_i c hl hc
      exfalso
      unfold execOp at h
      rw [hc] at h
      revert h
      simp only [Sem.run_bind]
      cases (resolve a.eval c o.type).run P w with
      | ok d w2 => intro h; simp [Result.andThen] at h; exact hx d h.1.symm
      | halt y w2 => intro h; simp [Result.andThen] at h
    · exact h
theorem semAt_call {rd : Option Nat} {ρ : Operand → Value} {dst : Option Tmp} {c : Call} {type : TypeId} {pos : String} {after : Array Edge} {guard : Option (Nat × Bool)} :
    Oper.semAt rd ρ { dst := dst, op := .call c, type := type, pos := pos, after := after, guard := guard } = execOp ρ { dst := dst, op := .call c, type := type, pos := pos, after := after, guard := guard } := by cases rd <;> rfl
theorem wpR_value {P : Program} {w' : World} {u : Value} (hrun : (execOp a.eval o).run P w = .ok (.value u) w') (h : next (a.put o.dst u) w') : o.wpIn (Fen rd) 0 P a w next Q :=
  ⟨fun _ _ => trivial, by
    show o.uponIn (Fen rd) 0 P a next Q ((o.semAt rd a.eval).run P w)
    rw [semAt_of hrun (fun d h => by cases h), Oper.uponIn_value]; exact h⟩
theorem wpR_skip {P : Program} {w' : World} (hrun : (execOp a.eval o).run P w = .ok .skip w') (h : next (a.put o.dst undef) w') : o.wpIn (Fen rd) 0 P a w next Q :=
  ⟨fun _ _ => trivial, by
    show o.uponIn (Fen rd) 0 P a next Q ((o.semAt rd a.eval).run P w)
    rw [semAt_of hrun (fun d h => by cases h), Oper.uponIn_skip]; exact h⟩

/-- What is asked of what follows an operation. -/
def Follows (C : Ctx) (K : St → Option R) (r : R) (ρ : Rho) (L : Nat → Option Nat) (st : St) (a : Act) (w : World) (next : Act → World → Prop) : Prop :=
  ∀ ρ' L' st' a' w', K st' = some r → SR C.nt ρ' L' st' a' w' → Fr ρ ρ' w w' (Ch ρ L st) (Ch ρ' L' st') → a'.defers = a.defers → next a' w'
theorem put_defers (a : Act) (d : Option Tmp) (v : Value) : (a.put d v).defers = a.defers := by unfold Act.put; split <;> rfl
def StepOk (C : Ctx) (o : Oper) (st : St) (K : St → Option R) (r : R) : Prop :=
  ∀ (rd : Option Nat) (ρ : Rho) (L : Nat → Option Nat) (a : Act) (w : World) (next : Act → World → Prop) (Q : Exit → Act → World → Prop), SR C.nt ρ L st a w → inRange C.nt o.dst = true →
    Follows C K r ρ L st a w next → o.wpIn (Fen rd) 0 C.P a w next Q

theorem SR.drew {n : Nat} (h : SR n ρ L st a w) : SR n ρ L st a w.drew :=
  ⟨h.env, h.loc.congr (Rho.le_refl _) (fun _ _ _ _ _ => rfl) fun _ _ _ _ _ _ _ _ hi => ⟨_, _, hi⟩, h.heap.congr (Nat.le_refl _) fun _ _ _ _ _ _ => rfl, h.defers, h.size⟩
theorem Fr.drew (ρ : Rho) (w : World) (Ch : Nat → Prop) : Fr ρ ρ w w.drew Ch Ch :=
  ⟨Rho.le_refl ρ, Nat.le_refl _, fun _ _ _ => rfl, fun _ h => .inl h, fun _ _ _ _ h => .inl h, rfl, rfl, rfl⟩

theorem value_step (h : SR C.nt ρ L st a w) (hd : inRange C.nt o.dst = true) (hn : Follows C K r ρ L st a w next) {x : AV} {u : Value} (hK : K (st.set o.dst x) = some r) (hx : AR ρ L x u)
    (hrun : (execOp a.eval o).run C.P w = .ok (.value u) w) : o.wpIn (Fen rd) 0 C.P a w next Q := by
  refine wpR_value hrun ?_
  refine hn ρ L _ _ w hK (h.set hd hx) ?_ (put_defers ..)
  have : Ch ρ L (st.set o.dst x) = Ch ρ L st := by cases hdst : o.dst <;> rfl
  rw [this]
  exact Fr.refl _ _ _

/-- The operation yields a value, and the world changes where the heap cannot tell it. -/
theorem world_step (h : SR C.nt ρ L st a w) (hd : inRange C.nt o.dst = true) (hn : Follows C K r ρ L st a w next) {x : AV} {u : Value} (hK : K (st.set o.dst x) = some r) (hx : AR ρ L x u) {w' : World}
    (hs : SR C.nt ρ L st a w') (hf : Fr ρ ρ w w' (Ch ρ L st) (Ch ρ L st)) (hrun : (execOp a.eval o).run C.P w = .ok (.value u) w') : o.wpIn (Fen rd) 0 C.P a w next Q := by
  refine wpR_value hrun ?_
  refine hn ρ L _ _ w' hK (hs.set hd hx) ?_ (put_defers ..)
  have : Ch ρ L (st.set o.dst x) = Ch ρ L st := by cases hdst : o.dst <;> rfl
  rw [this]
  exact hf
/-- The operation makes a row. -/
theorem row_step (h : SR C.nt ρ L st a w) (hd : inRange C.nt o.dst = true) (hn : Follows C K r ρ L st a w next) {x : Nat → AV} {u : Value} {cs : List Cell} {c : Array Value} {e : TypeId} {w1 : World}
    (hw1 : w1 = w ∨ w1 = w.drew) (hK : newB C st o.dst (.row cs false) (fun id st => K (st.set o.dst (x id))) = some r) (hc : ∀ (j : Nat) (x : Cell), cs[j]? = some x → ∃ v, c[j]? = some v ∧ CR ρ x v) {fz : Nat × Nat} (hf : unfrozen fz c.size)
    (hx : ∀ id, AR (ρ.put id (w.heap.size, 0, some c.size)) L (x id) u)
    (hrun : (execOp a.eval o).run C.P w = .ok (.value u) (w1.alloc (.cells c e fz))) : o.wpIn (Fen rd) 0 C.P a w next Q := by
  refine wpR_value hrun ?_
  have h1 : SR C.nt ρ L st a w1 := by rcases hw1 with rfl | rfl; exact h; exact h.drew
  have f1 : Fr ρ ρ w w1 (Ch ρ L st) (Ch ρ L st) := by rcases hw1 with rfl | rfl; exact Fr.refl _ _ _; exact Fr.drew _ _ _
  have hsz : w1.heap.size = w.heap.size := by rcases hw1 with rfl | rfl <;> rfl
  obtain ⟨id, H', hK, hpl⟩ := newB_some hK
  have hp := h1.heap.place (cs := cs) (c := c) (e := e) (fz := fz) hpl hc hf
  rw [hsz] at hp
  obtain ⟨h2, h3⟩ := h1.place (o := .cells c e fz) (m := some c.size) hpl (by rw [hsz]) hp
  refine hn _ L _ _ _ hK (h2.set hd (hx id)) ?_ (put_defers ..)
  have : Ch (ρ.put id (w.heap.size, 0, some c.size)) L ((st.withHeap H').set o.dst (x id)) = Ch (ρ.put id (w.heap.size, 0, some c.size)) L (st.withHeap H') := by cases hdst : o.dst <;> rfl
  rw [this]
  exact f1.trans h3

theorem run_newRow (P : Program) (e : TypeId) (c : Array Value) (w : World) : (newRow e c).run P w = .ok ⟨w.heap.size, 0, none⟩ (w.alloc (.cells c e)) := by
  rfl

theorem alloc_step (h : SR C.nt ρ L st a w) (hd : inRange C.nt o.dst = true) (hn : Follows C K r ρ L st a w next) {cs : List Cell} {c : Array Value} {e : TypeId}
    (hK : allocA C st o.dst cs K = some r) (hc : LR ρ cs c.toList)
    (hrun : (execOp a.eval o).run C.P w = .ok (.value (.pointer (some ⟨w.heap.size, 0, none⟩))) (w.alloc (.cells c e))) : o.wpIn (Fen rd) 0 C.P a w next Q := by
  unfold allocA at hK
  cases hdst : o.dst with
  | none => rw [hdst] at hK; cases hK
  | some d =>
    rw [hdst] at hK
    simp only at hK
    cases hown : C.own.contains d with
    | true =>
      rw [hown, cond_true] at hK
      cases hcl : clean d st.env with
      | false => rw [hcl, cond_false] at hK; cases hK
      | true =>
      rw [hcl, cond_true] at hK
      refine wpR_value hrun ?_
      have hlt : d < C.nt := by rw [hdst] at hd; simpa [inRange, Nat.blt_eq] using hd
      obtain ⟨h1, h2⟩ := h.newLocal (c := c) (e := e) hlt hcl hc
      rw [hdst]
      exact hn _ _ _ _ _ hK h1 h2 (put_defers ..)
    | false =>
      rw [hown, cond_false] at hK
      refine row_step (w1 := w) h hd hn (.inl rfl) (x := fun id => .c (.ptr (some (id, 0)))) (c := c) (e := e) (fz := (0, 0)) (by rw [hdst]; exact hK) (fun j x hj => ?_) (unfrozen_zero _) (fun _ => ?_) hrun
      · obtain ⟨v, h1, h2⟩ := hc.get hj
        exact ⟨v, by simpa using h1, h2⟩
      · exact .c (.ptr put_self)

/-! ### binary operations -/
theorem intOp_some {op : BinOp} {k : IntKind} {x y : Int} {K : Cell → Option R} (P : Program) (w : World) (hns : asShift op = false) (h : intOp op k x y K = some r) :
    ∃ c v, K c = some r ∧ (binOp op 0 (.int k x) (.int k y)).run P w = .ok v w ∧ ∀ ρ, CR ρ c v := by
  have div : ∀ c : Cell, (bif y == 0 then none else K c) = some r → y ≠ 0 ∧ K c = some r := by
    intro c h
    by_cases hy : y = 0
    · rw [show (y == 0) = true by simpa using hy, cond_true] at h; cases h
    · rw [show (y == 0) = false by simpa using hy, cond_false] at h; exact ⟨hy, h⟩
  cases op <;> simp only [intOp] at h
  case add => exact ⟨_, _, h, by simp [binOp, Op.intArith], fun _ => .int _ _⟩
  case sub => exact ⟨_, _, h, by simp [binOp, Op.intArith], fun _ => .int _ _⟩
  case mul => exact ⟨_, _, h, by simp [binOp, Op.intArith], fun _ => .int _ _⟩
  case quo =>
    obtain ⟨hy, h⟩ := div _ h
    exact ⟨_, _, h, by simp [binOp, Op.intDiv, hy], fun _ => .int _ _⟩
  case rem =>
    obtain ⟨hy, h⟩ := div _ h
    exact ⟨_, _, h, by simp [binOp, Op.intDiv, hy], fun _ => .int _ _⟩
  case and => exact ⟨_, _, h, by simp only [binOp, ne_eq, not_true_eq_false, if_false, Op.intBits]; rfl, fun _ => .int _ _⟩
  case or => exact ⟨_, _, h, by simp only [binOp, ne_eq, not_true_eq_false, if_false, Op.intBits]; rfl, fun _ => .int _ _⟩
  case xor => exact ⟨_, _, h, by simp only [binOp, ne_eq, not_true_eq_false, if_false, Op.intBits]; rfl, fun _ => .int _ _⟩
  case andNot => exact ⟨_, _, h, by simp only [binOp, ne_eq, not_true_eq_false, if_false, Op.intBits]; rfl, fun _ => .int _ _⟩
  case shl => simp [asShift] at hns
  case shr => simp [asShift] at hns
  case eql => exact ⟨_, _, h, by simp only [binOp, ne_eq, not_true_eq_false, if_false, Op.intCmp]; rfl, fun _ => .bool _⟩
  case neq => exact ⟨_, _, h, by simp only [binOp, ne_eq, not_true_eq_false, if_false, Op.intCmp]; rfl, fun _ => .bool _⟩
  case lss => exact ⟨_, _, h, by simp only [binOp, ne_eq, not_true_eq_false, if_false, Op.intCmp]; rfl, fun _ => .bool _⟩
  case leq => exact ⟨_, _, h, by simp only [binOp, ne_eq, not_true_eq_false, if_false, Op.intCmp]; rfl, fun _ => .bool _⟩
  case gtr => exact ⟨_, _, h, by simp only [binOp, ne_eq, not_true_eq_false, if_false, Op.intCmp]; rfl, fun _ => .bool _⟩
  case geq => exact ⟨_, _, h, by simp only [binOp, ne_eq, not_true_eq_false, if_false, Op.intCmp]; rfl, fun _ => .bool _⟩
theorem binOp_type (op : BinOp) (t u : TypeId) (k : IntKind) (x : Int) (k' : IntKind) (y : Int) : binOp op t (.int k x) (.int k' y) = binOp op u (.int k x) (.int k' y) := by
  cases op <;> rfl
theorem shiftOp_some {op : BinOp} {k k' : IntKind} {x y : Int} {K : Cell → Option R} (P : Program) (w : World) (h : shiftOp op k x y K = some r) :
    ∃ c v, K c = some r ∧ (binOp op 0 (.int k x) (.int k' y)).run P w = .ok v w ∧ ∀ ρ, CR ρ c v := by
  have neg : ∀ c : Cell, (bif decide (y < 0) then none else K c) = some r → ¬ y < 0 ∧ K c = some r := by
    intro c h
    by_cases hy : y < 0
    · rw [show decide (y < 0) = true by simpa using hy, cond_true] at h; cases h
    · rw [show decide (y < 0) = false by simpa using hy, cond_false] at h; exact ⟨hy, h⟩
  cases op <;> simp only [shiftOp] at h
  case shl =>
    obtain ⟨hy, h⟩ := neg _ h
    exact ⟨_, _, h, by simp only [binOp, Op.shift, hy, if_false]; rfl, fun _ => .int _ _⟩
  case shr =>
    obtain ⟨hy, h⟩ := neg _ h
    exact ⟨_, _, h, by simp only [binOp, Op.shift, hy, if_false]; rfl, fun _ => .int _ _⟩
  all_goals cases h
theorem strOp_some {op : BinOp} {x y : ByteArray} {K : Cell → Option R} (P : Program) (w : World) (t : TypeId) (h : strOp op x y K = some r) :
    ∃ c v, K c = some r ∧ (binOp op t (.string x) (.string y)).run P w = .ok v w ∧ ∀ ρ, CR ρ c v := by
  cases op <;> simp only [strOp, strEq_toList] at h
  case add =>
    by_cases hs : x.size + y.size ≤ most
    · rw [show decide (x.size + y.size ≤ most) = true by simpa using hs, cond_true] at h
      refine ⟨_, _, h, ?_, fun _ => .str _⟩
      have : ¬ ((x.size + y.size : Nat) : Int) > IntKind.i64.max := by
        have : IntKind.i64.max = 9223372036854775807 := rfl
        unfold most at hs
        omega
      simp only [binOp, Op.stringOp, this, if_false]
      rfl
    · rw [show decide (x.size + y.size ≤ most) = false by simpa using hs, cond_false] at h
      cases h
  case eql => exact ⟨_, _, h, rfl, fun _ => .bool _⟩
  case neq => exact ⟨_, _, h, rfl, fun _ => .bool _⟩
  all_goals cases h

theorem toInt_some {k : IntKind} {c : Cell} {n : Int} (h : c.toInt k = some n) : c = .int k n := by
  cases c <;> simp [Cell.toInt] at h
  rename_i k' m
  by_cases hk : k = k'
  · subst hk; simp at h; rw [h]
  · rw [show (k == k') = false from beq_eq_false_iff_ne.2 hk, cond_false] at h; cases h
theorem anyInt_some {c : Cell} {n : Int} (h : c.anyInt = some n) : ∃ k, c = .int k n := by
  cases c <;> simp [Cell.anyInt] at h
  exact ⟨_, by rw [h]⟩
theorem toBool_some {c : Cell} {b : Bool} (h : c.toBool = some b) : c = .bool b := by cases c <;> simp [Cell.toBool] at h; rw [h]
theorem toStr_some {c : Cell} {b : ByteArray} (h : c.toStr = some b) : c = .str b := by cases c <;> simp [Cell.toStr] at h; rw [h]
theorem toPtr_some {c : Cell} {b : Option (Nat × Nat)} (h : c.toPtr = some b) : c = .ptr b := by cases c <;> simp [Cell.toPtr] at h; rw [h]
theorem toSlice_some {c : Cell} {b : Option Sl} (h : c.toSlice = some b) : c = .slice b := by cases c <;> simp [Cell.toSlice] at h; rw [h]
theorem toMap_some {c : Cell} {b : Option Nat} (h : c.toMap = some b) : c = .map b := by cases c <;> simp [Cell.toMap] at h; rw [h]
theorem CR.int_inv {ρ : Rho} {k : IntKind} {n : Int} {v : Value} (h : CR ρ (.int k n) v) : v = .int k n := by cases h; rfl
theorem CR.bool_inv {ρ : Rho} {b : Bool} {v : Value} (h : CR ρ (.bool b) v) : v = .bool b := by cases h; rfl
theorem CR.str_inv {ρ : Rho} {s : ByteArray} {v : Value} (h : CR ρ (.str s) v) : v = .string s := by cases h; rfl

theorem eqGuard_bool (op : BinOp) (t : TypeId) (x y : Operand) (b : Bool) (v : Value) : eqGuard op t x y (.bool b) v = pure () := by cases op <;> rfl
theorem eqGuard_int (op : BinOp) (t : TypeId) (x y : Operand) (k : IntKind) (n : Int) (v : Value) : eqGuard op t x y (.int k n) v = pure () := by cases op <;> rfl
theorem eqGuard_str (op : BinOp) (t : TypeId) (x y : Operand) (s : ByteArray) (v : Value) : eqGuard op t x y (.string s) v = pure () := by cases op <;> rfl

theorem nilOf_ptr {y : Operand} (h : nilOf y = .ptr) : y = .const (.pointer none) := by unfold nilOf at h; split at h <;> simp_all
theorem nilOf_slice {y : Operand} (h : nilOf y = .slice) : y = .const (.slice none 0 0) := by unfold nilOf at h; split at h <;> simp_all
theorem nilOf_map {y : Operand} (h : nilOf y = .map) : y = .const (.map none) := by unfold nilOf at h; split at h <;> simp_all
theorem nilOf_fn {y : Operand} (h : nilOf y = .fn) : y = .const .nilFunc := by unfold nilOf at h; split at h <;> simp_all
theorem part_ok {P : Program} {t : TypeId} {cs : List Cell} {vs : Array Value} {off : Nat} {K : AV → Option R} (hc : LR ρ cs vs.toList) (hK : partA P t cs off K = some r) :
    ∃ y v, K y = some r ∧ (part t vs off).run P w = .ok v w ∧ AR ρ L y v := by
  simp only [partA, Option.bind_eq_some_iff] at hK
  obtain ⟨g, hg, n, hn, hK⟩ := hK
  cases g with
  | true =>
    rw [cond_true] at hK
    by_cases hle : off + n ≤ cs.length
    · rw [Nat.ble_eq_true_of_le hle, cond_true] at hK
      refine ⟨_, .agg (vs.extract off (off + n)), hK, ?_, .agg ?_⟩
      · simp [part, run_isAgg hg, run_sizeOf' hn]
      · have := (hc.drop off).take n
        simpa [Array.toList_extract, List.extract_eq_take_drop, List.drop_take, Nat.add_sub_cancel_left] using this
    · have : Nat.ble (off + n) cs.length = false := by
        rw [Bool.eq_false_iff]; intro hb; exact hle (Nat.le_of_ble_eq_true hb)
      rw [this, cond_false] at hK
      cases hK
  | false =>
    simp only [cond_false, Option.bind_eq_some_iff] at hK
    obtain ⟨c, hx, hK⟩ := hK
    obtain ⟨v, hv, hcr⟩ := hc.get hx
    have hv' : vs[off]? = some v := by simpa using hv
    exact ⟨_, v, hK, by simp [part, run_isAgg hg, hv'], .c hcr⟩

theorem AR.agg_inv {ρ : Rho} {L : Nat → Option Nat} {x : AV} {cs : List Cell} {v : Value} (h : AR ρ L x v) (e : x.aggC = some cs) : ∃ vs, v = .agg vs ∧ LR ρ cs vs.toList := by
  cases h <;> simp [AV.aggC] at e
  subst e
  exact ⟨_, rfl, by assumption⟩
theorem AR.cell_inv {ρ : Rho} {L : Nat → Option Nat} {x : AV} {c : Cell} {v : Value} (h : AR ρ L x v) (e : x.cell = some c) : CR ρ c v := by
  cases h <;> simp [AV.cell] at e
  subst e
  assumption
def EqOk (P : Program) (w : World) (ρ : Rho) (L : Nat → Option Nat) (d : Nat) (E : TypeId → AV → AV → Option Bool) : Prop :=
  ∀ (t : TypeId) (x y : AV) (v u : Value) (b : Bool), E t x y = some b → AR ρ L x v → AR ρ L y u → ∀ D, d ≤ D → (Op.equalIn D t v u).run P w = .ok b w
theorem eqFields_ok {P : Program} {w : World} {ρ : Rho} {L : Nat → Option Nat} {d : Nat} {E : TypeId → AV → AV → Option Bool} (hE : EqOk P w ρ L d E) {xs ys : List Cell} {vs us : Array Value}
    (hx : LR ρ xs vs.toList) (hy : LR ρ ys us.toList) {D : Nat} (hD : d ≤ D) : ∀ (fs : List Field) (b : Bool), eqFields P E xs ys fs = some b → (Op.eqFields D vs us fs).run P w = .ok b w
  | [], b, h => by cases h; simp [Op.eqFields]
  | f :: fs, b, h => by
    unfold eqFields at h
    cases hn : f.name == "_" with
    | true =>
      rw [hn, cond_true] at h
      have := eqFields_ok hE hx hy hD fs b h
      simp only [Op.eqFields, show ¬ (f.name ≠ "_") from not_not_intro (by simpa using hn), if_false]
      exact this
    | false =>
      rw [hn, cond_false] at h
      simp only [Option.bind_eq_some_iff] at h
      obtain ⟨a, ha, c, hc, r, hr, s, hs, h⟩ := h
      obtain ⟨a', v, e1, e2, e3⟩ := part_ok (L := L) (w := w) hx ha
      obtain ⟨c', u, k1, k2, k3⟩ := part_ok (L := L) (w := w) hy hc
      cases e1; cases k1; cases h
      have h1 := hE _ _ _ _ _ _ hr e3 k3 D hD
      have h2 := eqFields_ok hE hx hy hD fs s hs
      simp only [Op.eqFields, show f.name ≠ "_" from by simpa using hn, if_true, ne_eq, not_false_eq_true, Sem.run_bind, e2, k2, h1, Result.andThen_ok]
      cases r
      · simp
      · simpa using h2
theorem eqItems_ok {P : Program} {w : World} {ρ : Rho} {L : Nat → Option Nat} {d : Nat} {E : TypeId → AV → AV → Option Bool} (hE : EqOk P w ρ L d E) {xs ys : List Cell} {vs us : Array Value}
    (hx : LR ρ xs vs.toList) (hy : LR ρ ys us.toList) {D : Nat} (hD : d ≤ D) {e : TypeId} {n : Nat} : ∀ (is : List Nat) (b : Bool), eqItems P E e n xs ys is = some b → (Op.eqItems D e n vs us is).run P w = .ok b w
  | [], b, h => by cases h; simp [Op.eqItems]
  | i :: is, b, h => by
    unfold eqItems at h
    simp only [Option.bind_eq_some_iff] at h
    obtain ⟨a, ha, c, hc, r, hr, s, hs, h⟩ := h
    obtain ⟨a', v, e1, e2, e3⟩ := part_ok (L := L) (w := w) hx ha
    obtain ⟨c', u, k1, k2, k3⟩ := part_ok (L := L) (w := w) hy hc
    cases e1; cases k1; cases h
    have h1 := hE _ _ _ _ _ _ hr e3 k3 D hD
    have h2 := eqItems_ok hE hx hy hD is s hs
    simp only [Op.eqItems, Sem.run_bind, e2, k2, h1, Result.andThen_ok]
    cases r
    · simp
    · simpa using h2
theorem eqAV_ok (P : Program) (w : World) (ρ : Rho) (L : Nat → Option Nat) : ∀ d, EqOk P w ρ L d (eqAV P d)
  | 0 => fun t x y v u b h => nomatch h
  | d + 1 => fun t x y v u b h hx hy D hD => by
    obtain ⟨D, rfl⟩ : ∃ D', D = D' + 1 := ⟨D - 1, by omega⟩
    unfold eqAV at h
    cases hu : P.underlying t with
    | none => simp [hu] at h
    | some q =>
      rw [hu] at h
      cases q
      case int k =>
        simp only [Option.bind_eq_some_iff] at h
        obtain ⟨cx, hcx, cy, hcy, x', hx', y', hy', h⟩ := h
        have e1 := hx.cell_inv hcx
        have e2 := hy.cell_inv hcy
        have := toInt_some hx'; subst this
        have := toInt_some hy'; subst this
        cases h
        rw [e1.int_inv, e2.int_inv, run_equalIn_int w D t k k x' y' hu]
      case bool =>
        simp only [Option.bind_eq_some_iff] at h
        obtain ⟨cx, hcx, cy, hcy, x', hx', y', hy', h⟩ := h
        have e1 := hx.cell_inv hcx
        have e2 := hy.cell_inv hcy
        have := toBool_some hx'; subst this
        have := toBool_some hy'; subst this
        cases h
        rw [e1.bool_inv, e2.bool_inv, run_equalIn_bool' w D t x' y' hu]
      case string =>
        simp only [Option.bind_eq_some_iff] at h
        obtain ⟨cx, hcx, cy, hcy, x', hx', y', hy', h⟩ := h
        have e1 := hx.cell_inv hcx
        have e2 := hy.cell_inv hcy
        have := toStr_some hx'; subst this
        have := toStr_some hy'; subst this
        cases h
        rw [e1.str_inv, e2.str_inv, run_equalIn_string w D t x' y' hu, strEq_toList]
      case struct fs =>
        cases hs : P.stoodInHeld t with
        | true => simp only [hs, cond_true] at h; cases h
        | false =>
          simp only [hs, cond_false, Option.bind_eq_some_iff] at h
          obtain ⟨xs, h1, ys, h2, h⟩ := h
          obtain ⟨vs, rfl, lx⟩ := hx.agg_inv h1
          obtain ⟨us, rfl, ly⟩ := hy.agg_inv h2
          have hf : P.fieldsOf t = fs := by simp [Program.fieldsOf, hu]
          rw [run_equalIn_struct w D t vs us (by rw [hf]; exact hu) hs, hf]
          exact eqFields_ok (eqAV_ok P w ρ L d) lx ly (by omega) _ _ h
      case array n e =>
        simp only [Option.bind_eq_some_iff] at h
        obtain ⟨s, hs, xs, h1, ys, h2, h⟩ := h
        obtain ⟨vs, rfl, lx⟩ := hx.agg_inv h1
        obtain ⟨us, rfl, ly⟩ := hy.agg_inv h2
        simp only [sizeT, Option.map_eq_some_iff] at hs
        obtain ⟨i, hi, hs⟩ := hs
        rw [run_equalIn_array w D vs us hu hi, show P.cellsOf e = s by simp [Program.cellsOf, hi, hs]]
        exact eqItems_ok (eqAV_ok P w ρ L d) lx ly (by omega) _ _ h
      all_goals cases h
theorem aggEq_ok (h : SR C.nt ρ L st a w) {op : BinOp} {xt : TypeId} {x y : Operand} {K : Cell → Option R} (hK : aggEqA C.P st op xt x y K = some r) :
    ∃ c v, K c = some r ∧ (do eqGuard op xt x y (a.eval x) (a.eval y); binOp op xt (a.eval x) (a.eval y) : Sem Value).run C.P w = .ok v w ∧ CR ρ c v := by
  unfold aggEqA at hK
  simp only [Option.bind_eq_some_iff] at hK
  obtain ⟨vx, hx, vy, hy, xs, h1, ys, h2, hK⟩ := hK
  have e1 := h.ev hx
  have e2 := h.ev hy
  cases hg : C.P.eqGuardType C.P.depth xt with
  | true => rw [hg, cond_true] at hK; cases hK
  | false =>
    rw [hg, cond_false] at hK
    simp only [Option.bind_eq_some_iff] at hK
    obtain ⟨b, hb, e, he, hK⟩ := hK
    have heq := eqAV_ok C.P w ρ L 8 _ _ _ _ _ _ hb e1 e2 10000 (by omega)
    obtain ⟨vs, hv, _⟩ := e1.agg_inv h1
    obtain ⟨us, hu, _⟩ := e2.agg_inv h2
    rw [hv, hu] at heq ⊢
    refine ⟨_, .bool (bif e then b else !b), hK, ?_, .bool _⟩
    cases op <;> simp [asEql] at he <;> subst he
    · rw [Sem.run_bind, run_eqGuard_agg w .eql xt x y vs us hg, Result.andThen_ok, run_eql_struct, heq]; rfl
    · rw [Sem.run_bind, run_eqGuard_agg w .neq xt x y vs us hg, Result.andThen_ok, run_neq_struct, heq]; rfl

theorem equal_succ (t : TypeId) (x y : Value) : Op.equal t x y = Op.equalIn (9999 + 1) t x y := rfl

theorem bin_ok (h : SR C.nt ρ L st a w) {op : BinOp} {xt : TypeId} {x y : Operand} {K : Cell → Option R} (hK : binA C.P st op xt x y K = some r) :
    ∃ c v, K c = some r ∧ (do eqGuard op xt x y (a.eval x) (a.eval y); binOp op xt (a.eval x) (a.eval y) : Sem Value).run C.P w = .ok v w ∧ CR ρ c v := by
  unfold binA at hK
  cases hu : C.P.underlying xt with
  | none => simp [hu] at hK
  | some d =>
    rw [hu] at hK
    cases d
    case int k =>
      simp only [Option.bind_eq_some_iff] at hK
      obtain ⟨cx, hcx, cy, hcy, x', hx', hK⟩ := hK
      have e1 := h.evc hcx
      have e2 := h.evc hcy
      have := toInt_some hx'
      subst this
      rw [e1.int_inv, eqGuard_int]
      cases hs : asShift op with
      | true =>
        rw [hs, cond_true] at hK
        simp only [Option.bind_eq_some_iff] at hK
        obtain ⟨y', hy', hK⟩ := hK
        obtain ⟨k', rfl⟩ := anyInt_some hy'
        rw [e2.int_inv]
        obtain ⟨c, v, h1, h2, h3⟩ := shiftOp_some (k' := k') C.P w hK
        exact ⟨c, v, h1, by rw [binOp_type op xt 0]; simpa using h2, h3 _⟩
      | false =>
        rw [hs, cond_false] at hK
        simp only [Option.bind_eq_some_iff] at hK
        obtain ⟨y', hy', hK⟩ := hK
        have := toInt_some hy'
        subst this
        rw [e2.int_inv]
        obtain ⟨c, v, h1, h2, h3⟩ := intOp_some C.P w hs hK
        exact ⟨c, v, h1, by rw [binOp_type op xt 0]; simpa using h2, h3 _⟩
    case string =>
      simp only [Option.bind_eq_some_iff] at hK
      obtain ⟨cx, hcx, cy, hcy, x', hx', y', hy', hK⟩ := hK
      have e1 := h.evc hcx
      have e2 := h.evc hcy
      have := toStr_some hx'
      subst this
      have := toStr_some hy'
      subst this
      rw [e1.str_inv, e2.str_inv, eqGuard_str]
      obtain ⟨c, v, h1, h2, h3⟩ := strOp_some C.P w xt hK
      exact ⟨c, v, h1, by simpa using h2, h3 _⟩
    case bool =>
      simp only [Option.bind_eq_some_iff] at hK
      obtain ⟨cx, hcx, cy, hcy, x', hx', y', hy', e, he, hK⟩ := hK
      have e1 := h.evc hcx
      have e2 := h.evc hcy
      have := toBool_some hx'
      subst this
      have := toBool_some hy'
      subst this
      rw [e1.bool_inv, e2.bool_inv, eqGuard_bool]
      refine ⟨_, .bool (bif e then x' == y' else !(x' == y')), hK, ?_, .bool _⟩
      have heq : (Op.equal xt (.bool x') (.bool y')).run C.P w = .ok (x' == y') w := by
        rw [equal_succ, Op.equalIn]
        simp [run_underlying hu]
      cases op <;> simp [asEql] at he <;> subst he <;> simp [binOp, heq]
    case pointer e =>
      cases hy : nilOf y <;> rw [hy] at hK <;> try (cases hK; done)
      have := nilOf_ptr hy
      subst this
      simp only [Option.bind_eq_some_iff] at hK
      obtain ⟨cx, hcx, p, hp, e', he, hK⟩ := hK
      have := toPtr_some hp
      subst this
      refine ⟨_, .bool (bif e' then p.isNone else !p.isNone), hK, ?_, .bool _⟩
      generalize hv : a.eval x = v at *
      have e1 := h.evc hcx
      rw [hv] at e1
      show (do eqGuard op xt x _ v (.pointer none); binOp op xt v (.pointer none) : Sem Value).run C.P w = _
      have : eqGuard op xt x (.const (.pointer none)) v (.pointer none) = pure () := by cases e1 <;> cases op <;> rfl
      rw [this]
      have heq : (Op.equal xt v (.pointer none)).run C.P w = .ok p.isNone w := by
        rw [equal_succ, Op.equalIn]
        cases e1 <;> simp [run_underlying hu]
      cases e1 <;> cases op <;> simp [asEql] at he <;> subst he <;> simp [binOp, heq]
    case slice e =>
      cases hy : nilOf y <;> rw [hy] at hK <;> try (cases hK; done)
      have := nilOf_slice hy
      subst this
      simp only [Option.bind_eq_some_iff] at hK
      obtain ⟨cx, hcx, p, hp, e', he, hK⟩ := hK
      have := toSlice_some hp
      subst this
      refine ⟨_, .bool (bif e' then p.isNone else !p.isNone), hK, ?_, .bool _⟩
      generalize hv : a.eval x = v at *
      have e1 := h.evc hcx
      rw [hv] at e1
      show (do eqGuard op xt x _ v (.slice none 0 0); binOp op xt v (.slice none 0 0) : Sem Value).run C.P w = _
      have : eqGuard op xt x (.const (.slice none 0 0)) v (.slice none 0 0) = pure () := by cases e1 <;> cases op <;> rfl
      rw [this]
      have heq : (Op.equal xt v (.slice none 0 0)).run C.P w = .ok p.isNone w := by
        rw [equal_succ, Op.equalIn]
        cases e1 <;> simp [run_underlying hu]
      cases e1 <;> cases op <;> simp [asEql] at he <;> subst he <;> simp [binOp, heq]
    case map k e =>
      cases hy : nilOf y <;> rw [hy] at hK <;> try (cases hK; done)
      have := nilOf_map hy
      subst this
      simp only [Option.bind_eq_some_iff] at hK
      obtain ⟨cx, hcx, p, hp, e', he, hK⟩ := hK
      have := toMap_some hp
      subst this
      refine ⟨_, .bool (bif e' then p.isNone else !p.isNone), hK, ?_, .bool _⟩
      generalize hv : a.eval x = v at *
      have e1 := h.evc hcx
      rw [hv] at e1
      show (do eqGuard op xt x _ v (.map none); binOp op xt v (.map none) : Sem Value).run C.P w = _
      have : eqGuard op xt x (.const (.map none)) v (.map none) = pure () := by cases e1 <;> cases op <;> rfl
      rw [this]
      have heq : (Op.equal xt v (.map none)).run C.P w = .ok p.isNone w := by
        rw [equal_succ, Op.equalIn]
        cases e1 <;> simp [run_underlying hu]
      cases e1 <;> cases op <;> simp [asEql] at he <;> subst he <;> simp [binOp, heq]
    case func p' q' v' =>
      cases hy : nilOf y <;> rw [hy] at hK <;> try (cases hK; done)
      have := nilOf_fn hy
      subst this
      simp only [Option.bind_eq_some_iff] at hK
      obtain ⟨cx, hcx, p, hp, e', he, hK⟩ := hK
      refine ⟨_, .bool (bif e' then p else !p), hK, ?_, .bool _⟩
      generalize hv : a.eval x = v at *
      have e1 := h.evc hcx
      rw [hv] at e1
      show (do eqGuard op xt x _ v .nilFunc; binOp op xt v .nilFunc : Sem Value).run C.P w = _
      have : eqGuard op xt x (.const .nilFunc) v .nilFunc = pure () := by cases e1 <;> cases op <;> rfl
      rw [this]
      have heq : (Op.equal xt v .nilFunc).run C.P w = .ok p w := by
        rw [equal_succ, Op.equalIn]
        cases e1 <;> simp [isFn] at hp <;> subst hp <;> simp [run_underlying hu]
      cases e1 <;> simp [isFn] at hp <;> subst hp <;> cases op <;> simp [asEql] at he <;> subst he <;> simp [binOp, heq]
    case struct fs => exact aggEq_ok h hK
    case array n e => exact aggEq_ok h hK
    all_goals cases hK

end
end Go.Proofs.YtnipccoenalnkaaGreat.Ab
