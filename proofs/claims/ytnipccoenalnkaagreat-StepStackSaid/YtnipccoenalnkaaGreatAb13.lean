/- The abstract machine, 13: what an operation does depends on what it looks at alone. -/
import Derived.Test.YtnipccoenalnkaaGreatAb12
import Derived.RangeFuncCalls
namespace Go.Proofs.YtnipccoenalnkaaGreat.Ab
open Go
set_option linter.unusedVariables false
set_option linter.unusedSimpArgs false

inductive Eff where
  | val (v : AV)
  | heap (v : AV) (H : Heap)
  | fill (v : AV) (p : Nat) (b : Blk)
  | sto (k : Nat) (cs : List Cell)
  | newl (d : Nat) (cs : List Cell)
def app (e : Eff) (dst : Option Nat) (st : St) : St :=
  match e with
  | .val v => st.set dst v
  | .heap v H => (st.withHeap H).set dst v
  | .fill v p b => (st.withHeap (st.heap.set p b)).set dst v
  | .sto k cs => ({ st with loc := setLoc k cs st.loc } : St).set dst (.tup [])
  | .newl d cs => newLocal st d cs
def Fits (f : Foot) (st : St) (dst : Option Nat) (e : Eff) : Prop :=
  match f with
  | .no | .hl _ | .hs _ | .hq | .wx _ _ => ∃ v, e = .val v ∧ nolp v = true
  | .bad => ∃ v, e = .val v
  | .lr k => ∃ v, e = .val v ∧ ∀ j off, v = .lp j off → j = k
  | .ha => ∃ v b, e = .heap v (st.heap ++ [b]) ∧ nolp v = true
  | .hw => ∃ v H, e = .heap v H ∧ nolp v = true
  | .hp p _ => ∃ v b, e = .fill v p b ∧ nolp v = true ∧ st.heap[p]? = some .hole ∧ b ≠ .hole
  | .lw k => ∃ cs, e = .sto k cs
  | .la k => ∃ cs, e = .newl k cs ∧ dst = some k
def HeapOk (f : Foot) (o : Oper) (st st' : St) : Prop :=
  match f with
  | .hq | .ha | .hw => st'.heap = st.heap
  | .hl k => st'.heap[k]? = st.heap[k]?
  | .hp p _ => st'.heap[p]? = st.heap[p]?
  | .hs s => ∀ sl : Sl, s = some sl → st'.heap[sl.id]? = st.heap[sl.id]?
  | _ => True
/-- States that an operation cannot tell apart. -/
structure Agree (C : Ctx) (o : Oper) (st st' : St) : Prop where
  ev : ∀ x ∈ o.op.operands.toList, ev st' x = ev st x
  loc : ∀ k, foot C st o = .lr k ∨ foot C st o = .lw k → look st'.loc k = look st.loc k
  clean : ∀ k, foot C st o = .la k → Ab.clean k st.env = true → Ab.clean k st'.env = true
  heap : HeapOk (foot C st o) o st st'

/-- A callee's meaning goes by what follows in one way alone. -/
def FnNat (F : FnSem) : Prop := ∀ args H, ∃ q : Option (AV × Heap), (∀ p, q = some p → nolp p.1 = true) ∧ ∀ R K, F R args H K = q.bind fun p => K p.1 p.2
def FnPure (F : FnSem) : Prop := ∀ args H, ∃ q : Option AV, (∀ v, q = some v → nolp v = true) ∧ ∀ R K, F R args H K = q.bind fun v => K v H
def FnNum (F : FnSem) : Prop := ∀ args, ∃ q : Option AV, (∀ v, q = some v → nolp v = true) ∧ ∀ H R K, F R args H K = q.bind fun v => K v H
/-- What it answers goes by the block of its first slice alone. -/
def FnSl (F : FnSem) : Prop := ∀ args, ∃ q : Heap → Option AV, (∀ H v, q H = some v → nolp v = true) ∧ (∀ H R K, F R args H K = (q H).bind fun v => K v H) ∧ ∀ H H', (∀ sl : Sl, firstSl args = some sl → H'[sl.id]? = H[sl.id]?) → q H' = q H
/-- The closure of slices.Backward at a slice that is in a box: it goes through it from the end, and calls the loop's body at each element, till that says no. -/
def ItOk (P : Program) (gf : Nat) (ts te : TypeId) : Prop :=
  (∀ args w, (callFunc gf args).run P w = .ok (.enter gf args) w) ∧ ∀ (l : Nat) (pa : Addr) (N : Nat) (J : Nat → World → Prop) (Jx : World → Prop) (W : World) (base : Option Addr) (cap : Nat), N ≤ 9223372036854775807 → (loadVar ts pa).run P W = .ok (.slice base N cap) W →
    (∀ (k : Nat) (W : World), k < N → J (k + 1) W → ∃ (hv : Value) (ad : Addr) (v : Value), (loadVar ts pa).run P W = .ok hv W ∧ (Instr.indexAt ts hv (.int .i64 ((k : Nat) : Int))).run P W = .ok (.pointer (some ad)) W ∧
      (loadVar te ad).run P W = .ok v W ∧ YieldAt (Fen none) 0 P l #[.int .i64 ((k : Nat) : Int), v] W fun e W' => (e = .returned (.bool true) ∧ J k W') ∨ (e = .returned (.bool false) ∧ Jx W')) →
    J N W → CallsIn (Fen none) 0 P gf #[.func (.yield l) #[] #[], .pointer (some pa)] W fun e W' => (∃ v, e = .returned v) ∧ (J 0 W' ∨ Jx W')
structure CtxNat (C : Ctx) : Prop where
  nat : ∀ g F, fnOf C.fns g = some F → FnNat F
  pure : ∀ g F, fnOf C.fns g = some F → C.pures.contains g = true → FnPure F
  num : ∀ g F, fnOf C.fns g = some F → C.nums.contains g = true → FnNum F
  sl : ∀ g F, fnOf C.fns g = some F → C.slices.contains g = true → FnSl F
  its : ∀ gf ty, look C.iters gf = some ty → ItOk C.P gf ty.1 ty.2

section
variable {C : Ctx} {o : Oper} {st : St}

theorem evc_agree {st st' : St} {x : Operand} (h : ev st' x = ev st x) : evc st' x = evc st x := by simp only [evc, h]
theorem evs_agree {st st' : St} : ∀ {xs : List Operand}, (∀ x ∈ xs, ev st' x = ev st x) → evs st' xs = evs st xs
  | [], _ => rfl
  | x :: r, h => by simp only [evs, h x (by simp), evs_agree (xs := r) fun y hy => h y (by simp [hy])]
theorem evcs_agree {st st' : St} : ∀ {xs : List Operand}, (∀ x ∈ xs, ev st' x = ev st x) → evcs st' xs = evcs st xs
  | [], _ => rfl
  | x :: r, h => by simp only [evcs, evc_agree (h x (by simp)), evcs_agree (xs := r) fun y hy => h y (by simp [hy])]
theorem evParts_agree {st st' : St} : ∀ {xs : List (Nat × Operand)}, (∀ x ∈ xs, ev st' x.2 = ev st x.2) → evParts st' xs = evParts st xs
  | [], _ => rfl
  | (i, x) :: r, h => by simp only [evParts, h (i, x) (by simp), evParts_agree (xs := r) fun y hy => h y (by simp [hy])]
theorem evOpt_agree {st st' : St} : ∀ {x : Option Operand}, (∀ y, x = some y → ev st' y = ev st y) → evOpt st' x = evOpt st x
  | none, _ => rfl
  | some y, h => by simp only [evOpt, evc_agree (h y rfl)]

theorem get_agree {H H' : Heap} {id : Nat} (h : H'[id]? = H[id]?) (off : Nat) : H'.get id off = H.get id off := by simp only [Heap.get, h]
theorem getN_agree {H H' : Heap} {id : Nat} (h : H'[id]? = H[id]?) (off n : Nat) : H'.getN id off n = H.getN id off n := by simp only [Heap.getN, h]


theorem intOp_uni {R0 : Type} {op : BinOp} {k : IntKind} {x y : Int} {K0 : Cell → Option R0} {r0 : R0} (h : intOp op k x y K0 = some r0) : ∃ c, K0 c = some r0 ∧ ∀ (R : Type) (K : Cell → Option R), intOp op k x y K = K c := by
  cases op <;> simp only [intOp] at h ⊢ <;> first | exact ⟨_, h, fun _ _ => rfl⟩ | cases h | skip
  all_goals
    cases hy : (y == 0) with
    | true => rw [hy, cond_true] at h; cases h
    | false => rw [hy, cond_false] at h; exact ⟨_, h, fun _ _ => rfl⟩
theorem shiftOp_uni {R0 : Type} {op : BinOp} {k : IntKind} {x y : Int} {K0 : Cell → Option R0} {r0 : R0} (h : shiftOp op k x y K0 = some r0) : ∃ c, K0 c = some r0 ∧ ∀ (R : Type) (K : Cell → Option R), shiftOp op k x y K = K c := by
  cases op <;> simp only [shiftOp] at h ⊢ <;> first | cases h; done | skip
  all_goals
    cases hy : decide (y < 0) with
    | true => rw [hy, cond_true] at h; cases h
    | false => rw [hy, cond_false] at h; exact ⟨_, h, fun _ _ => rfl⟩
theorem strOp_uni {R0 : Type} {op : BinOp} {x y : ByteArray} {K0 : Cell → Option R0} {r0 : R0} (h : strOp op x y K0 = some r0) : ∃ c, K0 c = some r0 ∧ ∀ (R : Type) (K : Cell → Option R), strOp op x y K = K c := by
  cases op <;> simp only [strOp] at h ⊢ <;> first | exact ⟨_, h, fun _ _ => rfl⟩ | cases h | skip
  cases hy : decide (x.size + y.size ≤ most) with
  | true => rw [hy, cond_true] at h; exact ⟨_, h, fun _ _ => rfl⟩
  | false => rw [hy, cond_false] at h; cases h
theorem aggEq_uni {R0 : Type} {P : Program} {op : BinOp} {xt : TypeId} {x y : Operand} {K0 : Cell → Option R0} {r0 : R0} (h : aggEqA P st op xt x y K0 = some r0) :
    ∃ c, K0 c = some r0 ∧ ∀ st', ev st' x = ev st x → ev st' y = ev st y → ∀ (R : Type) (K : Cell → Option R), aggEqA P st' op xt x y K = K c := by
  unfold aggEqA at h ⊢
  simp only [Option.bind_eq_some_iff] at h
  obtain ⟨vx, hx, vy, hy, xs, h1, ys, h2, h⟩ := h
  cases hg : P.eqGuardType P.depth xt with
  | true => rw [hg, cond_true] at h; cases h
  | false =>
    rw [hg, cond_false] at h
    simp only [Option.bind_eq_some_iff] at h
    obtain ⟨b, hb, e, he, h⟩ := h
    exact ⟨_, h, fun st' e1 e2 R K => by simp only [e1, e2, hx, hy, h1, h2, Option.bind_some, cond_false, hb, he]⟩
theorem binA_uni {R0 : Type} {P : Program} {op : BinOp} {xt : TypeId} {x y : Operand} {K0 : Cell → Option R0} {r0 : R0} (h : binA P st op xt x y K0 = some r0) :
    ∃ c, K0 c = some r0 ∧ ∀ st', ev st' x = ev st x → ev st' y = ev st y → ∀ (R : Type) (K : Cell → Option R), binA P st' op xt x y K = K c := by
  unfold binA at h ⊢
  cases hu : P.underlying xt with
  | none => simp [hu] at h
  | some d =>
    rw [hu] at h
    cases d
    case int k =>
      simp only [Option.bind_eq_some_iff] at h
      obtain ⟨cx, hcx, cy, hcy, x', hx', h⟩ := h
      cases hs : asShift op with
      | true =>
        rw [hs, cond_true] at h
        simp only [Option.bind_eq_some_iff] at h
        obtain ⟨y', hy', h⟩ := h
        obtain ⟨c, h1, h2⟩ := shiftOp_uni h
        exact ⟨c, h1, fun st' e1 e2 R K => by simp only [evc_agree e1, evc_agree e2, hcx, hcy, Option.bind_some, hx', hy', cond_true, h2]⟩
      | false =>
        rw [hs, cond_false] at h
        simp only [Option.bind_eq_some_iff] at h
        obtain ⟨y', hy', h⟩ := h
        obtain ⟨c, h1, h2⟩ := intOp_uni h
        exact ⟨c, h1, fun st' e1 e2 R K => by simp only [evc_agree e1, evc_agree e2, hcx, hcy, Option.bind_some, hx', hy', cond_false, h2]⟩
    case string =>
      simp only [Option.bind_eq_some_iff] at h
      obtain ⟨cx, hcx, cy, hcy, x', hx', y', hy', h⟩ := h
      obtain ⟨c, h1, h2⟩ := strOp_uni h
      exact ⟨c, h1, fun st' e1 e2 R K => by simp only [evc_agree e1, evc_agree e2, hcx, hcy, Option.bind_some, hx', hy', h2]⟩
    case bool =>
      simp only [Option.bind_eq_some_iff] at h
      obtain ⟨cx, hcx, cy, hcy, x', hx', y', hy', e, he, h⟩ := h
      exact ⟨_, h, fun st' e1 e2 R K => by simp only [evc_agree e1, evc_agree e2, hcx, hcy, Option.bind_some, hx', hy', he]⟩
    case pointer e =>
      cases hy : nilOf y <;> rw [hy] at h <;> try (cases h; done)
      simp only [Option.bind_eq_some_iff] at h
      obtain ⟨cx, hcx, p, hp, e', he, h⟩ := h
      exact ⟨_, h, fun st' e1 e2 R K => by simp only [evc_agree e1, hcx, Option.bind_some, hp, he]⟩
    case slice e =>
      cases hy : nilOf y <;> rw [hy] at h <;> try (cases h; done)
      simp only [Option.bind_eq_some_iff] at h
      obtain ⟨cx, hcx, p, hp, e', he, h⟩ := h
      exact ⟨_, h, fun st' e1 e2 R K => by simp only [evc_agree e1, hcx, Option.bind_some, hp, he]⟩
    case map k e =>
      cases hy : nilOf y <;> rw [hy] at h <;> try (cases h; done)
      simp only [Option.bind_eq_some_iff] at h
      obtain ⟨cx, hcx, p, hp, e', he, h⟩ := h
      exact ⟨_, h, fun st' e1 e2 R K => by simp only [evc_agree e1, hcx, Option.bind_some, hp, he]⟩
    case func p q v =>
      cases hy : nilOf y <;> rw [hy] at h <;> try (cases h; done)
      simp only [Option.bind_eq_some_iff] at h
      obtain ⟨cx, hcx, p, hp, e', he, h⟩ := h
      exact ⟨_, h, fun st' e1 e2 R K => by simp only [evc_agree e1, hcx, Option.bind_some, hp, he]⟩
    case struct fs => exact aggEq_uni h
    case array n e => exact aggEq_uni h
    all_goals cases h

theorem partA_uni {R0 : Type} {P : Program} {t : TypeId} {cs : List Cell} {off : Nat} {K0 : AV → Option R0} {r0 : R0} (h : partA P t cs off K0 = some r0) : ∃ v, K0 v = some r0 ∧ nolp v = true ∧ ∀ (R : Type) (K : AV → Option R), partA P t cs off K = K v := by
  simp only [partA, Option.bind_eq_some_iff] at h
  obtain ⟨g, hg, n, hn, h⟩ := h
  cases g with
  | true =>
    rw [cond_true] at h
    cases hb : Nat.ble (off + n) cs.length with
    | true => rw [hb, cond_true] at h; exact ⟨_, h, rfl, fun R K => by simp only [partA, hg, hn, Option.bind_some, cond_true, hb]⟩
    | false => rw [hb, cond_false] at h; cases h
  | false =>
    simp only [cond_false, Option.bind_eq_some_iff] at h
    obtain ⟨c, hc, h⟩ := h
    exact ⟨_, h, rfl, fun R K => by simp only [partA, hg, hn, Option.bind_some, cond_false, hc]⟩
theorem destr_uni {R0 : Type} {n : Nat} {l : List Cell} {K0 : List Cell → Option R0} {r0 : R0} (h : destr n l K0 = some r0) : K0 l = some r0 ∧ ∀ (R : Type) (K : List Cell → Option R), destr n l K = K l := by
  induction n generalizing l K0 with
  | zero =>
    cases l with
    | nil => exact ⟨h, fun _ _ => rfl⟩
    | cons a l => cases h
  | succ n ih =>
    cases l with
    | nil => cases h
    | cons a l =>
      obtain ⟨h1, h2⟩ := ih h
      exact ⟨h1, fun R K => h2 R fun cs => K (a :: cs)⟩
theorem indexA_uni {R0 : Type} {P : Program} {t : TypeId} {x : AV} {i : Int} {K0 : AV → Option R0} {r0 : R0} (h : indexA P t x i K0 = some r0) : ∃ v, K0 v = some r0 ∧ ((∀ k off, x ≠ .lp k off) → nolp v = true) ∧ (∀ k off j o', x = .lp k off → v = .lp j o' → j = k) ∧ ∀ (R : Type) (K : AV → Option R), indexA P t x i K = K v := by
  unfold indexA at h ⊢
  split at h
  · simp only [Option.bind_eq_some_iff] at h
    obtain ⟨s, hs, h⟩ := h
    split at h
    · rename_i n _ _ _ _ _
      cases hb : inb i n with
      | true => rw [hb, cond_true] at h; exact ⟨_, h, fun hx => absurd rfl (hx _ _), (fun _ _ _ _ h1 h2 => by cases h1; cases h2; rfl), fun R K => by simp only [hs, Option.bind_some, cond_true]⟩
      | false => rw [hb, cond_false] at h; cases h
    · simp only [Option.bind_eq_some_iff] at h
      obtain ⟨p, hp, q, hq, h⟩ := h
      rename_i n _ _ _ _
      cases hb : inb i n with
      | true => rw [hb, cond_true] at h; exact ⟨_, h, fun _ => rfl, (fun _ _ _ _ h1 h2 => by cases h2), fun R K => by simp only [hs, Option.bind_some, hp, hq, cond_true]⟩
      | false => rw [hb, cond_false] at h; cases h
    · cases h
  · simp only [Option.bind_eq_some_iff] at h
    obtain ⟨s, hs, c, hc, sl, hsl, q, hq, h⟩ := h
    cases hb : (inb i q.len && q.esz == s) with
    | true => rw [hb, cond_true] at h; exact ⟨_, h, fun _ => rfl, (fun _ _ _ _ h1 h2 => by cases h2), fun R K => by simp only [hs, Option.bind_some, hc, hsl, hq, hb, cond_true]⟩
    | false => rw [hb, cond_false] at h; cases h
  · cases h
theorem sliceA_uni {R0 : Type} {P : Program} {t : TypeId} {x : AV} {lo hi : Option Int} {K0 : AV → Option R0} {r0 : R0} (h : sliceA P t x lo hi K0 = some r0) : ∃ v, K0 v = some r0 ∧ nolp v = true ∧ ∀ (R : Type) (K : AV → Option R), sliceA P t x lo hi K = K v := by
  unfold sliceA at h ⊢
  split at h
  · simp only [Option.bind_eq_some_iff] at h
    obtain ⟨c, hc, s, hs, r', hr', h⟩ := h
    exact ⟨_, h, rfl, fun R K => by simp only [hc, hs, hr', Option.bind_some]⟩
  · simp only [Option.bind_eq_some_iff] at h
    obtain ⟨n, hn, c, hc, s, hs, r', hr', h⟩ := h
    generalize hg : esOk s n = g at h
    cases g with
    | true => rw [cond_true] at h; exact ⟨_, h, rfl, fun R K => by simp only [hn, hc, hs, hr', Option.bind_some, hg, cond_true]⟩
    | false => rw [cond_false] at h; cases h
  · simp only [Option.bind_eq_some_iff] at h
    obtain ⟨s, hs, c, hc, p, hp, q, hq, r', hr', h⟩ := h
    exact ⟨_, h, rfl, fun R K => by simp only [hs, hc, hp, hq, hr', Option.bind_some]⟩
  · cases h
theorem minA_uni {R0 : Type} {op : Builtin} {k : IntKind} {cs : List Cell} : ∀ {a : Int} {K0 : Int → Option R0} {r0 : R0}, minA op k cs a K0 = some r0 → ∃ v, K0 v = some r0 ∧ ∀ (R : Type) (K : Int → Option R), minA op k cs a K = K v := by
  induction cs with
  | nil => intro a K0 r0 h; exact ⟨a, h, fun _ _ => rfl⟩
  | cons c cs ih =>
    intro a K0 r0 h
    simp only [minA, Option.bind_eq_some_iff] at h
    obtain ⟨b, hb, h⟩ := h
    obtain ⟨v, h1, h2⟩ := ih h
    exact ⟨v, h1, fun R K => by simp only [minA, hb, Option.bind_some]; exact h2 R K⟩
theorem unA_uni {R0 : Type} {op : UnOp} {c : Cell} {k : Option IntKind} {K0 : Cell → Option R0} {r0 : R0} (h : unA op c k K0 = some r0) : ∃ d, K0 d = some r0 ∧ ∀ (R : Type) (K : Cell → Option R), unA op c k K = K d := by
  unfold unA at h ⊢
  split at h
  · simp only [Option.bind_eq_some_iff] at h
    obtain ⟨b, hb, h⟩ := h
    exact ⟨_, h, fun R K => by simp only [hb, Option.bind_some]⟩
  · simp only [Option.bind_eq_some_iff] at h
    obtain ⟨b, hb, h⟩ := h
    exact ⟨_, h, fun R K => by simp only [hb, Option.bind_some]⟩
  · simp only [Option.bind_eq_some_iff] at h
    obtain ⟨b, hb, h⟩ := h
    exact ⟨_, h, fun R K => by simp only [hb, Option.bind_some]⟩
  · cases h
theorem keyOf_uni {R0 : Type} {P : Program} {kt : TypeId} {c : Cell} {K0 : Cell → Option R0} {r0 : R0} (h : keyOf P kt c K0 = some r0) : ∃ d, K0 d = some r0 ∧ ∀ (R : Type) (K : Cell → Option R), keyOf P kt c K = K d := by
  unfold keyOf at h ⊢
  split at h
  · simp only [Option.bind_eq_some_iff] at h
    obtain ⟨b, hb, h⟩ := h
    exact ⟨_, h, fun R K => by simp only [hb, Option.bind_some]⟩
  · simp only [Option.bind_eq_some_iff] at h
    obtain ⟨b, hb, h⟩ := h
    exact ⟨_, h, fun R K => by simp only [hb, Option.bind_some]⟩
  · cases h

theorem fill_of {H : Heap} {p : Nat} {b : Blk} (h : H[p]? = some .hole) : H.fill p b = some (H.set p b) := by unfold Heap.fill; rw [h]
theorem newB_uni {R0 : Type} {dst : Option Nat} {blk : Blk} {v : Nat → AV} (hv : ∀ id, nolp (v id) = true) (hblk : blk ≠ .hole) {K0 : St → Option R0} {r0 : R0} (h : newB C st dst blk (fun id st => K0 (st.set dst (v id))) = some r0) :
    ∃ e, K0 (app e dst st) = some r0 ∧ Fits (newFoot C dst) st dst e ∧ ∀ st', HeapOk (newFoot C dst) o st st' → ∀ (R : Type) (K : St → Option R), newB C st' dst blk (fun id st => K (st.set dst (v id))) = K (app e dst st') := by
  unfold newB newFoot at *
  cases hb : C.base with
  | none =>
    rw [hb] at h
    simp only at h
    refine ⟨.heap (v st.heap.length) (st.heap ++ [blk]), h, ⟨_, _, rfl, hv _⟩, fun st' hh R K => ?_⟩
    have hh : st'.heap = st.heap := hh
    simp only [St.push, hh]
    rfl
  | some n =>
    rw [hb] at h
    simp only [Option.bind_eq_some_iff] at h
    obtain ⟨d, hd, j, hj, H, hH, h⟩ := h
    obtain ⟨h1, rfl⟩ := fill_some hH
    have hf : dst.bind (look C.ranks) = some j := by rw [hd]; exact hj
    simp only [hf]
    refine ⟨.fill (v (n + j)) (n + j) blk, h, ⟨_, _, rfl, hv _, h1, hblk⟩, fun st' hh R K => ?_⟩
    have hh : st'.heap[n + j]? = st.heap[n + j]? := hh
    have := fill_of (b := blk) (hh.trans h1)
    subst hd
    simp only [Option.bind_some, hj, this]
    rfl
theorem allocA_uni {R0 : Type} {dst : Option Nat} {cs : List Cell} {K0 : St → Option R0} {r0 : R0} (h : allocA C st dst cs K0 = some r0) :
    ∃ e, K0 (app e dst st) = some r0 ∧ Fits (allocFoot C dst) st dst e ∧ ∀ st', HeapOk (allocFoot C dst) o st st' →
      (∀ d, dst = some d → C.own.contains d = true → clean d st.env = true → clean d st'.env = true) → ∀ (R : Type) (K : St → Option R), allocA C st' dst cs K = K (app e dst st') := by
  unfold allocA at h ⊢
  cases dst with
  | none => cases h
  | some d =>
    simp only at h ⊢
    cases ho : C.own.contains d with
    | true =>
      rw [ho, cond_true] at h
      cases hcl : clean d st.env with
      | false => rw [hcl, cond_false] at h; cases h
      | true =>
      rw [hcl, cond_true] at h
      exact ⟨.newl d cs, h, by rw [allocFoot, ho]; exact ⟨cs, rfl, rfl⟩, fun st' _ hc R K => by simp only [cond_true, hc d rfl ho hcl]; rfl⟩
    | false =>
      rw [ho, cond_false] at h
      obtain ⟨e, h1, h2, h3⟩ := newB_uni (o := o) (dst := some d) (v := fun id => .c (.ptr (some (id, 0)))) (fun _ => rfl) (by simp) h
      refine ⟨e, h1, by rw [allocFoot, ho]; exact h2, fun st' hh _ R K => ?_⟩
      rw [allocFoot, ho] at hh
      rw [cond_false]
      exact h3 st' hh R K

end
end Go.Proofs.YtnipccoenalnkaaGreat.Ab
