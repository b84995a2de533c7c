/- The abstract machine, 15: operations that do not meet change places. -/
import Derived.Test.YtnipccoenalnkaaGreatAb14
namespace Go.Proofs.YtnipccoenalnkaaGreat.Ab
open Go
set_option linter.unusedVariables false
set_option linter.unusedSimpArgs false

section
variable {C : Ctx} {ops : Array Oper}

/-- The same state, its list of temporaries perhaps shorter. -/
structure Sim (s t : St) : Prop where
  env : ∀ x, look s.env x = look t.env x
  loc : ∀ k, look s.loc k = look t.loc k
  heap : s.heap = t.heap
  sub : ∀ p, p ∈ t.env → p ∈ s.env
theorem Sim.refl (s : St) : Sim s s := ⟨fun _ => rfl, fun _ => rfl, rfl, fun _ h => h⟩
theorem Sim.trans {a b c : St} (h : Sim a b) (k : Sim b c) : Sim a c :=
  ⟨fun x => (h.env x).trans (k.env x), fun x => (h.loc x).trans (k.loc x), h.heap.trans k.heap, fun p hp => h.sub p (k.sub p hp)⟩

theorem clean_mem {k : Nat} : ∀ {env : List (Nat × AV)}, clean k env = true ↔ ∀ t off, (t, AV.lp k off) ∉ env
  | [] => by simp [clean]
  | (t, x) :: r => by
    have ih := clean_mem (k := k) (env := r)
    cases x with
    | lp j o =>
      simp only [clean, Bool.and_eq_true, ih, Bool.not_eq_true', beq_eq_false_iff_ne, ne_eq, List.mem_cons, not_or, Prod.mk.injEq, AV.lp.injEq]
      constructor
      · rintro ⟨h1, h2⟩ t' off
        exact ⟨fun h => h1 h.2.1.symm, h2 t' off⟩
      · intro h
        exact ⟨fun hj => (h t o).1 ⟨rfl, hj.symm, rfl⟩, fun t' off => (h t' off).2⟩
    | c x => simp [clean, ih]
    | agg x => simp [clean, ih]
    | tup x => simp [clean, ih]
theorem clean_sub {k : Nat} {e e' : List (Nat × AV)} (h : clean k e = true) (hs : ∀ p, p ∈ e' → p ∈ e) : clean k e' = true :=
  clean_mem.2 fun t off hm => clean_mem.1 h t off (hs _ hm)

theorem ev_look {s t : St} {x : Operand} (h : ∀ d, x = .tmp d → look s.env d = look t.env d) : ev s x = ev t x := by
  cases x with
  | tmp d => exact h d rfl
  | _ => rfl
theorem foot_ev {s t : St} {o : Oper} (h : ∀ x ∈ o.op.operands.toList, ev t x = ev s x) : foot C t o = foot C s o := by
  obtain ⟨dst, op, type, pos, after, guard⟩ := o
  cases op <;> try rfl
  case pick c x y => simp only [foot, h x (by simp [Op.operands]), h y (by simp [Op.operands])]
  case call c =>
    obtain ⟨callee, cargs, cts⟩ := c
    cases callee with
    | value f =>
      have e : evs t cargs.toList = evs s cargs.toList := evs_agree fun x hx => h x (by simp [Op.operands, Call.operands]; exact .inr (by simpa using hx))
      simp only [foot, h f (by simp [Op.operands, Call.operands]), e]
    | builtin b => cases b <;> rfl
    | invoke a b => rfl
  case convert sd d x => simp only [foot, evc_agree (h x (by simp [Op.operands]))]
  all_goals (simp only [foot, operandFoot]; rw [h _ (by simp [Op.operands])])
theorem Sim.agree {s t : St} (h : Sim s t) (o : Oper) : Agree C o s t where
  ev x _ := ev_look fun d _ => (h.env d).symm
  loc k _ := (h.loc k).symm
  clean k _ hc := clean_sub hc h.sub
  heap := by cases foot C s o <;> first | exact h.heap.symm | (simp only [HeapOk]; intro _ _; rw [h.heap]; done) | (simp only [HeapOk]; rw [h.heap]; done) | trivial
theorem Agree.trans {o : Oper} {s t u : St} (h : Agree C o s t) (k : Agree C o t u) : Agree C o s u := by
  have hf : foot C t o = foot C s o := foot_ev h.ev
  refine ⟨fun x hx => (k.ev x hx).trans (h.ev x hx), fun j hj => (k.loc j (by rw [hf]; exact hj)).trans (h.loc j hj), fun j hj hc => k.clean j (by rw [hf]; exact hj) (h.clean j hj hc), ?_⟩
  have h1 := h.heap
  have h2 := k.heap
  rw [hf] at h2
  generalize foot C s o = f at h1 h2
  cases f <;> simp only [HeapOk] at h1 h2 ⊢
  case hl => rw [h2, h1]
  case hp => rw [h2, h1]
  case hs => exact fun sl e => by rw [h2 sl e, h1 sl e]
  case hq => rw [h2, h1]
  case ha => rw [h2, h1]
  case hw => rw [h2, h1]
theorem Agree.refl (o : Oper) (s : St) : Agree C o s s := (Sim.refl s).agree o

/-- Is an operation to be carried out? -/
def Want (ops : Array Oper) (o : Oper) (s : St) : Prop :=
  o.guard = none ∨ ∃ j want t, o.guard = some (j, want) ∧ (ops[j]?).bind (·.dst) = some t ∧ look s.env t = some (.c (.bool want))
def Wont (ops : Array Oper) (o : Oper) (s : St) : Prop :=
  ∃ j want t, o.guard = some (j, want) ∧ (ops[j]?).bind (·.dst) = some t ∧ (look s.env t = some (.tup []) ∨ look s.env t = some (.c (.bool (!want))))
/-- An operation's effect. -/
def GStep (C : Ctx) (ops : Array Oper) (o : Oper) (s : St) (e : Eff) : Prop :=
  (Want ops o s ∧ Fits (foot C s o) s o.dst e ∧ ∀ t, Agree C o s t → ∀ (R : Type) (K : St → Option R), astep C o t K = K (app e o.dst t)) ∨ (Wont ops o s ∧ e = .val undefA)

theorem mem_looksAt {o : Oper} {d : Nat} (h : d ∉ o.looksAt ops) : ∀ x ∈ o.op.operands.toList, x ≠ .tmp d := by
  rintro x hx rfl
  exact h (List.mem_append_left _ (List.mem_filterMap.2 ⟨.tmp d, hx, rfl⟩))
theorem guard_looksAt {o : Oper} {d j t : Nat} {want : Bool} (h : d ∉ o.looksAt ops) (hg : o.guard = some (j, want)) (ht : (ops[j]?).bind (·.dst) = some t) : t ≠ d := by
  rintro rfl
  refine h (List.mem_append_right _ ?_)
  simp [hg, ht]

theorem look_app {e : Eff} {dst : Option Nat} {s : St} {x : Nat} (hd : ∀ d, dst = some d → x ≠ d) (hn : ∀ k cs, e = .newl k cs → dst = some k) : look (app e dst s).env x = look s.env x := by
  cases e with
  | val v => cases dst with
    | none => rfl
    | some d => simp only [app, St.set, look_cons]; rw [if_neg (Ne.symm (hd d rfl))]
  | heap v H => cases dst with
    | none => rfl
    | some d => simp only [app, St.set, St.withHeap, look_cons]; rw [if_neg (Ne.symm (hd d rfl))]
  | fill v p b => cases dst with
    | none => rfl
    | some d => simp only [app, St.set, St.withHeap, look_cons]; rw [if_neg (Ne.symm (hd d rfl))]
  | sto k cs => cases dst with
    | none => rfl
    | some d => simp only [app, St.set, look_cons]; rw [if_neg (Ne.symm (hd d rfl))]
  | newl k cs => simp only [app, newLocal, look_cons]; rw [if_neg (Ne.symm (hd k (hn k cs rfl)))]
theorem Fits.newl {f : Foot} {s : St} {dst : Option Nat} {e : Eff} (h : Fits f s dst e) : ∀ k cs, e = .newl k cs → dst = some k := by
  intro k cs he
  subst he
  cases f <;> simp only [Fits] at h
  all_goals first
    | (obtain ⟨v, h⟩ := h; cases h; done)
    | (obtain ⟨v, h, _⟩ := h; cases h; done)
    | (obtain ⟨v, b, h, _⟩ := h; cases h; done)
    | (obtain ⟨cs', h1, h2⟩ := h; cases h1; exact h2)
theorem GStep.newl {o : Oper} {s : St} {e : Eff} (h : GStep C ops o s e) : ∀ k cs, e = .newl k cs → o.dst = some k := by
  rcases h with ⟨_, h, _⟩ | ⟨_, h⟩
  · exact h.newl
  · intro k cs he; rw [h] at he; cases he

theorem Want.look {o : Oper} {s t : St} (h : Want ops o s) (hl : ∀ j want x, o.guard = some (j, want) → (ops[j]?).bind (·.dst) = some x → look t.env x = look s.env x) : Want ops o t := by
  rcases h with h | ⟨j, want, x, h1, h2, h3⟩
  · exact .inl h
  · exact .inr ⟨j, want, x, h1, h2, by rw [hl j want x h1 h2]; exact h3⟩
theorem Wont.look {o : Oper} {s t : St} (h : Wont ops o s) (hl : ∀ j want x, o.guard = some (j, want) → (ops[j]?).bind (·.dst) = some x → look t.env x = look s.env x) : Wont ops o t := by
  obtain ⟨j, want, x, h1, h2, h3⟩ := h
  exact ⟨j, want, x, h1, h2, by rw [hl j want x h1 h2]; exact h3⟩

/-- A step goes over to a state that the operation cannot tell apart. -/
theorem GStep.over {o : Oper} {s t : St} {e : Eff} (h : GStep C ops o s e) (ha : Agree C o s t) (hh : foot C s o = .ha → t.heap = s.heap)
    (hl : ∀ j want x, o.guard = some (j, want) → (ops[j]?).bind (·.dst) = some x → look t.env x = look s.env x) : GStep C ops o t e ∧ foot C t o = foot C s o := by
  have hf : foot C t o = foot C s o := foot_ev ha.ev
  refine ⟨?_, hf⟩
  rcases h with ⟨h1, h2, h3⟩ | ⟨h1, h2⟩
  · refine .inl ⟨h1.look hl, ?_, fun u hu R K => h3 u (ha.trans hu) R K⟩
    rw [hf]
    have hag := ha.heap
    cases hfo : foot C s o <;> rw [hfo] at h2 hag <;> simp only [Fits] at h2 ⊢ <;> try exact h2
    · rw [hh hfo]
      exact h2
    · obtain ⟨v, b, q1, q2, q3, q4⟩ := h2
      exact ⟨v, b, q1, q2, hag.trans q3, q4⟩
  · exact .inr ⟨h1.look hl, h2⟩

theorem Sim.step {o : Oper} {s t : St} {e : Eff} (hs : Sim s t) (h : GStep C ops o s e) : GStep C ops o t e ∧ foot C t o = foot C s o :=
  h.over (hs.agree o) (fun _ => hs.heap.symm) fun _ _ x _ _ => (hs.env x).symm

theorem look_setLoc_congr {k : Nat} {cs : List Cell} {l l' : List (Nat × List Cell)} (h : ∀ j, look l j = look l' j) (j : Nat) : look (setLoc k cs l) j = look (setLoc k cs l') j := by
  rw [look_setLoc, look_setLoc, h j]
theorem Sim.set {s t : St} (h : Sim s t) (d : Option Nat) (v : AV) : Sim (s.set d v) (t.set d v) := by
  cases d with
  | none => exact h
  | some d =>
    refine ⟨fun x => ?_, h.loc, h.heap, fun p hp => ?_⟩
    · simp only [St.set, look_cons, h.env x]
    · simp only [St.set, List.mem_cons] at hp ⊢
      exact hp.imp id (h.sub p)
theorem Sim.app {s t : St} (h : Sim s t) (e : Eff) (d : Option Nat) : Sim (app e d s) (app e d t) := by
  cases e with
  | val v => exact h.set d v
  | heap v H => exact Sim.set (s := s.withHeap H) (t := t.withHeap H) ⟨h.env, h.loc, rfl, h.sub⟩ d v
  | fill v p b => exact Sim.set (s := s.withHeap (s.heap.set p b)) (t := t.withHeap (t.heap.set p b)) ⟨h.env, h.loc, by show s.heap.set p b = t.heap.set p b; rw [h.heap], h.sub⟩ d v
  | sto k cs => exact Sim.set (s := { s with loc := setLoc k cs s.loc }) (t := { t with loc := setLoc k cs t.loc }) ⟨h.env, look_setLoc_congr h.loc, h.heap, h.sub⟩ d _
  | newl k cs =>
    refine ⟨fun x => ?_, look_setLoc_congr h.loc, h.heap, fun p hp => ?_⟩
    · simp only [Ab.app, newLocal, look_cons, h.env x]
    · simp only [Ab.app, newLocal, List.mem_cons] at hp ⊢
      exact hp.imp id (h.sub p)

/-- Operations one behind the other, each with its foot. -/
inductive Run (C : Ctx) (ops : Array Oper) : St → List (Foot × Oper) → St → Prop
  | nil (s : St) : Run C ops s [] s
  | cons {s s' : St} {o : Oper} {e : Eff} {l : List (Foot × Oper)} (h : GStep C ops o s e) (t : Run C ops (app e o.dst s) l s') : Run C ops s ((tagF (foot C s o) s.heap (app e o.dst s).heap, o) :: l) s'
theorem Run.over {l : List (Foot × Oper)} : ∀ {s t s' : St}, Run C ops s l s' → Sim s t → ∃ t', Run C ops t l t' ∧ Sim s' t' := by
  induction l with
  | nil => intro s t s' h hs; cases h; exact ⟨t, .nil t, hs⟩
  | cons p l ih =>
    intro s t s' h hs
    cases h with
    | cons h1 h2 =>
      obtain ⟨h3, h4⟩ := hs.step h1
      obtain ⟨t', h5, h6⟩ := ih h2 (hs.app _ _)
      rename_i o e
      refine ⟨t', ?_, h6⟩
      have hm : tagF (foot C s o) s.heap (app e o.dst s).heap = tagF (foot C t o) t.heap (app e o.dst t).heap := by rw [h4, hs.heap, (hs.app e o.dst).heap]
      rw [hm]
      exact .cons h3 h5

/-- Every pointer to the heap points to a block. -/
def WF (s : St) : Prop := ∀ t id off, look s.env t = some (.c (.ptr (some (id, off)))) → id < s.heap.length ∧ s.heap[id]? ≠ some .hole

def added (e : Eff) (dst : Option Nat) : List (Nat × AV) :=
  match e, dst with
  | .newl d _, _ => [(d, .lp d 0)]
  | .val v, some d => [(d, v)]
  | .heap v _, some d => [(d, v)]
  | .fill v _ _, some d => [(d, v)]
  | .sto _ _, some d => [(d, .tup [])]
  | _, none => []
theorem env_app (e : Eff) (dst : Option Nat) (s : St) : (app e dst s).env = added e dst ++ s.env := by
  cases e <;> cases dst <;> rfl
def effHeap (e : Eff) (H : Heap) : Heap := match e with | .heap _ H' => H' | .fill _ p b => H.set p b | _ => H
theorem heap_app (e : Eff) (dst : Option Nat) (s : St) : (app e dst s).heap = effHeap e s.heap := by
  cases e <;> cases dst <;> rfl
def effLoc (e : Eff) (l : List (Nat × List Cell)) : List (Nat × List Cell) := match e with | .sto k cs => setLoc k cs l | .newl k cs => setLoc k cs l | _ => l
theorem loc_app (e : Eff) (dst : Option Nat) (s : St) : (app e dst s).loc = effLoc e s.loc := by
  cases e <;> cases dst <;> rfl
theorem added_key {e : Eff} {dst : Option Nat} (hn : ∀ k cs, e = .newl k cs → dst = some k) : added e dst = [] ∨ ∃ d v, dst = some d ∧ added e dst = [(d, v)] := by
  cases e with
  | newl k cs => exact .inr ⟨k, _, hn k cs rfl, rfl⟩
  | val v => cases dst with
    | none => exact .inl rfl
    | some d => exact .inr ⟨d, _, rfl, rfl⟩
  | heap v H => cases dst with
    | none => exact .inl rfl
    | some d => exact .inr ⟨d, _, rfl, rfl⟩
  | fill v p b => cases dst with
    | none => exact .inl rfl
    | some d => exact .inr ⟨d, _, rfl, rfl⟩
  | sto k cs => cases dst with
    | none => exact .inl rfl
    | some d => exact .inr ⟨d, _, rfl, rfl⟩

/-- What a step may have done. -/
inductive Kind (f : Foot) (s : St) (dst : Option Nat) (e : Eff) : Prop
  | val (v : AV) (h : e = .val v) (hl : ∀ k off, v = .lp k off → f = .lr k ∨ f = .bad)
  | ha (v : AV) (b : Blk) (h : e = .heap v (s.heap ++ [b])) (hf : f = .ha) (hl : nolp v = true)
  | hw (v : AV) (H : Heap) (h : e = .heap v H) (hf : f = .hw) (hl : nolp v = true)
  | lw (k : Nat) (cs : List Cell) (h : e = .sto k cs) (hf : f = .lw k)
  | la (k : Nat) (cs : List Cell) (h : e = .newl k cs) (hf : f = .la k)
  | hp (v : AV) (p j : Nat) (b : Blk) (h : e = .fill v p b) (hf : f = .hp p j) (hl : nolp v = true) (ho : s.heap[p]? = some .hole) (hb : b ≠ .hole)
theorem GStep.kind {o : Oper} {s : St} {e : Eff} (h : GStep C ops o s e) : Kind (foot C s o) s o.dst e := by
  rcases h with ⟨_, h, _⟩ | ⟨_, h⟩
  · cases hf : foot C s o <;> rw [hf] at h <;> simp only [Fits] at h
    case ha => obtain ⟨v, b, h, hl⟩ := h; exact .ha v b h rfl hl
    case hw => obtain ⟨v, H, h, hl⟩ := h; exact .hw v H h rfl hl
    case lw k => obtain ⟨cs, h⟩ := h; exact .lw k cs h rfl
    case la k => obtain ⟨cs, h, _⟩ := h; exact .la k cs h rfl
    case hp p j => obtain ⟨v, b, h, hl, ho, hb⟩ := h; exact .hp v p j b h rfl hl ho hb
    case bad => obtain ⟨v, h⟩ := h; exact .val v h fun _ _ _ => .inr rfl
    case lr k => obtain ⟨v, h, hl⟩ := h; exact .val v h fun j o' he => .inl (by rw [hl j o' he])
    all_goals obtain ⟨v, h, hl⟩ := h; exact .val v h fun _ _ he => by subst he; simp [nolp] at hl
  · exact .val _ h fun _ _ he => by cases he

theorem ev_ptr {s : St} {x : Operand} {id off : Nat} (h : ev s x = some (.c (.ptr (some (id, off))))) : ∃ t, x = .tmp t ∧ look s.env t = some (.c (.ptr (some (id, off)))) := by
  cases x with
  | tmp t => exact ⟨t, rfl, h⟩
  | const v =>
    exfalso
    have h : constAV v = some (.c (.ptr (some (id, off)))) := h
    unfold constAV at h
    split at h
    · simp at h
    · simp only [Option.map_eq_some_iff, AV.c.injEq] at h
      obtain ⟨c, h1, h2⟩ := h
      unfold constCell at h1
      split at h1 <;> simp at h1 <;> subst h1 <;> cases h2
  | func f => simp [ev] at h
  | «global» g => simp [ev] at h

theorem compat_loc {f : Foot} {k j : Nat} (h : f.compat (.lw k) = true ∨ f.compat (.la k) = true ∨ (Foot.lw k).compat f = true ∨ (Foot.la k).compat f = true) (hf : f = .lr j ∨ f = .lw j) : k ≠ j := by
  rintro rfl
  rcases hf with rfl | rfl <;> rcases h with h | h | h | h <;> simp [Foot.compat] at h

theorem slEq_spec {a b : Option Sl} : slEq a b = true ↔ a = b := by
  cases a <;> cases b <;> simp [slEq]
  rename_i a b
  cases a; cases b
  simp
theorem strEq_spec {a b : ByteArray} : strEq a b = true ↔ a = b := by
  unfold strEq
  rw [beq_iff_eq]
  constructor
  · intro h
    cases a; cases b
    simp only at h
    rw [Array.toList_inj.1 h]
  · rintro rfl; rfl
mutual
theorem eqb_spec : ∀ (a b : Cell), a.eqb b = true ↔ a = b
  | .bool a, b => by cases b <;> simp [Cell.eqb]
  | .int k a, b => by cases b <;> simp [Cell.eqb]
  | .str a, b => by cases b <;> simp [Cell.eqb, strEq_spec]
  | .ptr a, b => by cases b <;> simp [Cell.eqb]
  | .slice a, b => by cases b <;> simp [Cell.eqb, slEq_spec]
  | .map a, b => by cases b <;> simp [Cell.eqb]
  | .fn f a c, b => by
    cases b <;> simp [Cell.eqb, eqbs_spec a, eqbs_spec c]
  | .nilFn, b => by cases b <;> simp [Cell.eqb]
theorem eqbs_spec : ∀ (a b : List Cell), eqbs a b = true ↔ a = b
  | [], b => by cases b <;> simp [eqbs]
  | x :: l, b => by
    cases b with
    | nil => simp [eqbs]
    | cons y m => simp [eqbs, eqb_spec x y, eqbs_spec l m]
end
theorem tveqb_spec (a b : TV) : a.eqb b = true ↔ a = b := by
  cases a <;> cases b <;> simp [TV.eqb, eqb_spec, eqbs_spec]
theorem entsEq_spec : ∀ (a b : List (Cell × TV × Nat)), entsEq a b = true ↔ a = b
  | [], [] => by simp [entsEq]
  | [], _ :: _ => by simp [entsEq]
  | _ :: _, [] => by simp [entsEq]
  | (a, b, c) :: l, (d, e, f) :: m => by simp [entsEq, eqb_spec, tveqb_spec, entsEq_spec l m, and_assoc]
theorem blkEq_spec (a b : Blk) : a.eqb b = true ↔ a = b := by
  cases a <;> cases b <;> simp [Blk.eqb, eqbs_spec, entsEq_spec, and_comm]
theorem same_iff {k : Nat} {H H' : Heap} : same k H H' = true ↔ H'[k]? = H[k]? := by
  unfold same
  cases H[k]? with
  | none => cases H'[k]? <;> simp
  | some a =>
    cases H'[k]? with
    | none => simp
    | some b => rw [Option.some.injEq]; exact (blkEq_spec a b).trans eq_comm
theorem same_spec {k : Nat} {H H' : Heap} (h : same k H H' = true) : H'[k]? = H[k]? := same_iff.1 h
theorem foot_hl {s : St} {o : Oper} {k : Nat} (h : foot C s o = .hl k) : ∃ x off, ev s x = some (.c (.ptr (some (k, off)))) := by
  obtain ⟨dst, op, type, pos, after, guard⟩ := o
  have hop : ∀ x : Operand, operandFoot s x .no .lr ≠ .hl k := by
    intro x h
    unfold operandFoot at h
    split at h <;> cases h
  have hnf : ∀ d, newFoot C d ≠ .hl k := by
    intro d h
    unfold newFoot at h
    split at h
    · cases h
    · split at h <;> cases h
  have hal : ∀ d, allocFoot C d ≠ .hl k := by
    intro d h
    unfold allocFoot at h
    cases d with
    | none => exact hnf _ h
    | some d =>
      simp only at h
      cases hc : C.own.contains d <;> rw [hc] at h
      · exact hnf _ h
      · cases h
  have hlen : ∀ ts, lenFoot C.P ts ≠ .hl k := by
    intro ts h
    unfold lenFoot at h
    split at h
    · split at h <;> cases h
    · cases h
  cases op <;> simp only [foot] at h <;> first | (cases h; done) | exact absurd h (hop _) | exact absurd h (hal _) | exact absurd h (hnf _) | skip
  case load t x =>
    split at h
    · cases h
    · rename_i id off he
      cases h
      exact ⟨x, off, he⟩
    · cases h
    · cases h
  all_goals (repeat' split at h) <;> first | (cases h; done) | exact absurd h (hnf _) | exact absurd h (hlen _) | skip
  all_goals first | (unfold operandFoot at h; split at h <;> cases h; done) | (simp only [cond_eq_ite] at h; (repeat' split at h) <;> cases h; done)
theorem newFoot_hp {dst : Option Nat} {p j : Nat} (h : newFoot C dst = .hp p j) : ∃ n, C.base = some n ∧ p = n + j := by
  unfold newFoot at h
  split at h
  · cases h
  · rename_i n hb
    split at h
    · cases h; exact ⟨n, hb, rfl⟩
    · cases h
theorem foot_hp {s : St} {o : Oper} {p j : Nat} (h : foot C s o = .hp p j) : ∃ n, C.base = some n ∧ p = n + j := by
  obtain ⟨dst, op, type, pos, after, guard⟩ := o
  have hop : ∀ x : Operand, operandFoot s x .no .lr ≠ .hp p j := by
    intro x h
    unfold operandFoot at h
    split at h <;> cases h
  have hop2 : ∀ x : Operand, operandFoot s x .hw .lw ≠ .hp p j := by
    intro x h
    unfold operandFoot at h
    split at h <;> cases h
  have hal : ∀ d, allocFoot C d = .hp p j → ∃ n, C.base = some n ∧ p = n + j := by
    intro d h
    unfold allocFoot at h
    cases d with
    | none => exact newFoot_hp h
    | some d =>
      simp only at h
      cases hc : C.own.contains d <;> rw [hc] at h
      · exact newFoot_hp h
      · cases h
  cases op <;> simp only [foot] at h <;> first | (cases h; done) | exact absurd h (hop _) | exact absurd h (hop2 _) | exact hal _ h | exact newFoot_hp h | skip
  case call c =>
    obtain ⟨callee, cargs, cts⟩ := c
    cases callee with
    | value f => 
      simp only at h
      split at h
      · simp only [cond_eq_ite] at h
        (repeat' split at h) <;> cases h
      · cases h
    | builtin b =>
      cases b <;> simp only at h <;> first | (cases h; done) | skip
      unfold lenFoot at h
      split at h
      · split at h <;> cases h
      · cases h
    | invoke a b => cases h
  case convert sd d x =>
    split at h <;> first | (cases h; done) | exact newFoot_hp h | skip
    split at h <;> cases h
  all_goals (repeat' split at h) <;> first | (cases h; done) | skip
theorem tag_loc {f : Foot} {X Y : Heap} {k : Nat} (h : f = .lr k ∨ f = .lw k) : tagF f X Y = .lr k ∨ tagF f X Y = .lw k := by
  rcases h with rfl | rfl
  · exact .inl rfl
  · exact .inr rfl
/-- One operation behind another is as it would be ahead of it. -/
theorem ahead {o1 o2 : Oper} {s : St} {e1 : Eff} (hw : WF s) (h1 : GStep C ops o1 s e1) {f2 : Foot} (hf2 : f2 = foot C s o2)
    {X Y : Heap} (hc : (tagF (foot C s o1) s.heap (app e1 o1.dst s).heap).compat (tagF f2 X Y) = true ∨ (tagF f2 X Y).compat (tagF (foot C s o1) s.heap (app e1 o1.dst s).heap) = true) (hl : ∀ d, o1.dst = some d → d ∉ o2.looksAt ops) :
    (∀ x ∈ o2.op.operands.toList, ev (app e1 o1.dst s) x = ev s x) ∧
    (∀ k, f2 = .lr k ∨ f2 = .lw k → look (app e1 o1.dst s).loc k = look s.loc k) ∧
    HeapOk f2 o2 s (app e1 o1.dst s) ∧
    (∀ j want x, o2.guard = some (j, want) → (ops[j]?).bind (·.dst) = some x → look (app e1 o1.dst s).env x = look s.env x) := by
  refine ⟨fun x hx => ev_look fun d hd => ?_, fun k hk => ?_, ?_, fun j want x hg hx => ?_⟩
  · subst hd
    exact look_app (fun d' hd' => fun e => mem_looksAt (hl d' hd') _ hx (by rw [e])) h1.newl
  · rw [loc_app]
    rcases h1.kind with ⟨v, rfl, _⟩ | ⟨v, b, rfl, hf, _⟩ | ⟨v, H, rfl, hf, _⟩ | ⟨k', cs, rfl, hf⟩ | ⟨k', cs, rfl, hf⟩ | ⟨v, p, j, b, rfl, _⟩
    rotate_left 5
    · rfl
    · rfl
    · rfl
    · rfl
    · simp only [effLoc, look_setLoc]
      rw [if_neg (compat_loc (by rw [hf] at hc; rcases hc with hc | hc; exact .inr (.inr (.inl hc)); exact .inl hc) (tag_loc hk))]
    · simp only [effLoc, look_setLoc]
      rw [if_neg (compat_loc (by rw [hf] at hc; rcases hc with hc | hc; exact .inr (.inr (.inr hc)); exact .inr (.inl hc)) (tag_loc hk))]
  · have hh := heap_app e1 o1.dst s
    rcases h1.kind with ⟨v, rfl, _⟩ | ⟨v, b, rfl, hf, _⟩ | ⟨v, H, rfl, hf, _⟩ | ⟨k', cs, rfl, hf⟩ | ⟨k', cs, rfl, hf⟩ | ⟨v, p, j, b, rfl, hf, _, ho, _⟩ <;> simp only [effHeap] at hh
    rotate_left 5
    · rw [hf] at hc
      cases f2 <;> simp [tagF, Foot.compat] at hc <;> simp only [HeapOk]
      · rename_i q i
        obtain ⟨n, hb, rfl⟩ := foot_hp hf
        obtain ⟨n', hb', rfl⟩ := foot_hp hf2.symm
        rw [hb] at hb'; cases hb'
        rw [hh, List.getElem?_set_ne (by omega)]
      · rename_i k
        obtain ⟨x, off, he⟩ := foot_hl hf2.symm
        obtain ⟨t, rfl, ht⟩ := ev_ptr he
        have hne : p ≠ k := by rintro rfl; exact (hw t p off ht).2 ho
        rw [hh, List.getElem?_set_ne hne]
      · intro sl e
        subst e
        have hne : p ≠ sl.id := by rintro rfl; simp [slOff] at hc
        rw [hh, List.getElem?_set_ne hne]
    · cases f2 <;> simp only [HeapOk] <;> first | exact hh | (intro _ _; rw [hh]; done) | rw [hh]
    · rw [hf] at hc
      cases f2 <;> simp [tagF, Foot.compat] at hc <;> simp only [HeapOk]
      rename_i k
      obtain ⟨x, off, he⟩ := foot_hl hf2.symm
      obtain ⟨t, rfl, ht⟩ := ev_ptr he
      rw [hh, List.getElem?_append_left (hw t k off ht).1]
    · rw [hf] at hc
      clear hf2
      cases f2 <;> simp [tagF, Foot.compat] at hc <;> simp only [HeapOk]
      all_goals first | trivial | (intro sl e; subst e; rw [hh] at hc ⊢; exact same_spec hc) | (intro sl e; subst e; rw [hh]; exact same_spec hc) | (rw [hh] at hc ⊢; exact same_spec hc) | (rw [hh]; exact same_spec hc)
    · cases f2 <;> simp only [HeapOk] <;> first | exact hh | (intro _ _; rw [hh]; done) | rw [hh]
    · cases f2 <;> simp only [HeapOk] <;> first | exact hh | (intro _ _; rw [hh]; done) | rw [hh]
  · exact look_app (fun d' hd' => guard_looksAt (hl d' hd') hg hx) h1.newl

/-- Two operations change places. -/
theorem swap {o1 o2 : Oper} {s : St} {e1 e2 : Eff} (hw : WF s) (h1 : GStep C ops o1 s e1) (h2 : GStep C ops o2 (app e1 o1.dst s) e2)
    (hc : (tagF (foot C s o1) s.heap (app e1 o1.dst s).heap).compat (tagF (foot C (app e1 o1.dst s) o2) (app e1 o1.dst s).heap (app e2 o2.dst (app e1 o1.dst s)).heap) = true) (ha : Oper.apart ops o2 o1 = true) :
    GStep C ops o2 s e2 ∧ tagF (foot C s o2) s.heap (app e2 o2.dst s).heap = tagF (foot C (app e1 o1.dst s) o2) (app e1 o1.dst s).heap (app e2 o2.dst (app e1 o1.dst s)).heap ∧ GStep C ops o1 (app e2 o2.dst s) e1 ∧ tagF (foot C (app e2 o2.dst s) o1) (app e2 o2.dst s).heap (app e1 o1.dst (app e2 o2.dst s)).heap = tagF (foot C s o1) s.heap (app e1 o1.dst s).heap ∧
      Sim (app e2 o2.dst (app e1 o1.dst s)) (app e1 o1.dst (app e2 o2.dst s)) := by
  obtain ⟨hA, hB, hC⟩ := Oper.apart_spec ha
  have hev : ∀ x ∈ o2.op.operands.toList, ev (app e1 o1.dst s) x = ev s x := fun x hx => ev_look fun d hd => by
    subst hd
    exact look_app (fun d' hd' => fun e => mem_looksAt (hC d' hd') _ hx (by rw [e])) h1.newl
  have hf2 : foot C s o2 = foot C (app e1 o1.dst s) o2 := (foot_ev hev).symm
  obtain ⟨_, a2, a3, a4⟩ := ahead (f2 := foot C s o2) hw h1 rfl (.inl (hf2 ▸ hc)) hC
  have ht2 : tagF (foot C s o2) s.heap (app e2 o2.dst s).heap = tagF (foot C (app e1 o1.dst s) o2) (app e1 o1.dst s).heap (app e2 o2.dst (app e1 o1.dst s)).heap := by
    have a3' := a3
    rw [← hf2]
    generalize foot C s o2 = f at a3'
    cases f <;> first | rfl | (simp only [HeapOk] at a3'; simp only [heap_app (dst := o2.dst), a3'])
  -- the second one, ahead
  have g2 : GStep C ops o2 s e2 ∧ foot C s o2 = foot C (app e1 o1.dst s) o2 := by
    refine h2.over ⟨fun x hx => (hev x hx).symm, fun k hk => (a2 k (by rw [hf2]; exact hk)).symm, fun k _ hcl => clean_sub hcl fun p hp => by rw [env_app]; exact List.mem_append_right _ hp, ?_⟩ (fun hh => ?_) fun j want x hg hx => (a4 j want x hg hx).symm
    · rw [hf2] at a3
      generalize foot C (app e1 o1.dst s) o2 = f at a3
      cases f <;> simp only [HeapOk] at a3 ⊢
      case hl => exact a3.symm
      case hp => exact a3.symm
      case hs => exact fun sl e => (a3 sl e).symm
      case hq => exact a3.symm
      case ha => exact a3.symm
      case hw => exact a3.symm
    · rw [hf2, hh] at a3
      exact a3.symm
  obtain ⟨g2, _⟩ := g2
  -- the first one, behind
  obtain ⟨b1, b2, b3, b4⟩ := ahead (o1 := o2) (o2 := o1) (f2 := foot C s o1) hw g2 rfl (.inr (ht2 ▸ hc)) hA
  have ht1 : foot C (app e2 o2.dst s) o1 = foot C s o1 → tagF (foot C (app e2 o2.dst s) o1) (app e2 o2.dst s).heap (app e1 o1.dst (app e2 o2.dst s)).heap = tagF (foot C s o1) s.heap (app e1 o1.dst s).heap := by
    intro hf
    rw [hf]
    generalize foot C s o1 = f at b3
    cases f <;> first | rfl | (simp only [HeapOk] at b3; simp only [heap_app (dst := o1.dst), b3])
  have g1 : GStep C ops o1 (app e2 o2.dst s) e1 ∧ foot C (app e2 o2.dst s) o1 = foot C s o1 := by
    refine h1.over ⟨b1, b2, fun k hk hcl => ?_, b3⟩ (fun hh => by rw [hh] at b3; exact b3) b4
    rw [env_app]
    refine clean_mem.2 fun t off hm => ?_
    rcases List.mem_append.1 hm with hm | hm
    · -- what the second one adds is no address of the first one's new block
      have hv : ∀ v : AV, (t, AV.lp k off) ∈ (match o2.dst with | some d => [(d, v)] | none => ([] : List (Nat × AV))) → v = .lp k off := by
        intro v hm
        cases hd : o2.dst with
        | none => rw [hd] at hm; cases hm
        | some d => rw [hd] at hm; simp at hm; exact hm.2.symm
      rcases g2.kind with ⟨v, rfl, hl⟩ | ⟨v, b, rfl, hf, hl⟩ | ⟨v, H, rfl, hf, hl⟩ | ⟨k', cs, rfl, hf⟩ | ⟨k', cs, rfl, hf⟩ | ⟨v, p, j, b, rfl, hf, hl, _⟩
      rotate_left 5
      · have := hv v (by
          cases hd : o2.dst with
          | none => simp [added, hd] at hm
          | some d => simpa [added, hd] using hm)
        subst this; simp [nolp] at hl
      · have := hv v (by
          cases hd : o2.dst with
          | none => simp [added, hd] at hm
          | some d => simpa [added, hd] using hm)
        rcases hl _ _ this with hf | hf <;> rw [← hf2, hk, hf] at hc <;> simp [tagF, Foot.compat] at hc
      · have := hv v (by
          cases hd : o2.dst with
          | none => simp [added, hd] at hm
          | some d => simpa [added, hd] using hm)
        subst this; simp [nolp] at hl
      · have := hv v (by
          cases hd : o2.dst with
          | none => simp [added, hd] at hm
          | some d => simpa [added, hd] using hm)
        subst this; simp [nolp] at hl
      · cases hd : o2.dst <;> simp [added, hd] at hm
      · simp only [added, List.mem_singleton, Prod.mk.injEq, AV.lp.injEq] at hm
        obtain ⟨_, rfl, _⟩ := hm
        rw [← hf2, hk, hf] at hc
        simp [tagF, Foot.compat] at hc
    · exact clean_mem.1 hcl t off hm
  obtain ⟨g1, hf1⟩ := g1
  refine ⟨g2, ht2, g1, ht1 hf1, ⟨fun x => ?_, fun k => ?_, ?_, fun p hp => ?_⟩⟩
  · rw [env_app, env_app, env_app, env_app]
    rcases added_key h1.newl with k1 | ⟨d1, v1, hd1, k1⟩
    · rw [k1]; simp
    · rcases added_key g2.newl with k2 | ⟨d2, v2, hd2, k2⟩
      · rw [k2]; simp
      · rw [k1, k2]
        have hne : d2 ≠ d1 := by rintro rfl; exact hB d2 hd2 hd1
        simp only [List.cons_append, List.nil_append, look_cons]
        by_cases hx2 : d2 = x
        · subst hx2; simp [Ne.symm hne]
        · simp [hx2]
  · simp only [loc_app]
    rcases h1.kind with ⟨v, rfl, _⟩ | ⟨v, b, rfl, q1, _⟩ | ⟨v, H, rfl, q1, _⟩ | ⟨k1, cs, rfl, q1⟩ | ⟨k1, cs, rfl, q1⟩ | ⟨v, p1, j1, b, rfl, q1, _, ho1, _⟩ <;>
      rcases g2.kind with ⟨v', rfl, _⟩ | ⟨v', b', rfl, q2, _⟩ | ⟨v', H', rfl, q2, _⟩ | ⟨k2, cs', rfl, q2⟩ | ⟨k2, cs', rfl, q2⟩ | ⟨v', p2, j2, b', rfl, q2, _, ho2, _⟩ <;> simp only [effLoc, look_setLoc]
    all_goals
      rw [← hf2, q1, q2] at hc
      simp [tagF, Foot.compat] at hc
      by_cases hk1 : k1 = k
      · subst hk1; simp [Ne.symm hc]
      · simp [hk1]
  · simp only [heap_app]
    rcases h1.kind with ⟨v, rfl, _⟩ | ⟨v, b, rfl, q1, _⟩ | ⟨v, H, rfl, q1, _⟩ | ⟨k1, cs, rfl, q1⟩ | ⟨k1, cs, rfl, q1⟩ | ⟨v, p1, j1, b, rfl, q1, _, ho1, _⟩ <;>
      rcases g2.kind with ⟨v', rfl, _⟩ | ⟨v', b', rfl, q2, _⟩ | ⟨v', H', rfl, q2, _⟩ | ⟨k2, cs', rfl, q2⟩ | ⟨k2, cs', rfl, q2⟩ | ⟨v', p2, j2, b', rfl, q2, _, ho2, _⟩ <;> simp only [effHeap]
    all_goals
      rw [← hf2, q1, q2] at hc
      simp [tagF, Foot.compat] at hc
    obtain ⟨n, hb, rfl⟩ := foot_hp q1
    obtain ⟨n', hb', rfl⟩ := foot_hp q2
    rw [hb] at hb'; cases hb'
    exact List.set_comm _ _ (by omega)
  · simp only [env_app, List.mem_append] at hp ⊢
    rcases hp with hp | hp | hp
    · exact .inr (.inl hp)
    · exact .inl hp
    · exact .inr (.inr hp)

end
end Go.Proofs.YtnipccoenalnkaaGreat.Ab
