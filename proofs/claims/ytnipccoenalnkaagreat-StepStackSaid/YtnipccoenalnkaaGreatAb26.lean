/- The abstract machine, 26: functions with a heap, by what they come to. -/
import Derived.Test.YtnipccoenalnkaaGreatAb25
namespace Go.Proofs.YtnipccoenalnkaaGreat.Ab
open Go
set_option linter.unusedVariables false
set_option linter.unusedSimpArgs false

section
variable {C : Ctx}
theorem fnA_uni (hN : CtxNat C) {rs : List ResultVar} {c : Code} {args : List TV} {H : Heap} {R0 : Type} {K0 : AV → Heap → Option R0} {r0 : R0} (h : fnA C rs c R0 args H K0 = some r0) :
    ∃ v H', K0 v H' = some r0 ∧ ∀ (R : Type) (K : AV → Heap → Option R), fnA C rs c R args H K = K v H' := by
  obtain ⟨e, s, h1, h2⟩ := exec_uni hN c R0 r0 _ _ (show exec C c _ (retA C rs K0) = some r0 from h)
  have h3 : ∀ (R : Type) (K : AV → Heap → Option R), fnA C rs c R args H K = retA C rs K e s := fun R K => h2 R _
  cases e with
  | exit id => cases h1
  | normal =>
    obtain ⟨vs, h4, h5⟩ := resultsA_uni _ _ h1
    exact ⟨oneOf vs, s.heap, h4, fun R K => by rw [h3 R K]; exact h5 R _⟩
  | ret =>
    obtain ⟨vs, h4, h5⟩ := resultsA_uni _ _ h1
    exact ⟨oneOf vs, s.heap, h4, fun R K => by rw [h3 R K]; exact h5 R _⟩
/-- A function's results, read as typed data. -/
def decF {α : Type} (dec : AV → Option α) : AV → Heap → Option (α × Heap) := fun v H => (dec v).map fun r => (r, H)
/-- A typed function as a callee. -/
def specF {α : Type} (enc : α → List TV) (S : List TV → Heap → Option (α × Heap)) : FnSem := fun _ args H K => (S args H).bind fun p => K (oneOf (enc p.1)) p.2
theorem specF_nat {α : Type} (enc : α → List TV) (S : List TV → Heap → Option (α × Heap)) : FnNat (specF enc S) := by
  intro args H
  refine ⟨(S args H).map fun p => (oneOf (enc p.1), p.2), ?_, ?_⟩
  · intro p hp
    simp only [Option.map_eq_some_iff] at hp
    obtain ⟨q, _, rfl⟩ := hp
    exact nolp_one _
  · intro R K
    simp only [specF]
    cases S args H <;> rfl
/-- A function does what its body comes to, its results being read as typed data. -/
theorem spec_okN {g : Nat} {fn : Func} {c : Code} (hE : EnvOk C) (hN : CtxNat C) (hm : C.P.follows .mixedOrders = true)
    (hf : C.P.funcs[g]? = some fn) (hb : fn.body = some c) (hname : (fn.name == "runtime.NumGoroutine") = false) (hnt : C.nt ≤ fn.ntmps) {α : Type} (dec : AV → Option α) (enc : α → List TV)
    (hde : ∀ v r, dec v = some r → v = oneOf (enc r)) (S : List TV → Heap → Option (α × Heap)) (hS : ∀ args H q, S args H = some q → fnA C fn.results.toList c (α × Heap) args H (decF dec) = some q) : FnOk C.P g (specF enc S) := by
  refine fn_ok hE hN hm hf hb hname hnt fun R args H K r h => ?_
  simp only [specF, Option.bind_eq_some_iff] at h
  obtain ⟨⟨x, H'⟩, hq, h⟩ := h
  have hx := hS args H _ hq
  obtain ⟨v, H1, k1, k2⟩ := fnA_uni hN hx
  simp only [decF, Option.map_eq_some_iff, Prod.mk.injEq] at k1
  obtain ⟨y, hy, rfl, rfl⟩ := k1
  rw [k2, hde v _ hy]
  exact h
theorem spec_ok {g : Nat} {fn : Func} {c : Code} {fns : List (Nat × FnSem)} {pures nums : List Nat} (hC : Callees C.P fns pures nums) (h1 : C.fns = fns) (h2 : C.pures = pures) (h3 : C.nums = nums) (hm : C.P.follows .mixedOrders = true)
    (hf : C.P.funcs[g]? = some fn) (hb : fn.body = some c) (hname : (fn.name == "runtime.NumGoroutine") = false) (hnt : C.nt ≤ fn.ntmps) {α : Type} (dec : AV → Option α) (enc : α → List TV)
    (hde : ∀ v r, dec v = some r → v = oneOf (enc r)) (S : List TV → Heap → Option (α × Heap)) (hS : ∀ args H q, S args H = some q → fnA C fn.results.toList c (α × Heap) args H (decF dec) = some q) (h4 : C.slices = [] := by rfl) (h5 : C.iters = [] := by rfl) : FnOk C.P g (specF enc S) :=
  spec_okN (hC.env h1) (hC.ctx h1 h2 h3 h4 h5) hm hf hb hname hnt dec enc hde S hS
/-- A function does what its body does (its callees as listed). -/
theorem own_ok {g : Nat} {fn : Func} {c : Code} {fns : List (Nat × FnSem)} {pures nums : List Nat} (hC : Callees C.P fns pures nums) (h1 : C.fns = fns) (h2 : C.pures = pures) (h3 : C.nums = nums) (hm : C.P.follows .mixedOrders = true)
    (hf : C.P.funcs[g]? = some fn) (hb : fn.body = some c) (hname : (fn.name == "runtime.NumGoroutine") = false) (hnt : C.nt ≤ fn.ntmps) (h4 : C.slices = [] := by rfl) (h5 : C.iters = [] := by rfl) : FnOk C.P g (natF (runS C fn.results.toList c)) :=
  runS_ok (hC.env h1) (hC.ctx h1 h2 h3 h4 h5) hm hf hb hname hnt
/-- A function of no arguments that comes to true on the empty heap returns true, and the heap is as it was. -/
def trueF : FnSem := numF fun args => match args with | [] => some [.c (.bool true)] | _ => none
theorem trueF_num : FnNum trueF := numF_num _
theorem closed_ok {g : Nat} {fn : Func} {c : Code} {fns : List (Nat × FnSem)} {pures nums : List Nat} (hC : Callees C.P fns pures nums) (h1 : C.fns = fns) (h2 : C.pures = pures) (h3 : C.nums = nums) (hm : C.P.follows .mixedOrders = true)
    (hf : C.P.funcs[g]? = some fn) (hb : fn.body = some c) (hname : (fn.name == "runtime.NumGoroutine") = false) (hnt : C.nt ≤ fn.ntmps)
    (hrun : fnA C fn.results.toList c Bool [] [] (fun x _ => x.cell.bind Cell.toBool) = some true) (h4 : C.slices = [] := by rfl) (h5 : C.iters = [] := by rfl) : FnOk C.P g trueF := by
  intro R args H K r h ρ w args' hH hargs rd o a next Q hn
  unfold trueF numF at h
  cases args with
  | cons x xs => cases h
  | nil =>
    have hK : K (.c (.bool true)) H = some r := h
    cases args' with
    | mk l =>
      have hl : l = [] := by cases hargs; rfl
      subst hl
      rw [callFunc_enter hf hb hname, Oper.uponIn_enter]
      refine ⟨(fun h => by cases h), CallsIn.mono (callsR rd (law_in (hC.env h1) (hC.ctx h1 h2 h3 h4 h5) hm hf hb hnt hrun (HR.empty w) .nil own_empty)) fun e w'' he => ?_⟩
      obtain ⟨rfl, hbel⟩ := he
      have hsame : ∀ b, b < w.heap.size → w''.heap[b]? = w.heap[b]? := fun b hb => hbel.block b hb
      exact hn (.c (.bool true)) H ρ (.bool true) w'' hK (hH.congr hbel.size fun id b o' m hi _ => hsame b (hH.inw id b o' m hi)) (.c (.bool true))
        ⟨Rho.le_refl ρ, hbel.size, fun b hb _ => hsame b hb, fun b hb => .inl hb, fun id b o' m hi => .inl hi, hbel.os, hbel.tape, hbel.output⟩
end
end Go.Proofs.YtnipccoenalnkaaGreat.Ab
