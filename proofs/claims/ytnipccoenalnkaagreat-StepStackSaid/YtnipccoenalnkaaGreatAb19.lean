/- The abstract machine, 19: callees, one after the other; how a law ends. -/
import Derived.Test.YtnipccoenalnkaaGreatAb18
import Derived.WalkKit
import Derived.ProofKit
import Derived.OpenShut
namespace Go.Proofs.YtnipccoenalnkaaGreat.Ab
open Go Go.ChangeShapes Go.WideShapes Go.ChangeAt Go.RowKit
set_option linter.unusedVariables false
set_option linter.unusedSimpArgs false

/-- A callee that neither reads nor writes memory. -/
def numF (f : List TV → Option (List TV)) : FnSem := fun _ args H K => (f args).bind fun vs => K (oneOf vs) H
theorem nolp_one (vs : List TV) : nolp (oneOf vs) = true := by
  unfold oneOf
  split
  · rename_i v; cases v <;> rfl
  · rfl
theorem numF_num (f : List TV → Option (List TV)) : FnNum (numF f) := by
  intro args
  refine ⟨(f args).map oneOf, ?_, ?_⟩
  · intro v hv
    simp only [Option.map_eq_some_iff] at hv
    obtain ⟨vs, _, rfl⟩ := hv
    exact nolp_one vs
  · intro H R K
    simp only [numF]
    cases f args <;> rfl
/-- The same, for some arguments alone. -/
def numG (g : List TV → Bool) (f : List TV → Option (List TV)) : FnSem := fun _ args H K => bif g args then (f args).bind fun vs => K (oneOf vs) H else none
theorem numG_num (g : List TV → Bool) (f : List TV → Option (List TV)) : FnNum (numG g f) := by
  intro args
  obtain ⟨q, h1, h2⟩ := numF_num f args
  cases hg : g args with
  | true => exact ⟨q, h1, fun H R K => by simp only [numG, hg, cond_true]; exact h2 H R K⟩
  | false => exact ⟨none, (fun v hv => nomatch hv), fun H R K => by simp only [numG, hg, cond_false, Option.bind_none]⟩
theorem num_pure {F : FnSem} (h : FnNum F) : FnPure F := by
  intro args H
  obtain ⟨q, h1, h2⟩ := h args
  exact ⟨q, h1, fun R K => h2 H R K⟩
theorem pure_nat {F : FnSem} (h : FnPure F) : FnNat F := by
  intro args H
  obtain ⟨q, h1, h2⟩ := h args H
  refine ⟨q.map fun v => (v, H), ?_, ?_⟩
  · rintro p hp
    simp only [Option.map_eq_some_iff] at hp
    obtain ⟨v, hv, rfl⟩ := hp
    exact h1 v hv
  · intro R K
    rw [h2]
    cases q <;> rfl

/-- Callees that do as they say. -/
structure Callees (P : Program) (fns : List (Nat × FnSem)) (pures nums : List Nat) : Prop where
  ok : ∀ g F, fnOf fns g = some F → FnOk P g F
  nat : ∀ g F, fnOf fns g = some F → FnNat F
  pure : ∀ g F, fnOf fns g = some F → pures.contains g = true → FnPure F
  num : ∀ g F, fnOf fns g = some F → nums.contains g = true → FnNum F
theorem Callees.nil (P : Program) : Callees P [] [] [] := ⟨fun g F h => by simp [fnOf, look] at h, fun g F h => by simp [fnOf, look] at h, fun g F h => by simp [fnOf, look] at h, fun g F h => by simp [fnOf, look] at h⟩
theorem fnOf_cons {fns : List (Nat × FnSem)} {g g' : Nat} {F F' : FnSem} (h : fnOf ((g, F) :: fns) g' = some F') : (g' = g ∧ F' = F) ∨ (g' ≠ g ∧ fnOf fns g' = some F') := by
  simp only [fnOf, look] at h
  by_cases hg : g = g'
  · subst hg
    simp at h
    exact .inl ⟨rfl, h.symm⟩
  · have : (g == g') = false := by simpa using hg
    rw [this] at h
    exact .inr ⟨fun e => hg e.symm, h⟩
theorem Callees.cons {P : Program} {fns : List (Nat × FnSem)} {pures nums : List Nat} (h : Callees P fns pures nums) {g : Nat} {F : FnSem} (h1 : FnOk P g F) (h2 : FnNat F) : Callees P ((g, F) :: fns) (pures.filter (· != g)) (nums.filter (· != g)) where
  ok g' F' e := by
    rcases fnOf_cons e with ⟨rfl, rfl⟩ | ⟨_, e⟩
    · exact h1
    · exact h.ok g' F' e
  nat g' F' e := by
    rcases fnOf_cons e with ⟨rfl, rfl⟩ | ⟨_, e⟩
    · exact h2
    · exact h.nat g' F' e
  pure g' F' e hc := by
    rcases fnOf_cons e with ⟨rfl, rfl⟩ | ⟨_, e⟩
    · simp at hc
    · exact h.pure g' F' e (by simp at hc ⊢; exact hc.1)
  num g' F' e hc := by
    rcases fnOf_cons e with ⟨rfl, rfl⟩ | ⟨_, e⟩
    · simp at hc
    · exact h.num g' F' e (by simp at hc ⊢; exact hc.1)
theorem Callees.cons_num {P : Program} {fns : List (Nat × FnSem)} {pures nums : List Nat} (h : Callees P fns pures nums) {g : Nat} {F : FnSem} (h1 : FnOk P g F) (h2 : FnNum F) : Callees P ((g, F) :: fns) pures (g :: nums) where
  ok g' F' e := by
    rcases fnOf_cons e with ⟨rfl, rfl⟩ | ⟨_, e⟩
    · exact h1
    · exact h.ok g' F' e
  nat g' F' e := by
    rcases fnOf_cons e with ⟨rfl, rfl⟩ | ⟨_, e⟩
    · exact pure_nat (num_pure h2)
    · exact h.nat g' F' e
  pure g' F' e hc := by
    rcases fnOf_cons e with ⟨rfl, rfl⟩ | ⟨_, e⟩
    · exact num_pure h2
    · exact h.pure g' F' e hc
  num g' F' e hc := by
    rcases fnOf_cons e with ⟨rfl, rfl⟩ | ⟨hne, e⟩
    · exact h2
    · exact h.num g' F' e (by simpa [hne] using hc)
theorem Callees.env {C : Ctx} {fns : List (Nat × FnSem)} {pures nums : List Nat} (h : Callees C.P fns pures nums) (hf : C.fns = fns) : EnvOk C := fun g F e => h.ok g F (hf ▸ e)
theorem Callees.ctx {C : Ctx} {fns : List (Nat × FnSem)} {pures nums : List Nat} (h : Callees C.P fns pures nums) (hf : C.fns = fns) (hp : C.pures = pures) (hn : C.nums = nums) (hs : C.slices = [] := by rfl) (hi : C.iters = [] := by rfl) : CtxNat C :=
  ⟨fun g F e => h.nat g F (hf ▸ e), fun g F e c => h.pure g F (hf ▸ e) (hp ▸ c), fun g F e c => h.num g F (hf ▸ e) (hn ▸ c), (fun g F e c => by rw [hs] at c; cases c), fun gf ty h => by rw [hi] at h; cases h⟩
/-- A context with closures of slices.Backward. -/
theorem Callees.ctxI {C : Ctx} {fns : List (Nat × FnSem)} {pures nums : List Nat} (h : Callees C.P fns pures nums) (hf : C.fns = fns) (hp : C.pures = pures) (hn : C.nums = nums) (hi : ∀ gf ty, look C.iters gf = some ty → ItOk C.P gf ty.1 ty.2) (hs : C.slices = [] := by rfl) : CtxNat C :=
  ⟨fun g F e => h.nat g F (hf ▸ e), fun g F e c => h.pure g F (hf ▸ e) (hp ▸ c), fun g F e c => h.num g F (hf ▸ e) (hn ▸ c), (fun g F e c => by rw [hs] at c; cases c), hi⟩

/-- A law that leaves all old blocks as they were, and all its arguments with them. -/
theorem post_below {H : Type} {enc : TypeId × Value → H} {P : Program} {f : Func} {s : ChangeSpec} {apart fresh handsOn again : Bool} {W W' : World} {args : Array Value} {v : Value} {ds gs : List (DataW H)} {before pa pv : List MemPlace}
    (hW : DataW.Whole enc P f.params.toList s.vars apart W args.toList ds gs before)
    (hres : ∀ (b : Nat) (sp : Nat → Bool) (hd : Bool), DataW.TrodAll enc P W' b sp hd f.resultTypes.toList (v.resultList f.resultTypes.size) (s.fn H (ds ++ gs)).results [])
    (hargs : ∀ sp : Nat → Bool, (∀ p ∈ before, sp p.block = true) → DataW.TrodAll enc P W' 0 sp true f.params.toList args.toList (s.fn H (ds ++ gs)).args pa)
    (hvars : ∀ sp : Nat → Bool, (∀ p ∈ before, sp p.block = true) → DataW.TrodVars enc P W' sp s.vars (s.fn H (ds ++ gs)).vars pv)
    (hps : before = pa ++ pv) (hb : Below W.heap.size W W')
    (hok : ∀ (j : Nat) (t : TypeId) (r : Value), f.resultTypes[j]? = some t → (v.resultList f.resultTypes.size)[j]? = some r → Value.okWide P W' .any 0 t r) :
    s.post enc P f apart fresh handsOn again W args v W' := by
  have hold : ∀ p ∈ before, (fun b => decide (b < W.heap.size)) p.block = true := fun p hp => by simpa using hW.lt p hp
  have hlt := hW.lt
  refine ⟨ds, gs, before, [], pa, pv, hW, hres _ _ _, hargs _ hold, hvars _ hold, World.keptBut_mono (fun p hp => ⟨hp, ?_⟩) (hb.frame (· ∈ before)), fun _ => ?_⟩
  · rw [hps, List.mem_append] at hp
    exact Or.inr hp
  · obtain ⟨_, _, _, _, _, hz, hn⟩ := hW
    refine ⟨hok, _, _, ([] ++ pa) ++ pv, ⟨[] ++ pa, pv, trodAll_append (hargs _ (fun _ _ => rfl)) (hres _ _ _), hvars _ (fun _ _ => rfl), rfl, ?_, ?_⟩, ?_⟩
    · intro b off hp
      have hp' : MemPlace.cell b off ∈ before := by rw [hps]; simpa using hp
      rw [hb.frozen (hlt _ hp')]
      exact hz b off hp'
    · intro ha
      have := hn ha
      rw [hps] at this
      simpa using this
    · intro p hp _
      rw [hps]
      simpa using hp

theorem HR.empty (w : World) : HR (fun _ => none) [] w where
  row id cs ro h := by simp at h
  mapR id es clock h := by simp at h
  inj i j b o m o' m' h := by rcases h with ⟨_, h⟩ | ⟨_, _, h⟩ <;> simp at h
  sep i j b o m b' o' m' h := by rcases h with ⟨_, h⟩ | ⟨_, _, h⟩ <;> simp at h
  fresh _ _ := rfl
  inw _ _ _ _ h := by cases h
  hole _ _ := rfl
theorem own_empty {ρ : Rho} : ∀ b, ¬ Own ρ [] b := by
  rintro b ⟨i, o, m, h, _⟩
  rcases h with ⟨_, h⟩ | ⟨_, _, h⟩ <;> simp at h

end Go.Proofs.YtnipccoenalnkaaGreat.Ab
