/- The abstract machine, 16: regions that draw their order. -/
import Derived.Test.YtnipccoenalnkaaGreatAb15
import Derived.OrdersIn
namespace Go.Proofs.YtnipccoenalnkaaGreat.Ab
open Go
set_option linter.unusedVariables false
set_option linter.unusedSimpArgs false

section
variable {C : Ctx} {ops : Array Oper}

theorem wp_some {P : Program} {o : Oper} {a : Act} {w : World} {next : Act → World → Prop} (h : o.wpIn (Fen none) 0 P a w next fun _ _ _ => False) : ∃ a' w', next a' w' := by
  replace h := h.2
  generalize (o.semAt (Fen none).round a.eval).run P w = r at h
  cases r with
  | ok n w' =>
    cases n <;> simp only [Oper.uponIn] at h
    case value v => exact ⟨_, _, h⟩
    case skip => exact ⟨_, _, h⟩
    case defer d => exact ⟨_, _, h⟩
    case enter f args =>
      obtain ⟨e, w'', fr, h1, _⟩ := h.2.2 [] (room_fen _ _)
      cases e with
      | returned v => exact ⟨_, _, h1⟩
      | panicked c => exact h1.elim
      | outgrown => obtain ⟨_, _, h2⟩ := h1; exact h2.elim
    case row row args =>
      obtain ⟨v, w'', h1, _⟩ := h.2 default [] (room_fen _ _)
      exact ⟨_, _, h1⟩
    case round l f tmps assign body =>
      obtain ⟨e, w'', h1, _⟩ := h.2.2 default [] (room_fen _ _)
      cases e with
      | returned v => exact ⟨_, _, h1⟩
      | panicked c => exact h1.elim
      | outgrown => obtain ⟨_, _, h2⟩ := h1; exact h2.elim
  | halt x w' =>
    cases x <;> simp only [Oper.uponIn] at h

/-- There is a frame in memory for the state. -/
def Live (C : Ctx) (s : St) : Prop := ∃ ρ L a w, SR C.nt ρ L s a w
theorem Live.wf {s : St} (h : Live C s) : WF s := by
  obtain ⟨ρ, L, a, w, h⟩ := h
  intro t id off ht
  obtain ⟨u, _, hr⟩ := h.env t _ ht
  cases hr with
  | c hr => cases hr with
    | ptr hr => exact ⟨h.heap.lt hr, fun hh => by rw [h.heap.hole _ hh] at hr; cases hr⟩

theorem undef_ar {ρ : Rho} {L : Nat → Option Nat} : AR ρ L undefA undef := .tup .nil
theorem wont_wanted {ρ : Rho} {L : Nat → Option Nat} {s : St} {a : Act} {w : World} {o : Oper} (hs : SR C.nt ρ L s a w) (h : Wont ops o s) : Region.wanted o (yielded ops a.tmps) = false := by
  obtain ⟨j, want, t, hg, ht, hl⟩ := h
  unfold Region.wanted yielded
  simp only [hg, ht, Option.bind_some]
  rcases hl with hl | hl
  · obtain ⟨u, hu, hr⟩ := hs.env t _ hl
    rw [hu]
    cases hr with
    | tup hr => rfl
  · obtain ⟨u, hu, hr⟩ := hs.env t _ hl
    rw [hu]
    cases hr with
    | c hr => cases hr; cases want <;> rfl
theorem want_wanted {ρ : Rho} {L : Nat → Option Nat} {s : St} {a : Act} {w : World} {o : Oper} (hs : SR C.nt ρ L s a w) (h : Want ops o s) : Region.wanted o (yielded ops a.tmps) = true := by
  rcases h with h | ⟨j, want, t, hg, ht, hl⟩
  · unfold Region.wanted; simp [h]
  · unfold Region.wanted yielded
    simp only [hg, ht, Option.bind_some]
    obtain ⟨u, hu, hr⟩ := hs.env t _ hl
    rw [hu]
    cases hr with
    | c hr => cases hr; cases want <;> rfl

theorem gstep_ok (hE : EnvOk C) {s : St} {o : Oper} {e : Eff} {i : Nat} (g : GStep C ops o s e) (hd : inRange C.nt o.dst = true) (hi : ops[i]? = some o)
    {rd : Option Nat} {ρ : Rho} {L : Nat → Option Nat} {a : Act} {w : World} {Q : Exit → Act → World → Prop} {next : Act → World → Prop} (hs : SR C.nt ρ L s a w)
    (hn : Follows C (fun s => some s) (app e o.dst s) ρ L s a w next) : wpOpIn (Fen rd) 0 C.P ops Q i next a w := by
  unfold wpOpIn
  simp only [hi]
  rcases g with ⟨g1, _, g3⟩ | ⟨g1, g2⟩
  · rw [want_wanted hs g1]
    simp only [if_true]
    exact astep_ok hE (g3 s (Agree.refl o s) St fun s => some s) rd ρ L a w next Q hs hd hn
  · rw [wont_wanted hs g1]
    simp only [Bool.false_eq_true, if_false]
    subst g2
    exact ⟨fun _ _ => trivial, hn ρ L _ _ _ rfl (hs.set hd undef_ar) (by
      have : Ch ρ L (app (Eff.val undefA) o.dst s) = Ch ρ L s := by
        cases hdd : o.dst <;> rfl
      rw [this]; exact Fr.refl _ _ _) (by unfold Act.put; split <;> rfl)⟩
theorem Live.step (hE : EnvOk C) {s : St} {o : Oper} {e : Eff} (h : Live C s) (g : GStep C ops o s e) (hd : inRange C.nt o.dst = true) : Live C (app e o.dst s) := by
  obtain ⟨ρ, L, a, w, hs⟩ := h
  rcases g with ⟨g1, _, g3⟩ | ⟨g1, g2⟩
  · obtain ⟨a', w', h⟩ := wp_some (astep_ok hE (g3 s (Agree.refl o s) St fun s => some s) none ρ L a w (fun a' w' => ∃ ρ' L', SR C.nt ρ' L' (app e o.dst s) a' w') _ hs hd
      fun ρ' L' st' a' w' h1 h2 _ _ => ⟨ρ', L', by simp at h1; subst h1; exact h2⟩)
    obtain ⟨ρ', L', h⟩ := h
    exact ⟨ρ', L', a', w', h⟩
  · subst g2
    exact ⟨ρ, L, _, w, hs.set hd undef_ar⟩

theorem bubble (hE : EnvOk C) {f : Foot} {o : Oper} {l2 : List (Foot × Oper)} : ∀ {l1 : List (Foot × Oper)} {s sf : St}, Run C ops s (l1 ++ (f, o) :: l2) sf → Live C s →
    (∀ p ∈ l1, p.1.compat f = true ∧ Oper.apart ops o p.2 = true ∧ inRange C.nt p.2.dst = true) → ∃ sf', Run C ops s ((f, o) :: (l1 ++ l2)) sf' ∧ Sim sf sf'
  | [], s, sf, h, _, _ => ⟨sf, h, Sim.refl sf⟩
  | p :: l1, s, sf, h, hl, hp => by
    cases h with
    | cons g1 t =>
      rename_i o1 e1
      obtain ⟨hp1, hp2, hp3⟩ := hp _ (List.mem_cons_self ..)
      obtain ⟨sf1, h1, h2⟩ := bubble hE t (hl.step hE g1 hp3) fun p h => hp p (List.mem_cons_of_mem _ h)
      cases h1 with
      | cons g2 t2 =>
        rename_i e2
        obtain ⟨k1, k2, k3, k4, k5⟩ := swap hl.wf g1 g2 hp1 hp2
        obtain ⟨sf2, h3, h4⟩ := t2.over k5
        refine ⟨sf2, ?_, h2.trans h4⟩
        rw [← k2, ← k4]
        exact .cons k1 (.cons k3 h3)

/-- Both states hold the same. -/
def Same (s t : St) : Prop := (∀ x, look s.env x = look t.env x) ∧ (∀ k, look s.loc k = look t.loc k) ∧ s.heap = t.heap
theorem Sim.same {s t : St} (h : Sim s t) : Same s t := ⟨h.env, h.loc, h.heap⟩
theorem Same.symm {s t : St} (h : Same s t) : Same t s := ⟨fun x => (h.1 x).symm, fun x => (h.2.1 x).symm, h.2.2.symm⟩
theorem Same.trans {s t u : St} (h : Same s t) (k : Same t u) : Same s u := ⟨fun x => (h.1 x).trans (k.1 x), fun x => (h.2.1 x).trans (k.2.1 x), h.2.2.trans k.2.2⟩
theorem Same.ch {ρ : Rho} {L : Nat → Option Nat} {s t : St} (h : Same s t) : Ch ρ L s = Ch ρ L t := by
  funext b
  simp only [Ch, Mine, h.2.2, h.2.1]
theorem Same.sr {n : Nat} {ρ : Rho} {L : Nat → Option Nat} {s t : St} {a : Act} {w : World} (h : Same s t) (k : SR n ρ L s a w) : SR n ρ L t a w where
  env x v hv := k.env x v (by rw [h.1]; exact hv)
  loc := ⟨fun j cs hj => k.loc.at' j cs (by rw [h.2.1]; exact hj), fun i j cs ds hi hj => k.loc.inj i j cs ds (by rw [h.2.1]; exact hi) (by rw [h.2.1]; exact hj), fun i cs b hi => k.loc.out i cs b (by rw [h.2.1]; exact hi)⟩
  heap := h.2.2 ▸ k.heap
  defers := k.defers
  size := k.size

def Dep (ops : Array Oper) (ms : Nat → Nat) : Prop :=
  ∀ (i : Nat) (o : Oper) (j : Nat), ops[i]? = some o → (ms i).testBit j = true → ∃ e ∈ o.after, Region.binds .any e = true ∧ (e.on = j ∨ (ms e.on).testBit j = true)
def Closed (ops : Array Oper) (ms : Nat → Nat) (listed : Array Bool) : Prop :=
  ∀ i j, i < ops.size → listed.getD i false = true → (ms i).testBit j = true → listed.getD j false = true
def Par (ops : Array Oper) (ms : Nat → Nat) (p q : Nat × Foot × Oper) : Prop :=
  (ms q.1).testBit p.1 = true ∨ (p.2.1.compat q.2.1 = true ∧ Oper.apart ops q.2.2 p.2.2 = true)

theorem mem_split_pair {α : Type} {R : α → α → Prop} {q : α} : ∀ {l : List α}, q ∈ l → l.Pairwise R → ∃ l1 l2, l = l1 ++ q :: l2 ∧ (∀ p ∈ l1, R p q) ∧ (l1 ++ l2).Pairwise R := by
  intro l hm hp
  obtain ⟨l1, l2, rfl⟩ := List.append_of_mem hm
  refine ⟨l1, l2, rfl, ?_, ?_⟩
  · rw [List.pairwise_append] at hp
    exact fun p h => hp.2.2 p h q (List.mem_cons_self ..)
  · rw [List.pairwise_append] at hp ⊢
    exact ⟨hp.1, (List.pairwise_cons.1 hp.2.1).2, fun p h q h' => hp.2.2 p h q (List.mem_cons_of_mem _ h')⟩

theorem any_ok (hE : EnvOk C) {ms : Nat → Nat} (hD : Dep ops ms) (hR : ∀ o ∈ ops, inRange C.nt o.dst = true) (hEd : ∀ i o, ops[i]? = some o → ∀ e ∈ o.after, Region.binds .any e = true → e.on < i)
    {rd : Option Nat} {Q : Exit → Act → World → Prop} : ∀ (fuel : Nat) (l : List (Nat × Foot × Oper)) (listed : Array Bool) (s sf : St) (ρ : Rho) (L : Nat → Option Nat) (a : Act) (w : World),
    l.length = fuel → Run C ops s (l.map (·.2)) sf → (∀ p ∈ l, ops[p.1]? = some p.2.2) → listed.size = ops.size → (∀ i, i < ops.size → (listed.getD i false = false ↔ ∃ p ∈ l, p.1 = i)) →
    l.Pairwise (fun p q => p.1 < q.1) → l.Pairwise (Par ops ms) → Closed ops ms listed → SR C.nt ρ L s a w →
    (∀ sf' ρ' L' a' w', Same sf sf' → SR C.nt ρ' L' sf' a' w' → Fr ρ ρ' w w' (Ch ρ L s) (Ch ρ' L' sf') → a'.defers = a.defers → Q .normal a' w') →
    wpAnyIn (Fen rd) 0 C.P .any ops Q fuel listed a w := by
  have nil : ∀ (l : List (Nat × Foot × Oper)) (listed : Array Bool) (s sf : St) (ρ : Rho) (L : Nat → Option Nat) (a : Act) (w : World), l = [] → Run C ops s (l.map (·.2)) sf → SR C.nt ρ L s a w →
      (∀ sf' ρ' L' a' w', Same sf sf' → SR C.nt ρ' L' sf' a' w' → Fr ρ ρ' w w' (Ch ρ L s) (Ch ρ' L' sf') → a'.defers = a.defers → Q .normal a' w') → Q .normal a w := by
    intro l listed s sf ρ L a w hl hrun hs hq
    subst hl
    cases hrun
    exact hq s ρ L a w ⟨fun _ => rfl, fun _ => rfl, rfl⟩ hs (Fr.refl _ _ _) rfl
  have done : ∀ (l : List (Nat × Foot × Oper)) (listed : Array Bool), (∀ p ∈ l, ops[p.1]? = some p.2.2) → listed.size = ops.size → (∀ i, i < ops.size → (listed.getD i false = false ↔ ∃ p ∈ l, p.1 = i)) → l.Pairwise (fun p q => p.1 < q.1) →
      Region.ready .any ops listed = [] → l = [] := by
    intro l listed hops hsz hlist hsort hr
    cases l with
    | nil => rfl
    | cons p l =>
      exfalso
      have hp := hops p (List.mem_cons_self ..)
      have hlt : p.1 < ops.size := (Array.getElem?_eq_some_iff.1 hp).1
      have : p.1 ∈ Region.ready .any ops listed := by
        rw [mem_ready]
        refine ⟨?_, p.2.2, hp, fun e he hb => ?_⟩
        · have := (hlist p.1 hlt).2 ⟨p, List.mem_cons_self .., rfl⟩
          have h' : p.1 < listed.size := by omega
          simpa [h'] using this
        · have h1 := hEd p.1 p.2.2 hp e he hb
          cases hc : listed.getD e.on false with
          | true => rfl
          | false =>
            obtain ⟨q, hq, hq2⟩ := (hlist e.on (by omega)).1 hc
            rcases List.mem_cons.1 hq with rfl | hq
            · omega
            · have := (List.pairwise_cons.1 hsort).1 q hq; omega
      rw [hr] at this
      cases this
  intro fuel
  induction fuel with
  | zero =>
    intro l listed s sf ρ L a w hlen hrun hops hsz hlist hsort hpar hcl hs hq
    have hl : l = [] := List.length_eq_zero_iff.1 hlen
    refine ⟨?_, nil l listed s sf ρ L a w hl hrun hs hq⟩
    subst hl
    rw [List.eq_nil_iff_forall_not_mem]
    intro i hi
    obtain ⟨h0, o, ho, _⟩ := mem_ready.1 hi
    have hlt : i < ops.size := (Array.getElem?_eq_some_iff.1 ho).1
    have : listed.getD i false = false := by
      have h' : i < listed.size := by omega
      simpa [h'] using h0
    obtain ⟨p, hp, _⟩ := (hlist i hlt).1 this
    cases hp
  | succ fuel ih =>
    intro l listed s sf ρ L a w hlen hrun hops hsz hlist hsort hpar hcl hs hq
    refine ⟨fun hr => nil l listed s sf ρ L a w (done l listed hops hsz hlist hsort hr) hrun hs hq, fun i hi => ?_⟩
    obtain ⟨h0, o, ho, hall⟩ := mem_ready.1 hi
    have hlt : i < ops.size := (Array.getElem?_eq_some_iff.1 ho).1
    have hi' : i < listed.size := by omega
    have hun : listed.getD i false = false := by simpa [hi'] using h0
    obtain ⟨q, hq1, hq2⟩ := (hlist i hlt).1 hun
    obtain ⟨l1, l2, hl, hpr, hpar'⟩ := mem_split_pair hq1 hpar
    obtain ⟨qi, f, qo⟩ := q
    subst hq2
    have hqo : qo = o := by have := hops _ hq1; simp only [ho, Option.some.injEq] at this; exact this.symm
    subst hqo
    have hbits : ∀ j, (ms qi).testBit j = true → listed.getD j false = true := by
      intro j hj
      obtain ⟨e, he, hb, h1⟩ := hD qi qo j ho hj
      have h2 := hall e he hb
      rcases h1 with h1 | h1
      · exact h1 ▸ h2
      · have := hEd qi qo ho e he hb
        exact hcl e.on j (by omega) h2 h1
    have hrun' : Run C ops s (l1.map (·.2) ++ (f, qo) :: l2.map (·.2)) sf := by rw [hl] at hrun; simpa using hrun
    obtain ⟨sf', hb1, hb2⟩ := bubble hE hrun' ⟨ρ, L, a, w, hs⟩ (by
      intro p hp
      obtain ⟨p', hp', rfl⟩ := List.mem_map.1 hp
      have hmem : p' ∈ l := by rw [hl]; exact List.mem_append_left _ hp'
      rcases hpr p' hp' with h1 | h1
      · exfalso
        have h2 := hbits _ h1
        have h3 := (hlist p'.1 (Array.getElem?_eq_some_iff.1 (hops p' hmem)).1).2 ⟨p', hmem, rfl⟩
        rw [h3] at h2; cases h2
      · exact ⟨h1.1, h1.2, hR _ (Array.mem_of_getElem? (hops p' hmem))⟩)
    cases hb1 with
    | cons g t =>
      rename_i e
      refine gstep_ok hE g (hR _ (Array.mem_of_getElem? ho)) ho hs ?_
      intro ρ' L' st' a' w' hst hs' hfr hdf
      have hst : app e qo.dst s = st' := by simpa using hst.symm
      subst hst
      have hsub : (l1 ++ l2).Sublist l := by rw [hl]; exact (List.Sublist.refl l1).append (List.sublist_cons_self _ _)
      have hne : ∀ p ∈ l1 ++ l2, p.1 ≠ qi := by
        intro p hp
        rw [hl, List.pairwise_append] at hsort
        rcases List.mem_append.1 hp with hp | hp
        · have := hsort.2.2 p hp _ (List.mem_cons_self ..)
          simp only at this; omega
        · have := (List.pairwise_cons.1 hsort.2.1).1 p hp
          simp only at this; omega
      refine ih (l1 ++ l2) (listed.setIfInBounds qi true) _ sf' ρ' L' a' w' ?_ (by simpa using t) (fun p hp => hops p (hsub.subset hp)) (by simpa using hsz) ?_ (hsort.sublist hsub) hpar' ?_ hs' ?_
      · rw [hl] at hlen; simp at hlen ⊢; omega
      · intro j hj
        by_cases hji : qi = j
        · subst hji
          constructor
          · intro h; simp [hi'] at h
          · rintro ⟨p, hp, hpe⟩; exact absurd hpe (hne p hp)
        · rw [getD_set_ne false hji, hlist j hj]
          constructor
          · rintro ⟨p, hp, hpe⟩
            refine ⟨p, ?_, hpe⟩
            rw [hl] at hp
            rcases List.mem_append.1 hp with hp | hp
            · exact List.mem_append_left _ hp
            · rcases List.mem_cons.1 hp with rfl | hp
              · exact absurd hpe hji
              · exact List.mem_append_right _ hp
          · rintro ⟨p, hp, hpe⟩; exact ⟨p, hsub.subset hp, hpe⟩
      · intro j k hj h1 h2
        apply getD_set_true
        by_cases hji : qi = j
        · subst hji; exact hbits k h2
        · rw [getD_set_ne false hji] at h1
          exact hcl j k hj h1 h2
      · intro sg ρ'' L'' a'' w'' h1 h2 h3 h4
        exact hq sg ρ'' L'' a'' w'' (hb2.same.trans h1) h2 (hfr.trans h3) (h4.trans hdf)
end
end Go.Proofs.YtnipccoenalnkaaGreat.Ab
