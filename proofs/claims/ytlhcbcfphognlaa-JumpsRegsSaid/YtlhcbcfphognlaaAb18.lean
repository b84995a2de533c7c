/- The abstract machine, 18: code, and functions. -/
import Derived.Test.YtlhcbcfphognlaaAb17
import Derived.Below
namespace Go.Proofs.Ytlhcbcfphognlaa.Ab
open Go

section
variable {C : Ctx} {R : Type} {r : R}

def AExit.real : AExit → Exit
  | .normal => .normal
  | .exit id => .exit id
  | .ret => .ret

/-- What is asked of what follows a code. -/
def After (C : Ctx) (K : AExit → St → Option R) (r : R) (ρ : Rho) (L : Nat → Option Nat) (s : St) (w : World) (Q : Exit → Act → World → Prop) : Prop :=
  ∀ e ρ' L' s' a' w', K e s' = some r → SR C.nt ρ' L' s' a' w' → Fr ρ ρ' w w' (Ch ρ L s) (Ch ρ' L' s') → Q (AExit.real e) a' w'
theorem After.over {K : AExit → St → Option R} {ρ ρ' : Rho} {L L' : Nat → Option Nat} {s s' : St} {w w' : World} {Q : Exit → Act → World → Prop}
    (h : After C K r ρ L s w Q) (hf : Fr ρ ρ' w w' (Ch ρ L s) (Ch ρ' L' s')) : After C K r ρ' L' s' w' Q :=
  fun e ρ'' L'' s'' a'' w'' h1 h2 h3 => h e ρ'' L'' s'' a'' w'' h1 h2 (hf.trans h3)

theorem HR.reserve {ρ : Rho} {H : Heap} {w : World} (h : HR ρ H w) (k : Nat) : HR ρ (H ++ List.replicate k .hole) w := by
  have old : ∀ (i : Nat) (b : Blk), (H ++ List.replicate k Blk.hole)[i]? = some b → b ≠ .hole → H[i]? = some b := by
    intro i b hi hb
    rcases Nat.lt_or_ge i H.length with h1 | h1
    · rwa [List.getElem?_append_left h1] at hi
    · rw [List.getElem?_append_right h1, List.getElem?_replicate] at hi
      split at hi
      · cases hi; exact absurd rfl hb
      · cases hi
  have own : ∀ i, OwnAt (H ++ List.replicate k Blk.hole) i → OwnAt H i := by
    rintro i (⟨cs, hi⟩ | ⟨es, c, hi⟩)
    · exact .inl ⟨cs, old i _ hi (by simp)⟩
    · exact .inr ⟨es, c, old i _ hi (by simp)⟩
  refine ⟨fun i cs ro hi => h.row i cs ro (old i _ hi (by simp)), fun i es c hi => h.mapR i es c (old i _ hi (by simp)), fun i j b o m o' m' hi hj => h.inj i j b o m o' m' (own i hi) (own j hj), fun i j b o m b' o' m' hi hj => h.sep i j b o m b' o' m' (own i hi) ?_, fun i hi => h.fresh i (by simp at hi; omega), h.inw, fun i hi => ?_⟩
  · obtain ⟨ds, hj⟩ := hj; exact ⟨ds, old j _ hj (by simp)⟩
  · rcases Nat.lt_or_ge i H.length with h1 | h1
    · rw [List.getElem?_append_left h1] at hi; exact h.hole i hi
    · exact h.fresh i h1
theorem own_reserve {ρ : Rho} {H : Heap} {k b : Nat} : Own ρ (H ++ List.replicate k .hole) b ↔ Own ρ H b := by
  constructor
  · rintro ⟨i, o, m, hi, hr⟩
    refine ⟨i, o, m, ?_, hr⟩
    have old : ∀ (b : Blk), (H ++ List.replicate k Blk.hole)[i]? = some b → b ≠ .hole → H[i]? = some b := by
      intro b hi hb
      rcases Nat.lt_or_ge i H.length with h1 | h1
      · rwa [List.getElem?_append_left h1] at hi
      · rw [List.getElem?_append_right h1, List.getElem?_replicate] at hi
        split at hi
        · cases hi; exact absurd rfl hb
        · cases hi
    rcases hi with ⟨cs, hi⟩ | ⟨es, c, hi⟩
    · exact .inl ⟨cs, old _ hi (by simp)⟩
    · exact .inr ⟨es, c, old _ hi (by simp)⟩
  · rintro ⟨i, o, m, hi, hr⟩
    refine ⟨i, o, m, ?_, hr⟩
    rcases hi with ⟨cs, hi⟩ | ⟨es, c, hi⟩
    · exact .inl ⟨cs, by rw [List.getElem?_append_left (List.getElem?_eq_some_iff.1 hi).1]; exact hi⟩
    · exact .inr ⟨es, c, by rw [List.getElem?_append_left (List.getElem?_eq_some_iff.1 hi).1]; exact hi⟩
theorem reserve_sr {n : Nat} {ρ : Rho} {L : Nat → Option Nat} {ops : Array Oper} {s : St} {a : Act} {w : World} (h : SR n ρ L s a w) : SR n ρ L (reserve C ops s) a w := by
  unfold reserve
  cases newPair C ops.toList 0 [] [] with
  | false => exact h
  | true => exact ⟨h.env, h.loc, h.heap.reserve _, h.defers, h.size⟩
theorem reserve_ch {ρ : Rho} {L : Nat → Option Nat} {ops : Array Oper} {s : St} : Ch ρ L (reserve C ops s) = Ch ρ L s := by
  unfold reserve
  cases newPair C ops.toList 0 [] [] with
  | false => rfl
  | true => funext b; exact propext ⟨fun h => h.imp own_reserve.1 id, fun h => h.imp own_reserve.2 id⟩
theorem placed_P (C : Ctx) (ops : Array Oper) (s : St) : (placed C ops s).P = C.P := by unfold placed; cases newPair C ops.toList 0 [] [] <;> rfl
theorem placed_nt (C : Ctx) (ops : Array Oper) (s : St) : (placed C ops s).nt = C.nt := by unfold placed; cases newPair C ops.toList 0 [] [] <;> rfl
theorem placed_env {ops : Array Oper} {s : St} (h : EnvOk C) : EnvOk (placed C ops s) := by unfold placed; cases newPair C ops.toList 0 [] [] <;> exact h
theorem placed_nat {ops : Array Oper} {s : St} (h : CtxNat C) : CtxNat (placed C ops s) := by
  unfold placed; cases newPair C ops.toList 0 [] []
  · exact h
  · exact ⟨h.nat, h.pure, h.num, h.sl⟩
theorem region_place_ok (hE : EnvOk C) (hN : CtxNat C) (hm : C.P.follows .mixedOrders = true) {ops : Array Oper} {K : St → Option R} {s : St} (h : runAny (placed C ops s) ops ops.toList [] [] (reserve C ops s) K = some r)
    {id : Nat} {Q : Exit → Act → World → Prop} {ρ : Rho} {L : Nat → Option Nat} {a : Act} {w : World} (hs : SR C.nt ρ L s a w) (hn : Goes C K r ρ L s w (Q .normal)) :
    (Code.region id ops true).wp C.P Q a w := by
  have h1 := region_any_ok (C := placed C ops s) (placed_env hE) (placed_nat hN) (by rw [placed_P]; exact hm) h (id := id) (Q := Q) (ρ := ρ) (L := L) (a := a) (w := w) (by rw [placed_nt]; exact reserve_sr hs) (fun ρ' L' s' a' w' k1 k2 k3 => hn ρ' L' s' a' w' k1 (by rw [placed_nt] at k2; exact k2) (by rw [reserve_ch] at k3; exact k3))
  rw [placed_P] at h1
  exact h1

/-- Code does what its continuation asks. -/
def Snd (C : Ctx) (c : Code) (s : St) (K : AExit → St → Option R) (r : R) : Prop :=
  ∀ (ρ : Rho) (L : Nat → Option Nat) (a : Act) (w : World) (Q : Exit → Act → World → Prop), SR C.nt ρ L s a w → After C K r ρ L s w Q → c.wp C.P Q a w

theorem look_pickL {α : Type} {l : List (Nat × α)} : ∀ {ts : List Nat} {t : Nat} {v : α}, look (pickL l ts) t = some v → look l t = some v
  | [], t, v, h => by simp [pickL, look] at h
  | x :: ts, t, v, h => by
    unfold pickL at h
    split at h
    · rename_i u hu
      rw [look_cons] at h
      by_cases hx : x = t
      · rw [if_pos hx] at h
        rw [← hx, hu, h]
      · rw [if_neg hx] at h
        exact look_pickL h
    · exact look_pickL h
/-- A state that holds less. -/
def Less (s t : St) : Prop := (∀ x v, look s.env x = some v → look t.env x = some v) ∧ (∀ k v, look s.loc k = some v → look t.loc k = some v) ∧ s.heap = t.heap
theorem Less.sr {n : Nat} {ρ : Rho} {L : Nat → Option Nat} {s t : St} {a : Act} {w : World} (h : Less s t) (k : SR n ρ L t a w) : SR n ρ L s a w where
  env x v hv := k.env x v (h.1 x v hv)
  loc := ⟨fun j cs hj => k.loc.at' j cs (h.2.1 _ _ hj), fun i j cs ds hi hj => k.loc.inj i j cs ds (h.2.1 _ _ hi) (h.2.1 _ _ hj), fun i cs b hi => k.loc.out i cs b (h.2.1 _ _ hi)⟩
  heap := h.2.2 ▸ k.heap
  defers := k.defers
  size := k.size
theorem Less.ch {ρ : Rho} {L : Nat → Option Nat} {s t : St} (h : Less s t) {b : Nat} (hb : Ch ρ L s b) : Ch ρ L t b := by
  rcases hb with hb | ⟨k, cs, hk, hl⟩
  · exact .inl (h.2.2 ▸ hb)
  · exact .inr ⟨k, cs, h.2.1 _ _ hk, hl⟩
theorem less_keep (s : St) (ts ls : List Nat) : Less (s.keep ts ls) s := ⟨fun _ _ h => look_pickL h, fun _ _ h => look_pickL h, rfl⟩
theorem less_refl (s : St) : Less s s := ⟨fun _ _ h => h, fun _ _ h => h, rfl⟩
theorem less_tidy1 (k : Option Keep) (s : St) : Less (tidy1 k s) s := by
  cases k with
  | none => exact less_refl s
  | some k => exact less_keep s _ _
theorem less_tidy2 (k : Option Keep) (s : St) : Less (tidy2 k s) s := by
  cases k with
  | none => exact less_refl s
  | some k => exact less_keep s _ _
theorem Less.fr {ρ ρ' : Rho} {L' : Nat → Option Nat} {s t : St} {w w' : World} {D : Nat → Prop} (h : Less s t) (f : Fr ρ ρ' w w' D (Ch ρ' L' t)) : Fr ρ ρ' w w' D (Ch ρ' L' s) :=
  f.weaken (fun _ h => h) fun _ hb => .inl (h.ch hb)

theorem loop_ok {c : Code} {kp : Option Keep} {K : AExit → St → Option R} (hc : ∀ (K : AExit → St → Option R) (s : St), exec C c s K = some r → Snd C c s K r) :
    ∀ (n : Nat) (s : St), loopN (exec C c) kp n s K = some r → ∀ (ρ : Rho) (L : Nat → Option Nat) (a : Act) (w : World) (Q : Exit → Act → World → Prop), SR C.nt ρ L s a w → After C K r ρ L s w Q →
    ∀ (b : Frame) (k : List Item) (cs : List Frame), ∃ e a' w', Q e a' w' ∧ Arrives C.P (lone (b.at a (.code c :: .inLoop c :: k)) cs w) b k cs e a' w'
  | 0, s, h, ρ, L, a, w, Q, hs, hq => by simp [loopN] at h
  | n + 1, s, h, ρ, L, a, w, Q, hs, hq => by
    intro b k cs
    simp only [loopN] at h
    have h1 := hc _ s h ρ L a w (fun e a' w' => match e with
      | .normal => ∃ ρ' L' s', loopN (exec C c) kp n s' K = some r ∧ SR C.nt ρ' L' s' a' w' ∧ Fr ρ ρ' w w' (Ch ρ L s) (Ch ρ' L' s')
      | e => Q e a' w') hs (by
        intro e ρ' L' s' a' w' g1 g2 g3
        cases e with
        | normal => exact ⟨ρ', L', tidy1 kp s', g1, (less_tidy1 kp s').sr g2, (less_tidy1 kp s').fr g3⟩
        | exit id => exact hq (.exit id) ρ' L' _ a' w' g1 ((less_tidy2 kp s').sr g2) ((less_tidy2 kp s').fr g3)
        | ret => exact hq .ret ρ' L' _ a' w' g1 ((less_tidy2 kp s').sr g2) ((less_tidy2 kp s').fr g3))
    obtain ⟨e, a₁, w₁, hq1, harr⟩ := h1 b (.inLoop c :: k) cs
    cases e with
    | normal =>
      obtain ⟨ρ', L', s', g1, g2, g3⟩ := hq1
      obtain ⟨e₂, a₂, w₂, hq₂, harr₂⟩ := loop_ok hc n s' g1 ρ' L' a₁ w₁ Q g2 (hq.over g3) b k cs
      exact ⟨e₂, a₂, w₂, hq₂, .of_steps (Steps.trans harr (.one step_inLoop)) harr₂⟩
    | exit id => exact ⟨_, a₁, w₁, hq1, .pass (x := .inLoop c) rfl (fun _ _ => .inl (by simp)) harr⟩
    | goto l => exact ⟨_, a₁, w₁, hq1, .pass (x := .inLoop c) rfl (fun _ _ => .inl (by simp)) harr⟩
    | ret => exact ⟨_, a₁, w₁, hq1, .pass (x := .inLoop c) rfl (fun _ _ => .inl (by simp)) harr⟩
    | panic ch => exact ⟨_, a₁, w₁, hq1, .pass (x := .inLoop c) rfl (fun _ _ => .inl (by simp)) harr⟩
    | outgrown => exact ⟨_, a₁, w₁, hq1, .pass (x := .inLoop c) rfl (fun _ _ => .inl (by simp)) harr⟩

theorem exec_ok (hE : EnvOk C) (hN : CtxNat C) (hm : C.P.follows .mixedOrders = true) : ∀ (c : Code) (K : AExit → St → Option R) (s : St), exec C c s K = some r → Snd C c s K r := by
  intro c
  induction c with
  | skip => intro K s h ρ L a w Q hs hq; exact wp_skip (hq .normal ρ L s a w h hs (Fr.refl _ _ _))
  | ret => intro K s h ρ L a w Q hs hq; exact wp_ret (hq .ret ρ L s a w h hs (Fr.refl _ _ _))
  | exit id => intro K s h ρ L a w Q hs hq; exact wp_exit (hq (.exit id) ρ L s a w h hs (Fr.refl _ _ _))
  | region id ops draw =>
    intro K s h ρ L a w Q hs hq
    cases draw with
    | false => exact region_text_ok hE hN h hs fun ρ' L' s' a' w' => hq .normal ρ' L' s' a' w'
    | true => exact region_place_ok hE hN hm h hs fun ρ' L' s' a' w' => hq .normal ρ' L' s' a' w'
  | seq x y ihx ihy =>
    intro K s h ρ L a w Q hs hq
    simp only [exec] at h
    refine wp_seq (ihx _ s h ρ L a w _ hs ?_)
    intro e ρ' L' s' a' w' h1 h2 h3
    cases e with
    | normal => exact ihy K s' h1 ρ' L' a' w' Q h2 (hq.over h3)
    | exit id => exact hq (.exit id) ρ' L' s' a' w' h1 h2 h3
    | ret => exact hq .ret ρ' L' s' a' w' h1 h2 h3
  | cond c x y ihx ihy =>
    intro K s h ρ L a w Q hs hq
    simp only [exec, Option.bind_eq_some_iff] at h
    obtain ⟨cc, hcc, t, ht, h⟩ := h
    have := toBool_some ht; subst this
    have hb := (hs.evc hcc).bool_inv
    refine wp_cond hb ?_
    cases t with
    | true => exact ihx K s h ρ L a w Q hs hq
    | false => exact ihy K s h ρ L a w Q hs hq
  | block id x ih =>
    intro K s h ρ L a w Q hs hq
    simp only [exec] at h
    refine wp_block (ih _ s h ρ L a w _ hs ?_)
    intro e ρ' L' s' a' w' h1 h2 h3
    cases e with
    | normal => exact hq .normal ρ' L' s' a' w' h1 h2 h3
    | exit j =>
      simp only [AExit.real, Exit.inBlock]
      by_cases hj : j = id
      · subst hj
        replace h1 : (bif j == j then K .normal s' else K (.exit j) s') = some r := h1
        rw [beq_self_eq_true] at h1
        simp only [if_true]
        exact hq .normal ρ' L' s' a' w' h1 h2 h3
      · have : (j == id) = false := by simpa using hj
        replace h1 : (bif j == id then K .normal s' else K (.exit j) s') = some r := h1
        rw [this] at h1
        rw [if_neg hj]
        exact hq (.exit j) ρ' L' s' a' w' h1 h2 h3
    | ret => exact hq .ret ρ' L' s' a' w' h1 h2 h3
  | loop x ih =>
    intro K s h ρ L a w Q hs hq b k cs
    simp only [exec] at h
    have hl := less_tidy1 (keepOf C.live x) s
    obtain ⟨e, a', w', hq, harr⟩ := loop_ok (fun K s h => ih K s h) big _ h ρ L a w Q (hl.sr hs) (hq.over (hl.fr (Fr.refl _ _ _))) b k cs
    exact ⟨e, a', w', hq, .of_steps (.one step_loop) harr⟩
  | _ => intro K s h; simp [exec] at h

theorem exec_eq : ∀ (c : Code) (s : St) (K : AExit → St → Option R), exec C c s K = execL C (loops C) c s K := by
  intro c
  induction c with
  | region id ops draw => intro s K; cases draw <;> rfl
  | seq x y ihx ihy =>
    intro s K
    have : exec (R := R) C y = execL C (loops C) y := by funext s K; exact ihy s K
    simp only [exec, execL, this, ihx]
  | cond c x y ihx ihy =>
    intro s K
    simp only [exec, execL, ihx, ihy]
  | block id x ih => intro s K; simp only [exec, execL, ih]
  | _ => intro s K; rfl
theorem fnA_eq (rs : List ResultVar) (c : Code) (args : List TV) (H : Heap) (K : AV → Heap → Option R) : fnA C rs c R args H K = fnL C (loops C) rs c args H K := exec_eq _ _ _

theorem initEnv_look : ∀ (i : Nat) (args : List TV) (t : Nat) (v : AV), look (initEnv i args) t = some v → ∃ j x, t = i + j ∧ args[j]? = some x ∧ v = x.av
  | i, [], t, v, h => by simp [initEnv, look] at h
  | i, x :: r, t, v, h => by
    simp only [initEnv, look_cons] at h
    by_cases hi : i = t
    · rw [if_pos hi] at h
      exact ⟨0, x, by omega, rfl, by simpa using h.symm⟩
    · rw [if_neg hi] at h
      obtain ⟨j, y, h1, h2, h3⟩ := initEnv_look (i + 1) r t v h
      exact ⟨j + 1, y, by omega, by simpa using h2, h3⟩

def resOf (tmps : Array Value) : ResultVar → Sem Value
  | .tmp t => pure (tmps.getD t undef)
  | .cell x t => do loadVar t (← asAddr (tmps.getD x undef))
theorem results_ok {n : Nat} {ρ : Rho} {L : Nat → Option Nat} {s : St} {a : Act} {w : World} (hs : SR n ρ L s a w) (P : Program) : ∀ (l : List ResultVar) (K : List TV → Option R), resultsA P s l K = some r →
    ∃ vs us, K vs = some r ∧ (l.mapM (resOf a.tmps)).run P w = .ok us w ∧ TLR ρ vs us
  | [], K, h => ⟨[], [], h, by simp, .nil⟩
  | .tmp t :: l, K, h => by
    simp only [resultsA, Option.bind_eq_some_iff] at h
    obtain ⟨v, ⟨av, hav, hv⟩, h⟩ := h
    obtain ⟨vs, us, h1, h2, h3⟩ := results_ok hs P l _ h
    obtain ⟨u, hu, hr⟩ := hs.env t av hav
    refine ⟨v :: vs, u :: us, h1, ?_, .cons (hr.out hv) h3⟩
    have : a.tmps.getD t undef = u := by simp [hu]
    have h4 : (resOf a.tmps (.tmp t)).run P w = .ok u w := by simp only [resOf, this]; simp
    simp [List.mapM_cons, h4, h2]
  | .cell x t :: l, K, h => by
    simp only [resultsA, Option.bind_eq_some_iff] at h
    obtain ⟨av, hav, h⟩ := h
    obtain ⟨u, hu, hr⟩ := hs.env x av hav
    obtain ⟨ad, y, v, rfl, hK, hl, hy⟩ := load_ok hs hr h
    have hK := (reAV_uni hK).1
    simp only [Option.bind_eq_some_iff] at hK
    obtain ⟨tv, htv, hK⟩ := hK
    obtain ⟨vs, us, h1, h2, h3⟩ := results_ok hs P l _ hK
    refine ⟨tv :: vs, v :: us, h1, ?_, .cons (hy.out htv) h3⟩
    have : a.tmps.getD x undef = .pointer (some ad) := by simp [hu]
    have h4 : (resOf a.tmps (.cell x t)).run P w = .ok v w := by simp only [resOf, this]; simp [asAddr, hl]
    simp [List.mapM_cons, h4, h2]

theorem oneOf_ok {ρ : Rho} {vs : List TV} {us : List Value} (h : TLR ρ vs us) : AR ρ (fun _ => none) (oneOf vs) (if h : us.toArray.size = 1 then us.toArray[0] else .tuple us.toArray) := by
  cases h with
  | nil => exact .tup .nil
  | cons h t =>
    cases t with
    | nil => exact h.av
    | cons h2 t2 =>
      simp only [oneOf, List.size_toArray, List.length_cons]
      rw [dif_neg (by omega)]
      exact .tup (.cons h (.cons h2 t2))

theorem callFunc_enter {P : Program} {g : Nat} {fn : Func} {c : Code} (hf : P.funcs[g]? = some fn) (hb : fn.body = some c) (hname : (fn.name == "runtime.NumGoroutine") = false) (args : Array Value) (w : World) :
    (callFunc g args).run P w = .ok (.enter g args) w := by
  have : ¬ fn.name = "runtime.NumGoroutine" := by simpa using hname
  simp [callFunc, hf, this, hb]

/-- A function's call does what its body does abstractly. -/
theorem fn_calls {g : Nat} {fn : Func} {c : Code} (hE : EnvOk C) (hN : CtxNat C) (hm : C.P.follows .mixedOrders = true) (hf : C.P.funcs[g]? = some fn) (hb : fn.body = some c) (hnt : C.nt ≤ fn.ntmps)
    {args : List TV} {H : Heap} {K : AV → Heap → Option R} (h : fnA C fn.results.toList c R args H K = some r) {ρ : Rho} {w : World} {args' : Array Value} (hH : HR ρ H w) (hargs : TLR ρ args args'.toList) :
    Calls C.P g args' w fun e w' => ∃ x H' ρ' v, e = .returned v ∧ K x H' = some r ∧ HR ρ' H' w' ∧ AR ρ' (fun _ => none) x v ∧ Fr ρ ρ' w w' (Own ρ H) (Own ρ' H') := by
  refine calls_of_wp hf hb ?_
  have hs : SR C.nt ρ (fun _ => none) ⟨initEnv 0 args, [], H⟩ { tmps := args' ++ Array.replicate (fn.ntmps - args'.size) undef, defers := [] } w := by
    refine ⟨fun t v hv => ?_, ⟨fun k cs h => by simp [look] at h, fun k j cs ds h => by simp [look] at h, fun k cs b h => by simp [look] at h⟩, hH, rfl, ?_⟩
    · obtain ⟨j, x, h1, h2, h3⟩ := initEnv_look 0 args t v hv
      obtain ⟨u, hu, hr⟩ := hargs.get h2
      refine ⟨u, ?_, h3 ▸ hr.av⟩
      have hlt : j < args'.toList.length := (List.getElem?_eq_some_iff.1 hu).1
      simp at hlt
      rw [show t = j by omega, Array.getElem?_append_left hlt]
      simpa using hu
    · simp; omega
  refine exec_ok hE hN hm c _ _ h ρ _ _ w _ hs ?_
  have fin : ∀ (s' : St) ρ' L' a' w', (resultsA C.P s' fn.results.toList fun vs => K (oneOf vs) s'.heap) = some r → SR C.nt ρ' L' s' a' w' → Fr ρ ρ' w w' (Ch ρ (fun _ => none) ⟨initEnv 0 args, [], H⟩) (Ch ρ' L' s') →
      a'.defers = [] ∧ ∃ v, (results fn a'.tmps).run C.P w' = .ok v w' ∧ ∃ x H' ρ' v', Ending.returned v = .returned v' ∧ K x H' = some r ∧ HR ρ' H' w' ∧ AR ρ' (fun _ => none) x v' ∧ Fr ρ ρ' w w' (Own ρ H) (Own ρ' H') := by
    intro s' ρ' L' a' w' h1 h2 h3
    obtain ⟨vs, us, k1, k2, k3⟩ := results_ok h2 C.P _ _ h1
    refine ⟨h2.defers, _, ?_, oneOf vs, s'.heap, ρ', _, rfl, k1, h2.heap, oneOf_ok k3, h3.weaken ?_ ?_⟩
    · have : (fn.results.mapM (resOf a'.tmps)).run C.P w' = .ok us.toArray w' := by
        rw [Array.mapM_eq_mapM_toList]
        simp [k2]
      have hres : results fn a'.tmps = (do let vs ← fn.results.mapM (resOf a'.tmps); pure (if h : vs.size = 1 then vs[0] else .tuple vs)) := rfl
      rw [hres]
      simp [this]
    · rintro b (hb | ⟨k, cs, hk, _⟩)
      · exact hb
      · simp [look] at hk
    · intro b hb; exact .inl (.inl hb)
  intro e ρ' L' s' a' w' h1 h2 h3
  cases e with
  | normal => exact fin s' ρ' L' a' w' h1 h2 h3
  | exit id => simp [retA] at h1
  | ret => exact fin s' ρ' L' a' w' h1 h2 h3
/-- A function does what its body does abstractly. -/
theorem fn_ok {g : Nat} {fn : Func} {c : Code} {F : FnSem} (hE : EnvOk C) (hN : CtxNat C) (hm : C.P.follows .mixedOrders = true) (hf : C.P.funcs[g]? = some fn) (hb : fn.body = some c)
    (hname : (fn.name == "runtime.NumGoroutine") = false) (hnt : C.nt ≤ fn.ntmps)
    (hF : ∀ (R : Type) (args : List TV) (H : Heap) (K : AV → Heap → Option R) (r : R), F R args H K = some r → fnA C fn.results.toList c R args H K = some r) : FnOk C.P g F := by
  intro R args H K r h ρ w args' hH hargs o a next Q hn
  rw [callFunc_enter hf hb hname, Oper.upon_enter]
  refine Calls.mono (fn_calls hE hN hm hf hb hnt (hF R args H K r h) hH hargs) fun e w'' he => ?_
  obtain ⟨x, H', ρ', v, rfl, h1, h2, h3, h4⟩ := he
  exact hn x H' ρ' v w'' h1 h2 h3 h4
/-- A law: its body comes to true. -/
theorem law_ok {g : Nat} {fn : Func} {c : Code} (hE : EnvOk C) (hN : CtxNat C) (hm : C.P.follows .mixedOrders = true) (hf : C.P.funcs[g]? = some fn) (hb : fn.body = some c) (hnt : C.nt ≤ fn.ntmps)
    {args : List TV} {H : Heap} (h : fnA C fn.results.toList c Bool args H (fun x _ => x.cell.bind Cell.toBool) = some true) {ρ : Rho} {w : World} {args' : Array Value} (hH : HR ρ H w) (hargs : TLR ρ args args'.toList)
    (hro : ∀ b, ¬ Own ρ H b) : Calls C.P g args' w fun e w' => e = .returned (.bool true) ∧ Go.RowKit.Below w.heap.size w w' := by
  refine Calls.mono (fn_calls hE hN hm hf hb hnt h hH hargs) fun e w'' he => ?_
  obtain ⟨x, H', ρ', v, rfl, h1, h2, h3, h4⟩ := he
  refine ⟨?_, ⟨h4.os, h4.tape, h4.output, h4.size, fun k hk => h4.same k hk (hro k)⟩⟩
  cases h3 with
  | c h3 =>
    simp only [AV.cell, Option.bind_some] at h1
    have := toBool_some h1
    subst this
    cases h3
    rfl
  | agg h3 => simp [AV.cell] at h1
  | tup h3 => simp [AV.cell] at h1
  | lp h3 => cases h3

end
end Go.Proofs.Ytlhcbcfphognlaa.Ab
