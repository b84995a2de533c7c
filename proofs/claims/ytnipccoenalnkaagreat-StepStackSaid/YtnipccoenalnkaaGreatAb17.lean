/- The abstract machine, 17: a region's run, and its soundness. -/
import Derived.Test.YtnipccoenalnkaaGreatAb16
namespace Go.Proofs.YtnipccoenalnkaaGreat.Ab
open Go
set_option linter.unusedVariables false
set_option linter.unusedSimpArgs false

section
variable {C : Ctx} {ops : Array Oper} {R : Type} {r : R}

theorem look_mem {α : Type} {t : Nat} {v : α} : ∀ {l : List (Nat × α)}, look l t = some v → (t, v) ∈ l
  | [], h => by simp [look] at h
  | (k, x) :: l, h => by
    rw [look_cons] at h
    by_cases hk : k = t
    · simp [hk] at h; subst h; subst hk; exact List.mem_cons_self ..
    · rw [if_neg hk] at h; exact List.mem_cons_of_mem _ (look_mem h)
theorem sim_known {s : St} {t : Nat} {v : AV} (h : look s.env t = some v) : Sim (s.set (some t) v) s ∧ Sim s (s.set (some t) v) := by
  have hl : ∀ x, look (s.set (some t) v).env x = look s.env x := by
    intro x
    simp only [St.set, look_cons]
    by_cases hx : t = x
    · subst hx; simp [h]
    · simp [hx]
  refine ⟨⟨hl, fun _ => rfl, rfl, fun p hp => List.mem_cons_of_mem _ hp⟩, ⟨fun x => (hl x).symm, fun _ => rfl, rfl, fun p hp => ?_⟩⟩
  rcases List.mem_cons.1 hp with rfl | hp
  · exact look_mem h
  · exact hp

theorem gstep_of (hN : CtxNat C) {o : Oper} {s : St} {K : St → Option R} (hw : Want ops o s) (h : astep C o s K = some r) : ∃ e, GStep C ops o s e ∧ K (app e o.dst s) = some r := by
  obtain ⟨e, h1, h2, h3⟩ := uniform hN h
  exact ⟨e, .inl ⟨hw, h2, h3⟩, h1⟩
theorem agop_run (hN : CtxNat C) {o : Oper} {s : St} {K : St → Option R} (h : agop C ops o s K = some r) :
    inRange C.nt o.dst = true ∧ ∃ e s', GStep C ops o s e ∧ Sim s' (app e o.dst s) ∧ K s' = some r := by
  unfold agop at h
  rw [cond_eq_ite] at h
  split at h
  case isFalse => cases h
  rename_i hr
  refine ⟨hr, ?_⟩
  split at h
  · rename_i hg
    obtain ⟨e, h1, h2⟩ := gstep_of (ops := ops) hN (.inl hg) h
    exact ⟨e, _, h1, Sim.refl _, h2⟩
  · rename_i j want hg
    split at h
    · cases h
    · rename_i t ht
      simp only [Option.bind_eq_some_iff] at h
      obtain ⟨av, hav, h⟩ := h
      split at h
      · exact ⟨.val undefA, _, .inr ⟨⟨j, want, t, hg, ht, .inl hav⟩, rfl⟩, Sim.refl _, h⟩
      · rename_i x
        simp only [Option.bind_eq_some_iff] at h
        obtain ⟨b, hb, h⟩ := h
        have := toBool_some hb; subst this
        have go : ∀ b', b' = b → (bif (b' == want) then astep C o (s.set (some t) (.c (.bool b'))) K else K ((s.set (some t) (.c (.bool b'))).set o.dst undefA)) = some r →
            ∃ e s', GStep C ops o s e ∧ Sim s' (app e o.dst s) ∧ K s' = some r := by
          rintro b' rfl h
          obtain ⟨sim1, sim2⟩ := sim_known hav
          by_cases hbw : b' = want
          · subst hbw
            simp only [beq_self_eq_true, cond_true] at h
            have hl : look (s.set (some t) (.c (.bool b'))).env t = some (.c (.bool b')) := by simp [St.set, look_cons]
            obtain ⟨e, h1, h2⟩ := gstep_of (ops := ops) hN (.inr ⟨j, b', t, hg, ht, hl⟩) h
            exact ⟨e, _, (sim1.step h1).1, sim1.app e _, h2⟩
          · have : (b' == want) = false := by simpa using hbw
            rw [this] at h
            simp only [cond_false] at h
            refine ⟨.val undefA, _, .inr ⟨⟨j, want, t, hg, ht, .inr ?_⟩, rfl⟩, sim1.set _ _, h⟩
            rw [hav]
            cases b' <;> cases want <;> simp_all
        cases b with
        | true => exact go true rfl (by cases want <;> simpa using h)
        | false => exact go false rfl (by cases want <;> simpa using h)
      · cases h

/-- The masks of operations, one behind the other. -/
def msAll : List Oper → List Nat → List Nat
  | [], ms => ms
  | o :: r, ms => msAll r (ms ++ [maskOf o ms])
theorem msAll_take : ∀ (l : List Oper) (ms : List Nat), ∃ k, msAll l ms = ms ++ k ∧ k.length = l.length
  | [], ms => ⟨[], by simp [msAll], rfl⟩
  | o :: r, ms => by
    obtain ⟨k, h1, h2⟩ := msAll_take r (ms ++ [maskOf o ms])
    exact ⟨maskOf o ms :: k, by simp only [msAll, h1]; simp, by simp [h2]⟩
theorem msAll_at : ∀ (l : List Oper) (ms : List Nat) (i : Nat) (o : Oper), l[i]? = some o → ∃ pre, (msAll l ms).getD (ms.length + i) 0 = maskOf o pre ∧ pre.length = ms.length + i ∧ ∀ k, k < pre.length → pre.getD k 0 = (msAll l ms).getD k 0
  | [], ms, i, o, h => by simp at h
  | p :: r, ms, 0, o, h => by
    simp at h; subst h
    obtain ⟨k, h1, h2⟩ := msAll_take r (ms ++ [maskOf p ms])
    refine ⟨ms, ?_, rfl, fun j hj => ?_⟩
    · simp [msAll, h1]
    · simp only [msAll, h1]; simp [hj, List.getElem?_append_left]
  | p :: r, ms, i + 1, o, h => by
    obtain ⟨pre, h1, h2, h3⟩ := msAll_at r (ms ++ [maskOf p ms]) i o (by simpa using h)
    simp only [List.length_append, List.length_singleton] at h1 h2
    refine ⟨pre, ?_, by omega, h3⟩
    simp only [msAll]
    rw [show ms.length + (i + 1) = ms.length + 1 + i by omega]
    exact h1
theorem maskOf_bit {o : Oper} {ms : List Nat} {j : Nat} (h : (maskOf o ms).testBit j = true) : ∃ e ∈ o.after, Region.binds .any e = true ∧ (e.on = j ∨ (ms.getD e.on 0).testBit j = true) := by
  have go : ∀ (l : List Edge) (m : Nat), (l.foldl (fun m e => bif Region.binds .any e then m ||| 2 ^ e.on ||| ms.getD e.on 0 else m) m).testBit j = true →
      m.testBit j = true ∨ ∃ e ∈ l, Region.binds .any e = true ∧ (e.on = j ∨ (ms.getD e.on 0).testBit j = true) := by
    intro l
    induction l with
    | nil => intro m h; exact .inl h
    | cons e l ih =>
      intro m h
      rw [List.foldl_cons] at h
      rcases ih _ h with h1 | ⟨e', he, h1⟩
      · cases hb : Region.binds .any e with
        | false => rw [hb] at h1; exact .inl h1
        | true =>
          rw [hb] at h1
          simp only [cond_true, Nat.testBit_or, Bool.or_eq_true, Nat.testBit_two_pow, decide_eq_true_eq] at h1
          rcases h1 with (h1 | h1) | h1
          · exact .inl h1
          · exact .inr ⟨e, List.mem_cons_self .., hb, .inl h1⟩
          · exact .inr ⟨e, List.mem_cons_self .., hb, .inr h1⟩
      · exact .inr ⟨e', List.mem_cons_of_mem _ he, h1⟩
  rcases go o.after.toList 0 h with h1 | ⟨e, he, h1⟩
  · simp at h1
  · exact ⟨e, by simpa using he, h1⟩

theorem fits_spec {b : Nat} {o : Oper} {f : Foot} : ∀ {l : List (Foot × Oper)} {i : Nat}, fits ops b o f l i = true → ∀ (j : Nat) (p : Foot × Oper), l[j]? = some p → b.testBit (i + j) = true ∨ (p.1.compat f = true ∧ Oper.apart ops o p.2 = true)
  | [], i, h, j, p, hp => by simp at hp
  | (g, q) :: l, i, h, j, p, hp => by
    simp only [fits, Bool.and_eq_true, Bool.or_eq_true] at h
    cases j with
    | zero => simp at hp; subst hp; exact h.1
    | succ j =>
      have := fits_spec h.2 j p (by simpa using hp)
      rwa [show i + 1 + j = i + (j + 1) by omega] at this
theorem edgesOk_spec {o : Oper} {n : Nat} (h : edgesOk o n = true) : ∀ e ∈ o.after, Region.binds .any e = true → e.on < n := by
  intro e he hb
  unfold edgesOk at h
  rw [List.all_eq_true] at h
  have := h e (by simpa using he)
  simpa [hb, Nat.blt_eq] using this

theorem runAny_run (hN : CtxNat C) {K : St → Option R} : ∀ (rest : List Oper) (done : List (Foot × Oper)) (ms : List Nat) (s : St), runAny C ops rest done ms s K = some r → done.length = ms.length →
    ∃ l sf s', Run C ops s l sf ∧ Same sf s' ∧ K s' = some r ∧ l.map (·.2) = rest ∧
      (∀ (t : Nat) (q : Foot × Oper), l[t]? = some q → ∀ (j : Nat) (p : Foot × Oper), (done ++ l)[j]? = some p → j < done.length + t →
        ((msAll rest ms).getD (done.length + t) 0).testBit j = true ∨ (p.1.compat q.1 = true ∧ Oper.apart ops q.2 p.2 = true)) ∧
      (∀ (t : Nat) (o : Oper), rest[t]? = some o → inRange C.nt o.dst = true ∧ ∀ e ∈ o.after, Region.binds .any e = true → e.on < done.length + t)
  | [], done, ms, s, h, hl => ⟨[], s, s, .nil s, ⟨fun _ => rfl, fun _ => rfl, rfl⟩, h, rfl, fun t q hq => by simp at hq, fun t o ho => by simp at ho⟩
  | o :: rest, done, ms, s, h, hl => by
    simp only [runAny, fitsK_eq, cond_eq_ite] at h
    split at h
    case isFalse => cases h
    rename_i hok
    obtain ⟨hin, e, s1, g, hsim, h⟩ := agop_run hN h
    rw [hsim.heap] at h
    split at h
    case isFalse => cases h
    rename_i hfit
    obtain ⟨l, sf, s', h1, h2, h3, h4, h5, h6⟩ := runAny_run hN rest (done ++ [(tagF (foot C s o) s.heap (app e o.dst s).heap, o)]) (ms ++ [maskOf o ms]) s1 h (by simp [hl])
    obtain ⟨sf', h7, h8⟩ := h1.over hsim
    have hms : (msAll rest (ms ++ [maskOf o ms])).getD done.length 0 = maskOf o ms := by
      obtain ⟨k, k1, k2⟩ := msAll_take rest (ms ++ [maskOf o ms])
      rw [k1, hl]; simp
    refine ⟨(tagF (foot C s o) s.heap (app e o.dst s).heap, o) :: l, sf', s', .cons g h7, h8.same.symm.trans h2, h3, by simp [h4], ?_, ?_⟩
    · intro t q hq j p hp hj
      cases t with
      | zero =>
        simp at hq
        subst hq
        simp only [msAll, Nat.add_zero] at hj ⊢
        rw [hms]
        have hp' : done[j]? = some p := by rwa [List.getElem?_append_left hj] at hp
        have := fits_spec hfit j p hp'
        simpa using this
      | succ t =>
        simp only [msAll]
        have := h5 t q (by simpa using hq) j p (by simpa using hp) (by simp; omega)
        rw [show (done ++ [(tagF (foot C s o) s.heap (app e o.dst s).heap, o)]).length + t = done.length + (t + 1) by simp; omega] at this
        exact this
    · intro t p hp
      cases t with
      | zero =>
        simp at hp; subst hp
        exact ⟨hin, edgesOk_spec hok⟩
      | succ t =>
        have := h6 t p (by simpa using hp)
        refine ⟨this.1, fun e he hb => ?_⟩
        have := this.2 e he hb
        simp at this; omega

/-- What is asked of what follows. -/
def Goes (C : Ctx) (K : St → Option R) (r : R) (ρ : Rho) (L : Nat → Option Nat) (s : St) (a : Act) (w : World) (next : Act → World → Prop) : Prop :=
  ∀ ρ' L' s' a' w', K s' = some r → SR C.nt ρ' L' s' a' w' → Fr ρ ρ' w w' (Ch ρ L s) (Ch ρ' L' s') → a'.defers = a.defers → next a' w'

theorem pairwise_of_get {α : Type} {R : α → α → Prop} : ∀ {l : List α}, (∀ (i j : Nat) (x y : α), i < j → l[i]? = some x → l[j]? = some y → R x y) → l.Pairwise R
  | [], _ => .nil
  | a :: l, h => by
    refine .cons (fun b hb => ?_) (pairwise_of_get fun i j x y hij hi hj => h (i + 1) (j + 1) x y (by omega) (by simpa using hi) (by simpa using hj))
    obtain ⟨j, hj⟩ := List.mem_iff_getElem?.1 hb
    exact h 0 (j + 1) a b (by omega) rfl (by simpa using hj)

theorem region_any_ok (hE : EnvOk C) (hN : CtxNat C) (hm : C.P.follows .mixedOrders = true) {K : St → Option R} {s : St} (h : runAny C ops ops.toList [] [] s K = some r)
    {rd : Option Nat} {id : Nat} {Q : Exit → Act → World → Prop} {ρ : Rho} {L : Nat → Option Nat} {a : Act} {w : World} (hs : SR C.nt ρ L s a w) (hn : Goes C K r ρ L s a w (Q .normal)) :
    (Code.region id ops true).wpIn (Fen rd) 0 C.P Q a w := by
  obtain ⟨l, sf, s', h1, h2, h3, h4, h5, h6⟩ := runAny_run hN ops.toList [] [] s h rfl
  refine wpIn_region_any hm ?_
  have hs' : SR C.nt ρ L s a { w with drawn := w.drawn + 1 } := hs.drew
  have hll : l.length = ops.size := by have := congrArg List.length h4; simpa using this
  have hget : ∀ (t : Nat) (q : Foot × Oper), l[t]? = some q → ops[t]? = some q.2 := by
    intro t q hq
    have : (l.map (·.2))[t]? = some q.2 := by simp [hq]
    rw [h4] at this
    simpa using this
  have hz : ∀ (t : Nat) (x : Nat × Foot × Oper), ((List.range l.length).zip l)[t]? = some x → x.1 = t ∧ l[t]? = some x.2 := by
    intro t x hx
    rw [List.getElem?_zip_eq_some] at hx
    have h1 := hx.1
    have h2 := (List.getElem?_eq_some_iff.1 h1).1
    simp at h2
    rw [List.getElem?_range (by omega)] at h1
    exact ⟨by simpa using h1.symm, hx.2⟩
  refine any_ok hE (ms := fun i => (msAll ops.toList []).getD i 0) ?_ ?_ ?_ ops.size ((List.range l.length).zip l) (Array.replicate ops.size false) s sf ρ L a _ ?_ ?_ ?_ ?_ ?_ ?_ ?_ ?_ hs' ?_
  · intro i o j ho hj
    obtain ⟨pre, k1, k2, k3⟩ := msAll_at ops.toList [] i o (by simpa using ho)
    simp only [List.length_nil, Nat.zero_add] at k1 k2
    replace hj : (maskOf o pre).testBit j = true := k1 ▸ hj
    obtain ⟨e, he, hb, h7⟩ := maskOf_bit hj
    have := (h6 i o (by simpa using ho)).2 e he hb
    have h8 := k3 e.on (by simp at this; omega)
    exact ⟨e, he, hb, h7.imp (fun h => h) fun h7 => by rw [h8] at h7; exact h7⟩
  · intro o ho
    obtain ⟨i, hi⟩ := Array.mem_iff_getElem?.1 ho
    exact (h6 i o (by simpa using hi)).1
  · intro i o hi e he hb
    have := (h6 i o (by simpa using hi)).2 e he hb
    simpa using this
  · simp [hll]
  · have : ((List.range l.length).zip l).map (·.2) = l := by
      have := List.map_snd_zip (l₁ := List.range l.length) (l₂ := l) (by simp)
      exact this
    rw [this]; exact h1
  · intro p hp
    obtain ⟨t, ht⟩ := List.mem_iff_getElem?.1 hp
    obtain ⟨h7, h8⟩ := hz t p ht
    rw [h7]; exact hget t p.2 h8
  · simp
  · intro i hi
    constructor
    · intro _
      have hil : i < l.length := by omega
      refine ⟨(i, l[i]), ?_, rfl⟩
      rw [List.mem_iff_getElem?]
      refine ⟨i, ?_⟩
      rw [List.getElem?_zip_eq_some]
      exact ⟨List.getElem?_range hil, List.getElem?_eq_getElem hil⟩
    · intro _; simp [hi]
  · refine pairwise_of_get fun i j x y hij hi hj => ?_
    have := (hz i x hi).1
    have := (hz j y hj).1
    omega
  · refine pairwise_of_get fun i j x y hij hi hj => ?_
    obtain ⟨h7, h8⟩ := hz i x hi
    obtain ⟨h9, h10⟩ := hz j y hj
    have := h5 j y.2 h10 i x.2 (by simpa using h8) (by simpa using hij)
    simp only [List.length_nil, Nat.zero_add] at this
    unfold Par
    rw [h7, h9]
    exact this
  · intro i j hi h7 _
    simp [hi] at h7
  · intro sg ρ' L' a' w' h7 h8 h9 hdf
    have hsame : Same sg s' := h7.symm.trans h2
    refine hn ρ' L' s' a' w' h3 (hsame.sr h8) ?_ hdf
    rw [← hsame.ch]
    exact (Fr.drew ρ w _).trans h9

theorem runOps_ok (hE : EnvOk C) (hN : CtxNat C) {K : St → Option R} {rd : Option Nat} {Q : Exit → Act → World → Prop} : ∀ (l : List Oper) (k : Nat) (s : St), runOps C ops l s K = some r → (∀ t o, l[t]? = some o → ops[k + t]? = some o) →
    ∀ (ρ : Rho) (L : Nat → Option Nat) (a : Act) (w : World), SR C.nt ρ L s a w → Goes C K r ρ L s a w (Q .normal) → wpOpsIn (Fen rd) 0 C.P ops Q ((List.range' k l.length)) a w
  | [], k, s, h, ho, ρ, L, a, w, hs, hn => by
    simp only [List.length_nil, List.range'_zero, wpOpsIn]
    exact hn ρ L s a w h hs (Fr.refl _ _ _) rfl
  | o :: l, k, s, h, ho, ρ, L, a, w, hs, hn => by
    simp only [runOps] at h
    obtain ⟨hin, e, s1, g, hsim, h⟩ := agop_run hN h
    rw [List.length_cons, List.range'_succ, wpOpsIn_cons]
    refine gstep_ok hE g hin (by simpa using ho 0 o rfl) hs ?_
    intro ρ' L' st' a' w' hst hs' hfr hdf
    have hst : app e o.dst s = st' := by simpa using hst.symm
    subst hst
    have hs1 : SR C.nt ρ' L' s1 a' w' := hsim.same.symm.sr hs'
    refine runOps_ok hE hN l (k + 1) s1 h (fun t p hp => by have := ho (t + 1) p (by simpa using hp); rwa [show k + (t + 1) = k + 1 + t by omega] at this) ρ' L' a' w' hs1 ?_
    intro ρ'' L'' s'' a'' w'' h1 h2 h3 h4
    refine hn ρ'' L'' s'' a'' w'' h1 h2 (hfr.trans ?_) (h4.trans hdf)
    rw [← hsim.same.ch]
    exact h3
theorem region_text_ok (hE : EnvOk C) (hN : CtxNat C) {K : St → Option R} {s : St} (h : runOps C ops ops.toList s K = some r)
    {rd : Option Nat} {id : Nat} {Q : Exit → Act → World → Prop} {ρ : Rho} {L : Nat → Option Nat} {a : Act} {w : World} (hs : SR C.nt ρ L s a w) (hn : Goes C K r ρ L s a w (Q .normal)) :
    (Code.region id ops false).wpIn (Fen rd) 0 C.P Q a w := by
  refine wpIn_region ?_
  have := runOps_ok (rd := rd) hE hN ops.toList 0 s h (fun t o ho => by simpa using ho) ρ L a w hs hn
  rw [List.range_eq_range']
  simpa using this

end
end Go.Proofs.YtnipccoenalnkaaGreat.Ab
