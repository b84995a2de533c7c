/- The abstract machine, 18: code, and functions. -/
import Derived.Test.YtnipccoenalnkaaGreatAb17
import Derived.Below
import Derived.RangeFuncCalls
import Derived.RangeFuncLeaves
namespace Go.Proofs.YtnipccoenalnkaaGreat.Ab
open Go
set_option linter.unusedVariables false
set_option linter.unusedSimpArgs false

section
variable {C : Ctx} {R : Type} {r : R}

def AExit.real : AExit → Exit
  | .normal => .normal
  | .exit id => .exit id
  | .ret => .ret

/-- A frame's deferred calls: some marks more, of new blocks. -/
def Dfs (a a' : Act) (w : World) : Prop := ∃ Ds : List Nat, a'.defers = Ds.map markOf ++ a.defers ∧ ∀ D, D ∈ Ds → w.heap.size ≤ D
theorem Dfs.same {a a' : Act} {w : World} (h : a'.defers = a.defers) : Dfs a a' w := ⟨[], h, fun D hD => by cases hD⟩
theorem Dfs.trans {a a' a'' : Act} {w w' : World} (h : Dfs a a' w) (k : Dfs a' a'' w') (hs : w.heap.size ≤ w'.heap.size) : Dfs a a'' w := by
  obtain ⟨Ds, h1, h2⟩ := h
  obtain ⟨Es, k1, k2⟩ := k
  refine ⟨Es ++ Ds, by rw [k1, h1, List.map_append, List.append_assoc], fun D hD => ?_⟩
  rcases List.mem_append.1 hD with hD | hD
  · exact Nat.le_trans hs (k2 D hD)
  · exact h2 D hD
/-- What is asked of what follows a code. -/
def After (C : Ctx) (K : AExit → St → Option R) (r : R) (ρ : Rho) (L : Nat → Option Nat) (s : St) (a : Act) (w : World) (Q : Exit → Act → World → Prop) : Prop :=
  ∀ e ρ' L' s' a' w', K e s' = some r → SR C.nt ρ' L' s' a' w' → Fr ρ ρ' w w' (Ch ρ L s) (Ch ρ' L' s') → Dfs a a' w → Q (AExit.real e) a' w'
theorem After.over {K : AExit → St → Option R} {ρ ρ' : Rho} {L L' : Nat → Option Nat} {s s' : St} {a a' : Act} {w w' : World} {Q : Exit → Act → World → Prop}
    (h : After C K r ρ L s a w Q) (hf : Fr ρ ρ' w w' (Ch ρ L s) (Ch ρ' L' s')) (hd : Dfs a a' w) : After C K r ρ' L' s' a' w' Q :=
  fun e ρ'' L'' s'' a'' w'' h1 h2 h3 h4 => h e ρ'' L'' s'' a'' w'' h1 h2 (hf.trans h3) (hd.trans h4 hf.size)

theorem HR.reserve {ρ : Rho} {H : Heap} {w : World} (h : HR ρ H w) (k : Nat) : HR ρ (H ++ List.replicate k .hole) w := by
  have old : ∀ (i : Nat) (b : Blk), (H ++ List.replicate k Blk.hole)[i]? = some b → b ≠ .hole → H[i]? = some b := by
    intro i b hi hb
    rcases Nat.lt_or_ge i H.length with h1 | h1
    · rwa [List.getElem?_append_left h1] at hi
    · rw [List.getElem?_append_right h1, List.getElem?_replicate] at hi
      split at hi
      · cases hi; exact absurd rfl hb
      · cases hi
  have own : ∀ i, OwnAt (H ++ List.replicate k Blk.hole) i → OwnAt H i := by
    rintro i (⟨cs, hi⟩ | ⟨es, c, hi⟩)
    · exact .inl ⟨cs, old i _ hi (by simp)⟩
    · exact .inr ⟨es, c, old i _ hi (by simp)⟩
  refine ⟨fun i cs ro hi => h.row i cs ro (old i _ hi (by simp)), fun i es c hi => h.mapR i es c (old i _ hi (by simp)), fun i j b o m o' m' hi hj => h.inj i j b o m o' m' (own i hi) (own j hj), fun i j b o m b' o' m' hi hj => h.sep i j b o m b' o' m' (own i hi) ?_, fun i hi => h.fresh i (by simp at hi; omega), h.inw, fun i hi => ?_⟩
  · obtain ⟨ds, hj⟩ := hj; exact ⟨ds, old j _ hj (by simp)⟩
  · rcases Nat.lt_or_ge i H.length with h1 | h1
    · rw [List.getElem?_append_left h1] at hi; exact h.hole i hi
    · exact h.fresh i h1
theorem own_reserve {ρ : Rho} {H : Heap} {k b : Nat} : Own ρ (H ++ List.replicate k .hole) b ↔ Own ρ H b := by
  constructor
  · rintro ⟨i, o, m, hi, hr⟩
    refine ⟨i, o, m, ?_, hr⟩
    have old : ∀ (b : Blk), (H ++ List.replicate k Blk.hole)[i]? = some b → b ≠ .hole → H[i]? = some b := by
      intro b hi hb
      rcases Nat.lt_or_ge i H.length with h1 | h1
      · rwa [List.getElem?_append_left h1] at hi
      · rw [List.getElem?_append_right h1, List.getElem?_replicate] at hi
        split at hi
        · cases hi; exact absurd rfl hb
        · cases hi
    rcases hi with ⟨cs, hi⟩ | ⟨es, c, hi⟩
    · exact .inl ⟨cs, old _ hi (by simp)⟩
    · exact .inr ⟨es, c, old _ hi (by simp)⟩
  · rintro ⟨i, o, m, hi, hr⟩
    refine ⟨i, o, m, ?_, hr⟩
    rcases hi with ⟨cs, hi⟩ | ⟨es, c, hi⟩
    · exact .inl ⟨cs, by rw [List.getElem?_append_left (List.getElem?_eq_some_iff.1 hi).1]; exact hi⟩
    · exact .inr ⟨es, c, by rw [List.getElem?_append_left (List.getElem?_eq_some_iff.1 hi).1]; exact hi⟩
theorem reserve_sr {n : Nat} {ρ : Rho} {L : Nat → Option Nat} {ops : Array Oper} {s : St} {a : Act} {w : World} (h : SR n ρ L s a w) : SR n ρ L (reserve C ops s) a w := by
  unfold reserve
  cases newPair C ops.toList 0 [] [] with
  | false => exact h
  | true => exact ⟨h.env, h.loc, h.heap.reserve _, h.defers, h.size⟩
theorem reserve_ch {ρ : Rho} {L : Nat → Option Nat} {ops : Array Oper} {s : St} : Ch ρ L (reserve C ops s) = Ch ρ L s := by
  unfold reserve
  cases newPair C ops.toList 0 [] [] with
  | false => rfl
  | true => funext b; exact propext ⟨fun h => h.imp own_reserve.1 id, fun h => h.imp own_reserve.2 id⟩
theorem placed_P (C : Ctx) (ops : Array Oper) (s : St) : (placed C ops s).P = C.P := by unfold placed; cases newPair C ops.toList 0 [] [] <;> rfl
theorem placed_nt (C : Ctx) (ops : Array Oper) (s : St) : (placed C ops s).nt = C.nt := by unfold placed; cases newPair C ops.toList 0 [] [] <;> rfl
theorem placed_env {ops : Array Oper} {s : St} (h : EnvOk C) : EnvOk (placed C ops s) := by unfold placed; cases newPair C ops.toList 0 [] [] <;> exact h
theorem placed_nat {ops : Array Oper} {s : St} (h : CtxNat C) : CtxNat (placed C ops s) := by
  unfold placed; cases newPair C ops.toList 0 [] []
  · exact h
  · exact ⟨h.nat, h.pure, h.num, h.sl, h.its⟩
theorem region_place_ok (hE : EnvOk C) (hN : CtxNat C) (hm : C.P.follows .mixedOrders = true) {ops : Array Oper} {K : St → Option R} {s : St} (h : runAny (placed C ops s) ops ops.toList [] [] (reserve C ops s) K = some r)
    {rd : Option Nat} {id : Nat} {Q : Exit → Act → World → Prop} {ρ : Rho} {L : Nat → Option Nat} {a : Act} {w : World} (hs : SR C.nt ρ L s a w) (hn : Goes C K r ρ L s a w (Q .normal)) :
    (Code.region id ops true).wpIn (Fen rd) 0 C.P Q a w := by
  have h1 := region_any_ok (rd := rd) (C := placed C ops s) (placed_env hE) (placed_nat hN) (by rw [placed_P]; exact hm) h (id := id) (Q := Q) (ρ := ρ) (L := L) (a := a) (w := w) (by rw [placed_nt]; exact reserve_sr hs) (fun ρ' L' s' a' w' k1 k2 k3 k4 => hn ρ' L' s' a' w' k1 (by rw [placed_nt] at k2; exact k2) (by rw [reserve_ch] at k3; exact k3) k4)
  rw [placed_P] at h1
  exact h1

/-- Code does what its continuation asks. -/
def Snd (C : Ctx) (c : Code) (s : St) (K : AExit → St → Option R) (r : R) : Prop :=
  ∀ (rd : Option Nat), rd = none ∨ noRF c = true → ∀ (ρ : Rho) (L : Nat → Option Nat) (a : Act) (w : World) (Q : Exit → Act → World → Prop), SR C.nt ρ L s a w → After C K r ρ L s a w Q → c.wpIn (Fen rd) 0 C.P Q a w

theorem look_pickL {α : Type} {l : List (Nat × α)} : ∀ {ts : List Nat} {t : Nat} {v : α}, look (pickL l ts) t = some v → look l t = some v
  | [], t, v, h => by simp [pickL, look] at h
  | x :: ts, t, v, h => by
    unfold pickL at h
    split at h
    · rename_i u hu
      rw [look_cons] at h
      by_cases hx : x = t
      · rw [if_pos hx] at h
        rw [← hx, hu, h]
      · rw [if_neg hx] at h
        exact look_pickL h
    · exact look_pickL h
/-- A state that holds less. -/
def Less (s t : St) : Prop := (∀ x v, look s.env x = some v → look t.env x = some v) ∧ (∀ k v, look s.loc k = some v → look t.loc k = some v) ∧ s.heap = t.heap
theorem Less.sr {n : Nat} {ρ : Rho} {L : Nat → Option Nat} {s t : St} {a : Act} {w : World} (h : Less s t) (k : SR n ρ L t a w) : SR n ρ L s a w where
  env x v hv := k.env x v (h.1 x v hv)
  loc := ⟨fun j cs hj => k.loc.at' j cs (h.2.1 _ _ hj), fun i j cs ds hi hj => k.loc.inj i j cs ds (h.2.1 _ _ hi) (h.2.1 _ _ hj), fun i cs b hi => k.loc.out i cs b (h.2.1 _ _ hi)⟩
  heap := h.2.2 ▸ k.heap
  defers := k.defers
  size := k.size
theorem Less.ch {ρ : Rho} {L : Nat → Option Nat} {s t : St} (h : Less s t) {b : Nat} (hb : Ch ρ L s b) : Ch ρ L t b := by
  rcases hb with hb | ⟨k, cs, hk, hl⟩
  · exact .inl (h.2.2 ▸ hb)
  · exact .inr ⟨k, cs, h.2.1 _ _ hk, hl⟩
theorem less_keep (s : St) (ts ls : List Nat) : Less (s.keep ts ls) s := ⟨fun _ _ h => look_pickL h, fun _ _ h => look_pickL h, rfl⟩
theorem less_refl (s : St) : Less s s := ⟨fun _ _ h => h, fun _ _ h => h, rfl⟩
theorem less_tidy1 (k : Option Keep) (s : St) : Less (tidy1 k s) s := by
  cases k with
  | none => exact less_refl s
  | some k => exact less_keep s _ _
theorem less_tidy2 (k : Option Keep) (s : St) : Less (tidy2 k s) s := by
  cases k with
  | none => exact less_refl s
  | some k => exact less_keep s _ _
theorem Less.fr {ρ ρ' : Rho} {L' : Nat → Option Nat} {s t : St} {w w' : World} {D : Nat → Prop} (h : Less s t) (f : Fr ρ ρ' w w' D (Ch ρ' L' t)) : Fr ρ ρ' w w' D (Ch ρ' L' s) :=
  f.weaken (fun _ h => h) fun _ hb => .inl (h.ch hb)

theorem loop_ok {c : Code} {kp : Option Keep} {K : AExit → St → Option R} (hc : ∀ (K : AExit → St → Option R) (s : St), exec C c s K = some r → Snd C c s K r) :
    ∀ (n : Nat) (s : St), loopN (exec C c) kp n s K = some r → ∀ (rd : Option Nat), rd = none ∨ noRF c = true → ∀ (ρ : Rho) (L : Nat → Option Nat) (a : Act) (w : World) (Q : Exit → Act → World → Prop), SR C.nt ρ L s a w → After C K r ρ L s a w Q →
    ∀ (b : Frame) (k : List Item) (cs : List Frame), b.roundOf = rd → ∃ e a' w', Q e a' w' ∧ ArrivesIn (Machine.fenced C.P (Fen rd)) C.P (lone (b.atR a (.code c :: .inLoop c :: k)) cs w) b k cs e a' w'
  | 0, s, h, rd, hrd, ρ, L, a, w, Q, hs, hq => by simp [loopN] at h
  | n + 1, s, h, rd, hrd, ρ, L, a, w, Q, hs, hq => by
    intro b k cs hro
    simp only [loopN] at h
    have h1 := hc _ s h rd hrd ρ L a w (fun e a' w' => match e with
      | .normal => ∃ ρ' L' s', loopN (exec C c) kp n s' K = some r ∧ SR C.nt ρ' L' s' a' w' ∧ Fr ρ ρ' w w' (Ch ρ L s) (Ch ρ' L' s') ∧ Dfs a a' w
      | e => Q e a' w') hs (by
        intro e ρ' L' s' a' w' g1 g2 g3 g4
        cases e with
        | normal => exact ⟨ρ', L', tidy1 kp s', g1, (less_tidy1 kp s').sr g2, (less_tidy1 kp s').fr g3, g4⟩
        | exit id => exact hq (.exit id) ρ' L' _ a' w' g1 ((less_tidy2 kp s').sr g2) ((less_tidy2 kp s').fr g3) g4
        | ret => exact hq .ret ρ' L' _ a' w' g1 ((less_tidy2 kp s').sr g2) ((less_tidy2 kp s').fr g3) g4)
    obtain ⟨e, a₁, w₁, hq1, harr⟩ := h1 b (.inLoop c :: k) cs hro trivial (room_fen _ _)
    cases e with
    | normal =>
      obtain ⟨ρ', L', s', g1, g2, g3, g4⟩ := hq1
      obtain ⟨e₂, a₂, w₂, hq₂, harr₂⟩ := loop_ok hc n s' g1 rd hrd ρ' L' a₁ w₁ Q g2 (hq.over g3 g4) b k cs hro
      exact ⟨e₂, a₂, w₂, hq₂, .of_steps (StepsIn.trans harr (.one (fenced_calm (F := Fen rd) (n := 0) trivial (room_fen _ _) rfl) stepR_inLoop)) harr₂⟩
    | exit id => exact ⟨_, a₁, w₁, hq1, .pass (x := .inLoop c) rfl (fun _ _ => .inl (by simp)) harr⟩
    | goto l => exact ⟨_, a₁, w₁, hq1, .pass (x := .inLoop c) rfl (fun _ _ => .inl (by simp)) harr⟩
    | ret => exact ⟨_, a₁, w₁, hq1, .pass (x := .inLoop c) rfl (fun _ _ => .inl (by simp)) harr⟩
    | panic ch => exact ⟨_, a₁, w₁, hq1, .pass (x := .inLoop c) rfl (fun _ _ => .inl (by simp)) harr⟩
    | outgrown => exact ⟨_, a₁, w₁, hq1, .pass (x := .inLoop c) rfl (fun _ _ => .inl (by simp)) harr⟩

theorem noRF_and {a b : Bool} (h : (a && b) = true) : a = true ∧ b = true := by simpa using h
/-! ### ranges over functions -/
theorem nonrow {n : Nat} {ρ : Rho} {L : Nat → Option Nat} {s : St} {a : Act} {w : World} (h : SR n ρ L s a w) {b : Nat} {o : Obj} (hb : w.heap[b]? = some o) (ho : ¬ isRow o) : ¬ Ch ρ L s b := by
  rintro (hc | ⟨k, cs, hk, hL⟩)
  · obtain ⟨o', h1, h2⟩ := h.heap.own_obj hc
    rw [hb] at h1; cases h1; exact ho h2
  · obtain ⟨b', c, e, fz, h1, h2, _⟩ := h.loc.at' k cs hk
    rw [hL] at h1; cases h1
    rw [hb] at h2; cases h2; exact ho trivial
theorem mem_pickL {α : Type} {l : List (Nat × α)} {t : Nat} {v : α} : ∀ {ts : List Nat}, (t, v) ∈ pickL l ts → look l t = some v
  | [], h => by simp [pickL] at h
  | x :: ts, h => by
    unfold pickL at h
    split at h
    · rename_i u hu
      rcases List.mem_cons.1 h with h | h
      · cases h; exact hu
      · exact mem_pickL h
    · exact mem_pickL h
theorem look_envOf {kp : Option Keep} {env : List (Nat × AV)} {t : Nat} {v : AV} (h : look (envOf kp env) t = some v) : look env t = some v ∧ nolp v = true := by
  cases kp with
  | none => simp [envOf, look] at h
  | some k =>
    have := look_mem h
    simp only [envOf, List.mem_filter] at this
    exact ⟨mem_pickL this.1, this.2⟩
/-- What a round sees of its frame. -/
theorem SR.round {n : Nat} {ρ ρ' : Rho} {L : Nat → Option Nat} {s : St} {a : Act} {w w' : World} (h : SR n ρ L s a w) (he : ρ.le ρ') {H : Heap} (hH : HR ρ' H w') (kp : Option Keep) :
    SR n ρ' (fun _ => none) ⟨envOf kp s.env, [], H⟩ { tmps := a.tmps, defers := [] } w' where
  env t v hv := by
    obtain ⟨h1, h2⟩ := look_envOf hv
    obtain ⟨u, h3, h4⟩ := h.env t v h1
    exact ⟨u, h3, h4.mono he fun k off b hk _ => by subst hk; cases h2⟩
  loc := ⟨fun k cs h => by simp [look] at h, fun k j cs ds h => by simp [look] at h, fun k cs b h => by simp [look] at h⟩
  heap := hH
  defers := Marks.nil _
  size := h.size
theorem ch_nil {ρ : Rho} {env : List (Nat × AV)} {H : Heap} {b : Nat} (h : Ch ρ (fun _ => none) ⟨env, [], H⟩ b) : Own ρ H b := by
  rcases h with h | ⟨k, cs, hk, _⟩
  · exact h
  · simp [look] at hk
theorem caught_ok {ρ : Rho} {H : Heap} {w : World} (hH : HR ρ H w) {P : Program} {ts : TypeId} {id off : Nat} {u : Value} (hu : CR ρ (.ptr (some (id, off))) u) {K : Option Sl → Option R} (h : caught P ts id off H K = some r) :
    ∃ x hv ad, u = .pointer (some ad) ∧ K x = some r ∧ (loadVar ts ad).run P w = .ok hv w ∧ CR ρ (.slice x) hv := by
  have hs : SR 0 ρ (fun _ => none) ⟨[], [], H⟩ { tmps := #[], defers := [] } w :=
    ⟨fun t v hv => by simp [look] at hv, ⟨fun k cs h => by simp [look] at h, fun k j cs ds h => by simp [look] at h, fun k cs b h => by simp [look] at h⟩, hH, Marks.nil _, by simp⟩
  obtain ⟨ad, y, v, h1, h2, h3, h4⟩ := load_ok hs (.c hu) h
  have h2 := (reAV_uni h2).1
  simp only [Option.bind_eq_some_iff] at h2
  obtain ⟨c, hc, x, hx, h2⟩ := h2
  refine ⟨x, v, ad, h1, h2, h3, ?_⟩
  cases h4 with
  | c h4 =>
    simp [AV.cell] at hc
    subst hc
    cases h4 <;> simp [Cell.toSlice] at hx <;> subst hx <;> first | exact .nilSlice | (rename_i q1 q2 q3 q4 q5 q6; exact .slice q1 q2 q3 q4 q5) | (exact CR.slice (by assumption) (by assumption) (by assumption) (by assumption) (by assumption))
  | agg h4 => simp [AV.cell] at hc
  | tup h4 => simp [AV.cell] at hc
  | lp h4 => simp [AV.cell] at hc
theorem slice_inv {ρ : Rho} {x : Option Sl} {v : Value} (h : CR ρ (.slice x) v) : ∃ base cap, v = .slice base (slen x).toNat cap := by
  cases h with
  | nilSlice => exact ⟨none, 0, rfl⟩
  | slice h1 h2 h3 h4 h5 => exact ⟨_, _, by simp [slen]; exact ⟨rfl, rfl⟩⟩
theorem map_mark : ∀ {l m : List Nat}, l.map markOf = m.map markOf → l = m
  | [], [], _ => rfl
  | [], b :: m, h => by simp at h
  | a :: l, [], h => by simp at h
  | a :: l, b :: m, h => by
    simp only [List.map_cons, List.cons.injEq] at h
    have : a = b := by
      have := h.1
      simp [markOf] at this
      exact this
    rw [this, map_mark h.2]
theorem HR.put_other {ρ : Rho} {H : Heap} {w : World} (h : HR ρ H w) {l : Nat} {ob : Obj} (o : Obj) (hl : w.heap[l]? = some ob) (ho : ¬ isRow ob) : HR ρ H (w.putObj l o) :=
  h.congr (by simp [World.putObj]) fun i b o' m hi hw => World.putObj_heap_other (by
    rintro rfl
    rcases hw with (⟨cs, hw⟩ | ⟨es, cl, hw⟩) | ⟨cs, hw⟩
    · obtain ⟨b', o2, m2, c', e', fz', h5, h6, h7⟩ := h.row i cs _ hw
      rw [hi] at h5; cases h5; rw [hl] at h6; cases h6; exact ho trivial
    · obtain ⟨b', es', h5, h6, h7⟩ := h.mapR i es cl hw
      rw [hi] at h5; cases h5; rw [hl] at h6; cases h6; exact ho trivial
    · obtain ⟨b', o2, m2, c', e', fz', h5, h6, h7⟩ := h.row i cs _ hw
      rw [hi] at h5; cases h5; rw [hl] at h6; cases h6; exact ho trivial)
theorem HR.putObj {ρ : Rho} {H : Heap} {w : World} (h : HR ρ H w) {l : Nat} {rc : Loop} (o : Obj) (hl : w.heap[l]? = some (.loop rc)) : HR ρ H (w.putObj l o) := h.put_other o hl fun h => h
theorem LocR.put_other {ρ : Rho} {L : Nat → Option Nat} {loc : List (Nat × List Cell)} {w : World} (h : LocR ρ L loc w) {l : Nat} {ob : Obj} (o : Obj) (hl : w.heap[l]? = some ob) (ho : ¬ isRow ob) : LocR ρ L loc (w.putObj l o) :=
  h.congr (Rho.le_refl _) (fun k cs b hk hL => World.putObj_heap_other (by
    rintro rfl
    obtain ⟨b', c, e, fz, h1, h2, _⟩ := h.at' k cs hk
    rw [hL] at h1; cases h1; rw [hl] at h2; cases h2; exact ho trivial)) fun k cs b hk hL id o m hi => ⟨_, _, hi⟩
theorem SR.putObj {n : Nat} {ρ : Rho} {L : Nat → Option Nat} {s : St} {a : Act} {w : World} (h : SR n ρ L s a w) {l : Nat} {rc : Loop} (o : Obj) (hl : w.heap[l]? = some (.loop rc)) : SR n ρ L s a (w.putObj l o) where
  env := h.env
  loc := h.loc.put_other o hl fun h => h
  heap := h.heap.putObj o hl
  defers := h.defers.keep fun D hD => World.putObj_heap_other (by rintro rfl; rw [hl] at hD; cases hD)
  size := h.size
theorem Fr.putObj {ρ ρ' : Rho} {w w' : World} {A B : Nat → Prop} (h : Fr ρ ρ' w w' A B) {l : Nat} (o : Obj) (hl : w.heap.size ≤ l) : Fr ρ ρ' w (w'.putObj l o) A B :=
  ⟨h.ext, by have := h.size; simpa [World.putObj] using this, fun b hb hn => (World.putObj_heap_other (by omega)).trans (h.same b hb hn), h.ch, h.rng, h.os, h.tape, h.output⟩
theorem range_ok (hN : CtxNat C) {g : Operand} {ps : Array Tmp} {x y : Code} (hx : noRF x = true) (hy' : noRF y = true)
    (ihx : ∀ (K : AExit → St → Option R) (s : St), exec C x s K = some r → Snd C x s K r) (ihy : ∀ (K : AExit → St → Option R) (s : St), exec C y s K = some r → Snd C y s K r)
    {kp : Option Keep} {s : St} {K : AExit → St → Option R} (h : rangeX C g ps kp (exec C x) (exec C y) s K = some r) {ρ : Rho} {L : Nat → Option Nat} {a : Act} {w : World} {Q : Exit → Act → World → Prop}
    (hs : SR C.nt ρ L s a w) (hq : After C K r ρ L s a w Q) : (Code.rangeFunc g ps x y).wpIn (Fen none) 0 C.P Q a w := by
  unfold rangeX at h
  split at h
  case h_2 => cases h
  rename_i t1 t2 hps
  simp only [Option.bind_eq_some_iff] at h
  obtain ⟨c, hc, h⟩ := h
  split at h
  case h_2 => cases h
  rename_i gf id off
  simp only [Option.bind_eq_some_iff] at h
  obtain ⟨⟨ts, te⟩, hty, h⟩ := h
  cases hlt : Nat.blt t1 C.nt && Nat.blt t2 C.nt with
  | false => rw [hlt, cond_false] at h; cases h
  | true =>
  rw [hlt, cond_true] at h
  obtain ⟨hlt1, hlt2⟩ := noRF_and hlt
  have hps' : ps = #[t1, t2] := by rw [← Array.toArray_toList (xs := ps), hps]
  have hg := hs.evc hc
  obtain ⟨cap', hge, hcap⟩ : ∃ cap' : Array Value, a.eval g = .func (.func gf) #[] cap' ∧ LR ρ [.ptr (some (id, off))] cap'.toList := by
    generalize a.eval g = gv at hg
    cases hg with
    | fn h1 h2 =>
      rename_i first' cap'
      refine ⟨cap', ?_, h2⟩
      cases first' with
      | mk l => cases h1; rfl
  obtain ⟨u, hcu, hu⟩ : ∃ u, cap' = #[u] ∧ CR ρ (.ptr (some (id, off))) u := by
    cases cap' with
    | mk l =>
      cases hcap with
      | cons h1 h2 => cases h2; exact ⟨_, rfl, h1⟩
  subst hcu
  obtain ⟨pa, rfl⟩ : ∃ pa, u = .pointer (some pa) := by cases hu; exact ⟨_, rfl⟩
  subst hps'
  -- the loop's record
  refine wpIn_rangeFunc fun fn _ => ?_
  obtain ⟨rec, hrec⟩ : ∃ rec : LoopState → Option Code → Loop, rec = fun st pe => { state := st, pending := pe, fn, tmps := a.tmps, params := #[t1, t2], assign := x, body := y, defers := w.heap.size } := ⟨_, rfl⟩
  obtain ⟨W1, hW1⟩ : ∃ W1, (w.alloc (.deferred (some []))).alloc (.loop (rec .ready none)) = W1 := ⟨_, rfl⟩
  have hL1 : W1.heap[w.heap.size + 1]? = some (.loop (rec .ready none)) := by
    rw [← hW1]; have := World.alloc_heap_new (w.alloc (.deferred (some []))) (.loop (rec .ready none)); rwa [World.size_alloc] at this
  have hsz1 : W1.heap.size = w.heap.size + 2 := by rw [← hW1]; simp
  have hold1 : ∀ b, b < w.heap.size → W1.heap[b]? = w.heap[b]? := fun b hb => by
    rw [← hW1, heap_alloc_lt _ _ (by simp; omega), heap_alloc_lt _ _ hb]
  have hK1 : W1.heap[w.heap.size]? = some (Obj.deferred (some [])) := by
    rw [← hW1, heap_alloc_lt _ _ (by simp)]; exact World.alloc_heap_new w _
  have hH1 : HR ρ s.heap W1 := hs.heap.congr (by omega) fun i b o m hi _ => hold1 b (hs.heap.inw i b o m hi)
  have hF1 : Fr ρ ρ w W1 (Own ρ s.heap) (Own ρ s.heap) :=
    ⟨Rho.le_refl ρ, by omega, fun b hb _ => hold1 b hb, fun _ hb => .inl hb, fun _ _ _ _ hi => .inl hi, by rw [← hW1]; rfl, by rw [← hW1]; rfl, by rw [← hW1]; rfl⟩
  obtain ⟨x0, hv0, pa', hpa, h, hload0, hcr0⟩ := caught_ok hH1 hu h
  cases hpa
  cases hlen : decide (slen x0 ≤ 9223372036854775807) with
  | false => rw [hlen, cond_false] at h; cases h
  | true =>
  rw [hlen, cond_true] at h
  have hlen := of_decide_eq_true hlen
  obtain ⟨base0, cap0, rfl⟩ := slice_inv hcr0
  let Kr : AExit → Heap → Option R := fun e H => K e (tidy2 kp (s.withHeap H))
  let Inv : Nat → World → Prop := fun k W => ∃ ρ1 H1, rangeN C ts te id off t1 t2 (exec C x) (exec C y) (envOf kp s.env) k H1 Kr = some r ∧ HR ρ1 H1 W ∧ Fr ρ ρ1 w W (Own ρ s.heap) (Own ρ1 H1) ∧
    W.heap[w.heap.size + 1]? = some (.loop (rec .ready none)) ∧ W.heap[w.heap.size]? = some (Obj.deferred (some []))
  let Fin : World → Prop := fun W => ∃ e ρ1 H1 cd, Kr e H1 = some r ∧ (e = .ret ∧ cd = Code.ret ∨ ∃ j, e = .exit j ∧ cd = Code.exit j) ∧ HR ρ1 H1 W ∧ Fr ρ ρ1 w W (Own ρ s.heap) (Own ρ1 H1) ∧
    W.heap[w.heap.size + 1]? = some (.loop (rec .done (some cd))) ∧ W.heap[w.heap.size]? = some (Obj.deferred (some []))
  refine ⟨w.heap.size + 1, [{ target := .collected w.heap.size, args := #[] }], W1, { target := .fn (.func gf) #[.pointer (some pa)], args := #[.func (.yield (w.heap.size + 1)) #[] #[]] }, W1, gf,
    #[.func (.yield (w.heap.size + 1)) #[] #[]] ++ #[.pointer (some pa)], W1, ?_, ?_, fun _ _ => trivial, ?_, (fun h => by cases h), ?_⟩
  · rw [← hW1, hrec]; exact run_enterLoop_outer _ _ _ _ _
  · simp only [resolve, hge]
    simp [go_sem]
  · have := (hN.its gf (ts, te) hty).1
    simp [invoke, go_sem, this]
  have fin : ∀ (e : AExit) (ρ1 : Rho) (H1 : Heap) (W : World), Kr e H1 = some r → HR ρ1 H1 W → Fr ρ ρ1 w W (Own ρ s.heap) (Own ρ1 H1) → W.heap[w.heap.size]? = some (Obj.deferred (some [])) →
      Q (AExit.real e) { a with defers := [{ target := .collected w.heap.size, args := #[] }] ++ a.defers } W := by
    intro e ρ1 H1 W k1 k2 k3 k4
    obtain ⟨g1, g2⟩ := hs.called k2 k3
    refine hq e ρ1 L _ _ W k1 ((less_tidy2 kp (s.withHeap H1)).sr ⟨g1.env, g1.loc, g1.heap, ?_, g1.size⟩) ((less_tidy2 kp (s.withHeap H1)).fr g2) ⟨[w.heap.size], rfl, fun D hD => by simp at hD; omega⟩
    obtain ⟨Ds, m1, m2, m3⟩ := g1.defers
    obtain ⟨Ds', n1, n2, n3⟩ := hs.defers
    have : Ds = Ds' := map_mark (m1.symm.trans n1)
    subst this
    refine ⟨w.heap.size :: Ds, by rw [List.map_cons, ← m1]; rfl, List.nodup_cons.2 ⟨fun hD => ?_, m2⟩, fun D hD => ?_⟩
    · have := (Array.getElem?_eq_some_iff.1 (n3 _ hD)).1; omega
    · rcases List.mem_cons.1 hD with rfl | hD
      · exact k4
      · exact m3 D hD
  show CallsIn (Fen none) 0 C.P gf #[.func (.yield (w.heap.size + 1)) #[] #[], .pointer (some pa)] W1 _
  refine CallsIn.mono ((hN.its gf (ts, te) hty).2 (w.heap.size + 1) pa _ Inv Fin W1 base0 cap0 (by omega) hload0 ?_ ⟨ρ, s.heap, h, hH1, hF1, hL1, hK1⟩) ?_
  · intro k W hk hI
    obtain ⟨ρ1, H1, hr, hHR, hFr, hl, hd⟩ := hI
    simp only [rangeN] at hr
    obtain ⟨x1, hv1, pb, hpb, hr, hload1, hcr1⟩ := caught_ok hHR (hu.mono hFr.ext) hr
    cases hpb
    have hs0 : SR 0 ρ1 (fun _ => none) ⟨[], [], H1⟩ { tmps := #[], defers := [] } W :=
      ⟨fun t v hv => by simp [look] at hv, ⟨fun k cs h => by simp [look] at h, fun k j cs ds h => by simp [look] at h, fun k cs b h => by simp [look] at h⟩, hHR, Marks.nil _, by simp⟩
    obtain ⟨y1, v1, hr, hidx, hy1⟩ := index_ok (w := W) (k := .i64) (L := fun _ => none) (.c hcr1) hr
    obtain ⟨ad, y2, v2, rfl, hr, hload2, hy2⟩ := load_ok hs0 hy1 hr
    have hr := (reAV_uni hr).1
    simp only [Option.bind_eq_some_iff] at hr
    obtain ⟨tv, htv, hr⟩ := hr
    have htr := hy2.out htv
    refine ⟨hv1, ad, v2, hload1, hidx, hload2, ?_⟩
    have hy := run_yield (P := C.P) (args := #[.int .i64 ((k : Nat) : Int), v2]) hl (by rw [hrec]; rfl)
    rw [hrec] at hy
    refine ⟨fn, _, x, y, hy, roundIn_of_wpIn (F := Fen none) trivial ?_⟩
    have hsr := hs.round hFr.ext hHR kp
    have hsr2 := (hsr.set (dst := some t1) hlt1 (x := .c (.int .i64 ((k : Nat) : Int))) (.c (.int _ _))).set (dst := some t2) hlt2 (x := tv.av) (u := v2) htr.av
    have hst : (St.set ⟨envOf kp s.env, [], H1⟩ (some t1) (.c (.int .i64 ((k : Nat) : Int)))).set (some t2) tv.av = ⟨(t2, tv.av) :: (t1, .c (.int .i64 ((k : Nat) : Int))) :: envOf kp s.env, [], H1⟩ := rfl
    have hac : ({ tmps := ((#[t1, t2].zip #[Value.int .i64 ((k : Nat) : Int), v2]).foldl (fun tmps x => tmps.setIfInBounds x.1 x.2) a.tmps), defers := [] } : Act) = (({ tmps := a.tmps, defers := [] } : Act).put (some t1) (.int .i64 ((k : Nat) : Int))).put (some t2) v2 := by
      simp [Act.put]
    show x.wpIn (Fen (some (w.heap.size + 1))) 0 C.P _ { tmps := ((#[t1, t2].zip #[Value.int .i64 ((k : Nat) : Int), v2]).foldl (fun tmps x => tmps.setIfInBounds x.1 x.2) a.tmps), defers := [] } W
    rw [hac]
    refine ihx _ _ hr (some (w.heap.size + 1)) (.inr hx) ρ1 _ _ W _ hsr2 ?_
    intro e ρ2 L2 s2 a2 w2 k1 k2 k3 _
    cases e with
    | exit j => cases k1
    | ret => cases k1
    | normal =>
    have k1 : exec C y s2 (roundB (fun H => rangeN C ts te id off t1 t2 (exec C x) (exec C y) (envOf kp s.env) k H Kr) Kr) = some r := k1
    have hl2 : w2.heap[w.heap.size + 1]? = some (.loop (rec .ready none)) := (k3.same _ (Array.getElem?_eq_some_iff.1 hl).1 (nonrow hsr2 hl (fun h => h))).trans hl
    have hd2 : w2.heap[w.heap.size]? = some (Obj.deferred (some [])) := (k3.same _ (Array.getElem?_eq_some_iff.1 hd).1 (nonrow hsr2 hd (fun h => h))).trans hd
    have hF2 : Fr ρ ρ2 w w2 (Own ρ s.heap) (Ch ρ2 L2 s2) := hFr.trans (k3.weaken (fun b hb => by rw [hst] at hb; exact ch_nil hb) fun b hb => .inl hb)
    have hbr := run_beginRound (P := C.P) hl2 (by rw [hrec])
    refine ⟨_, hbr, ?_⟩
    have hl3 : (w2.putObj (w.heap.size + 1) (.loop { rec .ready none with state := .busy })).heap[w.heap.size + 1]? = some (.loop { rec .ready none with state := .busy }) := World.putObj_heap_same (Array.getElem?_eq_some_iff.1 hl2).1
    have hd3 : (w2.putObj (w.heap.size + 1) (.loop { rec .ready none with state := .busy })).heap[w.heap.size]? = some (Obj.deferred (some [])) := (World.putObj_heap_other (by omega)).trans hd2
    have k2' := k2.putObj (.loop { rec .ready none with state := .busy }) hl2
    have hF3 := hF2.putObj (l := w.heap.size + 1) (.loop { rec .ready none with state := .busy }) (by omega)
    generalize (w2.putObj (w.heap.size + 1) (.loop { rec .ready none with state := .busy })) = w3 at *
    refine ihy _ _ k1 (some (w.heap.size + 1)) (.inr hy') ρ2 L2 a2 w3 _ k2' ?_
    intro e ρ4 L4 s4 a4 w4 g1 g2 g3 _
    have hl4 : w4.heap[w.heap.size + 1]? = some (.loop { rec .ready none with state := .busy }) := (g3.same _ (Array.getElem?_eq_some_iff.1 hl3).1 (nonrow k2' hl3 (fun h => h))).trans hl3
    have hd4 : w4.heap[w.heap.size]? = some (Obj.deferred (some [])) := (g3.same _ (Array.getElem?_eq_some_iff.1 hd3).1 (nonrow k2' hd3 (fun h => h))).trans hd3
    have hF4 : Fr ρ ρ4 w w4 (Own ρ s.heap) (Own ρ4 s4.heap) := (hF3.trans g3).weaken (fun b hb => hb) fun b hb => .inl (.inl hb)
    have endR : ∀ jump : Option Code, ∃ w5, (Instr.endRound (w.heap.size + 1) jump).run C.P w4 = .ok (.bool jump.isNone) w5 ∧ HR ρ4 s4.heap w5 ∧ Fr ρ ρ4 w w5 (Own ρ s.heap) (Own ρ4 s4.heap) ∧
        w5.heap[w.heap.size + 1]? = some (.loop (rec (if jump.isNone then .ready else .done) jump)) ∧ w5.heap[w.heap.size]? = some (Obj.deferred (some [])) := by
      intro jump
      refine ⟨_, run_endRound jump hl4, (g2.putObj _ hl4).heap, hF4.putObj (l := w.heap.size + 1) _ (by omega), ?_, (World.putObj_heap_other (by omega)).trans hd4⟩
      rw [World.putObj_heap_same (Array.getElem?_eq_some_iff.1 hl4).1, hrec]
    cases e with
    | normal =>
      obtain ⟨w5, e1, e2, e3, e4, e5⟩ := endR none
      exact ⟨_, w5, e1, .inl ⟨rfl, ρ4, s4.heap, g1, e2, e3, e4, e5⟩⟩
    | exit j =>
      obtain ⟨w5, e1, e2, e3, e4, e5⟩ := endR (some (.exit j))
      exact ⟨_, w5, e1, .inr ⟨rfl, .exit j, ρ4, s4.heap, _, g1, .inr ⟨j, rfl, rfl⟩, e2, e3, e4, e5⟩⟩
    | ret =>
      obtain ⟨w5, e1, e2, e3, e4, e5⟩ := endR (some .ret)
      exact ⟨_, w5, e1, .inr ⟨rfl, .ret, ρ4, s4.heap, _, g1, .inl ⟨rfl, rfl⟩, e2, e3, e4, e5⟩⟩
  · rintro e W3 ⟨⟨v, rfl⟩, hJ⟩
    have endL : ∀ (st : LoopState) (pe : Option Code) (ρ1 : Rho) (H1 : Heap), st ≠ .busy → W3.heap[w.heap.size + 1]? = some (.loop (rec st pe)) → HR ρ1 H1 W3 → Fr ρ ρ1 w W3 (Own ρ s.heap) (Own ρ1 H1) → W3.heap[w.heap.size]? = some (Obj.deferred (some [])) →
        ∃ W4, (Instr.endLoop (w.heap.size + 1)).run C.P W3 = .ok pe W4 ∧ HR ρ1 H1 W4 ∧ Fr ρ ρ1 w W4 (Own ρ s.heap) (Own ρ1 H1) ∧ W4.heap[w.heap.size]? = some (Obj.deferred (some [])) := by
      intro st pe ρ1 H1 h1 h2 h3 h4 h5
      have := run_endLoop (P := C.P) h2 (by rw [hrec]; exact h1)
      refine ⟨_, by rw [hrec] at this; exact this, h3.putObj _ h2, h4.putObj (l := w.heap.size + 1) _ (by omega), (World.putObj_heap_other (by omega)).trans h5⟩
    rcases hJ with ⟨ρ1, H1, hr, hHR, hFr, hl, hd⟩ | ⟨e, ρ1, H1, cd, hK, hcd, hHR, hFr, hl, hd⟩
    · simp only [rangeN] at hr
      obtain ⟨W4, e1, e2, e3, e4⟩ := endL .ready none ρ1 H1 (by simp) hl hHR hFr hd
      exact ⟨none, W4, e1, fin .normal ρ1 H1 W4 hr e2 e3 e4⟩
    · obtain ⟨W4, e1, e2, e3, e4⟩ := endL .done (some cd) ρ1 H1 (by simp) hl hHR hFr hd
      refine ⟨some cd, W4, e1, ?_⟩
      rcases hcd with ⟨rfl, rfl⟩ | ⟨j, rfl, rfl⟩
      · exact wpIn_ret (fin .ret ρ1 H1 W4 hK e2 e3 e4)
      · exact wpIn_exit (fin (.exit j) ρ1 H1 W4 hK e2 e3 e4)
theorem exec_ok (hE : EnvOk C) (hN : CtxNat C) (hm : C.P.follows .mixedOrders = true) : ∀ (c : Code) (K : AExit → St → Option R) (s : St), exec C c s K = some r → Snd C c s K r := by
  intro c
  induction c with
  | skip => intro K s h rd hrd ρ L a w Q hs hq; exact wpIn_skip (hq .normal ρ L s a w h hs (Fr.refl _ _ _) (.same rfl))
  | ret => intro K s h rd hrd ρ L a w Q hs hq; exact wpIn_ret (hq .ret ρ L s a w h hs (Fr.refl _ _ _) (.same rfl))
  | exit id => intro K s h rd hrd ρ L a w Q hs hq; exact wpIn_exit (hq (.exit id) ρ L s a w h hs (Fr.refl _ _ _) (.same rfl))
  | region id ops draw =>
    intro K s h rd hrd ρ L a w Q hs hq
    cases draw with
    | false => exact region_text_ok hE hN h hs fun ρ' L' s' a' w' k1 k2 k3 k4 => hq .normal ρ' L' s' a' w' k1 k2 k3 (.same k4)
    | true => exact region_place_ok hE hN hm h hs fun ρ' L' s' a' w' k1 k2 k3 k4 => hq .normal ρ' L' s' a' w' k1 k2 k3 (.same k4)
  | seq x y ihx ihy =>
    intro K s h rd hrd ρ L a w Q hs hq
    simp only [exec] at h
    refine wpIn_seq (ihx _ s h rd (hrd.imp id fun h => (noRF_and h).1) ρ L a w _ hs ?_)
    intro e ρ' L' s' a' w' h1 h2 h3 h4
    cases e with
    | normal => exact ihy K s' h1 rd (hrd.imp id fun h => (noRF_and h).2) ρ' L' a' w' Q h2 (hq.over h3 h4)
    | exit id => exact hq (.exit id) ρ' L' s' a' w' h1 h2 h3 h4
    | ret => exact hq .ret ρ' L' s' a' w' h1 h2 h3 h4
  | cond c x y ihx ihy =>
    intro K s h rd hrd ρ L a w Q hs hq
    simp only [exec, Option.bind_eq_some_iff] at h
    obtain ⟨cc, hcc, t, ht, h⟩ := h
    have := toBool_some ht; subst this
    have hb := (hs.evc hcc).bool_inv
    refine wpIn_cond hb ?_
    cases t with
    | true => exact ihx K s h rd (hrd.imp id fun h => (noRF_and h).1) ρ L a w Q hs hq
    | false => exact ihy K s h rd (hrd.imp id fun h => (noRF_and h).2) ρ L a w Q hs hq
  | block id x ih =>
    intro K s h rd hrd ρ L a w Q hs hq
    simp only [exec] at h
    refine wpIn_block (ih _ s h rd hrd ρ L a w _ hs ?_)
    intro e ρ' L' s' a' w' h1 h2 h3 h4
    cases e with
    | normal => exact hq .normal ρ' L' s' a' w' h1 h2 h3 h4
    | exit j =>
      simp only [AExit.real, Exit.inBlock]
      by_cases hj : j = id
      · subst hj
        replace h1 : (bif j == j then K .normal s' else K (.exit j) s') = some r := h1
        rw [beq_self_eq_true] at h1
        simp only [if_true]
        exact hq .normal ρ' L' s' a' w' h1 h2 h3 h4
      · have : (j == id) = false := by simpa using hj
        replace h1 : (bif j == id then K .normal s' else K (.exit j) s') = some r := h1
        rw [this] at h1
        rw [if_neg hj]
        exact hq (.exit j) ρ' L' s' a' w' h1 h2 h3 h4
    | ret => exact hq .ret ρ' L' s' a' w' h1 h2 h3 h4
  | loop x ih =>
    intro K s h rd hrd ρ L a w Q hs hq b k cs hro _ _
    simp only [exec] at h
    cases hx : isRF x with
    | true => rw [hx, cond_true] at h; cases h
    | false =>
    rw [hx, cond_false] at h
    have hl := less_tidy1 (keepOf C.live x) s
    obtain ⟨e, a', w', hq, harr⟩ := loop_ok (fun K s h => ih K s h) big _ h rd hrd ρ L a w Q (hl.sr hs) (hq.over (hl.fr (Fr.refl _ _ _)) (.same rfl)) b k cs hro
    exact ⟨e, a', w', hq, .of_steps (.one (fenced_calm (F := Fen rd) (n := 0) trivial (room_fen _ _) rfl) stepR_loop) harr⟩
  | rangeFunc g ps x y ihx ihy =>
    intro K s h rd hrd ρ L a w Q hs hq
    simp only [exec] at h
    cases hxy : noRF x && noRF y with
    | false => rw [hxy, cond_false] at h; cases h
    | true =>
    rw [hxy, cond_true] at h
    obtain ⟨hx, hy⟩ := noRF_and hxy
    obtain rfl : rd = none := hrd.resolve_right (by simp [noRF])
    have hl := less_tidy1 (keepOf C.live x) s
    exact range_ok hN hx hy ihx ihy h (hl.sr hs) (hq.over (hl.fr (Fr.refl _ _ _)) (.same rfl))
  | _ => intro K s h; simp [exec] at h

theorem exec_eq : ∀ (c : Code) (s : St) (K : AExit → St → Option R), exec C c s K = execL C (loops C) c s K := by
  intro c
  induction c with
  | region id ops draw => intro s K; cases draw <;> rfl
  | seq x y ihx ihy =>
    intro s K
    have : exec (R := R) C y = execL C (loops C) y := by funext s K; exact ihy s K
    simp only [exec, execL, this, ihx]
  | cond c x y ihx ihy =>
    intro s K
    simp only [exec, execL, ihx, ihy]
  | block id x ih => intro s K; simp only [exec, execL, ih]
  | loop x ih =>
    intro s K
    simp only [exec, execL]
    cases hx : isRF x with
    | true => rfl
    | false =>
      simp only [cond_false]
      unfold loops
      split
      · simp [isRF] at hx
      · rfl
  | _ => intro s K; rfl
theorem fnA_eq (rs : List ResultVar) (c : Code) (args : List TV) (H : Heap) (K : AV → Heap → Option R) : fnA C rs c R args H K = fnL C (loops C) rs c args H K := exec_eq _ _ _

theorem initEnv_look : ∀ (i : Nat) (args : List TV) (t : Nat) (v : AV), look (initEnv i args) t = some v → ∃ j x, t = i + j ∧ args[j]? = some x ∧ v = x.av
  | i, [], t, v, h => by simp [initEnv, look] at h
  | i, x :: r, t, v, h => by
    simp only [initEnv, look_cons] at h
    by_cases hi : i = t
    · rw [if_pos hi] at h
      exact ⟨0, x, by omega, rfl, by simpa using h.symm⟩
    · rw [if_neg hi] at h
      obtain ⟨j, y, h1, h2, h3⟩ := initEnv_look (i + 1) r t v h
      exact ⟨j + 1, y, by omega, by simpa using h2, h3⟩

def resOf (tmps : Array Value) : ResultVar → Sem Value
  | .tmp t => pure (tmps.getD t undef)
  | .cell x t => do loadVar t (← asAddr (tmps.getD x undef))
theorem results_ok {n : Nat} {ρ : Rho} {L : Nat → Option Nat} {s : St} {a : Act} {w : World} (hs : SR n ρ L s a w) (P : Program) : ∀ (l : List ResultVar) (K : List TV → Option R), resultsA P s l K = some r →
    ∃ vs us, K vs = some r ∧ (l.mapM (resOf a.tmps)).run P w = .ok us w ∧ TLR ρ vs us
  | [], K, h => ⟨[], [], h, by simp, .nil⟩
  | .tmp t :: l, K, h => by
    simp only [resultsA, Option.bind_eq_some_iff] at h
    obtain ⟨v, ⟨av, hav, hv⟩, h⟩ := h
    obtain ⟨vs, us, h1, h2, h3⟩ := results_ok hs P l _ h
    obtain ⟨u, hu, hr⟩ := hs.env t av hav
    refine ⟨v :: vs, u :: us, h1, ?_, .cons (hr.out hv) h3⟩
    have : a.tmps.getD t undef = u := by simp [hu]
    have h4 : (resOf a.tmps (.tmp t)).run P w = .ok u w := by simp only [resOf, this]; simp
    simp [List.mapM_cons, h4, h2]
  | .cell x t :: l, K, h => by
    simp only [resultsA, Option.bind_eq_some_iff] at h
    obtain ⟨av, hav, h⟩ := h
    obtain ⟨u, hu, hr⟩ := hs.env x av hav
    obtain ⟨ad, y, v, rfl, hK, hl, hy⟩ := load_ok hs hr h
    have hK := (reAV_uni hK).1
    simp only [Option.bind_eq_some_iff] at hK
    obtain ⟨tv, htv, hK⟩ := hK
    obtain ⟨vs, us, h1, h2, h3⟩ := results_ok hs P l _ hK
    refine ⟨tv :: vs, v :: us, h1, ?_, .cons (hy.out htv) h3⟩
    have : a.tmps.getD x undef = .pointer (some ad) := by simp [hu]
    have h4 : (resOf a.tmps (.cell x t)).run P w = .ok v w := by simp only [resOf, this]; simp [asAddr, hl]
    simp [List.mapM_cons, h4, h2]

theorem oneOf_ok {ρ : Rho} {vs : List TV} {us : List Value} (h : TLR ρ vs us) : AR ρ (fun _ => none) (oneOf vs) (if h : us.toArray.size = 1 then us.toArray[0] else .tuple us.toArray) := by
  cases h with
  | nil => exact .tup .nil
  | cons h t =>
    cases t with
    | nil => exact h.av
    | cons h2 t2 =>
      simp only [oneOf, List.size_toArray, List.length_cons]
      rw [dif_neg (by omega)]
      exact .tup (.cons h (.cons h2 t2))

theorem callFunc_enter {P : Program} {g : Nat} {fn : Func} {c : Code} (hf : P.funcs[g]? = some fn) (hb : fn.body = some c) (hname : (fn.name == "runtime.NumGoroutine") = false) (args : Array Value) (w : World) :
    (callFunc g args).run P w = .ok (.enter g args) w := by
  have : ¬ fn.name = "runtime.NumGoroutine" := by simpa using hname
  simp [callFunc, hf, this, hb]

theorem leaves_ok {n : Nat} {ρ ρ' : Rho} {L : Nat → Option Nat} {s : St} {tmps : Array Value} {w : World} {A B : Nat → Prop} {P : Program} {fn : Func} {X : Ending → World → Prop}
    (post : ∀ w', SR n ρ' L s { tmps := tmps, defers := [] } w' → Fr ρ ρ' w w' A B → ∃ v, (results fn tmps).run P w' = .ok v w' ∧ X (.returned v) w') :
    ∀ (Ds : List Nat) (w' : World), Ds.Nodup → (∀ D : Nat, D ∈ Ds → w'.heap[D]? = some (Obj.deferred (some []))) → (∀ D, D ∈ Ds → w.heap.size ≤ D) → SR n ρ' L s { tmps := tmps, defers := [] } w' → Fr ρ ρ' w w' A B →
      LeavesInM (Fen none) 0 P fn tmps X (Ds.map markOf) .returning w'
  | [], w', _, _, _, hs, hf => post w' hs hf
  | D :: Ds, w', hn, hm, hge, hs, hf => by
    have hD := hm D (List.mem_cons_self ..)
    obtain ⟨hn1, hn2⟩ := List.nodup_cons.1 hn
    refine ⟨by simp, .inl ⟨D, _, rfl, run_takeDeferred hD, ?_⟩⟩
    refine leaves_ok post Ds _ hn2 (fun E hE => (World.putObj_heap_other (by rintro rfl; exact hn1 hE)).trans (hm E (List.mem_cons_of_mem _ hE))) (fun E hE => hge E (List.mem_cons_of_mem _ hE)) ?_ (hf.putObj _ (hge D (List.mem_cons_self ..)))
    exact ⟨hs.env, hs.loc.put_other _ hD fun h => h, hs.heap.put_other _ hD fun h => h, Marks.nil _, hs.size⟩
/-- A function's call does what its body does abstractly. -/
theorem fn_calls {g : Nat} {fn : Func} {c : Code} (hE : EnvOk C) (hN : CtxNat C) (hm : C.P.follows .mixedOrders = true) (hf : C.P.funcs[g]? = some fn) (hb : fn.body = some c) (hnt : C.nt ≤ fn.ntmps)
    {args : List TV} {H : Heap} {K : AV → Heap → Option R} (h : fnA C fn.results.toList c R args H K = some r) {ρ : Rho} {w : World} {args' : Array Value} (hH : HR ρ H w) (hargs : TLR ρ args args'.toList) :
    CallsIn (Fen none) 0 C.P g args' w fun e w' => ∃ x H' ρ' v, e = .returned v ∧ K x H' = some r ∧ HR ρ' H' w' ∧ AR ρ' (fun _ => none) x v ∧ Fr ρ ρ' w w' (Own ρ H) (Own ρ' H') := by
  refine callsIn_of_wp_marks hf hb trivial ?_
  have hs : SR C.nt ρ (fun _ => none) ⟨initEnv 0 args, [], H⟩ { tmps := args' ++ Array.replicate (fn.ntmps - args'.size) undef, defers := [] } w := by
    refine ⟨fun t v hv => ?_, ⟨fun k cs h => by simp [look] at h, fun k j cs ds h => by simp [look] at h, fun k cs b h => by simp [look] at h⟩, hH, Marks.nil _, ?_⟩
    · obtain ⟨j, x, h1, h2, h3⟩ := initEnv_look 0 args t v hv
      obtain ⟨u, hu, hr⟩ := hargs.get h2
      refine ⟨u, ?_, h3 ▸ hr.av⟩
      have hlt : j < args'.toList.length := (List.getElem?_eq_some_iff.1 hu).1
      simp at hlt
      rw [show t = j by omega, Array.getElem?_append_left hlt]
      simpa using hu
    · simp; omega
  refine exec_ok hE hN hm c _ _ h none (.inl rfl) ρ _ _ w _ hs ?_
  have fin : ∀ (s' : St) ρ' L' a' w', (resultsA C.P s' fn.results.toList fun vs => K (oneOf vs) s'.heap) = some r → SR C.nt ρ' L' s' a' w' → Fr ρ ρ' w w' (Ch ρ (fun _ => none) ⟨initEnv 0 args, [], H⟩) (Ch ρ' L' s') →
      Dfs { tmps := args' ++ Array.replicate (fn.ntmps - args'.size) undef, defers := [] } a' w →
      LeavesInM (Fen none) 0 C.P fn a'.tmps (fun e w' => ∃ x H' ρ' v, e = .returned v ∧ K x H' = some r ∧ HR ρ' H' w' ∧ AR ρ' (fun _ => none) x v ∧ Fr ρ ρ' w w' (Own ρ H) (Own ρ' H')) a'.defers .returning w' := by
    intro s' ρ' L' a' w' h1 h2 h3 h4
    obtain ⟨Ds, d1, d2⟩ := h4
    obtain ⟨Es, e1, e2, e3⟩ := h2.defers
    have hE : Es = Ds := map_mark (by rw [← e1, d1]; simp)
    subst hE
    rw [e1]
    refine leaves_ok (n := C.nt) (ρ := ρ) (ρ' := ρ') (L := L') (s := s') (w := w) (A := Ch ρ (fun _ => none) ⟨initEnv 0 args, [], H⟩) (B := Ch ρ' L' s') ?_ Es w' e2 e3 d2 ⟨h2.env, h2.loc, h2.heap, Marks.nil _, h2.size⟩ h3
    intro w'' h2 h3
    obtain ⟨vs, us, k1, k2, k3⟩ := results_ok h2 C.P _ _ h1
    refine ⟨_, ?_, oneOf vs, s'.heap, ρ', _, rfl, k1, h2.heap, oneOf_ok k3, h3.weaken ?_ ?_⟩
    · have : (fn.results.mapM (resOf a'.tmps)).run C.P w'' = .ok us.toArray w'' := by
        rw [Array.mapM_eq_mapM_toList]
        simp [k2]
      have hres : results fn a'.tmps = (do let vs ← fn.results.mapM (resOf a'.tmps); pure (if h : vs.size = 1 then vs[0] else .tuple vs)) := rfl
      rw [hres]
      simp [this]
    · rintro b (hb | ⟨k, cs, hk, _⟩)
      · exact hb
      · simp [look] at hk
    · intro b hb; exact .inl (.inl hb)
  intro e ρ' L' s' a' w' h1 h2 h3 h4
  cases e with
  | normal => exact fin s' ρ' L' a' w' h1 h2 h3 h4
  | exit id => simp [retA] at h1
  | ret => exact fin s' ρ' L' a' w' h1 h2 h3 h4
theorem callsR {P : Program} {g : Nat} {args : Array Value} {w : World} {X : Ending → World → Prop} (rd : Option Nat) (h : CallsIn (Fen none) 0 P g args w X) : CallsIn (Fen rd) 0 P g args w X := by
  cases rd with
  | none => exact h
  | some l => exact CallsIn.inRound l h
/-- A function does what its body does abstractly. -/
theorem fn_ok {g : Nat} {fn : Func} {c : Code} {F : FnSem} (hE : EnvOk C) (hN : CtxNat C) (hm : C.P.follows .mixedOrders = true) (hf : C.P.funcs[g]? = some fn) (hb : fn.body = some c)
    (hname : (fn.name == "runtime.NumGoroutine") = false) (hnt : C.nt ≤ fn.ntmps)
    (hF : ∀ (R : Type) (args : List TV) (H : Heap) (K : AV → Heap → Option R) (r : R), F R args H K = some r → fnA C fn.results.toList c R args H K = some r) : FnOk C.P g F := by
  intro R args H K r h ρ w args' hH hargs rd o a next Q hn
  rw [callFunc_enter hf hb hname, Oper.uponIn_enter]
  refine ⟨(fun h => by cases h), CallsIn.mono (callsR rd (fn_calls hE hN hm hf hb hnt (hF R args H K r h) hH hargs)) fun e w'' he => ?_⟩
  obtain ⟨x, H', ρ', v, rfl, h1, h2, h3, h4⟩ := he
  exact hn x H' ρ' v w'' h1 h2 h3 h4
/-- A law: its body comes to true. -/
theorem law_in {g : Nat} {fn : Func} {c : Code} (hE : EnvOk C) (hN : CtxNat C) (hm : C.P.follows .mixedOrders = true) (hf : C.P.funcs[g]? = some fn) (hb : fn.body = some c) (hnt : C.nt ≤ fn.ntmps)
    {args : List TV} {H : Heap} (h : fnA C fn.results.toList c Bool args H (fun x _ => x.cell.bind Cell.toBool) = some true) {ρ : Rho} {w : World} {args' : Array Value} (hH : HR ρ H w) (hargs : TLR ρ args args'.toList)
    (hro : ∀ b, ¬ Own ρ H b) : CallsIn (Fen none) 0 C.P g args' w fun e w' => e = .returned (.bool true) ∧ Go.RowKit.Below w.heap.size w w' := by
  refine CallsIn.mono (fn_calls hE hN hm hf hb hnt h hH hargs) fun e w'' he => ?_
  obtain ⟨x, H', ρ', v, rfl, h1, h2, h3, h4⟩ := he
  refine ⟨?_, ⟨h4.os, h4.tape, h4.output, h4.size, fun k hk => h4.same k hk (hro k)⟩⟩
  cases h3 with
  | c h3 =>
    simp only [AV.cell, Option.bind_some] at h1
    have := toBool_some h1
    subst this
    cases h3
    rfl
  | agg h3 => simp [AV.cell] at h1
  | tup h3 => simp [AV.cell] at h1
  | lp h3 => cases h3
theorem law_ok {g : Nat} {fn : Func} {c : Code} (hE : EnvOk C) (hN : CtxNat C) (hm : C.P.follows .mixedOrders = true) (hf : C.P.funcs[g]? = some fn) (hb : fn.body = some c) (hnt : C.nt ≤ fn.ntmps)
    {args : List TV} {H : Heap} (h : fnA C fn.results.toList c Bool args H (fun x _ => x.cell.bind Cell.toBool) = some true) {ρ : Rho} {w : World} {args' : Array Value} (hH : HR ρ H w) (hargs : TLR ρ args args'.toList)
    (hro : ∀ b, ¬ Own ρ H b) : Calls C.P g args' w fun e w' => e = .returned (.bool true) ∧ Go.RowKit.Below w.heap.size w w' :=
  CallsIn.calls (law_in hE hN hm hf hb hnt h hH hargs hro) (room_fen _)

end
end Go.Proofs.YtnipccoenalnkaaGreat.Ab
