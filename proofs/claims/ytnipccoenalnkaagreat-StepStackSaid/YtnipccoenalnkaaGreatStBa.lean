/- slices.Backward's closure: what is asked of it (ItOk). -/
import Derived.Test.YtnipccoenalnkaaGreatAb32
import Derived.Test.YtnipccoenalnkaaGreatProg
import Derived.KernelRfl
import Derived.TacticsInMore
namespace Go.Proofs.YtnipccoenalnkaaGreat
open Go Go.Proofs.YtnipccoenalnkaaGreat.Ab
set_option linter.unusedVariables false
set_option linter.unusedSimpArgs false
set_option maxRecDepth 100000
theorem ops_cons {P : Program} {ops : Array Oper} {Q : Exit → Act → World → Prop} {i : Nat} {rest : List Nat} {a : Act} {w w' : World} {o : Oper} {v : Value} (ho : ops[i]? = some o) (hg : o.guard = none)
    (hrun : (execOp a.eval o).run P w = .ok (.value v) w') (h : wpOpsIn (Fen none) 0 P ops Q rest (a.put o.dst v) w') : wpOpsIn (Fen none) 0 P ops Q (i :: rest) a w := by
  unfold wpOpsIn
  rw [ho]
  simp only [Region.wanted, hg]
  exact wpR_value hrun h
/-- What the frame holds. -/
structure BackA (l : Nat) (pa : Addr) (i : Int) (a : Act) : Prop where
  d : a.defers = []
  s : a.tmps.size = 19
  t0 : a.tmps[0]? = some (.func (.yield l) #[] #[])
  t1 : a.tmps[1]? = some (.pointer (some pa))
  t3 : a.tmps[3]? = some (.int .i64 i)
theorem ev_tmp {a : Act} {t : Nat} {v : Value} (h : a.tmps[t]? = some v) : a.eval (.tmp t) = v := by
  simp [Act.eval, h]
theorem put_ne (a : Act) (d : Nat) (v : Value) (t : Nat) (h : d ≠ t) : (a.put (some d) v).tmps[t]? = a.tmps[t]? := by
  simp [Act.put, Array.getElem?_setIfInBounds_ne h]
theorem put_eq (a : Act) (d : Nat) (v : Value) (h : d < a.tmps.size) : (a.put (some d) v).tmps[d]? = some v := by
  simp [Act.put, h]
theorem put_size (a : Act) (d : Nat) (v : Value) : (a.put (some d) v).tmps.size = a.tmps.size := by simp [Act.put]
theorem BackA.other {l : Nat} {pa : Addr} {i : Int} {a : Act} (h : BackA l pa i a) (d : Nat) (v : Value) (hd : 4 ≤ d) : BackA l pa i (a.put (some d) v) :=
  ⟨h.d, by rw [put_size]; exact h.s, by rw [put_ne _ _ _ _ (by omega)]; exact h.t0, by rw [put_ne _ _ _ _ (by omega)]; exact h.t1, by rw [put_ne _ _ _ _ (by omega)]; exact h.t3⟩
theorem BackA.set {l : Nat} {pa : Addr} {i : Int} {a : Act} (h : BackA l pa i a) (j : Int) : BackA l pa j (a.put (some 3) (.int .i64 j)) :=
  ⟨h.d, by rw [put_size]; exact h.s, by rw [put_ne _ _ _ _ (by omega)]; exact h.t0, by rw [put_ne _ _ _ _ (by omega)]; exact h.t1, put_eq _ _ _ (by rw [h.s]; omega)⟩
theorem ops_yield {P : Program} {ops : Array Oper} {Q : Exit → Act → World → Prop} {i : Nat} {rest : List Nat} {a : Act} {w : World} {o : Oper} {l : Nat} {args : Array Value} {X : Ending → World → Prop} (ho : ops[i]? = some o) (hg : o.guard = none)
    (hrun : (execOp a.eval o).run P w = (Instr.yield l args).run P w) (hy : YieldAt (Fen none) 0 P l args w X)
    (h : ∀ e w', X e w' → ∃ v, e = .returned v ∧ wpOpsIn (Fen none) 0 P ops Q rest (a.put o.dst v) w') : wpOpsIn (Fen none) 0 P ops Q (i :: rest) a w := by
  unfold wpOpsIn
  rw [ho]
  simp only [Region.wanted, hg]
  obtain ⟨fn, tmps, assign, body, h1, h2⟩ := hy
  refine ⟨fun _ _ => trivial, ?_⟩
  show o.uponIn (Fen none) 0 P a _ Q ((execOp a.eval o).run P w)
  rw [hrun, h1, Oper.uponIn_round]
  refine ⟨(fun h => by cases h), RoundIn.mono h2 fun e w' he => ?_⟩
  obtain ⟨v, rfl, hv⟩ := h e w' he
  exact hv
structure BackT (l : Nat) (pa : Addr) (a : Act) : Prop where
  d : a.defers = []
  s : a.tmps.size = 19
  t0 : a.tmps[0]? = some (.func (.yield l) #[] #[])
  t1 : a.tmps[1]? = some (.pointer (some pa))
theorem BackT.put {l : Nat} {pa : Addr} {a : Act} (h : BackT l pa a) (d : Nat) (v : Value) (hd : 2 ≤ d) : BackT l pa (a.put (some d) v) :=
  ⟨h.d, by rw [put_size]; exact h.s, by rw [put_ne _ _ _ _ (by omega)]; exact h.t0, by rw [put_ne _ _ _ _ (by omega)]; exact h.t1⟩
theorem BackT.get {l : Nat} {pa : Addr} {a : Act} (h : BackT l pa a) (d : Nat) (v : Value) (hd : d < 19) : (a.put (some d) v).tmps[d]? = some v := put_eq _ _ _ (by rw [h.s]; exact hd)
theorem run_loadop {P : Program} {a : Act} {w : World} {o : Oper} {t : TypeId} {x : Operand} {ad : Addr} {v : Value} (ho : o.op = .load t x) (hx : a.eval x = .pointer (some ad)) (hl : (loadVar t ad).run P w = .ok v w) : (execOp a.eval o).run P w = .ok (.value v) w := by
  simp [execOp, ho, hx, Instr.loadAt, Instr.sureAddr, hl, Result.andThen]
theorem run_sub (t : TypeId) (x y : Int) (w : World) (P : Program) : (binOp .sub t (.int .i64 x) (.int .i64 y)).run P w = .ok (.int .i64 (IntKind.i64.wrap (x - y))) w := by
  simp [binOp, go_sem]
theorem run_geq (t : TypeId) (x y : Int) (w : World) (P : Program) : (binOp .geq t (.int .i64 x) (.int .i64 y)).run P w = .ok (.bool (decide (x ≥ y))) w := by
  simp [binOp, go_sem]
theorem it188 : ItOk Tryz.prog 188 102 115 := by
  refine ⟨fun args w => callFunc_enter Tryz.func188 (c := bodyOf Tryz.f188) (by kernel_rfl) (by kernel_rfl) args w, ?_⟩
  intro l pa N J Jx W base cap hN hload hY h0
  refine callsIn_of_wp Tryz.func188 (c := bodyOf Tryz.f188) (by kernel_rfl) trivial ?_ rfl
  simp only [Tryz.ntmps188, List.size_toArray, List.length_cons, List.length_nil, Nat.reduceAdd, Nat.reduceSub, Array.replicate_succ, Array.replicate_zero, List.push_toArray, List.append_toArray, List.nil_append, List.cons_append]
  generalize ha : ({ tmps := #[Value.func (.yield l) #[] #[], .pointer (some pa), _, _, _, _, _, _, _, _, _, _, _, _, _, _, _, _, _], defers := [] } : Act) = a
  have A : BackT l pa a := by
    rw [← ha]
    exact ⟨rfl, rfl, rfl, rfl⟩
  clear ha
  generalize hR : (fun (e : Ending) (W' : World) => (∃ v, e = .returned v) ∧ (J 0 W' ∨ Jx W')) = X
  have res : ∀ (a : Act) (W' : World), J 0 W' ∨ Jx W' → ∃ v, (results Tryz.f188 a.tmps).run Tryz.prog W' = .ok v W' ∧ X (.returned v) W' := by
    intro a W' h
    refine ⟨.tuple #[], ?_, by rw [← hR]; exact ⟨⟨_, rfl⟩, h⟩⟩
    have : Tryz.f188.results = #[] := by kernel_rfl
    simp [results, this]
  have key : ∀ (k : Nat) (a : Act) (W' : World), k ≤ N → BackT l pa a → a.tmps[3]? = some (.int .i64 ((k : Int) - 1)) → J k W' →
      Code.roundsIn (Fen none) 0 Tryz.prog (Code.l (Code.l (Code.r (bodyOf Tryz.f188)))) (Exit.inBlock 0 (bodyPost Tryz.prog Tryz.f188 X)) (k + 1) a W' := by
    intro k
    induction k with
    | zero =>
      intro a W' _ A h3 hJ
      rw [roundsIn_succ]
      refine wpIn_seq (wpIn_seq (wpIn_region ?_))
      show wpOpsIn _ _ _ _ _ [0, 1] _ _
      refine ops_cons rfl rfl (v := .int .i64 (((0 : Nat) : Int) - 1)) (w' := W') ?_ ?_
      · simp [execOp, go_sem, h3, Result.andThen]
      refine ops_cons rfl rfl (v := .bool false) (w' := W') ?_ ?_
      · simp [execOp, go_sem, A.s, run_geq, Result.andThen]
      have A2 := (A.put 7 (.int .i64 (((0 : Nat) : Int) - 1)) (by omega)).put 8 (.bool false) (by omega)
      have e8 := (A.put 7 (.int .i64 (((0 : Nat) : Int) - 1)) (by omega)).get 8 (.bool false) (by omega)
      refine wpIn_cond_false (c := .tmp 8) (ev_tmp e8) (wpIn_exit ?_)
      exact ⟨A2.d, res _ _ (.inl hJ)⟩
    | succ k ih =>
      intro a W' hk A h3 hJ
      obtain ⟨hv, ad, v, q1, q2, q3, hyl⟩ := hY k W' (by omega) hJ
      rw [roundsIn_succ]
      have hi : (((k + 1 : Nat) : Int) - 1) = ((k : Nat) : Int) := by omega
      rw [hi] at h3
      refine wpIn_seq (wpIn_seq (wpIn_region ?_))
      show wpOpsIn _ _ _ _ _ [0, 1] _ _
      refine ops_cons rfl rfl (v := .int .i64 ((k : Nat) : Int)) (w' := W') ?_ ?_
      · simp [execOp, go_sem, h3, Result.andThen]
      refine ops_cons rfl rfl (v := .bool true) (w' := W') ?_ ?_
      · simp [execOp, go_sem, A.s, run_geq, Result.andThen]
      have B := (A.put 7 (.int .i64 ((k : Nat) : Int)) (by omega)).put 8 (.bool true) (by omega)
      have B3 : ((a.put (some 7) (.int .i64 ((k : Nat) : Int))).put (some 8) (.bool true)).tmps[3]? = some (.int .i64 ((k : Nat) : Int)) := by
        rw [put_ne _ _ _ _ (by omega), put_ne _ _ _ _ (by omega)]; exact h3
      have e8 := (A.put 7 (.int .i64 ((k : Nat) : Int)) (by omega)).get 8 (.bool true) (by omega)
      refine wpIn_cond_true (c := .tmp 8) (ev_tmp e8) (wpIn_skip ?_)
      revert B B3
      show BackT l pa ((a.put (some 7) (.int .i64 ((k : Nat) : Int))).put (some 8) (.bool true)) → _ → Code.wpIn (Fen none) 0 Tryz.prog (Code.r (Code.l (Code.l (Code.r (bodyOf Tryz.f188))))) _ ((a.put (some 7) (.int .i64 ((k : Nat) : Int))).put (some 8) (.bool true)) W'
      generalize (a.put (some 7) (.int .i64 ((k : Nat) : Int))).put (some 8) (.bool true) = b
      intro B B3
      clear e8 h3 A
      refine wpIn_seq (wpIn_block (wpIn_seq (wpIn_region ?_)))
      show wpOpsIn _ _ _ _ _ [0, 1, 2, 3, 4, 5, 6, 7] _ _
      refine ops_cons rfl rfl (v := .func (.yield l) #[] #[]) (w' := W') ?_ ?_
      · simp [execOp, go_sem, B.t0, Result.andThen]
      refine ops_cons rfl rfl (v := .int .i64 ((k : Nat) : Int)) (w' := W') ?_ ?_
      · simp [execOp, go_sem, B3, Result.andThen]
      refine ops_cons rfl rfl (v := hv) (w' := W') ?_ ?_
      · exact run_loadop rfl (ev_tmp ((B.put 11 (.func (.yield l) #[] #[]) (by omega)).put 12 (.int .i64 ((k : Nat) : Int)) (by omega)).t1) q1
      refine ops_cons rfl rfl (v := .int .i64 ((k : Nat) : Int)) (w' := W') ?_ ?_
      · simp [execOp, go_sem, B3, Result.andThen]
      refine ops_cons rfl rfl (v := .pointer (some ad)) (w' := W') ?_ ?_
      · simp [execOp, go_sem, B.s, q2, Result.andThen]
      refine ops_cons rfl rfl (v := v) (w' := W') ?_ ?_
      · exact run_loadop rfl (ev_tmp (((((B.put 11 (.func (.yield l) #[] #[]) (by omega)).put 12 (.int .i64 ((k : Nat) : Int)) (by omega)).put 13 hv (by omega)).put 14 (.int .i64 ((k : Nat) : Int)) (by omega)).get 15 (.pointer (some ad)) (by omega))) q3
      refine ops_yield rfl rfl (l := l) (args := #[.int .i64 ((k : Nat) : Int), v]) ?_ hyl ?_
      · simp [execOp, go_sem, B.s, resolve, invoke, Result.andThen]
      have C0 := ((((((B.put 11 (.func (.yield l) #[] #[]) (by omega)).put 12 (.int .i64 ((k : Nat) : Int)) (by omega)).put 13 hv (by omega)).put 14 (.int .i64 ((k : Nat) : Int)) (by omega)).put 15 (.pointer (some ad)) (by omega)).put 16 v (by omega))
      have C3 : ((((((b.put (some 11) (.func (.yield l) #[] #[])).put (some 12) (.int .i64 ((k : Nat) : Int))).put (some 13) hv).put (some 14) (.int .i64 ((k : Nat) : Int))).put (some 15) (.pointer (some ad))).put (some 16) v).tmps[3]? = some (.int .i64 ((k : Nat) : Int)) := by
        rw [put_ne _ _ _ _ (by omega), put_ne _ _ _ _ (by omega), put_ne _ _ _ _ (by omega), put_ne _ _ _ _ (by omega), put_ne _ _ _ _ (by omega), put_ne _ _ _ _ (by omega)]; exact B3
      intro e w2 he
      revert C0 C3
      show BackT l pa ((((((b.put (some 11) (.func (.yield l) #[] #[])).put (some 12) (.int .i64 ((k : Nat) : Int))).put (some 13) hv).put (some 14) (.int .i64 ((k : Nat) : Int))).put (some 15) (.pointer (some ad))).put (some 16) v) → _ → ∃ v2, e = .returned v2 ∧ wpOpsIn _ _ _ _ _ [7] (((((((b.put (some 11) (.func (.yield l) #[] #[])).put (some 12) (.int .i64 ((k : Nat) : Int))).put (some 13) hv).put (some 14) (.int .i64 ((k : Nat) : Int))).put (some 15) (.pointer (some ad))).put (some 16) v).put (some 17) v2) w2
      generalize (((((b.put (some 11) (.func (.yield l) #[] #[])).put (some 12) (.int .i64 ((k : Nat) : Int))).put (some 13) hv).put (some 14) (.int .i64 ((k : Nat) : Int))).put (some 15) (.pointer (some ad))).put (some 16) v = c
      intro C0 C3
      rcases he with ⟨rfl, hJ2⟩ | ⟨rfl, hJ2⟩
      · refine ⟨_, rfl, ?_⟩
        refine ops_cons rfl rfl (v := .bool false) (w' := w2) ?_ ?_
        · simp [execOp, go_sem, C0.s, Op.unary, Result.andThen]
        have D := (C0.put 17 (.bool true) (by omega)).put 18 (.bool false) (by omega)
        have D3 : ((c.put (some 17) (.bool true)).put (some 18) (.bool false)).tmps[3]? = some (.int .i64 ((k : Nat) : Int)) := by
          rw [put_ne _ _ _ _ (by omega), put_ne _ _ _ _ (by omega)]; exact C3
        have e18 := (C0.put 17 (.bool true) (by omega)).get 18 (.bool false) (by omega)
        refine wpIn_cond_false (c := .tmp 18) (ev_tmp e18) (wpIn_skip ?_)
        revert D D3
        show BackT l pa ((c.put (some 17) (.bool true)).put (some 18) (.bool false)) → _ → Code.wpIn (Fen none) 0 Tryz.prog (Code.r (Code.r (Code.l (Code.l (Code.r (bodyOf Tryz.f188)))))) _ ((c.put (some 17) (.bool true)).put (some 18) (.bool false)) w2
        generalize (c.put (some 17) (.bool true)).put (some 18) (.bool false) = d
        intro D D3
        refine wpIn_region ?_
        show wpOpsIn _ _ _ _ _ [0, 1, 2] _ _
        refine ops_cons rfl rfl (v := .int .i64 ((k : Nat) : Int)) (w' := w2) ?_ ?_
        · simp [execOp, go_sem, D3, Result.andThen]
        refine ops_cons rfl rfl (v := .int .i64 (((k : Nat) : Int) - 1)) (w' := w2) ?_ ?_
        · simp [execOp, go_sem, D.s, run_sub, Result.andThen]
          exact wrap_i64 (by omega) (by omega)
        refine ops_cons rfl rfl (v := .int .i64 (((k : Nat) : Int) - 1)) (w' := w2) ?_ ?_
        · simp [execOp, go_sem, D.s, Result.andThen]
        exact ih _ w2 (by omega) (((D.put 9 _ (by omega)).put 10 _ (by omega)).put 3 _ (by omega)) (((D.put 9 _ (by omega)).put 10 _ (by omega)).get 3 _ (by omega)) hJ2
      · refine ⟨_, rfl, ?_⟩
        refine ops_cons rfl rfl (v := .bool true) (w' := w2) ?_ ?_
        · simp [execOp, go_sem, C0.s, Op.unary, Result.andThen]
        have D := (C0.put 17 (.bool false) (by omega)).put 18 (.bool true) (by omega)
        have e18 := (C0.put 17 (.bool false) (by omega)).get 18 (.bool true) (by omega)
        refine wpIn_cond_true (c := .tmp 18) (ev_tmp e18) (wpIn_ret ?_)
        exact ⟨D.d, res _ _ (.inr hJ2)⟩
  refine wpIn_seq (x := Code.l (bodyOf Tryz.f188)) (y := Code.r (bodyOf Tryz.f188)) (wpIn_region ?_)
  show wpOpsIn _ _ _ _ _ [0, 1, 2, 3] _ _
  refine ops_cons rfl rfl (v := .slice base N cap) (w' := W) ?_ ?_
  · simp [execOp, ev_tmp A.t1, Instr.loadAt, Instr.sureAddr, hload, Result.andThen]
  refine ops_cons rfl rfl (v := .int .i64 N) (w' := W) ?_ ?_
  · simp [execOp, go_sem, A.s, Builtin.len_, run_underlying Tryz.underlying102, goInt, Result.andThen]
  refine ops_cons rfl rfl (v := .int .i64 ((N : Int) - 1)) (w' := W) ?_ ?_
  · simp [execOp, go_sem, A.s, run_sub, Result.andThen]
    exact wrap_i64 (by omega) (by omega)
  refine ops_cons rfl rfl (v := .int .i64 ((N : Int) - 1)) (w' := W) ?_ ?_
  · simp [execOp, go_sem, A.s, Result.andThen]
  have A2 := (((A.put 4 (.slice base N cap) (by omega)).put 5 (.int .i64 N) (by omega)).put 6 (.int .i64 ((N : Int) - 1)) (by omega)).put 3 (.int .i64 ((N : Int) - 1)) (by omega)
  have A3 := (((A.put 4 (.slice base N cap) (by omega)).put 5 (.int .i64 N) (by omega)).put 6 (.int .i64 ((N : Int) - 1)) (by omega)).get 3 (.int .i64 ((N : Int) - 1)) (by omega)
  show (Code.block 0 (.loop (Code.l (Code.l (Code.r (bodyOf Tryz.f188)))))).wpIn (Fen none) 0 Tryz.prog (bodyPost Tryz.prog Tryz.f188 X) _ W
  exact wpIn_block (wpIn_loop_rounds (N + 1) (key N _ W (Nat.le_refl _) A2 A3 h0))
end Go.Proofs.YtnipccoenalnkaaGreat
