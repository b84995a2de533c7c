/- The abstract machine, 14: every operation, by what it looks at. -/
import Derived.Test.YtnipccoenalnkaaGreatAb13
namespace Go.Proofs.YtnipccoenalnkaaGreat.Ab
open Go
set_option linter.unusedVariables false
set_option linter.unusedSimpArgs false

section
variable {C : Ctx} {o : Oper} {st : St}

theorem builtinA_uni {R0 : Type} {P : Program} {b : Builtin} {ts : List TypeId} {vs : List TV} {K0 : AV → St → Option R0} {r0 : R0} (h : builtinA P st b ts vs K0 = some r0) :
    (∃ v, K0 v st = some r0 ∧ nolp v = true ∧ (b = .min ∨ b = .max ∨ (b = .len ∧ lenFoot P ts = .no)) ∧ ∀ (st' : St) (R : Type) (K : AV → St → Option R), builtinA P st' b ts vs K = K v st') ∨
    (∃ v, K0 v st = some r0 ∧ nolp v = true ∧ b = .len ∧ lenFoot P ts = .hq ∧ ∀ st', st'.heap = st.heap → ∀ (R : Type) (K : AV → St → Option R), builtinA P st' b ts vs K = K v st') ∨
    (∃ v H, K0 v (st.withHeap H) = some r0 ∧ nolp v = true ∧ b ≠ .len ∧ b ≠ .min ∧ b ≠ .max ∧ ∀ st', st'.heap = st.heap → ∀ (R : Type) (K : AV → St → Option R), builtinA P st' b ts vs K = K v (st'.withHeap H)) := by
  unfold builtinA at h
  split at h
  · rename_i t v
    split at h
    · rename_i hu
      simp only [Option.bind_eq_some_iff] at h
      obtain ⟨c, hc, s, hs, h⟩ := h
      exact .inl ⟨_, h, rfl, .inr (.inr ⟨rfl, by simp only [lenFoot, hu]⟩), fun st' R K => by simp only [builtinA, hu, hc, hs, Option.bind_some]⟩
    · rename_i n e hu
      exact .inl ⟨_, h, rfl, .inr (.inr ⟨rfl, by simp only [lenFoot, hu]⟩), fun st' R K => by simp only [builtinA, hu]⟩
    · rename_i e hu
      simp only [Option.bind_eq_some_iff] at h
      obtain ⟨c, hc, s, hs, h⟩ := h
      exact .inl ⟨_, h, rfl, .inr (.inr ⟨rfl, by simp only [lenFoot, hu]⟩), fun st' R K => by simp only [builtinA, hu, hc, hs, Option.bind_some]⟩
    · rename_i k e hu
      simp only [Option.bind_eq_some_iff] at h
      obtain ⟨c, hc, s, hs, n, hn, h⟩ := h
      exact .inr (.inl ⟨_, h, rfl, rfl, by simp only [lenFoot, hu], fun st' hh R K => by simp only [builtinA, hu, hc, hs, hh, hn, Option.bind_some]⟩)
    · cases h
  · rename_i t u v w
    split at h
    case h_2 => cases h
    rename_i e hu
    simp only [Option.bind_eq_some_iff] at h
    obtain ⟨n, hn, by', hby, z, hz, h⟩ := h
    cases hb : (z.length == n && Nat.blt 0 by') with
    | false => rw [hb, cond_false] at h; cases h
    | true =>
      rw [hb, cond_true] at h
      simp only [Option.bind_eq_some_iff] at h
      obtain ⟨c, hc, s, hs, d, hd, h⟩ := h
      split at h
      · rename_i e2 hu2
        simp only [Option.bind_eq_some_iff] at h
        obtain ⟨x, hx, p, hp, h⟩ := h
        exact .inr (.inr ⟨_, _, h, rfl, by simp, by simp, by simp, fun st' hh R K => by
          simp only [builtinA, hu, hn, hby, hz, hb, hc, hs, hd, hu2, hx, hh, hp, Option.bind_some, cond_true]⟩)
      · rename_i hu2
        simp only [Option.bind_eq_some_iff] at h
        obtain ⟨x, hx, h⟩ := h
        cases hb2 : (n == 1 && by' == 1) with
        | false => rw [hb2, cond_false] at h; cases h
        | true =>
          rw [hb2, cond_true] at h
          simp only [Option.bind_eq_some_iff] at h
          obtain ⟨p, hp, h⟩ := h
          exact .inr (.inr ⟨_, _, h, rfl, by simp, by simp, by simp, fun st' hh R K => by
            simp only [builtinA, hu, hn, hby, hz, hb, hc, hs, hd, hu2, hx, hb2, hh, hp, Option.bind_some, cond_true]⟩)
      · rename_i hu2
        simp only [Option.bind_eq_some_iff] at h
        obtain ⟨x, hx, p, hp, h⟩ := h
        exact .inr (.inr ⟨_, _, h, rfl, by simp, by simp, by simp, fun st' hh R K => by
          simp only [builtinA, hu, hn, hby, hz, hb, hc, hs, hd, hu2, hx, hh, hp, Option.bind_some, cond_true]⟩)
      · cases h
  · rename_i t u v w
    split at h
    case h_2 => cases h
    rename_i e e2 hu hu2
    simp only [Option.bind_eq_some_iff] at h
    obtain ⟨n, hn, c, hc, d, hd, c', hc', x, hx, p, hp, h⟩ := h
    exact .inr (.inr ⟨_, _, h, rfl, by simp, by simp, by simp, fun st' hh R K => by
      simp only [builtinA, hu, hu2, hn, hc, hd, hc', hx, hh, hp, Option.bind_some]⟩)
  · rename_i t v
    split at h
    case h_2 => cases h
    rename_i e hu
    simp only [Option.bind_eq_some_iff] at h
    obtain ⟨n, hn, z, hz, h⟩ := h
    cases hb : (z.length == n && Nat.blt 0 n) with
    | false => rw [hb, cond_false] at h; cases h
    | true =>
      rw [hb, cond_true] at h
      simp only [Option.bind_eq_some_iff] at h
      obtain ⟨c, hc, s, hs, H, hH, h⟩ := h
      exact .inr (.inr ⟨_, _, h, rfl, by simp, by simp, by simp, fun st' hh R K => by
        simp only [builtinA, hu, hn, hz, hb, hc, hs, hh, hH, Option.bind_some, cond_true]⟩)
  · rename_i t v
    split at h
    case h_2 => cases h
    rename_i e hu
    simp only [Option.bind_eq_some_iff] at h
    obtain ⟨c, hc, s, hs, n, hn, h⟩ := h
    exact .inr (.inr ⟨_, _, h, rfl, by simp, by simp, by simp, fun st' hh R K => by
      simp only [builtinA, hu, hc, hs, hn, hh, Option.bind_some]⟩)
  · rename_i t ts v vs
    simp only [Option.bind_eq_some_iff] at h
    obtain ⟨k, hk, c, hc, n, hn, cs, hcs, h⟩ := h
    obtain ⟨y, h1, h2⟩ := minA_uni h
    exact .inl ⟨_, h1, rfl, .inl rfl, fun st' R K => by simp only [builtinA, hk, hc, hn, hcs, Option.bind_some, h2]⟩
  · rename_i t ts v vs
    simp only [Option.bind_eq_some_iff] at h
    obtain ⟨k, hk, c, hc, n, hn, cs, hcs, h⟩ := h
    obtain ⟨y, h1, h2⟩ := minA_uni h
    exact .inl ⟨_, h1, rfl, .inr (.inl rfl), fun st' R K => by simp only [builtinA, hk, hc, hn, hcs, Option.bind_some, h2]⟩
  · cases h

theorem operandFoot_same {x : Operand} {dst : Option Nat} {v : AV} (hv : ev st x = some v) : Fits (operandFoot st x .no .lr) st dst (.val v) := by
  unfold operandFoot
  rw [hv]
  cases v with
  | lp k off => exact ⟨_, rfl, fun j o h => by cases h; rfl⟩
  | _ => exact ⟨_, rfl, rfl⟩
theorem operandFoot_no {x : Operand} {dst : Option Nat} {u v : AV} (hv : ev st x = some u) (hu : nolp u = true) (hn : nolp v = true) : Fits (operandFoot st x .no .lr) st dst (.val v) := by
  unfold operandFoot
  rw [hv]
  cases u <;> first | exact ⟨_, rfl, hn⟩ | simp [nolp] at hu
theorem operandFoot_lp {x : Operand} {dst : Option Nat} {k off off' : Nat} (hv : ev st x = some (.lp k off)) : Fits (operandFoot st x .no .lr) st dst (.val (.lp k off')) := by
  unfold operandFoot
  rw [hv]
  exact ⟨_, rfl, fun j o h => by cases h; rfl⟩

theorem uniform (hN : CtxNat C) {R0 : Type} {K0 : St → Option R0} {r0 : R0} (h : astep C o st K0 = some r0) :
    ∃ e, K0 (app e o.dst st) = some r0 ∧ Fits (foot C st o) st o.dst e ∧ ∀ st', Agree C o st st' → ∀ (R : Type) (K : St → Option R), astep C o st' K = K (app e o.dst st') := by
  obtain ⟨dst, op, type, pos, after, guard⟩ := o
  cases op <;> simp only [astep] at h ⊢
  case move x =>
    simp only [Option.bind_eq_some_iff] at h
    obtain ⟨v, hv, h⟩ := h
    exact ⟨.val v, h, operandFoot_same hv, fun st' ag R K => by simp only [ag.ev x (by simp [Op.operands]), hv, Option.bind_some]; rfl⟩
  case assign x =>
    simp only [Option.bind_eq_some_iff] at h
    obtain ⟨v, hv, h⟩ := h
    exact ⟨.val v, h, operandFoot_same hv, fun st' ag R K => by simp only [ag.ev x (by simp [Op.operands]), hv, Option.bind_some]; rfl⟩
  case pick c x y =>
    simp only [Option.bind_eq_some_iff] at h
    obtain ⟨cc, hc, t, ht, h⟩ := h
    have hf : ∀ v, (ev st x = some v ∨ ev st y = some v) → Fits (foot C st { dst := dst, op := Op.pick c x y, type := type, pos := pos, after := after, guard := guard }) st dst (.val v) := by
      intro v hv
      simp only [foot]
      split
      · exact ⟨v, rfl⟩
      · exact ⟨v, rfl⟩
      · rename_i n1 n2
        refine ⟨v, rfl, ?_⟩
        cases v with
        | lp k off => rcases hv with hv | hv; exact absurd hv (n1 k off); exact absurd hv (n2 k off)
        | _ => rfl
    cases t with
    | true =>
      simp only [cond_true, Option.bind_eq_some_iff] at h
      obtain ⟨v, hv, h⟩ := h
      exact ⟨.val v, h, hf v (.inl hv), fun st' ag R K => by
        simp only [evc_agree (ag.ev c (by simp [Op.operands])), ag.ev x (by simp [Op.operands]), hc, ht, hv, Option.bind_some, cond_true]; rfl⟩
    | false =>
      simp only [cond_false, Option.bind_eq_some_iff] at h
      obtain ⟨v, hv, h⟩ := h
      exact ⟨.val v, h, hf v (.inr hv), fun st' ag R K => by
        simp only [evc_agree (ag.ev c (by simp [Op.operands])), ag.ev y (by simp [Op.operands]), hc, ht, hv, Option.bind_some, cond_false]; rfl⟩
  case alloc e =>
    obtain ⟨o0, ho0⟩ : ∃ o0 : Oper, o0 = { dst := dst, op := Op.alloc e, type := type, pos := pos, after := after, guard := guard } := ⟨_, rfl⟩
    simp only [Option.bind_eq_some_iff] at h
    obtain ⟨z, hz, n, hsz, h⟩ := h
    cases hb : (z.length == n && Nat.blt 0 n) with
    | false => rw [hb, cond_false] at h; cases h
    | true =>
      rw [hb, cond_true] at h
      obtain ⟨e', h1, h2, h3⟩ := allocA_uni (o := o0) h
      refine ⟨e', h1, h2, fun st' ag R K => ?_⟩
      simp only [hz, hsz, hb, Option.bind_some, cond_true]
      refine h3 st' ag.heap (fun d hdst hd hcl => ?_) R K
      subst hdst
      exact ag.clean d (by simp only [foot, allocFoot, hd, cond_true]) hcl
  case box e x =>
    obtain ⟨o0, ho0⟩ : ∃ o0 : Oper, o0 = { dst := dst, op := Op.box e x, type := type, pos := pos, after := after, guard := guard } := ⟨_, rfl⟩
    simp only [Option.bind_eq_some_iff] at h
    obtain ⟨v, hv, cs, hcs, n, hsz, h⟩ := h
    cases hb : (cs.length == n && Nat.blt 0 n) with
    | false => rw [hb, cond_false] at h; cases h
    | true =>
      rw [hb, cond_true] at h
      obtain ⟨e', h1, h2, h3⟩ := allocA_uni (o := o0) h
      refine ⟨e', h1, h2, fun st' ag R K => ?_⟩
      simp only [ag.ev x (by simp [Op.operands]), hv, hcs, hsz, hb, Option.bind_some, cond_true]
      refine h3 st' ag.heap (fun d hdst hd hcl => ?_) R K
      subst hdst
      exact ag.clean d (by simp only [foot, allocFoot, hd, cond_true]) hcl
  case build t parts =>
    simp only [Option.bind_eq_some_iff] at h
    obtain ⟨ps, hps, z, hz, h⟩ := h
    have hpa : ∀ st', Agree C { dst := dst, op := Op.build t parts, type := type, pos := pos, after := after, guard := guard } st st' → evParts st' parts.toList = some ps := by
      intro st' ag
      rw [evParts_agree fun x hx => ag.ev x.2 (by simp [Op.operands]; exact ⟨x.1, by simpa using hx⟩), hps]
    split at h
    · rename_i fs hu
      simp only [Option.bind_eq_some_iff] at h
      obtain ⟨pl, hpl, cs, hcs, h⟩ := h
      exact ⟨.val _, h, ⟨_, rfl, rfl⟩, fun st' ag R K => by simp only [hpa st' ag, hz, hpl, hcs, Option.bind_some]; rfl⟩
    · rename_i n e hu
      simp only [Option.bind_eq_some_iff] at h
      obtain ⟨s, hss, cs, hcs, h⟩ := h
      exact ⟨.val _, h, ⟨_, rfl, rfl⟩, fun st' ag R K => by simp only [hpa st' ag, hz, hss, hcs, Option.bind_some]; rfl⟩
    · cases h
  case buildSlice t len parts =>
    simp only [Option.bind_eq_some_iff] at h
    obtain ⟨ps, hps, h⟩ := h
    split at h
    case h_2 => cases h
    rename_i e hu
    simp only [Option.bind_eq_some_iff] at h
    obtain ⟨s, hss, z, hz, h⟩ := h
    cases hb : (Nat.ble (len * s) 16777216 && (z.length == s) && Nat.blt 0 s) with
    | false => rw [hb, cond_false] at h; cases h
    | true =>
      rw [hb, cond_true] at h
      simp only [Option.bind_eq_some_iff] at h
      obtain ⟨cs, hcs, h⟩ := h
      obtain ⟨e', h1, h2, h3⟩ := newB_uni (o := { dst := dst, op := Op.buildSlice t len parts, type := type, pos := pos, after := after, guard := guard }) (v := fun id => .c (.slice (some ⟨id, 0, len, len, s⟩))) (fun _ => rfl) (by simp) h
      refine ⟨e', h1, h2, fun st' ag R K => ?_⟩
      rw [evParts_agree fun x hx => ag.ev x.2 (by simp [Op.operands]; exact ⟨x.1, by simpa using hx⟩), hps]
      simp only [hss, hz, hb, hcs, Option.bind_some, cond_true]
      exact h3 st' ag.heap R K
  case load t x =>
    simp only [Option.bind_eq_some_iff] at h
    obtain ⟨v, hv, h⟩ := h
    simp only [loadA, Option.bind_eq_some_iff] at h
    obtain ⟨g, hg, n, hn, h⟩ := h
    have hpt : ∀ q : Nat × Nat, v = .c (.ptr (some q)) → 
        (bif g then cellsAt st.heap q.1 n q.2 (fun cs => reAV C.P t (.agg cs) fun y => K0 (st.set dst y)) else (st.heap.get q.1 q.2).bind fun c => reAV C.P t (.c c) fun y => K0 (st.set dst y)) = some r0 →
        ∃ e, K0 (app e dst st) = some r0 ∧ Fits (foot C st { dst := dst, op := Op.load t x, type := type, pos := pos, after := after, guard := guard }) st dst e ∧
          ∀ st', Agree C { dst := dst, op := Op.load t x, type := type, pos := pos, after := after, guard := guard } st st' → ∀ (R : Type) (K : St → Option R),
            ((ev st' x).bind fun a => loadA C.P st' t a fun x => reAV C.P t x fun x => K (st'.set dst x)) = K (app e dst st') := by
      rintro ⟨id, off⟩ rfl h
      have hft : foot C st { dst := dst, op := Op.load t x, type := type, pos := pos, after := after, guard := guard } = .hl id := by simp [foot, hv]
      cases g with
      | true =>
        simp only [cond_true] at h
        obtain ⟨l, hl, _, h1, hn0⟩ := cellsAt_some h
        obtain ⟨h1, hre⟩ := reAV_uni h1
        refine ⟨.val _, h1, by rw [hft]; exact ⟨_, rfl, rfl⟩, fun st' ag R K => ?_⟩
        have hh := ag.heap
        rw [hft] at hh
        have hh' : st'.heap[id]? = st.heap[id]? := hh
        simp only [ag.ev x (by simp [Op.operands]), hv, Option.bind_some, loadA, hg, hn, cond_true, cellsAt_of _ hn0 ((getN_agree hh' off n).trans hl), hre]
        rfl
      | false =>
        simp only [cond_false, Option.bind_eq_some_iff] at h
        obtain ⟨c, hc, h⟩ := h
        obtain ⟨h, hre⟩ := reAV_uni h
        refine ⟨.val _, h, by rw [hft]; exact ⟨_, rfl, rfl⟩, fun st' ag R K => ?_⟩
        have hh := ag.heap
        rw [hft] at hh
        have hh' : st'.heap[id]? = st.heap[id]? := hh
        simp only [ag.ev x (by simp [Op.operands]), hv, Option.bind_some, loadA, hg, hn, cond_false, get_agree hh', hc, hre]
        rfl
    cases v with
    | c c =>
      cases c with
      | ptr p =>
        simp only [Option.bind_eq_some_iff] at h
        obtain ⟨q, rfl, h⟩ := h
        exact hpt q rfl h
      | _ => simp [Cell.toPtr] at h
    | lp k off =>
      simp only [Option.bind_eq_some_iff] at h
      obtain ⟨cs, hcs, h⟩ := h
      have hft : foot C st { dst := dst, op := Op.load t x, type := type, pos := pos, after := after, guard := guard } = .lr k := by simp [foot, operandFoot, hv]
      cases g with
      | true =>
        rw [cond_true] at h
        cases hb : Nat.ble (off + n) cs.length with
        | false => rw [hb, cond_false] at h; cases h
        | true =>
          rw [hb, cond_true] at h
          obtain ⟨h, hre⟩ := reAV_uni h
          refine ⟨.val _, h, by rw [hft]; exact ⟨_, rfl, fun j o h => by cases h⟩, fun st' ag R K => ?_⟩
          simp only [ag.ev x (by simp [Op.operands]), hv, Option.bind_some, loadA, hg, hn, ag.loc k (by rw [hft]; simp), hcs, cond_true, hb, hre]
          rfl
      | false =>
        simp only [cond_false, Option.bind_eq_some_iff] at h
        obtain ⟨c, hc, h⟩ := h
        obtain ⟨h, hre⟩ := reAV_uni h
        refine ⟨.val _, h, by rw [hft]; exact ⟨_, rfl, fun j o h => by cases h⟩, fun st' ag R K => ?_⟩
        simp only [ag.ev x (by simp [Op.operands]), hv, Option.bind_some, loadA, hg, hn, ag.loc k (by rw [hft]; simp), hcs, cond_false, hc, hre]
        rfl
    | _ => cases h
  case store t x y =>
    simp only [Option.bind_eq_some_iff] at h
    obtain ⟨v, hv, u, hu, h⟩ := h
    simp only [storeA, Option.bind_eq_some_iff] at h
    obtain ⟨n, hn, vs, hvs, h⟩ := h
    cases hb : (vs.length == n) with
    | false => rw [hb, cond_false] at h; cases h
    | true =>
      rw [hb, cond_true] at h
      cases v with
      | c c =>
        simp only [Option.bind_eq_some_iff] at h
        obtain ⟨p, hp, q, hq, H, hH, h⟩ := h
        have hft : foot C st { dst := dst, op := Op.store t x y, type := type, pos := pos, after := after, guard := guard } = .hw := by simp [foot, operandFoot, hv]
        refine ⟨.heap (.tup []) H, h, by rw [hft]; exact ⟨_, _, rfl, rfl⟩, fun st' ag R K => ?_⟩
        have hh := ag.heap
        rw [hft] at hh
        simp only [HeapOk] at hh
        simp only [ag.ev x (by simp [Op.operands]), ag.ev y (by simp [Op.operands]), hv, hu, Option.bind_some, storeA, hn, hvs, hb, cond_true, hp, hq, hh, hH]
        rfl
      | lp k off =>
        simp only [Option.bind_eq_some_iff] at h
        obtain ⟨cs, hcs, h⟩ := h
        cases hb2 : Nat.ble (off + n) cs.length with
        | false => rw [hb2, cond_false] at h; cases h
        | true =>
          rw [hb2, cond_true] at h
          have hft : foot C st { dst := dst, op := Op.store t x y, type := type, pos := pos, after := after, guard := guard } = .lw k := by simp [foot, operandFoot, hv]
          refine ⟨.sto k (splice cs off vs), h, by rw [hft]; exact ⟨_, rfl⟩, fun st' ag R K => ?_⟩
          simp only [ag.ev x (by simp [Op.operands]), ag.ev y (by simp [Op.operands]), hv, hu, Option.bind_some, storeA, hn, hvs, hb, cond_true, ag.loc k (by rw [hft]; simp), hcs, hb2]
          rfl
      | _ => cases h
  case nilCheck x =>
    simp only [Option.bind_eq_some_iff] at h
    obtain ⟨v, hv, h⟩ := h
    split at h
    · exact ⟨.val _, h, operandFoot_lp hv, fun st' ag R K => by simp only [ag.ev x (by simp [Op.operands]), hv, Option.bind_some]; rfl⟩
    · exact ⟨.val _, h, operandFoot_no hv rfl rfl, fun st' ag R K => by simp only [ag.ev x (by simp [Op.operands]), hv, Option.bind_some]; rfl⟩
    · rename_i c hno
      simp only [Option.bind_eq_some_iff] at h
      obtain ⟨p, hp, q, hq, h⟩ := h
      have := toPtr_some hp; subst this
      exact ⟨.val _, h, operandFoot_no hv rfl rfl, fun st' ag R K => by simp only [ag.ev x (by simp [Op.operands]), hv, Option.bind_some, hq]; rfl⟩
    · cases h
  case binOp op xt x y yt =>
    obtain ⟨c, h1, h2⟩ := binA_uni h
    exact ⟨.val _, h1, ⟨_, rfl, rfl⟩, fun st' ag R K => by rw [h2 st' (ag.ev x (by simp [Op.operands])) (ag.ev y (by simp [Op.operands]))]; rfl⟩
  case unOp op xt x =>
    simp only [Option.bind_eq_some_iff] at h
    obtain ⟨c, hc, h⟩ := h
    obtain ⟨d, h1, h2⟩ := unA_uni h
    exact ⟨.val _, h1, ⟨_, rfl, rfl⟩, fun st' ag R K => by simp only [evc_agree (ag.ev x (by simp [Op.operands])), hc, Option.bind_some, h2]; rfl⟩
  case convert s d x =>
    simp only [Option.bind_eq_some_iff] at h
    obtain ⟨c, hc, h⟩ := h
    have hev : ∀ st', Agree C { dst := dst, op := Op.convert s d x, type := type, pos := pos, after := after, guard := guard } st st' → evc st' x = some c := by
      intro st' ag
      rw [evc_agree (ag.ev x (by simp [Op.operands])), hc]
    split at h
    · rename_i k k' hu1 hu2
      simp only [Option.bind_eq_some_iff] at h
      obtain ⟨n, hk, h⟩ := h
      exact ⟨.val _, h, by simp only [foot, hu1]; exact ⟨_, rfl, rfl⟩, fun st' ag R K => by simp only [hev st' ag, Option.bind_some, hk]; rfl⟩
    · rename_i hu1 hu2
      simp only [Option.bind_eq_some_iff] at h
      obtain ⟨n, hk, h⟩ := h
      exact ⟨.val _, h, by simp only [foot, hu1, hu2]; exact ⟨_, rfl, rfl⟩, fun st' ag R K => by simp only [hev st' ag, Option.bind_some, hk]; rfl⟩
    · rename_i e hu1 hu2
      split at h
      case h_2 => cases h
      rename_i hu3
      simp only [Option.bind_eq_some_iff] at h
      obtain ⟨n, hk, h⟩ := h
      cases hb : decide (n.size ≤ most) with
      | false => rw [hb, cond_false] at h; cases h
      | true =>
        rw [hb, cond_true] at h
        have hft : foot C st { dst := dst, op := Op.convert s d x, type := type, pos := pos, after := after, guard := guard } = newFoot C dst := by simp only [foot, hu1, hu2]
        obtain ⟨e', h1, h2, h3⟩ := newB_uni (o := { dst := dst, op := Op.convert s d x, type := type, pos := pos, after := after, guard := guard }) (v := fun id => .c (.slice (some ⟨id, 0, n.size, n.size, 1⟩))) (fun _ => rfl) (by simp) h
        refine ⟨e', h1, by rw [hft]; exact h2, fun st' ag R K => ?_⟩
        have hh := ag.heap
        rw [hft] at hh
        simp only [hev st' ag, Option.bind_some, hk, hb, cond_true]
        exact h3 st' hh R K
    · rename_i e hu1 hu2
      split at h
      case h_2 => cases h
      rename_i hu3
      simp only [Option.bind_eq_some_iff] at h
      obtain ⟨sl, hk, b, hb, h⟩ := h
      have hcs : c = .slice sl := by cases c <;> simp [Cell.toSlice] at hk; subst hk; rfl
      subst hcs
      have hft : foot C st { dst := dst, op := Op.convert s d x, type := type, pos := pos, after := after, guard := guard } = .hs sl := by simp only [foot, hu1, hu2, hc]
      refine ⟨.val _, h, by rw [hft]; exact ⟨_, rfl, rfl⟩, fun st' ag R K => ?_⟩
      have hh := ag.heap
      rw [hft] at hh
      simp only [HeapOk] at hh
      have hb' : st'.heap.str sl = some b := by
        rw [← hb]
        cases sl with
        | none => rfl
        | some sl => simp only [Heap.str, getN_agree (hh sl rfl)]
      simp only [hev st' ag, Option.bind_some, hk, hb']
      rfl
    · rename_i e0 e hu1 hu2
      split at h
      case h_2 => cases h
      rename_i hu3
      cases hsd : s == d with
      | false => rw [hsd, cond_false] at h; cases h
      | true =>
        rw [hsd, cond_true] at h
        simp only [Option.bind_eq_some_iff] at h
        obtain ⟨x', hk, sl, rfl, h⟩ := h
        cases hor : decide (0 < sl.cap) && ownRow st.heap sl.id with
        | false => rw [hor, cond_false] at h; cases h
        | true =>
          rw [hor, cond_true] at h
          have hft : foot C st { dst := dst, op := Op.convert s d x, type := type, pos := pos, after := after, guard := guard } = .hq := by simp only [foot, hu1, hu2]
          refine ⟨.val _, h, by rw [hft]; exact ⟨_, rfl, rfl⟩, fun st' ag R K => ?_⟩
          have hh := ag.heap
          rw [hft] at hh
          simp only [HeapOk] at hh
          simp only [hev st' ag, Option.bind_some, hk, hsd, hh, hor, cond_true]
          rfl
    · cases h
  case makeFunc fn first captured =>
    cases fn <;> simp only at h ⊢ <;> try (cases h; done)
    simp only [Option.bind_eq_some_iff] at h
    obtain ⟨fs, hfs, cs, hcs, h⟩ := h
    exact ⟨.val _, h, ⟨_, rfl, rfl⟩, fun st' ag R K => by
      rw [evcs_agree fun x hx => ag.ev x (by simp [Op.operands]; exact .inl (by simpa using hx)), evcs_agree fun x hx => ag.ev x (by simp [Op.operands]; exact .inr (by simpa using hx))]
      simp only [hfs, hcs, Option.bind_some]; rfl⟩
  case makeMap t r =>
    simp only [Option.bind_eq_some_iff] at h
    obtain ⟨n, hn, h⟩ := h
    split at h
    case h_2 => cases h
    rename_i kt e hu
    obtain ⟨e', h1, h2, h3⟩ := newB_uni (o := { dst := dst, op := Op.makeMap t r, type := type, pos := pos, after := after, guard := guard }) (v := fun id => .c (.map (some id))) (fun _ => rfl) (by simp) h
    refine ⟨e', h1, h2, fun st' ag R K => ?_⟩
    rw [evOpt_agree fun y hy => ag.ev y (by simp [Op.operands, hy]), hn]
    simp only [Option.bind_some]
    exact h3 st' ag.heap R K
  case makeSlice t l c =>
    simp only [Option.bind_eq_some_iff] at h
    obtain ⟨cl, hcl, l', hl', cc, hcc, c', hc', h⟩ := h
    split at h
    case h_2 => cases h
    rename_i e hu
    simp only [Option.bind_eq_some_iff] at h
    obtain ⟨n, hsz, by', hby, z, hz, h⟩ := h
    cases hb : (z.length == n && Nat.blt 0 n) with
    | false => rw [hb, cond_false] at h; cases h
    | true =>
      rw [hb, cond_true] at h
      split at h
      · rename_i hbase
        simp only [Option.bind_eq_some_iff] at h
        obtain ⟨p, hp, h⟩ := h
        have hft : foot C st { dst := dst, op := Op.makeSlice t l c, type := type, pos := pos, after := after, guard := guard } = .ha := by simp only [foot, newFoot, hbase]
        refine ⟨.heap _ p.2, h, ?_, fun st' ag R K => ?_⟩
        · rw [hft]
          unfold Heap.make at hp
          split at hp
          · simp at hp
            subst hp
            exact ⟨_, _, rfl, rfl⟩
          · cases hp
        · have hh := ag.heap
          rw [hft] at hh
          simp only [HeapOk] at hh
          simp only [evc_agree (ag.ev l (by simp [Op.operands])), evc_agree (ag.ev c (by simp [Op.operands])), hcl, hl', hcc, hc', hsz, hby, hz, hb, cond_true, Option.bind_some, hh, hp, hbase]
          rfl
      · rename_i n0 hbase
        cases hm : makeOk by' l' c' with
        | false => rw [hm, cond_false] at h; cases h
        | true =>
          rw [hm, cond_true] at h
          obtain ⟨e', h1, h2, h3⟩ := newB_uni (o := { dst := dst, op := Op.makeSlice t l c, type := type, pos := pos, after := after, guard := guard }) (v := fun id => .c (.slice (some ⟨id, 0, l'.toNat, c'.toNat, n⟩))) (fun _ => rfl) (by simp) h
          refine ⟨e', h1, h2, fun st' ag R K => ?_⟩
          simp only [evc_agree (ag.ev l (by simp [Op.operands])), evc_agree (ag.ev c (by simp [Op.operands])), hcl, hl', hcc, hc', hsz, hby, hz, hb, cond_true, Option.bind_some, hm, hbase]
          exact h3 st' ag.heap R K
  case slice t x lo hi mx =>
    cases mx <;> simp only at h ⊢ <;> try (cases h; done)
    simp only [Option.bind_eq_some_iff] at h
    obtain ⟨v, hv, lo', hlo, hi', hhi, h⟩ := h
    obtain ⟨y, h1, hnl, h2⟩ := sliceA_uni h
    exact ⟨.val _, h1, ⟨_, rfl, hnl⟩, fun st' ag R K => by
      rw [ag.ev x (by simp [Op.operands]), evOpt_agree (x := lo) fun y hy => ag.ev y (by simp [Op.operands, hy]), evOpt_agree (x := hi) fun y hy => ag.ev y (by simp [Op.operands, hy])]
      simp only [hv, hlo, hhi, Option.bind_some, h2]; rfl⟩
  case fieldAddr s x f =>
    simp only [Option.bind_eq_some_iff] at h
    obtain ⟨v, hv, fd, hfd, n, hn, h⟩ := h
    cases hb : (n == 0) with
    | true => rw [hb, cond_true] at h; cases h
    | false =>
      rw [hb, cond_false] at h
      split at h
      · exact ⟨.val _, h, operandFoot_lp hv, fun st' ag R K => by simp only [ag.ev x (by simp [Op.operands]), hv, hfd, hn, hb, cond_false, Option.bind_some]; rfl⟩
      · simp only [Option.bind_eq_some_iff] at h
        obtain ⟨p, hp, q, hq, h⟩ := h
        exact ⟨.val _, h, operandFoot_no hv rfl rfl, fun st' ag R K => by simp only [ag.ev x (by simp [Op.operands]), hv, hfd, hn, hb, cond_false, Option.bind_some, hp, hq]; rfl⟩
      · cases h
  case field s x f =>
    simp only [Option.bind_eq_some_iff] at h
    obtain ⟨v, hv, fd, hfd, h⟩ := h
    split at h
    · obtain ⟨y, h1, hnl, h2⟩ := partA_uni h
      exact ⟨.val _, h1, ⟨_, rfl, hnl⟩, fun st' ag R K => by simp only [ag.ev x (by simp [Op.operands]), hv, hfd, Option.bind_some, h2]; rfl⟩
    · cases h
  case indexAddr t x ix =>
    simp only [Option.bind_eq_some_iff] at h
    obtain ⟨v, hv, c, hc, i, hi, h⟩ := h
    obtain ⟨y, h1, hn1, hn2, h2⟩ := indexA_uni h
    have hft : Fits (operandFoot st x .no .lr) st dst (.val y) := by
      unfold operandFoot
      rw [hv]
      cases v with
      | lp k off => exact ⟨_, rfl, fun j o' he => hn2 k off j o' rfl he⟩
      | _ => exact ⟨_, rfl, hn1 fun _ _ h => by cases h⟩
    exact ⟨.val _, h1, hft, fun st' ag R K => by
      simp only [ag.ev x (by simp [Op.operands]), evc_agree (ag.ev ix (by simp [Op.operands])), hv, hc, hi, Option.bind_some, h2]; rfl⟩
  case index t x ix =>
    simp only [Option.bind_eq_some_iff] at h
    obtain ⟨v, hv, c, hc, i, hi, h⟩ := h
    split at h
    · rename_i hu
      simp only [Option.bind_eq_some_iff] at h
      obtain ⟨c', hc', s, hss, h⟩ := h
      cases hb : inb i s.size with
      | false => rw [hb, cond_false] at h; cases h
      | true =>
        rw [hb, cond_true] at h
        simp only [Option.bind_eq_some_iff] at h
        obtain ⟨b, hb2, h⟩ := h
        exact ⟨.val _, h, ⟨_, rfl, rfl⟩, fun st' ag R K => by
          simp only [ag.ev x (by simp [Op.operands]), evc_agree (ag.ev ix (by simp [Op.operands])), hv, hc, hi, hc', hss, hb, hb2, cond_true, Option.bind_some]; rfl⟩
    · rename_i n e hu
      simp only [Option.bind_eq_some_iff] at h
      obtain ⟨s, hss, h⟩ := h
      split at h
      case h_2 => cases h
      cases hb : inb i n with
      | false => rw [hb, cond_false] at h; cases h
      | true =>
        rw [hb, cond_true] at h
        obtain ⟨y, h1, hnl, h2⟩ := partA_uni h
        exact ⟨.val _, h1, ⟨_, rfl, hnl⟩, fun st' ag R K => by
          simp only [ag.ev x (by simp [Op.operands]), evc_agree (ag.ev ix (by simp [Op.operands])), hv, hc, hi, hss, hb, cond_true, Option.bind_some, h2]; rfl⟩
    · cases h
  case lookup t x k ok =>
    simp only [Option.bind_eq_some_iff] at h
    obtain ⟨cm, hcm, mm, hmm, ck, hck, h⟩ := h
    split at h
    case h_2 => cases h
    rename_i kt e hu
    obtain ⟨d, h1, h2⟩ := keyOf_uni h
    simp only [Option.bind_eq_some_iff] at h1
    obtain ⟨g, hg, n, hn, z, hz, p, hp, h1⟩ := h1
    have hmain : ∃ y : AV, K0 (st.set dst y) = some r0 ∧ nolp y = true ∧ ∀ (R : Type) (K : AV → Option R), 
        (let w (x : TV) : Option R := bif ok then K (.tup [x, .c (.bool p.2)]) else K x.av
         bif g then p.1.aggs.bind fun l => destr n l fun cs => w (.agg cs) else p.1.cell.bind fun c => w (.c c)) = K y := by
      cases g with
      | true =>
        simp only [cond_true, Option.bind_eq_some_iff] at h1
        obtain ⟨l, hl, h1⟩ := h1
        obtain ⟨h3, h4⟩ := destr_uni h1
        cases ok with
        | true => rw [cond_true] at h3; exact ⟨_, h3, rfl, fun R K => by simp only [cond_true, hl, Option.bind_some, h4]⟩
        | false => rw [cond_false] at h3; exact ⟨_, h3, rfl, fun R K => by simp only [cond_true, cond_false, hl, Option.bind_some, h4]⟩
      | false =>
        simp only [cond_false, Option.bind_eq_some_iff] at h1
        obtain ⟨c, hc, h1⟩ := h1
        cases ok with
        | true => rw [cond_true] at h1; exact ⟨_, h1, rfl, fun R K => by simp only [cond_true, cond_false, hc, Option.bind_some]⟩
        | false => rw [cond_false] at h1; exact ⟨_, h1, rfl, fun R K => by simp only [cond_false, hc, Option.bind_some]⟩
    obtain ⟨y, h3, hnl, h4⟩ := hmain
    refine ⟨.val y, h3, ⟨_, rfl, hnl⟩, fun st' ag R K => ?_⟩
    have hh : st'.heap = st.heap := ag.heap
    simp only [evc_agree (ag.ev x (by simp [Op.operands])), evc_agree (ag.ev k (by simp [Op.operands])), hcm, hmm, hck, Option.bind_some, h2, hg, hn, hz, hh, hp]
    exact h4 R fun x => K (st'.set dst x)
  case mapUpdate t m k x =>
    simp only [Option.bind_eq_some_iff] at h
    obtain ⟨cm, hcm, mm, hmm, ck, hck, xx, hxx, h⟩ := h
    split at h
    case h_2 => cases h
    rename_i kt e hu
    obtain ⟨d, h1, h2⟩ := keyOf_uni h
    simp only [Option.bind_eq_some_iff] at h1
    obtain ⟨H, hH, h1⟩ := h1
    refine ⟨.heap (.tup []) H, h1, ⟨_, _, rfl, rfl⟩, fun st' ag R K => ?_⟩
    have hh : st'.heap = st.heap := ag.heap
    obtain ⟨xv, hxv, hxo⟩ := hxx
    simp only [evc_agree (ag.ev m (by simp [Op.operands])), evc_agree (ag.ev k (by simp [Op.operands])), ag.ev x (by simp [Op.operands]), hcm, hmm, hck, hxv, hxo, Option.bind_some, h2, hh, hH]
    rfl
  case insert t m k x =>
    simp only [Option.bind_eq_some_iff] at h
    obtain ⟨cm, hcm, mm, hmm, ck, hck, xx, hxx, h⟩ := h
    split at h
    case h_2 => cases h
    rename_i kt e hu
    obtain ⟨d, h1, h2⟩ := keyOf_uni h
    simp only [Option.bind_eq_some_iff] at h1
    obtain ⟨H, hH, h1⟩ := h1
    refine ⟨.heap (.tup []) H, h1, ⟨_, _, rfl, rfl⟩, fun st' ag R K => ?_⟩
    have hh : st'.heap = st.heap := ag.heap
    obtain ⟨xv, hxv, hxo⟩ := hxx
    simp only [evc_agree (ag.ev m (by simp [Op.operands])), evc_agree (ag.ev k (by simp [Op.operands])), ag.ev x (by simp [Op.operands]), hcm, hmm, hck, hxv, hxo, Option.bind_some, h2, hh, hH]
    rfl
  case extract t i =>
    simp only [Option.bind_eq_some_iff] at h
    obtain ⟨v, hv, h⟩ := h
    split at h
    · simp only [Option.bind_eq_some_iff] at h
      obtain ⟨x, hx, h⟩ := h
      exact ⟨.val _, h, ⟨_, rfl, by cases x <;> rfl⟩, fun st' ag R K => by simp only [ag.ev t (by simp [Op.operands]), hv, hx, Option.bind_some]; rfl⟩
    · cases h
  case call c =>
    obtain ⟨callee, cargs, cts⟩ := c
    cases callee <;> simp only at h ⊢
    case value f =>
      simp only [Option.bind_eq_some_iff] at h
      obtain ⟨cf, hcf, vs, hvs, h⟩ := h
      split at h
      case h_2 => cases h
      rename_i g first cap
      simp only [Option.bind_eq_some_iff] at h
      obtain ⟨F, hF, h⟩ := h
      have hevf : ev st f = some (.c (.fn g first cap)) := by
        simp only [evc, Option.bind_eq_some_iff] at hcf
        obtain ⟨y, hy, hyc⟩ := hcf
        cases y <;> simp [AV.cell] at hyc
        rw [hy, hyc]
      have hev : ∀ st', Agree C { dst := dst, op := Op.call { callee := .value f, args := cargs, argTypes := cts }, type := type, pos := pos, after := after, guard := guard } st st' →
          evc st' f = some (.fn g first cap) ∧ evs st' cargs.toList = some vs := by
        intro st' ag
        exact ⟨by rw [evc_agree (ag.ev f (by simp [Op.operands, Call.operands])), hcf], by rw [evs_agree fun x hx => ag.ev x (by simp [Op.operands, Call.operands]; exact .inr (by simpa using hx)), hvs]⟩
      have hft : foot C st { dst := dst, op := Op.call { callee := .value f, args := cargs, argTypes := cts }, type := type, pos := pos, after := after, guard := guard } =
          bif C.nums.contains g then .no else bif C.slices.contains g then .hs (firstSl (first.map .c ++ vs ++ cap.map .c)) else bif C.pures.contains g then .hq else .hw := by simp only [foot, hevf, hvs]
      cases hnum : C.nums.contains g with
      | true =>
        rw [hnum, cond_true] at hft
        obtain ⟨q, hq1, hq⟩ := hN.num g F hF hnum (first.map .c ++ vs ++ cap.map .c)
        rw [hq] at h
        simp only [Option.bind_eq_some_iff] at h
        obtain ⟨v, hv, h⟩ := h
        exact ⟨.val v, h, by rw [hft]; exact ⟨_, rfl, hq1 _ hv⟩, fun st' ag R K => by
          simp only [(hev st' ag).1, (hev st' ag).2, Option.bind_some, hF, hq, hv]; rfl⟩
      | false =>
        rw [hnum, cond_false] at hft
        cases hsl : C.slices.contains g with
        | true =>
          rw [hsl, cond_true] at hft
          obtain ⟨q, hq1, hq, hq2⟩ := hN.sl g F hF hsl (first.map .c ++ vs ++ cap.map .c)
          rw [hq] at h
          simp only [Option.bind_eq_some_iff] at h
          obtain ⟨v, hv, h⟩ := h
          refine ⟨.val v, h, by rw [hft]; exact ⟨_, rfl, hq1 _ _ hv⟩, fun st' ag R K => ?_⟩
          have hh := ag.heap
          rw [hft] at hh
          simp only [HeapOk] at hh
          simp only [(hev st' ag).1, (hev st' ag).2, Option.bind_some, hF, hq, hq2 st.heap st'.heap hh, hv]
          rfl
        | false =>
        rw [hsl, cond_false] at hft
        cases hpu : C.pures.contains g with
        | true =>
          rw [hpu, cond_true] at hft
          obtain ⟨q, hq1, hq⟩ := hN.pure g F hF hpu (first.map .c ++ vs ++ cap.map .c) st.heap
          rw [hq] at h
          simp only [Option.bind_eq_some_iff] at h
          obtain ⟨v, hv, h⟩ := h
          refine ⟨.val v, h, by rw [hft]; exact ⟨_, rfl, hq1 _ hv⟩, fun st' ag R K => ?_⟩
          have hh := ag.heap
          rw [hft] at hh
          simp only [HeapOk] at hh
          simp only [(hev st' ag).1, (hev st' ag).2, Option.bind_some, hF, hh, hq, hv]
          rw [← hh]; rfl
        | false =>
          rw [hpu, cond_false] at hft
          obtain ⟨q, hq1, hq⟩ := hN.nat g F hF (first.map .c ++ vs ++ cap.map .c) st.heap
          rw [hq] at h
          simp only [Option.bind_eq_some_iff] at h
          obtain ⟨p, hp, h⟩ := h
          refine ⟨.heap p.1 p.2, h, by rw [hft]; exact ⟨_, _, rfl, hq1 _ hp⟩, fun st' ag R K => ?_⟩
          have hh := ag.heap
          rw [hft] at hh
          simp only [HeapOk] at hh
          simp only [(hev st' ag).1, (hev st' ag).2, Option.bind_some, hF, hh, hq, hp]
          rfl
    case builtin b =>
      simp only [Option.bind_eq_some_iff] at h
      obtain ⟨vs, hvs, h⟩ := h
      have hev : ∀ st', Agree C { dst := dst, op := Op.call { callee := .builtin b, args := cargs, argTypes := cts }, type := type, pos := pos, after := after, guard := guard } st st' → evs st' cargs.toList = some vs := by
        intro st' ag
        rw [evs_agree fun x hx => ag.ev x (by simp [Op.operands, Call.operands]; simpa using hx), hvs]
      rcases builtinA_uni h with ⟨v, h1, hnl, hb, h3⟩ | ⟨v, h1, hnl, rfl, hb, h3⟩ | ⟨v, H, h1, hnl, n1, n2, n3, h3⟩
      · refine ⟨.val v, h1, ?_, fun st' ag R K => ?_⟩
        · rcases hb with rfl | rfl | ⟨rfl, hl⟩
          · exact ⟨_, rfl, hnl⟩
          · exact ⟨_, rfl, hnl⟩
          · simp only [foot, hl]; exact ⟨_, rfl, hnl⟩
        · simp only [hev st' ag, Option.bind_some, h3]
          rfl
      · have hft : foot C st { dst := dst, op := Op.call { callee := .builtin .len, args := cargs, argTypes := cts }, type := type, pos := pos, after := after, guard := guard } = .hq := hb
        refine ⟨.val v, h1, by rw [hft]; exact ⟨_, rfl, hnl⟩, fun st' ag R K => ?_⟩
        have hh := ag.heap
        rw [hft] at hh
        simp only [hev st' ag, Option.bind_some, h3 st' hh]
        rfl
      · have hft : foot C st { dst := dst, op := Op.call { callee := .builtin b, args := cargs, argTypes := cts }, type := type, pos := pos, after := after, guard := guard } = .hw := by
          simp only [foot]
          cases b <;> first | rfl | exact absurd rfl n1 | exact absurd rfl n2 | exact absurd rfl n3
        refine ⟨.heap v H, h1, by rw [hft]; exact ⟨_, _, rfl, hnl⟩, fun st' ag R K => ?_⟩
        have hh := ag.heap
        rw [hft] at hh
        simp only [hev st' ag, Option.bind_some, h3 st' hh]
        rfl
    all_goals cases h
  all_goals cases h

end
end Go.Proofs.YtnipccoenalnkaaGreat.Ab
