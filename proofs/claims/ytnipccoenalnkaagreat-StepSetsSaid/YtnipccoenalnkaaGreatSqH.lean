/- Layer 10's laws: their data, their small functions; StepSets. -/
import Derived.Test.YtnipccoenalnkaaGreatSqF
import Derived.Test.YtnipccoenalnkaaGreatSqG
import Derived.Test.YtnipccoenalnkaaGreatSrC
import Derived.Test.YtnipccoenalnkaaGreatAb35
namespace Go.Proofs.YtnipccoenalnkaaGreat
open Go Go.Proofs.YtnipccoenalnkaaGreat.Ab
set_option linter.unusedVariables false
set_option linter.unusedSimpArgs false
set_option maxRecDepth 100000
noncomputable section
theorem i64_w {v : Int} (h : (Lit.int .i64 v).wf = true) : -9223372036854775808 ≤ v ∧ v < 9223372036854775808 := by
  have : -9223372036854775808 ≤ v ∧ v ≤ 9223372036854775807 := by simpa [Lit.wf, IntKind.min, IntKind.max, IntKind.signed, IntKind.bits] using h
  omega
theorem cpu_of {H : Heap} {n : Nat} {cs : List Cell} (h : Sh Tryz.prog H (n + 4) 27 cs) : ∃ v : TCpu, cs = v.row := by
  have k := sh_ks (n + 4) 27 cs [.i .u64, .i .u64, .i .u64, .i .u64, .i .u64, .i .u64, .i .u64, .i .u64, .i .u64, .i .u64, .i .u64, .i .u64, .i .u64, .i .u64, .i .u64, .i .u64, .b, .b, .i .u64, .i .u64] h (by kernel_rfl)
  obtain ⟨a0, _, rfl, w0, k⟩ := k
  obtain ⟨a1, _, rfl, w1, k⟩ := k
  obtain ⟨a2, _, rfl, w2, k⟩ := k
  obtain ⟨a3, _, rfl, w3, k⟩ := k
  obtain ⟨a4, _, rfl, w4, k⟩ := k
  obtain ⟨a5, _, rfl, w5, k⟩ := k
  obtain ⟨a6, _, rfl, w6, k⟩ := k
  obtain ⟨a7, _, rfl, w7, k⟩ := k
  obtain ⟨a8, _, rfl, w8, k⟩ := k
  obtain ⟨a9, _, rfl, w9, k⟩ := k
  obtain ⟨a10, _, rfl, w10, k⟩ := k
  obtain ⟨a11, _, rfl, w11, k⟩ := k
  obtain ⟨a12, _, rfl, w12, k⟩ := k
  obtain ⟨a13, _, rfl, w13, k⟩ := k
  obtain ⟨a14, _, rfl, w14, k⟩ := k
  obtain ⟨a15, _, rfl, w15, k⟩ := k
  obtain ⟨a16, _, rfl, w16, k⟩ := k
  obtain ⟨a17, _, rfl, w17, k⟩ := k
  obtain ⟨a18, _, rfl, w18, k⟩ := k
  obtain ⟨a19, _, rfl, w19, k⟩ := k
  subst k
  exact ⟨⟨⟨a0, a1, a2, a3, a4, a5, a6, a7, a8, a9, a10, a11, a12, a13, a14, a15⟩, ⟨a16, a17, a18⟩, a19⟩, rfl⟩
theorem inst_of {H : Heap} {n : Nat} {cs : List Cell} (h : Sh Tryz.prog H (n + 4) 56 cs) : ∃ v : TInst, cs = v.row ∧ v.Wf := by
  have k := sh_ks (n + 4) 56 cs [.i .i64, .i .i64, .i .i64, .i .i64, .i .i64, .i .i64, .i .i64, .i .i64, .i .i64, .i .i64, .i .i64, .i .i64, .i .i64, .i .i64, .i .i64, .i .i64, .i .i64, .b, .b, .i .i64] h (by kernel_rfl)
  obtain ⟨a0, _, rfl, w0, k⟩ := k
  obtain ⟨a1, _, rfl, w1, k⟩ := k
  obtain ⟨a2, _, rfl, w2, k⟩ := k
  obtain ⟨a3, _, rfl, w3, k⟩ := k
  obtain ⟨a4, _, rfl, w4, k⟩ := k
  obtain ⟨a5, _, rfl, w5, k⟩ := k
  obtain ⟨a6, _, rfl, w6, k⟩ := k
  obtain ⟨a7, _, rfl, w7, k⟩ := k
  obtain ⟨a8, _, rfl, w8, k⟩ := k
  obtain ⟨a9, _, rfl, w9, k⟩ := k
  obtain ⟨a10, _, rfl, w10, k⟩ := k
  obtain ⟨a11, _, rfl, w11, k⟩ := k
  obtain ⟨a12, _, rfl, w12, k⟩ := k
  obtain ⟨a13, _, rfl, w13, k⟩ := k
  obtain ⟨a14, _, rfl, w14, k⟩ := k
  obtain ⟨a15, _, rfl, w15, k⟩ := k
  obtain ⟨a16, _, rfl, w16, k⟩ := k
  obtain ⟨a17, _, rfl, w17, k⟩ := k
  obtain ⟨a18, _, rfl, w18, k⟩ := k
  obtain ⟨a19, _, rfl, w19, k⟩ := k
  subst k
  exact ⟨⟨a0, a1, a2, ⟨a3, a4, ⟨a5, a6, a7, a8⟩⟩, ⟨a9, a10, ⟨a11, a12, a13, a14⟩⟩, a15, a16, a17, a18, a19⟩, rfl, ⟨(i64_w w15).1, (i64_w w15).2, (i64_w w8).1, (i64_w w8).2, (i64_w w14).1, (i64_w w14).2⟩⟩
theorem start_of {H : Heap} (cs : List Cell) (h : Sh Tryz.prog H 12 31 cs) : ∃ (s : TStart) (zs : List Ar) (ws : List Cal), cs = s.row ∧
    RS 5 E5 H s.L zs ∧ (∀ z ∈ zs, RS 1 E8 H z.sl z.data) ∧ zs.length ≤ maxLen ∧ RS 7 E7 H s.ops ws ∧ (∀ w ∈ ws, w.Wf) ∧ ws.length ≤ maxLen := by
  obtain ⟨h1, h2⟩ := sh_struct h Tryz.underlying31
  have h1 : cs.length = 23 := h1.trans (by kernel_rfl)
  have c27 : Tryz.prog.cellsOf 27 = 20 := by kernel_rfl
  have c28 : Tryz.prog.cellsOf 28 = 1 := by kernel_rfl
  have c29 : Tryz.prog.cellsOf 29 = 1 := by kernel_rfl
  have c4 : Tryz.prog.cellsOf 4 = 1 := by kernel_rfl
  obtain ⟨x, zx⟩ := cpu_of (h2 0 _ rfl)
  obtain ⟨l, zs, zl, hR, hX, _, hm⟩ := sh_slice E5 (fun x => RS 1 E8 H x.sl x.data) E5_len (h2 1 _ rfl) Tryz.underlying28 (k := 5) (by kernel_rfl) (fun cs h => area_of cs h)
  obtain ⟨o, ws, zo, hS, hW, _, hm'⟩ := sh_slice E7 (fun x => x.Wf) E7_len (h2 2 _ rfl) Tryz.underlying29 (k := 7) (by kernel_rfl) (fun cs h => cal_of cs h)
  obtain ⟨m, zm⟩ := sh_bool (h2 3 _ rfl) Tryz.underlying4
  rw [c27] at zx
  rw [c28] at zl
  rw [c29] at zo
  rw [c4] at zm
  have d0 := drop_app (o := 0) zx rfl
  have d1 := drop_app (o := 20) zl rfl
  have d2 := drop_app (o := 21) zo rfl
  have d3 := drop_app (o := 22) zm rfl
  have dz : cs.drop 23 = [] := List.drop_eq_nil_of_le (by omega)
  refine ⟨⟨x, l, o, m⟩, zs, ws, ?_, hR, hX, hm, hS, hW, hm'⟩
  have d0' : cs = x.row ++ cs.drop 20 := d0
  have d1' : cs.drop 20 = [Cell.slice l] ++ cs.drop 21 := d1
  have d2' : cs.drop 21 = [Cell.slice o] ++ cs.drop 22 := d2
  have d3' : cs.drop 22 = [Cell.bool m] ++ cs.drop 23 := d3
  rw [d0', d1', d2', d3', dz]; rfl
/-! ### small functions -/
theorem f10_x {H : Heap} {cid : Nat} {x : TCpu} (h : H[cid]? = some (.row x.row false)) : f10 (some (cid, 0)) H = some (x, H) := by
  have l : ∀ {R : Type} (k : TA16u64 → Option R), ldA16u64 H cid 0 k = k x.reg := fun k => ldA16u64_of (fun j a hj => hasAt_row h j a (by
    rcases (by have := (List.getElem?_eq_some_iff.1 hj).1; have : x.reg.row.length = 16 := rfl; omega : j = 0 ∨ j = 1 ∨ j = 2 ∨ j = 3 ∨ j = 4 ∨ j = 5 ∨ j = 6 ∨ j = 7 ∨ j = 8 ∨ j = 9 ∨ j = 10 ∨ j = 11 ∨ j = 12 ∨ j = 13 ∨ j = 14 ∨ j = 15) with e | e | e | e | e | e | e | e | e | e | e | e | e | e | e | e <;> subst e <;> exact hj)) k
  have g16 : H.get cid 16 = some (.bool x.thunk.C) := (get_of h _).trans rfl
  have g17 : H.get cid 17 = some (.bool x.thunk.O) := (get_of h _).trans rfl
  have g18 : H.get cid 18 = some (.int .u64 x.thunk.res) := (get_of h _).trans rfl
  have g19 : H.get cid 19 = some (.int .u64 x.ip) := (get_of h _).trans rfl
  rw [q10]
  simp only [Ab.bs, Nat.zero_add, Nat.add_zero, Nat.reduceAdd, l, g16, g17, g18, g19, tInt, tBool]
theorem f14_x (i : TInst) (H : Heap) : f14 i H = some (i, H) := by
  rw [q14, q42, Ab.bs, q42, Ab.bs]
theorem ca_new {H : Heap} {L N : Nat} {M : Mm} {c : Co} (m : M.Is H L c) (f : c.Fit N) (x : TCpu) : CA (H ++ [Blk.row x.row false]) L N H.length x M c :=
  ⟨push_get _ _, m.no (Kp.push1 _ _), f, fun g => by have := m.lt g; omega⟩
theorem co1_row {c : Co} {l : List Sto} (hl : c.rows[0]? = some l) (i : TInst) : ∃ l', (co1 c 0 i).rows[0]? = some l' ∧ l'.length ≤ l.length := by
  unfold co1
  cases flushes i with
  | false => exact ⟨l, hl, Nat.le_refl _⟩
  | true =>
    refine ⟨[], ?_, Nat.zero_le _⟩
    show (flushC c 0).2.rows[0]? = some []
    unfold flushC
    have h0 : c.rows[(0 : Int).toNat]? = some l := hl
    rw [show thrd 0 = true by decide, cond_true, h0]
    exact List.getElem?_set_self (List.getElem?_eq_some_iff.1 hl).1
theorem CA.no {H H' : Heap} {L N cid : Nat} {x : TCpu} {M : Mm} {c : Co} (h : CA H L N cid x M c) (k : Kp No H H') : CA H' L N cid x M c := ⟨k.bk h.cpu, h.m.no k, h.fit, h.out⟩
theorem pend0 {H : Heap} {L N : Nat} {M : Mm} {c : Co} (m : M.Is H L c) (f : c.Fit N) : ∃ l, c.rows[0]? = some l ∧ f17 M.p 0 H = some ((l.length : Int), H) := by
  obtain ⟨l, hl, _⟩ := f.row (show 0 < 8 by omega)
  exact ⟨l, hl, pend_x m 0 (by omega) hl⟩
theorem xmay_op {i : TInst} (h : xmay i = true) : 1 ≤ i.op ∧ i.op ≤ 47 := by
  unfold xmay at h
  simp only [Bool.and_eq_true, Bool.or_eq_true] at h
  by_cases e : i.op < 1 ∨ i.op > 47
  · exfalso
    have o : ∀ lo hi : Int, 1 ≤ lo → hi ≤ 47 → xin i lo hi = false := fun lo hi a b => by unfold xin; rcases e with e | e <;> simp <;> omega
    have c : ∀ k : Int, 1 ≤ k → k ≤ 47 → (i.op == k) = false := fun k a b => by simp; omega
    rcases h.2.2 with h | h
    · unfold xtwo at h
      simp (disch := decide) only [o, c, cond_false, Bool.false_and] at h
      cases h
    · unfold xone at h
      simp (disch := decide) only [o, c, cond_false, Bool.false_and, Bool.or_self] at h
      revert h; cases i.B.nil <;> simp
  · omega
/-- StepSets answers true. -/
theorem f5_x (s : TStart) (zs : List Ar) (hz : zs.length ≤ 9223372036854775807) (xs : List Cal) (hx : xs.length ≤ 9223372036854775807) (hxw : ∀ x, x ∈ xs → x.Wf) (H : Heap) (hR : RS 5 E5 H s.L zs) (hX : ∀ x, x ∈ zs → RS 1 E8 H x.sl x.data) (hS : RS 7 E7 H s.ops xs) (i : TInst) (hi : i.Wf) :
    ∃ H', f5 s i H = some (true, H') := by
  obtain ⟨M, q, c, N, L, H1, e8, m, f, hN⟩ := f8_x s zs hz xs hx hxw H hR hX hS
  obtain ⟨l, hl, ep⟩ := pend0 m f
  have C := ca_new m f s.C
  obtain ⟨H2, em, k2⟩ := f18_x i hi (H1 ++ [Blk.row s.C.row false])
  obtain ⟨M3, H3, e3, C3, m3⟩ := f12_x (C.no k2) (by omega) 0 i
  have hp : M3.p = M.p := by unfold Mm.p; rw [m3.b]
  rw [q5, e8, Ab.bs]
  simp only [ep, Ab.bs, q9, f14_x, em]
  rw [← may_eq i hi]
  simp only [e3, Ab.bs]
  have pl := f10_x C3.cpu
  obtain ⟨l3, hl3, ep3⟩ := pend0 C3.m C3.fit
  rw [hp] at ep3
  simp only [pl, ep3, Ab.bs]
  revert hl3 pl C3
  unfold stepF
  cases hm : xmay i with
  | false => intro C3 pl hl3; exact ⟨_, rfl⟩
  | true =>
    obtain ⟨o1, _⟩ := xmay_op hm
    simp only [Bool.not_true, cf]
    have ht : ∀ (hs : xSets i = false), (bif fault (stepY c s.C 0 i M.p).end0 then ((stepY c s.C 0 i M.p).end0, s.C, co1 c 0 i) else ((stepY c s.C 0 i M.p).end0, (stepY c s.C 0 i M.p).cpu, co2 (co1 c 0 i) 0 i (stepY c s.C 0 i M.p))).2.1.thunk = s.C.thunk := by
      intro hs
      have := do_thunk (view (co1 c 0 i) 0) (run0 s.C 0 i M.p) hs o1
      cases fault (stepY c s.C 0 i M.p).end0
      · exact this
      · rfl
    have hr : ∀ (hs : xStores i = false), (bif fault (stepY c s.C 0 i M.p).end0 then ((stepY c s.C 0 i M.p).end0, s.C, co1 c 0 i) else ((stepY c s.C 0 i M.p).end0, (stepY c s.C 0 i M.p).cpu, co2 (co1 c 0 i) 0 i (stepY c s.C 0 i M.p))).2.2 = co1 c 0 i := by
      intro hs
      have e : (stepY c s.C 0 i M.p).stores = false := do_stores (view (co1 c 0 i) 0) (run0 s.C 0 i M.p) hs
      cases fault (stepY c s.C 0 i M.p).end0
      · show co2 _ _ _ _ = _; unfold co2; rw [e, cond_false]
      · rfl
    generalize (bif fault (stepY c s.C 0 i M.p).end0 then ((stepY c s.C 0 i M.p).end0, s.C, co1 c 0 i) else ((stepY c s.C 0 i M.p).end0, (stepY c s.C 0 i M.p).cpu, co2 (co1 c 0 i) 0 i (stepY c s.C 0 i M.p))) = z at ht hr ⊢
    intro C3 pl hl3
    have fin : ∀ G : Heap, ∃ H', (bif xStores i then some (true, G) else bif decide ((l3.length : Int) ≤ (l.length : Int)) then some (true, G) else some (false, G)) = some (true, H') := by
      intro G
      cases hst : xStores i with
      | true => exact ⟨_, rfl⟩
      | false =>
        obtain ⟨l', h1, h2⟩ := co1_row hl i
        rw [hr hst, h1] at hl3
        cases hl3
        rw [dT (by omega)]
        exact ⟨_, rfl⟩
    cases hse : xSets i with
    | true => rw [Bool.not_true, cf]; exact fin _
    | false =>
      rw [Bool.not_false, ct, ht hse]
      simp only [beq_self_eq_true, Bool.and_self, Bool.not_true, cf]
      exact fin _
theorem holds5 (Hp : Heap) (xs : List TV) (_hn : NoOwn Hp) (hxs : TShAll Tryz.prog Hp 12 Tryz.f5.params.toList xs) : fnA CC5 Tryz.f5.results.toList (bodyOf Tryz.f5) Bool xs Hp (fun x _ => x.cell.bind Cell.toBool) = some true := by
  have hp : Tryz.f5.params.toList = [31, 56] := by kernel_rfl
  rw [hp] at hxs
  obtain ⟨x0, xr0, rfl, t0, hxs⟩ := hxs
  obtain ⟨x1, xr1, rfl, t1, hnil⟩ := hxs
  subst hnil
  obtain ⟨cs, rfl, s0⟩ := tsh_agg t0 Tryz.underlying31
  obtain ⟨ds, rfl, s1⟩ := tsh_agg t1 Tryz.underlying56
  obtain ⟨s, zs, ws, rfl, hR, hX, hm, hS, hW, hm'⟩ := start_of cs s0
  obtain ⟨i, rfl, hi⟩ := inst_of s1
  obtain ⟨H', h⟩ := f5_x s zs hm ws hm' hW Hp hR hX hS i hi
  exact law_ofN h5 (mkC_nat _ _ _ _) h
end
end Go.Proofs.YtnipccoenalnkaaGreat
