/- Layer 10's laws: their data, their small functions; StepSets. -/
import Derived.Test.YtnipccoenalnkaaGreatSqF
import Derived.Test.YtnipccoenalnkaaGreatSqG
import Derived.Test.YtnipccoenalnkaaGreatSrC
import Derived.Test.YtnipccoenalnkaaGreatAb35
namespace Go.Proofs.YtnipccoenalnkaaGreat
open Go Go.Proofs.YtnipccoenalnkaaGreat.Ab
set_option linter.unusedVariables false
set_option linter.unusedSimpArgs false
set_option maxRecDepth 100000
noncomputable section
theorem i64_w {v : Int} (h : (Lit.int .i64 v).wf = true) : -9223372036854775808 ≤ v ∧ v < 9223372036854775808 := by
  have : -9223372036854775808 ≤ v ∧ v ≤ 9223372036854775807 := by simpa [Lit.wf, IntKind.min, IntKind.max, IntKind.signed, IntKind.bits] using h
  omega
theorem cpu_of {H : Heap} {n : Nat} {cs : List Cell} (h : Sh Tryz.prog H (n + 4) 27 cs) : ∃ v : TCpu, cs = v.row := by
  have k := sh_ks (n + 4) 27 cs [.i .u64, .i .u64, .i .u64, .i .u64, .i .u64, .i .u64, .i .u64, .i .u64, .i .u64, .i .u64, .i .u64, .i .u64, .i .u64, .i .u64, .i .u64, .i .u64, .b, .b, .i .u64, .i .u64] h (by kernel_rfl)
  obtain ⟨a0, _, rfl, w0, k⟩ := k
  obtain ⟨a1, _, rfl, w1, k⟩ := k
  obtain ⟨a2, _, rfl, w2, k⟩ := k
  obtain ⟨a3, _, rfl, w3, k⟩ := k
  obtain ⟨a4, _, rfl, w4, k⟩ := k
  obtain ⟨a5, _, rfl, w5, k⟩ := k
  obtain ⟨a6, _, rfl, w6, k⟩ := k
  obtain ⟨a7, _, rfl, w7, k⟩ := k
  obtain ⟨a8, _, rfl, w8, k⟩ := k
  obtain ⟨a9, _, rfl, w9, k⟩ := k
  obtain ⟨a10, _, rfl, w10, k⟩ := k
  obtain ⟨a11, _, rfl, w11, k⟩ := k
  obtain ⟨a12, _, rfl, w12, k⟩ := k
  obtain ⟨a13, _, rfl, w13, k⟩ := k
  obtain ⟨a14, _, rfl, w14, k⟩ := k
  obtain ⟨a15, _, rfl, w15, k⟩ := k
  obtain ⟨a16, _, rfl, w16, k⟩ := k
  obtain ⟨a17, _, rfl, w17, k⟩ := k
  obtain ⟨a18, _, rfl, w18, k⟩ := k
  obtain ⟨a19, _, rfl, w19, k⟩ := k
  subst k
  exact ⟨⟨⟨a0, a1, a2, a3, a4, a5, a6, a7, a8, a9, a10, a11, a12, a13, a14, a15⟩, ⟨a16, a17, a18⟩, a19⟩, rfl⟩
theorem inst_of {H : Heap} {n : Nat} {cs : List Cell} (h : Sh Tryz.prog H (n + 4) 56 cs) : ∃ v : TInst, cs = v.row ∧ v.Wf := by
  have k := sh_ks (n + 4) 56 cs [.i .i64, .i .i64, .i .i64, .i .i64, .i .i64, .i .i64, .i .i64, .i .i64, .i .i64, .i .i64, .i .i64, .i .i64, .i .i64, .i .i64, .i .i64, .i .i64, .i .i64, .b, .b, .i .i64] h (by kernel_rfl)
  obtain ⟨a0, _, rfl, w0, k⟩ := k
  obtain ⟨a1, _, rfl, w1, k⟩ := k
  obtain ⟨a2, _, rfl, w2, k⟩ := k
  obtain ⟨a3, _, rfl, w3, k⟩ := k
  obtain ⟨a4, _, rfl, w4, k⟩ := k
  obtain ⟨a5, _, rfl, w5, k⟩ := k
  obtain ⟨a6, _, rfl, w6, k⟩ := k
  obtain ⟨a7, _, rfl, w7, k⟩ := k
  obtain ⟨a8, _, rfl, w8, k⟩ := k
  obtain ⟨a9, _, rfl, w9, k⟩ := k
  obtain ⟨a10, _, rfl, w10, k⟩ := k
  obtain ⟨a11, _, rfl, w11, k⟩ := k
  obtain ⟨a12, _, rfl, w12, k⟩ := k
  obtain ⟨a13, _, rfl, w13, k⟩ := k
  obtain ⟨a14, _, rfl, w14, k⟩ := k
  obtain ⟨a15, _, rfl, w15, k⟩ := k
  obtain ⟨a16, _, rfl, w16, k⟩ := k
  obtain ⟨a17, _, rfl, w17, k⟩ := k
  obtain ⟨a18, _, rfl, w18, k⟩ := k
  obtain ⟨a19, _, rfl, w19, k⟩ := k
  subst k
  exact ⟨⟨a0, a1, a2, ⟨a3, a4, ⟨a5, a6, a7, a8⟩⟩, ⟨a9, a10, ⟨a11, a12, a13, a14⟩⟩, a15, a16, a17, a18, a19⟩, rfl, ⟨(i64_w w15).1, (i64_w w15).2, (i64_w w8).1, (i64_w w8).2, (i64_w w14).1, (i64_w w14).2⟩⟩
theorem start_of {H : Heap} (cs : List Cell) (h : Sh Tryz.prog H 12 31 cs) : ∃ (s : TStart) (zs : List Ar) (ws : List Cal), cs = s.row ∧
    RS 5 E5 H s.L zs ∧ (∀ z ∈ zs, RS 1 E8 H z.sl z.data) ∧ zs.length ≤ maxLen ∧ RS 7 E7 H s.ops ws ∧ (∀ w ∈ ws, w.Wf) ∧ ws.length ≤ maxLen := by
  obtain ⟨h1, h2⟩ := sh_struct h Tryz.underlying31
  have h1 : cs.length = 23 := h1.trans (by kernel_rfl)
  have c27 : Tryz.prog.cellsOf 27 = 20 := by kernel_rfl
  have c28 : Tryz.prog.cellsOf 28 = 1 := by kernel_rfl
  have c29 : Tryz.prog.cellsOf 29 = 1 := by kernel_rfl
  have c4 : Tryz.prog.cellsOf 4 = 1 := by kernel_rfl
  obtain ⟨x, zx⟩ := cpu_of (h2 0 _ rfl)
  obtain ⟨l, zs, zl, hR, hX, _, hm⟩ := sh_slice E5 (fun x => RS 1 E8 H x.sl x.data) E5_len (h2 1 _ rfl) Tryz.underlying28 (k := 5) (by kernel_rfl) (fun cs h => area_of cs h)
  obtain ⟨o, ws, zo, hS, hW, _, hm'⟩ := sh_slice E7 (fun x => x.Wf) E7_len (h2 2 _ rfl) Tryz.underlying29 (k := 7) (by kernel_rfl) (fun cs h => cal_of cs h)
  obtain ⟨m, zm⟩ := sh_bool (h2 3 _ rfl) Tryz.underlying4
  rw [c27] at zx
  rw [c28] at zl
  rw [c29] at zo
  rw [c4] at zm
  have d0 := drop_app (o := 0) zx rfl
  have d1 := drop_app (o := 20) zl rfl
  have d2 := drop_app (o := 21) zo rfl
  have d3 := drop_app (o := 22) zm rfl
  have dz : cs.drop 23 = [] := List.drop_eq_nil_of_le (by omega)
  refine ⟨⟨x, l, o, m⟩, zs, ws, ?_, hR, hX, hm, hS, hW, hm'⟩
  have d0' : cs = x.row ++ cs.drop 20 := d0
  have d1' : cs.drop 20 = [Cell.slice l] ++ cs.drop 21 := d1
  have d2' : cs.drop 21 = [Cell.slice o] ++ cs.drop 22 := d2
  have d3' : cs.drop 22 = [Cell.bool m] ++ cs.drop 23 := d3
  rw [d0', d1', d2', d3', dz]; rfl
/-! ### small functions -/
theorem f10_x {H : Heap} {cid : Nat} {x : TCpu} (h : H[cid]? = some (.row x.row false)) : f10 (some (cid, 0)) H = some (x, H) := by
  have l : ∀ {R : Type} (k : TA16u64 → Option R), ldA16u64 H cid 0 k = k x.reg := fun k => ldA16u64_of (fun j a hj => hasAt_row h j a (by
    rcases (by have := (List.getElem?_eq_some_iff.1 hj).1; have : x.reg.row.length = 16 := rfl; omega : j = 0 ∨ j = 1 ∨ j = 2 ∨ j = 3 ∨ j = 4 ∨ j = 5 ∨ j = 6 ∨ j = 7 ∨ j = 8 ∨ j = 9 ∨ j = 10 ∨ j = 11 ∨ j = 12 ∨ j = 13 ∨ j = 14 ∨ j = 15) with e | e | e | e | e | e | e | e | e | e | e | e | e | e | e | e <;> subst e <;> exact hj)) k
  have g16 : H.get cid 16 = some (.bool x.thunk.C) := (get_of h _).trans rfl
  have g17 : H.get cid 17 = some (.bool x.thunk.O) := (get_of h _).trans rfl
  have g18 : H.get cid 18 = some (.int .u64 x.thunk.res) := (get_of h _).trans rfl
  have g19 : H.get cid 19 = some (.int .u64 x.ip) := (get_of h _).trans rfl
  rw [q10]
  simp only [Ab.bs, Nat.zero_add, Nat.add_zero, Nat.reduceAdd, l, g16, g17, g18, g19, tInt, tBool]
theorem f14_x (i : TInst) (H : Heap) : f14 i H = some (i, H) := by
  rw [q14, q42, Ab.bs, q42, Ab.bs]
theorem ca_new {H : Heap} {L N : Nat} {M : Mm} {c : Co} (m : M.Is H L c) (f : c.Fit N) (x : TCpu) : CA (H ++ [Blk.row x.row false]) L N H.length x M c :=
  ⟨push_get _ _, m.no (Kp.push1 _ _), f, fun g => by have := m.lt g; omega⟩
theorem CA.no {H H' : Heap} {L N cid : Nat} {x : TCpu} {M : Mm} {c : Co} (h : CA H L N cid x M c) (k : Kp No H H') : CA H' L N cid x M c := ⟨k.bk h.cpu, h.m.no k, h.fit, h.out⟩
theorem pend0 {H : Heap} {L N : Nat} {M : Mm} {c : Co} (m : M.Is H L c) (f : c.Fit N) : ∃ l, c.rows[0]? = some l ∧ f17 M.p 0 H = some ((l.length : Int), H) := by
  obtain ⟨l, hl, _⟩ := f.row (show 0 < 8 by omega)
  exact ⟨l, hl, pend_x m 0 (by omega) hl⟩
end
end Go.Proofs.YtnipccoenalnkaaGreat
