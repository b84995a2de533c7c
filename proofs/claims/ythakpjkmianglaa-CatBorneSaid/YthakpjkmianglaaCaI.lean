/- Layer 28: CatWeaker holds. -/
import Derived.Test.YthakpjkmianglaaCaG
import Derived.Test.YthakpjkmianglaaCaH
import Derived.Test.YthakpjkmianglaaAb30
namespace Go.Proofs.Ythakpjkmianglaa
open Go Go.Proofs.Ythakpjkmianglaa.Ab
set_option linter.unusedVariables false
set_option linter.unusedSimpArgs false
set_option maxRecDepth 100000
noncomputable section
theorem f9_t (H : Heap) : ∃ H', f9 H = some (true, H') := by
  obtain ⟨H', e, _⟩ := f9_x H
  exact ⟨H', e⟩
theorem setE {H : Heap} {s : Option Sl} {l : List Ev} {k : Nat} {e e' : Ev} {n0 j : Nat} {v : Bool} (h : OS 9 E9 H s l) (hk : l[k]? = some e) (hs : ∀ q, s = some q → n0 ≤ q.id) (hj : j + 1 ≤ 9) (he : E9 e' = splice (E9 e) j [.bool v]) :
    ∃ sl H', s = some sl ∧ (inb (k : Int) sl.len && sl.esz == 9) = true ∧ H.put sl.id (sl.off + ((k : Nat) : Int).toNat * 9 + j) [.bool v] = some H' ∧ OS 9 E9 H' s (l.set k e') ∧ Kp (fun i => n0 ≤ i) H H' := by
  obtain ⟨sl, e0, g1, _⟩ := gets9 h.rs hk
  subst e0
  obtain ⟨H', e1, e2, e3, e4⟩ := OS.put E9_len (vs := [.bool v]) (y := e') (j := j) h hk (by simpa using hj) he
  refine ⟨sl, H', rfl, g1, e1, e2, e3.mono fun i hi h1 => ?_⟩
  have : i = sl.id := h1
  have := hs sl rfl
  omega
theorem f5_x {H : Heap} {s : XS} {x : Ex} (k : Int) (hl : RS 9 E9 H s.l x.L) (hr : RS 1 EI H s.r x.Rf) (hc : RS 1 EI H s.c x.Co) (he : RS 2 EP H s.e x.Ad) : ∃ H', f5 s.l s.r s.c s.e k H = some (true, H') := by
  rw [q5]
  obtain ⟨a, b, c, d, e1, h1⟩ := f6_x hl hr hc he
  rw [e1, Ab.bs]
  dsimp only
  obtain ⟨y, H1, e2, k2, h2⟩ := f8_x h1
  dsimp only at e2
  rw [e2, Ab.bs]
  dsimp only
  obtain ⟨so, ok, H2, e3, t3, k3⟩ := f7_x h2
  dsimp only at e3
  rw [e3, Ab.bs]
  dsimp only
  rw [t3.ok]
  cases hO : (orderX (cutX x)).isSome with
  | false =>
    obtain ⟨H', e⟩ := f9_t H2
    exact ⟨H', by rw [Bool.not_false, ct, e]; rfl⟩
  | true =>
    rw [Bool.not_true, cf]
    cases hk0 : decide (k < 0) with
    | true =>
      obtain ⟨H', e⟩ := f9_t H2
      exact ⟨H', by rw [ct, e]; rfl⟩
    | false =>
      rw [cf]
      cases hk1 : decide (k ≥ slen a) with
      | true =>
        obtain ⟨H', e⟩ := f9_t H2
        exact ⟨H', by rw [ct, e]; rfl⟩
      | false =>
        rw [cf]
        have hls : slen a = ((cutX x).L.length : Int) := h1.l.slenEq
        rw [hls] at hk1
        simp only [decide_eq_false_iff_not] at hk0 hk1
        obtain ⟨q, rfl⟩ : ∃ q : Nat, k = (q : Int) := ⟨k.toNat, by omega⟩
        have hq : q < (cutX x).L.length := by omega
        have h3 := h1.no (k2.tr k3)
        have hlt := h3.bl
        obtain ⟨s2, H3, f1, f2, f3, f4⟩ := append_OS E9_len (by omega) (by' := 48) (OS_new (n := 9) (E := E9) H2) (h3.l.no (Kp.push1 H2 (.row [] false))) (by simp [most]; omega)
        rw [List.nil_append] at f2
        have k4 : Kp No H2 H3 := (Kp.push1 H2 (.row [] false)).trans f3 (fun _ h => h) fun i hi hf => by
          obtain ⟨z, e5, e6⟩ := hf
          cases e5
          dsimp only at e6; omega
        have hs2 : ∀ z, s2 = some z → H2.length ≤ z.id := fun z e => by
          rcases f4 z e with ⟨z', e5, e6⟩ | e5
          · cases e5; rw [e6]; exact Nat.le_refl _
          · simp at e5; omega
        have hge := List.getElem?_eq_getElem hq
        generalize hE : (cutX x).L[q] = e at hge
        obtain ⟨sl, G1, p0, p1, p2, p3, p4⟩ := setE (n0 := H2.length) (j := 4) (v := false) (e' := { e with ac := false }) f2 hge hs2 (by omega) rfl
        obtain ⟨sl', G2, p0', p5, p6, p7, p8⟩ := setE (n0 := H2.length) (j := 5) (v := false) (e := { e with ac := false }) (e' := { e with ac := false, q := false }) (k := q) p3 (by simp [hq]) hs2 (by omega) rfl
        rw [p0] at p0'; cases p0'
        obtain ⟨sl', G3, p0', p9, p10, p11, p12⟩ := setE (n0 := H2.length) (j := 6) (v := false) (e := { e with ac := false, q := false }) (e' := e.core) (k := q) p7 (by simp [hq]) hs2 (by omega) rfl
        rw [p0] at p0'; cases p0'
        have hw : (((cutX x).L.set q { e with ac := false }).set q { e with ac := false, q := false }).set q e.core = (weakX (cutX x) q).L := by
          unfold weakX
          rw [hge]
          simp
        rw [hw] at p11
        have kk : Kp No H2 G3 := ((k4.tr' (p4.mono fun i _ h => h)).tr' (p8.mono fun i _ h => h)).tr' (p12.mono fun i _ h => h)
        have h4 := h3.no kk
        have hx : RX G3 ⟨s2, b, c, d⟩ (weakX (cutX x) q) := ⟨p11.rs, h4.r, h4.c, h4.e, by unfold weakX; simp; exact hlt, h4.br, h4.bc, h4.be⟩
        obtain ⟨y2, G4, e7, k7, h7⟩ := f8_x hx
        obtain ⟨so2, ok2, G5, e8, t8, k8⟩ := f7_x h7
        obtain ⟨G6, e9⟩ := f9_t G5
        dsimp only at e7 e8
        refine ⟨G6, ?_⟩
        have f1' : (H2 ++ [Blk.row [] false]).append 9 48 (some { id := List.length H2, off := 0, len := 0, cap := 0, esz := 9 }) a = some (s2, H3) := f1
        have p2' : H3.put sl.id (sl.off + ((q : Nat) : Int).toNat * 9 + 4) [Cell.bool false] = some G1 := p2
        rw [f1', p0]
        simp only [Ab.bs, p1, ct, p2', p6, p10]
        rw [p0] at e7
        rw [e7, Ab.bs]
        dsimp only
        rw [e8, Ab.bs]
        dsimp only
        rw [t8.ok, weaker_law _ _ hO, ct, e9]
        rfl
/-- An Event of a law's arguments. -/
theorem ev_of {H : Heap} {n : Nat} (cs : List Cell) (h : Sh Try.prog H (n + 2) 36 cs) : ∃ e : Ev, cs = E9 e ∧ True := by
  obtain ⟨h1, h2⟩ := sh_struct h Try.underlying36
  have h1 : cs.length = 9 := h1.trans (by kernel_rfl)
  have hc : Try.prog.cellsOf 3 = 1 := by kernel_rfl
  have hb : Try.prog.cellsOf 4 = 1 := by kernel_rfl
  have hu : Try.prog.cellsOf 34 = 1 := by kernel_rfl
  obtain ⟨y0, z0, _⟩ := sh_int (h2 0 _ rfl) Try.underlying3
  obtain ⟨y1, z1, _⟩ := sh_int (h2 1 _ rfl) Try.underlying3
  obtain ⟨y2, z2, _⟩ := sh_int (h2 2 _ rfl) Try.underlying34
  obtain ⟨y3, z3, _⟩ := sh_int (h2 3 _ rfl) Try.underlying3
  obtain ⟨y4, z4⟩ := sh_bool (h2 4 _ rfl) Try.underlying4
  obtain ⟨y5, z5⟩ := sh_bool (h2 5 _ rfl) Try.underlying4
  obtain ⟨y6, z6⟩ := sh_bool (h2 6 _ rfl) Try.underlying4
  obtain ⟨y7, z7⟩ := sh_bool (h2 7 _ rfl) Try.underlying4
  obtain ⟨y8, z8, _⟩ := sh_int (h2 8 _ rfl) Try.underlying3
  rw [hc] at z0 z1 z3 z8
  rw [hb] at z4 z5 z6 z7
  rw [hu] at z2
  have w0 := drop_app (o := 0) z0 rfl
  have w1 := drop_app (o := 1) z1 rfl
  have w2 := drop_app (o := 2) z2 rfl
  have w3 := drop_app (o := 3) z3 rfl
  have w4 := drop_app (o := 4) z4 rfl
  have w5 := drop_app (o := 5) z5 rfl
  have w6 := drop_app (o := 6) z6 rfl
  have w7 := drop_app (o := 7) z7 rfl
  have w8 := drop_app (o := 8) z8 rfl
  have wx : cs.drop 9 = [] := List.drop_eq_nil_of_le (by omega)
  exact ⟨⟨y0, y1, y2, y3, y4, y5, y6, y7, y8⟩, by rw [List.drop_zero] at w0; rw [w0, w1, w2, w3, w4, w5, w6, w7, w8, wx]; rfl, trivial⟩
theorem i_of {H : Heap} {n : Nat} (cs : List Cell) (h : Sh Try.prog H (n + 1) 3 cs) : ∃ e : Int, cs = EI e ∧ (-9223372036854775808 ≤ e ∧ e ≤ 9223372036854775807) := by
  obtain ⟨y, z, w⟩ := sh_int h Try.underlying3
  exact ⟨y, z, by simpa [Lit.wf, IntKind.min, IntKind.max, IntKind.signed, IntKind.bits] using w⟩
theorem p_of {H : Heap} {n : Nat} (cs : List Cell) (h : Sh Try.prog H (n + 2) 39 cs) : ∃ e : Int × Int, cs = EP e ∧ True := by
  obtain ⟨h1, h2⟩ := sh_array h Try.underlying39
  have h1 : cs.length = 2 := h1.trans (by kernel_rfl)
  have hc : Try.prog.cellsOf 3 = 1 := by kernel_rfl
  have g0 := h2 0 (by omega)
  have g1 := h2 1 (by omega)
  obtain ⟨y0, z0, _⟩ := sh_int g0 Try.underlying3
  obtain ⟨y1, z1, _⟩ := sh_int g1 Try.underlying3
  rw [hc] at z0 z1
  have w0 := drop_app (o := 0 * 1) z0 rfl
  have w1 := drop_app (o := 1 * 1) z1 rfl
  have wx : cs.drop 2 = [] := List.drop_eq_nil_of_le (by omega)
  simp only [Nat.zero_mul, Nat.one_mul, Nat.zero_add, List.drop_zero] at w0 w1
  exact ⟨(y0, y1), by rw [w0, w1, wx]; rfl, trivial⟩
/-- An execution of a law's arguments. -/
theorem ex_of {H : Heap} {n : Nat} (cs : List Cell) (h : Sh Try.prog H (n + 4) 26 cs) : ∃ (s : XS) (x : Ex), cs = [.slice s.l, .slice s.r, .slice s.c, .slice s.e] ∧ RS 9 E9 H s.l x.L ∧ RS 1 EI H s.r x.Rf ∧ RS 1 EI H s.c x.Co ∧ RS 2 EP H s.e x.Ad := by
  obtain ⟨h1, h2⟩ := sh_struct h Try.underlying26
  have h1 : cs.length = 4 := h1.trans (by kernel_rfl)
  have c0 : Try.prog.cellsOf 22 = 1 := by kernel_rfl
  have c1 : Try.prog.cellsOf 23 = 1 := by kernel_rfl
  have c2 : Try.prog.cellsOf 24 = 1 := by kernel_rfl
  obtain ⟨s0, l0, z0, r0, _⟩ := sh_slice E9 (fun _ => True) E9_len (h2 0 _ rfl) Try.underlying22 (k := 9) (by kernel_rfl) (fun cs h => ev_of cs h)
  obtain ⟨s1, l1, z1, r1, _⟩ := sh_slice EI (fun e => -9223372036854775808 ≤ e ∧ e ≤ 9223372036854775807) EI_len (h2 1 _ rfl) Try.underlying23 (k := 1) (by kernel_rfl) (fun cs h => i_of cs h)
  obtain ⟨s2, l2, z2, r2, _⟩ := sh_slice EI (fun e => -9223372036854775808 ≤ e ∧ e ≤ 9223372036854775807) EI_len (h2 2 _ rfl) Try.underlying23 (k := 1) (by kernel_rfl) (fun cs h => i_of cs h)
  obtain ⟨s3, l3, z3, r3, _⟩ := sh_slice EP (fun _ => True) EP_len (h2 3 _ rfl) Try.underlying24 (k := 2) (by kernel_rfl) (fun cs h => p_of cs h)
  rw [c0] at z0
  rw [c1] at z1 z2
  rw [c2] at z3
  have w0 := drop_app (o := 0) z0 rfl
  have w1 := drop_app (o := 1) z1 rfl
  have w2 := drop_app (o := 2) z2 rfl
  have w3 := drop_app (o := 3) z3 rfl
  have wx : cs.drop 4 = [] := List.drop_eq_nil_of_le (by omega)
  exact ⟨⟨s0, s1, s2, s3⟩, ⟨l0, l1, l2, l3⟩, by rw [List.drop_zero] at w0; rw [w0, w1, w2, w3, wx]; rfl, r0, r1, r2, r3⟩
theorem holds5 (Hp : Heap) (xs : List TV) (_hn : NoOwn Hp) (hxs : TShAll Try.prog Hp 12 Try.f5.params.toList xs) : fnA CC5 Try.f5.results.toList (bodyOf Try.f5) Bool xs Hp (fun x _ => x.cell.bind Cell.toBool) = some true := by
  have hp : Try.f5.params.toList = [26, 3] := by kernel_rfl
  rw [hp] at hxs
  obtain ⟨x0, xr0, rfl, t0, hxs⟩ := hxs
  obtain ⟨x1, xr1, rfl, t1, hnil⟩ := hxs
  subst hnil
  obtain ⟨cs, rfl, s0⟩ := tsh_agg t0 Try.underlying26
  obtain ⟨c1, rfl, s1⟩ := tsh_c t1 (by simp [Try.underlying3]) (by simp [Try.underlying3])
  obtain ⟨s, x, rfl, r0, r1, r2, r3⟩ := ex_of cs s0
  obtain ⟨k, e1, _⟩ := sh_int s1 Try.underlying3
  cases e1
  obtain ⟨H', h⟩ := f5_x k r0 r1 r2 r3
  rw [f5_eq] at h
  exact law_of hN5 (fun v hv => by
    unfold dec5 at hv
    split at hv
    · cases hv; rfl
    · cases hv) h
end
end Go.Proofs.Ythakpjkmianglaa
