/- Layer 3: a law's files; ElfSame. -/
import Derived.Test.YtmjmhipfkbedaaaEuC
import Derived.Test.YtmjmhipfkbedaaaAb30
namespace Go.Proofs.Ytmjmhipfkbedaaa
open Go Go.Proofs.Ytmjmhipfkbedaaa.Ab
set_option linter.unusedVariables false
set_option linter.unusedSimpArgs false
set_option maxRecDepth 100000
noncomputable section
theorem wf64 {y : Int} (h : (Lit.int IntKind.u64 y).wf = true) : u64r y := by
  have : 0 ≤ y ∧ y ≤ 18446744073709551615 := by simpa [Lit.wf, IntKind.min, IntKind.max, IntKind.signed, IntKind.bits] using h
  unfold u64r; omega
theorem wfi64 {y : Int} (h : (Lit.int IntKind.i64 y).wf = true) : i64r y := by
  have : -9223372036854775808 ≤ y ∧ y ≤ 9223372036854775807 := by simpa [Lit.wf, IntKind.min, IntKind.max, IntKind.signed, IntKind.bits] using h
  unfold i64r; omega
def SgA (H : Heap) (x : Sg) : Prop := (u64r x.addr ∧ u64r x.size) ∧ RS 1 E8 H x.sl x.data ∧ x.data.length ≤ 9223372036854775807
def SyA (x : Sy) : Prop := (u64r x.addr ∧ u64r x.size) ∧ x.name.size ≤ 9223372036854775807
def RlA (x : Rl) : Prop := u64r x.at' ∧ i64r x.add
theorem maxLen_eq : maxLen = 9223372036854775807 := rfl
theorem sgA_of {H : Heap} {n : Nat} (cs : List Cell) (h : Sh Try.prog H (n + 3) 59 cs) : ∃ e : Sg, cs = ESg e ∧ SgA H e := by
  obtain ⟨h1, h2⟩ := sh_struct h Try.underlying59
  have h1 : cs.length = 5 := h1.trans (by kernel_rfl)
  have hc : Try.prog.cellsOf 3 = 1 := by kernel_rfl
  have hu : Try.prog.cellsOf 22 = 1 := by kernel_rfl
  have hb : Try.prog.cellsOf 23 = 1 := by kernel_rfl
  obtain ⟨y0, z0, _⟩ := sh_int (h2 0 _ rfl) Try.underlying3
  obtain ⟨y1, z1, _⟩ := sh_int (h2 1 _ rfl) Try.underlying3
  obtain ⟨y2, z2, b2⟩ := sh_int (h2 2 _ rfl) Try.underlying22
  obtain ⟨y3, z3, b3⟩ := sh_int (h2 3 _ rfl) Try.underlying22
  obtain ⟨s4, l4, z4, r4, _, _, b4⟩ := sh_slice E8 (fun _ => True) E8_len (h2 4 _ rfl) Try.underlying23 (k := 1) (by kernel_rfl) (fun cs h => u8_of Try.underlying5 cs h)
  rw [hc] at z0 z1
  rw [hu] at z2 z3
  rw [hb] at z4
  have w0 := drop_app (o := 0) z0 rfl
  have w1 := drop_app (o := 1) z1 rfl
  have w2 := drop_app (o := 2) z2 rfl
  have w3 := drop_app (o := 3) z3 rfl
  have w4 := drop_app (o := 4) z4 rfl
  have wx : cs.drop 5 = [] := List.drop_eq_nil_of_le (by omega)
  exact ⟨⟨y0, y1, y2, y3, s4, l4⟩, by rw [List.drop_zero] at w0; rw [w0, w1, w2, w3, w4, wx]; rfl, ⟨wf64 b2, wf64 b3⟩, r4, b4⟩
theorem syA_of {H : Heap} {n : Nat} (cs : List Cell) (h : Sh Try.prog H (n + 3) 67 cs) : ∃ e : Sy, cs = ESy e ∧ SyA e := by
  obtain ⟨h1, h2⟩ := sh_struct h Try.underlying67
  have h1 : cs.length = 4 := h1.trans (by kernel_rfl)
  have hc : Try.prog.cellsOf 3 = 1 := by kernel_rfl
  have hu : Try.prog.cellsOf 22 = 1 := by kernel_rfl
  have hb : Try.prog.cellsOf 9 = 1 := by kernel_rfl
  obtain ⟨y0, z0, b0⟩ := sh_str (h2 0 _ rfl) Try.underlying9
  obtain ⟨y1, z1, _⟩ := sh_int (h2 1 _ rfl) Try.underlying3
  obtain ⟨y2, z2, b2⟩ := sh_int (h2 2 _ rfl) Try.underlying22
  obtain ⟨y3, z3, b3⟩ := sh_int (h2 3 _ rfl) Try.underlying22
  rw [hb] at z0
  rw [hc] at z1
  rw [hu] at z2 z3
  have w0 := drop_app (o := 0) z0 rfl
  have w1 := drop_app (o := 1) z1 rfl
  have w2 := drop_app (o := 2) z2 rfl
  have w3 := drop_app (o := 3) z3 rfl
  have wx : cs.drop 4 = [] := List.drop_eq_nil_of_le (by omega)
  exact ⟨⟨y0, y1, y2, y3⟩, by rw [List.drop_zero] at w0; rw [w0, w1, w2, w3, wx]; rfl, ⟨wf64 b2, wf64 b3⟩, b0⟩
theorem rlA_of {H : Heap} {n : Nat} (cs : List Cell) (h : Sh Try.prog H (n + 3) 70 cs) : ∃ e : Rl, cs = ERl e ∧ RlA e := by
  obtain ⟨h1, h2⟩ := sh_struct h Try.underlying70
  have h1 : cs.length = 3 := h1.trans (by kernel_rfl)
  have hc : Try.prog.cellsOf 3 = 1 := by kernel_rfl
  have hu : Try.prog.cellsOf 22 = 1 := by kernel_rfl
  have hb : Try.prog.cellsOf 2 = 1 := by kernel_rfl
  obtain ⟨y0, z0, b0⟩ := sh_int (h2 0 _ rfl) Try.underlying22
  obtain ⟨y1, z1, _⟩ := sh_int (h2 1 _ rfl) Try.underlying3
  obtain ⟨y2, z2, b2⟩ := sh_int (h2 2 _ rfl) Try.underlying2
  rw [hu] at z0
  rw [hc] at z1
  rw [hb] at z2
  have w0 := drop_app (o := 0) z0 rfl
  have w1 := drop_app (o := 1) z1 rfl
  have w2 := drop_app (o := 2) z2 rfl
  have wx : cs.drop 3 = [] := List.drop_eq_nil_of_le (by omega)
  exact ⟨⟨y0, y1, y2⟩, by rw [List.drop_zero] at w0; rw [w0, w1, w2, wx]; rfl, wf64 b0, wfi64 b2⟩
structure FA (H : Heap) (s : FS) (f : Fl) : Prop where
  r : FR H s f
  e : u64r f.E
  sg : ∀ x ∈ f.sg, SgA H x
  sy : ∀ x ∈ f.sy, SyA x
  rl : ∀ x ∈ f.rl, RlA x
  n : f.rl.length ≤ 9223372036854775807
def fcells (s : FS) : List Cell := [.int .i64 s.M, .int .u64 s.E, .slice s.sg, .slice s.sy, .slice s.rl]
/-- A file of a law's arguments. -/
theorem fl_of {H : Heap} {n : Nat} (cs : List Cell) (h : Sh Try.prog H (n + 5) 39 cs) : ∃ (s : FS) (f : Fl), cs = fcells s ∧ FA H s f := by
  obtain ⟨h1, h2⟩ := sh_struct h Try.underlying39
  have h1 : cs.length = 5 := h1.trans (by kernel_rfl)
  have c0 : Try.prog.cellsOf 3 = 1 := by kernel_rfl
  have c1 : Try.prog.cellsOf 22 = 1 := by kernel_rfl
  have c2 : Try.prog.cellsOf 35 = 1 := by kernel_rfl
  have c3 : Try.prog.cellsOf 36 = 1 := by kernel_rfl
  have c4 : Try.prog.cellsOf 37 = 1 := by kernel_rfl
  obtain ⟨y0, z0, _⟩ := sh_int (h2 0 _ rfl) Try.underlying3
  obtain ⟨y1, z1, b1⟩ := sh_int (h2 1 _ rfl) Try.underlying22
  obtain ⟨s2, l2, z2, r2, q2, _, b2⟩ := sh_slice ESg (SgA H) ESg_len (h2 2 _ rfl) Try.underlying35 (k := 5) (by kernel_rfl) (fun cs h => sgA_of cs h)
  obtain ⟨s3, l3, z3, r3, q3, _, b3⟩ := sh_slice ESy SyA ESy_len (h2 3 _ rfl) Try.underlying36 (k := 4) (by kernel_rfl) (fun cs h => syA_of cs h)
  obtain ⟨s4, l4, z4, r4, q4, _, b4⟩ := sh_slice ERl RlA ERl_len (h2 4 _ rfl) Try.underlying37 (k := 3) (by kernel_rfl) (fun cs h => rlA_of cs h)
  rw [c0] at z0
  rw [c1] at z1
  rw [c2] at z2
  rw [c3] at z3
  rw [c4] at z4
  have w0 := drop_app (o := 0) z0 rfl
  have w1 := drop_app (o := 1) z1 rfl
  have w2 := drop_app (o := 2) z2 rfl
  have w3 := drop_app (o := 3) z3 rfl
  have w4 := drop_app (o := 4) z4 rfl
  have wx : cs.drop 5 = [] := List.drop_eq_nil_of_le (by omega)
  exact ⟨⟨y0, y1, s2, s3, s4⟩, ⟨y0, y1, l2, l3, l4⟩, by rw [List.drop_zero] at w0; rw [w0, w1, w2, w3, w4, wx]; rfl, ⟨rfl, rfl, r2, r3, r4, fun x hx => (q2 x hx).2.1⟩, wf64 b1, q2, q3, q4, b4⟩
/-! ElfSame -/
theorem all2_refl {α : Type} (p : α → α → Bool) (hp : ∀ x, p x x = true) : ∀ l : List α, all2 p l l = true
  | [] => rfl
  | x :: l => by unfold all2; rw [hp x, all2_refl p hp l]; rfl
theorem sameF_refl (f : Fl) : sameF f f = true := by
  unfold sameF lenEq
  rw [all2_refl sgEq (fun x => by unfold sgEq; simp) f.sg, all2_refl syEq (fun x => by unfold syEq strEq; simp) f.sy, all2_refl rlEq (fun x => by unfold rlEq; simp) f.rl]
  simp
theorem cutF_len (f : Fl) : (cutF f).sg.length ≤ 1000 ∧ (cutF f).sy.length ≤ 1000 ∧ (cutF f).rl.length ≤ 1000 := by
  unfold cutF
  simp only [List.length_map, List.length_take]
  omega
theorem f5_x {H : Heap} {s t : FS} {f g : Fl} (hs : FA H s f) (ht : FA H t g) : ∃ H', f5 s.M s.E s.sg s.sy s.rl t.M t.E t.sg t.sy t.rl H = some (true, H') := by
  obtain ⟨a1, a2, a3⟩ := cutF_len f
  obtain ⟨b1, b2, b3⟩ := cutF_len g
  obtain ⟨s1, H1, e1, k1, r1⟩ := f10_x hs.r hs.n
  obtain ⟨t1, H2, e2, k2, r2⟩ := f10_x (ht.r.no k1) ht.n
  have r1' := r1.no k2
  obtain ⟨s2, H3, e3, k3, r3⟩ := f11_x r1' a1 a2 a3
  obtain ⟨t2, H4, e4, k4, r4⟩ := f11_x (r2.no k3) b1 b2 b3
  have e5 := f16_x (r3.no k4) r4 a1 a2 a3
  have r14 := (r1'.no k3).no k4
  have e6 := f15_x r14 ((r2.no k3).no k4) a1 a2 a3
  obtain ⟨s3, H5, e7, k7, r7⟩ := f11_x r14 a1 a2 a3
  obtain ⟨s4, H6, e8, k8, r8⟩ := f11_x (r14.no k7) a1 a2 a3
  have e9 := f16_x (r7.no k8) r8 a1 a2 a3
  obtain ⟨H7, e10, _⟩ := f9_x H6
  refine ⟨H7, ?_⟩
  rw [q5, e1, Ab.bs]
  dsimp only
  rw [e2, Ab.bs]
  dsimp only
  rw [e3, Ab.bs]
  dsimp only
  rw [e4, Ab.bs]
  dsimp only
  rw [e5, Ab.bs]
  dsimp only
  rw [e6, Ab.bs]
  dsimp only
  rw [show (sameF (cutF f) (cutF g) == sameF (cutF f) (cutF g)) = true by simp, ct, e7, Ab.bs]
  dsimp only
  rw [e8, Ab.bs]
  dsimp only
  rw [e9, Ab.bs]
  dsimp only
  rw [sameF_refl, ct, e10, Ab.bs]
theorem holds5 (Hp : Heap) (xs : List TV) (_hn : NoOwn Hp) (hxs : TShAll Try.prog Hp 12 Try.f5.params.toList xs) : fnA CC5 Try.f5.results.toList (bodyOf Try.f5) Bool xs Hp (fun x _ => x.cell.bind Cell.toBool) = some true := by
  have hp : Try.f5.params.toList = [39, 39] := by kernel_rfl
  rw [hp] at hxs
  obtain ⟨x0, xr0, rfl, t0, hxs⟩ := hxs
  obtain ⟨x1, xr1, rfl, t1, hnil⟩ := hxs
  subst hnil
  obtain ⟨cs, rfl, s0⟩ := tsh_agg t0 Try.underlying39
  obtain ⟨cs', rfl, s1⟩ := tsh_agg t1 Try.underlying39
  obtain ⟨s, f, rfl, r0⟩ := fl_of cs s0
  obtain ⟨t, g, rfl, r1⟩ := fl_of cs' s1
  obtain ⟨H', h⟩ := f5_x r0 r1
  rw [f5_eq] at h
  exact law_of hN5 (fun v hv => by
    unfold dec5 at hv
    split at hv
    · cases hv; rfl
    · cases hv) h
end
end Go.Proofs.Ytmjmhipfkbedaaa
