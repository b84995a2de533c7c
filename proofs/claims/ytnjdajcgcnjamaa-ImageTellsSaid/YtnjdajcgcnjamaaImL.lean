/- Layer 4: a law's files. -/
import Derived.Test.YtnjdajcgcnjamaaImK
import Derived.Test.YtnjdajcgcnjamaaAb30
namespace Go.Proofs.Ytnjdajcgcnjamaa
open Go Go.Proofs.Ytnjdajcgcnjamaa.Ab
set_option linter.unusedVariables false
set_option linter.unusedSimpArgs false
set_option maxRecDepth 100000
noncomputable section
theorem wf64 {y : Int} (h : (Lit.int IntKind.u64 y).wf = true) : u64r y := by
  have : 0 ≤ y ∧ y ≤ 18446744073709551615 := by simpa [Lit.wf, IntKind.min, IntKind.max, IntKind.signed, IntKind.bits] using h
  unfold u64r; omega
theorem wfi64 {y : Int} (h : (Lit.int IntKind.i64 y).wf = true) : i64r y := by
  have : -9223372036854775808 ≤ y ∧ y ≤ 9223372036854775807 := by simpa [Lit.wf, IntKind.min, IntKind.max, IntKind.signed, IntKind.bits] using h
  unfold i64r; omega
def SgA (H : Heap) (x : Sg) : Prop := (u64r x.addr ∧ u64r x.size) ∧ RS 1 E8 H x.sl x.data ∧ x.data.length ≤ 9223372036854775807
def SyA (x : Sy) : Prop := (u64r x.addr ∧ u64r x.size) ∧ x.name.size ≤ 9223372036854775807
def RlA (x : Rl) : Prop := u64r x.at' ∧ i64r x.add
theorem sgA_of {H : Heap} {n : Nat} (cs : List Cell) (h : Sh Try.prog H (n + 3) 46 cs) : ∃ e : Sg, cs = ESg e ∧ SgA H e := by
  obtain ⟨h1, h2⟩ := sh_struct h Try.underlying46
  have h1 : cs.length = 5 := h1.trans (by kernel_rfl)
  have hc : Try.prog.cellsOf 3 = 1 := by kernel_rfl
  have hu : Try.prog.cellsOf 22 = 1 := by kernel_rfl
  have hb : Try.prog.cellsOf 29 = 1 := by kernel_rfl
  obtain ⟨y0, z0, _⟩ := sh_int (h2 0 _ rfl) Try.underlying3
  obtain ⟨y1, z1, _⟩ := sh_int (h2 1 _ rfl) Try.underlying3
  obtain ⟨y2, z2, b2⟩ := sh_int (h2 2 _ rfl) Try.underlying22
  obtain ⟨y3, z3, b3⟩ := sh_int (h2 3 _ rfl) Try.underlying22
  obtain ⟨s4, l4, z4, r4, _, _, b4⟩ := sh_slice E8 (fun _ => True) E8_len (h2 4 _ rfl) Try.underlying29 (k := 1) (by kernel_rfl) (fun cs h => u8_of Try.underlying5 cs h)
  rw [hc] at z0 z1
  rw [hu] at z2 z3
  rw [hb] at z4
  have w0 := drop_app (o := 0) z0 rfl
  have w1 := drop_app (o := 1) z1 rfl
  have w2 := drop_app (o := 2) z2 rfl
  have w3 := drop_app (o := 3) z3 rfl
  have w4 := drop_app (o := 4) z4 rfl
  have wx : cs.drop 5 = [] := List.drop_eq_nil_of_le (by omega)
  exact ⟨⟨y0, y1, y2, y3, s4, l4⟩, by rw [List.drop_zero] at w0; rw [w0, w1, w2, w3, w4, wx]; rfl, ⟨wf64 b2, wf64 b3⟩, r4, b4⟩
theorem syA_of {H : Heap} {n : Nat} (cs : List Cell) (h : Sh Try.prog H (n + 3) 53 cs) : ∃ e : Sy, cs = ESy e ∧ SyA e := by
  obtain ⟨h1, h2⟩ := sh_struct h Try.underlying53
  have h1 : cs.length = 4 := h1.trans (by kernel_rfl)
  have hc : Try.prog.cellsOf 3 = 1 := by kernel_rfl
  have hu : Try.prog.cellsOf 22 = 1 := by kernel_rfl
  have hb : Try.prog.cellsOf 9 = 1 := by kernel_rfl
  obtain ⟨y0, z0, b0⟩ := sh_str (h2 0 _ rfl) Try.underlying9
  obtain ⟨y1, z1, _⟩ := sh_int (h2 1 _ rfl) Try.underlying3
  obtain ⟨y2, z2, b2⟩ := sh_int (h2 2 _ rfl) Try.underlying22
  obtain ⟨y3, z3, b3⟩ := sh_int (h2 3 _ rfl) Try.underlying22
  rw [hb] at z0
  rw [hc] at z1
  rw [hu] at z2 z3
  have w0 := drop_app (o := 0) z0 rfl
  have w1 := drop_app (o := 1) z1 rfl
  have w2 := drop_app (o := 2) z2 rfl
  have w3 := drop_app (o := 3) z3 rfl
  have wx : cs.drop 4 = [] := List.drop_eq_nil_of_le (by omega)
  exact ⟨⟨y0, y1, y2, y3⟩, by rw [List.drop_zero] at w0; rw [w0, w1, w2, w3, wx]; rfl, ⟨wf64 b2, wf64 b3⟩, b0⟩
theorem rlA_of {H : Heap} {n : Nat} (cs : List Cell) (h : Sh Try.prog H (n + 3) 55 cs) : ∃ e : Rl, cs = ERl e ∧ RlA e := by
  obtain ⟨h1, h2⟩ := sh_struct h Try.underlying55
  have h1 : cs.length = 3 := h1.trans (by kernel_rfl)
  have hc : Try.prog.cellsOf 3 = 1 := by kernel_rfl
  have hu : Try.prog.cellsOf 22 = 1 := by kernel_rfl
  have hb : Try.prog.cellsOf 2 = 1 := by kernel_rfl
  obtain ⟨y0, z0, b0⟩ := sh_int (h2 0 _ rfl) Try.underlying22
  obtain ⟨y1, z1, _⟩ := sh_int (h2 1 _ rfl) Try.underlying3
  obtain ⟨y2, z2, b2⟩ := sh_int (h2 2 _ rfl) Try.underlying2
  rw [hu] at z0
  rw [hc] at z1
  rw [hb] at z2
  have w0 := drop_app (o := 0) z0 rfl
  have w1 := drop_app (o := 1) z1 rfl
  have w2 := drop_app (o := 2) z2 rfl
  have wx : cs.drop 3 = [] := List.drop_eq_nil_of_le (by omega)
  exact ⟨⟨y0, y1, y2⟩, by rw [List.drop_zero] at w0; rw [w0, w1, w2, wx]; rfl, wf64 b0, wfi64 b2⟩
structure FA (H : Heap) (s : FS) (f : Fl) : Prop where
  r : FR H s f
  e : u64r f.E
  sg : ∀ x ∈ f.sg, SgA H x
  sy : ∀ x ∈ f.sy, SyA x
  rl : ∀ x ∈ f.rl, RlA x
  n : f.rl.length ≤ 9223372036854775807
def fcells (s : FS) : List Cell := [.int .i64 s.M, .int .u64 s.E, .slice s.sg, .slice s.sy, .slice s.rl]
/-- A file of a law's arguments. -/
theorem fl_of {H : Heap} {n : Nat} (cs : List Cell) (h : Sh Try.prog H (n + 5) 27 cs) : ∃ (s : FS) (f : Fl), cs = fcells s ∧ FA H s f := by
  obtain ⟨h1, h2⟩ := sh_struct h Try.underlying27
  have h1 : cs.length = 5 := h1.trans (by kernel_rfl)
  have c0 : Try.prog.cellsOf 3 = 1 := by kernel_rfl
  have c1 : Try.prog.cellsOf 22 = 1 := by kernel_rfl
  have c2 : Try.prog.cellsOf 23 = 1 := by kernel_rfl
  have c3 : Try.prog.cellsOf 24 = 1 := by kernel_rfl
  have c4 : Try.prog.cellsOf 25 = 1 := by kernel_rfl
  obtain ⟨y0, z0, _⟩ := sh_int (h2 0 _ rfl) Try.underlying3
  obtain ⟨y1, z1, b1⟩ := sh_int (h2 1 _ rfl) Try.underlying22
  obtain ⟨s2, l2, z2, r2, q2, _, b2⟩ := sh_slice ESg (SgA H) ESg_len (h2 2 _ rfl) Try.underlying23 (k := 5) (by kernel_rfl) (fun cs h => sgA_of cs h)
  obtain ⟨s3, l3, z3, r3, q3, _, b3⟩ := sh_slice ESy SyA ESy_len (h2 3 _ rfl) Try.underlying24 (k := 4) (by kernel_rfl) (fun cs h => syA_of cs h)
  obtain ⟨s4, l4, z4, r4, q4, _, b4⟩ := sh_slice ERl RlA ERl_len (h2 4 _ rfl) Try.underlying25 (k := 3) (by kernel_rfl) (fun cs h => rlA_of cs h)
  rw [c0] at z0
  rw [c1] at z1
  rw [c2] at z2
  rw [c3] at z3
  rw [c4] at z4
  have w0 := drop_app (o := 0) z0 rfl
  have w1 := drop_app (o := 1) z1 rfl
  have w2 := drop_app (o := 2) z2 rfl
  have w3 := drop_app (o := 3) z3 rfl
  have w4 := drop_app (o := 4) z4 rfl
  have wx : cs.drop 5 = [] := List.drop_eq_nil_of_le (by omega)
  exact ⟨⟨y0, y1, s2, s3, s4⟩, ⟨y0, y1, l2, l3, l4⟩, by rw [List.drop_zero] at w0; rw [w0, w1, w2, w3, w4, wx]; rfl, ⟨rfl, rfl, r2, r3, r4, fun x hx => (q2 x hx).2.1⟩, wf64 b1, q2, q3, q4, b4⟩

theorem fok_of {H : Heap} {s : FS} {f : Fl} (h : FA H s f) : FOk (cutF f) ∧ cutOk (cutF f) := by
  have hsg : ∀ x ∈ (cutF f).sg, (u64r x.addr ∧ u64r x.size) ∧ x.data.length ≤ 60 := fun x hx => by
    obtain ⟨y, y1, y2⟩ := List.mem_map.1 hx
    have hy := h.sg y (List.mem_of_mem_take y1)
    subst y2
    unfold cutSg
    by_cases g : y.data.length > 60
    · rw [dT g, cond_true]; exact ⟨hy.1, by simp; omega⟩
    · rw [dF g, cond_false]; exact ⟨hy.1, by omega⟩
  have hsy : ∀ x ∈ (cutF f).sy, u64r x.addr ∧ u64r x.size := fun x hx => by
    obtain ⟨y, y1, y2⟩ := List.mem_map.1 hx
    have hy := h.sy y (List.mem_of_mem_take y1)
    subst y2
    unfold cutSy
    cases decide (y.name.size > 40) <;> exact hy.1
  exact ⟨⟨h.e, fun x hx => (hsg x hx).1, hsy, fun x hx => (h.rl x (List.mem_of_mem_take hx)).1⟩, fun x hx => by have := (hsg x hx).2; omega⟩
theorem cutF_len (f : Fl) : (cutF f).sg.length ≤ 1000 ∧ (cutF f).sy.length ≤ 1000 ∧ (cutF f).rl.length ≤ 1000 := by
  unfold cutF
  simp
  omega
/-- A law's file, cut, as the program's. -/
theorem law_file {H : Heap} {s : FS} {f : Fl} (h : FA H s f) : ∃ s1 s2 H1 H2, f6 s.M s.E s.sg s.sy s.rl H = some ((s1.M, s1.E, s1.sg, s1.sy, s1.rl), H1) ∧ f8 s1.M s1.E s1.sg s1.sy s1.rl H1 = some ((s2.M, s2.E, s2.sg, s2.sy, s2.rl), H2) ∧ Kp No H H1 ∧ Kp No H1 H2 ∧ FR H1 s1 (cutF f) ∧ FR H2 s2 (cutF f) := by
  obtain ⟨s1, H1, e1, k1, r1⟩ := f6_x h.r h.n
  have hl := cutF_len f
  obtain ⟨s2, H2, e2, k2, r2⟩ := f8_x r1 hl.1 hl.2.1 hl.2.2
  exact ⟨s1, s2, H1, H2, e1, e2, k1, k2, r1, r2⟩
end
end Go.Proofs.Ytnjdajcgcnjamaa
