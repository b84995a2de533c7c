/- Layer 11: instructions as a law's arguments. -/
import Derived.Test.YtlhcbcfphognlaaJuE
namespace Go.Proofs.Ytlhcbcfphognlaa
open Go Go.Proofs.Ytlhcbcfphognlaa.Ab
set_option linter.unusedVariables false
set_option linter.unusedSimpArgs false
set_option maxRecDepth 100000
noncomputable section
def E20 (x : Ins) : List Cell := [Cell.int .i64 x.op, Cell.int .i64 x.w, Cell.int .i64 x.w2, Cell.int .i64 x.a.k, Cell.int .i64 x.a.r, Cell.int .i64 x.a.b, Cell.int .i64 x.a.i, Cell.int .i64 x.a.s, Cell.int .i64 x.a.d, Cell.int .i64 x.b.k, Cell.int .i64 x.b.r, Cell.int .i64 x.b.b, Cell.int .i64 x.b.i, Cell.int .i64 x.b.s, Cell.int .i64 x.b.d, Cell.int .i64 x.imm, Cell.int .i64 x.cc, Cell.bool x.lock, Cell.bool x.rep, Cell.int .i64 x.len]
theorem E20_len (x : Ins) : (E20 x).length = 20 := rfl
theorem g6_x (x : Ins) (H : Heap) : g6 x.op x.w x.w2 x.a.k x.a.r x.a.b x.a.i x.a.s x.a.d x.b.k x.b.r x.b.b x.b.i x.b.s x.b.d x.imm x.cc x.lock x.rep x.len H = some (x.op, x.w, x.w2, x.a.k, x.a.r, x.a.b, x.a.i, x.a.s, x.a.d, x.b.k, x.b.r, x.b.b, x.b.i, x.b.s, x.b.d, x.imm, x.cc, x.lock, x.rep, x.len) := by
  rw [g6_eq]
  refine readOf_eq ?_
  have h19 : ∀ a b c d e f : Int, g19 a b c d e f H = some (a, b, c, d, e, f) := fun a b c d e f => by
    rw [g19_eq]
    refine readOf_eq ?_
    rw [q19]
  rw [q6]
  simp only [h19, Ab.bs]
theorem shape_w (x : Ins) (h : x.shape = true) : wOk x.w = true := by
  cases hw : wOk x.w with
  | true => rfl
  | false =>
    unfold wOk at hw
    simp only [Bool.or_eq_false_iff] at hw
    obtain ⟨w1, w2, w4, w8⟩ := hw
    unfold Ins.shape wOk w248 at h
    simp only [w1, w2, w4, w8, Bool.or_self, Bool.false_and, Bool.and_false] at h
    simp at h
theorem shape_op (x : Ins) (h : x.shape = true) : 1 ≤ x.op ∧ x.op ≤ 47 := by
  by_cases e : x.op < 1 ∨ x.op > 47
  · have l : ∀ L, inL x.op L = false := fun L => by unfold inL; rcases e with e | e <;> simp [e]
    unfold Ins.shape at h
    simp only [l, cond_false, Bool.false_and] at h
    cases h
  · omega
theorem rmay_shape (x : Ins) (h : x.rmay = true) : x.shape = true := by
  unfold Ins.rmay at h
  simp only [Bool.and_eq_true] at h
  exact h.1
/-- A word, by its number. -/
def E6 (o : Od) : List Cell := [.int .i64 o.k, .int .i64 o.r, .int .i64 o.b, .int .i64 o.i, .int .i64 o.s, .int .i64 o.d]
theorem i64_of {x : Int} (hx : (Lit.int .i64 x).wf = true) : -9223372036854775808 ≤ x ∧ x < 9223372036854775808 := by
  have : -9223372036854775808 ≤ x ∧ x ≤ 9223372036854775807 := by simpa [Lit.wf, IntKind.min, IntKind.max, IntKind.signed, IntKind.bits] using hx
  omega
theorem od_of {H : Heap} {n : Nat} (cs : List Cell) (h : Sh Try.prog H (n + 2) 23 cs) : ∃ o : Od, cs = E6 o ∧ -9223372036854775808 ≤ o.d ∧ o.d < 9223372036854775808 := by
  obtain ⟨h1, h2⟩ := sh_struct h Try.underlying23
  have h1 : cs.length = 6 := h1.trans (by kernel_rfl)
  obtain ⟨y0, z0, _⟩ := sh_int (h2 0 _ rfl) Try.underlying3
  obtain ⟨y1, z1, _⟩ := sh_int (h2 1 _ rfl) Try.underlying3
  obtain ⟨y2, z2, _⟩ := sh_int (h2 2 _ rfl) Try.underlying3
  obtain ⟨y3, z3, _⟩ := sh_int (h2 3 _ rfl) Try.underlying3
  obtain ⟨y4, z4, _⟩ := sh_int (h2 4 _ rfl) Try.underlying3
  obtain ⟨y5, z5, q⟩ := sh_int (h2 5 _ rfl) Try.underlying2
  have hc : Try.prog.cellsOf 3 = 1 := by kernel_rfl
  have hd : Try.prog.cellsOf 2 = 1 := by kernel_rfl
  rw [hc] at z0 z1 z2 z3 z4
  rw [hd] at z5
  have w0 := drop_app (o := 0) z0 rfl
  have w1 := drop_app (o := 1) z1 rfl
  have w2 := drop_app (o := 2) z2 rfl
  have w3 := drop_app (o := 3) z3 rfl
  have w4 := drop_app (o := 4) z4 rfl
  have w5 := drop_app (o := 5) z5 rfl
  have w6 : cs.drop 6 = [] := List.drop_eq_nil_of_le (by omega)
  exact ⟨⟨y0, y1, y2, y3, y4, y5⟩, by rw [List.drop_zero] at w0; rw [w0, w1, w2, w3, w4, w5, w6]; rfl, i64_of q⟩
theorem ins_of {H : Heap} {n : Nat} (cs : List Cell) (h : Sh Try.prog H (n + 3) 25 cs) : ∃ x : Ins, cs = E20 x ∧ x.Wf := by
  obtain ⟨h1, h2⟩ := sh_struct h Try.underlying25
  have h1 : cs.length = 20 := h1.trans (by kernel_rfl)
  have hc : Try.prog.cellsOf 3 = 1 := by kernel_rfl
  have hd : Try.prog.cellsOf 2 = 1 := by kernel_rfl
  have hb : Try.prog.cellsOf 4 = 1 := by kernel_rfl
  have ho : Try.prog.cellsOf 23 = 6 := by kernel_rfl
  obtain ⟨y0, z0, _⟩ := sh_int (h2 0 _ rfl) Try.underlying3
  obtain ⟨y1, z1, _⟩ := sh_int (h2 1 _ rfl) Try.underlying3
  obtain ⟨y2, z2, _⟩ := sh_int (h2 2 _ rfl) Try.underlying3
  obtain ⟨a, za, a1, a2⟩ := od_of _ (h2 3 _ rfl)
  obtain ⟨b, zb, b1, b2⟩ := od_of _ (h2 4 _ rfl)
  obtain ⟨y5, z5, q⟩ := sh_int (h2 5 _ rfl) Try.underlying2
  obtain ⟨y6, z6, _⟩ := sh_int (h2 6 _ rfl) Try.underlying3
  obtain ⟨y7, z7⟩ := sh_bool (h2 7 _ rfl) Try.underlying4
  obtain ⟨y8, z8⟩ := sh_bool (h2 8 _ rfl) Try.underlying4
  obtain ⟨y9, z9, _⟩ := sh_int (h2 9 _ rfl) Try.underlying3
  rw [hc] at z0 z1 z2 z6 z9
  rw [hd] at z5
  rw [hb] at z7 z8
  rw [ho] at za zb
  have w0 := drop_app (o := 0) z0 rfl
  have w1 := drop_app (o := 1) z1 rfl
  have w2 := drop_app (o := 2) z2 rfl
  have w3 := drop_app (o := 3) za rfl
  have w4 := drop_app (o := 9) zb rfl
  have w5 := drop_app (o := 15) z5 rfl
  have w6 := drop_app (o := 16) z6 rfl
  have w7 := drop_app (o := 17) z7 rfl
  have w8 := drop_app (o := 18) z8 rfl
  have w9 := drop_app (o := 19) z9 rfl
  have wx : cs.drop 20 = [] := List.drop_eq_nil_of_le (by omega)
  obtain ⟨q1, q2⟩ := i64_of q
  exact ⟨⟨y0, y1, y2, a, b, y5, y6, y7, y8, y9⟩, by rw [List.drop_zero] at w0; rw [w0, w1, w2, w3, w4, w5, w6, w7, w8, w9, wx]; rfl, ⟨a1, a2, b1, b2, q1, q2⟩⟩
end
end Go.Proofs.Ytlhcbcfphognlaa
