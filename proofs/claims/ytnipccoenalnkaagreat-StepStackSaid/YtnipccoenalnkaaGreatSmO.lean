/- Layer 10: memory, of layer 9: areas and calls as a law's arguments. -/
import Derived.Test.YtnipccoenalnkaaGreatSmG
namespace Go.Proofs.YtnipccoenalnkaaGreat
open Go Go.Proofs.YtnipccoenalnkaaGreat.Ab
set_option linter.unusedVariables false
set_option linter.unusedSimpArgs false
set_option maxRecDepth 100000
noncomputable section
theorem area_of {H : Heap} {n : Nat} (cs : List Cell) (h : Sh Tryz.prog H (n + 3) 68 cs) : ∃ a : Ar, cs = E5 a ∧ RS 1 E8 H a.sl a.data := by
  obtain ⟨h1, h2⟩ := sh_struct h Tryz.underlying68
  have h1 : cs.length = 5 := h1.trans (by kernel_rfl)
  have hc : Tryz.prog.cellsOf 3 = 1 := by kernel_rfl
  have hb : Tryz.prog.cellsOf 4 = 1 := by kernel_rfl
  have hu : Tryz.prog.cellsOf 22 = 1 := by kernel_rfl
  have hs : Tryz.prog.cellsOf 65 = 1 := by kernel_rfl
  obtain ⟨y0, z0, _⟩ := sh_int (h2 0 _ rfl) Tryz.underlying22
  obtain ⟨y1, B, z1, hB, _⟩ := sh_slice E8 (fun _ => True) E8_len (h2 1 _ rfl) Tryz.underlying65 (by kernel_rfl) (u8_of Tryz.underlying5)
  obtain ⟨y2, z2⟩ := sh_bool (h2 2 _ rfl) Tryz.underlying4
  obtain ⟨y3, z3⟩ := sh_bool (h2 3 _ rfl) Tryz.underlying4
  obtain ⟨y4, z4, _⟩ := sh_int (h2 4 _ rfl) Tryz.underlying3
  rw [hu] at z0
  rw [hs] at z1
  rw [hb] at z2 z3
  rw [hc] at z4
  have w0 := drop_app (o := 0) z0 rfl
  have w1 := drop_app (o := 1) z1 rfl
  have w2 := drop_app (o := 2) z2 rfl
  have w3 := drop_app (o := 3) z3 rfl
  have w4 := drop_app (o := 4) z4 rfl
  have wx : cs.drop 5 = [] := List.drop_eq_nil_of_le (by omega)
  exact ⟨⟨y0, y1, B, y2, y3, y4⟩, by rw [List.drop_zero] at w0; rw [w0, w1, w2, w3, w4, wx]; rfl, hB⟩
/-- A call. -/
structure Cal where
  kind : Int
  t : Int
  near : Bool
  inn : Int
  at' : Int
  w : Int
  v : Int
def E7 (o : Cal) : List Cell := [.int .i64 o.kind, .int .i64 o.t, .bool o.near, .int .i64 o.inn, .int .u64 o.at', .int .i64 o.w, .int .u64 o.v]
theorem E7_len (o : Cal) : (E7 o).length = 7 := rfl
def u64p (x : Int) : Prop := 0 ≤ x ∧ x < 18446744073709551616
def i64p (x : Int) : Prop := -9223372036854775808 ≤ x ∧ x < 9223372036854775808
theorem i64_of {x : Int} (hx : (Lit.int .i64 x).wf = true) : i64p x := by
  unfold i64p
  have : -9223372036854775808 ≤ x ∧ x ≤ 9223372036854775807 := by simpa [Lit.wf, IntKind.min, IntKind.max, IntKind.signed, IntKind.bits] using hx
  omega
theorem u64_of {x : Int} (hx : (Lit.int .u64 x).wf = true) : u64p x := by
  unfold u64p
  have : 0 ≤ x ∧ x ≤ 18446744073709551615 := by simpa [Lit.wf, IntKind.min, IntKind.max, IntKind.signed, IntKind.bits] using hx
  omega
structure Cal.Wf (o : Cal) : Prop where
  a : u64p o.at'
  w : i64p o.w
  v : u64p o.v
  t : i64p o.t
  i : i64p o.inn
theorem cal_of {H : Heap} {n : Nat} (cs : List Cell) (h : Sh Tryz.prog H (n + 2) 78 cs) : ∃ o : Cal, cs = E7 o ∧ o.Wf := by
  obtain ⟨h1, h2⟩ := sh_struct h Tryz.underlying78
  have h1 : cs.length = 7 := h1.trans (by kernel_rfl)
  have hc : Tryz.prog.cellsOf 3 = 1 := by kernel_rfl
  have hb : Tryz.prog.cellsOf 4 = 1 := by kernel_rfl
  have hu : Tryz.prog.cellsOf 22 = 1 := by kernel_rfl
  obtain ⟨y0, z0, _⟩ := sh_int (h2 0 _ rfl) Tryz.underlying3
  obtain ⟨y1, z1, v1⟩ := sh_int (h2 1 _ rfl) Tryz.underlying3
  obtain ⟨y2, z2⟩ := sh_bool (h2 2 _ rfl) Tryz.underlying4
  obtain ⟨y3, z3, v3⟩ := sh_int (h2 3 _ rfl) Tryz.underlying3
  obtain ⟨y4, z4, v4⟩ := sh_int (h2 4 _ rfl) Tryz.underlying22
  obtain ⟨y5, z5, v5⟩ := sh_int (h2 5 _ rfl) Tryz.underlying3
  obtain ⟨y6, z6, v6⟩ := sh_int (h2 6 _ rfl) Tryz.underlying22
  rw [hc] at z0 z1 z3 z5
  rw [hb] at z2
  rw [hu] at z4 z6
  have w0 := drop_app (o := 0) z0 rfl
  have w1 := drop_app (o := 1) z1 rfl
  have w2 := drop_app (o := 2) z2 rfl
  have w3 := drop_app (o := 3) z3 rfl
  have w4 := drop_app (o := 4) z4 rfl
  have w5 := drop_app (o := 5) z5 rfl
  have w6 := drop_app (o := 6) z6 rfl
  have wx : cs.drop 7 = [] := List.drop_eq_nil_of_le (by omega)
  exact ⟨⟨y0, y1, y2, y3, y4, y5, y6⟩, by rw [List.drop_zero] at w0; rw [w0, w1, w2, w3, w4, w5, w6, wx]; rfl, ⟨u64_of v4, i64_of v5, u64_of v6, i64_of v1, i64_of v3⟩⟩
end
end Go.Proofs.YtnipccoenalnkaaGreat
