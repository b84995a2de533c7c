/- The abstract machine, 30: a law's arguments, as lists. -/
import Derived.Test.YtnipccoenalnkaaGreatAb25
import Derived.Test.YtnipccoenalnkaaGreatAb29
namespace Go.Proofs.YtnipccoenalnkaaGreat.Ab
open Go Go.ChangeShapes Go.WideShapes Go.ChangeAt Go.RowKit
set_option linter.unusedSimpArgs false
set_option linter.unusedVariables false

/-- A law's body comes to true, if its results do, read as typed data. -/
theorem law_of {C : Ctx} (hN : CtxNat C) {rs : List ResultVar} {c : Code} {args : List TV} {H H' : Heap} {dec : AV → Option Bool} (hd : ∀ v, dec v = some true → v.cell.bind Cell.toBool = some true)
    (h : fnA C rs c (Bool × Heap) args H (decF dec) = some (true, H')) : fnA C rs c Bool args H (fun x _ => x.cell.bind Cell.toBool) = some true := by
  obtain ⟨v, H1, k1, k2⟩ := fnA_uni hN h
  simp only [decF, Option.map_eq_some_iff, Prod.mk.injEq] at k1
  obtain ⟨y, hy, rfl, rfl⟩ := k1
  rw [k2]; exact hd v hy

theorem drop_app {cs xs : List Cell} {o m : Nat} (h : (cs.drop o).take m = xs) (hm : xs.length = m) : cs.drop o = xs ++ cs.drop (o + m) := by
  rw [← List.drop_drop, ← h]; exact (List.take_append_drop m (cs.drop o)).symm
theorem sh_int {P : Program} {H : Heap} {n : Nat} {t : TypeId} {k : IntKind} {cs : List Cell} (h : Sh P H (n + 1) t cs) (hu : P.underlying t = some (.int k)) : ∃ x, cs = [.int k x] ∧ (Lit.int k x).wf = true := by
  unfold Sh at h; rw [hu] at h; exact h
theorem sh_bool {P : Program} {H : Heap} {n : Nat} {t : TypeId} {cs : List Cell} (h : Sh P H (n + 1) t cs) (hu : P.underlying t = some .bool) : ∃ b, cs = [.bool b] := by
  unfold Sh at h; rw [hu] at h; exact h
theorem sh_struct {P : Program} {H : Heap} {n : Nat} {t : TypeId} {fs : Array Field} {cs : List Cell} (h : Sh P H (n + 1) t cs) (hu : P.underlying t = some (.struct fs)) :
    cs.length = P.cellsOf t ∧ ∀ (j : Nat) (f : Field), fs.toList[j]? = some f → Sh P H n f.type ((cs.drop f.offset).take (P.cellsOf f.type)) := by
  unfold Sh at h; rw [hu] at h; exact h
theorem sh_array {P : Program} {H : Heap} {n m : Nat} {t e : TypeId} {cs : List Cell} (h : Sh P H (n + 1) t cs) (hu : P.underlying t = some (.array m e)) :
    cs.length = P.cellsOf t ∧ ∀ i, i < m → Sh P H n e ((cs.drop (i * P.cellsOf e)).take (P.cellsOf e)) := by
  unfold Sh at h; rw [hu] at h; exact h
theorem rows_of {α : Type} {k : Nat} {E : α → List Cell} {Q : α → Prop} {S : List Cell → Prop} (hel : ∀ cs, S cs → ∃ x, cs = E x ∧ Q x) (hE : ∀ x, (E x).length = k) : ∀ (m : Nat) (row : List Cell), row.length = m * k → (∀ i, i < m → S ((row.drop (i * k)).take k)) →
    ∃ l : List α, l.length = m ∧ row = l.flatMap E ∧ ∀ x ∈ l, Q x
  | 0, row, hl, h => ⟨[], rfl, by simpa using hl, by simp⟩
  | m + 1, row, hl, h => by
    obtain ⟨x, h1, h2⟩ := hel _ (h 0 (by omega))
    simp only [Nat.zero_mul, List.drop_zero] at h1
    rw [Nat.succ_mul] at hl
    obtain ⟨l, h3, h4, h5⟩ := rows_of hel hE m (row.drop k) (by simp; omega) fun i hi => by
      have := h (i + 1) (by omega)
      rw [List.drop_drop, Nat.add_comm k, ← Nat.succ_mul]; exact this
    refine ⟨x :: l, by simp [h3], ?_, fun y hy => ?_⟩
    · rw [List.flatMap_cons, ← h4, ← h1, List.take_append_drop]
    · rcases List.mem_cons.1 hy with rfl | hy
      · exact h2
      · exact h5 y hy
/-- A slice of a law's arguments, as a list. -/
theorem sh_slice {α : Type} {P : Program} {H : Heap} {n k : Nat} {t e : TypeId} (E : α → List Cell) (Q : α → Prop) (hE : ∀ x, (E x).length = k) {cs : List Cell} (h : Sh P H (n + 1) t cs)
    (hu : P.underlying t = some (.slice e)) (hk : P.cellsOf e = k) (hel : ∀ cs, Sh P H n e cs → ∃ x, cs = E x ∧ Q x) :
    ∃ (s : Option Sl) (l : List α), cs = [.slice s] ∧ RS k E H s l ∧ (∀ x ∈ l, Q x) ∧ (∀ sl, s = some sl → sl.cap = sl.len) ∧ l.length ≤ maxLen := by
  unfold Sh at h; rw [hu] at h; simp only at h
  rcases h with rfl | ⟨s, row, rfl, h2, h3, h4, h5, h6, h7, h8⟩
  · exact ⟨none, [], rfl, rfl, by simp, (fun _ e => nomatch e), Nat.zero_le _⟩
  · rw [hk] at h5 h7 h8
    obtain ⟨l, g1, g2, g3⟩ := rows_of hel hE s.len row h7 h8
    refine ⟨some s, l, rfl, ⟨g1.symm, h5, by omega, fun i c e => ?_⟩, g3, (fun sl e => by cases e; exact h3), by omega⟩
    have hpos : 0 < s.len := by
      rcases Nat.eq_zero_or_pos s.len with h | h
      · have : l = [] := List.eq_nil_of_length_eq_zero (by omega)
        subst this; simp at e
      · exact h
    rw [get_of (h6 hpos), h2, Nat.zero_add, g2]; exact e
theorem tsh_c {P : Program} {H : Heap} {n : Nat} {t : TypeId} {x : TV} (h : TSh P H n t x) (h1 : ∀ fs, P.underlying t ≠ some (.struct fs)) (h2 : ∀ m e, P.underlying t ≠ some (.array m e)) : ∃ c, x = .c c ∧ Sh P H n t [c] := by
  unfold TSh at h
  split at h
  · rename_i fs hu; exact absurd hu (h1 fs)
  · rename_i m e hu; exact absurd hu (h2 m e)
  · exact h
theorem tsh_agg {P : Program} {H : Heap} {n : Nat} {t : TypeId} {x : TV} {fs : Array Field} (h : TSh P H n t x) (hu : P.underlying t = some (.struct fs)) : ∃ cs, x = .agg cs ∧ Sh P H n t cs := by
  unfold TSh at h; rw [hu] at h; exact h
theorem u8_of {P : Program} {H : Heap} {n : Nat} {t : TypeId} (hu : P.underlying t = some (.int .u8)) (cs : List Cell) (h : Sh P H (n + 1) t cs) : ∃ x, cs = E8 x ∧ True := by
  obtain ⟨x, rfl, hx⟩ := sh_int h hu
  have : 0 ≤ x ∧ x ≤ 255 := by simpa [Lit.wf, IntKind.min, IntKind.max, IntKind.signed, IntKind.bits] using hx
  refine ⟨UInt8.ofNat x.toNat, ?_, trivial⟩
  unfold E8
  rw [UInt8.toNat_ofNat_of_lt' (by simp [UInt8.size]; omega)]
  congr 2; omega
end Go.Proofs.YtnipccoenalnkaaGreat.Ab
