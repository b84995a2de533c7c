/- The abstract machine, 21: a law's arguments. -/
import Derived.Test.YtnipccoenalnkaaGreatAr
import Derived.Carry
namespace Go.Proofs.YtnipccoenalnkaaGreat.Ab
open Go Go.ChangeShapes Go.WideShapes Go.ChangeAt Go.RowKit

section
variable {P : Program} {W : World} {r : Reach} {b : Nat} {t : TypeId} {v : Value}
theorem cell_bool (hu : P.underlying t = some .bool) (h : Cell.okWide P W r b t v) : ∃ x, v = .bool x := by
  unfold Cell.okWide at h
  rw [hu] at h
  unfold Cell.ok at h
  rw [hu] at h
  cases v <;> simp at h
  exact ⟨_, rfl⟩
theorem cell_int {k : IntKind} (hu : P.underlying t = some (.int k)) (h : Cell.okWide P W r b t v) : ∃ x, v = .int k x ∧ (Lit.int k x).wf = true := by
  unfold Cell.okWide at h
  rw [hu] at h
  unfold Cell.ok at h
  rw [hu] at h
  cases v <;> simp at h
  rename_i k' x
  obtain ⟨rfl, h⟩ := h
  refine ⟨x, rfl, ?_⟩
  simpa [Lit.wf, IntKind.has] using h
theorem value_bool (hu : P.underlying t = some .bool) (h : Value.okWide P W r b t v) : ∃ x, v = .bool x := by
  unfold Value.okWide at h
  rw [hu] at h
  exact cell_bool hu h
theorem value_int {k : IntKind} (hu : P.underlying t = some (.int k)) (h : Value.okWide P W r b t v) : ∃ x, v = .int k x ∧ (Lit.int k x).wf = true := by
  unfold Value.okWide at h
  rw [hu] at h
  exact cell_int hu h
theorem value_struct {fs : Array Field} {ts : List TypeId} (hu : P.underlying t = some (.struct fs)) (hts : P.cellTypes P.depth t = some ts) (h : Value.okWide P W r b t v) :
    ∃ cs : Array Value, v = .agg cs ∧ cs.size = P.cellsOf t ∧ ∀ i x, cs[i]? = some x → ∃ u, ts[i % ts.length]? = some u ∧ Cell.okWide P W r b u x := by
  unfold Value.okWide at h
  rw [hu] at h
  obtain ⟨cs, h1, h2, ts', h3, _, h4⟩ := h
  rw [hts] at h3
  obtain rfl := Option.some.inj h3
  exact ⟨cs, h1, h2, h4⟩
theorem value_array {n : Nat} {e : TypeId} {ts : List TypeId} (hu : P.underlying t = some (.array n e)) (hts : P.cellTypes P.depth t = some ts) (h : Value.okWide P W r b t v) :
    ∃ cs : Array Value, v = .agg cs ∧ cs.size = P.cellsOf t ∧ ∀ i x, cs[i]? = some x → ∃ u, ts[i % ts.length]? = some u ∧ Cell.okWide P W r b u x := by
  unfold Value.okWide at h
  rw [hu] at h
  obtain ⟨cs, h1, h2, ts', h3, _, h4⟩ := h
  rw [hts] at h3
  obtain rfl := Option.some.inj h3
  exact ⟨cs, h1, h2, h4⟩
theorem wf_u64 {x : Int} (h : (Lit.int .u64 x).wf = true) : 0 ≤ x ∧ x < 18446744073709551616 := by
  simp [Lit.wf, IntKind.min, IntKind.max, IntKind.bits, IntKind.signed] at h
  omega
theorem wf_i64 {x : Int} (h : (Lit.int .i64 x).wf = true) : -9223372036854775808 ≤ x ∧ x < 9223372036854775808 := by
  simp [Lit.wf, IntKind.min, IntKind.max, IntKind.bits, IntKind.signed] at h
  omega
theorem size_two {cs : Array Value} (h : cs.size = 2) : ∃ x y, cs = #[x, y] := by
  obtain ⟨l⟩ := cs
  match l, h with
  | [x, y], _ => exact ⟨x, y, rfl⟩
theorem size_three {cs : Array Value} (h : cs.size = 3) : ∃ x y z, cs = #[x, y, z] := by
  obtain ⟨l⟩ := cs
  match l, h with
  | [x, y, z], _ => exact ⟨x, y, z, rfl⟩
end

/-- All arguments read behind the call as they did. -/
theorem below_all {H : Type} {enc : TypeId × Value → H} {P : Program} (hl : laidOutB P = true) {W W' : World} (hb : Below W.heap.size W W') {sp : Nat → Bool} : ∀ {ts : List TypeId} {vs : List Value} {ds : List (DataW H)} {ps : List MemPlace},
    (ts.all fun t => P.readableRec t && decide (t < P.types.size)) = true → DataW.TrodAll enc P W 0 (fun _ => true) true ts vs ds ps → (∀ x ∈ ps, x.block < W.heap.size) → (∀ x ∈ ps, sp x.block = true) →
    DataW.TrodAll enc P W' 0 sp true ts vs ds ps
  | [], vs, ds, ps, ht, h, hlt, hsp => by
    obtain ⟨rfl, rfl, rfl⟩ := trodAll_nil h
    exact trodAll_mk0
  | t :: ts, vs, ds, ps, ht, h, hlt, hsp => by
    simp only [List.all_cons, Bool.and_eq_true, decide_eq_true_eq] at ht
    obtain ⟨v, vs1, d, ds1, p, q, rfl, rfl, rfl, h1, h2⟩ := trodAll_cons h
    exact trodAll_cons_mk (WideElems.Trod_stays hl ht.1.1 ht.1.2 h1 (fun x hx => hb.same (hlt x (by simp [hx]))) fun x hx => hsp x (by simp [hx]))
      (below_all hl hb ht.2 h2 (fun x hx => hlt x (by simp [hx])) fun x hx => hsp x (by simp [hx]))
end Go.Proofs.YtnipccoenalnkaaGreat.Ab
