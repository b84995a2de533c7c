/- The abstract machine, 27: typed functions that leave the heap alone: their callers may load beside them. -/
import Derived.Test.YtnipccoenalnkaaGreatAb26
namespace Go.Proofs.YtnipccoenalnkaaGreat.Ab
open Go

open Classical in
/-- What a function comes to that leaves the heap as it was. -/
noncomputable def readOf {α : Type} (q : Option (α × Heap)) (H : Heap) : Option α := q.bind fun p => if p.2 = H then some p.1 else none
theorem readOf_some {α : Type} {q : Option (α × Heap)} {H : Heap} {r : α} (h : readOf q H = some r) : q = some (r, H) := by
  unfold readOf at h
  simp only [Option.bind_eq_some_iff] at h
  obtain ⟨⟨x, H'⟩, h1, h2⟩ := h
  split at h2
  · rename_i e
    cases h2
    rw [h1, ← e]
  · cases h2
theorem readOf_eq {α : Type} {q : Option (α × Heap)} {H : Heap} {r : α} (h : q = some (r, H)) : readOf q H = some r := by
  unfold readOf
  rw [h]
  simp
/-- Such a function as a callee. -/
def readF {α : Type} (enc : α → List TV) (S : List TV → Heap → Option α) : FnSem := fun _ args H K => (S args H).bind fun r => K (oneOf (enc r)) H
theorem readF_pure {α : Type} (enc : α → List TV) (S : List TV → Heap → Option α) : FnPure (readF enc S) := by
  intro args H
  refine ⟨(S args H).map fun r => oneOf (enc r), ?_, ?_⟩
  · intro v hv
    simp only [Option.map_eq_some_iff] at hv
    obtain ⟨q, _, rfl⟩ := hv
    exact nolp_one _
  · intro R K
    simp only [readF]
    cases S args H <;> rfl
theorem read_ok {P : Program} {g : Nat} {α : Type} {enc : α → List TV} {S : List TV → Heap → Option (α × Heap)} {S' : List TV → Heap → Option α} (h : FnOk P g (specF enc S))
    (hS : ∀ args H r, S' args H = some r → S args H = some (r, H)) : FnOk P g (readF enc S') := by
  intro R args H K r hr
  refine h R args H K r ?_
  simp only [readF, Option.bind_eq_some_iff] at hr
  obtain ⟨x, h1, h2⟩ := hr
  simp only [specF, hS _ _ _ h1, Option.bind_some]
  exact h2
end Go.Proofs.YtnipccoenalnkaaGreat.Ab
