/- The abstract machine, 33: what a function answers, whatever it lays into new blocks. -/
import Derived.Test.YtnipccoenalnkaaGreatAb32
namespace Go.Proofs.YtnipccoenalnkaaGreat.Ab
open Go
set_option linter.unusedVariables false
set_option linter.unusedSimpArgs false

theorem Kp.no {F : Nat → Prop} {H H' : Heap} (k : Kp F H H') (h : ∀ i, i < H.length → ¬ F i) : Kp No H H' := k.mono fun i hi hf => absurd hf (h i hi)
theorem Kp.tr {A B C : Heap} (h : Kp No A B) (k : Kp No B C) : Kp No A C := h.trans k (fun _ h => h) fun _ _ h => h
theorem Kp.tr' {A B C : Heap} (h : Kp No A B) (k : Kp (fun i => A.length ≤ i) B C) : Kp No A C := h.trans k (fun _ h => h) fun i hi hf => absurd hf (Nat.not_le_of_lt hi)
theorem Kp.trSet {A B C : Heap} {m : Nat} (h : Kp No A B) (k : Kp (One m) B C) (hm : A.length ≤ m) : Kp No A C := h.trans k (fun _ h => h) fun i hi hf => by
  have : i = m := hf
  omega
theorem Kp.push1 (H : Heap) (b : Blk) : Kp No H (H ++ [b]) := Kp.push _ _ _
theorem Kp.gt {H H' : Heap} (k : Kp No H H') {i off : Nat} {c : Cell} (h : H.get i off = some c) : H'.get i off = some c := k.get h fun h => h
theorem Kp.bk {H H' : Heap} (k : Kp No H H') {i : Nat} {b : Blk} (h : H[i]? = some b) : H'[i]? = some b := k.at h fun h => h
theorem Kp.same1 {H H' : Heap} (k : Kp No H H') {i : Nat} (h : i < H.length) : Ab.same i H H' = true := same_iff.2 (k.same i h fun h => h)
/-- What a function answers; all old blocks are as they were. -/
def Says {α : Type} (q : Option (α × Heap)) (H : Heap) (v : α) : Prop := ∃ H', q = some (v, H') ∧ Kp No H H'
theorem says_ret {α : Type} {H : Heap} {v u : α} (h : u = v) : Says (some (u, H)) H v := ⟨H, by rw [h], Kp.refl _ H⟩
theorem says_push {α : Type} {q : Option (α × Heap)} {H : Heap} {b : Blk} {v : α} (h : Says q (H ++ [b]) v) : Says q H v := by
  obtain ⟨H', e, k⟩ := h
  exact ⟨H', e, (Kp.push1 H b).tr k⟩
theorem says_bind {α β : Type} {q : Option (α × Heap)} {H : Heap} {v : α} {k : α × Heap → Option (β × Heap)} {u : β} (h : Says q H v) (hk : ∀ H', Kp No H H' → Says (k (v, H')) H' u) : Says (q.bind k) H u := by
  obtain ⟨H', e, k1⟩ := h
  obtain ⟨H2, e2, k2⟩ := hk H' k1
  exact ⟨H2, by rw [e]; exact e2, k1.tr k2⟩
theorem says_kp {α : Type} {q : Option (α × Heap)} {A H : Heap} {v : α} (k : Kp No A H) (h : Says q H v) : Says q A v := by
  obtain ⟨H', e, k2⟩ := h
  exact ⟨H', e, k.tr k2⟩
theorem Says.to {α : Type} {q : Option (α × Heap)} {H : Heap} {v u : α} (h : Says q H v) (e : v = u) : Says q H u := e ▸ h
theorem RS.no {α : Type} {n : Nat} {E : α → List Cell} {H H' : Heap} {s : Option Sl} {l : List α} (h : RS n E H s l) (k : Kp No H H') : RS n E H' s l := h.kp k fun _ _ _ h => h
theorem OS.no {α : Type} {n : Nat} {E : α → List Cell} {H H' : Heap} {s : Option Sl} {l : List α} (h : OS n E H s l) (k : Kp No H H') : OS n E H' s l := h.kp k fun _ _ h => h
end Go.Proofs.YtnipccoenalnkaaGreat.Ab
