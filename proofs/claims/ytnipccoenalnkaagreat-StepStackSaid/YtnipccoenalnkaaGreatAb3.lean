/- The abstract machine, 3: new blocks, stores, loads. -/
import Derived.Test.YtnipccoenalnkaaGreatAb2
import Derived.Laws.Cells
import Derived.Laws.IdiomCopy
namespace Go.Proofs.YtnipccoenalnkaaGreat.Ab
open Go
set_option linter.unusedVariables false
set_option linter.unusedSimpArgs false

theorem look_cons.{u} {α : Type u} (s : Nat) (v : α) (r : List (Nat × α)) (t : Nat) : look ((s, v) :: r) t = if s = t then some v else look r t := by
  simp only [look]
  by_cases h : s = t
  · simp [h]
  · simp [h, beq_eq_false_iff_ne.2 h]

theorem SR.set {n : Nat} {ρ : Rho} {L : Nat → Option Nat} {st : St} {a : Act} {w : World} (h : SR n ρ L st a w) {dst : Option Nat} (hd : inRange n dst = true) {x : AV} {u : Value} (hx : AR ρ L x u) :
    SR n ρ L (st.set dst x) (a.put dst u) w := by
  cases dst with
  | none => exact h
  | some d =>
    have hlt : d < n := by simpa [inRange, Nat.blt_eq] using hd
    refine ⟨fun t v hv => ?_, h.loc, h.heap, h.defers, ?_⟩
    · simp only [St.set, look_cons] at hv
      by_cases hdt : d = t
      · subst hdt
        simp at hv
        subst hv
        have : d < a.tmps.size := Nat.lt_of_lt_of_le hlt h.size
        exact ⟨u, by simp [Act.put, this], hx⟩
      · simp [hdt] at hv
        obtain ⟨u', h1, h2⟩ := h.env t v hv
        exact ⟨u', by simp [Act.put, Array.getElem?_setIfInBounds_ne hdt, h1], h2⟩
    · simpa [Act.put] using h.size

theorem SR.ev {n : Nat} {ρ : Rho} {L : Nat → Option Nat} {st : St} {a : Act} {w : World} (h : SR n ρ L st a w) {x : Operand} {v : AV} (hv : ev st x = some v) : AR ρ L v (a.eval x) := by
  cases x with
  | tmp t =>
    obtain ⟨u, hu, hr⟩ := h.env t v hv
    simpa [Act.eval, hu] using hr
  | const c =>
    simp only [Ab.ev] at hv
    have one : ∀ {c : Value} {x : Cell}, constCell c = some x → CR ρ x c := by
      intro c x hc
      unfold constCell at hc
      split at hc <;> simp at hc <;> subst hc <;> constructor
    have many : ∀ {cs : List Value} {xs : List Cell}, constCells cs = some xs → LR ρ xs cs := by
      intro cs
      induction cs with
      | nil => intro xs hc; simp [constCells] at hc; subst hc; exact .nil
      | cons c r ih =>
        intro xs hc
        simp only [constCells] at hc
        split at hc
        · rename_i c' cs' h1 h2
          simp at hc
          subst hc
          exact .cons (one h1) (ih h2)
        · cases hc
    unfold constAV at hv
    split at hv
    · rename_i cs
      simp only [Option.map_eq_some_iff] at hv
      obtain ⟨xs, h1, h2⟩ := hv
      subst h2
      exact .agg (many h1)
    · simp only [Option.map_eq_some_iff] at hv
      obtain ⟨x, h1, h2⟩ := hv
      subst h2
      exact .c (one h1)
  | func f => simp [Ab.ev] at hv; subst hv; exact .c (.fn .nil .nil)
  | «global» g => simp [Ab.ev] at hv

theorem constCells_rel {ρ : Rho} : ∀ {cs : List Value} {xs : List Cell}, constCells cs = some xs → LR ρ xs cs := by
  have one : ∀ {c : Value} {x : Cell}, constCell c = some x → CR ρ x c := by
    intro c x hc
    unfold constCell at hc
    split at hc <;> simp at hc <;> subst hc <;> constructor
  intro cs
  induction cs with
  | nil => intro xs hc; simp [constCells] at hc; subst hc; exact .nil
  | cons c r ih =>
    intro xs hc
    simp only [constCells] at hc
    split at hc
    · rename_i c' cs' h1 h2
      simp at hc
      subst hc
      exact .cons (one h1) (ih h2)
    · cases hc

theorem SR.evc {n : Nat} {ρ : Rho} {L : Nat → Option Nat} {st : St} {a : Act} {w : World} (h : SR n ρ L st a w) {x : Operand} {c : Cell} (hv : evc st x = some c) : CR ρ c (a.eval x) := by
  simp only [Ab.evc, Option.bind_eq_some_iff] at hv
  obtain ⟨y, hy, hk⟩ := hv
  have := h.ev hy
  cases y <;> simp [AV.cell] at hk
  subst hk
  cases this with
  | c h => exact h

theorem SR.evs {n : Nat} {ρ : Rho} {L : Nat → Option Nat} {st : St} {a : Act} {w : World} (h : SR n ρ L st a w) : ∀ {xs : List Operand} {vs : List TV}, evs st xs = some vs → TLR ρ vs (xs.map a.eval)
  | [], vs, hv => by simp [Ab.evs] at hv; subst hv; exact .nil
  | x :: r, vs, hv => by
    simp only [Ab.evs, Option.bind_eq_some_iff] at hv
    obtain ⟨y, ⟨z, hz, ho⟩, ys, hys, he⟩ := hv
    simp at he
    subst he
    exact .cons ((h.ev hz).out ho) (h.evs hys)
theorem SR.evcs {n : Nat} {ρ : Rho} {L : Nat → Option Nat} {st : St} {a : Act} {w : World} (h : SR n ρ L st a w) : ∀ {xs : List Operand} {vs : List Cell}, evcs st xs = some vs → LR ρ vs (xs.map a.eval)
  | [], vs, hv => by simp [Ab.evcs] at hv; subst hv; exact .nil
  | x :: r, vs, hv => by
    simp only [Ab.evcs, Option.bind_eq_some_iff] at hv
    obtain ⟨y, hz, ys, hys, he⟩ := hv
    simp at he
    subst he
    exact .cons (h.evc hz) (h.evcs hys)

/-! ## new blocks -/
theorem unfrozen_zero (n : Nat) : unfrozen (0, 0) n := .inl rfl
theorem heap_alloc_lt (w : World) (o : Obj) {k : Nat} (h : k < w.heap.size) : (w.alloc o).heap[k]? = w.heap[k]? := by
  show (w.heap.push o)[k]? = _
  rw [Array.getElem?_push, if_neg (by omega)]
theorem heap_alloc_new (w : World) (o : Obj) : (w.alloc o).heap[w.heap.size]? = some o := by
  show (w.heap.push o)[w.heap.size]? = _
  simp

theorem HR.grow {ρ : Rho} {H : Heap} {w : World} (h : HR ρ H w) (o : Obj) : HR ρ H (w.alloc o) :=
  h.congr (by simp) fun id b o' m hi _ => heap_alloc_lt _ _ (h.inw id b o' m hi)
theorem LocR.congr {ρ ρ' : Rho} {L : Nat → Option Nat} {loc : List (Nat × List Cell)} {w w' : World} (h : LocR ρ L loc w) (he : ρ.le ρ')
    (hb : ∀ k cs b, look loc k = some cs → L k = some b → w'.heap[b]? = w.heap[b]?)
    (hn : ∀ k cs b, look loc k = some cs → L k = some b → ∀ id o m, ρ' id = some (b, o, m) → ∃ o m, ρ id = some (b, o, m)) : LocR ρ' L loc w' where
  at' k cs hk := by
    obtain ⟨b, c, e, fz, h1, h2, h3, h4⟩ := h.at' k cs hk
    exact ⟨b, c, e, fz, h1, by rw [hb k cs b hk h1]; exact h2, h3.mono he, h4⟩
  inj := h.inj
  out k cs b hk hL id o m hi := by
    obtain ⟨o', m', h1⟩ := hn k cs b hk hL id o m hi
    exact h.out k cs b hk hL id o' m' h1
theorem LocR.lt {ρ : Rho} {L : Nat → Option Nat} {loc : List (Nat × List Cell)} {w : World} (h : LocR ρ L loc w) {k b : Nat} {cs : List Cell} (hk : look loc k = some cs) (hL : L k = some b) : b < w.heap.size := by
  obtain ⟨b', c, e, fz, h1, h2, _⟩ := h.at' k cs hk
  rw [hL] at h1
  cases h1
  exact (Array.getElem?_eq_some_iff.1 h2).1

def Rho.put (ρ : Rho) (id : Nat) (x : Nat × Nat × Option Nat) : Rho := fun j => if j = id then some x else ρ j
theorem Rho.le_put {ρ : Rho} {id : Nat} {x : Nat × Nat × Option Nat} (h : ρ id = none) : ρ.le (ρ.put id x) := fun j y hy => by
  unfold Rho.put
  split
  · rename_i e; subst e; rw [h] at hy; cases hy
  · exact hy
theorem put_self {ρ : Rho} {id : Nat} {x : Nat × Nat × Option Nat} : ρ.put id x id = some x := by simp [Rho.put]
theorem put_ne {ρ : Rho} {id j : Nat} {x : Nat × Nat × Option Nat} (h : j ≠ id) : ρ.put id x j = ρ j := by simp [Rho.put, h]

/-- A new block has been put in its place. -/
structure Placed (H : Heap) (id : Nat) (H' : Heap) (blk : Blk) : Prop where
  new : H'[id]? = some blk
  old : ∀ k b, H'[k]? = some b → k ≠ id → H[k]? = some b
  keep : ∀ k b, H[k]? = some b → k ≠ id → H'[k]? = some b
  len : H.length ≤ H'.length
  free : H.length ≤ id ∨ H[id]? = some .hole
theorem Placed.push (H : Heap) (blk : Blk) : Placed H H.length (H ++ [blk]) blk where
  new := by simp
  old id b hi hne := by
    rcases Nat.lt_or_ge id H.length with h1 | h1
    · rwa [List.getElem?_append_left h1] at hi
    · rw [List.getElem?_append_right h1] at hi
      have : id - H.length = (id - H.length - 1) + 1 := by omega
      rw [this] at hi; simp at hi
  keep id b hi _ := by rw [List.getElem?_append_left (List.getElem?_eq_some_iff.1 hi).1]; exact hi
  len := by simp
  free := .inl (Nat.le_refl _)
theorem fill_some {H H' : Heap} {p : Nat} {blk : Blk} (h : H.fill p blk = some H') : H[p]? = some .hole ∧ H' = H.set p blk := by
  unfold Heap.fill at h
  split at h
  · cases h; exact ⟨by assumption, rfl⟩
  · cases h
theorem Placed.fill {H : Heap} {p : Nat} {blk : Blk} (h : H[p]? = some .hole) : Placed H p (H.set p blk) blk where
  new := by simp [(List.getElem?_eq_some_iff.1 h).1]
  old id b hi hne := by rwa [List.getElem?_set_ne (Ne.symm hne)] at hi
  keep id b hi hne := by rw [List.getElem?_set_ne (Ne.symm hne)]; exact hi
  len := by simp
  free := .inr h
theorem Placed.free' {ρ : Rho} {H H' : Heap} {id : Nat} {w : World} {blk : Blk} (p : Placed H id H' blk) (h : HR ρ H w) : ρ id = none := by
  rcases p.free with hf | hf
  · exact h.fresh _ hf
  · exact h.hole _ hf
theorem Placed.lt {H H' : Heap} {id : Nat} {blk : Blk} (p : Placed H id H' blk) : id < H'.length := (List.getElem?_eq_some_iff.1 p.new).1
theorem Placed.own {H H' : Heap} {id : Nat} {blk : Blk} (p : Placed H id H' blk) : ∀ i, OwnAt H' i → i ≠ id → OwnAt H i := by
  intro i hi hne
  rcases hi with ⟨cs', h1⟩ | ⟨es, c', h1⟩
  · exact .inl ⟨cs', p.old i _ h1 hne⟩
  · exact .inr ⟨es, c', p.old i _ h1 hne⟩
theorem newB_some {R : Type} {C : Ctx} {st : St} {dst : Option Nat} {blk : Blk} {K : Nat → St → Option R} {r : R} (h : newB C st dst blk K = some r) : ∃ id H', K id (st.withHeap H') = some r ∧ Placed st.heap id H' blk := by
  unfold newB at h
  split at h
  · exact ⟨_, _, h, Placed.push _ _⟩
  · simp only [Option.bind_eq_some_iff] at h
    obtain ⟨d, _, j, _, H, hH, h⟩ := h
    obtain ⟨h1, rfl⟩ := fill_some hH
    exact ⟨_, _, h, Placed.fill h1⟩

/-- A new row of the heap. -/
theorem HR.place {ρ : Rho} {H H' : Heap} {id : Nat} {w : World} (h : HR ρ H w) {cs : List Cell} {c : Array Value} {e : TypeId} {fz : Nat × Nat} (p : Placed H id H' (.row cs false))
    (hc : ∀ (j : Nat) (x : Cell), cs[j]? = some x → ∃ v, c[j]? = some v ∧ CR ρ x v) (hf : unfrozen fz c.size) :
    HR (ρ.put id (w.heap.size, 0, some c.size)) H' (w.alloc (.cells c e fz)) := by
  have hnew : ρ id = none := p.free' h
  have hle := Rho.le_put (x := (w.heap.size, 0, some c.size)) hnew
  have oldw : ∀ id b o m, ρ id = some (b, o, m) → (w.alloc (.cells c e fz)).heap[b]? = w.heap[b]? := fun id b o m hi => heap_alloc_lt _ _ (h.inw id b o m hi)
  refine ⟨fun k cs' ro hi => ?_, fun k es cl hi => ?_, fun i j b o m o' m' hi hj h1 h2 => ?_, fun i j b o m b' o' m' hi hj h1 h2 => ?_, fun k hi => ?_, fun k b o m hi => ?_, fun k hi => ?_⟩
  · by_cases hid : k = id
    · subst hid
      have hi := p.new.symm.trans hi
      simp at hi
      obtain ⟨rfl, rfl⟩ := hi
      exact ⟨_, 0, _, c, e, fz, put_self, heap_alloc_new _ _, fun j x hj => by
        obtain ⟨v, h1, h2⟩ := hc j x hj
        exact ⟨v, by simpa using h1, h2.mono hle⟩, fun _ => ⟨rfl, hf⟩⟩
    · obtain ⟨b, o, m, c', e', fz', h1, h2, h3, h4⟩ := h.row k cs' ro (p.old k _ hi hid)
      exact ⟨b, o, m, c', e', fz', hle _ _ h1, by rw [oldw _ _ _ _ h1]; exact h2, fun j x hj => by
        obtain ⟨v, h5, h6⟩ := h3 j x hj
        exact ⟨v, h5, h6.mono hle⟩, h4⟩
  · have hid : k ≠ id := by rintro rfl; have := p.new.symm.trans hi; simp at this
    obtain ⟨b, es', h1, h2, h3⟩ := h.mapR k es cl (p.old k _ hi hid)
    exact ⟨b, es', hle _ _ h1, by rw [oldw _ _ _ _ h1]; exact h2, h3.mono hle⟩
  · by_cases hi' : i = id <;> by_cases hj' : j = id
    · omega
    · subst hi'
      rw [put_self] at h1
      rw [put_ne hj'] at h2
      have := h.inw _ _ _ _ h2
      simp at h1
      omega
    · subst hj'
      rw [put_self] at h2
      rw [put_ne hi'] at h1
      have := h.inw _ _ _ _ h1
      simp at h2
      omega
    · rw [put_ne hi'] at h1
      rw [put_ne hj'] at h2
      exact h.inj i j b o m o' m' (p.own i hi hi') (p.own j hj hj') h1 h2
  · obtain ⟨ds, hj⟩ := hj
    have hj' : j ≠ id := by rintro rfl; have := p.new.symm.trans hj; simp at this
    rw [put_ne hj'] at h2
    by_cases hi' : i = id
    · subst hi'
      rw [put_self] at h1
      have := h.inw _ _ _ _ h2
      simp at h1
      omega
    · rw [put_ne hi'] at h1
      exact h.sep i j b o m b' o' m' (p.own i hi hi') ⟨ds, p.old j _ hj hj'⟩ h1 h2
  · have h1 := p.lt
    have h2 := p.len
    rw [put_ne (by omega)]
    exact h.fresh k (by omega)
  · by_cases hid : k = id
    · subst hid
      rw [put_self] at hi
      simp at hi
      simp
      omega
    · rw [put_ne hid] at hi
      have := h.inw _ _ _ _ hi
      simp
      omega
  · have hid : k ≠ id := by rintro rfl; have := p.new.symm.trans hi; simp at this
    rw [put_ne hid]
    exact h.hole k (p.old k _ hi hid)
theorem HR.push {ρ : Rho} {H : Heap} {w : World} (h : HR ρ H w) {cs : List Cell} {c : Array Value} {e : TypeId} {fz : Nat × Nat} 
    (hc : ∀ (j : Nat) (x : Cell), cs[j]? = some x → ∃ v, c[j]? = some v ∧ CR ρ x v) (hf : unfrozen fz c.size) :
    HR (ρ.put H.length (w.heap.size, 0, some c.size)) (H ++ [.row cs false]) (w.alloc (.cells c e fz)) := h.place (Placed.push _ _) hc hf

/-- A new map. -/
theorem HR.placeMap {ρ : Rho} {H H' : Heap} {id : Nat} {w : World} (h : HR ρ H w) (p : Placed H id H' (.map [] 0)) :
    HR (ρ.put id (w.heap.size, 0, none)) H' (w.alloc (.map #[] 0)) := by
  have hnew : ρ id = none := p.free' h
  have hle := Rho.le_put (x := (w.heap.size, 0, none)) hnew
  have oldw : ∀ id b o m, ρ id = some (b, o, m) → (w.alloc (.map #[] 0)).heap[b]? = w.heap[b]? := fun id b o m hi => heap_alloc_lt _ _ (h.inw id b o m hi)
  refine ⟨fun k cs' ro hi => ?_, fun k es cl hi => ?_, fun i j b o m o' m' hi hj h1 h2 => ?_, fun i j b o m b' o' m' hi hj h1 h2 => ?_, fun k hi => ?_, fun k b o m hi => ?_, fun k hi => ?_⟩
  · have hid : k ≠ id := by rintro rfl; have := p.new.symm.trans hi; simp at this
    obtain ⟨b, o, m, c', e', fz', h1, h2, h3, h4⟩ := h.row k cs' ro (p.old k _ hi hid)
    exact ⟨b, o, m, c', e', fz', hle _ _ h1, by rw [oldw _ _ _ _ h1]; exact h2, fun j x hj => by
      obtain ⟨v, h5, h6⟩ := h3 j x hj
      exact ⟨v, h5, h6.mono hle⟩, h4⟩
  · by_cases hid : k = id
    · subst hid
      have hi := p.new.symm.trans hi
      simp at hi
      obtain ⟨rfl, rfl⟩ := hi
      exact ⟨_, #[], put_self, heap_alloc_new _ _, .nil⟩
    · obtain ⟨b, es', h1, h2, h3⟩ := h.mapR k es cl (p.old k _ hi hid)
      exact ⟨b, es', hle _ _ h1, by rw [oldw _ _ _ _ h1]; exact h2, h3.mono hle⟩
  · by_cases hi' : i = id <;> by_cases hj' : j = id
    · omega
    · subst hi'
      rw [put_self] at h1
      rw [put_ne hj'] at h2
      have := h.inw _ _ _ _ h2
      simp at h1
      omega
    · subst hj'
      rw [put_self] at h2
      rw [put_ne hi'] at h1
      have := h.inw _ _ _ _ h1
      simp at h2
      omega
    · rw [put_ne hi'] at h1
      rw [put_ne hj'] at h2
      exact h.inj i j b o m o' m' (p.own i hi hi') (p.own j hj hj') h1 h2
  · obtain ⟨ds, hj⟩ := hj
    have hj' : j ≠ id := by rintro rfl; have := p.new.symm.trans hj; simp at this
    rw [put_ne hj'] at h2
    by_cases hi' : i = id
    · subst hi'
      rw [put_self] at h1
      have := h.inw _ _ _ _ h2
      simp at h1
      omega
    · rw [put_ne hi'] at h1
      exact h.sep i j b o m b' o' m' (p.own i hi hi') ⟨ds, p.old j _ hj hj'⟩ h1 h2
  · have h1 := p.lt
    have h2 := p.len
    rw [put_ne (by omega)]
    exact h.fresh k (by omega)
  · by_cases hid : k = id
    · subst hid
      rw [put_self] at hi
      simp at hi
      simp
      omega
    · rw [put_ne hid] at hi
      have := h.inw _ _ _ _ hi
      simp
      omega
  · have hid : k ≠ id := by rintro rfl; have := p.new.symm.trans hi; simp at this
    rw [put_ne hid]
    exact h.hole k (p.old k _ hi hid)
/-- A new block of the heap: the frame's state, and what has changed. -/
theorem SR.place {n : Nat} {ρ ρ' : Rho} {L : Nat → Option Nat} {st : St} {a : Act} {w : World} (h : SR n ρ L st a w) {blk : Blk} {o : Obj} {m : Option Nat} {pid : Nat} {H' : Heap} (p : Placed st.heap pid H' blk)
    (hρ : ρ' = ρ.put pid (w.heap.size, 0, m)) (hH : HR ρ' H' (w.alloc o)) :
    SR n ρ' L (st.withHeap H') a (w.alloc o) ∧ Fr ρ ρ' w (w.alloc o) (Ch ρ L st) (Ch ρ' L (st.withHeap H')) := by
  have hnew : ρ pid = none := p.free' h.heap
  have hle : ρ.le ρ' := hρ ▸ Rho.le_put hnew
  refine ⟨⟨fun t v hv => ?_, ?_, hH, h.defers.keep fun D hD => heap_alloc_lt _ _ (Array.getElem?_eq_some_iff.1 hD).1, h.size⟩, ?_⟩
  · obtain ⟨u, h1, h2⟩ := h.env t v hv
    exact ⟨u, h1, h2.mono hle fun _ _ _ _ h => h⟩
  · refine h.loc.congr hle (fun k cs b hk hL => heap_alloc_lt _ _ (h.loc.lt hk hL)) fun k cs b hk hL id o' m' hi => ?_
    subst hρ
    by_cases hid : id = pid
    · subst hid
      rw [put_self] at hi
      simp at hi
      have := h.loc.lt hk hL
      omega
    · rw [put_ne hid] at hi
      exact ⟨_, _, hi⟩
  · refine ⟨hle, by simp, fun b hb _ => heap_alloc_lt _ _ hb, fun b hb => ?_, fun id b o' m' hi => ?_, rfl, rfl, rfl⟩
    · rcases hb with ⟨i, o', m', h1, h2⟩ | ⟨k, cs, h1, h2⟩
      · subst hρ
        by_cases hid : i = pid
        · subst hid
          rw [put_self] at h2
          simp at h2
          exact .inr (by omega)
        · rw [put_ne hid] at h2
          refine .inl (.inl ⟨i, o', m', ?_, h2⟩)
          exact p.own i h1 hid
      · exact .inl (.inr ⟨k, cs, h1, h2⟩)
    · subst hρ
      by_cases hid : id = pid
      · subst hid
        rw [put_self] at hi
        simp at hi
        exact .inr (.inr (by omega))
      · rw [put_ne hid] at hi
        exact .inl hi
theorem SR.push {n : Nat} {ρ ρ' : Rho} {L : Nat → Option Nat} {st : St} {a : Act} {w : World} (h : SR n ρ L st a w) {blk : Blk} {o : Obj} {m : Option Nat}
    (hρ : ρ' = ρ.put st.heap.length (w.heap.size, 0, m)) (hH : HR ρ' (st.heap ++ [blk]) (w.alloc o)) :
    SR n ρ' L (st.push blk) a (w.alloc o) ∧ Fr ρ ρ' w (w.alloc o) (Ch ρ L st) (Ch ρ' L (st.push blk)) := h.place (Placed.push _ _) hρ hH

/-! ## a new block of the frame's own -/
theorem look_setLoc (k : Nat) (cs : List Cell) : ∀ (loc : List (Nat × List Cell)) (j : Nat), look (setLoc k cs loc) j = if k = j then some cs else look loc j
  | [], j => by simp only [setLoc, look_cons]
  | (i, ds) :: r, j => by
    simp only [setLoc]
    by_cases hi : i = k
    · subst hi
      simp only [beq_self_eq_true, cond_true, look_cons]
      split <;> rfl
    · have : (i == k) = false := by simpa using hi
      simp only [this, cond_false, look_cons, look_setLoc k cs r j]
      by_cases h1 : i = j
      · subst h1; simp [Ne.symm hi]
      · simp [h1]

theorem look_clean {k : Nat} : ∀ {env : List (Nat × AV)}, clean k env = true → ∀ {t : Nat} {off : Nat}, look env t ≠ some (.lp k off)
  | [], _, _, _, h => by simp [look] at h
  | (s, x) :: r, hc, t, off, h => by
    simp only [look_cons] at h
    by_cases hs : s = t
    · simp only [hs, if_true, Option.some.injEq] at h
      subst h
      simp [clean] at hc
    · simp only [hs, if_false] at h
      have : clean k r = true := by
        cases x <;> simp [clean] at hc <;> first | exact hc | exact hc.2
      exact look_clean this h

theorem SR.newLocal {n : Nat} {ρ : Rho} {L : Nat → Option Nat} {st : St} {a : Act} {w : World} (h : SR n ρ L st a w) {d : Nat} (hd : d < n) (hclean : clean d st.env = true) {cs : List Cell} {c : Array Value} {e : TypeId} (hc : LR ρ cs c.toList) :
    let L' := fun k => if k = d then some w.heap.size else L k
    SR n ρ L' (newLocal st d cs) (a.put (some d) (.pointer (some ⟨w.heap.size, 0, none⟩))) (w.alloc (.cells c e (0, 0))) ∧
      Fr ρ ρ w (w.alloc (.cells c e (0, 0))) (Ch ρ L st) (Ch ρ L' (newLocal st d cs)) := by
  intro L'
  have hsz : d < a.tmps.size := Nat.lt_of_lt_of_le hd h.size
  refine ⟨⟨fun t v hv => ?_, ⟨fun k ds hk => ?_, fun k j ds fs hk hj hL => ?_, fun k ds b hk hL id o m hi => ?_⟩, h.heap.grow _, h.defers.keep fun D hD => heap_alloc_lt _ _ (Array.getElem?_eq_some_iff.1 hD).1, by simpa [Act.put] using h.size⟩, ?_⟩
  · simp only [Ab.newLocal, look_cons] at hv
    by_cases hdt : d = t
    · subst hdt
      simp at hv
      subst hv
      exact ⟨_, by simp [Act.put, hsz], .lp (b := w.heap.size) (by simp [L'])⟩
    · simp [hdt] at hv
      obtain ⟨u, hu, hr⟩ := h.env t v hv
      refine ⟨u, by simp [Act.put, Array.getElem?_setIfInBounds_ne hdt, hu], hr.mono (Rho.le_refl _) fun k off b hvk hL => ?_⟩
      have : k ≠ d := by rintro rfl; exact look_clean hclean (hvk ▸ hv)
      simp [L', this, hL]
  · simp only [Ab.newLocal, look_setLoc] at hk
    by_cases hdk : d = k
    · subst hdk
      simp at hk
      subst hk
      exact ⟨w.heap.size, c, e, _, by simp [L'], heap_alloc_new _ _, hc, unfrozen_zero _⟩
    · simp [hdk] at hk
      obtain ⟨b, c', e', fz, h1, h2, h3, h4⟩ := h.loc.at' k ds hk
      exact ⟨b, c', e', fz, by simp [L', Ne.symm hdk, h1], by rw [heap_alloc_lt _ _ (h.loc.lt hk h1)]; exact h2, h3, h4⟩
  · simp only [Ab.newLocal, look_setLoc] at hk hj
    by_cases hdk : d = k <;> by_cases hdj : d = j
    · omega
    · subst hdk
      simp [hdj] at hj
      obtain ⟨b, _, _, _, h1, _⟩ := h.loc.at' j fs hj
      have := h.loc.lt hj h1
      simp [L', Ne.symm hdj, h1] at hL
      omega
    · subst hdj
      simp [hdk] at hk
      obtain ⟨b, _, _, _, h1, _⟩ := h.loc.at' k ds hk
      have := h.loc.lt hk h1
      simp [L', Ne.symm hdk, h1] at hL
      omega
    · simp [hdk] at hk
      simp [hdj] at hj
      refine h.loc.inj k j ds fs hk hj ?_
      simpa [L', Ne.symm hdk, Ne.symm hdj] using hL
  · simp only [Ab.newLocal, look_setLoc] at hk
    by_cases hdk : d = k
    · subst hdk
      simp [L'] at hL
      have := h.heap.inw _ _ _ _ hi
      omega
    · simp [hdk] at hk
      simp [L', Ne.symm hdk] at hL
      exact h.loc.out k ds b hk hL id o m hi
  · refine ⟨Rho.le_refl _, by simp, fun b hb _ => heap_alloc_lt _ _ hb, fun b hb => ?_, fun id b o' m' hi => .inl hi, rfl, rfl, rfl⟩
    rcases hb with hb | ⟨k, ds, hk, hL⟩
    · exact .inl (.inl hb)
    · simp only [Ab.newLocal, look_setLoc] at hk
      by_cases hdk : d = k
      · subst hdk
        simp [L'] at hL
        exact .inr (by omega)
      · simp [hdk] at hk
        simp [L', Ne.symm hdk] at hL
        exact .inl (.inr ⟨k, ds, hk, hL⟩)

end Go.Proofs.YtnipccoenalnkaaGreat.Ab
