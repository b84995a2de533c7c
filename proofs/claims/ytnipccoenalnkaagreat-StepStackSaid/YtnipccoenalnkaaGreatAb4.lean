/- The abstract machine, 4: loads and stores. -/
import Derived.Test.YtnipccoenalnkaaGreatAb3
namespace Go.Proofs.YtnipccoenalnkaaGreat.Ab
open Go
set_option linter.unusedVariables false
set_option linter.unusedSimpArgs false

theorem splice_get {α : Type} (l vs : List α) (o : Nat) (h : o + vs.length ≤ l.length) (j : Nat) :
    (l.take o ++ (vs ++ l.drop (o + vs.length)))[j]? = if j < o then l[j]? else if j < o + vs.length then vs[j - o]? else l[j]? := by
  by_cases h1 : j < o
  · rw [if_pos h1, List.getElem?_append_left (by simp; omega), List.getElem?_take_of_lt h1]
  · rw [if_neg h1, List.getElem?_append_right (by simp; omega)]
    have e : (l.take o).length = o := by simp; omega
    rw [e]
    by_cases h2 : j < o + vs.length
    · rw [if_pos h2, List.getElem?_append_left (by omega)]
    · rw [if_neg h2, List.getElem?_append_right (by omega), List.getElem?_drop]
      congr 1
      omega

theorem heap_setCell_ne (w : World) (a : Addr) (u : Value) {k : Nat} (h : k ≠ a.block) : (w.setCell a u).heap[k]? = w.heap[k]? := by
  simp only [World.setCell, Array.getElem?_modify]
  rw [if_neg (by omega)]
theorem heap_setCell_at (w : World) (b o : Nat) (u : Value) {c : Array Value} {e : TypeId} {fz : Nat × Nat} (h : w.heap[b]? = some (.cells c e fz)) :
    (w.setCell ⟨b, o, none⟩ u).heap[b]? = some (.cells (c.setIfInBounds o u) e fz) := by
  simp only [World.setCell, Array.getElem?_modify]
  simp [h]
theorem setCells_ne (b : Nat) : ∀ (vs : List Value) (o : Nat) (w : World) {k : Nat}, k ≠ b → (w.setCells b o vs).heap[k]? = w.heap[k]?
  | [], _, _, _, _ => rfl
  | v :: r, o, w, k, h => by rw [World.setCells, setCells_ne b r _ _ h, heap_setCell_ne _ _ _ h]
theorem setCells_size (b : Nat) : ∀ (vs : List Value) (o : Nat) (w : World), (w.setCells b o vs).heap.size = w.heap.size
  | [], _, _ => rfl
  | v :: r, o, w => by rw [World.setCells, setCells_size b r]; simp
theorem setCells_os (b : Nat) : ∀ (vs : List Value) (o : Nat) (w : World), (w.setCells b o vs).os = w.os ∧ (w.setCells b o vs).tape = w.tape ∧ (w.setCells b o vs).output = w.output
  | [], _, _ => ⟨rfl, rfl, rfl⟩
  | v :: r, o, w => by rw [World.setCells]; exact setCells_os b r _ _
theorem setCells_at (b : Nat) {e : TypeId} {fz : Nat × Nat} : ∀ (vs : List Value) (o : Nat) (w : World) (c : Array Value), w.heap[b]? = some (.cells c e fz) → o + vs.length ≤ c.size →
    ∃ c', (w.setCells b o vs).heap[b]? = some (.cells c' e fz) ∧ c'.size = c.size ∧ ∀ j : Nat, c'[j]? = if j < o then c[j]? else if j < o + vs.length then vs[j - o]? else c[j]?
  | [], o, w, c, h, _ => ⟨c, h, rfl, fun j => by simp; intro h1 h2; omega⟩
  | v :: r, o, w, c, h, hl => by
    simp at hl
    obtain ⟨c', h1, h2, h3⟩ := setCells_at b r (o + 1) _ _ (heap_setCell_at w b o v h) (by simp; omega)
    refine ⟨c', h1, by simpa using h2, fun j => ?_⟩
    rw [h3]
    by_cases hj : j < o
    · rw [if_pos (by omega), if_pos hj, Array.getElem?_setIfInBounds_ne (by omega)]
    · by_cases hjo : j = o
      · subst hjo
        rw [if_pos (by omega), if_neg hj, if_pos (by simp), Array.getElem?_setIfInBounds_self_of_lt (by omega)]
        simp
      · rw [if_neg (by omega), if_neg hj]
        have : j - o = (j - (o + 1)) + 1 := by omega
        by_cases hj2 : j < o + 1 + r.length
        · rw [if_pos hj2, if_pos (by simp; omega), this]; simp
        · rw [if_neg hj2, if_neg (by simp; omega), Array.getElem?_setIfInBounds_ne (by omega)]

theorem cell_of_block {w : World} {b o : Nat} {c : Array Value} {e : TypeId} {fz : Nat × Nat} (h : w.heap[b]? = some (.cells c e fz)) : w.cell? ⟨b, o, none⟩ = c[o]? := by
  simp [World.cell?, h]
theorem frozen_of_block {w : World} {b o : Nat} {c : Array Value} {e : TypeId} {fz : Nat × Nat} (h : w.heap[b]? = some (.cells c e fz)) (hf : unfrozen fz c.size) (ho : o < c.size) : w.frozen? ⟨b, o, none⟩ = false := by
  simp only [World.frozen?, h]
  have := hf.at' o ho
  simp only [Bool.and_eq_false_iff, decide_eq_false_iff_not]
  omega

/-! ## loads -/
theorem HR.get {ρ : Rho} {H : Heap} {w : World} (h : HR ρ H w) {id off b o : Nat} {m : Option Nat} {x : Cell} (hx : H.get id off = some x) (hi : ρ id = some (b, o, m)) :
    ∃ v, w.cell? ⟨b, o + off, none⟩ = some v ∧ CR ρ x v := by
  unfold Heap.get at hx
  split at hx
  · rename_i cs ro hH
    obtain ⟨b', o', m', c, e, fz, h1, h2, h3, _⟩ := h.row id cs _ hH
    rw [hi] at h1
    cases h1
    obtain ⟨v, h4, h5⟩ := h3 off x hx
    exact ⟨v, by rw [cell_of_block h2]; exact h4, h5⟩
  · cases hx
theorem HR.getN {ρ : Rho} {H : Heap} {w : World} (h : HR ρ H w) {id off n b o : Nat} {m : Option Nat} {xs : List Cell} (hx : H.getN id off n = some xs) (hi : ρ id = some (b, o, m)) :
    xs.length = n ∧ ∃ vs : List Value, LR ρ xs vs ∧ ∀ j v, vs[j]? = some v → w.cell? ⟨b, o + off + j, none⟩ = some v := by
  unfold Heap.getN at hx
  split at hx
  · rename_i cs ro hH
    split at hx
    · rename_i hle
      simp at hx
      obtain ⟨b', o', m', c, e, fz, h1, h2, h3, _⟩ := h.row id cs _ hH
      rw [hi] at h1
      cases h1
      have hlen : xs.length = n := by rw [← hx]; simp; omega
      refine ⟨hlen, ((c.toList.drop (o + off)).take n), ?_, fun j v hj => ?_⟩
      · refine LR.of_get ?_ fun j x hj => ?_
        · rw [hlen]
          by_cases hn : n = 0
          · simp [hn]
          · obtain ⟨v, hv, _⟩ := h3 (off + (n - 1)) (cs[off + (n - 1)]'(by omega)) (List.getElem?_eq_getElem (by omega))
            have := (Array.getElem?_eq_some_iff.1 hv).1
            simp
            omega
        · rw [← hx] at hj
          have hjn : j < n := by
            have := (List.getElem?_eq_some_iff.1 hj).1
            simp at this
            omega
          rw [List.getElem?_take_of_lt hjn, List.getElem?_drop] at hj ⊢
          obtain ⟨v, hv, hc⟩ := h3 (off + j) x hj
          exact ⟨v, by simpa [Nat.add_assoc] using hv, hc⟩
      · rw [cell_of_block h2]
        have hjn : j < n := by
          have := (List.getElem?_eq_some_iff.1 hj).1
          simp at this
          omega
        rw [List.getElem?_take_of_lt hjn, List.getElem?_drop] at hj
        simpa using hj
    · cases hx
  · cases hx

theorem destr_some {R : Type} : ∀ {n : Nat} {l : List Cell} {K : List Cell → Option R} {r : R}, destr n l K = some r → l.length = n ∧ K l = some r
  | 0, [], _, _, h => ⟨rfl, h⟩
  | 0, _ :: _, _, _, h => by cases h
  | _ + 1, [], _, _, h => by cases h
  | n + 1, a :: l, K, r, h => by
    obtain ⟨h1, h2⟩ := destr_some (n := n) (l := l) (K := fun cs => K (a :: cs)) h
    exact ⟨by simp [h1], h2⟩
theorem run_isAgg {P : Program} {t : TypeId} {g : Bool} (h : isAggT P t = some g) (w : World) : (isAgg t).run P w = .ok g w := by
  unfold isAggT at h
  cases hu : P.underlying t with
  | none => simp [hu] at h
  | some d =>
    rw [hu] at h
    simp only [isAgg, Sem.run_bind, run_underlying hu, Result.andThen_ok]
    cases d <;> simp at h <;> subst h <;> rfl
theorem run_sizeOf' {P : Program} {t : TypeId} {n : Nat} (h : sizeT P t = some n) (w : World) : (sizeOf t).run P w = .ok n w := by
  simp only [sizeT, Option.map_eq_some_iff] at h
  obtain ⟨i, hi, rfl⟩ := h
  simp [sizeOf, typeInfo, hi]
theorem run_zero' {P : Program} {t : TypeId} {z : List Cell} (ρ : Rho) (h : zeroT P t = some z) (w : World) : ∃ v, (zeroValue t).run P w = .ok v w ∧ LR ρ z v.cells.toList := by
  simp only [zeroT, Option.bind_eq_some_iff] at h
  obtain ⟨v, ⟨i, hi, hz⟩, hc⟩ := h
  exact ⟨v, by simp [zeroValue, typeInfo, hi, hz], constCells_rel hc⟩

theorem run_loadVar_agg {P : Program} {t : TypeId} {n : Nat} (hg : isAggT P t = some true) (hn : sizeT P t = some n) {w : World} {b o : Nat} {vs : List Value} (hl : vs.length = n)
    (hv : ∀ j v, vs[j]? = some v → w.cell? ⟨b, o + j, none⟩ = some v) : (loadVar t ⟨b, o, none⟩).run P w = .ok (.agg vs.toArray) w := by
  have hlc := run_loadCells_list (P := P) w ⟨b, o, none⟩ vs fun j v hj => by
    have := hv j v hj
    by_cases hj0 : j = 0
    · subst hj0; simpa [Addr.add] using this
    · simpa [Addr.add, hj0] using this
  rw [hl] at hlc
  simp only [loadVar, Sem.run_bind, run_isAgg hg, Result.andThen_ok, if_true, run_sizeOf' hn, hlc, Sem.run_pure]
theorem run_loadVar_one {P : Program} {t : TypeId} (hg : isAggT P t = some false) {w : World} {a : Addr} {v : Value} (hv : w.cell? a = some v) : (loadVar t a).run P w = .ok v w := by
  simp [loadVar, run_isAgg hg, hv]

theorem get_row {H : Heap} {id off : Nat} {a : Cell} (h : H.get id off = some a) : ∃ cs ro, H[id]? = some (.row cs ro) ∧ cs[off]? = some a := by
  unfold Heap.get at h
  split at h
  · exact ⟨_, _, by assumption, h⟩
  · cases h
theorem getN_row {H : Heap} {id off n : Nat} {l : List Cell} (h : H.getN id off n = some l) : ∃ cs ro, H[id]? = some (.row cs ro) ∧ off + n ≤ cs.length ∧ l = (cs.drop off).take n := by
  unfold Heap.getN at h
  split at h
  · split at h
    · exact ⟨_, _, by assumption, by assumption, (Option.some.inj h).symm⟩
    · cases h
  · cases h
theorem getN_of {H : Heap} {id off n : Nat} {cs : List Cell} {ro : Bool} (h : H[id]? = some (.row cs ro)) (hl : off + n ≤ cs.length) : H.getN id off n = some ((cs.drop off).take n) := by
  unfold Heap.getN
  rw [h]
  simp only [hl, if_true]
theorem drop_cons {α : Type} {cs : List α} {off : Nat} {a : α} (h : cs[off]? = some a) : cs.drop off = a :: cs.drop (off + 1) := by
  obtain ⟨hl, rfl⟩ := List.getElem?_eq_some_iff.1 h
  exact List.drop_eq_getElem_cons hl
theorem cellsAt_some {R : Type} {H : Heap} {id : Nat} : ∀ {n off : Nat} {K : List Cell → Option R} {r : R}, cellsAt H id n off K = some r → ∃ l, H.getN id off n = some l ∧ l.length = n ∧ K l = some r ∧ 0 < n
  | 0, off, K, r, h => by cases h
  | 1, off, K, r, h => by
    simp only [cellsAt, Option.bind_eq_some_iff] at h
    obtain ⟨a, ha, h⟩ := h
    obtain ⟨cs, ro, h1, h2⟩ := get_row ha
    have hl := (List.getElem?_eq_some_iff.1 h2).1
    refine ⟨[a], ?_, rfl, h, by omega⟩
    rw [getN_of h1 (by omega), drop_cons h2]; rfl
  | n + 2, off, K, r, h => by
    simp only [cellsAt, Option.bind_eq_some_iff] at h
    obtain ⟨a, ha, h⟩ := h
    obtain ⟨cs, ro, h1, h2⟩ := get_row ha
    obtain ⟨l, g1, g2, g3, _⟩ := cellsAt_some h
    obtain ⟨cs', ro', k1, k2, k3⟩ := getN_row g1
    rw [h1] at k1
    cases k1
    refine ⟨a :: l, ?_, by simp [g2], g3, by omega⟩
    rw [getN_of h1 (by omega), drop_cons h2, k3]; rfl
theorem cellsAt_of {R : Type} {H : Heap} {id : Nat} : ∀ {n off : Nat} {l : List Cell} (K : List Cell → Option R), 0 < n → H.getN id off n = some l → cellsAt H id n off K = K l
  | 0, off, l, K, h0, h => by omega
  | 1, off, l, K, h0, h => by
    obtain ⟨cs, ro, h1, h2, h3⟩ := getN_row h
    have hg : cs[off]? = some cs[off] := List.getElem?_eq_getElem (by omega)
    have : H.get id off = some cs[off] := by unfold Heap.get; rw [h1]; exact hg
    rw [cellsAt, this, h3, drop_cons hg]; rfl
  | n + 2, off, l, K, h0, h => by
    obtain ⟨cs, ro, h1, h2, h3⟩ := getN_row h
    have hg : cs[off]? = some cs[off] := List.getElem?_eq_getElem (by omega)
    have : H.get id off = some cs[off] := by unfold Heap.get; rw [h1]; exact hg
    rw [cellsAt, this, Option.bind_some, cellsAt_of (l := (cs.drop (off + 1)).take (n + 1)) _ (by omega) (getN_of h1 (by omega)), h3, drop_cons hg]; rfl
theorem reCell_uni {R0 : Type} {k : CK} {c : Cell} {K0 : Cell → Option R0} {r0 : R0} (h : reCell k c K0 = some r0) : K0 c = some r0 ∧ ∀ (R : Type) (K : Cell → Option R), reCell k c K = K c := by
  cases k <;> simp only [reCell] at h ⊢
  case bool => cases c <;> simp [Cell.toBool] at h ⊢; exact h
  case int k =>
    cases c <;> simp [Cell.toInt] at h ⊢
    rename_i k' n
    cases hk : (k == k') with
    | true =>
      have : k = k' := by simpa using hk
      subst this
      simp at h ⊢
      exact h
    | false => rw [hk] at h; simp at h
  case str => cases c <;> simp [Cell.toStr] at h ⊢; exact h
  case ptr => cases c <;> simp [Cell.toPtr] at h ⊢; exact h
  case slice => cases c <;> simp [Cell.toSlice] at h ⊢; exact h
  case map => cases c <;> simp [Cell.toMap] at h ⊢; exact h
  case other => exact ⟨h, fun _ _ => trivial⟩
theorem reCells_uni {R0 : Type} {r0 : R0} : ∀ {ks : List CK} {cs : List Cell} {K0 : List Cell → Option R0}, reCells ks cs K0 = some r0 → K0 cs = some r0 ∧ ∀ (R : Type) (K : List Cell → Option R), reCells ks cs K = K cs
  | [], [], K0, h => ⟨h, fun _ _ => rfl⟩
  | k :: ks, c :: cs, K0, h => by
    simp only [reCells] at h
    obtain ⟨h1, h2⟩ := reCell_uni h
    obtain ⟨h3, h4⟩ := reCells_uni h1
    exact ⟨h3, fun R K => by simp only [reCells]; rw [h2, h4]⟩
  | [], _ :: _, K0, h => by cases h
  | _ :: _, [], K0, h => by cases h
theorem reAV_uni {R0 : Type} {P : Program} {t : TypeId} {v : AV} {K0 : AV → Option R0} {r0 : R0} (h : reAV P t v K0 = some r0) : K0 v = some r0 ∧ ∀ (R : Type) (K : AV → Option R), reAV P t v K = K v := by
  unfold reAV at h ⊢
  cases hc : ckT P 8 t with
  | none => rw [hc] at h; exact ⟨h, fun _ _ => rfl⟩
  | some ks =>
    rw [hc] at h
    simp only at h ⊢
    cases v with
    | c c =>
      simp only at h ⊢
      split at h
      · obtain ⟨h1, h2⟩ := reCell_uni h
        exact ⟨h1, fun R K => h2 R _⟩
      · exact ⟨h, fun R K => rfl⟩
    | agg cs =>
      simp only at h ⊢
      obtain ⟨h1, h2⟩ := reCells_uni h
      exact ⟨h1, fun R K => h2 R _⟩
    | tup vs => exact ⟨h, fun _ _ => rfl⟩
    | lp k off => exact ⟨h, fun _ _ => rfl⟩
theorem load_ok {R : Type} {P : Program} {n : Nat} {ρ : Rho} {L : Nat → Option Nat} {st : St} {a : Act} {w : World} (h : SR n ρ L st a w) {t : TypeId} {x : AV} {u : Value} (hx : AR ρ L x u)
    {K : AV → Option R} {r : R} (hK : loadA P st t x K = some r) : ∃ ad y v, u = .pointer (some ad) ∧ K y = some r ∧ (loadVar t ad).run P w = .ok v w ∧ AR ρ L y v := by
  simp only [loadA, Option.bind_eq_some_iff] at hK
  obtain ⟨g, hg, k, hk, hK⟩ := hK
  have heapCase : ∀ (p : Option (Nat × Nat)), CR ρ (.ptr p) u → (p.bind fun q =>
        bif g then cellsAt st.heap q.1 k q.2 (fun cs => K (.agg cs)) else (st.heap.get q.1 q.2).bind fun c => K (.c c)) = some r → 
        ∃ ad y v, u = .pointer (some ad) ∧ K y = some r ∧ (loadVar t ad).run P w = .ok v w ∧ AR ρ L y v := by
    intro p hp hq
    simp only [Option.bind_eq_some_iff] at hq
    obtain ⟨q, rfl, hq⟩ := hq
    obtain ⟨id, off⟩ := q
    cases hp with
    | ptr hi =>
      rename_i b o m
      cases g with
      | true =>
        simp only [cond_true] at hq
        obtain ⟨l, hl, h1, h2, _⟩ := cellsAt_some hq
        obtain ⟨h3, vs, h4, h5⟩ := h.heap.getN hl hi
        exact ⟨_, _, _, rfl, h2, run_loadVar_agg hg hk (by rw [← h4.length, h1]) h5, .agg (by simpa using h4)⟩
      | false =>
        simp only [cond_false, Option.bind_eq_some_iff] at hq
        obtain ⟨c, hc, hd⟩ := hq
        obtain ⟨v, h3, h4⟩ := h.heap.get hc hi
        exact ⟨_, _, _, rfl, hd, run_loadVar_one hg h3, .c h4⟩
  cases hx with
  | c hc =>
    rename_i c
    cases hc with
    | ptr hi => exact heapCase (some (_, _)) (.ptr hi) (by simpa using hK)
    | _ => simp [Cell.toPtr] at hK
  | lp hL =>
    rename_i k' off b
    simp only [Option.bind_eq_some_iff] at hK
    obtain ⟨cs, hcs, hK⟩ := hK
    obtain ⟨b', c, e, fz, h1, h2, h3, _⟩ := h.loc.at' _ _ hcs
    rw [hL] at h1
    cases h1
    cases g with
    | true =>
      simp only [cond_true] at hK
      by_cases hle : off + k ≤ cs.length
      · rw [Nat.ble_eq_true_of_le hle, cond_true] at hK
        have hlr := (h3.drop off).take k
        refine ⟨_, _, _, rfl, hK, run_loadVar_agg hg hk (vs := (c.toList.drop off).take k) ?_ (fun j v hj => ?_), .agg (by simpa using hlr)⟩
        · rw [← hlr.length]; simp; omega
        · rw [cell_of_block h2]
          have hjn : j < k := by
            have := (List.getElem?_eq_some_iff.1 hj).1
            simp at this
            omega
          rw [List.getElem?_take_of_lt hjn, List.getElem?_drop] at hj
          simpa using hj
      · have : Nat.ble (off + k) cs.length = false := by
          rw [Bool.eq_false_iff]; intro hb; exact hle (Nat.le_of_ble_eq_true hb)
        rw [this, cond_false] at hK
        cases hK
    | false =>
      simp only [cond_false, Option.bind_eq_some_iff] at hK
      obtain ⟨x, hx, hK⟩ := hK
      obtain ⟨v, hv, hc⟩ := h3.get hx
      exact ⟨_, _, _, rfl, hK, run_loadVar_one hg (by rw [cell_of_block h2]; simpa using hv), .c hc⟩
  | _ => cases hK

/-! ## stores -/
theorem run_storeVar' {P : Program} {t : TypeId} {n : Nat} (hn : sizeT P t = some n) {w : World} {b o : Nat} {v : Value} (hs : v.cells.size = n) (h1 : ∀ x ∈ v.cells.toList, x.oneCell' = true)
    {c : Array Value} {e : TypeId} {fz : Nat × Nat} (hb : w.heap[b]? = some (.cells c e fz)) (hf : unfrozen fz c.size) (hle : o + n ≤ c.size) :
    (storeVar t ⟨b, o, none⟩ v).run P w = .ok () (w.setCells b o v.cells.toList) := by
  have hl : v.cells.toList.length = n := by simpa using hs
  have := run_storeCells_cells (P := P) b o v.cells.toList 0 w (fun j hj => by
      rw [cell_of_block hb]
      have : o + j < c.size := by omega
      simp [this]) (fun j hj => frozen_of_block hb hf (by omega)) h1
  simp only [storeVar, Sem.run_bind, run_sizeOf' hn, Result.andThen_ok, hs, ne_eq, not_true_eq_false, if_false]
  simpa using this

/-- Cells put into a row of the heap. -/
theorem HR.putRow {ρ : Rho} {H : Heap} {w : World} (h : HR ρ H w) {id off b o : Nat} {m : Option Nat} {cs xs : List Cell} {vs : List Value} (hH : H[id]? = some (.row cs false)) (hi : ρ id = some (b, o, m))
    (hx : LR ρ xs vs) (hle : off + xs.length ≤ cs.length) : HR ρ (H.set id (.row (splice cs off xs) false)) (w.setCells b (o + off) vs) := by
  obtain ⟨b', o', m', c, e, fz, h1, h2, h3, h4⟩ := h.row id cs _ hH
  rw [hi] at h1
  cases h1
  have hlen : id < H.length := (List.getElem?_eq_some_iff.1 hH).1
  have hvl := hx.length
  have hsz : xs.length = 0 ∨ o + off + xs.length ≤ c.size := by
    by_cases h0 : xs.length = 0
    · exact .inl h0
    · obtain ⟨v, hv, _⟩ := h3 (off + xs.length - 1) (cs[off + xs.length - 1]'(by omega)) (List.getElem?_eq_getElem (by omega))
      have := (Array.getElem?_eq_some_iff.1 hv).1
      exact .inr (by omega)
  have other : ∀ (j : Nat) (x : Nat × Nat × Option Nat), ρ j = some x → (OwnAt H j ∨ RoAt H j) → j ≠ id → (w.setCells b (o + off) vs).heap[x.1]? = w.heap[x.1]? := by
    intro j x hj ho hne
    refine setCells_ne b vs _ _ fun hb => ?_
    obtain ⟨b', o', m'⟩ := x
    simp at hb
    subst hb
    rcases ho with ho | ho
    · exact hne (h.inj j id _ _ _ _ _ ho (.inl ⟨cs, hH⟩) hj hi)
    · exact h.sep id j _ _ _ _ _ _ (.inl ⟨cs, hH⟩) ho hi hj rfl
  have get : ∀ (j : Nat) (blk : Blk), (H.set id (.row (splice cs off xs) false))[j]? = some blk → j ≠ id → H[j]? = some blk := by
    intro j blk hj hne
    rwa [List.getElem?_set_ne (Ne.symm hne)] at hj
  have own : ∀ j, OwnAt (H.set id (.row (splice cs off xs) false)) j → OwnAt H j := by
    intro j hj
    by_cases hne : j = id
    · subst hne; exact .inl ⟨cs, hH⟩
    · rcases hj with ⟨cs', h5⟩ | ⟨es, c', h5⟩
      · exact .inl ⟨cs', get j _ h5 hne⟩
      · exact .inr ⟨es, c', get j _ h5 hne⟩
  have ro : ∀ j, RoAt (H.set id (.row (splice cs off xs) false)) j → RoAt H j := by
    rintro j ⟨ds, hj⟩
    by_cases hne : j = id
    · subst hne; rw [List.getElem?_set_self hlen] at hj; simp at hj
    · exact ⟨ds, get j _ hj hne⟩
  refine ⟨fun j ds r hj => ?_, fun j es cl hj => ?_, fun i j b o m o' m' hi hj h1 h2 => h.inj i j b o m o' m' (own i hi) (own j hj) h1 h2,
    fun i j b o m b' o' m' hi hj h1 h2 => h.sep i j b o m b' o' m' (own i hi) (ro j hj) h1 h2, fun j hj => h.fresh j (by simpa using hj), fun j b' o' m' hj => by rw [setCells_size]; exact h.inw j b' o' m' hj,
    fun j hj => h.hole j (get j _ hj (by rintro rfl; rw [List.getElem?_set_self hlen] at hj; simp at hj))⟩
  · by_cases hne : j = id
    · subst hne
      rw [List.getElem?_set_self hlen] at hj
      simp at hj
      obtain ⟨rfl, rfl⟩ := hj
      rcases hsz with h0 | hsz
      · have hxs : xs = [] := List.eq_nil_of_length_eq_zero h0
        have hvs : vs = [] := List.eq_nil_of_length_eq_zero (by omega)
        subst hxs; subst hvs
        refine ⟨b, o, m, c, e, fz, hi, h2, fun k x hk => h3 k x ?_, h4⟩
        simpa [splice] using hk
      · obtain ⟨c', h5, h6, h7⟩ := setCells_at b vs (o + off) w c h2 (by omega)
        refine ⟨b, o, m, c', e, fz, hi, h5, fun k x hk => ?_, fun _ => by rw [h6]; exact h4 rfl⟩
        unfold splice at hk
        rw [splice_get cs xs off hle] at hk
        rw [h7]
        by_cases hk1 : k < off
        · rw [if_pos hk1] at hk
          rw [if_pos (by omega)]
          exact h3 k x hk
        · rw [if_neg hk1] at hk
          rw [if_neg (by omega)]
          by_cases hk2 : k < off + xs.length
          · rw [if_pos hk2] at hk
            rw [if_pos (by omega)]
            obtain ⟨v, hv, hc⟩ := hx.get hk
            exact ⟨v, by rw [show o + k - (o + off) = k - off by omega]; exact hv, hc⟩
          · rw [if_neg hk2] at hk
            rw [if_neg (by omega)]
            exact h3 k x hk
    · have hj' := get j _ hj hne
      obtain ⟨b', o', m', c', e', fz', h5, h6, h7⟩ := h.row j ds r hj'
      exact ⟨b', o', m', c', e', fz', h5, by rw [other j _ h5 (by cases r; exact .inl (.inl ⟨ds, hj'⟩); exact .inr ⟨ds, hj'⟩) hne]; exact h6, h7⟩
  · have hne : j ≠ id := by rintro rfl; rw [List.getElem?_set_self hlen] at hj; simp at hj
    have hj' := get j _ hj hne
    obtain ⟨b', es', h5, h6, h7⟩ := h.mapR j es cl hj'
    exact ⟨b', es', h5, by rw [other j _ h5 (.inl (.inr ⟨es, cl, hj'⟩)) hne]; exact h6, h7⟩

theorem HR.put {ρ : Rho} {H H' : Heap} {w : World} (h : HR ρ H w) {id off b o : Nat} {m : Option Nat} {xs : List Cell} {vs : List Value} (hp : H.put id off xs = some H') (hi : ρ id = some (b, o, m))
    (hx : LR ρ xs vs) : HR ρ H' (w.setCells b (o + off) vs) ∧ OwnAt H id ∧ H'.length = H.length ∧ (∀ j, OwnAt H' j → OwnAt H j) ∧
      ∃ c e fz, w.heap[b]? = some (.cells c e fz) ∧ unfrozen fz c.size ∧ (vs.length = 0 ∨ o + off + vs.length ≤ c.size) := by
  unfold Heap.put at hp
  split at hp
  · rename_i cs hH
    split at hp
    · rename_i hle
      simp at hp
      subst hp
      obtain ⟨b', o', m', c, e, fz, h1, h2, h3, h4⟩ := h.row id cs _ hH
      rw [hi] at h1
      cases h1
      refine ⟨h.putRow hH hi hx hle, .inl ⟨cs, hH⟩, by simp, fun j hj => ?_, c, e, fz, h2, (h4 rfl).2, ?_⟩
      · by_cases hne : j = id
        · subst hne; exact .inl ⟨cs, hH⟩
        · unfold OwnAt at hj ⊢
          rwa [List.getElem?_set_ne (Ne.symm hne)] at hj
      · rw [← hx.length]
        by_cases h0 : xs.length = 0
        · exact .inl h0
        · obtain ⟨v, hv, _⟩ := h3 (off + xs.length - 1) (cs[off + xs.length - 1]'(by omega)) (List.getElem?_eq_getElem (by omega))
          have := (Array.getElem?_eq_some_iff.1 hv).1
          exact .inr (by omega)
    · cases hp
  · cases hp

theorem SR.putHeap {n : Nat} {ρ : Rho} {L : Nat → Option Nat} {st : St} {a : Act} {w : World} (h : SR n ρ L st a w) {H' : Heap} {id off b o : Nat} {m : Option Nat} {xs : List Cell} {vs : List Value}
    (hp : st.heap.put id off xs = some H') (hi : ρ id = some (b, o, m)) (hx : LR ρ xs vs) :
    SR n ρ L (st.withHeap H') a (w.setCells b (o + off) vs) ∧ Fr ρ ρ w (w.setCells b (o + off) vs) (Ch ρ L st) (Ch ρ L (st.withHeap H')) := by
  obtain ⟨h1, h2, h3, h4, c0, e0, fz0, h0, _⟩ := h.heap.put hp hi hx
  have ho := setCells_os b vs (o + off) w
  refine ⟨⟨h.env, h.loc.congr (Rho.le_refl _) (fun k cs b' hk hL => setCells_ne b vs _ _ fun e => ?_) fun k cs b' hk hL id o m hi => ⟨_, _, hi⟩, h1, (h.defers.keep fun D hD => setCells_ne b vs _ _ fun e => by subst e; rw [h0] at hD; cases hD), h.size⟩, ?_⟩
  · subst e; exact h.loc.out k cs b' hk hL _ _ _ hi
  · refine ⟨Rho.le_refl _, by rw [setCells_size]; exact Nat.le_refl _, fun k hk hn => setCells_ne b vs _ _ fun e => hn (.inl ⟨id, o, m, h2, e ▸ hi⟩), fun k hk => .inl ?_, fun _ _ _ _ h => .inl h, ho.1, ho.2.1, ho.2.2⟩
    rcases hk with ⟨i, o', m', h5, h6⟩ | h5
    · exact .inl ⟨i, o', m', h4 i h5, h6⟩
    · exact .inr h5

/-- Another mark on a row of the heap. -/
theorem HR.remark {ρ : Rho} {H : Heap} {w w' : World} (h : HR ρ H w) {id b o : Nat} {m : Option Nat} {cs : List Cell} {c : Array Value} {e : TypeId} {fz fz' : Nat × Nat} (hH : H[id]? = some (.row cs false)) (hi : ρ id = some (b, o, m))
    (h2 : w.heap[b]? = some (.cells c e fz)) (h2' : w'.heap[b]? = some (.cells c e fz')) (hu : unfrozen fz' c.size) (hsz : w'.heap.size = w.heap.size) (hne : ∀ k, k ≠ b → w'.heap[k]? = w.heap[k]?) : HR ρ H w' := by
  have other : ∀ (j : Nat) (x : Nat × Nat × Option Nat), ρ j = some x → (OwnAt H j ∨ RoAt H j) → j ≠ id → w'.heap[x.1]? = w.heap[x.1]? := by
    intro j x hj ho hnj
    refine hne _ fun hb => ?_
    obtain ⟨b', o', m'⟩ := x
    simp at hb
    subst hb
    rcases ho with ho | ho
    · exact hnj (h.inj j id _ _ _ _ _ ho (.inl ⟨cs, hH⟩) hj hi)
    · exact h.sep id j _ _ _ _ _ _ (.inl ⟨cs, hH⟩) ho hi hj rfl
  refine ⟨fun j ds r hj => ?_, fun j es cl hj => ?_, h.inj, h.sep, h.fresh, fun j b' o' m' hj => by rw [hsz]; exact h.inw j b' o' m' hj, h.hole⟩
  · obtain ⟨b', o', m', c', e', fz2, h5, h6, h7, h8⟩ := h.row j ds r hj
    by_cases hj' : j = id
    · subst hj'
      rw [hi] at h5; cases h5
      rw [h2] at h6; cases h6
      exact ⟨b, o, m, c, e, fz', hi, h2', h7, fun hr => ⟨(h8 hr).1, hu⟩⟩
    · exact ⟨b', o', m', c', e', fz2, h5, by rw [other j _ h5 (by cases r; exact .inl (.inl ⟨ds, hj⟩); exact .inr ⟨ds, hj⟩) hj']; exact h6, h7, h8⟩
  · have hj' : j ≠ id := by rintro rfl; rw [hH] at hj; cases hj
    obtain ⟨b', es', h5, h6, h7⟩ := h.mapR j es cl hj
    exact ⟨b', es', h5, by rw [other j _ h5 (.inl (.inr ⟨es, cl, hj⟩)) hj']; exact h6, h7⟩
theorem freeze_heap (w : World) (b n : Nat) {c : Array Value} {e : TypeId} {fz : Nat × Nat} (h : w.heap[b]? = some (.cells c e fz)) (hu : unfrozen fz c.size) (hn : n = c.size) :
    ∃ fz', (w.freeze { block := b, off := n } 1).heap[b]? = some (.cells c e fz') ∧ unfrozen fz' c.size ∧ (w.freeze { block := b, off := n } 1).heap.size = w.heap.size ∧ ∀ k, k ≠ b → (w.freeze { block := b, off := n } 1).heap[k]? = w.heap[k]? := by
  obtain ⟨lo, hi⟩ := fz
  unfold World.freeze
  rw [if_neg (by omega)]
  refine ⟨if lo == hi then (n, n + 1) else (min lo n, max hi (n + 1)), ?_, ?_, by simp, fun k hk => ?_⟩
  · show (w.heap.modify b _)[b]? = _
    rw [Array.getElem?_modify, if_pos rfl, h]; rfl
  · unfold unfrozen at hu ⊢
    by_cases he : lo = hi
    · subst he; simp; omega
    · have : (lo == hi) = false := by simpa using he
      rw [this]
      simp at hu ⊢
      rcases hu with hu | hu
      · exact absurd hu he
      · right; omega
  · show (w.heap.modify b _)[k]? = _
    rw [Array.getElem?_modify, if_neg (fun x => hk x.symm)]
theorem SR.refreeze {n : Nat} {ρ : Rho} {L : Nat → Option Nat} {st : St} {a : Act} {w : World} (h : SR n ρ L st a w) {id b o : Nat} {m : Option Nat} {cs : List Cell} {c : Array Value} {e : TypeId} {fz : Nat × Nat} (hH : st.heap[id]? = some (.row cs false)) (hi : ρ id = some (b, o, m))
    (h2 : w.heap[b]? = some (.cells c e fz)) (hu : unfrozen fz c.size) : SR n ρ L st a (w.freeze { block := b, off := c.size } 1) ∧ Fr ρ ρ w (w.freeze { block := b, off := c.size } 1) (Ch ρ L st) (Ch ρ L st) := by
  obtain ⟨fz', g1, g2, g3, g4⟩ := freeze_heap w b c.size h2 hu rfl
  have hos : (w.freeze { block := b, off := c.size } 1).os = w.os ∧ (w.freeze { block := b, off := c.size } 1).tape = w.tape ∧ (w.freeze { block := b, off := c.size } 1).output = w.output := by
    unfold World.freeze
    rw [if_neg (by omega)]
    exact ⟨rfl, rfl, rfl⟩
  generalize w.freeze { block := b, off := c.size } 1 = w' at g1 g3 g4 hos ⊢
  refine ⟨⟨h.env, h.loc.congr (Rho.le_refl _) (fun k cs b' hk hL => g4 _ fun e => ?_) fun k cs b' hk hL id o m hi => ⟨_, _, hi⟩, h.heap.remark hH hi h2 g1 g2 g3 g4, (h.defers.keep fun D hD => g4 _ fun e => by subst e; rw [h2] at hD; cases hD), h.size⟩, ?_⟩
  · subst e; exact h.loc.out k cs b' hk hL _ _ _ hi
  · exact ⟨Rho.le_refl _, by omega, fun k hk hn => g4 k fun e => hn (.inl ⟨id, o, m, .inl ⟨cs, hH⟩, e ▸ hi⟩), fun k hk => .inl hk, fun _ _ _ _ h => .inl h, hos.1, hos.2.1, hos.2.2⟩

theorem store_ok {R : Type} {P : Program} {n : Nat} {ρ : Rho} {L : Nat → Option Nat} {st : St} {a : Act} {w : World} (h : SR n ρ L st a w) {t : TypeId} {x y : AV} {u v : Value} (hx : AR ρ L x u) (hy : AR ρ L y v)
    {K : St → Option R} {r : R} (hK : storeA P st t x y K = some r) : ∃ ad st' w', u = .pointer (some ad) ∧ K st' = some r ∧ (storeVar t ad v).run P w = .ok () w' ∧
      SR n ρ L st' a w' ∧ Fr ρ ρ w w' (Ch ρ L st) (Ch ρ L st') := by
  simp only [storeA, Option.bind_eq_some_iff] at hK
  obtain ⟨k, hk, vs, hvs, hK⟩ := hK
  have hcells := hy.cells hvs
  by_cases hlen : vs.length = k
  case neg =>
    rw [show (vs.length == k) = false from beq_eq_false_iff_ne.2 hlen, cond_false] at hK
    cases hK
  rw [show (vs.length == k) = true from beq_iff_eq.2 hlen, cond_true] at hK
  have hsz : v.cells.size = k := by rw [← hlen, hcells.length]; simp
  have hone : ∀ x ∈ v.cells.toList, x.oneCell' = true := hcells.one
  cases hx with
  | c hc =>
    simp only [Option.bind_eq_some_iff] at hK
    obtain ⟨p, hp, q, hq, H', hput, hK⟩ := hK
    subst hq
    cases hc <;> simp [Cell.toPtr] at hp
    rename_i id off b o m hi
    subst hp
    obtain ⟨_, _, _, _, c, e, fz, h1, h2, h3⟩ := h.heap.put hput hi hcells
    obtain ⟨h4, h5⟩ := h.putHeap hput hi hcells
    refine ⟨_, _, _, rfl, hK, ?_, h4, h5⟩
    rcases h3 with h3 | h3
    · -- nothing is stored
      have : v.cells.toList = [] := List.eq_nil_of_length_eq_zero h3
      simp only [storeVar, Sem.run_bind, run_sizeOf' hk, Result.andThen_ok, hsz, ne_eq, not_true_eq_false, if_false, this]
      rfl
    · exact run_storeVar' hk hsz hone h1 h2 (by rw [show v.cells.toList.length = k by simpa using hsz] at h3; omega)
  | lp hL =>
    rename_i kk off b
    simp only [Option.bind_eq_some_iff] at hK
    obtain ⟨cs, hcs, hK⟩ := hK
    by_cases hle : off + k ≤ cs.length
    case neg =>
      have : Nat.ble (off + k) cs.length = false := by
        rw [Bool.eq_false_iff]; intro hb; exact hle (Nat.le_of_ble_eq_true hb)
      rw [this, cond_false] at hK
      cases hK
    rw [Nat.ble_eq_true_of_le hle, cond_true] at hK
    obtain ⟨b', c, e, fz, h1, h2, h3, h4⟩ := h.loc.at' _ _ hcs
    rw [hL] at h1
    cases h1
    have hcl := h3.length
    simp at hcl
    have hvl : v.cells.toList.length = k := by simpa using hsz
    obtain ⟨c', h5, h6, h7⟩ := setCells_at b v.cells.toList off w c h2 (by omega)
    have ho := setCells_os b v.cells.toList off w
    refine ⟨_, _, _, rfl, hK, run_storeVar' hk hsz hone h2 h4 (by omega), ⟨h.env, ⟨fun k' ds hk' => ?_, fun k1 k2 ds es hk1 hk2 hl => ?_, fun k' ds b' hk' hL' => ?_⟩, ?_, (h.defers.keep fun D hD => setCells_ne b _ _ _ fun e => by subst e; rw [h2] at hD; cases hD), h.size⟩, ?_⟩
    · simp only [look_setLoc] at hk'
      by_cases hkk : kk = k'
      · subst hkk
        simp at hk'
        subst hk'
        refine ⟨b, c', e, fz, hL, h5, LR.of_get ?_ fun j x hj => ?_, by rw [h6]; exact h4⟩
        · simp [splice]; omega
        · unfold splice at hj
          rw [splice_get cs vs off (by omega)] at hj
          rw [show c'.toList[j]? = c'[j]? by simp, h7, hvl, ← hlen]
          by_cases hj1 : j < off
          · rw [if_pos hj1] at hj ⊢
            obtain ⟨v', hv', hc'⟩ := h3.get hj
            exact ⟨v', by simpa using hv', hc'⟩
          · rw [if_neg hj1] at hj ⊢
            by_cases hj2 : j < off + vs.length
            · rw [if_pos hj2] at hj ⊢
              exact hcells.get hj
            · rw [if_neg hj2] at hj ⊢
              obtain ⟨v', hv', hc'⟩ := h3.get hj
              exact ⟨v', by simpa using hv', hc'⟩
      · simp [hkk] at hk'
        obtain ⟨b', c2, e2, fz2, h8, h9, h10⟩ := h.loc.at' k' ds hk'
        refine ⟨b', c2, e2, fz2, h8, ?_, h10⟩
        rw [setCells_ne b _ _ _ fun e => ?_]
        · exact h9
        · subst e; exact hkk (h.loc.inj kk k' cs ds hcs hk' (by rw [hL, h8]))
    · simp only [look_setLoc] at hk1 hk2
      have g1 : ∃ ds, look st.loc k1 = some ds := by
        by_cases hh : kk = k1
        · subst hh; exact ⟨_, hcs⟩
        · simp [hh] at hk1; exact ⟨_, hk1⟩
      have g2 : ∃ ds, look st.loc k2 = some ds := by
        by_cases hh : kk = k2
        · subst hh; exact ⟨_, hcs⟩
        · simp [hh] at hk2; exact ⟨_, hk2⟩
      obtain ⟨d1, g1⟩ := g1
      obtain ⟨d2, g2⟩ := g2
      exact h.loc.inj k1 k2 d1 d2 g1 g2 hl
    · simp only [look_setLoc] at hk'
      by_cases hkk : kk = k'
      · subst hkk; exact h.loc.out kk cs b' hcs hL'
      · simp [hkk] at hk'; exact h.loc.out k' ds b' hk' hL'
    · refine h.heap.congr (by rw [setCells_size]; exact Nat.le_refl _) fun id b' o' m' hi _ => setCells_ne b _ _ _ fun e => ?_
      subst e
      exact h.loc.out kk cs _ hcs hL _ _ _ hi
    · refine ⟨Rho.le_refl _, by rw [setCells_size]; exact Nat.le_refl _, fun k' hk' hn => setCells_ne b _ _ _ fun e => hn (.inr ⟨kk, cs, hcs, e ▸ hL⟩), fun k' hk' => .inl ?_, fun _ _ _ _ h => .inl h, ho.1, ho.2.1, ho.2.2⟩
      rcases hk' with h8 | ⟨k2, ds, h8, h9⟩
      · exact .inl h8
      · simp only [look_setLoc] at h8
        by_cases hkk : kk = k2
        · subst hkk; exact .inr ⟨kk, cs, hcs, h9⟩
        · simp [hkk] at h8; exact .inr ⟨k2, ds, h8, h9⟩
  | _ => cases hK

end Go.Proofs.YtnipccoenalnkaaGreat.Ab
