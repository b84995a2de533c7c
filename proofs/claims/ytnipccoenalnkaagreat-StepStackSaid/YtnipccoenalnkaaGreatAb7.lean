/- The abstract machine, 7: aggregates that are built; maps; numbers of several; strings and bytes. -/
import Derived.Test.YtnipccoenalnkaaGreatAb6
namespace Go.Proofs.YtnipccoenalnkaaGreat.Ab
open Go
set_option linter.unusedVariables false
set_option linter.unusedSimpArgs false

section
variable {R : Type} {C : Ctx} {o : Oper} {st : St} {K : St → Option R} {r : R} {ρ : Rho} {L : Nat → Option Nat} {a : Act} {w : World} {next : Act → World → Prop} {Q : Exit → Act → World → Prop}

theorem foldl_set (off : Nat) : ∀ (l : List Value) (k : Nat) (cells : Array Value), off + k + l.length ≤ cells.size →
    let c' := (l.zipIdx k).foldl (fun cs (p : Value × Nat) => cs.setIfInBounds (off + p.2) p.1) cells
    c'.size = cells.size ∧ ∀ i : Nat, c'[i]? = if i < off + k then cells[i]? else if i < off + k + l.length then l[i - (off + k)]? else cells[i]?
  | [], k, cells, h => by
    refine ⟨rfl, fun i => ?_⟩
    simp only [List.zipIdx_nil, List.foldl_nil, List.length_nil, Nat.add_zero]
    by_cases h1 : i < off + k
    · rw [if_pos h1]
    · rw [if_neg h1, if_neg h1]
  | v :: l, k, cells, h => by
    simp only [List.length_cons] at h
    have ih := foldl_set off l (k + 1) (cells.setIfInBounds (off + k) v) (by simp; omega)
    simp only at ih
    obtain ⟨h1, h2⟩ := ih
    refine ⟨by simpa using h1, fun i => ?_⟩
    simp only [List.zipIdx_cons, List.foldl_cons]
    rw [h2]
    by_cases hi : i < off + k
    · rw [if_pos (by omega), if_pos hi, Array.getElem?_setIfInBounds_ne (by omega)]
    · rw [if_neg hi]
      by_cases hik : i = off + k
      · subst hik
        rw [if_pos (by omega), if_pos (by simp), Array.getElem?_setIfInBounds_self_of_lt (by omega)]
        simp
      · rw [if_neg (by omega)]
        by_cases hi2 : i < off + (k + 1) + l.length
        · rw [if_pos hi2, if_pos (by simp; omega), show i - (off + k) = (i - (off + (k + 1))) + 1 by omega]
          simp
        · rw [if_neg hi2, if_neg (by simp; omega), Array.getElem?_setIfInBounds_ne (by omega)]

theorem fill_ok {place : Nat → Option (Nat × Nat)} : ∀ {ps : List (Nat × AV)} {ops : List (Nat × Operand)} {cells cs : List Cell} {cellsR : Array Value}, SR C.nt ρ L st a w → evParts st ops = some ps →
    LR ρ cells cellsR.toList → fillCells place cells ps = some cs → ∃ c', Instr.fill place cellsR (ops.map fun (i, x) => (i, a.eval x)) = some c' ∧ LR ρ cs c'.toList
  | _, [], cells, cs, cellsR, h, hp, hl, hf => by
    simp [evParts] at hp
    subst hp
    simp [fillCells] at hf
    subst hf
    exact ⟨cellsR, rfl, hl⟩
  | _, (i, x) :: ops, cells, cs, cellsR, h, hp, hl, hf => by
    simp only [evParts, Option.bind_eq_some_iff] at hp
    obtain ⟨v, hv, vs, hvs, he⟩ := hp
    simp at he
    subst he
    simp only [fillCells, Option.bind_eq_some_iff] at hf
    obtain ⟨p, hp, xs, hxs, hf⟩ := hf
    have hc := (h.ev hv).cells hxs
    cases hb : (xs.length == p.2 && Nat.ble (p.1 + xs.length) cells.length) with
    | false => rw [hb, cond_false] at hf; cases hf
    | true =>
      rw [hb, cond_true] at hf
      simp only [Bool.and_eq_true, beq_iff_eq] at hb
      have hle := Nat.le_of_ble_eq_true hb.2
      have hcl := hc.length
      have hll := hl.length
      simp at hcl hll
      obtain ⟨off, size⟩ := p
      simp only at hb hle hf
      have hfs := foldl_set off (a.eval x).cells.toList 0 cellsR (by simp; omega)
      simp only at hfs
      obtain ⟨h1, h2⟩ := hfs
      simp only [List.map_cons, Instr.fill, hp]
      rw [if_neg (by simp; omega)]
      have e : (a.eval x).cells.zipIdx.foldl (fun cs (c, j) => cs.setIfInBounds (off + j) c) cellsR = ((a.eval x).cells.toList.zipIdx 0).foldl (fun cs (p : Value × Nat) => cs.setIfInBounds (off + p.2) p.1) cellsR := by
        rw [← Array.foldl_toList, Array.toList_zipIdx]
      rw [e]
      refine fill_ok h hvs ?_ hf
      refine LR.of_get ?_ fun j y hj => ?_
      · simp [splice]; omega
      · unfold splice at hj
        rw [splice_get cells xs off hle] at hj
        have h2j := h2 j
        simp only [Nat.add_zero] at h2j
        rw [Array.getElem?_toList, h2j]
        have hxl : (a.eval x).cells.toList.length = xs.length := by simpa using hcl.symm
        rw [hxl]
        by_cases hj1 : j < off
        · rw [if_pos hj1] at hj ⊢
          obtain ⟨v', hv', hc'⟩ := hl.get hj
          exact ⟨v', by simpa using hv', hc'⟩
        · rw [if_neg hj1] at hj ⊢
          by_cases hj2 : j < off + xs.length
          · rw [if_pos hj2] at hj ⊢
            exact hc.get hj
          · rw [if_neg hj2] at hj ⊢
            obtain ⟨v', hv', hc'⟩ := hl.get hj
            exact ⟨v', by simpa using hv', hc'⟩

theorem mapM_places {P : Program} {w : World} : ∀ {fs : List Field} {pl : List (Nat × Nat)}, fieldPlaces P fs = some pl →
    (fs.mapM fun (f : Field) => (do pure (f.offset, ← sizeOf f.type) : Sem (Nat × Nat))).run P w = .ok pl w
  | [], pl, h => by simp [fieldPlaces] at h; subst h; rfl
  | f :: fs, pl, h => by
    simp only [fieldPlaces, Option.bind_eq_some_iff] at h
    obtain ⟨s, hs, l, hl, he⟩ := h
    simp at he
    subst he
    have ih := mapM_places (P := P) (w := w) hl
    simp only [List.mapM_cons, Sem.run_bind, run_sizeOf' hs, Result.andThen_ok, Sem.run_pure, ih]

theorem mapM_array {α β : Type} {P : Program} {w : World} (fs : Array α) (f : α → Sem β) (l : List β) (h : (fs.toList.mapM f).run P w = .ok l w) : (fs.mapM f).run P w = .ok l.toArray w := by
  rw [Array.mapM_eq_mapM_toList]
  simp [h]

theorem build_ok (h : SR C.nt ρ L st a w) {t : TypeId} {parts : Array (Nat × Operand)} {ps : List (Nat × AV)} {z cs : List Cell} {place : Nat → Option (Nat × Nat)} (hp : evParts st parts.toList = some ps) (hz : zeroT C.P t = some z)
    (hcase : (∃ fs pl, C.P.underlying t = some (.struct fs) ∧ fieldPlaces C.P fs.toList = some pl ∧ place = fun i => pl[i]?) ∨ (∃ n e s, C.P.underlying t = some (.array n e) ∧ sizeT C.P e = some s ∧ place = fun i => some (i * s, s)))
    (hf : fillCells place z ps = some cs) :
    ∃ v, (Instr.build t (parts.map fun (i, x) => (i, a.eval x))).run C.P w = .ok v w ∧ AR ρ L (.agg cs) v := by
  obtain ⟨zv, hzr, hzl⟩ := run_zero' ρ hz w
  obtain ⟨c', h1, h2⟩ := fill_ok (cellsR := zv.cells) h hp hzl hf
  refine ⟨.agg c', ?_, .agg h2⟩
  rcases hcase with ⟨fs, pl, hu, hpl, rfl⟩ | ⟨n, e, s, hu, hs, rfl⟩
  · have hm := mapM_array (P := C.P) (w := w) fs _ pl (mapM_places hpl)
    simp only [Instr.build, Sem.run_bind, hzr, Result.andThen_ok, run_underlying hu, hm]
    have : Instr.fill (fun x => pl.toArray[x]?) zv.cells (parts.map fun (i, x) => (i, a.eval x)).toList = some c' := by
      rw [← h1, Array.toList_map]
      congr 1
      funext i
      simp
    rw [this]
    rfl
  · simp only [Instr.build, Sem.run_bind, hzr, Result.andThen_ok, run_underlying hu, run_sizeOf' hs]
    have : Instr.fill (fun i => some (i * s, s)) zv.cells (parts.map fun (i, x) => (i, a.eval x)).toList = some c' := by
      rw [← h1, Array.toList_map]
    rw [this]
    rfl

theorem replicate_mod (zs : List Value) (n : Nat) (hz : 0 < zs.length) : ((Array.range (n * zs.length)).map fun i => zs.toArray[i % zs.toArray.size]!).toList = (List.replicate n zs).flatten := by
  apply List.ext_getElem?
  intro i
  have len : (List.replicate n zs).flatten.length = n * zs.length := by simp
  by_cases hi : i < n * zs.length
  · rw [Array.getElem?_toList, Array.getElem?_map, Array.getElem?_range, if_pos hi]
    have hm : i % zs.length < zs.length := Nat.mod_lt _ hz
    have hd : i / zs.length < n := Nat.div_lt_of_lt_mul (by rwa [Nat.mul_comm] at hi)
    have key : ∀ (n : Nat) (i : Nat), i < n * zs.length → (List.replicate n zs).flatten[i]? = zs[i % zs.length]? := by
      intro n
      induction n with
      | zero => intro i h; simp at h
      | succ n ih =>
        intro i h
        rw [List.replicate_succ, List.flatten_cons]
        by_cases h1 : i < zs.length
        · rw [List.getElem?_append_left h1, Nat.mod_eq_of_lt h1]
        · rw [List.getElem?_append_right (by omega), ih _ (by have := Nat.succ_mul n zs.length; rw [Nat.succ_eq_add_one] at this; omega)]
          congr 1
          exact (Nat.mod_eq_sub_mod (by omega)).symm
    rw [key n i hi]
    simp [hm]
  · rw [List.getElem?_eq_none (by simp; omega), List.getElem?_eq_none (by rw [len]; omega)]

/-- The zero cells of a row of n. -/
theorem zeros_ok {P : Program} {e : TypeId} {s : Nat} {z : List Cell} (ρ : Rho) (hz : zeroT P e = some z) (hl : z.length = s) (hpos : 0 < s) (w : World) :
    ∃ zv, (zeroValue e).run P w = .ok zv w ∧ LR ρ z zv.cells.toList ∧ zv.cells.size = s ∧
      ∀ n, ((Array.range (n * s)).map fun i => zv.cells[i % zv.cells.size]!).toList = (List.replicate n zv.cells.toList).flatten := by
  obtain ⟨zv, h1, h2⟩ := run_zero' ρ hz w
  have hsz : zv.cells.size = s := by have := h2.length; simp at this; omega
  refine ⟨zv, h1, h2, hsz, fun n => ?_⟩
  have := replicate_mod zv.cells.toList n (by simpa [hsz] using hpos)
  simpa [hsz] using this

theorem buildSlice_ok (h : SR C.nt ρ L st a w) {t e : TypeId} {len s : Nat} {parts : Array (Nat × Operand)} {ps : List (Nat × AV)} {z cs : List Cell} (hp : evParts st parts.toList = some ps)
    (hu : C.P.underlying t = some (.slice e)) (hs : sizeT C.P e = some s) (hz : zeroT C.P e = some z) (hl : z.length = s) (hpos : 0 < s) (hmax : len * s ≤ 16777216)
    (hf : fillCells (fun i => some (i * s, s)) (List.replicate len z).flatten ps = some cs) :
    ∃ c, (Instr.buildSlice t len (parts.map fun (i, x) => (i, a.eval x))).run C.P w = .ok (.slice (some ⟨w.heap.size, 0, none⟩) len len) (w.alloc (.cells c e)) ∧ LR ρ cs c.toList := by
  obtain ⟨zv, h1, h2, h3, h4⟩ := zeros_ok ρ hz hl hpos w
  have fin : ∀ cR : Array Value, LR ρ (List.replicate len z).flatten ((Array.range (len * s)).map (fun i => cR[i % cR.size]!)).toList →
      ∃ c', Instr.fill (fun i => some (i * s, s)) ((Array.range (len * s)).map (fun i => cR[i % cR.size]!)) (parts.map fun (i, x) => (i, a.eval x)).toList = some c' ∧ LR ρ cs c'.toList := by
    intro cR h6
    obtain ⟨c', h7, h8⟩ := fill_ok (cellsR := (Array.range (len * s)).map (fun i => cR[i % cR.size]!)) h hp h6 hf
    exact ⟨c', by rw [← h7, Array.toList_map], h8⟩
  have hmx : ¬ len * s > 2 ^ 24 := by have : (2 : Nat) ^ 24 = 16777216 := rfl; omega
  by_cases h0 : len * s = 0
  · have hlen : len = 0 := by rcases Nat.mul_eq_zero.1 h0 with h | h; exact h; omega
    obtain ⟨c', h7, h8⟩ := fin #[] (by subst hlen; simpa using .nil)
    refine ⟨c', ?_, h8⟩
    simp only [Instr.buildSlice, Sem.run_bind, run_underlying hu, Result.andThen_ok, run_sizeOf' hs]
    rw [if_neg hmx]
    rw [if_pos h0]
    simp only [pure_bind]
    rw [h7]
    rfl
  · obtain ⟨c', h7, h8⟩ := fin zv.cells (by rw [h4]; exact h2.replicate len)
    refine ⟨c', ?_, h8⟩
    simp only [Instr.buildSlice, Sem.run_bind, run_underlying hu, Result.andThen_ok, run_sizeOf' hs]
    rw [if_neg hmx]
    rw [if_neg h0]
    simp only [Sem.run_bind, h1, Result.andThen_ok, Sem.run_pure]
    rw [h7]
    rfl

/-! ### maps -/
end
end Go.Proofs.YtnipccoenalnkaaGreat.Ab
