/- The abstract machine, 9: the builtins. -/
import Derived.Test.YtnipccoenalnkaaGreatAb8
import Derived.Laws.BytesString
namespace Go.Proofs.YtnipccoenalnkaaGreat.Ab
open Go
set_option linter.unusedVariables false
set_option linter.unusedSimpArgs false

section
variable {R : Type} {C : Ctx} {o : Oper} {st : St} {K : St → Option R} {r : R} {ρ : Rho} {L : Nat → Option Nat} {a : Act} {w : World} {next : Act → World → Prop} {Q : Exit → Act → World → Prop}

theorem append_slice_run {P : Program} {t u ty e e2 : TypeId} {size : Nat} (ht : P.underlying t = some (.slice e)) (hu : P.underlying u = some (.slice e2)) (hs : sizeT P e = some size) (base xb : Option Addr) (sLen sCap n xc : Nat) (w : World) :
    (Builtin.append_ #[t, u] ty #[.slice base sLen sCap, .slice xb n xc]).run P w =
      (appTail e size (false = true) (.slice base sLen sCap) base sLen sCap n (.slice xb n xc) (Builtin.firstCells size n (.slice xb n xc))).run P w := by
  simp only [Builtin.append_, List.getElem?_toArray, List.getElem?_cons_zero, List.getElem?_cons_succ, Sem.run_bind, run_underlying ht, run_underlying hu, Result.andThen_ok, run_sizeOf' hs, Sem.run_pure]
  rfl
theorem append_string_run {P : Program} {t u ty e : TypeId} {size : Nat} (ht : P.underlying t = some (.slice e)) (hu : P.underlying u = some .string) (hs : sizeT P e = some size) (base : Option Addr) (x : ByteArray) (sLen sCap : Nat) (w : World) :
    (Builtin.append_ #[t, u] ty #[.slice base sLen sCap, .string x]).run P w =
      (appTail e size (false = true) (.slice base sLen sCap) base sLen sCap x.size (.string x) (Builtin.firstCells size x.size (.string x))).run P w := by
  simp only [Builtin.append_, List.getElem?_toArray, List.getElem?_cons_zero, List.getElem?_cons_succ, Sem.run_bind, run_underlying ht, run_underlying hu, Result.andThen_ok, run_sizeOf' hs, Sem.run_pure]
  rfl
theorem append_zeros_run {P : Program} {t u ty e : TypeId} {size : Nat} {k : IntKind} {i : TypeInfo} (ht : P.underlying t = some (.slice e)) (hu : P.underlying u = some (.int k)) (hs : sizeT P e = some size) (hi : P.info? e = some i) (base : Option Addr) (x : Int) (sLen sCap : Nat) (w : World)
    (h0 : 0 ≤ x) (h1 : x * i.bytes ≤ most) (h2 : x ≤ most) :
    (Builtin.append_ #[t, u] ty #[.slice base sLen sCap, .int .i64 x]).run P w =
      (appTail e size True (.slice base sLen sCap) base sLen sCap x.toNat (.int .i64 x)
        (if x.toNat * size = 0 then pure #[] else do pure (Builtin.zeroCells (← zeroValue e).cells x.toNat))).run P w := by
  have hw : IntKind.i64.wrap x = x := by
    unfold most at h2
    unfold IntKind.wrap
    simp [IntKind.bits, IntKind.signed]
    omega
  have hn : ¬ x < 0 := by omega
  have hb : ¬ (x * i.bytes > 2 ^ 48) := by unfold most at h1; omega
  have hti : (typeInfo e).run P w = .ok i w := by simp [typeInfo, hi]
  simp only [Builtin.append_, List.getElem?_toArray, List.getElem?_cons_zero, List.getElem?_cons_succ, Sem.run_bind, run_underlying ht, run_underlying hu, Result.andThen_ok, run_sizeOf' hs, Sem.run_pure, asInt, asIntOf]
  rw [if_pos trivial]
  simp only [Sem.run_bind, Sem.run_pure, Result.andThen_ok, hw]
  rw [if_neg hn]
  simp only [Sem.run_bind, Result.andThen_ok, hti]
  rw [if_neg hb]
  simp only [Sem.run_bind, Sem.run_pure, Result.andThen_ok]
  rfl

/-- What a slice's cells hold. -/
theorem src_ok (h : HR ρ st.heap w) {esz : Nat} {x : Option Sl} {xs : List Cell} {xv : Value} (hx : CR ρ (.slice x) xv) (hc : st.heap.cellsOf esz x = some xs) :
    ∃ base n cap news, xv = .slice base n cap ∧ LR ρ xs news ∧ xs.length = n * esz ∧ (slen x).toNat = n ∧ ∀ P (w' : World), w'.heap = w.heap → (Builtin.firstCells esz n xv).run P w' = .ok news.toArray w' := by
  cases hx with
  | nilSlice =>
    simp [Heap.cellsOf] at hc
    subst hc
    exact ⟨none, 0, 0, [], rfl, .nil, by simp, rfl, fun P w' _ => run_firstCells_none (w := w') esz 0 0 0⟩
  | slice hr hcap hl ha hm =>
    rename_i s b o m cap ad
    simp only [Heap.cellsOf] at hc
    split at hc
    · rename_i hes
      by_cases h0 : s.len = 0
      · rw [if_pos h0] at hc
        simp at hc
        subst hc
        refine ⟨some ad, s.len, cap, [], rfl, .nil, by simp [h0], by simp [slen], fun P w' hw' => ?_⟩
        rw [h0]
        simp [Builtin.firstCells, loadCells, loadCellsFrom]
      · rw [if_neg h0] at hc
        have hr := hr.resolve_right (by omega)
        obtain ⟨h1, vs, h2, h3⟩ := h.getN hc hr
        refine ⟨some ad, s.len, cap, vs, rfl, h2, h1, by simp [slen], fun P w' hw' => ?_⟩
        have had : ad = ⟨b, o + s.off, none⟩ := by
          rcases ha with ha | ha
          · exact ha
          · omega
        subst had
        refine run_firstCells_some (P := P) w' esz s.len _ s.len cap _ (by rw [← h2.length, h1]) fun j v hj => ?_
        rw [addr_add]
        have := h3 j v hj
        simpa [World.cell?, hw'] using this
    · cases hc

theorem take_extract (s : ByteArray) : ((s.extract 0 s.size).data.map fun b => Value.int .u8 b.toNat).toList = s.data.toList.map fun b => Value.int .u8 b.toNat := by
  simp
theorem bytesCells_rel (ρ : Rho) (l : List UInt8) : LR ρ (l.map fun b => Cell.int .u8 b.toNat) (l.map fun b => Value.int .u8 b.toNat) := by
  induction l with
  | nil => exact .nil
  | cons b l ih => exact .cons (.int _ _) ih

/-- The facts on an element's type that an append leans on. -/
theorem elem_facts {P : Program} {e : TypeId} {n by' : Nat} {z : List Cell} (hn : sizeT P e = some n) (hb : bytesT P e = some by') (hz : zeroT P e = some z) (hl : z.length = n) :
    ∃ i zv, P.info? e = some i ∧ i.size = n ∧ i.bytes = by' ∧ i.zero = some zv ∧ zv.cells.size = n := by
  obtain ⟨i, hi, hs⟩ := sizeT_info hn
  have hby : i.bytes = by' := by simpa [bytesT, hi] using hb
  unfold zeroT at hz
  rw [hi] at hz
  simp only [Option.bind_some, Option.bind_eq_some_iff] at hz
  obtain ⟨zv, h1, h2⟩ := hz
  have := (constCells_rel (ρ := fun _ => none) h2).length
  exact ⟨i, zv, hi, hs, hby, h1, by rw [← hl, this, Array.length_toList]⟩

theorem toBytes_rel : ∀ {cs : List Cell} {l : List UInt8} {vs : List Value}, toBytes cs = some l → LR ρ cs vs → ∃ ns : List Int, vs = ns.map (Value.int .u8) ∧ ns.map (fun n => UInt8.ofNat n.toNat) = l
  | [], l, vs, h, hl => by
    simp [toBytes] at h
    subst h
    cases hl
    exact ⟨[], rfl, rfl⟩
  | c :: cs, l, vs, h, hl => by
    cases c with
    | int k n =>
      cases k with
      | u8 =>
        simp only [toBytes, Option.map_eq_some_iff] at h
        obtain ⟨l', h1, h2⟩ := h
        cases hl with
        | cons hc ht =>
          cases hc
          obtain ⟨ns, h3, h4⟩ := toBytes_rel h1 ht
          exact ⟨n :: ns, by simp [h3], by simp [h4, h2]⟩
      | _ => simp [toBytes] at h
    | _ => simp [toBytes] at h
theorem foldl_push (ns : List Int) : ∀ b : ByteArray, ns.foldl (fun r n => r.push (UInt8.ofNat n.toNat)) b = ⟨b.data ++ (ns.map fun n => UInt8.ofNat n.toNat).toArray⟩ := by
  induction ns with
  | nil => intro b; simp
  | cons n ns ih =>
    intro b
    rw [List.foldl_cons, ih]
    congr 1
    apply Array.ext'
    simp [ByteArray.push]
theorem str_ok (h : HR ρ st.heap w) {s : Option Sl} {b : ByteArray} {v : Value} (hs : CR ρ (.slice s) v) (hb : st.heap.str s = some b) : (Conv.bytesToString v).run C.P w = .ok (.string b) w := by
  cases hs with
  | nilSlice => simp [Heap.str] at hb; subst hb; rfl
  | slice hr hcap hl ha hm =>
    rename_i s b' o m cap ad
    simp only [Heap.str] at hb
    split at hb
    · by_cases h0 : s.len = 0
      · rw [if_pos h0] at hb
        simp at hb
        subst hb
        rw [h0]
        simp [Conv.bytesToString, loadCells, loadCellsFrom]
      rw [if_neg h0] at hb
      have hr := hr.resolve_right (by omega)
      simp only [Option.bind_eq_some_iff, Option.map_eq_some_iff] at hb
      obtain ⟨cs, hcs, l, hl', hbl⟩ := hb
      obtain ⟨h1, vs, h2, h3⟩ := h.getN hcs hr
      obtain ⟨ns, h4, h5⟩ := toBytes_rel hl' h2
      have hld : (loadCells ad s.len).run C.P w = .ok (ns.map (Value.int .u8)).toArray w := by
        by_cases h0 : s.len = 0
        · have : vs = [] := List.eq_nil_of_length_eq_zero (by rw [← h2.length, h1, h0])
          rw [← h4, h0, this]
          simp [loadCells, loadCellsFrom]
        · have had : ad = ⟨b', o + s.off, none⟩ := by
            rcases ha with ha | ha
            · exact ha
            · omega
          subst had
          have := run_loadCells_list (P := C.P) w ⟨b', o + s.off, none⟩ vs fun j v hj => by rw [addr_add]; exact h3 j v hj
          rw [← h4, ← this, ← h2.length, h1]
      rw [run_bytesToString w ad s.len cap ns hld, foldl_push, h5, ← hbl]
      simp
    · cases hb

theorem stringToBytes_run (P : Program) (e : TypeId) (s : ByteArray) (w : World) : ∃ cap c fz, s.size ≤ cap ∧ (Conv.stringToBytes e s).run P w = .ok (.slice (some ⟨w.heap.size, 0, none⟩) s.size cap) (w.drew.alloc (.cells c e fz)) ∧
    c.size = cap ∧ unfrozen fz c.size ∧ ∀ j : Nat, j < s.size → c[j]? = some (.int .u8 (s.data.toList[j]?.getD 0).toNat) := by
  have hge : s.size ≤ grownCap w s.size 0 e := grownCap_ge w s.size 0 e
  generalize hgc : grownCap w s.size 0 e = cap at hge
  have hds : s.size = s.data.size := rfl
  refine ⟨cap, (s.data.map fun b => Value.int .u8 b.toNat) ++ Array.replicate (cap - s.size) (.int .u8 0), (cap, cap + 1), hge, ?_, ?_, ?_, fun j hj => ?_⟩
  · have hsz : ((s.data.map fun b => Value.int .u8 b.toNat) ++ Array.replicate (cap - s.size) (Value.int .u8 0)).size = cap := by simp; omega
    have hgc' : (Question.appendCap s.size 0 e).cut (w.tape w.drawn (.appendCap s.size 0 e)) = cap := hgc
    simp only [Conv.stringToBytes, Sem.run_bind, run_choose, Question.forced, Bool.false_eq_true, if_false, hgc', Result.andThen_ok, run_newRow, markStringish, run_shape]
    have hsh : (World.alloc { w with drawn := w.drawn + 1 } (.cells ((s.data.map fun b => Value.int .u8 b.toNat) ++ Array.replicate (cap - s.size) (Value.int .u8 0)) e)).shape? w.heap.size = some (e, cap) := by
      simp [World.shape?, World.alloc, hsz]
    simp only [hsh, run_freeze, Result.andThen_ok, Sem.run_pure]
    congr 1
    show World.freeze _ _ 1 = _
    simp only [World.freeze]
    rw [if_neg (by omega)]
    simp only [World.alloc, World.drew]
    congr 1
    apply Array.ext
    · simp
    · intro i h1 h2
      simp [Array.getElem_modify]
      by_cases hi : w.heap.size = i
      · subst hi; simp
      · have hlt : i < w.heap.size := by simp at h2; omega
        simp [hi, Array.getElem_push, hlt]
  · simp; omega
  · right; simp; omega
  · rw [Array.getElem?_append_left (by simp; omega)]
    simp
    exact ⟨s.data[j]'(by omega), by simp [Array.getElem?_eq_getElem (show j < s.data.size by omega)], by simp [Array.getElem?_eq_getElem (show j < s.data.size by omega)]⟩

end
end Go.Proofs.YtnipccoenalnkaaGreat.Ab
