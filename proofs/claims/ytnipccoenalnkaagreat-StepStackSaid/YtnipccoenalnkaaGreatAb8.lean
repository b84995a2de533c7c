/- The abstract machine, 8: append. -/
import Derived.Test.YtnipccoenalnkaaGreatAb7
import Derived.Laws.Append
namespace Go.Proofs.YtnipccoenalnkaaGreat.Ab
open Go
set_option linter.unusedVariables false
set_option linter.unusedSimpArgs false

section
variable {R : Type} {C : Ctx} {o : Oper} {st : St} {K : St → Option R} {r : R} {ρ : Rho} {L : Nat → Option Nat} {a : Act} {w : World} {next : Act → World → Prop} {Q : Exit → Act → World → Prop}

theorem set_dead {H : Heap} {id j : Nat} {blk : Blk} (h : (H.set id .dead)[j]? = some blk) (hb : blk ≠ .dead) : j ≠ id ∧ H[j]? = some blk := by
  by_cases hj : j = id
  · subst hj
    rcases Nat.lt_or_ge j H.length with h1 | h1
    · rw [List.getElem?_set_self h1] at h; simp at h; exact absurd h.symm hb
    · rw [List.getElem?_eq_none (by simpa using h1)] at h; cases h
  · rw [List.getElem?_set_ne (Ne.symm hj)] at h
    exact ⟨hj, h⟩
theorem own_dead {H : Heap} {id j : Nat} (h : OwnAt (H.set id .dead) j) : j ≠ id ∧ OwnAt H j := by
  rcases h with ⟨cs, h⟩ | ⟨es, c, h⟩
  · obtain ⟨h1, h2⟩ := set_dead h (by simp)
    exact ⟨h1, .inl ⟨cs, h2⟩⟩
  · obtain ⟨h1, h2⟩ := set_dead h (by simp)
    exact ⟨h1, .inr ⟨es, c, h2⟩⟩
theorem ro_dead {H : Heap} {id j : Nat} (h : RoAt (H.set id .dead) j) : j ≠ id ∧ RoAt H j := by
  obtain ⟨cs, h⟩ := h
  obtain ⟨h1, h2⟩ := set_dead h (by simp)
  exact ⟨h1, cs, h2⟩
theorem HR.kill {H : Heap} (h : HR ρ H w) (id : Nat) : HR ρ (H.set id .dead) w where
  row j cs ro hj := h.row j cs ro (set_dead hj (by simp)).2
  mapR j es c hj := h.mapR j es c (set_dead hj (by simp)).2
  inj i j b o m o' m' hi hj := h.inj i j b o m o' m' (own_dead hi).2 (own_dead hj).2
  sep i j b o m b' o' m' hi hj := h.sep i j b o m b' o' m' (own_dead hi).2 (ro_dead hj).2
  fresh j hj := h.fresh j (by simpa using hj)
  inw := h.inw
  hole j hj := h.hole j (set_dead hj (by simp)).2

/-- A row more, in a block that no live row has. -/
theorem HR.add {H : Heap} (h : HR ρ H w) {cs : List Cell} {b off : Nat} {c : Array Value} {e : TypeId} {fz : Nat × Nat} (hb : w.heap[b]? = some (.cells c e fz))
    (hc : ∀ (j : Nat) (x : Cell), cs[j]? = some x → ∃ v, c[off + j]? = some v ∧ CR ρ x v) (hf : unfrozen fz c.size)
    (hs : ∀ i b' o' m', (OwnAt H i ∨ RoAt H i) → ρ i = some (b', o', m') → b' ≠ b) :
    HR (ρ.put H.length (b, off, some c.size)) (H ++ [.row cs false]) w := by
  have hnew : ρ H.length = none := h.fresh _ (Nat.le_refl _)
  have hle := Rho.le_put (x := (b, off, some c.size)) hnew
  have hbl : b < w.heap.size := (Array.getElem?_eq_some_iff.1 hb).1
  have old : ∀ id blk, (H ++ [.row cs false])[id]? = some blk → id ≠ H.length → H[id]? = some blk := by
    intro id blk hi hne
    rcases Nat.lt_or_ge id H.length with h1 | h1
    · rwa [List.getElem?_append_left h1] at hi
    · rw [List.getElem?_append_right h1] at hi
      have : id - H.length = (id - H.length - 1) + 1 := by omega
      rw [this] at hi; simp at hi
  have new : (H ++ [Blk.row cs false])[H.length]? = some (.row cs false) := by simp
  have own : ∀ i, OwnAt (H ++ [.row cs false]) i → i ≠ H.length → OwnAt H i := by
    intro i hi hne
    rcases hi with ⟨cs', h1⟩ | ⟨es, c', h1⟩
    · exact .inl ⟨cs', old i _ h1 hne⟩
    · exact .inr ⟨es, c', old i _ h1 hne⟩
  refine ⟨fun id cs' ro hi => ?_, fun id es cl hi => ?_, fun i j b1 o m o' m' hi hj h1 h2 => ?_, fun i j b1 o m b' o' m' hi hj h1 h2 => ?_, fun id hi => ?_, fun id b1 o m hi => ?_, fun id hi => ?_⟩
  · by_cases hid : id = H.length
    · subst hid
      rw [new] at hi
      simp at hi
      obtain ⟨rfl, rfl⟩ := hi
      exact ⟨_, off, _, c, e, fz, put_self, hb, fun j x hj => by
        obtain ⟨v, h1, h2⟩ := hc j x hj
        exact ⟨v, h1, h2.mono hle⟩, fun _ => ⟨rfl, hf⟩⟩
    · obtain ⟨b1, o, m, c', e', fz', h1, h2, h3, h4⟩ := h.row id cs' ro (old id _ hi hid)
      exact ⟨b1, o, m, c', e', fz', hle _ _ h1, h2, fun j x hj => by
        obtain ⟨v, h5, h6⟩ := h3 j x hj
        exact ⟨v, h5, h6.mono hle⟩, h4⟩
  · have hid : id ≠ H.length := by rintro rfl; rw [new] at hi; simp at hi
    obtain ⟨b1, es', h1, h2, h3⟩ := h.mapR id es cl (old id _ hi hid)
    exact ⟨b1, es', hle _ _ h1, h2, h3.mono hle⟩
  · by_cases hi' : i = H.length <;> by_cases hj' : j = H.length
    · omega
    · subst hi'
      rw [put_self] at h1
      rw [put_ne hj'] at h2
      simp at h1
      exact absurd h1.1.symm (hs j _ _ _ (.inl (own j hj hj')) h2)
    · subst hj'
      rw [put_self] at h2
      rw [put_ne hi'] at h1
      simp at h2
      exact absurd h2.1.symm (hs i _ _ _ (.inl (own i hi hi')) h1)
    · rw [put_ne hi'] at h1
      rw [put_ne hj'] at h2
      exact h.inj i j b1 o m o' m' (own i hi hi') (own j hj hj') h1 h2
  · obtain ⟨ds, hj⟩ := hj
    have hj' : j ≠ H.length := by rintro rfl; rw [new] at hj; simp at hj
    rw [put_ne hj'] at h2
    by_cases hi' : i = H.length
    · subst hi'
      rw [put_self] at h1
      simp at h1
      have := hs j _ _ _ (.inr ⟨ds, old j _ hj hj'⟩) h2
      intro he
      exact this (by rw [← he]; exact h1.1.symm)
    · rw [put_ne hi'] at h1
      exact h.sep i j b1 o m b' o' m' (own i hi hi') ⟨ds, old j _ hj hj'⟩ h1 h2
  · simp at hi
    rw [put_ne (by omega)]
    exact h.fresh id (by omega)
  · by_cases hid : id = H.length
    · subst hid
      rw [put_self] at hi
      simp at hi
      omega
    · rw [put_ne hid] at hi
      exact h.inw _ _ _ _ hi
  · have hid : id ≠ H.length := by rintro rfl; rw [new] at hi; simp at hi
    rw [put_ne hid]
    exact h.hole id (old id _ hi hid)

/-- The end of append: what is appended is known. -/
def appTail (elem : TypeId) (size : Nat) (zeros : Prop) [Decidable zeros] (s : Value) (base : Option Addr) (sLen sCap n : Nat) (x : Value) (appended : Sem (Array Value)) : Sem Value := do
  let need := sLen + n
  if need ≤ sCap then
    let new ← appended
    if let some a := base then storeCells (a.add (sLen * size)) new.toList
    pure (.slice base need sCap)
  else
    if (need : Int) > IntKind.i64.max ∧ (zeros ∨ (← typeInfo elem).bytes = 0) then runtimePanic (.error "growslice: len out of range")
    if Builtin.nextslicecap need sCap * (← typeInfo elem).bytes > 2 ^ 48 then (if zeros then runtimePanic (.error "growslice: len out of range") else do
      if !(← Builtin.mayShare size sLen n base x) then mark .noRoom
      unsupported (.resourceLimit "append: a slice or a string whose bytes no memory bears"))
    let newCap ← choose (.appendCap need sCap elem)
    askRoom (newCap * (← typeInfo elem).bytes)
    let old ← Builtin.firstCells size sLen s
    let new ← appended
    let rest := Builtin.zeroCells (← zeroValue elem).cells (newCap - need)
    pure (.slice (some (← newRow elem (old ++ new ++ rest))) need newCap)

theorem tail_room {P : Program} {e : TypeId} {size : Nat} {zeros : Prop} [Decidable zeros] {s x : Value} {base : Option Addr} {sLen sCap n : Nat} {app : Sem (Array Value)} {news : List Value} {w w' : World}
    (ha : app.run P w = .ok news.toArray w) (hn : sLen + n ≤ sCap) (hst : ∀ b, base = some b → (storeCells (b.add (sLen * size)) news).run P w = .ok () w') (hno : base = none → w' = w) :
    (appTail e size zeros s base sLen sCap n x app).run P w = .ok (.slice base (sLen + n) sCap) w' := by
  simp only [appTail]
  rw [if_pos hn]
  cases base with
  | none => rw [hno rfl]; simp [ha]
  | some b => simp [ha, hst b rfl]
theorem tail_grow {P : Program} {e : TypeId} {i : TypeInfo} {z : Value} {size : Nat} {zeros : Prop} [Decidable zeros] {s x : Value} {base : Option Addr} {sLen sCap n : Nat} {app : Sem (Array Value)} {news olds : List Value} {w : World}
    (hi : P.info? e = some i) (hz : i.zero = some z)
    (ha : app.run P w.drew = .ok news.toArray w.drew) (ho : (Builtin.firstCells size sLen s).run P w.drew = .ok olds.toArray w.drew) (hn : sCap < sLen + n) (hm : (sLen + n) * i.bytes ≤ 140737488355328) (h63 : sLen + n ≤ 9223372036854775807) :
    (appTail e size zeros s base sLen sCap n x app).run P w =
      .ok (.slice (some ⟨w.heap.size, 0, none⟩) (sLen + n) (grownCap w (sLen + n) sCap e))
        (w.drew.alloc (.cells (olds.toArray ++ news.toArray ++ Builtin.zeroCells z.cells (grownCap w (sLen + n) sCap e - (sLen + n))) e)) := by
  have hn' : ¬ (sLen + n ≤ sCap) := by omega
  have h63' : ¬ (9223372036854775807 < ((sLen : Int) + (n : Int))) := by omega
  have h48' : ¬ (281474976710656 < Builtin.nextslicecap (sLen + n) sCap * i.bytes) := by have := growslice_fits hn hm; omega
  simp [appTail, typeInfo, zeroValue, hi, hz, hn', h63', h48', Question.forced, ha, ho, newRow, grownCap]
  congr 2
  apply Array.ext'
  simp [List.append_assoc]

theorem grownCap_ge (w : World) (need old : Nat) (e : TypeId) : need ≤ grownCap w need old e := by
  simp only [grownCap, Question.cut]
  omega

theorem zeroCells_length (z : Array Value) (n : Nat) : (Builtin.zeroCells z n).size = n * z.size := by simp [Builtin.zeroCells]

/-- What append does to the abstract heap is what it does to memory. -/
theorem app_ok (h : SR C.nt ρ L st a w) {e : TypeId} {i : TypeInfo} {z : Value} {esz bytes n : Nat} {s s' : Option Sl} {xs : List Cell} {news : List Value} {H' : Heap} {sv x : Value} {app : Sem (Array Value)} {zeros : Prop} [Decidable zeros]
    (hi : C.P.info? e = some i) (_hsz : i.size = esz) (hby : i.bytes = bytes) (hz : i.zero = some z) (hzs : z.cells.size = esz) (hpos : 0 < bytes)
    (hA : st.heap.app esz bytes s n xs = some (s', H')) (hs : CR ρ (.slice s) sv) (hx : LR ρ xs news) (hxl : xs.length = n * esz)
    (ha : ∀ w' : World, w'.heap = w.heap → app.run C.P w' = .ok news.toArray w') :
    ∃ base sLen sCap v' w' ρ', sv = .slice base sLen sCap ∧ (appTail e esz zeros sv base sLen sCap n x app).run C.P w = .ok v' w' ∧
      SR C.nt ρ' L (st.withHeap H') a w' ∧ Fr ρ ρ' w w' (Ch ρ L st) (Ch ρ' L (st.withHeap H')) ∧ CR ρ' (.slice s') v' := by
  have hnl := hx.length
  have fits : ∀ k, k * bytes ≤ most → k * i.bytes ≤ 140737488355328 ∧ k ≤ 9223372036854775807 := by
    intro k hk
    unfold most at hk
    rw [hby]
    have : k ≤ k * bytes := Nat.le_mul_of_pos_right k hpos
    exact ⟨by omega, by omega⟩
  unfold Heap.app at hA
  split at hA
  · -- nothing is appended
    rename_i hn0
    simp at hA
    obtain ⟨rfl, rfl⟩ := hA
    subst hn0
    have hnews : news = [] := List.eq_nil_of_length_eq_zero (by omega)
    subst hnews
    cases hs with
    | nilSlice =>
      refine ⟨none, 0, 0, _, w, ρ, rfl, tail_room (w' := w) (ha w rfl) (by omega) (by simp) (fun _ => rfl), h, Fr.refl _ _ _, .nilSlice⟩
    | slice hr hc hl haa hm =>
      refine ⟨_, _, _, _, w, ρ, rfl, tail_room (w' := w) (ha w rfl) (by omega) (fun b _ => rfl) (fun _ => rfl), h, Fr.refl _ _ _, ?_⟩
      exact .slice hr hc hl haa hm
  rename_i hn0
  split at hA
  · -- behind nothing
    split at hA
    · rename_i hmost
      simp at hA
      obtain ⟨rfl, rfl⟩ := hA
      cases hs
      have hg := tail_grow (zeros := zeros) (size := esz) (s := .slice none 0 0) (x := x) (base := none) (sLen := 0) (sCap := 0) (n := n) (olds := []) hi hz (ha w.drew rfl) (run_firstCells_none (w := w.drew) esz 0 0 0) (by omega) (by have := (fits n hmost).1; simpa using this) (by have := (fits n hmost).2; omega)
      have hcap := grownCap_ge w (0 + n) 0 e
      simp only [Nat.zero_add] at hg hcap
      generalize hgc : grownCap w n 0 e = gc at *
      have hsize : (([] : List Value).toArray ++ news.toArray ++ Builtin.zeroCells z.cells (gc - n)).size = gc * esz := by
        simp [zeroCells_length, hzs, ← hnl, hxl, ← Nat.add_mul]
        congr 1
        omega
      have hp := (h.drew).heap.push (cs := xs) (c := ([] : List Value).toArray ++ news.toArray ++ Builtin.zeroCells z.cells (gc - n)) (e := e) (fz := (0, 0)) (fun j y hj => by
        obtain ⟨v, h1, h2⟩ := hx.get hj
        refine ⟨v, ?_, h2⟩
        have hlt : j < news.length := (List.getElem?_eq_some_iff.1 h1).1
        rw [Array.getElem?_append_left (by simpa using hlt)]
        simpa using h1) (unfrozen_zero _)
      obtain ⟨h1, h2⟩ := (h.drew).push (blk := .row xs false) rfl hp
      refine ⟨none, 0, 0, _, _, _, rfl, by simpa using hg, h1, (Fr.drew _ _ _).trans h2, ?_⟩
      refine .slice (s := ⟨st.heap.length, 0, n, n, esz⟩) (.inl put_self) hcap (Nat.le_refl _) (.inl rfl) (.inr fun m' hm' => ?_)
      simp only [Option.some.injEq] at hm'
      rw [← hm', hsize]
      simp
    · cases hA
  · rename_i sl
    cases hs with
    | slice hr hc hl haa hm =>
    rename_i b o m cap ad
    split at hA
    · cases hA
    rename_i hesz
    simp only [ne_eq, Decidable.not_not] at hesz
    split at hA
    · -- in its place, as far as is known
      rename_i hle
      simp only [Option.map_eq_some_iff, Prod.mk.injEq] at hA
      obtain ⟨H1, hput, rfl, rfl⟩ := hA
      have hr := hr.resolve_right (by omega)
      obtain ⟨_, _, _, _, c, e', fz, h1, h2, h3⟩ := h.heap.put hput hr hx
      obtain ⟨h4, h5⟩ := h.putHeap hput hr hx
      have had : ad = ⟨b, o + sl.off, none⟩ := by
        rcases haa with haa | haa
        · exact haa
        · omega
      subst had
      refine ⟨_, _, _, _, _, ρ, rfl, tail_room (ha w rfl) (by omega) (fun b' hb' => ?_) (fun hb' => by cases hb'), h4, h5, ?_⟩
      · cases hb'
        rw [addr_add]
        rcases h3 with h3 | h3
        · have : news = [] := List.eq_nil_of_length_eq_zero h3
          subst this
          rfl
        · have := run_storeCells_cells (P := C.P) b (o + sl.off + sl.len * esz) news 0 w (fun j hj => by
              rw [cell_of_block h1]
              have : o + sl.off + sl.len * esz + j < c.size := by omega
              simp [this]) (fun j hj => frozen_of_block h1 h2 (by omega)) hx.one
          simpa [Nat.add_assoc] using this
      · exact .slice (s := { sl with len := sl.len + n }) (.inl hr) hc hle (.inl rfl) hm
    rename_i hle
    split at hA
    case isFalse => cases hA
    rename_i hmost
    split at hA
    case h_2 => cases hA
    rename_i cs hH
    split at hA
    case isFalse => cases hA
    rename_i hin
    simp at hA
    obtain ⟨rfl, rfl⟩ := hA
    obtain ⟨b', o', m', c, e', fz, h1, h2, h3, h4⟩ := h.heap.row _ cs _ hH
    have key : (ad = ⟨b', o' + sl.off, none⟩ ∨ cap = 0) ∧ (cap = sl.cap ∨ ∀ m2, m' = some m2 → o' + sl.off + cap * sl.esz ≤ m2) := by
      rcases hr with hr | hr
      · rw [hr] at h1; cases h1; exact ⟨haa, hm⟩
      · exact ⟨.inr hr, .inl (by omega)⟩
    clear hr haa hm
    obtain ⟨haa, hm⟩ := key
    have hr := h1
    clear h1 b o m
    obtain ⟨b, hbb⟩ : ∃ b, b = b' := ⟨_, rfl⟩
    obtain ⟨o, hoo⟩ : ∃ o, o = o' := ⟨_, rfl⟩
    obtain ⟨m, hmm0⟩ : ∃ m, m = m' := ⟨_, rfl⟩
    subst hbb hoo hmm0
    obtain ⟨hm', hfz⟩ := h4 rfl
    have olds : LR ρ ((cs.drop sl.off).take (sl.len * esz)) ((c.toList.drop (o + sl.off)).take (sl.len * esz)) := by
      refine LR.of_get ?_ fun j y hj => ?_
      · by_cases h0 : sl.len * esz = 0
        · simp [h0]
        · obtain ⟨v, hv, _⟩ := h3 (sl.off + (sl.len * esz - 1)) (cs[sl.off + (sl.len * esz - 1)]'(by omega)) (List.getElem?_eq_getElem (by omega))
          have := (Array.getElem?_eq_some_iff.1 hv).1
          simp
          omega
      · have hjn : j < sl.len * esz := by
          have := (List.getElem?_eq_some_iff.1 hj).1
          simp at this
          omega
        rw [List.getElem?_take_of_lt hjn, List.getElem?_drop] at hj ⊢
        obtain ⟨v, hv, hcr⟩ := h3 _ y hj
        exact ⟨v, by simpa [Nat.add_assoc] using hv, hcr⟩
    by_cases hroom : sl.len + n ≤ cap
    · -- memory has room: in its place
      have hcap : cap ≠ sl.cap := by omega
      have had : ad = ⟨b, o + sl.off, none⟩ := by
        rcases haa with haa | haa
        · exact haa
        · omega
      subst had
      have hmm := (hm.resolve_left hcap) _ hm'
      rw [hesz] at hmm
      have hmul : (sl.len + n) * esz ≤ cap * esz := Nat.mul_le_mul_right _ hroom
      rw [Nat.add_mul] at hmul
      have hbound : o + sl.off + sl.len * esz + news.length ≤ c.size := by omega
      obtain ⟨c', h5, h6, h7⟩ := setCells_at b news (o + sl.off + sl.len * esz) w c h2 hbound
      have hos := setCells_os b news (o + sl.off + sl.len * esz) w
      have hown : OwnAt st.heap sl.id := .inl ⟨cs, hH⟩
      have hk := h.heap.kill sl.id
      have live : ∀ i b1 o1 m1, (OwnAt (st.heap.set sl.id .dead) i ∨ RoAt (st.heap.set sl.id .dead) i) → ρ i = some (b1, o1, m1) → b1 ≠ b := by
        intro i b1 o1 m1 hi hri he
        subst he
        rcases hi with hi | hi
        · exact (own_dead hi).1 (h.heap.inj i sl.id _ _ _ _ _ (own_dead hi).2 hown hri hr)
        · exact h.heap.sep sl.id i _ _ _ _ _ _ hown (ro_dead hi).2 hr hri rfl
      have hk2 : HR ρ (st.heap.set sl.id .dead) (w.setCells b (o + sl.off + sl.len * esz) news) :=
        hk.congr (by rw [setCells_size]; exact Nat.le_refl _) fun i b1 o1 m1 hri hi => setCells_ne b _ _ _ (live i b1 o1 m1 hi hri)
      have hadd := hk2.add (cs := (cs.drop sl.off).take (sl.len * esz) ++ xs) (b := b) (off := o + sl.off) h5 (fun j y hj => by
        rw [h7]
        have hol : ((cs.drop sl.off).take (sl.len * esz)).length = sl.len * esz := by simp; omega
        by_cases hj1 : j < sl.len * esz
        · rw [List.getElem?_append_left (by omega)] at hj
          rw [if_pos (by omega)]
          obtain ⟨v, hv, hcr⟩ := olds.get hj
          rw [List.getElem?_take_of_lt hj1, List.getElem?_drop] at hv
          exact ⟨v, by simpa using hv, hcr⟩
        · rw [List.getElem?_append_right (by omega), hol] at hj
          have hlt : j - sl.len * esz < xs.length := (List.getElem?_eq_some_iff.1 hj).1
          rw [if_neg (by omega), if_pos (by omega)]
          obtain ⟨v, hv, hcr⟩ := hx.get hj
          exact ⟨v, by rw [← hv]; congr 1; omega, hcr⟩) (by rw [h6]; exact hfz) live
      rw [h6] at hadd
      simp only [List.length_set] at hadd
      have hnew : ρ st.heap.length = none := h.heap.fresh _ (Nat.le_refl _)
      have hle' := Rho.le_put (x := (b, o + sl.off, some c.size)) hnew
      refine ⟨_, _, _, _, _, ρ.put st.heap.length (b, o + sl.off, some c.size), rfl, tail_room (ha w rfl) hroom (fun b' hb' => ?_) (fun hb' => by cases hb'), ⟨fun t v hv => ?_, ?_, hadd, (h.defers.keep fun D hD => setCells_ne b _ _ _ fun e => by subst e; rw [h2] at hD; cases hD), h.size⟩, ?_, ?_⟩
      · cases hb'
        rw [addr_add]
        have := run_storeCells_cells (P := C.P) b (o + sl.off + sl.len * esz) news 0 w (fun j hj => by
            rw [cell_of_block h2]
            have : o + sl.off + sl.len * esz + j < c.size := by omega
            simp [this]) (fun j hj => frozen_of_block h2 hfz (by omega)) hx.one
        simpa using this
      · obtain ⟨u, h8, h9⟩ := h.env t v hv
        exact ⟨u, h8, h9.mono hle' fun _ _ _ _ h => h⟩
      · refine h.loc.congr hle' (fun k ds b1 hk hL => setCells_ne b _ _ _ fun he => ?_) fun k ds b1 hk hL id o1 m1 hid => ?_
        · subst he; exact h.loc.out k ds _ hk hL _ _ _ hr
        · by_cases hidl : id = st.heap.length
          · subst hidl
            rw [put_self] at hid
            simp at hid
            exact ⟨o, m, by rw [← hid.1]; exact absurd (hid.1 ▸ hr) (h.loc.out k ds b1 hk hL _ _ _)⟩
          · rw [put_ne hidl] at hid
            exact ⟨_, _, hid⟩
      · refine ⟨hle', by rw [setCells_size]; exact Nat.le_refl _, fun k hk hn => setCells_ne b _ _ _ fun he => hn (.inl ⟨sl.id, o, m, hown, he ▸ hr⟩), fun k hk => .inl ?_, fun id b1 o1 m1 hid => ?_, hos.1, hos.2.1, hos.2.2⟩
        · rcases hk with ⟨i', o1, m1, hi', hri⟩ | hk
          · by_cases hil : i' = st.heap.length
            · subst hil
              rw [put_self] at hri
              simp at hri
              exact .inl ⟨sl.id, o, m, hown, hri.1 ▸ hr⟩
            · rw [put_ne hil] at hri
              have hlt := h.heap.lt hri
              refine .inl ⟨i', o1, m1, (own_dead (id := sl.id) (H := st.heap) ?_).2, hri⟩
              unfold OwnAt at hi' ⊢
              simpa [St.withHeap, List.getElem?_append_left (show i' < (st.heap.set sl.id Blk.dead).length by simpa using hlt)] using hi'
          · exact .inr hk
        · by_cases hil : id = st.heap.length
          · subst hil
            rw [put_self] at hid
            simp at hid
            exact .inr (.inl (.inl ⟨sl.id, o, m, hown, hid.1 ▸ hr⟩))
          · rw [put_ne hil] at hid
            exact .inl hid
      · refine .slice (s := ⟨st.heap.length, 0, sl.len + n, sl.len + n, esz⟩) (o := o + sl.off) (m := some c.size) (.inl put_self) hroom (Nat.le_refl _) (.inl rfl) (.inr fun m2 hm2 => ?_)
        simp only [Option.some.injEq] at hm2
        subst hm2
        show o + sl.off + 0 + cap * esz ≤ c.size
        omega
    · -- a new block
      have hfit := fits _ hmost
      have hofc : (Builtin.firstCells esz sl.len (.slice (some ad) sl.len cap)).run C.P w.drew = .ok ((c.toList.drop (o + sl.off)).take (sl.len * esz)).toArray w.drew := by
        by_cases hc0 : cap = 0
        · have : sl.len = 0 := by omega
          rw [this]
          simp [Builtin.firstCells, loadCells, loadCellsFrom]
        · have had : ad = ⟨b, o + sl.off, none⟩ := by
            rcases haa with haa | haa
            · exact haa
            · omega
          subst had
          refine run_firstCells_some (P := C.P) w.drew esz sl.len _ sl.len cap _ ?_ fun j v hj => ?_
          · rw [← olds.length]; simp; omega
          · rw [addr_add]
            have hjn : j < sl.len * esz := by
              have := (List.getElem?_eq_some_iff.1 hj).1
              simp at this
              omega
            rw [List.getElem?_take_of_lt hjn, List.getElem?_drop] at hj
            rw [World.cell?_drew, cell_of_block h2]
            simpa using hj
      have hg := tail_grow (zeros := zeros) (size := esz) (s := .slice (some ad) sl.len cap) (x := x) (base := some ad) (sLen := sl.len) (sCap := cap) (n := n) hi hz (ha w.drew rfl) hofc (by omega) hfit.1 hfit.2
      have hcap := grownCap_ge w (sl.len + n) cap e
      generalize hgc : grownCap w (sl.len + n) cap e = gc at *
      have hol : ((c.toList.drop (o + sl.off)).take (sl.len * esz)).length = sl.len * esz := by rw [← olds.length]; simp; omega
      have hsize : (((c.toList.drop (o + sl.off)).take (sl.len * esz)).toArray ++ news.toArray ++ Builtin.zeroCells z.cells (gc - (sl.len + n))).size = gc * esz := by
        have : ((c.toList.drop (o + sl.off)).take (sl.len * esz)).toArray.size = sl.len * esz := by rw [List.size_toArray]; exact hol
        rw [Array.size_append, Array.size_append, this, zeroCells_length, hzs, List.size_toArray, ← hnl, hxl, ← Nat.add_mul, ← Nat.add_mul]
        congr 1
        omega
      have hkd := (h.drew).heap.kill sl.id
      have hp := hkd.push (cs := (cs.drop sl.off).take (sl.len * esz) ++ xs) (c := ((c.toList.drop (o + sl.off)).take (sl.len * esz)).toArray ++ news.toArray ++ Builtin.zeroCells z.cells (gc - (sl.len + n))) (e := e) (fz := (0, 0)) (fun j y hj => by
        obtain ⟨v, h5, h6⟩ := (olds.append hx).get hj
        refine ⟨v, ?_, h6⟩
        have hlt := (List.getElem?_eq_some_iff.1 h5).1
        rw [Array.getElem?_append_left (by simpa using hlt), Array.getElem?_toList.symm, Array.toList_append]
        simpa using h5) (unfrozen_zero _)
      rw [List.length_set] at hp
      have hsk : SR C.nt ρ L (st.withHeap (st.heap.set sl.id .dead)) a w.drew := ⟨h.drew.env, h.drew.loc, hkd, h.defers, h.size⟩
      obtain ⟨h5, h6⟩ := hsk.push (blk := .row ((cs.drop sl.off).take (sl.len * esz) ++ xs) false) (m := some (((c.toList.drop (o + sl.off)).take (sl.len * esz)).toArray ++ news.toArray ++ Builtin.zeroCells z.cells (gc - (sl.len + n))).size) (by simp only [St.withHeap, List.length_set]) hp
      refine ⟨_, _, _, _, _, _, rfl, hg, h5, ?_, ?_⟩
      · refine (Fr.drew ρ w (Ch ρ L st)).trans (h6.weaken (fun k hk => ?_) fun k hk => .inl hk)
        rcases hk with ⟨i', o1, m1, hi', hri⟩ | hk
        · exact .inl ⟨i', o1, m1, (own_dead hi').2, hri⟩
        · exact .inr hk
      · refine .slice (s := ⟨st.heap.length, 0, sl.len + n, sl.len + n, esz⟩) (o := 0) (.inl put_self) hcap (Nat.le_refl _) (.inl rfl) (.inr fun m2 hm2 => ?_)
        simp only [Option.some.injEq] at hm2
        rw [← hm2, hsize]
        simp

end
end Go.Proofs.YtnipccoenalnkaaGreat.Ab
