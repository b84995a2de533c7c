/- The abstract machine, 11: calls; every operation. -/
import Derived.Test.YtnipccoenalnkaaGreatAb10
namespace Go.Proofs.YtnipccoenalnkaaGreat.Ab
open Go
set_option linter.unusedVariables false
set_option linter.unusedSimpArgs false

section
variable {R : Type} {C : Ctx} {o : Oper} {st : St} {K : St → Option R} {r : R} {ρ : Rho} {L : Nat → Option Nat} {a : Act} {w : World} {next : Act → World → Prop} {Q : Exit → Act → World → Prop}

/-- A callee's meaning is borne out by the program. -/
def FnOk (P : Program) (g : Nat) (F : FnSem) : Prop :=
  ∀ (R : Type) (args : List TV) (H : Heap) (K : AV → Heap → Option R) (r : R), F R args H K = some r → ∀ (ρ : Rho) (w : World) (args' : Array Value), HR ρ H w → TLR ρ args args'.toList →
    ∀ (rd : Option Nat) (o : Oper) (a : Act) (next : Act → World → Prop) (Q : Exit → Act → World → Prop),
      (∀ x H' ρ' v w', K x H' = some r → HR ρ' H' w' → AR ρ' (fun _ => none) x v → Fr ρ ρ' w w' (Own ρ H) (Own ρ' H') → next (a.put o.dst v) w') →
      o.uponIn (Fen rd) 0 P a next Q ((callFunc g args').run P w)
def EnvOk (C : Ctx) : Prop := ∀ g F, fnOf C.fns g = some F → FnOk C.P g F

theorem AR.none {x : AV} {v : Value} (h : AR ρ (fun _ => none) x v) : AR ρ L x v := h.mono (Rho.le_refl _) fun _ _ _ _ h => by cases h

def isRow : Obj → Prop
  | .cells .. => True
  | .map .. => True
  | _ => False
theorem HR.own_obj {ρ : Rho} {H : Heap} {w : World} (h : HR ρ H w) {b : Nat} (hb : Own ρ H b) : ∃ o, w.heap[b]? = some o ∧ isRow o := by
  obtain ⟨i, o, m, (⟨cs, h1⟩ | ⟨es, cl, h1⟩), h2⟩ := hb
  · obtain ⟨b', o', m', c', e', fz', h5, h6, h7⟩ := h.row i cs false h1
    rw [h2] at h5; cases h5
    exact ⟨_, h6, trivial⟩
  · obtain ⟨b', es', h5, h6, h7⟩ := h.mapR i es cl h1
    rw [h2] at h5; cases h5
    exact ⟨_, h6, trivial⟩
theorem HR.not_own {ρ : Rho} {H : Heap} {w : World} (h : HR ρ H w) {b : Nat} (hb : ∀ o, w.heap[b]? = some o → ¬ isRow o) : ¬ Own ρ H b := fun ho => by
  obtain ⟨o, h1, h2⟩ := h.own_obj ho
  exact hb o h1 h2
/-- Behind a call the frame's state is as it was, but for the heap. -/
theorem SR.called {n : Nat} (h : SR n ρ L st a w) {ρ' : Rho} {H' : Heap} {w' : World} (hH : HR ρ' H' w') (hf : Fr ρ ρ' w w' (Own ρ st.heap) (Own ρ' H')) :
    SR n ρ' L (st.withHeap H') a w' ∧ Fr ρ ρ' w w' (Ch ρ L st) (Ch ρ' L (st.withHeap H')) := by
  have mine : ∀ k cs b, look st.loc k = some cs → L k = some b → ¬ Own ρ st.heap b := by
    rintro k cs b hk hL ⟨i, o, m, _, hi⟩
    exact h.loc.out k cs b hk hL i o m hi
  refine ⟨⟨fun t v hv => ?_, ?_, hH, h.defers.keep fun D hD => hf.same D (Array.getElem?_eq_some_iff.1 hD).1 (h.heap.not_own fun o ho hc => by rw [hD] at ho; cases ho; exact hc), h.size⟩, hf.weaken (fun b hb => .inl hb) fun b hb => ?_⟩
  · obtain ⟨u, h1, h2⟩ := h.env t v hv
    exact ⟨u, h1, h2.mono hf.ext fun _ _ _ _ h => h⟩
  · refine h.loc.congr hf.ext (fun k cs b hk hL => hf.same b (h.loc.lt hk hL) (mine k cs b hk hL)) fun k cs b hk hL id o m hi => ?_
    rcases hf.rng id b o m hi with h1 | h1 | h1
    · exact ⟨o, m, h1⟩
    · exact absurd h1 (mine k cs b hk hL)
    · have := h.loc.lt hk hL; omega
  · rcases hb with hb | hb
    · exact .inl hb
    · exact .inr (.inl (.inr hb))

theorem toList_map_arr (f : Operand → Value) (xs : Array Operand) : (xs.map f).toList = xs.toList.map f := by simp

theorem two_args {ts : Array TypeId} {x y : TypeId} (h : ts.toList = [x, y]) : ts = #[x, y] := by
  apply Array.ext'
  simpa using h
theorem one_arg {ts : Array TypeId} {x : TypeId} (h : ts.toList = [x]) : ts = #[x] := by
  apply Array.ext'
  simpa using h
theorem TLR.one {xs : List TV} {vs : Array Value} {x : TV} (h : TLR ρ xs vs.toList) (hx : xs = [x]) : ∃ v, vs = #[v] ∧ TR ρ x v := by
  subst hx
  generalize hl : vs.toList = l at h
  cases h with
  | cons a t =>
    cases t
    exact ⟨_, by apply Array.ext'; simpa using hl, a⟩
theorem TLR.two {xs : List TV} {vs : Array Value} {x y : TV} (h : TLR ρ xs vs.toList) (hx : xs = [x, y]) : ∃ v u, vs = #[v, u] ∧ TR ρ x v ∧ TR ρ y u := by
  subst hx
  generalize hl : vs.toList = l at h
  cases h with
  | cons a t =>
    cases t with
    | cons b t =>
      cases t
      exact ⟨_, _, by apply Array.ext'; simpa using hl, a, b⟩
theorem TLR.head {xs : List TV} {vs : Array Value} {x : TV} {r : List TV} (h : TLR ρ xs vs.toList) (hx : xs = x :: r) : ∃ v l, vs.toList = v :: l ∧ TR ρ x v ∧ TLR ρ r l := by
  subst hx
  generalize hl : vs.toList = l at h
  cases h with
  | cons a t => exact ⟨_, _, rfl, a, t⟩

/-- What a builtin answers, and what it leaves. -/
theorem builtin_ok (h : SR C.nt ρ L st a w) {b : Builtin} {ts : Array TypeId} {ty : TypeId} {consts : Array Bool} {vs : List TV} {args : Array Value} {K : AV → St → Option R} (hv : TLR ρ vs args.toList)
    (hK : builtinA C.P st b ts.toList vs K = some r) :
    ∃ x v st' w' ρ', K x st' = some r ∧ (builtin b ts ty consts args).run C.P w = .ok (.value v) w' ∧ SR C.nt ρ' L st' a w' ∧ Fr ρ ρ' w w' (Ch ρ L st) (Ch ρ' L st') ∧ AR ρ' L x v := by
  unfold builtinA at hK
  split at hK
  · -- len
    rename_i t v hts
    have := one_arg hts
    subst this
    obtain ⟨u, rfl, hu⟩ := hv.one rfl
    split at hK
    · rename_i hty
      simp only [Option.bind_eq_some_iff] at hK
      obtain ⟨c, hc, s, hs, hK⟩ := hK
      have := toStr_some hs; subst this
      have hcr := hu.cell_inv hc
      rw [hcr.str_inv]
      exact ⟨_, _, _, w, ρ, hK, by simp [builtin, Builtin.len_, run_underlying hty, goInt], h, Fr.refl _ _ _, .c (.int _ _)⟩
    · rename_i n e hty
      exact ⟨_, _, _, w, ρ, hK, by simp [builtin, Builtin.len_, run_underlying hty, goInt], h, Fr.refl _ _ _, .c (.int _ _)⟩
    · rename_i e hty
      simp only [Option.bind_eq_some_iff] at hK
      obtain ⟨c, hc, s, hs, hK⟩ := hK
      have := toSlice_some hs; subst this
      have hcr := hu.cell_inv hc
      cases hcr with
      | nilSlice => exact ⟨_, _, _, w, ρ, hK, by simp [builtin, Builtin.len_, run_underlying hty, goInt]; rfl, h, Fr.refl _ _ _, .c (.int _ _)⟩
      | slice => exact ⟨_, _, _, w, ρ, hK, by simp [builtin, Builtin.len_, run_underlying hty, goInt]; rfl, h, Fr.refl _ _ _, .c (.int _ _)⟩
    · rename_i k e hty
      simp only [Option.bind_eq_some_iff] at hK
      obtain ⟨c, hc, m, hm, n, hn, hK⟩ := hK
      have := toMap_some hm; subst this
      have hcr := hu.cell_inv hc
      cases hcr with
      | nilMap =>
        simp [Heap.mapLen] at hn
        subst hn
        exact ⟨_, _, _, w, ρ, hK, by simp [builtin, Builtin.len_, run_underlying hty, goInt], h, Fr.refl _ _ _, .c (.int _ _)⟩
      | map hi =>
        rename_i id b
        simp only [Heap.mapLen] at hn
        split at hn
        · rename_i es cl hH
          simp at hn
          subst hn
          obtain ⟨b', es', h1, h2, h3⟩ := h.heap.mapR _ _ _ hH
          rw [hi] at h1
          simp at h1
          subst h1
          have hg : (getObj b).run C.P w = .ok (.map es' cl) w := by simp [getObj, Sem.run, h2]
          have hl := h3.length
          simp at hl
          exact ⟨_, _, _, w, ρ, hK, by simp [builtin, Builtin.len_, run_underlying hty, hg, goInt, hl], h, Fr.refl _ _ _, .c (.int _ _)⟩
        · cases hn
    · cases hK
  · -- append
    rename_i t u v x hts
    have := two_args hts
    subst this
    obtain ⟨sv, xv, rfl, hsv, hxv⟩ := hv.two rfl
    split at hK
    case h_2 => cases hK
    rename_i e hty
    simp only [Option.bind_eq_some_iff] at hK
    obtain ⟨n, hn, by', hby, z, hz, hK⟩ := hK
    cases hzz : (z.length == n && Nat.blt 0 by') with
    | false => rw [hzz, cond_false] at hK; cases hK
    | true =>
    rw [hzz, cond_true] at hK
    simp only [Bool.and_eq_true, beq_iff_eq, Nat.blt_eq] at hzz
    simp only [Option.bind_eq_some_iff] at hK
    obtain ⟨c, hc, s, hs, d, hd, hK⟩ := hK
    have := toSlice_some hs; subst this
    have hsr := hsv.cell_inv hc
    have hxr := hxv.cell_inv hd
    obtain ⟨inf, zv, hi, hsz, hbz, hiz, hzs⟩ := elem_facts hn hby hz hzz.1
    split at hK
    · rename_i e2 hu
      simp only [Option.bind_eq_some_iff] at hK
      obtain ⟨xs, hxs, p, hp, hK⟩ := hK
      have := toSlice_some hxs; subst this
      simp only [Heap.append, Option.bind_eq_some_iff] at hp
      obtain ⟨cs, hcs, hp⟩ := hp
      obtain ⟨base, m, cap, news, hxe, hl, hlen, hsl, hrun⟩ := src_ok h.heap hxr hcs
      rw [hsl] at hp
      obtain ⟨p1, p2⟩ := p
      obtain ⟨bs, sl, sc, v', w', ρ', he, hrn, h1, h2, h3⟩ := app_ok (x := xv) (app := Builtin.firstCells n m xv) (zeros := false = true) h hi hsz hbz hiz hzs hzz.2 hp hsr hl hlen (fun w' hw' => hrun C.P w' hw')
      refine ⟨_, _, _, w', ρ', hK, ?_, h1, h2, .c h3⟩
      subst he
      rw [hxe] at hrn ⊢
      simp only [builtin, Sem.run_bind, append_slice_run hty hu hn, hrn, Result.andThen_ok, Sem.run_pure]
    · rename_i hu
      simp only [Option.bind_eq_some_iff] at hK
      obtain ⟨xs, hxs, hK⟩ := hK
      have := toStr_some hxs; subst this
      cases hn1 : (n == 1 && by' == 1) with
      | false => rw [hn1, cond_false] at hK; cases hK
      | true =>
      rw [hn1, cond_true] at hK
      simp only [Bool.and_eq_true, beq_iff_eq] at hn1
      obtain ⟨rfl, rfl⟩ := hn1
      simp only [Option.bind_eq_some_iff] at hK
      obtain ⟨p, hp, hK⟩ := hK
      have hxe := hxr.str_inv
      obtain ⟨p1, p2⟩ := p
      have hfc : ∀ w' : World, (Builtin.firstCells 1 xs.size (.string xs)).run C.P w' = .ok (xs.data.toList.map fun b => Value.int .u8 b.toNat).toArray w' := by
        intro w'
        simp only [Builtin.firstCells, Sem.run_pure]
        congr 1
        apply Array.ext'
        rw [take_extract]
      obtain ⟨bs, sl, sc, v', w', ρ', he, hrn, h1, h2, h3⟩ := app_ok (x := xv) (app := Builtin.firstCells 1 xs.size (.string xs)) (zeros := false = true) h hi hsz hbz hiz hzs hzz.2 hp hsr (bytesCells_rel ρ _) (by rw [bytesCells, List.length_map, Nat.mul_one]; rfl) (fun w' _ => hfc w')
      refine ⟨_, _, _, w', ρ', hK, ?_, h1, h2, .c h3⟩
      subst he
      rw [hxe] at hrn ⊢
      simp only [builtin, Sem.run_bind, append_string_run hty hu hn, hrn, Result.andThen_ok, Sem.run_pure]
    · rename_i hu
      simp only [Option.bind_eq_some_iff] at hK
      obtain ⟨m, hm, p, hp, hK⟩ := hK
      have := toInt_some hm; subst this
      have hxe := hxr.int_inv
      obtain ⟨p1, p2⟩ := p
      unfold Heap.appendZ at hp
      split at hp
      case isFalse => cases hp
      rename_i hb
      obtain ⟨zv2, hz1, hz2⟩ := run_zero' ρ hz w
      have hzv2 : ∀ w' : World, (zeroValue e).run C.P w' = .ok zv2 w' := by
        intro w'
        have h1 : zv2 = zv := by
          have h2 : (zeroValue e).run C.P w = .ok zv w := by simp [zeroValue, typeInfo, hi, hiz]
          rw [h2] at hz1
          cases hz1
          rfl
        subst h1
        simp [zeroValue, typeInfo, hi, hiz]
      have hzc : zv2.cells.size = n := by have := hz2.length; simp at this; omega
      have hnews : ∀ w' : World, (if m.toNat * n = 0 then pure #[] else do pure (Builtin.zeroCells (← zeroValue e).cells m.toNat) : Sem (Array Value)).run C.P w' = .ok (List.replicate m.toNat zv2.cells.toList).flatten.toArray w' := by
        intro w'
        by_cases h0 : m.toNat * n = 0
        · rw [if_pos h0]
          have : (List.replicate m.toNat zv2.cells.toList).flatten = [] := List.eq_nil_of_length_eq_zero (by simp [hzc, h0])
          rw [this]
          rfl
        · rw [if_neg h0]
          simp only [Sem.run_bind, hzv2, Result.andThen_ok, Sem.run_pure]
          congr 1
          apply Array.ext'
          have hz0 : 0 < zv2.cells.toList.length := by
            have : n ≠ 0 := by rintro rfl; simp at h0
            simp; omega
          have := replicate_mod zv2.cells.toList m.toNat hz0
          simpa [Builtin.zeroCells, hzc] using this
      obtain ⟨bs, sl, sc, v', w', ρ', he, hrn, h1, h2, h3⟩ := app_ok (x := xv) (app := if m.toNat * n = 0 then pure #[] else do pure (Builtin.zeroCells (← zeroValue e).cells m.toNat)) (zeros := True) h hi hsz hbz hiz hzs hzz.2 hp hsr (hz2.replicate m.toNat)
        (by simp [hzz.1]) (fun w' _ => hnews w')
      refine ⟨_, _, _, w', ρ', hK, ?_, h1, h2, .c h3⟩
      subst he
      rw [hxe] at hrn ⊢
      simp only [builtin, Sem.run_bind, append_zeros_run hty hu hn hi bs m sl sc w hb.1 (by rw [hbz]; exact hb.2.1) hb.2.2, hrn, Result.andThen_ok, Sem.run_pure]
    · cases hK
  · -- copy
    rename_i t u v x hts
    have := two_args hts
    subst this
    obtain ⟨sv, xv, rfl, hsv, hxv⟩ := hv.two rfl
    split at hK
    case h_2 => cases hK
    rename_i e e2 hty hu
    simp only [Option.bind_eq_some_iff] at hK
    obtain ⟨n, hn, c, hc, d, hd, c', hc', x', hx', p, hp, hK⟩ := hK
    have := toSlice_some hd; subst this
    have := toSlice_some hx'; subst this
    obtain ⟨k, H'⟩ := p
    obtain ⟨w', h1, h2, h3⟩ := copy_ok (u := u) h ty hty hn (hsv.cell_inv hc) (hxv.cell_inv hc') hp
    exact ⟨_, _, _, w', ρ, hK, by simp [builtin, h1], h2, h3, .c (.int _ _)⟩
  · -- clear
    rename_i t v hts
    have := one_arg hts
    subst this
    obtain ⟨sv, rfl, hsv⟩ := hv.one rfl
    split at hK
    case h_2 => cases hK
    rename_i e hty
    simp only [Option.bind_eq_some_iff] at hK
    obtain ⟨n, hn, z, hz, hK⟩ := hK
    cases hb : (z.length == n && Nat.blt 0 n) with
    | false => rw [hb, cond_false] at hK; cases hK
    | true =>
    rw [hb, cond_true] at hK
    simp only [Bool.and_eq_true, beq_iff_eq, Nat.blt_eq] at hb
    simp only [Option.bind_eq_some_iff] at hK
    obtain ⟨c, hc, s, hs, H', hcl, hK⟩ := hK
    have := toSlice_some hs; subst this
    obtain ⟨w', h1, h2, h3⟩ := clear_ok h ty hty hz hb.1 hb.2 (hsv.cell_inv hc) hcl
    exact ⟨_, _, _, w', ρ, hK, by simp [builtin, h1], h2, h3, .tup .nil⟩
  · -- cap
    rename_i t v hts
    have := one_arg hts
    subst this
    obtain ⟨sv, rfl, hsv⟩ := hv.one rfl
    split at hK
    case h_2 => cases hK
    rename_i e hty
    simp only [Option.bind_eq_some_iff] at hK
    obtain ⟨c, hc, s, hs, n, hn, hK⟩ := hK
    have := toSlice_some hs; subst this
    cases s with
    | some s => cases hn
    | none =>
      cases hn
      have hsr := hsv.cell_inv hc
      cases hsr
      exact ⟨_, _, _, w, ρ, hK, by simp [builtin, Builtin.cap_, run_underlying hty, goInt], h, Fr.refl _ _ _, .c (.int _ _)⟩
  · -- min
    rename_i t ts' v vs' hts
    obtain ⟨u, l, hl, hu, htl⟩ := hv.head rfl
    simp only [Option.bind_eq_some_iff] at hK
    obtain ⟨k, hk, c, hc, n, hn, cs, hcs, hK⟩ := hK
    have := toInt_some hn; subst this
    have hue := (hu.cell_inv hc).int_inv
    obtain ⟨y, h1, h2⟩ := min_ok (P := C.P) (w := w) (tvCells_rel htl hcs) hK
    exact ⟨_, _, _, w, ρ, h1, by simp [builtin, Builtin.min_, hl, hue, h2], h, Fr.refl _ _ _, .c (.int _ _)⟩
  · rename_i t ts' v vs' hts
    obtain ⟨u, l, hl, hu, htl⟩ := hv.head rfl
    simp only [Option.bind_eq_some_iff] at hK
    obtain ⟨k, hk, c, hc, n, hn, cs, hcs, hK⟩ := hK
    have := toInt_some hn; subst this
    have hue := (hu.cell_inv hc).int_inv
    obtain ⟨y, h1, h2⟩ := max_ok (P := C.P) (w := w) (tvCells_rel htl hcs) hK
    exact ⟨_, _, _, w, ρ, h1, by simp [builtin, Builtin.max_, hl, hue, h2], h, Fr.refl _ _ _, .c (.int _ _)⟩
  · cases hK

end
end Go.Proofs.YtnipccoenalnkaaGreat.Ab
