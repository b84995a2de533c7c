/- The abstract machine, 10: builtins, maps, as operations. -/
import Derived.Test.YtnipccoenalnkaaGreatAb9
namespace Go.Proofs.YtnipccoenalnkaaGreat.Ab
open Go
set_option linter.unusedVariables false
set_option linter.unusedSimpArgs false

section
variable {R : Type} {C : Ctx} {o : Oper} {st : St} {K : St → Option R} {r : R} {ρ : Rho} {L : Nat → Option Nat} {a : Act} {w : World} {next : Act → World → Prop} {Q : Exit → Act → World → Prop} {rd : Option Nat}

theorem Ch_set (ρ : Rho) (L : Nat → Option Nat) (st : St) (d : Option Nat) (x : AV) : Ch ρ L (st.set d x) = Ch ρ L st := by cases d <;> rfl
theorem result_step (hd : inRange C.nt o.dst = true) (hn : Follows C K r ρ L st a w next) {x : AV} {u : Value} {ρ' : Rho} {L' : Nat → Option Nat} {st' : St} {w' : World}
    (hrun : (execOp a.eval o).run C.P w = .ok (.value u) w') (hs : SR C.nt ρ' L' st' a w') (hf : Fr ρ ρ' w w' (Ch ρ L st) (Ch ρ' L' st')) (hx : AR ρ' L' x u) (hK : K (st'.set o.dst x) = some r) : o.wpIn (Fen rd) 0 C.P a w next Q := by
  refine wpR_value hrun ?_
  exact hn ρ' L' _ _ w' hK (hs.set hd hx) (by rw [Ch_set]; exact hf) (put_defers ..)
theorem skip_step (hd : inRange C.nt o.dst = true) (hn : Follows C K r ρ L st a w next) {ρ' : Rho} {L' : Nat → Option Nat} {st' : St} {w' : World}
    (hrun : (execOp a.eval o).run C.P w = .ok .skip w') (hs : SR C.nt ρ' L' st' a w') (hf : Fr ρ ρ' w w' (Ch ρ L st) (Ch ρ' L' st')) (hK : K (st'.set o.dst (.tup [])) = some r) : o.wpIn (Fen rd) 0 C.P a w next Q := by
  refine wpR_skip hrun ?_
  exact hn ρ' L' _ _ w' hK (hs.set hd (.tup (vs := #[]) .nil)) (by rw [Ch_set]; exact hf) (put_defers ..)

/-! ### copy -/
theorem copy_ok (h : SR C.nt ρ L st a w) {t u e : TypeId} {n : Nat} {d x : Option Sl} {dv xv : Value} {k : Int} {H' : Heap} (ty : TypeId) (hu : C.P.underlying t = some (.slice e)) (hn : sizeT C.P e = some n)
    (hd : CR ρ (.slice d) dv) (hx : CR ρ (.slice x) xv) (hc : st.heap.copy n d x = some (k, H')) :
    ∃ w', (Builtin.copy_ #[t, u] ty #[dv, xv]).run C.P w = .ok (.int .i64 k) w' ∧ SR C.nt ρ L (st.withHeap H') a w' ∧ Fr ρ ρ w w' (Ch ρ L st) (Ch ρ L (st.withHeap H')) := by
  have nothing : ∀ {base xb : Option Addr} {dl dc xl xc : Nat}, dv = .slice base dl dc → xv = .slice xb xl xc → min xl dl = 0 → (Builtin.copy_ #[t, u] ty #[dv, xv]).run C.P w = .ok (.int .i64 0) w := by
    intro base xb dl dc xl xc h1 h2 h0
    subst h1; subst h2
    have hf : ∀ xb : Option Addr, (Builtin.firstCells n 0 (.slice xb xl xc)).run C.P w = .ok #[] w := by
      intro xb
      cases xb <;> simp [Builtin.firstCells, loadCells, loadCellsFrom]
    have h0' : Nat.min xl dl = 0 := h0
    cases base <;> simp [Builtin.copy_, run_underlying hu, run_sizeOf' hn, Builtin.lenOf, h0', hf, storeCells, goInt]
  unfold Heap.copy at hc
  split at hc
  · simp at hc
    obtain ⟨rfl, rfl⟩ := hc
    cases hd
    cases hx <;> exact ⟨w, nothing rfl rfl (by simp), h, Fr.refl _ _ _⟩
  · simp at hc
    obtain ⟨rfl, rfl⟩ := hc
    cases hd
    cases hx
    exact ⟨w, nothing rfl rfl (by simp), h, Fr.refl _ _ _⟩
  · rename_i d x
    split at hc
    case isFalse => cases hc
    rename_i hes
    cases hd with
    | slice dr dcap dl da dm =>
    rename_i bd od md capd add'
    cases hx with
    | slice xr xcap xl xa xm =>
    rename_i bx ox mx capx adx
    split at hc
    · rename_i h0
      simp at hc
      obtain ⟨rfl, rfl⟩ := hc
      exact ⟨w, nothing rfl rfl (by rcases h0 with h0 | h0 <;> simp [h0]), h, Fr.refl _ _ _⟩
    · rename_i h0
      simp only [not_or] at h0
      simp only [Option.bind_eq_some_iff, Option.map_eq_some_iff, Prod.mk.injEq] at hc
      obtain ⟨xs, hxs, H1, hput, rfl, rfl⟩ := hc
      have xr := xr.resolve_right (by omega)
      have dr := dr.resolve_right (by omega)
      obtain ⟨hxl, vs, hvs, hcell⟩ := h.heap.getN hxs xr
      obtain ⟨_, _, _, _, c, e', fz, h1, h2, h3⟩ := h.heap.put hput dr hvs
      obtain ⟨h4, h5⟩ := h.putHeap hput dr hvs
      have had : add' = ⟨bd, od + d.off, none⟩ := by
        rcases da with da | da
        · exact da
        · omega
      have hax : adx = ⟨bx, ox + x.off, none⟩ := by
        rcases xa with xa | xa
        · exact xa
        · omega
      subst had; subst hax
      refine ⟨_, ?_, h4, h5⟩
      have hvl : vs.length = min x.len d.len * n := by rw [← hvs.length, hxl]
      have hfc := run_firstCells_some (P := C.P) w n (min x.len d.len) ⟨bx, ox + x.off, none⟩ x.len capx vs hvl fun j v hj => by rw [addr_add]; exact hcell j v hj
      have hst : (storeCells ⟨bd, od + d.off, none⟩ vs).run C.P w = .ok () (w.setCells bd (od + d.off) vs) := by
        rcases h3 with h3 | h3
        · have : vs = [] := List.eq_nil_of_length_eq_zero h3
          subst this
          rfl
        · have := run_storeCells_cells (P := C.P) bd (od + d.off) vs 0 w (fun j hj => by
              rw [cell_of_block h1]
              have : od + d.off + j < c.size := by omega
              simp [this]) (fun j hj => frozen_of_block h1 h2 (by omega)) hvs.one
          simpa using this
      have hmin : Nat.min x.len d.len = min x.len d.len := rfl
      simp [Builtin.copy_, run_underlying hu, run_sizeOf' hn, Builtin.lenOf, hmin, hfc, hst, goInt]

/-! ### clear -/
theorem clear_ok (h : SR C.nt ρ L st a w) {t e : TypeId} {n : Nat} {z : List Cell} {s : Option Sl} {v : Value} {H' : Heap} (ty : TypeId) (hu : C.P.underlying t = some (.slice e)) (hz : zeroT C.P e = some z) (hzl : z.length = n) (hn0 : 0 < n)
    (hs : CR ρ (.slice s) v) (hc : st.heap.clear n z s = some H') :
    ∃ w', (Builtin.clear_ #[t] ty #[v]).run C.P w = .ok (.tuple #[]) w' ∧ SR C.nt ρ L (st.withHeap H') a w' ∧ Fr ρ ρ w w' (Ch ρ L st) (Ch ρ L (st.withHeap H')) := by
  have nothing : ∀ {base : Option Addr} {l c : Nat}, v = .slice base l c → (base = none ∨ l = 0) → (Builtin.clear_ #[t] ty #[v]).run C.P w = .ok (.tuple #[]) w := by
    intro base l c h1 h2
    subst h1
    rcases h2 with rfl | rfl
    · simp [Builtin.clear_, run_underlying hu]
    · cases base <;> simp [Builtin.clear_, run_underlying hu]
  unfold Heap.clear at hc
  split at hc
  · cases hc
    cases hs
    exact ⟨w, nothing rfl (.inl rfl), h, Fr.refl _ _ _⟩
  · rename_i s
    split at hc
    case isFalse => cases hc
    rename_i hes
    cases hs with
    | slice sr scap sl sa sm =>
    rename_i bd od md capd add'
    split at hc
    · rename_i h0
      cases hc
      exact ⟨w, nothing rfl (.inr h0), h, Fr.refl _ _ _⟩
    · rename_i h0
      obtain ⟨zv, hz1, hz2⟩ := run_zero' ρ hz w
      have sr := sr.resolve_right (by omega)
      have hvs := hz2.replicate s.len
      obtain ⟨_, _, _, _, c, e', fz, h1, h2, h3⟩ := h.heap.put hc sr hvs
      obtain ⟨h4, h5⟩ := h.putHeap hc sr hvs
      have had : add' = ⟨bd, od + s.off, none⟩ := by
        rcases sa with sa | sa
        · exact sa
        · omega
      subst had
      have hzc : zv.cells.size = n := by have := hz2.length; simp at this; omega
      have hst : (storeCells ⟨bd, od + s.off, none⟩ (List.replicate s.len zv.cells.toList).flatten).run C.P w = .ok () (w.setCells bd (od + s.off) (List.replicate s.len zv.cells.toList).flatten) := by
        rcases h3 with h3 | h3
        · have : (List.replicate s.len zv.cells.toList).flatten = [] := List.eq_nil_of_length_eq_zero h3
          rw [this]
          rfl
        · have := run_storeCells_cells (P := C.P) bd (od + s.off) (List.replicate s.len zv.cells.toList).flatten 0 w (fun j hj => by
              rw [cell_of_block h1]
              have : od + s.off + j < c.size := by omega
              simp [this]) (fun j hj => frozen_of_block h1 h2 (by omega)) hvs.one
          simpa using this
      have hzs : (Builtin.zeroCells zv.cells s.len).toList = (List.replicate s.len zv.cells.toList).flatten := by
        have hz0 : 0 < zv.cells.toList.length := by simp; omega
        have := replicate_mod zv.cells.toList s.len hz0
        have e1 : Builtin.zeroCells zv.cells s.len = (List.replicate s.len zv.cells.toList).flatten.toArray := by
          apply Array.ext'
          simpa [Builtin.zeroCells, hzc] using this
        rw [e1]
      refine ⟨_, ?_, h4, h5⟩
      obtain ⟨m, hm⟩ : ∃ m, s.len = m + 1 := ⟨s.len - 1, by omega⟩
      have hrun : (Builtin.clear_ #[t] ty #[.slice (some ⟨bd, od + s.off, none⟩) s.len capd]).run C.P w = ((storeCells ⟨bd, od + s.off, none⟩ (Builtin.zeroCells zv.cells s.len).toList).run C.P w).andThen fun _ w' => .ok (.tuple #[]) w' := by
        rw [hm]
        simp [Builtin.clear_, run_underlying hu, hz1]
      rw [hrun, hzs, hst]
      rfl

/-! ### min, max -/
theorem min_ok {P : Program} {k : IntKind} : ∀ {cs : List Cell} {vs : List Value} {x : Int} {K : Int → Option R}, LR ρ cs vs → minA .min k cs x K = some r →
    ∃ y, K y = some r ∧ (vs.foldlM Builtin.min2 (.int k x)).run P w = .ok (.int k y) w
  | [], _, x, K, .nil, h => ⟨x, h, rfl⟩
  | c :: cs, _, x, K, .cons hc ht, h => by
    simp only [minA, Option.bind_eq_some_iff] at h
    obtain ⟨b, hb, h⟩ := h
    have := toInt_some hb
    subst this
    rw [hc.int_inv]
    obtain ⟨y, h1, h2⟩ := min_ok (P := P) ht h
    exact ⟨y, h1, by simpa [List.foldlM_cons, Builtin.min2, mm] using h2⟩
theorem max_ok {P : Program} {k : IntKind} : ∀ {cs : List Cell} {vs : List Value} {x : Int} {K : Int → Option R}, LR ρ cs vs → minA .max k cs x K = some r →
    ∃ y, K y = some r ∧ (vs.foldlM Builtin.max2 (.int k x)).run P w = .ok (.int k y) w
  | [], _, x, K, .nil, h => ⟨x, h, rfl⟩
  | c :: cs, _, x, K, .cons hc ht, h => by
    simp only [minA, Option.bind_eq_some_iff] at h
    obtain ⟨b, hb, h⟩ := h
    have := toInt_some hb
    subst this
    rw [hc.int_inv]
    obtain ⟨y, h1, h2⟩ := max_ok (P := P) ht h
    exact ⟨y, h1, by simpa [List.foldlM_cons, Builtin.max2, mm] using h2⟩
theorem tvCells_rel : ∀ {xs : List TV} {vs : List Value} {cs : List Cell}, TLR ρ xs vs → tvCells xs = some cs → LR ρ cs vs
  | _, _, cs, .nil, h => by simp [tvCells] at h; subst h; exact .nil
  | _, _, cs, .cons a t, h => by
    simp only [tvCells, Option.bind_eq_some_iff] at h
    obtain ⟨c, hc, ds, hds, he⟩ := h
    simp at he
    subst he
    cases a with
    | c a => simp [TV.cell] at hc; subst hc; exact .cons a (tvCells_rel t hds)
    | agg a => simp [TV.cell] at hc
theorem TR.cell_inv {x : TV} {v : Value} {c : Cell} (h : TR ρ x v) (hc : x.cell = some c) : CR ρ c v := by
  cases h with
  | c h => simp [TV.cell] at hc; subst hc; exact h
  | agg h => simp [TV.cell] at hc

/-! ### maps -/
theorem bytes_beq (a b : ByteArray) : (a == b) = true ↔ a = b := by
  obtain ⟨x⟩ := a
  obtain ⟨y⟩ := b
  constructor
  · intro h
    have e : x = y := by simpa using (show (x == y) = true from h)
    rw [e]
  · intro h
    cases h
    show (x == x) = true
    simp
theorem keyOf_ok {P : Program} {kt : TypeId} {k : Cell} {u : Value} {K : Cell → Option R} (hk : CR ρ k u) (h : keyOf P kt k K = some r) :
    ∃ d, P.underlying kt = some d ∧ K k = some r ∧ (∀ y v b, CR ρ y v → k.same y = some b → Instr.sameNow d u v = some b) ∧ (∀ e w, (Instr.checkKey e 10000 kt u).run P w = .ok () w) ∧
      ∀ v, Instr.sameNow d u v = some true → Instr.sameBits 10000 v u = true := by
  unfold keyOf at h
  split at h
  · rename_i kk hu
    simp only [Option.bind_eq_some_iff] at h
    obtain ⟨n, hn, h⟩ := h
    have := toInt_some hn
    subst this
    cases hk
    refine ⟨_, hu, h, fun y v b hy hb => ?_, fun e w => ?_, ?_⟩
    · cases hy <;> simp [Cell.same] at hb
      rename_i k' m
      by_cases hk : kk = k'
      · subst hk
        simp at hb
        simp [Instr.sameNow, hb]
      · rw [show (kk == k') = false from beq_eq_false_iff_ne.2 hk, cond_false] at hb
        cases hb
    · rw [show (10000 : Nat) = 9999 + 1 from rfl, Instr.checkKey]
      simp [run_underlying hu]
    · intro v hv
      cases v <;> simp [Instr.sameNow] at hv
      simp [Instr.sameBits, hv]
  · rename_i hu
    simp only [Option.bind_eq_some_iff] at h
    obtain ⟨n, hn, h⟩ := h
    have := toStr_some hn
    subst this
    cases hk
    refine ⟨_, hu, h, fun y v b hy hb => ?_, fun e w => ?_, ?_⟩
    · cases hy <;> simp [Cell.same, strEq_beq] at hb
      simp [Instr.sameNow, hb]
    · rw [show (10000 : Nat) = 9999 + 1 from rfl, Instr.checkKey]
      simp [run_underlying hu]
    · intro v hv
      cases v <;> simp [Instr.sameNow] at hv
      simp only [Instr.sameBits]
      exact (bytes_beq _ _).2 ((bytes_beq _ _).1 hv).symm
  · cases h

theorem find_ok {d : TypeDesc} {k : Cell} {u : Value} (hs : ∀ y v b, CR ρ y v → k.same y = some b → Instr.sameNow d u v = some b) : ∀ {es : List (Cell × TV × Nat)} {es' : List MapEntry} {i : Nat} {res : Option (Nat × TV)}, ER ρ es es' → findKey k es i = some res →
    ∃ res', Instr.findNow d u es' i = some res' ∧ ((res = none ∧ res' = none) ∨ ∃ j x v, res = some (j, x) ∧ res' = some (j, v) ∧ TR ρ x v ∧ j < i + es.length)
  | [], [], i, res, .nil, h => by
    simp [findKey] at h
    subst h
    exact ⟨none, rfl, .inl ⟨rfl, rfl⟩⟩
  | _, _, i, res, .cons (k := ky) (v := vy) (es := es) hk hv t, h => by
    simp only [findKey] at h
    split at h
    · rename_i hb
      simp at h
      subst h
      exact ⟨_, by simp [Instr.findNow, hs _ _ _ hk hb], .inr ⟨i, _, _, rfl, rfl, hv, by simp⟩⟩
    · rename_i hb
      obtain ⟨res', h1, h2⟩ := find_ok hs t h
      refine ⟨res', by simp [Instr.findNow, hs _ _ _ hk hb, h1], ?_⟩
      rcases h2 with h2 | ⟨j, x, v, h3, h4, h5, h6⟩
      · exact .inl h2
      · exact .inr ⟨j, x, v, h3, h4, h5, by simp; omega⟩
    · cases h

theorem zeroTV_ok {P : Program} {t : TypeId} {z : TV} (ρ : Rho) (h : zeroTV P t = some z) (w : World) : ∃ v, (zeroValue t).run P w = .ok v w ∧ TR ρ z v := by
  have one : ∀ {c : Value} {x : Cell}, constCell c = some x → CR ρ x c := by
    intro c x hc
    unfold constCell at hc
    split at hc <;> simp at hc <;> subst hc <;> constructor
  unfold zeroTV at h
  split at h
  · rename_i cs hz
    simp only [Option.map_eq_some_iff] at h
    obtain ⟨xs, h1, h2⟩ := h
    subst h2
    simp only [Option.bind_eq_some_iff] at hz
    obtain ⟨i, hi, hz⟩ := hz
    exact ⟨_, by simp [zeroValue, typeInfo, hi, hz], .agg (constCells_rel h1)⟩
  · rename_i v _ hz
    simp only [Option.map_eq_some_iff] at h
    obtain ⟨x, h1, h2⟩ := h
    subst h2
    simp only [Option.bind_eq_some_iff] at hz
    obtain ⟨i, hi, hz⟩ := hz
    exact ⟨_, by simp [zeroValue, typeInfo, hi, hz], .c (one h1)⟩
  · cases h

theorem findKey_run {P : Program} {kt : TypeId} {d : TypeDesc} {u : Value} {es : List MapEntry} {res : Option (Nat × Value)} (hu : P.underlying kt = some d) (h : Instr.findNow d u es 0 = some res) (w : World) :
    (Instr.findKey kt u es).run P w = .ok res w := by
  simp [Instr.findKey, run_underlying hu, h]

/-- A map's entries. -/
theorem entries_ok (h : HR ρ st.heap w) {m : Option Nat} {mv : Value} {k : Cell} {res : Option (Nat × TV)} (hm : CR ρ (.map m) mv) (hf : st.heap.findAt m k = some res) :
    ∃ (es : Array MapEntry) (ea : List (Cell × TV × Nat)), ((mv = .map none ∧ es = #[]) ∨ ∃ b clock, mv = .map (some b) ∧ (getObj b).run C.P w = .ok (.map es clock) w) ∧ ER ρ ea es.toList ∧ findKey k ea 0 = some res := by
  cases hm with
  | nilMap =>
    simp [Heap.findAt] at hf
    subst hf
    exact ⟨#[], [], .inl ⟨rfl, rfl⟩, .nil, rfl⟩
  | map hi =>
    rename_i id b
    simp only [Heap.findAt] at hf
    split at hf
    · rename_i ea cl hH
      obtain ⟨b', es', h1, h2, h3⟩ := h.mapR _ _ _ hH
      rw [hi] at h1
      cases h1
      exact ⟨es', ea, .inr ⟨b, cl, rfl, by simp [getObj, Sem.run, h2]⟩, h3, hf⟩
    · cases hf

theorem lookup_ok (h : HR ρ st.heap w) {t kt e : TypeId} {m : Option Nat} {mv u : Value} {k : Cell} {z : TV} {x : TV × Bool} {ok : Bool} {d : TypeDesc} (hu : C.P.underlying t = some (.map kt e)) (hku : C.P.underlying kt = some d)
    (hm : CR ρ (.map m) mv) (hs : ∀ y v b, CR ρ y v → k.same y = some b → Instr.sameNow d u v = some b) (hc : ∀ e w, (Instr.checkKey e 10000 kt u).run C.P w = .ok () w) (hz : zeroTV C.P e = some z)
    (hf : st.heap.find m k z = some x) : ∃ v, TR ρ x.1 v ∧ (Instr.lookup t mv u ok).run C.P w = .ok (if ok then .tuple #[v, .bool x.2] else v) w := by
  simp only [Heap.find, Option.map_eq_some_iff] at hf
  obtain ⟨res, hres, hx⟩ := hf
  obtain ⟨es, ea, h1, h2, h3⟩ := entries_ok (C := C) h hm hres
  obtain ⟨res', h4, h5⟩ := find_ok hs h2 h3
  obtain ⟨zv, h6, h7⟩ := zeroTV_ok ρ hz w
  have hfk := findKey_run hku h4 w
  rcases h5 with ⟨rfl, rfl⟩ | ⟨j, y, v, rfl, rfl, hv, _⟩
  · simp at hx
    subst hx
    refine ⟨zv, h7, ?_⟩
    rcases h1 with ⟨rfl, rfl⟩ | ⟨b, cl, rfl, hg⟩
    · have hfk' : (Instr.findKey kt u []).run C.P w = .ok none w := by simpa using hfk
      cases ok <;> simp [Instr.lookup, run_underlying hu, hc, hfk', h6]
    · cases ok <;> simp [Instr.lookup, run_underlying hu, hc, hfk, h6, hg]
  · simp at hx
    subst hx
    refine ⟨v, hv, ?_⟩
    rcases h1 with ⟨rfl, rfl⟩ | ⟨b, cl, rfl, hg⟩
    · simp [Instr.findNow] at h4
    · cases ok <;> simp [Instr.lookup, run_underlying hu, hc, hfk, hg]

theorem ER.length : ∀ {es : List (Cell × TV × Nat)} {es' : List MapEntry}, ER ρ es es' → es.length = es'.length
  | _, _, .nil => rfl
  | _, _, .cons _ _ t => congrArg (· + 1) t.length
theorem ER.push : ∀ {es : List (Cell × TV × Nat)} {es' : List MapEntry}, ER ρ es es' → ∀ {k : Cell} {x : TV} {k' v' : Value} {born : Nat}, CR ρ k k' → TR ρ x v' → ER ρ (es ++ [(k, x, born)]) (es' ++ [{ key := k', val := v', born }])
  | _, _, .nil, _, _, _, _, _, hk, hv => .cons hk hv .nil
  | _, _, .cons a b t, _, _, _, _, _, hk, hv => .cons a b (t.push hk hv)
theorem ER.modify : ∀ {es : List (Cell × TV × Nat)} {es' : List MapEntry}, ER ρ es es' → ∀ {i : Nat} {k : Cell} {x : TV} {k' v' : Value}, CR ρ k k' → TR ρ x v' →
    ER ρ (es.modify i fun e => (k, x, e.2.2)) (es'.modify i fun e => { e with key := k', val := v' })
  | _, _, .nil, _, _, _, _, _, _, _ => by simpa using .nil
  | _, _, .cons a b t, 0, _, _, _, _, hk, hv => .cons hk hv t
  | _, _, .cons a b t, i + 1, _, _, _, _, hk, hv => .cons a b (t.modify hk hv)

theorem setObj_run {P : Program} {b : Nat} {o o' : Obj} (h : w.heap[b]? = some o) (hn : ∀ c e f, o ≠ .cells c e f) : (setObj b o').run P w = .ok () { w with heap := w.heap.setIfInBounds b o' } := by
  unfold setObj
  cases o <;> first | exact absurd rfl (hn _ _ _) | simp only [Sem.run, h]

theorem findNow_at {d : TypeDesc} {u : Value} : ∀ {es : List MapEntry} {i j : Nat} {v : Value}, Instr.findNow d u es i = some (some (j, v)) → ∃ e, i ≤ j ∧ es[j - i]? = some e ∧ Instr.sameNow d u e.key = some true
  | [], i, j, v, h => by simp [Instr.findNow] at h
  | e :: es, i, j, v, h => by
    simp only [Instr.findNow] at h
    split at h
    · rename_i hb
      simp at h
      obtain ⟨rfl, rfl⟩ := h
      exact ⟨e, Nat.le_refl _, by simp, hb⟩
    · obtain ⟨e', h1, h2, h3⟩ := findNow_at h
      refine ⟨e', by omega, ?_, h3⟩
      rw [show j - i = (j - (i + 1)) + 1 by omega]
      simpa using h2
    · cases h

theorem heap_set_ne (w : World) (b : Nat) (o : Obj) {k : Nat} (h : k ≠ b) : ({ w with heap := w.heap.setIfInBounds b o } : World).heap[k]? = w.heap[k]? := by
  simp [Array.getElem?_setIfInBounds_ne (Ne.symm h)]
theorem HR.putMap {H : Heap} (h : HR ρ H w) {id b : Nat} {es es2 : List (Cell × TV × Nat)} {cl cl2 : Nat} {es2' : Array MapEntry} (hH : H[id]? = some (.map es cl)) (hi : ρ id = some (b, 0, none)) (he : ER ρ es2 es2'.toList) :
    HR ρ (H.set id (.map es2 cl2)) { w with heap := w.heap.setIfInBounds b (.map es2' cl2) } := by
  have hlen : id < H.length := (List.getElem?_eq_some_iff.1 hH).1
  have hown : OwnAt H id := .inr ⟨es, cl, hH⟩
  have hbl := h.inw _ _ _ _ hi
  have other : ∀ (j : Nat) (x : Nat × Nat × Option Nat), ρ j = some x → (OwnAt H j ∨ RoAt H j) → j ≠ id → ({ w with heap := w.heap.setIfInBounds b (.map es2' cl2) } : World).heap[x.1]? = w.heap[x.1]? := by
    intro j x hj ho hne
    refine heap_set_ne w b _ fun hb => ?_
    obtain ⟨b', o', m'⟩ := x
    simp at hb
    subst hb
    rcases ho with ho | ho
    · exact hne (h.inj j id _ _ _ _ _ ho hown hj hi)
    · exact h.sep id j _ _ _ _ _ _ hown ho hi hj rfl
  have get : ∀ (j : Nat) (blk : Blk), (H.set id (.map es2 cl2))[j]? = some blk → j ≠ id → H[j]? = some blk := by
    intro j blk hj hne
    rwa [List.getElem?_set_ne (Ne.symm hne)] at hj
  have own : ∀ j, OwnAt (H.set id (.map es2 cl2)) j → OwnAt H j := by
    intro j hj
    by_cases hne : j = id
    · subst hne; exact hown
    · rcases hj with ⟨cs', h5⟩ | ⟨es, c', h5⟩
      · exact .inl ⟨cs', get j _ h5 hne⟩
      · exact .inr ⟨es, c', get j _ h5 hne⟩
  have ro : ∀ j, RoAt (H.set id (.map es2 cl2)) j → RoAt H j := by
    rintro j ⟨ds, hj⟩
    by_cases hne : j = id
    · subst hne; rw [List.getElem?_set_self hlen] at hj; simp at hj
    · exact ⟨ds, get j _ hj hne⟩
  refine ⟨fun j ds r hj => ?_, fun j es1 cl1 hj => ?_, fun i j b o m o' m' hi hj h1 h2 => h.inj i j b o m o' m' (own i hi) (own j hj) h1 h2,
    fun i j b o m b' o' m' hi hj h1 h2 => h.sep i j b o m b' o' m' (own i hi) (ro j hj) h1 h2, fun j hj => h.fresh j (by simpa using hj), fun j b' o' m' hj => by simpa using h.inw j b' o' m' hj,
    fun j hj => h.hole j (get j _ hj (by rintro rfl; rw [List.getElem?_set_self hlen] at hj; simp at hj))⟩
  · have hne : j ≠ id := by rintro rfl; rw [List.getElem?_set_self hlen] at hj; simp at hj
    have hj' := get j _ hj hne
    obtain ⟨b', o', m', c', e', fz', h5, h6, h7⟩ := h.row j ds r hj'
    exact ⟨b', o', m', c', e', fz', h5, by rw [other j _ h5 (by cases r; exact .inl (.inl ⟨ds, hj'⟩); exact .inr ⟨ds, hj'⟩) hne]; exact h6, h7⟩
  · by_cases hne : j = id
    · subst hne
      rw [List.getElem?_set_self hlen] at hj
      simp at hj
      obtain ⟨rfl, rfl⟩ := hj
      exact ⟨b, es2', hi, by simp [hbl], he⟩
    · have hj' := get j _ hj hne
      obtain ⟨b', es', h5, h6, h7⟩ := h.mapR j es1 cl1 hj'
      exact ⟨b', es', h5, by rw [other j _ h5 (.inl (.inr ⟨es1, cl1, hj'⟩)) hne]; exact h6, h7⟩

theorem SR.putMap {n : Nat} (h : SR n ρ L st a w) {id b : Nat} {es es2 : List (Cell × TV × Nat)} {cl cl2 : Nat} {es2' : Array MapEntry} (hH : st.heap[id]? = some (.map es cl)) (hi : ρ id = some (b, 0, none)) (he : ER ρ es2 es2'.toList) :
    SR n ρ L (st.withHeap (st.heap.set id (.map es2 cl2))) a { w with heap := w.heap.setIfInBounds b (.map es2' cl2) } ∧
      Fr ρ ρ w { w with heap := w.heap.setIfInBounds b (.map es2' cl2) } (Ch ρ L st) (Ch ρ L (st.withHeap (st.heap.set id (.map es2 cl2)))) := by
  have hown : OwnAt st.heap id := .inr ⟨es, cl, hH⟩
  refine ⟨⟨h.env, h.loc.congr (Rho.le_refl _) (fun k cs b' hk hL => heap_set_ne w b _ fun e => ?_) fun k cs b' hk hL id o m hi => ⟨_, _, hi⟩, h.heap.putMap hH hi he, (h.defers.keep fun D hD => heap_set_ne w b _ fun e => by
    subst e
    obtain ⟨b', es', h5, h6, h7⟩ := h.heap.mapR id es cl hH
    rw [hi] at h5; cases h5
    rw [h6] at hD; cases hD), h.size⟩, ?_⟩
  · subst e; exact h.loc.out k cs b' hk hL _ _ _ hi
  · refine ⟨Rho.le_refl _, by simp, fun k hk hn => heap_set_ne w b _ fun e => hn (.inl ⟨id, 0, none, hown, e ▸ hi⟩), fun k hk => .inl ?_, fun _ _ _ _ h => .inl h, rfl, rfl, rfl⟩
    rcases hk with ⟨i, o', m', h5, h6⟩ | h5
    · refine .inl ⟨i, o', m', ?_, h6⟩
      by_cases hne : i = id
      · subst hne; exact hown
      · unfold OwnAt at h5 ⊢
        simpa [St.withHeap, List.getElem?_set_ne (Ne.symm hne)] using h5
    · exact .inr h5

theorem mapPut_ok (h : SR C.nt ρ L st a w) {t kt e : TypeId} {m : Option Nat} {mv u xv : Value} {k : Cell} {x : TV} {d : TypeDesc} {H' : Heap} (hu : C.P.underlying t = some (.map kt e)) (hku : C.P.underlying kt = some d)
    (hm : CR ρ (.map m) mv) (hk : CR ρ k u) (hs : ∀ y v b, CR ρ y v → k.same y = some b → Instr.sameNow d u v = some b) (hc : ∀ e w, (Instr.checkKey e 10000 kt u).run C.P w = .ok () w)
    (hx : TR ρ x xv) (hb : ∀ v, Instr.sameNow d u v = some true → Instr.sameBits 10000 v u = true)
    (hf : st.heap.mapPut m k x = some H') : ∃ w', (Instr.mapUpdate t mv u xv).run C.P w = .ok () w' ∧ SR C.nt ρ L (st.withHeap H') a w' ∧ Fr ρ ρ w w' (Ch ρ L st) (Ch ρ L (st.withHeap H')) := by
  unfold Heap.mapPut at hf
  split at hf
  · cases hf
  rename_i id
  cases hm with
  | map hi =>
  rename_i b
  split at hf
  case h_2 => cases hf
  rename_i es cl hH
  obtain ⟨b', es', h1, h2, h3⟩ := h.heap.mapR _ _ _ hH
  rw [hi] at h1
  cases h1
  have hg : (getObj b).run C.P w = .ok (.map es' cl) w := by simp [getObj, Sem.run, h2]
  have hset : ∀ o', (setObj b o').run C.P w = .ok () { w with heap := w.heap.setIfInBounds b o' } := fun o' => setObj_run h2 (by intros; simp)
  split at hf
  · rename_i i y hfk
    simp at hf
    subst hf
    obtain ⟨res', h4, h5⟩ := find_ok hs h3 hfk
    rcases h5 with ⟨h5, _⟩ | ⟨j, y', v, h5, h6, h7, _⟩
    · cases h5
    · cases h5
      subst h6
      have hrun := findKey_run hku h4 w
      obtain ⟨e', _, h9, h10⟩ := findNow_at h4
      simp only [Nat.sub_zero] at h9
      have h9' : es'[i]? = some e' := by simpa using h9
      have hkeep : (Instr.keyThatStays e'.key u).run C.P w = .ok u w := by
        simp [Instr.keyThatStays, hb _ h10]
      obtain ⟨h11, h12⟩ := h.putMap (es2 := es.modify i fun e => (k, x, e.2.2)) (es2' := es'.modify i fun e => { e with key := u, val := xv }) (cl2 := cl) hH hi (by rw [Array.toList_modify]; exact h3.modify hk hx)
      exact ⟨_, by simp [Instr.mapUpdate, run_underlying hu, hg, hc, hrun, h9', hkeep, hset], h11, h12⟩
  · rename_i hfk
    simp at hf
    subst hf
    obtain ⟨res', h4, h5⟩ := find_ok hs h3 hfk
    rcases h5 with ⟨_, h6⟩ | ⟨j, y', v, h5, _⟩
    · subst h6
      have hrun := findKey_run hku h4 w
      obtain ⟨h11, h12⟩ := h.putMap (es2 := es ++ [(k, x, cl)]) (es2' := es'.push { key := u, val := xv, born := cl }) (cl2 := cl + 1) hH hi (by rw [Array.toList_push]; exact h3.push hk hx)
      exact ⟨_, by simp [Instr.mapUpdate, run_underlying hu, hg, hc, hrun, hset], h11, h12⟩
    · cases h5
  · cases hf

end
end Go.Proofs.YtnipccoenalnkaaGreat.Ab
