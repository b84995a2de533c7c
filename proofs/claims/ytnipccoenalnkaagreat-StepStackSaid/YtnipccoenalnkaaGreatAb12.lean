/- The abstract machine, 12: every operation does in memory what it does abstractly. -/
import Derived.Test.YtnipccoenalnkaaGreatAb11
namespace Go.Proofs.YtnipccoenalnkaaGreat.Ab
open Go
set_option linter.unusedVariables false
set_option linter.unusedSimpArgs false

section
variable {R : Type} {C : Ctx} {o : Oper} {st : St} {K : St → Option R} {r : R} {ρ : Rho} {L : Nat → Option Nat} {a : Act} {w : World} {next : Act → World → Prop} {Q : Exit → Act → World → Prop}

theorem fieldOf_some {P : Program} {s : TypeId} {f : Nat} {fd : Field} (h : fieldOf P s f = some fd) : ∃ fs, P.underlying s = some (.struct fs) ∧ fs[f]? = some fd := by
  unfold fieldOf at h
  split at h
  · exact ⟨_, by assumption, h⟩
  · cases h

theorem make_ok {P : Program} {t e : TypeId} {n by' : Nat} {z : List Cell} {l c : Int} {kl kc : IntKind} (hu : P.underlying t = some (.slice e)) (hn : sizeT P e = some n) (hby : bytesT P e = some by') (hz : zeroT P e = some z) (hl : z.length = n) (hpos : 0 < n)
    (h0 : 0 ≤ l) (h1 : l ≤ c) (h2 : c * by' ≤ most) (h3 : c ≤ most) (ρ : Rho) (w : World) :
    ∃ cR : Array Value, (Instr.makeSlice t (.int kl l) (.int kc c)).run P w = .ok (.slice (some ⟨w.heap.size, 0, none⟩) l.toNat c.toNat) (w.alloc (.cells cR e)) ∧ LR ρ (List.replicate c.toNat z).flatten cR.toList := by
  have wr : ∀ x : Int, 0 ≤ x → x ≤ most → IntKind.i64.wrap x = x := by
    intro x h4 h5
    unfold most at h5
    unfold IntKind.wrap
    simp [IntKind.bits, IntKind.signed]
    omega
  obtain ⟨inf, hinf, hsz⟩ := sizeT_info hn
  have hb : inf.bytes = by' := by simpa [bytesT, hinf] using hby
  obtain ⟨zv, hz1, hz2, hz3, hz4⟩ := zeros_ok ρ hz hl hpos w
  have hbig : ¬ (281474976710656 < (by' : Int) * c) := by unfold most at h2; rw [Int.mul_comm]; omega
  have hc0 : ¬ c < 0 := by omega
  have hl0 : ¬ l < 0 := by omega
  have hlc : ¬ l > c := by omega
  have hti : (typeInfo e).run P w = .ok inf w := by simp [typeInfo, hinf]
  have hz0 : ((zeroValue e).run P w) = .ok zv w := hz1
  by_cases hn0 : c.toNat * n = 0
  · refine ⟨(Array.range 0).map fun _ => default, ?_, ?_⟩
    · simp [Instr.makeSlice, run_underlying hu, asInt, asIntOf, hti, hb, wr c (by omega) h3, wr l h0 (by omega), hbig, hc0, hl0, hlc, run_sizeOf' hn, hn0, run_newRow]
    · have : c.toNat = 0 := by rcases Nat.mul_eq_zero.1 hn0 with h | h; exact h; omega
      rw [this]
      simpa using .nil
  · refine ⟨(Array.range (c.toNat * n)).map fun i => zv.cells[i % zv.cells.size]!, ?_, ?_⟩
    · simp [Instr.makeSlice, run_underlying hu, asInt, asIntOf, hti, hb, wr c (by omega) h3, wr l h0 (by omega), hbig, hc0, hl0, hlc, run_sizeOf' hn, hn0, run_newRow, hz0]
    · rw [hz4]
      exact hz2.replicate _

theorem astep_ok (hE : EnvOk C) (h : astep C o st K = some r) : StepOk C o st K r := by
  intro rd ρ L a w next Q hs hd hn
  obtain ⟨dst, op, type, pos, after, guard⟩ := o
  cases op <;> simp only [astep] at h
  case move x =>
    simp only [Option.bind_eq_some_iff] at h
    obtain ⟨v, hv, h⟩ := h
    exact value_step hs hd hn h (hs.ev hv) rfl
  case assign x =>
    simp only [Option.bind_eq_some_iff] at h
    obtain ⟨v, hv, h⟩ := h
    exact value_step hs hd hn h (hs.ev hv) rfl
  case pick c x y =>
    simp only [Option.bind_eq_some_iff] at h
    obtain ⟨cc, hc, t, ht, h⟩ := h
    have := toBool_some ht; subst this
    have hcr := (hs.evc hc).bool_inv
    cases t with
    | true =>
      simp only [cond_true, Option.bind_eq_some_iff] at h
      obtain ⟨v, hv, h⟩ := h
      exact value_step hs hd hn h (hs.ev hv) (by simp [execOp, hcr, asBool])
    | false =>
      simp only [cond_false, Option.bind_eq_some_iff] at h
      obtain ⟨v, hv, h⟩ := h
      exact value_step hs hd hn h (hs.ev hv) (by simp [execOp, hcr, asBool])
  case alloc e =>
    simp only [Option.bind_eq_some_iff] at h
    obtain ⟨z, hz, n, hsz, h⟩ := h
    cases hb : (z.length == n && Nat.blt 0 n) with
    | false => rw [hb, cond_false] at h; cases h
    | true =>
      rw [hb, cond_true] at h
      obtain ⟨zv, h1, h2⟩ := run_zero' ρ hz w
      exact alloc_step (e := e) hs hd hn h h2 (by simp [execOp, Instr.alloc, h1, newVar, run_newRow])
  case box e x =>
    simp only [Option.bind_eq_some_iff] at h
    obtain ⟨v, hv, cs, hcs, n, hsz, h⟩ := h
    cases hb : (cs.length == n && Nat.blt 0 n) with
    | false => rw [hb, cond_false] at h; cases h
    | true =>
      rw [hb, cond_true] at h
      exact alloc_step (e := e) hs hd hn h ((hs.ev hv).cells hcs) (by simp [execOp, Instr.box, newVar, run_newRow])
  case build t parts =>
    simp only [Option.bind_eq_some_iff] at h
    obtain ⟨ps, hps, z, hz, h⟩ := h
    split at h
    · rename_i fs hu
      simp only [Option.bind_eq_some_iff] at h
      obtain ⟨pl, hpl, cs, hcs, h⟩ := h
      obtain ⟨v, h1, h2⟩ := build_ok hs hps hz (.inl ⟨fs, pl, hu, hpl, rfl⟩) hcs
      exact value_step hs hd hn h h2 (by simp only [execOp, Sem.run_bind, h1, Result.andThen_ok, Sem.run_pure])
    · rename_i n e hu
      simp only [Option.bind_eq_some_iff] at h
      obtain ⟨s, hss, cs, hcs, h⟩ := h
      obtain ⟨v, h1, h2⟩ := build_ok hs hps hz (.inr ⟨n, e, s, hu, hss, rfl⟩) hcs
      exact value_step hs hd hn h h2 (by simp only [execOp, Sem.run_bind, h1, Result.andThen_ok, Sem.run_pure])
    · cases h
  case buildSlice t len parts =>
    simp only [Option.bind_eq_some_iff] at h
    obtain ⟨ps, hps, h⟩ := h
    split at h
    case h_2 => cases h
    rename_i e hu
    simp only [Option.bind_eq_some_iff] at h
    obtain ⟨s, hss, z, hz, h⟩ := h
    cases hb : (Nat.ble (len * s) 16777216 && (z.length == s) && Nat.blt 0 s) with
    | false => rw [hb, cond_false] at h; cases h
    | true =>
      rw [hb, cond_true] at h
      simp only [Bool.and_eq_true, beq_iff_eq, Nat.blt_eq] at hb
      simp only [Option.bind_eq_some_iff] at h
      obtain ⟨cs, hcs, h⟩ := h
      obtain ⟨c, h1, h2⟩ := buildSlice_ok hs hps hu hss hz hb.1.2 hb.2 (Nat.le_of_ble_eq_true hb.1.1) hcs
      refine row_step (w1 := w) hs hd hn (.inl rfl) h (c := c) (e := e) (fz := (0, 0)) (fun j x hj => ?_) (unfrozen_zero _) (fun id => ?_) (u := .slice (some ⟨w.heap.size, 0, none⟩) len len) (by simp only [execOp, Sem.run_bind, h1, Result.andThen_ok, Sem.run_pure])
      · obtain ⟨v, h3, h4⟩ := h2.get hj
        exact ⟨v, by simpa using h3, h4⟩
      · exact .c (.slice (s := ⟨id, 0, len, len, s⟩) (.inl put_self) (Nat.le_refl _) (Nat.le_refl _) (.inl rfl) (.inl rfl))
  case load t x =>
    simp only [Option.bind_eq_some_iff] at h
    obtain ⟨v, hv, h⟩ := h
    obtain ⟨ad, y, u, h1, h2, h3, h4⟩ := load_ok hs (hs.ev hv) h
    have h2 := (reAV_uni h2).1
    exact value_step hs hd hn h2 h4 (by simp only [execOp, h1, Instr.loadAt, Instr.sureAddr, Sem.run_bind, Sem.run_pure, Result.andThen_ok, h3])
  case store t x y =>
    simp only [Option.bind_eq_some_iff] at h
    obtain ⟨v, hv, u, hu, h⟩ := h
    obtain ⟨ad, st', w', h1, h2, h3, h4, h5⟩ := store_ok hs (hs.ev hv) (hs.ev hu) h
    exact skip_step hd hn (by simp only [execOp, h1, Instr.storeAt, Instr.sureAddr, Sem.run_bind, Sem.run_pure, Result.andThen_ok, h3]) h4 h5 h2
  case nilCheck x =>
    simp only [Option.bind_eq_some_iff] at h
    obtain ⟨v, hv, h⟩ := h
    have hr := hs.ev hv
    generalize he : a.eval x = u at hr
    split at h
    · cases hr with
      | lp hL => exact value_step hs hd hn h (.lp hL) (by simp only [execOp, he]; rfl)
    · cases hr with
      | c hc =>
        cases hc with
        | fn h1 h2 => exact value_step hs hd hn h (.c (.fn h1 h2)) (by simp only [execOp, he]; rfl)
    · simp only [Option.bind_eq_some_iff] at h
      obtain ⟨p, hp, q, hq, h⟩ := h
      subst hq
      have := toPtr_some hp; subst this
      cases hr with
      | c hc =>
        cases hc with
        | ptr h1 => exact value_step hs hd hn h (.c (.ptr h1)) (by simp only [execOp, he]; rfl)
    · cases h
  case binOp op xt x y yt =>
    obtain ⟨c, v, h1, h2, h3⟩ := bin_ok hs h
    exact value_step hs hd hn h1 (.c h3) (by show (Bind.bind _ _ : Sem Next).run C.P w = _; rw [Sem.run_bind, h2]; rfl)
  case unOp op xt x =>
    simp only [Option.bind_eq_some_iff] at h
    obtain ⟨c, hc, h⟩ := h
    obtain ⟨d, u, h1, h2, h3⟩ := un_ok (P := C.P) (w := w) (hs.evc hc) h
    exact value_step hs hd hn h1 (.c h3) (by simp only [execOp, Sem.run_bind, h2, Result.andThen_ok, Sem.run_pure])
  case convert s d x =>
    simp only [Option.bind_eq_some_iff] at h
    obtain ⟨c, hc, h⟩ := h
    have hr := hs.evc hc
    generalize he : a.eval x = u at hr
    split at h
    · rename_i k k' hu1 hu2
      simp only [Option.bind_eq_some_iff] at h
      obtain ⟨n, hk, h⟩ := h
      have := toInt_some hk; subst this
      rw [hr.int_inv] at he
      exact value_step hs hd hn h (.c (.int _ _)) (by simp [execOp, he, convert, run_underlying hu1, run_underlying hu2, Conv.intToInt])
    · rename_i hu1 hu2
      simp only [Option.bind_eq_some_iff] at h
      obtain ⟨n, hk, h⟩ := h
      have := toStr_some hk; subst this
      rw [hr.str_inv] at he
      exact value_step hs hd hn h (.c (.str _)) (by simp [execOp, he, convert, run_underlying hu1, run_underlying hu2])
    · rename_i e hu1 hu2
      split at h
      case h_2 => cases h
      rename_i hu3
      simp only [Option.bind_eq_some_iff] at h
      obtain ⟨n, hk, h⟩ := h
      have := toStr_some hk; subst this
      rw [hr.str_inv] at he
      cases hb : decide (n.size ≤ most) with
      | false => rw [hb, cond_false] at h; cases h
      | true =>
        rw [hb, cond_true] at h
        obtain ⟨cap, c, fz, h1, h2, h3, h4, h5⟩ := stringToBytes_run C.P e n w
        refine row_step (w1 := w.drew) hs hd hn (.inr rfl) h (c := c) (e := e) (fz := fz) (fun j y hj => ?_) h4 (fun id => ?_) (u := .slice (some ⟨w.heap.size, 0, none⟩) n.size cap) (by simp [execOp, he, convert, run_underlying hu1, run_underlying hu2, run_underlying hu3, h2])
        · unfold bytesCells at hj
          rw [List.getElem?_map, Option.map_eq_some_iff] at hj
          obtain ⟨b, hb1, rfl⟩ := hj
          have hlt : j < n.size := by have := (List.getElem?_eq_some_iff.1 hb1).1; simpa using this
          exact ⟨_, h5 j hlt, by rw [hb1]; exact .int _ _⟩
        · exact .c (.slice (s := ⟨id, 0, n.size, n.size, 1⟩) (.inl put_self) h1 (Nat.le_refl _) (.inl rfl) (.inr fun m' hm' => by cases hm'; show 0 + 0 + cap * 1 ≤ c.size; omega))
    · rename_i e hu1 hu2
      split at h
      case h_2 => cases h
      rename_i hu3
      simp only [Option.bind_eq_some_iff] at h
      obtain ⟨sl, hk, b, hb, h⟩ := h
      have := toSlice_some hk; subst this
      have hrun := str_ok (C := C) hs.heap hr hb
      refine value_step hs hd hn h (.c (.str _)) ?_
      have hcv : (convert s d u).run C.P w = .ok (.string b) w := by
        cases hr with
        | nilSlice => simp [convert, run_underlying hu1, run_underlying hu2, run_underlying hu3]; exact hrun
        | slice => simp [convert, run_underlying hu1, run_underlying hu2, run_underlying hu3]; exact hrun
      simp [execOp, he, hcv]
    · rename_i e0 e hu1 hu2
      split at h
      case h_2 => cases h
      rename_i hu3
      cases hsd : s == d with
      | false => rw [hsd, cond_false] at h; cases h
      | true =>
        rw [hsd, cond_true] at h
        simp only [Option.bind_eq_some_iff] at h
        obtain ⟨x, hk, sl, rfl, h⟩ := h
        have := toSlice_some hk; subst this
        cases hor0 : decide (0 < sl.cap) && ownRow st.heap sl.id with
        | false => rw [hor0, cond_false] at h; cases h
        | true =>
          rw [hor0, cond_true] at h
          rw [Bool.and_eq_true, decide_eq_true_eq] at hor0
          obtain ⟨hpos, hor⟩ := hor0
          unfold ownRow at hor
          split at hor
          case h_2 => cases hor
          rename_i cs hH
          have hAR : AR ρ L (.c (.slice (some sl))) u := .c hr
          cases hr with
          | slice hr hcap hl ha hm =>
            rename_i b o m cap ad
            obtain ⟨b', o', m', c', e', fz, h1, h2, h3, h4⟩ := hs.heap.row sl.id cs _ hH
            have hb : ad.block = b' := by
              rcases hr with hr | h0
              · rw [h1] at hr; cases hr
                rcases ha with rfl | h0
                · rfl
                · omega
              · omega
            have hrf := hs.refreeze hH h1 h2 (h4 rfl).2
            refine world_step hs hd hn h hAR hrf.1 hrf.2 ?_
            have hsh : w.shape? b' = some (e', c'.size) := by simp [World.shape?, h2]
            simp [execOp, he, convert, run_underlying hu1, run_underlying hu2, run_underlying hu3, hsd, markStringish, hb, hsh]
    · cases h
  case makeFunc fn first captured =>
    cases fn <;> simp only at h <;> try (cases h; done)
    simp only [Option.bind_eq_some_iff] at h
    obtain ⟨fs, hfs, cs, hcs, h⟩ := h
    refine value_step hs hd hn h (.c (.fn (first' := first.map a.eval) (captured' := captured.map a.eval) ?_ ?_)) (by simp [execOp, Instr.makeFunc])
    · rw [toList_map_arr]; exact hs.evcs hfs
    · rw [toList_map_arr]; exact hs.evcs hcs
  case makeMap t r' =>
    simp only [Option.bind_eq_some_iff] at h
    obtain ⟨n, hr', h⟩ := h
    split at h
    case h_2 => cases h
    rename_i kt e hu
    have hrun : (execOp a.eval { dst := dst, op := Op.makeMap t r', type := type, pos := pos, after := after, guard := guard }).run C.P w = .ok (.value (.map (some w.heap.size))) (w.alloc (.map #[] 0)) := by
      rcases evOpt_ok hs hr' with ⟨rfl, rfl⟩ | ⟨y, m, k, rfl, rfl, hy⟩
      · simp [execOp, Instr.makeMap]
      · simp [execOp, Instr.makeMap, hy, run_underlying hu, asInt, asIntOf]
    obtain ⟨id, H', h, hpl⟩ := newB_some h
    obtain ⟨h1, h2⟩ := hs.place (blk := .map [] 0) (o := .map #[] 0) (m := none) hpl rfl (hs.heap.placeMap hpl)
    exact result_step hd hn hrun h1 h2 (.c (.map put_self)) h
  case makeSlice t l c =>
    simp only [Option.bind_eq_some_iff] at h
    obtain ⟨cl, hcl, l', hl', cc, hcc, c', hc', h⟩ := h
    obtain ⟨kl, rfl⟩ := anyInt_some hl'
    obtain ⟨kc, rfl⟩ := anyInt_some hc'
    have hle := (hs.evc hcl).int_inv
    have hce := (hs.evc hcc).int_inv
    split at h
    case h_2 => cases h
    rename_i e hu
    simp only [Option.bind_eq_some_iff] at h
    obtain ⟨n, hsz, by', hby, z, hz, h⟩ := h
    cases hb : (z.length == n && Nat.blt 0 n) with
    | false => rw [hb, cond_false] at h; cases h
    | true =>
      rw [hb, cond_true] at h
      simp only [Bool.and_eq_true, beq_iff_eq, Nat.blt_eq] at hb
      have key : ∀ (hcond : 0 ≤ l' ∧ l' ≤ c' ∧ c' * by' ≤ most ∧ c' ≤ most), (∃ id H', K ((st.withHeap H').set dst (.c (.slice (some ⟨id, 0, l'.toNat, c'.toNat, n⟩)))) = some r ∧ Placed st.heap id H' (.row (List.replicate c'.toNat z).flatten false)) → ({ dst := dst, op := Op.makeSlice t l c, type := type, pos := pos, after := after, guard := guard } : Oper).wpIn (Fen rd) 0 C.P a w next Q := by
        rintro hcond ⟨id, H', h, hpl⟩
        obtain ⟨cR, h1, h2⟩ := make_ok (kl := kl) (kc := kc) hu hsz hby hz hb.1 hb.2 hcond.1 hcond.2.1 hcond.2.2.1 hcond.2.2.2 ρ w
        have hrun : (execOp a.eval { dst := dst, op := Op.makeSlice t l c, type := type, pos := pos, after := after, guard := guard }).run C.P w = .ok (.value (.slice (some ⟨w.heap.size, 0, none⟩) l'.toNat c'.toNat)) (w.alloc (.cells cR e)) := by
          simp only [execOp, hle, hce, Sem.run_bind, h1, Result.andThen_ok, Sem.run_pure]
        have hp := hs.heap.place (cs := (List.replicate c'.toNat z).flatten) (c := cR) (e := e) (fz := (0, 0)) hpl (fun j x hj => by
          obtain ⟨v, h3, h4⟩ := h2.get hj
          exact ⟨v, by simpa using h3, h4⟩) (unfrozen_zero _)
        obtain ⟨h3, h4⟩ := hs.place (o := .cells cR e) (m := some cR.size) hpl rfl hp
        exact result_step hd hn hrun h3 h4 (.c (.slice (s := ⟨id, 0, l'.toNat, c'.toNat, n⟩) (.inl put_self) (Nat.le_refl _) (by show l'.toNat ≤ c'.toNat; omega) (.inl rfl) (.inl rfl))) h
      split at h
      · simp only [Option.bind_eq_some_iff] at h
        obtain ⟨p, hp, h⟩ := h
        unfold Heap.make at hp
        split at hp
        case isFalse => cases hp
        rename_i hcond
        simp at hp
        subst hp
        exact key hcond ⟨_, _, h, Placed.push _ _⟩
      · cases hm : makeOk by' l' c' with
        | false => rw [hm, cond_false] at h; cases h
        | true =>
          rw [hm, cond_true] at h
          obtain ⟨id, H', h, hpl⟩ := newB_some h
          exact key (by simpa [makeOk] using hm) ⟨id, H', h, hpl⟩
  case slice t x lo hi mx =>
    cases mx <;> simp only at h <;> try (cases h; done)
    simp only [Option.bind_eq_some_iff] at h
    obtain ⟨v, hv, lo', hlo, hi', hhi, h⟩ := h
    obtain ⟨y, u, h1, h2, h3⟩ := slice_ok hs (hs.ev hv) hlo hhi h
    exact value_step hs hd hn h1 h3 (by simp only [execOp, Sem.run_bind, h2, Result.andThen_ok, Sem.run_pure])
  case fieldAddr s x f =>
    simp only [Option.bind_eq_some_iff] at h
    obtain ⟨v, hv, fd, hfd, n, hsz, h⟩ := h
    have hr := hs.ev hv
    generalize he : a.eval x = u at hr
    obtain ⟨fs, hu, hf⟩ := fieldOf_some hfd
    cases hb : (n == 0) with
    | true => rw [hb, cond_true] at h; cases h
    | false =>
      rw [hb, cond_false] at h
      have hn0 : n ≠ 0 := by simpa using hb
      have run : ∀ b o, (Instr.fieldAt s (.pointer (some ⟨b, o, none⟩)) f).run C.P w = .ok (.pointer (some ⟨b, o + fd.offset, none⟩)) w := by
        intro b o
        simp [Instr.fieldAt, run_underlying hu, hf, Instr.sureAddr, fieldPlace, run_sizeOf' hsz, hn0, addr_add]
      split at h
      · cases hr with
        | lp hL => exact value_step hs hd hn h (.lp hL) (by simp only [execOp, he, Sem.run_bind, run, Result.andThen_ok, Sem.run_pure])
      · simp only [Option.bind_eq_some_iff] at h
        obtain ⟨p, hp, q, hq, h⟩ := h
        subst hq
        have := toPtr_some hp; subst this
        cases hr with
        | c hc =>
          cases hc with
          | ptr h1 =>
            refine value_step hs hd hn h (.c (.ptr h1)) ?_
            simp only [execOp, he, Sem.run_bind, run, Result.andThen_ok, Sem.run_pure, Nat.add_assoc]
      · cases h
  case field s x f =>
    simp only [Option.bind_eq_some_iff] at h
    obtain ⟨v, hv, fd, hfd, h⟩ := h
    have hr := hs.ev hv
    generalize he : a.eval x = u at hr
    obtain ⟨fs, hu, hf⟩ := fieldOf_some hfd
    split at h
    · cases hr with
      | agg hl =>
        obtain ⟨y, u, h1, h2, h3⟩ := part_ok (P := C.P) (L := L) (w := w) hl h
        refine value_step hs hd hn h1 h3 ?_
        simp only [execOp, he, Instr.field, Sem.run_bind, run_underlying hu, Result.andThen_ok, hf, asAgg, Sem.run_pure, h2]
    · cases h
  case indexAddr t x ix =>
    simp only [Option.bind_eq_some_iff] at h
    obtain ⟨v, hv, c, hc, i, hi, h⟩ := h
    obtain ⟨k, rfl⟩ := anyInt_some hi
    have hie := (hs.evc hc).int_inv
    obtain ⟨y, u, h1, h2, h3⟩ := index_ok (k := k) (w := w) (hs.ev hv) h
    exact value_step hs hd hn h1 h3 (by simp only [execOp, hie, Sem.run_bind, h2, Result.andThen_ok, Sem.run_pure])
  case index t x ix =>
    simp only [Option.bind_eq_some_iff] at h
    obtain ⟨v, hv, c, hc, i, hi, h⟩ := h
    obtain ⟨k, rfl⟩ := anyInt_some hi
    have hie := (hs.evc hc).int_inv
    have hr := hs.ev hv
    generalize he : a.eval x = u at hr
    have inb_iff : ∀ n : Nat, inb i n = true ↔ (0 ≤ i ∧ i < (n : Int)) := by intro n; simp [inb]
    split at h
    · rename_i hu
      simp only [Option.bind_eq_some_iff] at h
      obtain ⟨c, hc, s, hss, h⟩ := h
      have := toStr_some hss; subst this
      cases v <;> simp [AV.cell] at hc
      subst hc
      cases hr with
      | c hcr =>
        rw [hcr.str_inv] at he
        cases hb : inb i s.size with
        | false => rw [hb, cond_false] at h; cases h
        | true =>
          rw [hb, cond_true] at h
          have hb' := (inb_iff _).1 hb
          simp only [Option.bind_eq_some_iff] at h
          obtain ⟨b, hb2, h⟩ := h
          have hlt : i.toNat < s.size := by omega
          have hget : s[i.toNat]? = some b := by
            have h5 : s.data[i.toNat]? = some b := by simpa using hb2
            have h6 := (Array.getElem?_eq_some_iff.1 h5).2
            rw [getElem?_pos s i.toNat hlt]
            exact congrArg some h6
          refine value_step hs hd hn h (.c (.int _ _)) ?_
          simp [execOp, he, hie, Instr.index, asIntOf, run_underlying hu, hb'.1, hget]
    · rename_i n e hu
      simp only [Option.bind_eq_some_iff] at h
      obtain ⟨s, hss, h⟩ := h
      split at h
      case h_2 => cases h
      cases hr with
      | agg hl =>
        cases hb : inb i n with
        | false => rw [hb, cond_false] at h; cases h
        | true =>
          rw [hb, cond_true] at h
          have hb' := (inb_iff _).1 hb
          obtain ⟨y, u, h1, h2, h3⟩ := part_ok (P := C.P) (L := L) (w := w) hl h
          refine value_step hs hd hn h1 h3 ?_
          simp [execOp, he, hie, Instr.index, asIntOf, run_underlying hu, hb', run_sizeOf' hss, h2]
    · cases h
  case lookup t x k ok =>
    simp only [Option.bind_eq_some_iff] at h
    obtain ⟨cm, hcm, mm, hmm, ck, hck, h⟩ := h
    have := toMap_some hmm; subst this
    split at h
    case h_2 => cases h
    rename_i kt e hu
    obtain ⟨d, h1, h2, h3, h4, h5⟩ := keyOf_ok (P := C.P) (hs.evc hck) h
    simp only [Option.bind_eq_some_iff] at h2
    obtain ⟨g, hg, n, hnn, z, hz, x', hx', h2⟩ := h2
    obtain ⟨v, h6, h7⟩ := lookup_ok (ok := ok) hs.heap hu h1 (hs.evc hcm) h3 h4 hz hx'
    have key : ∀ y : TV, x'.1 = y → (bif ok then K (St.set st dst (.tup [y, .c (.bool x'.2)])) else K (St.set st dst y.av)) = some r → (Oper.wpIn (Fen rd) 0 C.P { dst := dst, op := Op.lookup t x k ok, type := type, pos := pos, after := after, guard := guard } a w next Q) := by
      intro y hy h2
      rw [hy] at h6
      cases ok with
      | true =>
        rw [cond_true] at h2
        exact value_step hs hd hn h2 (.tup (vs := #[v, .bool x'.2]) (.cons h6 (.cons (.c (.bool _)) .nil))) (by simp [execOp, h7])
      | false =>
        rw [cond_false] at h2
        exact value_step hs hd hn h2 h6.av (by simp [execOp, h7])
    cases g with
    | true =>
      simp only [cond_true, Option.bind_eq_some_iff] at h2
      obtain ⟨l, hl, h2⟩ := h2
      obtain ⟨h8, h9⟩ := destr_some h2
      refine key (.agg l) ?_ h9
      cases hx : x'.1 <;> rw [hx] at hl <;> simp [TV.aggs] at hl
      rw [hl]
    | false =>
      simp only [cond_false, Option.bind_eq_some_iff] at h2
      obtain ⟨c, hc, h2⟩ := h2
      refine key (.c c) ?_ h2
      cases hx : x'.1 <;> rw [hx] at hc <;> simp [TV.cell] at hc
      rw [hc]
  case mapUpdate t m k x =>
    simp only [Option.bind_eq_some_iff] at h
    obtain ⟨cm, hcm, mm, hmm, ck, hck, xx, ⟨xv, hxv, hxo⟩, h⟩ := h
    have := toMap_some hmm; subst this
    split at h
    case h_2 => cases h
    rename_i kt e hu
    obtain ⟨d, h1, h2, h3, h4, h5⟩ := keyOf_ok (P := C.P) (hs.evc hck) h
    simp only [Option.bind_eq_some_iff] at h2
    obtain ⟨H', hH', h2⟩ := h2
    have hk : CR ρ _ _ := hs.evc hck
    obtain ⟨w', h6, h7, h8⟩ := mapPut_ok hs hu h1 (hs.evc hcm) hk h3 h4 ((hs.ev hxv).out hxo) h5 hH'
    exact skip_step hd hn (by simp only [execOp, Sem.run_bind, h6, Result.andThen_ok, Sem.run_pure]) h7 h8 h2
  case insert t m k x =>
    simp only [Option.bind_eq_some_iff] at h
    obtain ⟨cm, hcm, mm, hmm, ck, hck, xx, ⟨xv, hxv, hxo⟩, h⟩ := h
    have := toMap_some hmm; subst this
    split at h
    case h_2 => cases h
    rename_i kt e hu
    obtain ⟨d, h1, h2, h3, h4, h5⟩ := keyOf_ok (P := C.P) (hs.evc hck) h
    simp only [Option.bind_eq_some_iff] at h2
    obtain ⟨H', hH', h2⟩ := h2
    have hk : CR ρ _ _ := hs.evc hck
    obtain ⟨w', h6, h7, h8⟩ := mapPut_ok hs hu h1 (hs.evc hcm) hk h3 h4 ((hs.ev hxv).out hxo) h5 hH'
    exact skip_step hd hn (by simp only [execOp, Sem.run_bind, h6, Result.andThen_ok, Sem.run_pure]) h7 h8 h2
  case extract t i =>
    simp only [Option.bind_eq_some_iff] at h
    obtain ⟨v, hv, h⟩ := h
    have hr := hs.ev hv
    generalize he : a.eval t = u at hr
    split at h
    · simp only [Option.bind_eq_some_iff] at h
      obtain ⟨x, hx, h⟩ := h
      cases hr with
      | tup hl =>
        obtain ⟨y, h1, h2⟩ := hl.get hx
        refine value_step hs hd hn h h2.av ?_
        simp only [Array.getElem?_toList] at h1
        simp [execOp, he, Instr.extract, h1]
    · cases h
  case call c =>
    obtain ⟨callee, cargs, cts⟩ := c
    cases callee <;> simp only at h
    case value f =>
      simp only [Option.bind_eq_some_iff] at h
      obtain ⟨cf, hcf, vs, hvs, h⟩ := h
      have hr := hs.evc hcf
      generalize he : a.eval f = u at hr
      have hargs := hs.evs hvs
      split at h
      case h_2 => cases h
      rename_i g first cap
      simp only [Option.bind_eq_some_iff] at h
      obtain ⟨F, hF, h⟩ := h
      cases hr with
      | fn hfst hcap =>
        rename_i first' cap'
        have hrun : (execOp a.eval { dst := dst, op := Op.call { callee := .value f, args := cargs, argTypes := cts }, type := type, pos := pos, after := after, guard := guard }).run C.P w =
            (callFunc g (first' ++ cargs.map a.eval ++ cap')).run C.P w := by
          simp [execOp, resolve, he, Deferred.ofValue, invoke]
        refine ⟨fun _ _ => trivial, ?_⟩
        rw [semAt_call, hrun]
        refine hE g F hF R _ st.heap _ r h ρ w _ hs.heap ?_ rd _ a next Q fun x H' ρ' v w' hK hH hx hfr => ?_
        · simp only [Array.toList_append, Array.toList_map]
          exact ((TLR.of_cells hfst).append hargs).append (TLR.of_cells hcap)
        · obtain ⟨h1, h2⟩ := hs.called hH hfr
          exact hn ρ' L _ _ w' hK (h1.set hd hx.none) (by rw [Ch_set]; exact h2) (put_defers ..)
    case builtin b =>
      simp only [Option.bind_eq_some_iff] at h
      obtain ⟨vs, hvs, h⟩ := h
      have hrun : ∃ consts, (execOp a.eval { dst := dst, op := Op.call { callee := .builtin b, args := cargs, argTypes := cts }, type := type, pos := pos, after := after, guard := guard }).run C.P w =
          (builtin b cts type consts (cargs.map a.eval)).run C.P w := ⟨_, rfl⟩
      obtain ⟨consts, hrun⟩ := hrun
      obtain ⟨x, v, st', w', ρ', h1, h2, h3, h4, h5⟩ := builtin_ok (ty := type) (consts := consts) (args := cargs.map a.eval) hs (by simpa using hs.evs hvs) h
      exact result_step hd hn (hrun.trans h2) h3 h4 h5 h1
    all_goals cases h
  all_goals cases h

end
end Go.Proofs.YtnipccoenalnkaaGreat.Ab
