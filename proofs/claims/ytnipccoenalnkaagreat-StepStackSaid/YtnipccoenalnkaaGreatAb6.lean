/- The abstract machine, 6: more operations. -/
import Derived.Test.YtnipccoenalnkaaGreatAb5
namespace Go.Proofs.YtnipccoenalnkaaGreat.Ab
open Go
set_option linter.unusedVariables false
set_option linter.unusedSimpArgs false

section
variable {R : Type} {C : Ctx} {o : Oper} {st : St} {K : St → Option R} {r : R} {ρ : Rho} {L : Nat → Option Nat} {a : Act} {w : World} {next : Act → World → Prop} {Q : Exit → Act → World → Prop}

theorem addr_add (b o n : Nat) : Addr.add ⟨b, o, none⟩ n = ⟨b, o + n, none⟩ := by
  unfold Addr.add
  split
  · rename_i h; simp [h]
  · rfl
theorem evOpt_ok (h : SR C.nt ρ L st a w) {x : Option Operand} {n : Option Int} (hx : evOpt st x = some n) :
    (x = none ∧ n = none) ∨ ∃ y m k, x = some y ∧ n = some m ∧ a.eval y = .int k m := by
  cases x with
  | none => simp [evOpt] at hx; exact .inl ⟨rfl, hx.symm⟩
  | some y =>
    simp only [evOpt, Option.bind_eq_some_iff] at hx
    obtain ⟨c, hc, m, hm, he⟩ := hx
    obtain ⟨k, rfl⟩ := anyInt_some hm
    simp at he
    exact .inr ⟨y, m, k, rfl, he.symm, (h.evc hc).int_inv⟩

theorem un_ok {op : UnOp} {c : Cell} {v : Value} {P : Program} {t : TypeId} {K : Cell → Option R} (hc : CR ρ c v) (hK : unA op c (kindT P t) K = some r) :
    ∃ d u, K d = some r ∧ (Op.unary op v).run P w = .ok u w ∧ CR ρ d u := by
  unfold unA at hK
  split at hK
  · simp only [Option.bind_eq_some_iff] at hK
    obtain ⟨b, hb, hK⟩ := hK
    have := toBool_some hb; subst this
    rw [hc.bool_inv]
    exact ⟨_, _, hK, rfl, .bool _⟩
  · rename_i k _
    simp only [Option.bind_eq_some_iff] at hK
    obtain ⟨n, hn, hK⟩ := hK
    have := toInt_some hn; subst this
    rw [hc.int_inv]
    exact ⟨_, _, hK, rfl, .int _ _⟩
  · rename_i k _
    simp only [Option.bind_eq_some_iff] at hK
    obtain ⟨n, hn, hK⟩ := hK
    have := toInt_some hn; subst this
    rw [hc.int_inv]
    exact ⟨_, _, hK, rfl, .int _ _⟩
  · cases hK

theorem sizeT_info {P : Program} {t : TypeId} {n : Nat} (h : sizeT P t = some n) : ∃ i, P.info? t = some i ∧ i.size = n := by
  simpa [sizeT] using h

theorem index_ok {t : TypeId} {x : AV} {u : Value} {i : Int} {k : IntKind} {K : AV → Option R} (hx : AR ρ L x u) (hK : indexA C.P t x i K = some r) :
    ∃ y v, K y = some r ∧ (Instr.indexAt t u (.int k i)).run C.P w = .ok v w ∧ AR ρ L y v := by
  unfold indexA at hK
  have inb_iff : ∀ n : Nat, inb i n = true ↔ (0 ≤ i ∧ i < (n : Int)) := by intro n; simp [inb]
  split at hK
  · rename_i n e hu
    simp only [Option.bind_eq_some_iff] at hK
    obtain ⟨s, hs, hK⟩ := hK
    obtain ⟨inf, hinf, hsz⟩ := sizeT_info hs
    have go : ∀ (b o : Nat), (0 ≤ i ∧ i < (n : Int)) → (Instr.indexAt t (.pointer (some ⟨b, o, none⟩)) (.int k i)).run C.P w = .ok (.pointer (some ⟨b, o + i.toNat * s, none⟩)) w := by
      intro b o hi
      simp [Instr.indexAt, asIntOf, run_underlying hu, Instr.sureAddr, hi, sizeOf, typeInfo, hinf, hsz, addr_add]
    split at hK
    · rename_i k' off
      cases hx with
      | lp hL =>
        cases hi : inb i n with
        | false => rw [hi, cond_false] at hK; cases hK
        | true =>
          rw [hi, cond_true] at hK
          exact ⟨_, _, hK, go _ _ ((inb_iff n).1 hi), .lp hL⟩
    · rename_i c
      simp only [Option.bind_eq_some_iff] at hK
      obtain ⟨p, hp, q, hq, hK⟩ := hK
      subst hq
      have := toPtr_some hp; subst this
      cases hx with
      | c hc =>
        cases hc with
        | ptr hi' =>
          cases hi : inb i n with
          | false => rw [hi, cond_false] at hK; cases hK
          | true =>
            rw [hi, cond_true] at hK
            refine ⟨_, _, hK, go _ _ ((inb_iff n).1 hi), ?_⟩
            rw [Nat.add_assoc]
            exact .c (.ptr hi')
    · cases hK
  · rename_i e hu
    simp only [Option.bind_eq_some_iff] at hK
    obtain ⟨s, hs, c, hc, sl, hsl, q, hq, hK⟩ := hK
    obtain ⟨inf, hinf, hsz⟩ := sizeT_info hs
    subst hq
    have := toSlice_some hsl; subst this
    cases x <;> simp [AV.cell] at hc
    subst hc
    cases hx with
    | c hc =>
      cases hc with
      | slice hr hcap hl ha hm =>
        rename_i b o m cap ad
        cases hi : (inb i q.len && q.esz == s) with
        | false => rw [hi, cond_false] at hK; cases hK
        | true =>
          rw [hi, cond_true] at hK
          simp only [Bool.and_eq_true] at hi
          have hi' := (inb_iff _).1 hi.1
          have had : ad = ⟨b, o + q.off, none⟩ := by
            rcases ha with ha | ha
            · exact ha
            · omega
          subst had
          have hr := hr.resolve_right (by omega)
          refine ⟨_, .pointer (some ⟨b, o + q.off + i.toNat * s, none⟩), hK, ?_, ?_⟩
          · simp [Instr.indexAt, asIntOf, run_underlying hu, hi', sizeOf, typeInfo, hinf, hsz, addr_add]
          · rw [Nat.add_assoc]
            exact .c (.ptr hr)
  · cases hK

theorem sliceBound_run (P : Program) (k : IntKind) (i : Int) (y : Nat) (code : BoundsCode) (h : 0 ≤ i ∧ i ≤ y) : (Instr.sliceBound (.int k i) y code).run P w = .ok i.toNat w := by
  simp [Instr.sliceBound, asIntOf, h]
/-- The bounds of a slice expression without a third index. -/
theorem bounds_run (P : Program) (isS : Bool) (len cap : Nat) {lo hi : Option Value} {l : Int} {h : Int} 
    (hlo : (lo = none ∧ l = 0) ∨ ∃ k, lo = some (.int k l)) (hhi : (hi = none ∧ h = len) ∨ ∃ k, hi = some (.int k h)) (h0 : 0 ≤ l) (h1 : l ≤ h) (h2 : h ≤ cap) :
    (Instr.sliceBounds isS len cap lo hi none).run P w = .ok (l.toNat, h.toNat, cap) w := by
  have e2 : ∀ k code, (Instr.sliceBound (.int k h) cap code).run P w = .ok h.toNat w := fun k code => sliceBound_run P k h cap code ⟨by omega, h2⟩
  have e1 : ∀ k code, (Instr.sliceBound (.int k l) h.toNat code).run P w = .ok l.toNat w := fun k code => sliceBound_run P k l h.toNat code ⟨h0, by omega⟩
  rcases hlo with ⟨rfl, rfl⟩ | ⟨k, rfl⟩ <;> rcases hhi with ⟨rfl, rfl⟩ | ⟨k', rfl⟩
  · simp [Instr.sliceBounds]
  · simp [Instr.sliceBounds, e2]
  · have e1' : ∀ k code, (Instr.sliceBound (.int k l) len code).run P w = .ok l.toNat w := fun k code => sliceBound_run P k l len code ⟨h0, by omega⟩
    simp [Instr.sliceBounds, e1']
  · simp [Instr.sliceBounds, e2, e1]

theorem slice_ok (h : SR C.nt ρ L st a w) {t : TypeId} {x : AV} {u : Value} {lo hi : Option Operand} {lo' hi' : Option Int} {K : AV → Option R} (hx : AR ρ L x u)
    (hlo : evOpt st lo = some lo') (hhi : evOpt st hi = some hi') (hK : sliceA C.P t x lo' hi' K = some r) :
    ∃ y v, K y = some r ∧ (Instr.sliceAt t u (lo.map a.eval) (hi.map a.eval) ((none : Option Operand).map a.eval)).run C.P w = .ok v w ∧ AR ρ L y v := by
  have hl : (lo.map a.eval = none ∧ lo'.getD 0 = 0) ∨ ∃ k, lo.map a.eval = some (.int k (lo'.getD 0)) := by
    rcases evOpt_ok h hlo with ⟨rfl, rfl⟩ | ⟨y, m, k, rfl, rfl, he⟩
    · exact .inl ⟨rfl, rfl⟩
    · exact .inr ⟨k, by simp [he]⟩
  have hh : ∀ len : Nat, (hi.map a.eval = none ∧ hi'.getD (len : Int) = len) ∨ ∃ k, hi.map a.eval = some (.int k (hi'.getD len)) := by
    intro len
    rcases evOpt_ok h hhi with ⟨rfl, rfl⟩ | ⟨y, m, k, rfl, rfl, he⟩
    · exact .inl ⟨rfl, rfl⟩
    · exact .inr ⟨k, by simp [he]⟩
  generalize lo.map a.eval = lov at *
  generalize hi.map a.eval = hiv at *
  unfold sliceA at hK
  generalize lo'.getD 0 = l at *
  simp only [Option.map_none]
  split at hK
  · rename_i hu
    simp only [Option.bind_eq_some_iff] at hK
    obtain ⟨c, hc, s, hs, r', hr', hK⟩ := hK
    have := toStr_some hs; subst this
    cases x <;> simp [AV.cell] at hc
    subst hc
    cases hx with
    | c hc =>
      rw [hc.str_inv]
      unfold strSub at hr'
      split at hr'
      · rename_i hb
        simp at hr'
        subst hr'
        refine ⟨_, _, hK, ?_, .c (.str _)⟩
        simp [Instr.sliceAt, Instr.slice, run_underlying hu, bounds_run C.P false s.size s.size hl (hh s.size) hb.1 hb.2.1 hb.2.2]
      · cases hr'
  · rename_i e hu
    simp only [Option.bind_eq_some_iff] at hK
    obtain ⟨n, hn, c, hc, s, hs, r', hr', hK⟩ := hK
    have := toSlice_some hs; subst this
    cases x <;> simp [AV.cell] at hc
    subst hc
    cases hx with
    | c hc =>
      cases hc with
      | nilSlice =>
        simp only [Sl.sub] at hr'
        split at hr'
        · rename_i hb
          simp at hr'
          subst hr'
          simp only [esOk, cond_true] at hK
          refine ⟨_, _, hK, ?_, .c .nilSlice⟩
          obtain ⟨hb1, hb2⟩ := hb
          subst hb1
          have hhz : (hiv = none ∧ (0 : Int) = ((0 : Nat) : Int)) ∨ ∃ k, hiv = some (.int k 0) := by
            rcases hh 0 with ⟨h1, _⟩ | ⟨k, h1⟩
            · exact .inl ⟨h1, rfl⟩
            · exact .inr ⟨k, by rw [h1]; simp; exact hb2⟩
          simp [Instr.sliceAt, Instr.slice, run_underlying hu, bounds_run (h := 0) C.P true 0 0 hl hhz (by omega) (by omega) (by omega), run_sizeOf' hn]
        · cases hr'
      | slice hr hcap hlen ha hm =>
        rename_i sl b o m cap ad
        simp only [Sl.sub] at hr'
        split at hr'
        · rename_i hb
          simp at hr'
          subst hr'
          simp only [esOk] at hK
          cases hes : (sl.esz == n) with
          | false => rw [hes, cond_false] at hK; cases hK
          | true =>
            rw [hes, cond_true] at hK
            have hes' : sl.esz = n := by simpa using hes
            refine ⟨_, .slice (some (if cap = l.toNat then ad else ad.add (l.toNat * n))) ((hi'.getD sl.len).toNat - l.toNat) (cap - l.toNat), hK, ?_, ?_⟩
            · simp only [Instr.sliceAt, Instr.slice, Sem.run_bind, run_underlying hu, Result.andThen_ok, bounds_run C.P true sl.len cap hl (hh sl.len) hb.1 hb.2.1 (by omega), run_sizeOf' hn, Sem.run_pure]
              congr 2
              split <;> simp
            · have e1 : (hi'.getD sl.len - l).toNat = (hi'.getD sl.len).toNat - l.toNat := by omega
              rw [← e1]
              refine .c (.slice (s := ⟨sl.id, sl.off + l.toNat * sl.esz, (hi'.getD sl.len - l).toNat, sl.cap - l.toNat, sl.esz⟩) (hr.imp id (by omega)) (by show sl.cap - l.toNat ≤ cap - l.toNat; omega) (by show (hi'.getD sl.len - l).toNat ≤ sl.cap - l.toNat; omega) ?_ ?_)
              · by_cases hcl : cap = l.toNat
                · exact .inr (by omega)
                · refine .inl ?_
                  rw [if_neg hcl]
                  rcases ha with rfl | ha
                  · rw [addr_add, hes']; show _ = (⟨b, o + (sl.off + l.toNat * n), none⟩ : Addr); rw [Nat.add_assoc]
                  · omega
              · show cap - l.toNat = sl.cap - l.toNat ∨ ∀ m', m = some m' → o + (sl.off + l.toNat * sl.esz) + (cap - l.toNat) * sl.esz ≤ m'
                rcases hm with hm | hm
                · exact .inl (by omega)
                · refine .inr fun m' hm' => ?_
                  have h1 := hm m' hm'
                  have : cap * sl.esz = l.toNat * sl.esz + (cap - l.toNat) * sl.esz := by rw [← Nat.add_mul]; congr 1; omega
                  omega
        · cases hr'
  · rename_i n e hu
    simp only [Option.bind_eq_some_iff] at hK
    obtain ⟨s, hs, c, hc, p, hp, q, hq, r', hr', hK⟩ := hK
    subst hq
    have := toPtr_some hp; subst this
    cases x <;> simp [AV.cell] at hc
    subst hc
    cases hx with
    | c hc =>
      cases hc with
      | ptr hi2 =>
        rename_i id off b o m
        simp only [Sl.sub] at hr'
        split at hr'
        · rename_i hb
          simp at hr'
          subst hr'
          refine ⟨_, .slice (some (if n = l.toNat then (⟨b, o + off, none⟩ : Addr) else (⟨b, o + off, none⟩ : Addr).add (l.toNat * s))) ((hi'.getD n).toNat - l.toNat) (n - l.toNat), hK, ?_, ?_⟩
          · simp only [Instr.sliceAt, Sem.run_bind, run_underlying hu, Result.andThen_ok, Instr.sureAddr, Sem.run_pure, bounds_run C.P false n n hl (hh n) hb.1 hb.2.1 (by omega), run_sizeOf' hs]
          · have e1 : (hi'.getD n - l).toNat = (hi'.getD n).toNat - l.toNat := by omega
            rw [← e1]
            refine .c (.slice (s := ⟨id, off + l.toNat * s, (hi'.getD n - l).toNat, n - l.toNat, s⟩) (.inl hi2) (Nat.le_refl _) (by show (hi'.getD n - l).toNat ≤ n - l.toNat; omega) ?_ (.inl rfl))
            by_cases hcl : n = l.toNat
            · exact .inr (by omega)
            · refine .inl ?_
              rw [if_neg hcl, addr_add]
              show _ = (⟨b, o + (off + l.toNat * s), none⟩ : Addr)
              rw [Nat.add_assoc]
        · cases hr'
  · cases hK

end
end Go.Proofs.YtnipccoenalnkaaGreat.Ab
