/- Layer 28: CatBorne holds. -/
import Derived.Test.YthakpjkmianglaaCaI
import Derived.Test.YthakpjkmianglaaCaL
namespace Go.Proofs.Ythakpjkmianglaa
open Go Go.Proofs.Ythakpjkmianglaa.Ab
set_option linter.unusedVariables false
set_option linter.unusedSimpArgs false
set_option maxRecDepth 100000
noncomputable section
/-- An order that the document bears out. -/
structure Borne (x : Ex) (o : List Nat) : Prop where
  len : o.length = x.L.length
  lt : ∀ a ∈ o, a < x.L.length
  ne : ∀ (i k a b : Nat), k < i → o[i]? = some a → o[k]? = some b → a ≠ b ∧ aheadR x a b = false
theorem borne_of {x : Ex} {o : List Nat} (h : orderX x = some o) : Borne x o ∧ MayI x := by
  unfold orderX at h
  cases hI : internalX x && atomicX x with
  | false => rw [hI] at h; cases h
  | true =>
    rw [hI, ct] at h
    unfold internalX at hI
    simp only [Bool.and_eq_true] at hI
    have hM := (may_iff _).1 hI.1.1
    obtain ⟨g, hl⟩ := sort_good _ _ _ (Good.nil _ _) h
    simp only [List.length_nil, Nat.zero_add] at hl
    refine ⟨⟨hl, g.lt, fun i k a b hki ha hb => ?_⟩, hM⟩
    have hil := (List.getElem?_eq_some_iff.1 ha).1
    have hkl := (List.getElem?_eq_some_iff.1 hb).1
    have ea := (List.getElem?_eq_some_iff.1 ha).2
    have eb := (List.getElem?_eq_some_iff.1 hb).2
    have hpw := List.pairwise_iff_getElem.1 (List.nodup_iff_pairwise_ne.1 g.nd)
    refine ⟨fun e => hpw k i hkl hil hki (by rw [ea, eb, e]), ?_⟩
    cases hR : aheadR x a b with
    | false => rfl
    | true =>
      have hA := aheadR_le hM (g.lt a (List.mem_of_getElem? ha)) (g.lt b (List.mem_of_getElem? hb)) hR
      have hm := g.be k b hb a (g.lt a (List.mem_of_getElem? ha)) hA
      obtain ⟨q, hq, e⟩ := List.getElem_of_mem hm
      rw [List.length_take] at hq
      rw [List.getElem_take] at e
      exact absurd (e.trans ea.symm) (hpw q i (by omega) hil (by omega))
theorem nats_get {o : List Nat} {i a : Nat} (h : o[i]? = some a) : (nats o)[i]? = some (a : Int) := by
  unfold nats; rw [List.getElem?_map, h]; rfl
theorem loop4b {H : Heap} {s : XS} {x : Ex} (h : RX H s x) (hM : MayI x) (so : Option Sl) (o : List Nat) (ho : RS 1 EI H so (nats o)) (hB : Borne x o) (N i a : Nat) (hi : i < o.length) (ha : o[i]? = some a) : ∀ (m n k : Nat), k + m = i →
    (D4_11 (n + m + 1) so (i : Int) (k : Int) (o.length : Int) (i : Int) s.l s.r s.c s.e H).bind (J4_11 N) = D4_8 N so (o.length : Int) (IntKind.i64.wrap ((i : Int) + 1)) s.l s.r s.c s.e H
  | 0, n, k, hm => by
    have g : decide ((k : Int) < (i : Int)) = false := by simp; omega
    rw [D4_11_s, g, cf, Ab.bs, J4_11_1]
  | m + 1, n, k, hm => by
    have g : decide ((k : Int) < (i : Int)) = true := by simp; omega
    have hk : k < o.length := by omega
    have hb := h.bl
    have hol := hB.len
    obtain ⟨b, hb'⟩ : ∃ b, o[k]? = some b := ⟨_, List.getElem?_eq_getElem hk⟩
    obtain ⟨hne, hR⟩ := hB.ne i k a b (by omega) ha hb'
    have hal := hB.lt a (List.mem_of_getElem? ha)
    have hbl := hB.lt b (List.mem_of_getElem? hb')
    obtain ⟨sl, e0, g1, c0⟩ := gets1 ho (nats_get ha)
    obtain ⟨sl2, e2, g2, c1⟩ := gets1 ho (nats_get hb')
    rw [e0] at e2; cases e2
    have ih := loop4b h hM so o ho hB N i a hi ha m n (k + 1) (by omega)
    have t1 : decide ((a : Int) < 0) = false := by simp
    have t2 : decide ((b : Int) < 0) = false := by simp
    have t3 : decide ((a : Int) ≥ (x.L.length : Int)) = false := by simp; omega
    have t4 : decide ((b : Int) ≥ (x.L.length : Int)) = false := by simp; omega
    have t5 : ((a : Int) == (b : Int)) = false := by simp; omega
    have t6 := f11_x h hM.rl a b hal hbl
    rw [hR] at t6
    rw [show n + (m + 1) + 1 = (n + m + 1) + 1 by omega, D4_11_s, g, ct]
    rw [e0] at ih ⊢
    simp only [ct, cf, Ab.bs, g1, g2, c0, c1, tInt, t1, t2, h.l.slenEq, t3, t4, t5, t6, i64_succ k (by omega)]
    exact ih
theorem loop4a {H : Heap} {s : XS} {x : Ex} (h : RX H s x) (hM : MayI x) (so : Option Sl) (o : List Nat) (ho : RS 1 EI H so (nats o)) (hB : Borne x o) : ∀ (m n i : Nat), i + m = o.length →
    ∃ H', (D4_8 (n + m + 1) so (o.length : Int) (i : Int) s.l s.r s.c s.e H).bind J4_8 = some (true, H')
  | 0, n, i, hm => by
    have g : decide ((i : Int) < (o.length : Int)) = false := by simp; omega
    obtain ⟨H', e⟩ := f9_t H
    exact ⟨H', by rw [D4_8_s, g, cf, Ab.bs, J4_8_0, e]; rfl⟩
  | m + 1, n, i, hm => by
    have g : decide ((i : Int) < (o.length : Int)) = true := by simp; omega
    have hi : i < o.length := by omega
    have hb := h.bl
    have hol := hB.len
    obtain ⟨q, e⟩ := LL4_11_of i (by omega) so (i : Int) 0 (o.length : Int) (i : Int) s.l s.r s.c s.e H
    have hL := loop4b h hM so o ho hB (n + m + 1) i _ hi (List.getElem?_eq_getElem hi) i q 0 (by omega)
    obtain ⟨H', r⟩ := loop4a h hM so o ho hB m n (i + 1) (by omega)
    refine ⟨H', ?_⟩
    rw [show n + (m + 1) + 1 = (n + m + 1) + 1 by omega, D4_8_s, g, ct, e, show (0 : Int) = ((0 : Nat) : Int) from rfl, hL, i64_succ i (by omega)]
    exact r
theorem f4_x {H : Heap} {s : XS} {x : Ex} (hl : RS 9 E9 H s.l x.L) (hr : RS 1 EI H s.r x.Rf) (hc : RS 1 EI H s.c x.Co) (he : RS 2 EP H s.e x.Ad) : ∃ H', f4 s.l s.r s.c s.e H = some (true, H') := by
  rw [q4]
  obtain ⟨a, b, c, d, e1, h1⟩ := f6_x hl hr hc he
  rw [e1, Ab.bs]
  dsimp only
  obtain ⟨y, H1, e2, k2, h2⟩ := f8_x h1
  dsimp only at e2
  rw [e2, Ab.bs]
  dsimp only
  obtain ⟨so, ok, H2, e3, t3, k3⟩ := f7_x h2
  dsimp only at e3
  rw [e3, Ab.bs]
  dsimp only
  unfold Answers at t3
  cases hO : orderX (cutX x) with
  | none =>
    rw [hO] at t3
    obtain ⟨H', e⟩ := f9_t H2
    rw [t3.1, t3.2]
    exact ⟨H', by rw [Bool.not_false, ct, show (slen none == 0) = true from rfl, ct, e]; rfl⟩
  | some o =>
    rw [hO] at t3
    obtain ⟨hB, hM⟩ := borne_of hO
    rw [t3.1, Bool.not_true, cf]
    have h3 := h1.no (k2.tr k3)
    have hb := h3.bl
    have hol := hB.len
    have hlo : slen so = (o.length : Int) := by rw [t3.2.slenEq]; simp [nats]
    have hla : slen a = ((cutX x).L.length : Int) := h1.l.slenEq
    obtain ⟨q, e⟩ := LL4_8_of o.length (by omega) so (o.length : Int) 0 a b c d H2
    obtain ⟨H', r⟩ := loop4a h3 hM so o t3.2 hB o.length q 0 (by omega)
    refine ⟨H', ?_⟩
    rw [hlo, hla, hol, show (((cutX x).L.length : Int) != ((cutX x).L.length : Int)) = false by simp, cf, ← hol, e]
    exact r
theorem holds4 (Hp : Heap) (xs : List TV) (_hn : NoOwn Hp) (hxs : TShAll Try.prog Hp 12 Try.f4.params.toList xs) : fnA CC4 Try.f4.results.toList (bodyOf Try.f4) Bool xs Hp (fun x _ => x.cell.bind Cell.toBool) = some true := by
  have hp : Try.f4.params.toList = [26] := by kernel_rfl
  rw [hp] at hxs
  obtain ⟨x0, xr0, rfl, t0, hnil⟩ := hxs
  subst hnil
  obtain ⟨cs, rfl, s0⟩ := tsh_agg t0 Try.underlying26
  obtain ⟨s, x, rfl, r0, r1, r2, r3⟩ := ex_of cs s0
  obtain ⟨H', h⟩ := f4_x r0 r1 r2 r3
  rw [f4_eq] at h
  exact law_of hN4 (fun v hv => by
    unfold dec4 at hv
    split at hv
    · cases hv; rfl
    · cases hv) h
end
end Go.Proofs.Ythakpjkmianglaa
