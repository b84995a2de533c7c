/- RopeReads: the law holds for every input. -/
import Derived.Test.YtebpmmffilakaaaRp2
import Derived.Test.YtebpmmffilakaaaAb30
namespace Go.Proofs.Ytebpmmffilakaaa
open Go Go.Proofs.Ytebpmmffilakaaa.Ab
set_option linter.unusedVariables false
set_option maxRecDepth 100000
noncomputable section
theorem loop4 (H0 : Heap) (idv idw : Nat) (B : List UInt8) (sv sw : Option Sl) (t : Option Sl) (qs : List (Int × Int × Int)) (ht : RS 3 EA H0 t qs) : ∀ (m n i a : Nat) (e : Int) (H : Heap), i + m = qs.length → I4 H0 H idv idw B sv sw a e →
    ∃ H' a' e', D4_8 (n + m + 1) (some (idv, 0)) (some (idw, 0)) t (qs.length : Int) (i : Int) H = some (.exit 0, X4_8 (some (idv, 0)) (some (idw, 0)) H') ∧ I4 H0 H' idv idw B sv sw a' e'
  | 0, n, i, a, e, H, hi, h => by
    have g : decide ((i : Int) < (qs.length : Int)) = false := by simp; omega
    exact ⟨H, a, e, by rw [D4_8_s, g, cf], h⟩
  | m + 1, n, i, a, e, H, hi, h => by
    have hil : i < qs.length := by omega
    have hqi : qs[i]? = some qs[i] := List.getElem?_eq_getElem hil
    by_cases h30 : i < 30
    · obtain ⟨H', a', e', h', hs⟩ := step4 h t qs ht i _ hqi h30 (qs.length : Int) (by omega)
      obtain ⟨H2, a2, e2, j1, j2⟩ := loop4 H0 idv idw B sv sw t qs ht m n (i + 1) a' e' H' (by omega) h'
      exact ⟨H2, a2, e2, (hs _).trans j1, j2⟩
    · have g : decide ((i : Int) < (qs.length : Int)) = true := by simp; omega
      have g30 : decide ((i : Int) ≥ 30) = true := by simp; omega
      obtain ⟨sl, rfl, gi, gc⟩ := (ht.new EA_len (by decide) h.kp fun _ _ h => h).idx EA_len hqi
      have c0 : H.get sl.id (sl.off + (i : Int).toNat * 3) = some (.int .i64 qs[i].1) := gc 0 _ rfl
      have c1 : H.get sl.id (sl.off + (i : Int).toNat * 3 + 1) = some (.int .i64 qs[i].2.1) := gc 1 _ rfl
      have c2 : H.get sl.id (sl.off + (i : Int).toNat * 3 + 1 + 1) = some (.int .i64 qs[i].2.2) := gc 2 _ rfl
      refine ⟨H, a, e, ?_, h⟩
      rw [D4_8_s]
      exact cdt g ((Ab.bs _ _).trans (cdt gi (bnd c0 (bnd c1 (bnd c2 (bnd (tInt _ _) (bnd (tInt _ _) (bnd (tInt _ _) (cdt g30 rfl)))))))))
theorem tail4 (H0 : Heap) (b : Option Sl) (B : List UInt8) (hb : RS 1 E8 H0 b B) (hB : B.length ≤ 200) (x : Int) (t : Option Sl) (qs : List (Int × Int × Int)) (ht : RS 3 EA H0 t qs) (hq : qs.length ≤ maxLen) :
    ∃ H', ((f10 (some { id := List.length H0, off := 0, len := 1, cap := 1, esz := 1 }) (H0 ++ [Blk.row [Cell.slice b] false])).bind fun v193 => (f13 v193.fst x v193.snd).bind fun v192 => bif !R2_Has b x 0 then (LL4_8 v192.fst (some (List.length (v192.snd ++ [Blk.row [Cell.slice b, Cell.int IntKind.i64 x, Cell.int IntKind.i64 0] false]), 0)) t (slen t) 0 (v192.snd ++ [Blk.row [Cell.slice b, Cell.int IntKind.i64 x, Cell.int IntKind.i64 0] false] ++ [Blk.row [Cell.slice none, Cell.int IntKind.i64 0, Cell.int IntKind.i64 7] false])).bind J4_8 else (LL4_8 v192.fst (some (List.length v192.snd, 0)) t (slen t) 0 (v192.snd ++ [Blk.row [Cell.slice b, Cell.int IntKind.i64 x, Cell.int IntKind.i64 0] false])).bind J4_8) = some (true, H') := by
  have k1 : Kp No H0 (H0 ++ [Blk.row [Cell.slice b] false]) := Kp.push _ _ _
  have hrs : RSS (H0 ++ [Blk.row [Cell.slice b] false]) (some { id := List.length H0, off := 0, len := 1, cap := 1, esz := 1 }) [B] := by
    refine ⟨[b], ⟨rfl, rfl, Nat.le_refl _, fun i c e => ?_⟩, rfl, fun j p l e1 e2 => ?_⟩
    · show Heap.get _ H0.length (0 + i) = some c
      rw [za, get_of (push_get _ _)]; exact e
    · cases j with
      | zero => cases e1; cases e2; exact hb.new E8_len (by decide) k1 fun _ _ h => h
      | succ j => simp at e1
  obtain ⟨H2, a1, ⟨s, r1, r2, r3, r4, r5⟩, a3⟩ := f10_spec _ _ [B] hrs (by simp) (by simp; omega)
  have hcat : catCut [] [B] = B := by
    show [] ++ B.take (1048576 - 0) = B
    rw [List.nil_append, List.take_of_length_le (by omega)]
  rw [hcat] at r2
  have k2 := k1.trans a3 (D := No) (fun _ h => h) fun _ _ h => h
  have hl1 : (H0 ++ [Blk.row [Cell.slice b] false]).length = H0.length + 1 := by simp
  rw [hl1] at a1 r1 r3 r4 r5
  have hend : ∀ (idv idw : Nat) (sv sw : Option Sl) (a : Nat) (e : Int) (H : Heap), I4 H0 H idv idw B sv sw a e → ∃ H', (LL4_8 (some (idv, 0)) (some (idw, 0)) t (slen t) 0 H).bind J4_8 = some (true, H') := fun idv idw sv sw a e H hI => by
    obtain ⟨n, hn⟩ := LL4_8_of qs.length (by unfold maxLen at hq; omega) (some (idv, 0)) (some (idw, 0)) t (slen t) 0 H
    obtain ⟨H', a', e', j1, j2⟩ := loop4 H0 idv idw B sv sw t qs ht qs.length n 0 a e H (by omega) hI
    rw [hn, ht.slenEq, show D4_8 (n + qs.length + 1) _ _ t _ 0 H = _ from j1, Ab.bs, J4_8_0]
    have ze : (e' == e') = true := by simp
    exact ⟨H', bnd (g18_spec _ _ _ _ _ j2.v) ((Ab.bs _ _).trans (bnd (get_of j2.w _) (bnd (tInt _ _) (cdt ze rfl))))⟩
  have hlen : H0.length + 1 ≤ H2.length := by have := a3.len; simpa using this
  cases hh : hasI B.length x 0 with
  | true =>
    have hR : R2_Has b x 0 = true := by rw [R2_has_eq, has_eq hb (by omega)]; exact hh
    obtain ⟨s', H3, d1, d2, d3, d4⟩ := f13_yes (H0.length + 1) s B x H2 r1 r2.rs (by simp [most]; omega) hh
    obtain ⟨k, rfl, _⟩ : ∃ k : Nat, x = (k : Int) ∧ True := ⟨x.toNat, by simp only [hasI, Bool.and_eq_true, decide_eq_true_eq] at hh; omega, trivial⟩
    have hk : k ≤ B.length := by simp only [hasI, Bool.and_eq_true, decide_eq_true_eq] at hh; omega
    have k3 := k2.trans d3 (D := No) (fun _ h => h) fun _ _ h => h
    have hl3 := d3.len
    have hw : (H3 ++ [vw s' (k : Int) 0]).length = H3.length + 1 := by simp
    obtain ⟨H', hf⟩ := hend H3.length (H3.length + 1) s' b k 0 (H3 ++ [vw s' (k : Int) 0] ++ [vw b (k : Int) 0]) (by
      have kf : Kp No H3 (H3 ++ [vw s' (k : Int) 0] ++ [vw b (k : Int) 0]) := by rw [List.append_assoc]; exact Kp.push _ _ _
      refine ⟨by omega, by omega, by omega, push_old (push_get _ _), by rw [← hw]; exact push_get _ _, fun _ => ⟨d2.rs.new E8_len (by decide) kf fun _ _ h => h, hb.new E8_len (by decide) (k3.trans kf (D := No) (fun _ h => h) fun _ _ h => h) fun _ _ h => h, fun sl e e0 => ?_, fun sl e e0 => ?_, hk, by omega⟩, k3.trans kf (fun _ h => h) fun _ _ h => h⟩
      · subst e; have := d2.lt; omega
      · subst e; have := hb.lt E8_len (by decide) e0; omega)
    refine ⟨H', bnd a1 (bnd d1 (cdf (by rw [hR]; rfl) ?_))⟩
    rw [← hw] at hf
    exact hf
  | false =>
    have hR : R2_Has b x 0 = false := by rw [R2_has_eq, has_eq hb (by omega)]; exact hh
    have d1 := f13_no (H0.length + 1) s B x H2 r1 r2.rs (by simp [most]; omega) hh
    have hw : (H2 ++ [vw none 0 7] ++ [Blk.row [Cell.slice b, Cell.int IntKind.i64 x, Cell.int IntKind.i64 0] false]).length = H2.length + 2 := by simp
    obtain ⟨H', hf⟩ := hend H2.length (H2.length + 2) none none 0 7 (H2 ++ [vw none 0 7] ++ [Blk.row [Cell.slice b, Cell.int IntKind.i64 x, Cell.int IntKind.i64 0] false] ++ [vw none 0 7]) (by
      have kf : Kp No H2 (H2 ++ [vw none 0 7] ++ [Blk.row [Cell.slice b, Cell.int IntKind.i64 x, Cell.int IntKind.i64 0] false] ++ [vw none 0 7]) := by rw [List.append_assoc, List.append_assoc]; exact Kp.push _ _ _
      refine ⟨by omega, by omega, by omega, push_old (push_old (push_get _ _)), by rw [← hw]; exact push_get _ _, fun e => absurd e (by decide), k2.trans kf (fun _ h => h) fun _ _ h => h⟩)
    rw [← hw] at hf
    exact ⟨H', bnd a1 (bnd d1 (cdt (by rw [hR]; rfl) hf))⟩
theorem f4_true (H0 : Heap) (b : Option Sl) (B : List UInt8) (hb : RS 1 E8 H0 b B) (x : Int) (t : Option Sl) (qs : List (Int × Int × Int)) (ht : RS 3 EA H0 t qs) (hq : qs.length ≤ maxLen) : ∃ H', f4 b x t H0 = some (true, H') := by
  rw [q4]
  by_cases h : B.length ≤ 200
  · obtain ⟨H', h'⟩ := tail4 H0 b B hb h x t qs ht hq
    exact ⟨H', cdf (by rw [hb.slenEq]; simp; omega) h'⟩
  · obtain ⟨s', c1, c2, _⟩ := hb.sub0 E8_len 200 (by omega)
    obtain ⟨H', h'⟩ := tail4 H0 s' (B.take 200) c2 (by simp; omega) x t qs ht hq
    exact ⟨H', cdt (by rw [hb.slenEq]; simp; omega) (bnd c1 (cdt hb.esOkT h'))⟩
theorem holds4 (Hp : Heap) (xs : List TV) (_hn : NoOwn Hp) (hxs : TShAll Try.prog Hp 12 Try.f4.params.toList xs) : fnA CC4 Try.f4.results.toList (bodyOf Try.f4) Bool xs Hp (fun x _ => x.cell.bind Cell.toBool) = some true := by
  have hp : Try.f4.params.toList = [34, 3, 41] := by kernel_rfl
  rw [hp] at hxs
  obtain ⟨x0, xr, rfl, t0, x1, xr1, rfl, t1, x2, xr2, rfl, t2, hnil⟩ := hxs
  subst hnil
  obtain ⟨c0, rfl, s0⟩ := tsh_c t0 (by simp [Try.underlying34]) (by simp [Try.underlying34])
  obtain ⟨c1, rfl, s1⟩ := tsh_c t1 (by simp [Try.underlying3]) (by simp [Try.underlying3])
  obtain ⟨c2, rfl, s2⟩ := tsh_c t2 (by simp [Try.underlying41]) (by simp [Try.underlying41])
  obtain ⟨b, B, e0, hb, _⟩ := sh_slice E8 (fun _ => True) E8_len s0 Try.underlying34 (by kernel_rfl) (u8_of Try.underlying5)
  obtain ⟨x, e1, _⟩ := sh_int s1 Try.underlying3
  obtain ⟨t, qs, e2, ht, _, _, hq⟩ := sh_slice EA (fun _ => True) EA_len s2 Try.underlying41 (k := 3) (by kernel_rfl) (fun cs h => by
    obtain ⟨h1, h2⟩ := sh_struct h Try.underlying47
    have h1 : cs.length = 3 := h1.trans (by kernel_rfl)
    obtain ⟨y0, z0, _⟩ := sh_int (h2 0 _ rfl) Try.underlying3
    obtain ⟨y1, z1, _⟩ := sh_int (h2 1 _ rfl) Try.underlying3
    obtain ⟨y2, z2, _⟩ := sh_int (h2 2 _ rfl) Try.underlying3
    have hc : Try.prog.cellsOf 3 = 1 := by kernel_rfl
    rw [hc] at z0 z1 z2
    have w0 := drop_app (o := 0) z0 rfl
    have w1 := drop_app (o := 1) z1 rfl
    have w2 := drop_app (o := 2) z2 rfl
    have w3 : cs.drop 3 = [] := List.drop_eq_nil_of_le (by omega)
    exact ⟨(y0, y1, y2), by rw [List.drop_zero] at w0; rw [w0, w1, w2, w3]; rfl, trivial⟩)
  cases e0; cases e1; cases e2
  obtain ⟨H', h⟩ := f4_true Hp b B hb x t qs ht hq
  rw [f4_eq] at h
  exact law_of hN4 (fun v hv => by
    unfold dec4 at hv
    split at hv
    · cases hv; rfl
    · cases hv) h
end
end Go.Proofs.Ytebpmmffilakaaa
