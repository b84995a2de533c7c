/- RopePlays: the law holds for every input. -/
import Derived.Test.YtebpmmffilakaaaRp3
namespace Go.Proofs.Ytebpmmffilakaaa
open Go Go.Proofs.Ytebpmmffilakaaa.Ab
set_option linter.unusedVariables false
set_option linter.unusedSimpArgs false
set_option maxRecDepth 100000
noncomputable section
theorem bxor_u8 (a k : Int) : ∃ u : UInt8, [Cell.int IntKind.u8 (bxor IntKind.u8 a k)] = E8 u := by
  unfold bxor
  rw [wrap_u8]
  generalize ((BitVec.ofInt IntKind.u8.bits a ^^^ BitVec.ofInt IntKind.u8.bits k).toNat : Int) = x
  refine ⟨UInt8.ofNat (x % 256).toNat, ?_⟩
  unfold E8
  rw [UInt8.toNat_ofNat_of_lt' (by simp [UInt8.size]; omega)]
  congr 2; omega
theorem loop6_7 (l : Option Sl) (r : Option (Nat × Nat)) (b s : Option Sl) : ∀ (m n i : Nat) (M : List UInt8) (H : Heap), i + m = M.length → M.length ≤ 1048576 → OS 1 E8 H s M →
    ∃ H', D6_7 (n + m + 1) l s r b (M.length : Int) (i : Int) H = some (.exit 0, X6_7 l r b H') ∧ Kp (Of s) H H'
  | 0, n, i, M, H, hi, hM, ho => by
    have g : decide ((i : Int) < (M.length : Int)) = false := by simp; omega
    exact ⟨H, by rw [D6_7_s, g, cf], Kp.refl _ _⟩
  | m + 1, n, i, M, H, hi, hM, ho => by
    have hil : i < M.length := by omega
    have hb : M[i]? = some M[i] := List.getElem?_eq_getElem hil
    have g : decide ((i : Int) < (M.length : Int)) = true := by simp; omega
    have g3 : IntKind.i64.wrap ((i : Int) + 1) = ((i + 1 : Nat) : Int) := by rw [wrap_i64 (by omega) (by omega)]; omega
    obtain ⟨sl, rfl, g2, g4⟩ := ho.rs.idx1 hb (e := fun b => .int .u8 (b.toNat : Int)) fun _ => rfl
    obtain ⟨u, hu⟩ := bxor_u8 ((M[i].toNat : Nat) : Int) 1
    obtain ⟨H1, p1, p2, p3, p4⟩ := ho.put E8_len (y := u) (vs := E8 u) (j := 0) hb (by show 0 + 1 ≤ 1; omega) (by rw [show E8 M[i] = [Cell.int .u8 (M[i].toNat : Int)] from rfl]; rfl)
    obtain ⟨H', j1, j2⟩ := loop6_7 l r b (some sl) m n (i + 1) (M.set i u) H1 (by simp; omega) (by simpa using hM) p2
    rw [List.length_set] at j1
    refine ⟨H', ?_, (p3.mono fun k _ e => (⟨sl, rfl, e⟩ : Of (some sl) k)).trans j2 (fun _ h => h) fun _ _ h => h⟩
    have p1' : H.put sl.id (sl.off + (i : Int).toNat * 1) (E8 u) = some H1 := by rw [Int.toNat_natCast]; exact p1
    rw [show n + (m + 1) + 1 = (n + m + 1) + 1 by omega, D6_7_s, g]
    simp only [ct, bs, g2, g3, g4, tInt, hu, p1']
    exact j1
theorem loop6_20 (r : Option (Nat × Nat)) (b s t49 : Option Sl) (ok : Bool) (t50 t51 : Int) : ∀ (m n i : Nat) (M : List UInt8) (H : Heap), i + m = M.length → M.length ≤ 1048576 → OS 1 E8 H s M →
    ∃ H', D6_20 (n + m + 1) r b ok s t49 t50 t51 (M.length : Int) (i : Int) H = some (.exit 4, X6_20 r b ok t49 t50 t51 H') ∧ Kp (Of s) H H'
  | 0, n, i, M, H, hi, hM, ho => by
    have g : decide ((i : Int) < (M.length : Int)) = false := by simp; omega
    exact ⟨H, by rw [D6_20_s, g, cf], Kp.refl _ _⟩
  | m + 1, n, i, M, H, hi, hM, ho => by
    have hil : i < M.length := by omega
    have hb : M[i]? = some M[i] := List.getElem?_eq_getElem hil
    have g : decide ((i : Int) < (M.length : Int)) = true := by simp; omega
    have g3 : IntKind.i64.wrap ((i : Int) + 1) = ((i + 1 : Nat) : Int) := by rw [wrap_i64 (by omega) (by omega)]; omega
    obtain ⟨sl, rfl, g2, g4⟩ := ho.rs.idx1 hb (e := fun b => .int .u8 (b.toNat : Int)) fun _ => rfl
    obtain ⟨u, hu⟩ := bxor_u8 ((M[i].toNat : Nat) : Int) 3
    obtain ⟨H1, p1, p2, p3, p4⟩ := ho.put E8_len (y := u) (vs := E8 u) (j := 0) hb (by show 0 + 1 ≤ 1; omega) (by rw [show E8 M[i] = [Cell.int .u8 (M[i].toNat : Int)] from rfl]; rfl)
    obtain ⟨H', j1, j2⟩ := loop6_20 r b (some sl) t49 ok t50 t51 m n (i + 1) (M.set i u) H1 (by simp; omega) (by simpa using hM) p2
    rw [List.length_set] at j1
    refine ⟨H', ?_, (p3.mono fun k _ e => (⟨sl, rfl, e⟩ : Of (some sl) k)).trans j2 (fun _ h => h) fun _ _ h => h⟩
    have p1' : H.put sl.id (sl.off + (i : Int).toNat * 1) (E8 u) = some H1 := by rw [Int.toNat_natCast]; exact p1
    rw [show n + (m + 1) + 1 = (n + m + 1) + 1 by omega, D6_20_s, g]
    simp only [ct, bs, g2, g3, g4, tInt, hu, p1']
    exact j1
/-- A call, in cells. -/
structure OpV where
  k : Int
  w : Int
  n : Int
  m : Int
  L : Option Sl
  B : Option Sl
  S : ByteArray
def EO (o : OpV) : List Cell := [.int .i64 o.k, .int .i64 o.w, .int .i64 o.n, .int .i64 o.m, .slice o.L, .slice o.B, .str o.S]
theorem EO_len (o : OpV) : (EO o).length = 7 := rfl
def OpQ (H0 : Heap) (o : OpV) : Prop := ∃ L M, RS 1 EU H0 o.L L ∧ (∀ v ∈ L, v < 18446744073709551616) ∧ RS 1 E8 H0 o.B M
theorem loop6_13 (H0 : Heap) (id : Nat) (t : Option Sl) (qs : List OpV) (ht : RS 7 EO H0 t qs) (hq : ∀ q ∈ qs, OpQ H0 q) : ∀ (m n i : Nat) (b : Option Sl) (B : List UInt8) (H : Heap), i + m = qs.length → I6 H0 H id b B →
    ∃ b' B' H', D6_13 (n + m + 1) (some (id, 0)) b true t (qs.length : Int) (i : Int) H = some (.exit 2, X6_13 (some (id, 0)) b' true H') ∧ I6 H0 H' id b' B'
  | 0, n, i, b, B, H, hi, h => by
    have g : decide ((i : Int) < (qs.length : Int)) = false := by simp; omega
    exact ⟨b, B, H, by rw [D6_13_s, g, cf], h⟩
  | m + 1, n, i, b, B, H, hi, h => by
    have hil : i < qs.length := by omega
    have hqi : qs[i]? = some qs[i] := List.getElem?_eq_getElem hil
    have hQ := hq qs[i] (List.getElem_mem hil)
    have g : decide ((i : Int) < (qs.length : Int)) = true := by simp; omega
    obtain ⟨sl, rfl, gi, gc⟩ := (ht.new EO_len (by decide) h.kp fun _ _ h => h).idx EO_len hqi
    generalize qs[i] = q at gc hQ
    have c0 : H.get sl.id (sl.off + (i : Int).toNat * 7) = some (.int .i64 q.k) := gc 0 _ rfl
    have c1 : H.get sl.id (sl.off + (i : Int).toNat * 7 + 1) = some (.int .i64 q.w) := gc 1 _ rfl
    have c2 : H.get sl.id (sl.off + (i : Int).toNat * 7 + 1 + 1) = some (.int .i64 q.n) := gc 2 _ rfl
    have c3 : H.get sl.id (sl.off + (i : Int).toNat * 7 + 1 + 1 + 1) = some (.int .i64 q.m) := gc 3 _ rfl
    have c4 : H.get sl.id (sl.off + (i : Int).toNat * 7 + 1 + 1 + 1 + 1) = some (.slice q.L) := gc 4 _ rfl
    have c5 : H.get sl.id (sl.off + (i : Int).toNat * 7 + 1 + 1 + 1 + 1 + 1) = some (.slice q.B) := gc 5 _ rfl
    have c6 : H.get sl.id (sl.off + (i : Int).toNat * 7 + 1 + 1 + 1 + 1 + 1 + 1) = some (.str q.S) := gc 6 _ rfl
    rw [D6_13_s]
    by_cases h30 : i < 30
    · have g30 : decide ((i : Int) ≥ 30) = false := by simp; omega
      have g3 : IntKind.i64.wrap ((i : Int) + 1) = ((i + 1 : Nat) : Int) := by rw [wrap_i64 (by omega) (by omega)]; omega
      obtain ⟨L, M, hL, hL64, hM⟩ := hQ
      obtain ⟨b1, B1, H1, e1, e2⟩ := f28_spec h q.k q.w q.n q.m q.L q.B q.S L M hL hL64 hM
      obtain ⟨s2, H2, d1, d2, d3, d4⟩ := f29_spec e2.rp e2.len
      have e3 := e2.grow d3
      have hlen := g12_spec H2 e3.rp
      have zl : ((B1.length : Int) == slen b1) = true := by rw [e3.hb.slenEq]; simp
      have zs : strEq ⟨B1.toArray⟩ ⟨B1.toArray⟩ = true := by simp [strEq]
      obtain ⟨k, hk⟩ := LL6_20_of B1.length (by have := e2.len; omega) (some (id, 0)) b1 true s2 (some sl) (qs.length : Int) (i : Int) (slen s2) 0 H2
      obtain ⟨H3, j1, j2⟩ := loop6_20 (some (id, 0)) b1 s2 (some sl) true (qs.length : Int) (i : Int) B1.length k 0 B1 H2 (by omega) e2.len d2
      have l2 := d3.len
      have e4 : I6 H0 H3 id b1 B1 := by
        have kF : Kp (FF H1 id) H1 H3 := d3.trans j2 (fun _ h => h.elim) fun i hi ⟨st, f1, f2⟩ => by have := d4 st f1; omega
        refine e2.same ?_ kF
        obtain ⟨s, h1, h2, h3, h4, h5⟩ := e2.rpF
        have kS : Kp (Of s2) H1 H3 := d3.trans j2 (fun _ h => h.elim) fun _ _ h => h
        refine ⟨s, kS.at h1 fun ⟨st, f1, f2⟩ => ?_, h2.kp kS fun sl e ⟨st, f1, f2⟩ => ?_, h3, h4, h5⟩
        · have := d4 st f1; have := lt_of h1; omega
        · have := d4 st f1; subst e; have := h2.lt; omega
      obtain ⟨b', B', H', r1, r2⟩ := loop6_13 H0 id (some sl) qs ht hq m n (i + 1) b1 B1 H3 (by omega) e4
      refine ⟨b', B', H', ?_, r2⟩
      refine cdt g ((Ab.bs _ _).trans (cdt gi (bnd c0 (bnd c1 (bnd c2 (bnd c3 (bnd c4 (bnd c5 (bnd c6 (bnd (tInt _ _) (bnd (tInt _ _) (bnd (tInt _ _) (bnd (tInt _ _) (bnd (tSlice _) (bnd (tSlice _) (bnd (tStr _) (cdf g30 (cdf rfl (bnd e1 (bnd d1 (cdt rfl (bnd hlen (cdt zl (bnd d2.rs.str (bnd e3.hb.str ?_)))))))))))))))))))))))))
      dsimp only
      rw [zs, hk, d2.rs.slenEq]
      refine bnd j1 ?_
      rw [J6_20_0, g3]
      exact r1
    · have g30 : decide ((i : Int) ≥ 30) = true := by simp; omega
      exact ⟨b, B, H, cdt g ((Ab.bs _ _).trans (cdt gi (bnd c0 (bnd c1 (bnd c2 (bnd c3 (bnd c4 (bnd c5 (bnd c6 (bnd (tInt _ _) (bnd (tInt _ _) (bnd (tInt _ _) (bnd (tInt _ _) (bnd (tSlice _) (bnd (tSlice _) (bnd (tStr _) (cdt g30 rfl))))))))))))))))), h⟩
theorem clone6 (H : Heap) (s : Option Sl) (l : List UInt8) (hs : RS 1 E8 H s l) (hl : l.length ≤ 1048576) : ∃ s' H', (H ++ [Blk.row [] false]).append 1 1 (some { id := List.length H, off := 0, len := 0, cap := 0, esz := 1 }) s = some (s', H') ∧ OS 1 E8 H' s' l ∧ Kp No H H' ∧ New H.length s' := by
  have kp : Kp No H (H ++ [.row [] false]) := Kp.push _ _ _
  obtain ⟨s', H', h2, h3, h4, h5⟩ := append_OS E8_len (by decide) (by' := 1) (OS_new (n := 1) (E := E8) H) (hs.new E8_len (by decide) kp fun _ _ h => h) (by simp [most]; omega)
  refine ⟨s', H', h2, by simpa using h3, kp.trans h4 (fun _ h => h) (fun i hi hf => ?_), fun sl' e => ?_⟩
  · obtain ⟨sl0, e0, e1⟩ := hf; cases e0; exact absurd e1 (by show ¬ i = H.length; omega)
  · rcases h5 sl' e with ⟨sl0, e0, e1⟩ | h
    · cases e0; rw [e1]; exact Nat.le_refl _
    · simp at h; omega
theorem tail6 (H0 : Heap) (s t : Option Sl) (M : List UInt8) (hs : RS 1 E8 H0 s M) (hM : M.length ≤ 100) (qs : List OpV) (ht : RS 7 EO H0 t qs) (hq : ∀ q ∈ qs, OpQ H0 q) (hqs : qs.length ≤ maxLen) :
    ∃ H', (((H0 ++ [Blk.row [] false]).append 1 1 (some { id := List.length H0, off := 0, len := 0, cap := 0, esz := 1 }) s).bind fun v40 => (Sl.sub v40.fst 0 (some (IntKind.i64.wrap ((slen v40.fst).tdiv 2)))).bind fun v39 => bif esOk v40.fst 1 then (Sl.sub v40.fst (IntKind.i64.wrap ((slen v40.fst).tdiv 2)) none).bind fun v38 => bif esOk v40.fst 1 then (f10 (some { id := List.length v40.snd, off := 0, len := 2, cap := 2, esz := 1 }) (v40.snd ++ [Blk.row [Cell.slice v39, Cell.slice v38] false])).bind fun v37 => ((v37.snd ++ [Blk.row [] false]).append 1 1 (some { id := List.length v37.snd, off := 0, len := 0, cap := 0, esz := 1 }) s).bind fun v36 => (LL6_7 t v40.fst v37.fst v36.fst (slen v40.fst) 0 v36.snd).bind J6_7 else none else none) = some (true, H') := by
  obtain ⟨sm, H1, a1, a2, a3, a4⟩ := clone6 H0 s M hs (by omega)
  have gd : IntKind.i64.wrap ((slen sm).tdiv 2) = ((M.length / 2 : Nat) : Int) := by
    rw [a2.rs.slenEq, show ((2 : Int)) = ((2 : Nat) : Int) from rfl, ← Int.ofNat_tdiv, wrap_i64 (by omega) (by omega)]
  obtain ⟨sa, b1, b2, _⟩ := a2.rs.sub0 E8_len (M.length / 2) (by omega)
  obtain ⟨sb, c1, c2, _⟩ := a2.rs.subE E8_len (M.length / 2) (by omega)
  have hrs := rss2 b2 c2
  obtain ⟨H2, d1, d2, d3⟩ := f10_spec _ _ _ hrs (by simp) (by simp; omega)
  have hcat : catCut [] [M.take (M.length / 2), M.drop (M.length / 2)] = M := by
    simp only [catCut, List.nil_append, List.length_nil]
    rw [List.take_of_length_le (show (M.take (M.length / 2)).length ≤ 1048576 - 0 by simp; omega), List.take_of_length_le (show (M.drop (M.length / 2)).length ≤ _ by simp; omega), List.take_append_drop]
  rw [hcat] at d2
  have l1 : (H1 ++ [Blk.row [Cell.slice sa, Cell.slice sb] false]).length = H1.length + 1 := by simp
  rw [l1] at d1 d2
  have k1 : Kp No H1 H2 := (Kp.push No H1 _).trans d3 (fun _ h => h) fun _ _ h => h
  have k2 : Kp No H0 H2 := a3.trans k1 (fun _ h => h) fun _ _ h => h
  obtain ⟨s3, H3, e1, e2, e3, e4⟩ := clone6 H2 s M (hs.new E8_len (by decide) k2 fun _ _ h => h) (by omega)
  have k3 : Kp No H1 H3 := k1.trans e3 (fun _ h => h) fun _ _ h => h
  obtain ⟨n, hn⟩ := LL6_7_of M.length (by omega) t sm (some (H1.length + 1, 0)) s3 (slen sm) 0 H3
  obtain ⟨H4, j1, j2⟩ := loop6_7 t (some (H1.length + 1, 0)) s3 sm M.length n 0 M H3 (by omega) (by omega) (a2.kp k3 fun _ _ h => h)
  have hsm : ∀ st, sm = some st → st.id < H1.length ∧ H0.length ≤ st.id := fun st e => ⟨by subst e; exact a2.lt, a4 st e⟩
  have l2 := k1.len
  have l3 := a3.len
  have l4 := d3.len
  rw [l1] at l4
  have k4 : Kp (Of sm) H2 H4 := e3.trans j2 (fun _ h => h.elim) fun _ _ h => h
  have hI : I6 H0 H4 (H1.length + 1) s3 M := by
    have hr4 : RP (Up (H1.length + 1)) H4 (H1.length + 1) M := by
      obtain ⟨s, h1, h2, h3, h4, h5⟩ := d2
      refine ⟨s, k4.at h1 fun ⟨st, f1, f2⟩ => by have := hsm st f1; omega, h2.kp k4 fun sl e ⟨st, f1, f2⟩ => ?_, h3, h4, h5⟩
      have := hsm st f1; have := h5 sl e; unfold Up at this; omega
    refine ⟨rp_mono hr4 fun i _ hi => Nat.le_trans (show H0.length ≤ H1.length + 1 by omega) hi, e2.rs.kp j2 fun sl e _ ⟨st, f1, f2⟩ => by have := hsm st f1; have := e4 sl e; omega, fun sb e _ => ?_, by omega, ?_, fun sb e => ?_⟩
    · have h0 := e4 sb e
      obtain ⟨s, h1, h2, h3, h4, h5⟩ := d2
      have hl := lt_of h1
      refine ⟨by omega, fun sl e1 e2 => ?_⟩
      rw [k4.at h1 fun ⟨st, f1, f2⟩ => by have := hsm st f1; omega] at e1
      cases e1
      have := h2.lt
      omega
    · exact (a3.trans k3 (D := No) (fun _ h => h) fun _ _ h => h).trans j2 (fun _ h => h) fun i hi ⟨st, f1, f2⟩ => by have := hsm st f1; omega
    · subst e; have := e2.lt; have := j2.len; omega
  obtain ⟨n2, hn2⟩ := LL6_13_of qs.length (by unfold maxLen at hqs; omega) (some (H1.length + 1, 0)) s3 true t (slen t) 0 H4
  obtain ⟨b', B', H5, r1, r2⟩ := loop6_13 H0 (H1.length + 1) t qs ht hq qs.length n2 0 s3 M H4 (by omega) hI
  obtain ⟨s6, H6, p1, p2, p3, p4⟩ := f29_spec r2.rp r2.len
  have hsame : sameS b' H5 H6 = true := by
    cases b' with
    | none => rfl
    | some sl => simp [sameS, same, p3.same sl.id (r2.lt sl rfl) (fun h => h)]
  refine ⟨H6, bnd a1 ?_⟩
  rw [gd]
  refine bnd b1 (cdt a2.rs.esOkT (bnd c1 (cdt a2.rs.esOkT (bnd d1 (bnd e1 ?_)))))
  rw [hn, a2.rs.slenEq]
  refine bnd j1 ?_
  rw [J6_7_0, hn2, ht.slenEq]
  refine bnd r1 ?_
  rw [J6_13_0]
  refine cdt rfl (bnd p1 (bnd p2.rs.str (bnd ((r2.grow p3).hb.str) (cdt hsame (cdt ?_ rfl)))))
  simp [strEq]
theorem f6_true (H0 : Heap) (s t : Option Sl) (M : List UInt8) (hs : RS 1 E8 H0 s M) (qs : List OpV) (ht : RS 7 EO H0 t qs) (hq : ∀ q ∈ qs, OpQ H0 q) (hqs : qs.length ≤ maxLen) : ∃ H', f6 s t H0 = some (true, H') := by
  rw [q6]
  by_cases h : M.length ≤ 100
  · obtain ⟨H', h'⟩ := tail6 H0 s t M hs h qs ht hq hqs
    exact ⟨H', cdf (by rw [hs.slenEq]; simp; omega) h'⟩
  · obtain ⟨s', c1, c2, _⟩ := hs.sub0 E8_len 100 (by omega)
    obtain ⟨H', h'⟩ := tail6 H0 s' t (M.take 100) c2 (by simp; omega) qs ht hq hqs
    exact ⟨H', cdt (by rw [hs.slenEq]; simp; omega) (bnd c1 (cdt hs.esOkT h'))⟩
theorem u64_of {H : Heap} {n : Nat} (cs : List Cell) (h : Sh Try.prog H (n + 1) 32 cs) : ∃ x, cs = EU x ∧ x < 18446744073709551616 := by
  obtain ⟨x, rfl, hx⟩ := sh_int h Try.underlying32
  have := wf_u64 hx
  exact ⟨x.toNat, by unfold EU; congr 2; omega, by omega⟩
theorem holds6 (Hp : Heap) (xs : List TV) (_hn : NoOwn Hp) (hxs : TShAll Try.prog Hp 12 Try.f6.params.toList xs) : fnA CC6 Try.f6.results.toList (bodyOf Try.f6) Bool xs Hp (fun x _ => x.cell.bind Cell.toBool) = some true := by
  have hp : Try.f6.params.toList = [34, 55] := by kernel_rfl
  rw [hp] at hxs
  obtain ⟨x0, xr, rfl, t0, x1, xr1, rfl, t1, hnil⟩ := hxs
  subst hnil
  obtain ⟨c0, rfl, s0⟩ := tsh_c t0 (by simp [Try.underlying34]) (by simp [Try.underlying34])
  obtain ⟨c1, rfl, s1⟩ := tsh_c t1 (by simp [Try.underlying55]) (by simp [Try.underlying55])
  obtain ⟨b, B, e0, hb, _⟩ := sh_slice E8 (fun _ => True) E8_len s0 Try.underlying34 (by kernel_rfl) (u8_of Try.underlying5)
  obtain ⟨t, qs, e1, ht, hq, _, hqs⟩ := sh_slice EO (OpQ Hp) EO_len s1 Try.underlying55 (k := 7) (by kernel_rfl) (fun cs h => by
    obtain ⟨h1, h2⟩ := sh_struct h Try.underlying57
    have h1 : cs.length = 7 := h1.trans (by kernel_rfl)
    obtain ⟨y0, z0, _⟩ := sh_int (h2 0 _ rfl) Try.underlying3
    obtain ⟨y1, z1, _⟩ := sh_int (h2 1 _ rfl) Try.underlying3
    obtain ⟨y2, z2, _⟩ := sh_int (h2 2 _ rfl) Try.underlying3
    obtain ⟨y3, z3, _⟩ := sh_int (h2 3 _ rfl) Try.underlying3
    obtain ⟨y4, L, z4, hL, hL64, _⟩ := sh_slice EU (fun v => v < 18446744073709551616) EU_len (h2 4 _ rfl) Try.underlying22 (by kernel_rfl) u64_of
    obtain ⟨y5, M, z5, hM, _⟩ := sh_slice E8 (fun _ => True) E8_len (h2 5 _ rfl) Try.underlying34 (by kernel_rfl) (u8_of Try.underlying5)
    obtain ⟨y6, z6, _⟩ := sh_str (h2 6 _ rfl) Try.underlying9
    have hc : Try.prog.cellsOf 3 = 1 := by kernel_rfl
    have hc2 : Try.prog.cellsOf 22 = 1 := by kernel_rfl
    have hc3 : Try.prog.cellsOf 34 = 1 := by kernel_rfl
    have hc4 : Try.prog.cellsOf 9 = 1 := by kernel_rfl
    rw [hc] at z0 z1 z2 z3
    rw [hc2] at z4
    rw [hc3] at z5
    rw [hc4] at z6
    have w0 := drop_app (o := 0) z0 rfl
    have w1 := drop_app (o := 1) z1 rfl
    have w2 := drop_app (o := 2) z2 rfl
    have w3 := drop_app (o := 3) z3 rfl
    have w4 := drop_app (o := 4) z4 rfl
    have w5 := drop_app (o := 5) z5 rfl
    have w6 := drop_app (o := 6) z6 rfl
    have w7 : cs.drop 7 = [] := List.drop_eq_nil_of_le (by omega)
    exact ⟨⟨y0, y1, y2, y3, y4, y5, y6⟩, by rw [List.drop_zero] at w0; rw [w0, w1, w2, w3, w4, w5, w6, w7]; rfl, L, M, hL, hL64, hM⟩)
  cases e0; cases e1
  obtain ⟨H', h⟩ := f6_true Hp b t B hb qs ht hq hqs
  rw [f6_eq] at h
  exact law_of hN6 (fun v hv => by
    unfold dec6 at hv
    split at hv
    · cases hv; rfl
    · cases hv) h
end
end Go.Proofs.Ytebpmmffilakaaa
