/- Layer 2: the store's functions, in direct style. -/
import Derived.Test.YtebpmmffilakaaaProg
import Derived.Test.YtebpmmffilakaaaAb29
import Derived.KernelRfl
namespace Go.Proofs.Ytebpmmffilakaaa
open Go Go.Proofs.Ytebpmmffilakaaa.Ab
set_option linter.unusedVariables false
set_option maxRecDepth 100000
noncomputable section
/-- The number of bytes, the lowest first. -/
def numB : List UInt8 → Nat
  | [] => 0
  | b :: l => b.toNat + 256 * numB l
theorem numB_lt : ∀ l : List UInt8, numB l < 256 ^ l.length
  | [] => by simp [numB]
  | b :: l => by
    have h1 := numB_lt l
    have h2 := b.toNat_lt
    simp only [numB, List.length_cons, Nat.pow_succ]
    omega
theorem wrapU_nat (n : Nat) (h : n < 18446744073709551616) : IntKind.u64.wrap (n : Int) = n := by rw [wrap_u64]; omega
def ES (s : Option Sl) : List Cell := [.slice s]
theorem ES_len (s : Option Sl) : (ES s).length = 1 := rfl
/-- Are there n bytes from one on, of so many? -/
def hasI (L : Nat) (a n : Int) : Bool := decide (a ≥ 0) && (decide (n ≥ 0) && (decide (a ≤ L) && decide (n ≤ L - a)))
/-! 8: R2_Is -/
noncomputable def CC8 : Ctx := { P := Try.prog, own := [], fns := [], nt := 17, nums := [], live := [] }
theorem good8 : Callees Try.prog CC8.fns [] CC8.nums := Callees.nil Try.prog
def R2_Is (w : Int) : Bool := w == 1 || (w == 2 || (w == 4 || w == 8))
noncomputable def G8 : List TV → Option (List TV)
  | [.c (Cell.int .i64 w)] => some [.c (Cell.bool ((R2_Is w)))]
  | _ => none
noncomputable def F8 : FnSem := numF G8
theorem F8_num : FnNum F8 := numF_num _
theorem e8 : ∀ (R : Type) (w : Int) (H : Heap) (K : AV → Heap → Option R) (lp : Code → St → (AExit → St → Option R) → Option R), fnL CC8 lp Try.f8.results.toList (bodyOf Try.f8) [TV.c (Cell.int IntKind.i64 w)] H K = bif w == 1 then K (AV.c (Cell.bool true)) H else bif w == 2 then K (AV.c (Cell.bool true)) H else bif w == 4 then K (AV.c (Cell.bool true)) H else K (AV.c (Cell.bool (w == 8))) H := by intros; kernel_rfl
theorem s8 (R : Type) (w : Int) (H : Heap) (K : AV → Heap → Option R) (lp : Code → St → (AExit → St → Option R) → Option R) : fnL CC8 lp Try.f8.results.toList (bodyOf Try.f8) [.c (Cell.int .i64 w)] H K = K (oneOf [.c (Cell.bool ((R2_Is w)))]) H := by
  rw [e8]
  unfold R2_Is
  cases (w == 1) <;> cases (w == 2) <;> cases (w == 4) <;> rfl
theorem ok8 : FnOk Try.prog 8 F8 := by
  refine fn_ok (C := CC8) (good8.env rfl) (good8.ctx rfl rfl rfl) (by kernel_rfl) Try.func8 (c := bodyOf Try.f8) (by kernel_rfl) (by kernel_rfl) (Nat.le_of_eq Try.ntmps8.symm) ?_
  intro R args H K r h
  unfold F8 numF G8 at h
  split at h
  · rw [fnA_eq, s8]; exact h
  · cases h
/-! 10: rope_New -/
noncomputable def CC10 : Ctx := { P := Try.prog, own := [], fns := [], nt := 38, nums := [], live := [(3, ⟨[3, 8, 9, 10], [], [3], []⟩)] }
theorem good10 : Callees Try.prog CC10.fns [] CC10.nums := Callees.nil Try.prog
theorem hN10 : CtxNat CC10 := good10.ctx rfl rfl rfl
abbrev Ty10 := (Option Sl) → Heap → Option (((Option (Nat × Nat))) × Heap)
def enc10 (r : (Option (Nat × Nat))) : List TV := [.c (Cell.ptr (r))]
def dec10 : AV → Option ((Option (Nat × Nat)))
  | .c (Cell.ptr q0) => some (q0)
  | _ => none
theorem de10 (v : AV) (r : (Option (Nat × Nat))) (h : dec10 v = some r) : v = oneOf (enc10 r) := by
  unfold dec10 at h
  split at h
  · cases h; rfl
  · cases h
def sem10 (f : Ty10) : List TV → Heap → Option (((Option (Nat × Nat))) × Heap)
  | [.c (Cell.slice parts)], H => f parts H
  | _, _ => none
noncomputable def f10 : Ty10 := hide fun parts H => fnA CC10 Try.f10.results.toList (bodyOf Try.f10) _ [.c (Cell.slice parts)] H (decF dec10)
theorem f10_eq (parts : (Option Sl)) (H : Heap) : f10 parts H = fnA CC10 Try.f10.results.toList (bodyOf Try.f10) _ [.c (Cell.slice parts)] H (decF dec10) := by unfold f10; rw [hide_eq]
theorem f10_run (parts : (Option Sl)) (H : Heap) : f10 parts H = fnL CC10 (lpD CC10) Try.f10.results.toList (bodyOf Try.f10) [.c (Cell.slice parts)] H (decF dec10) := (f10_eq ..).trans (fnA_lpD hN10 ..)
def S10_3 (t3 : (Option (Nat × Nat))) (t8 : (Option Sl)) (t9 : Int) (t10 : Int) (H : Heap) : St := ⟨[(3, .c (Cell.ptr t3)), (8, .c (Cell.slice t8)), (9, .c (Cell.int .i64 t9)), (10, .c (Cell.int .i64 t10))], [], H⟩
noncomputable def D10_3 (n : Nat) (t3 : (Option (Nat × Nat))) (t8 : (Option Sl)) (t9 : Int) (t10 : Int) (H : Heap) : Option (AExit × St) := loopN (exec CC10 (Code.l (Code.l (Code.r (Code.l (Code.r (Code.r (bodyOf Try.f10)))))))) (keepOf CC10.live (Code.l (Code.l (Code.r (Code.l (Code.r (Code.r (bodyOf Try.f10)))))))) n (S10_3 t3 t8 t9 t10 H) retD
noncomputable def LL10_3 (t3 : (Option (Nat × Nat))) (t8 : (Option Sl)) (t9 : Int) (t10 : Int) (H : Heap) : Option (AExit × St) := loopsD CC10 (Code.l (Code.l (Code.r (Code.l (Code.r (Code.r (bodyOf Try.f10))))))) (S10_3 t3 t8 t9 t10 H)
theorem LL10_3_of (m : Nat) (hm : m < 18446744073709551616) (t3 : (Option (Nat × Nat))) (t8 : (Option Sl)) (t9 : Int) (t10 : Int) (H : Heap) : ∃ n, LL10_3 t3 t8 t9 t10 H = D10_3 (n + m + 1) t3 t8 t9 t10 H := loopsD_of _ _ _ m hm
def X10_3 (x0 : Option (Nat × Nat)) (H : Heap) : St := { env := [(3, AV.c (Cell.ptr x0))], loc := [], heap := H }
noncomputable def J10_3 : AExit × St → Option (Option (Nat × Nat) × Heap) := fun p => blockK 0 (seqK (execL CC10 (lpD CC10) (Code.r (Code.r (Code.r (bodyOf Try.f10))))) (retA CC10 [ResultVar.tmp 2] (decF dec10))) p.fst p.snd
theorem D10_3_s : ∀ (n : Nat) (t3 : Option (Nat × Nat)) (t8 : Option Sl) (t9 t10 : Int) (H : Heap), D10_3 (n + 1) t3 t8 t9 t10 H = bif decide (t10 < t9) then t8.bind fun v12 => bif inb t10 v12.len && v12.esz == 1 then (H.get v12.id (v12.off + t10.toNat * 1)).bind fun v11 => v11.toSlice.bind fun v10 => t3.bind fun v9 => (H.get v9.fst (v9.snd + 0 + 0)).bind fun v8 => v8.toSlice.bind fun v7 => t3.bind fun v6 => (H.get v6.fst (v6.snd + 0 + 0)).bind fun v5 => v5.toSlice.bind fun v4 => (Sl.sub v10 0 (some (mm Builtin.min (slen v10) (IntKind.i64.wrap (1048576 - slen v4))))).bind fun v3 => bif esOk v10 1 then (H.append 1 1 v7 v3).bind fun v2 => t3.bind fun v1 => (v2.snd.put v1.fst (v1.snd + 0 + 0) [Cell.slice v2.fst]).bind fun v0 => D10_3 n t3 t8 t9 (IntKind.i64.wrap (t10 + 1)) v0 else none else none else some (AExit.exit 0, X10_3 t3 H) := by intros; exact (loopN_stepD hN10 _ _ _ _).trans (by kernel_rfl)
theorem q10 : ∀ (parts : Option Sl) (H : Heap), f10 parts H = (LL10_3 (some (List.length H, 0)) parts (slen parts) 0 (H ++ [Blk.row [Cell.slice none] false])).bind J10_3 := by intros; exact (f10_run ..).trans (by kernel_rfl)
theorem J10_3_0 : ∀ (x0 : Option (Nat × Nat)) (H : Heap), J10_3 (AExit.exit 0, X10_3 x0 H) = some (x0, H) := by intros; kernel_rfl
theorem ok10 : FnOk Try.prog 10 (specF enc10 (sem10 f10)) := by
  refine spec_ok (C := CC10) good10 rfl rfl rfl (by kernel_rfl) Try.func10 (c := bodyOf Try.f10) (by kernel_rfl) (by kernel_rfl) (Nat.le_of_eq Try.ntmps10.symm) dec10 enc10 de10 _ ?_
  intro args H q h
  unfold sem10 at h
  split at h
  · rw [← f10_eq]; exact h
  · cases h
/-- A rope: its bytes; in blocks of F. -/
def RP (F : Nat → Prop) (H : Heap) (id : Nat) (l : List UInt8) : Prop :=
  ∃ s, H[id]? = some (.row [.slice s] false) ∧ OS 1 E8 H s l ∧ (∀ sl, s = some sl → sl.id ≠ id) ∧ F id ∧ (∀ sl, s = some sl → F sl.id)
/-- All blocks from one on. -/
def Up (n : Nat) : Nat → Prop := fun i => n ≤ i
/-- Parts, one behind the other, as far as there is room. -/
def catCut (b : List UInt8) : List (List UInt8) → List UInt8
  | [] => b
  | p :: r => catCut (b ++ p.take (1048576 - b.length)) r
/-- Some slices of bytes, in a slice. -/
def RSS (H : Heap) (t : Option Sl) (ls : List (List UInt8)) : Prop :=
  ∃ ps : List (Option Sl), RS 1 ES H t ps ∧ ps.length = ls.length ∧ ∀ (j : Nat) p l, ps[j]? = some p → ls[j]? = some l → RS 1 E8 H p l
/-- Bytes behind a rope's. -/
theorem rp_app {F : Nat → Prop} {H : Heap} {id : Nat} {b x : List UInt8} {sx : Option Sl} (h : RP F H id b) (hF : ∀ i, H.length ≤ i → F i) (hx : RS 1 E8 H sx x) (hb : b.length + x.length ≤ most) :
    ∃ s s' H1 H2, H.get id 0 = some (.slice s) ∧ slen s = (b.length : Int) ∧ H.append 1 1 s sx = some (s', H1) ∧ H1.put id 0 [.slice s'] = some H2 ∧ RP F H2 id (b ++ x) ∧ Kp F H H2 := by
  obtain ⟨s, h1, h2, h3, h4, h5⟩ := h
  obtain ⟨s', H1, a1, a2, a3, a4⟩ := append_OS E8_len (by decide) (by' := 1) h2 hx (by omega)
  have hid := lt_of h1
  have g1 : H1[id]? = some (.row [.slice s] false) := a3.at h1 (by rintro ⟨sl, e, e1⟩; exact h3 sl e e1.symm)
  have hne : ∀ sl', s' = some sl' → sl'.id ≠ id := fun sl' e => by
    rcases a4 sl' e with ⟨sl, e0, e1⟩ | h
    · rw [e1]; exact h3 sl e0
    · omega
  refine ⟨s, s', H1, _, by rw [get_of h1]; rfl, h2.rs.slenEq, a1, put_of g1 (by simp), ⟨s', set_get' (lt_of g1), a2.kp (Kp.set _ _ _) (fun sl e => hne sl e), hne, h4, fun sl' e => ?_⟩, ?_⟩
  · rcases a4 sl' e with ⟨sl, e0, e1⟩ | h
    · rw [e1]; exact h5 sl e0
    · exact hF _ h
  · refine a3.trans (Kp.set _ _ _) (fun i hi => ?_) fun i _ hi => ?_
    · obtain ⟨sl, e0, e1⟩ := hi; rw [e1]; exact h5 sl e0
    · rw [show i = id from hi]; exact h4
theorem rp_mono {F G : Nat → Prop} {H : Heap} {id : Nat} {b : List UInt8} (h : RP F H id b) (hG : ∀ i, i < H.length → F i → G i) : RP G H id b := by
  obtain ⟨s, h1, h2, h3, h4, h5⟩ := h
  exact ⟨s, h1, h2, h3, hG _ (lt_of h1) h4, fun sl e => by subst e; exact hG _ h2.lt (h5 sl rfl)⟩
theorem kp_old {H0 H H' : Heap} (h : Kp No H0 H) (k : Kp (Up H0.length) H H') : Kp No H0 H' := h.trans k (fun _ h => h) fun i hi h => absurd (show H0.length ≤ i from h) (by omega)
theorem up_le {H0 H : Heap} (h : Kp No H0 H) : ∀ i, H.length ≤ i → Up H0.length i := fun i hi => Nat.le_trans h.len hi
theorem loop10 (H0 : Heap) (t : Option Sl) (ls : List (List UInt8)) (ht : RSS H0 t ls) (hlen : ls.length ≤ 4611686018427387904) (hls : ∀ l ∈ ls, l.length ≤ 4611686018427387904) (id : Nat) : ∀ (m n i : Nat) (b : List UInt8) (H : Heap), i + m = ls.length → b.length ≤ 1048576 → RP (Up H0.length) H id b → Kp No H0 H →
    ∃ H', D10_3 (n + m + 1) (some (id, 0)) t (ls.length : Int) (i : Int) H = some (.exit 0, X10_3 (some (id, 0)) H') ∧ RP (Up H0.length) H' id (catCut b (ls.drop i)) ∧ Kp No H0 H'
  | 0, n, i, b, H, hi, hb, hr, hk => by
    have g : decide ((i : Int) < (ls.length : Int)) = false := by simp; omega
    refine ⟨H, by rw [D10_3_s, g, cf], ?_, hk⟩
    rw [List.drop_eq_nil_of_le (by omega)]; exact hr
  | m + 1, n, i, b, H, hi, hb, hr, hk => by
    have hil : i < ls.length := by omega
    have hli : ls[i]? = some ls[i] := List.getElem?_eq_getElem hil
    obtain ⟨ps, p1, p2, p3⟩ := ht
    have hpi : ps[i]? = some ps[i] := List.getElem?_eq_getElem (by omega)
    have hp := p3 i _ _ hpi hli
    have hL := hls ls[i] (List.getElem_mem hil)
    generalize hp0 : ps[i]'(by omega) = p at *
    generalize hl0 : ls[i] = l at *
    have g : decide ((i : Int) < (ls.length : Int)) = true := by simp; omega
    have g3 : IntKind.i64.wrap ((i : Int) + 1) = ((i + 1 : Nat) : Int) := by rw [wrap_i64 (by omega) (by omega)]; omega
    obtain ⟨sl, rfl, g2, g4⟩ := (p1.new ES_len (by decide) hk fun _ _ h => h).idx1 hpi (e := fun s => .slice s) fun _ => rfl
    have hp' := hp.new E8_len (by decide) hk fun _ _ h => h
    obtain ⟨s', c1, c2, c3⟩ := hp'.sub0 E8_len (min l.length (1048576 - b.length)) (by omega)
    obtain ⟨s, s2, H1, H2, r1, r2, r3, r4, r5, r6⟩ := rp_app hr (up_le hk) c2 (by simp [most]; omega)
    have gm : mm Builtin.min (slen p) (IntKind.i64.wrap (1048576 - slen s)) = ((min l.length (1048576 - b.length) : Nat) : Int) := by
      rw [hp.slenEq, r2, wrap_i64 (by omega) (by omega)]
      unfold mm
      split <;> omega
    have e5 : l.take (min l.length (1048576 - b.length)) = l.take (1048576 - b.length) := by
      rcases Nat.le_total l.length (1048576 - b.length) with h | h
      · rw [Nat.min_eq_left h, List.take_of_length_le (Nat.le_refl _), List.take_of_length_le h]
      · rw [Nat.min_eq_right h]
    rw [e5] at r5
    obtain ⟨H', j1, j2, j3⟩ := loop10 H0 (some sl) ls ⟨ps, p1, p2, p3⟩ hlen hls id m n (i + 1) _ H2 (by omega) (by simp; omega) r5 (kp_old hk r6)
    refine ⟨H', ?_, ?_, j3⟩
    · rw [show n + (m + 1) + 1 = (n + m + 1) + 1 by omega, D10_3_s, g]
      simp only [ct, bs, g2, g3, g4, tSlice, az, r1, gm, c1, hp.esOkT, r3, r4]
      exact j1
    · rw [List.drop_eq_getElem_cons hil, hl0]; exact j2
theorem f10_spec (H : Heap) (t : Option Sl) (ls : List (List UInt8)) (ht : RSS H t ls) (hlen : ls.length ≤ 4611686018427387904) (hls : ∀ l ∈ ls, l.length ≤ 4611686018427387904) :
    ∃ H', f10 t H = some (some (H.length, 0), H') ∧ RP (Up H.length) H' H.length (catCut [] ls) ∧ Kp No H H' := by
  have hsl : slen t = (ls.length : Int) := by
    obtain ⟨ps, p1, p2, _⟩ := ht
    rw [p1.slenEq, p2]
  obtain ⟨n, hn⟩ := LL10_3_of ls.length (by omega) (some (H.length, 0)) t (ls.length : Int) 0 (H ++ [.row [.slice none] false])
  obtain ⟨H', j1, j2, j3⟩ := loop10 H t ls ht hlen hls H.length ls.length n 0 [] (H ++ [.row [.slice none] false]) (by omega) (by simp) ⟨none, by simp, rfl, (fun _ e => nomatch e), Nat.le_refl _, (fun _ e => nomatch e)⟩ (Kp.push _ _ _)
  refine ⟨H', ?_, j2, j3⟩
  rw [q10, hsl, hn, show D10_3 (n + ls.length + 1) _ t _ 0 _ = _ from j1, bs, J10_3_0]
/-! 33: bits_Is -/
noncomputable def CC33 : Ctx := { P := Try.prog, own := [], fns := [], nt := 17, nums := [], live := [] }
theorem good33 : Callees Try.prog CC33.fns [] CC33.nums := Callees.nil Try.prog
def bits_Is (w : Int) : Bool := w == 1 || (w == 2 || (w == 4 || w == 8))
noncomputable def G33 : List TV → Option (List TV)
  | [.c (Cell.int .i64 w)] => some [.c (Cell.bool ((bits_Is w)))]
  | _ => none
noncomputable def F33 : FnSem := numF G33
theorem F33_num : FnNum F33 := numF_num _
theorem e33 : ∀ (R : Type) (w : Int) (H : Heap) (K : AV → Heap → Option R) (lp : Code → St → (AExit → St → Option R) → Option R), fnL CC33 lp Try.f33.results.toList (bodyOf Try.f33) [TV.c (Cell.int IntKind.i64 w)] H K = bif w == 1 then K (AV.c (Cell.bool true)) H else bif w == 2 then K (AV.c (Cell.bool true)) H else bif w == 4 then K (AV.c (Cell.bool true)) H else K (AV.c (Cell.bool (w == 8))) H := by intros; kernel_rfl
theorem s33 (R : Type) (w : Int) (H : Heap) (K : AV → Heap → Option R) (lp : Code → St → (AExit → St → Option R) → Option R) : fnL CC33 lp Try.f33.results.toList (bodyOf Try.f33) [.c (Cell.int .i64 w)] H K = K (oneOf [.c (Cell.bool ((bits_Is w)))]) H := by
  rw [e33]
  unfold bits_Is
  cases (w == 1) <;> cases (w == 2) <;> cases (w == 4) <;> rfl
theorem ok33 : FnOk Try.prog 33 F33 := by
  refine fn_ok (C := CC33) (good33.env rfl) (good33.ctx rfl rfl rfl) (by kernel_rfl) Try.func33 (c := bodyOf Try.f33) (by kernel_rfl) (by kernel_rfl) (Nat.le_of_eq Try.ntmps33.symm) ?_
  intro R args H K r h
  unfold F33 numF G33 at h
  split at h
  · rw [fnA_eq, s33]; exact h
  · cases h
/-! 34: rope_store_room -/
noncomputable def CC34 : Ctx := { P := Try.prog, own := [2], fns := [], nt := 11, nums := [], live := [] }
theorem good34 : Callees Try.prog CC34.fns [] CC34.nums := Callees.nil Try.prog
def rope_store_room (s : Option Sl) (n : Int) : Bool := decide (n ≤ IntKind.i64.wrap (1048576 - slen s))
noncomputable def G34 : List TV → Option (List TV)
  | [.agg [Cell.slice s], .c (Cell.int .i64 n)] => some [.c (Cell.bool ((rope_store_room s n)))]
  | _ => none
noncomputable def F34 : FnSem := numF G34
theorem F34_num : FnNum F34 := numF_num _
theorem e34 : ∀ (R : Type) (s : Option Sl) (n : Int) (H : Heap) (K : AV → Heap → Option R) (lp : Code → St → (AExit → St → Option R) → Option R), fnL CC34 lp Try.f34.results.toList (bodyOf Try.f34) [TV.agg [Cell.slice s], TV.c (Cell.int IntKind.i64 n)] H K = K (AV.c (Cell.bool (decide (n ≤ IntKind.i64.wrap (1048576 - slen s))))) H := by intros; kernel_rfl
theorem s34 (R : Type) (s : (Option Sl)) (n : Int) (H : Heap) (K : AV → Heap → Option R) (lp : Code → St → (AExit → St → Option R) → Option R) : fnL CC34 lp Try.f34.results.toList (bodyOf Try.f34) [.agg [Cell.slice s], .c (Cell.int .i64 n)] H K = K (oneOf [.c (Cell.bool ((rope_store_room s n)))]) H := by
  rw [e34]
  rfl
theorem ok34 : FnOk Try.prog 34 F34 := by
  refine fn_ok (C := CC34) (good34.env rfl) (good34.ctx rfl rfl rfl) (by kernel_rfl) Try.func34 (c := bodyOf Try.f34) (by kernel_rfl) (by kernel_rfl) (Nat.le_of_eq Try.ntmps34.symm) ?_
  intro R args H K r h
  unfold F34 numF G34 at h
  split at h
  · rw [fnA_eq, s34]; exact h
  · cases h
/-! 35: rope_put -/
noncomputable def CC35 : Ctx := { P := Try.prog, own := [], fns := [], nt := 20, nums := [], live := [(1, ⟨[0, 2, 7, 8], [], [], []⟩)] }
theorem good35 : Callees Try.prog CC35.fns [] CC35.nums := Callees.nil Try.prog
theorem hN35 : CtxNat CC35 := good35.ctx rfl rfl rfl
abbrev Ty35 := (Option Sl) → Int → Int → Heap → Option (Unit × Heap)
def enc35 (r : Unit) : List TV := []
def dec35 : AV → Option (Unit)
  | .tup [] => some ()
  | _ => none
theorem de35 (v : AV) (r : Unit) (h : dec35 v = some r) : v = oneOf (enc35 r) := by
  unfold dec35 at h
  split at h
  · cases h; rfl
  · cases h
def sem35 (f : Ty35) : List TV → Heap → Option (Unit × Heap)
  | [.c (Cell.slice b), .c (Cell.int .i64 w), .c (Cell.int .u64 v)], H => f b w v H
  | _, _ => none
noncomputable def f35 : Ty35 := hide fun b w v H => fnA CC35 Try.f35.results.toList (bodyOf Try.f35) _ [.c (Cell.slice b), .c (Cell.int .i64 w), .c (Cell.int .u64 v)] H (decF dec35)
theorem f35_eq (b : (Option Sl)) (w : Int) (v : Int) (H : Heap) : f35 b w v H = fnA CC35 Try.f35.results.toList (bodyOf Try.f35) _ [.c (Cell.slice b), .c (Cell.int .i64 w), .c (Cell.int .u64 v)] H (decF dec35) := by unfold f35; rw [hide_eq]
theorem f35_run (b : (Option Sl)) (w : Int) (v : Int) (H : Heap) : f35 b w v H = fnL CC35 (lpD CC35) Try.f35.results.toList (bodyOf Try.f35) [.c (Cell.slice b), .c (Cell.int .i64 w), .c (Cell.int .u64 v)] H (decF dec35) := (f35_eq ..).trans (fnA_lpD hN35 ..)
def S35_1 (t0 : (Option Sl)) (t2 : Int) (t7 : Int) (t8 : Int) (H : Heap) : St := ⟨[(0, .c (Cell.slice t0)), (2, .c (Cell.int .u64 t2)), (7, .c (Cell.int .i64 t7)), (8, .c (Cell.int .i64 t8))], [], H⟩
noncomputable def D35_1 (n : Nat) (t0 : (Option Sl)) (t2 : Int) (t7 : Int) (t8 : Int) (H : Heap) : Option (AExit × St) := loopN (exec CC35 (Code.l (Code.l (Code.r (bodyOf Try.f35))))) (keepOf CC35.live (Code.l (Code.l (Code.r (bodyOf Try.f35))))) n (S35_1 t0 t2 t7 t8 H) retD
noncomputable def LL35_1 (t0 : (Option Sl)) (t2 : Int) (t7 : Int) (t8 : Int) (H : Heap) : Option (AExit × St) := loopsD CC35 (Code.l (Code.l (Code.r (bodyOf Try.f35)))) (S35_1 t0 t2 t7 t8 H)
theorem LL35_1_of (m : Nat) (hm : m < 18446744073709551616) (t0 : (Option Sl)) (t2 : Int) (t7 : Int) (t8 : Int) (H : Heap) : ∃ n, LL35_1 t0 t2 t7 t8 H = D35_1 (n + m + 1) t0 t2 t7 t8 H := loopsD_of _ _ _ m hm
def X35_1 (H : Heap) : St := { env := [], loc := [], heap := H }
noncomputable def J35_1 : AExit × St → Option (Unit × Heap) := fun p => blockK 0 (retA CC35 [] (decF dec35)) p.fst p.snd
theorem D35_1_s : ∀ (n : Nat) (t0 : Option Sl) (t2 t7 t8 : Int) (H : Heap), D35_1 (n + 1) t0 t2 t7 t8 H = bif decide (t8 < t7) then bif decide (IntKind.i64.wrap (8 * t8) < 0) then none else t0.bind fun v1 => bif inb t8 v1.len && v1.esz == 1 then (H.put v1.id (v1.off + t8.toNat * 1) [Cell.int IntKind.u8 (IntKind.u8.wrap (ishr IntKind.u64 t2 (IntKind.i64.wrap (8 * t8))))]).bind fun v0 => D35_1 n t0 t2 t7 (IntKind.i64.wrap (t8 + 1)) v0 else none else some (AExit.exit 0, X35_1 H) := by intros; exact (loopN_stepD hN35 _ _ _ _).trans (by kernel_rfl)
theorem q35 : ∀ (b : Option Sl) (w v : Int) (H : Heap), f35 b w v H = (LL35_1 b v w 0 H).bind J35_1 := by intros; exact (f35_run ..).trans (by kernel_rfl)
theorem J35_1_0 : ∀ (H : Heap), J35_1 (AExit.exit 0, X35_1 H) = some ((), H) := by intros; kernel_rfl
theorem ok35 : FnOk Try.prog 35 (specF enc35 (sem35 f35)) := by
  refine spec_ok (C := CC35) good35 rfl rfl rfl (by kernel_rfl) Try.func35 (c := bodyOf Try.f35) (by kernel_rfl) (by kernel_rfl) (Nat.le_of_eq Try.ntmps35.symm) dec35 enc35 de35 _ ?_
  intro args H q h
  unfold sem35 at h
  split at h
  · rw [← f35_eq]; exact h
  · cases h
/-! 11: rope_Rope_Num -/
noncomputable def CC11 : Ctx := { P := Try.prog, own := [], fns := [(33, F33), (34, F34), (35, specF enc35 (sem35 f35))], nt := 58, nums := [33, 34], live := [(8, ⟨[0, 1, 35, 36, 37], [], [], []⟩)] }
theorem good11 : Callees Try.prog CC11.fns [] CC11.nums := (((Callees.nil Try.prog).cons ok35 (specF_nat _ _)).cons_num ok34 F34_num).cons_num ok33 F33_num
theorem hN11 : CtxNat CC11 := good11.ctx rfl rfl rfl
abbrev Ty11 := (Option (Nat × Nat)) → Int → (Option Sl) → Heap → Option (Int × Heap)
def enc11 (r : Int) : List TV := [.c (Cell.int .i64 (r))]
def dec11 : AV → Option (Int)
  | .c (Cell.int .i64 q0) => some (q0)
  | _ => none
theorem de11 (v : AV) (r : Int) (h : dec11 v = some r) : v = oneOf (enc11 r) := by
  unfold dec11 at h
  split at h
  · cases h; rfl
  · cases h
def sem11 (f : Ty11) : List TV → Heap → Option (Int × Heap)
  | [.c (Cell.ptr r), .c (Cell.int .i64 w), .c (Cell.slice l)], H => f r w l H
  | _, _ => none
noncomputable def f11 : Ty11 := hide fun r w l H => fnA CC11 Try.f11.results.toList (bodyOf Try.f11) _ [.c (Cell.ptr r), .c (Cell.int .i64 w), .c (Cell.slice l)] H (decF dec11)
theorem f11_eq (r : (Option (Nat × Nat))) (w : Int) (l : (Option Sl)) (H : Heap) : f11 r w l H = fnA CC11 Try.f11.results.toList (bodyOf Try.f11) _ [.c (Cell.ptr r), .c (Cell.int .i64 w), .c (Cell.slice l)] H (decF dec11) := by unfold f11; rw [hide_eq]
theorem f11_run (r : (Option (Nat × Nat))) (w : Int) (l : (Option Sl)) (H : Heap) : f11 r w l H = fnL CC11 (lpD CC11) Try.f11.results.toList (bodyOf Try.f11) [.c (Cell.ptr r), .c (Cell.int .i64 w), .c (Cell.slice l)] H (decF dec11) := (f11_eq ..).trans (fnA_lpD hN11 ..)
def S11_8 (t0 : (Option (Nat × Nat))) (t1 : Int) (t35 : (Option Sl)) (t36 : Int) (t37 : Int) (H : Heap) : St := ⟨[(0, .c (Cell.ptr t0)), (1, .c (Cell.int .i64 t1)), (35, .c (Cell.slice t35)), (36, .c (Cell.int .i64 t36)), (37, .c (Cell.int .i64 t37))], [], H⟩
noncomputable def D11_8 (n : Nat) (t0 : (Option (Nat × Nat))) (t1 : Int) (t35 : (Option Sl)) (t36 : Int) (t37 : Int) (H : Heap) : Option (AExit × St) := loopN (exec CC11 (Code.l (Code.l (Code.r (Code.l (Code.r (Code.r (bodyOf Try.f11)))))))) (keepOf CC11.live (Code.l (Code.l (Code.r (Code.l (Code.r (Code.r (bodyOf Try.f11)))))))) n (S11_8 t0 t1 t35 t36 t37 H) retD
noncomputable def LL11_8 (t0 : (Option (Nat × Nat))) (t1 : Int) (t35 : (Option Sl)) (t36 : Int) (t37 : Int) (H : Heap) : Option (AExit × St) := loopsD CC11 (Code.l (Code.l (Code.r (Code.l (Code.r (Code.r (bodyOf Try.f11))))))) (S11_8 t0 t1 t35 t36 t37 H)
theorem LL11_8_of (m : Nat) (hm : m < 18446744073709551616) (t0 : (Option (Nat × Nat))) (t1 : Int) (t35 : (Option Sl)) (t36 : Int) (t37 : Int) (H : Heap) : ∃ n, LL11_8 t0 t1 t35 t36 t37 H = D11_8 (n + m + 1) t0 t1 t35 t36 t37 H := loopsD_of _ _ _ m hm
def X11_8 (H : Heap) : St := { env := [], loc := [], heap := H }
noncomputable def J11_8 : AExit × St → Option (Int × Heap) := fun p => blockK 1 (seqK (execL CC11 (lpD CC11) (Code.r (Code.r (Code.r (bodyOf Try.f11))))) (retA CC11 [ResultVar.tmp 6] (decF dec11))) p.fst p.snd
theorem D11_8_s : ∀ (n : Nat) (t0 : Option (Nat × Nat)) (t1 : Int) (t35 : Option Sl) (t36 t37 : Int) (H : Heap), D11_8 (n + 1) t0 t1 t35 t36 t37 H = bif decide (t37 < t36) then t35.bind fun v10 => bif inb t37 v10.len && v10.esz == 1 then (H.get v10.id (v10.off + t37.toNat * 1)).bind fun v9 => (Cell.toInt IntKind.u64 v9).bind fun v8 => (f35 (some { id := List.length H, off := 0, len := 8, cap := 8, esz := 1 }) t1 v8 (H ++ [Blk.row [Cell.int IntKind.u8 0, Cell.int IntKind.u8 0, Cell.int IntKind.u8 0, Cell.int IntKind.u8 0, Cell.int IntKind.u8 0, Cell.int IntKind.u8 0, Cell.int IntKind.u8 0, Cell.int IntKind.u8 0] false])).bind fun v7 => t0.bind fun v6 => (v7.snd.get v6.fst (v6.snd + 0 + 0)).bind fun v5 => v5.toSlice.bind fun v4 => (Sl.sub (some { id := List.length H, off := 0, len := 8, cap := 8, esz := 1 }) 0 (some t1)).bind fun v3 => (v7.snd.append 1 1 v4 v3).bind fun v2 => t0.bind fun v1 => (v2.snd.put v1.fst (v1.snd + 0 + 0) [Cell.slice v2.fst]).bind fun v0 => D11_8 n t0 t1 t35 t36 (IntKind.i64.wrap (t37 + 1)) v0 else none else some (AExit.exit 1, X11_8 H) := by intros; exact (loopN_stepD hN11 _ _ _ _).trans (by kernel_rfl)
theorem q11 : ∀ (r : Option (Nat × Nat)) (w : Int) (l : Option Sl) (H : Heap), f11 r w l H = bif r.isNone then some (1, H) else bif !bits_Is w then some (2, H) else bif w == 0 then none else bif decide (slen l > IntKind.i64.wrap (Int.tdiv 1048576 w)) then some (4, H) else r.bind fun v13 => (H.get v13.fst (v13.snd + 0)).bind fun v12 => v12.toSlice.bind fun v11 => bif !rope_store_room v11 (IntKind.i64.wrap (w * slen l)) then some (4, H) else (LL11_8 r w l (slen l) 0 H).bind J11_8 := by intros; exact (f11_run ..).trans (by kernel_rfl)
theorem J11_8_0 : ∀ (H : Heap), J11_8 (AExit.exit 1, X11_8 H) = some (0, H) := by intros; kernel_rfl
theorem ok11 : FnOk Try.prog 11 (specF enc11 (sem11 f11)) := by
  refine spec_ok (C := CC11) good11 rfl rfl rfl (by kernel_rfl) Try.func11 (c := bodyOf Try.f11) (by kernel_rfl) (by kernel_rfl) (Nat.le_of_eq Try.ntmps11.symm) dec11 enc11 de11 _ ?_
  intro args H q h
  unfold sem11 at h
  split at h
  · rw [← f11_eq]; exact h
  · cases h
/-! 36: rope_store_has -/
noncomputable def CC36 : Ctx := { P := Try.prog, own := [3], fns := [], nt := 29, nums := [], live := [] }
theorem good36 : Callees Try.prog CC36.fns [] CC36.nums := Callees.nil Try.prog
def rope_store_has (s : Option Sl) (a n : Int) : Bool := decide (a ≥ 0) && (decide (n ≥ 0) && (decide (a ≤ slen s) && decide (n ≤ IntKind.i64.wrap (slen s - a))))
noncomputable def G36 : List TV → Option (List TV)
  | [.agg [Cell.slice s], .c (Cell.int .i64 x1), .c (Cell.int .i64 n)] => some [.c (Cell.bool ((rope_store_has s x1 n)))]
  | _ => none
noncomputable def F36 : FnSem := numF G36
theorem F36_num : FnNum F36 := numF_num _
theorem e36 : ∀ (R : Type) (s : Option Sl) (x1 n : Int) (H : Heap) (K : AV → Heap → Option R) (lp : Code → St → (AExit → St → Option R) → Option R), fnL CC36 lp Try.f36.results.toList (bodyOf Try.f36) [TV.agg [Cell.slice s], TV.c (Cell.int IntKind.i64 x1), TV.c (Cell.int IntKind.i64 n)] H K = bif decide (x1 ≥ 0) then bif decide (n ≥ 0) then bif decide (x1 ≤ slen s) then K (AV.c (Cell.bool (decide (n ≤ IntKind.i64.wrap (slen s - x1))))) H else K (AV.c (Cell.bool false)) H else K (AV.c (Cell.bool false)) H else K (AV.c (Cell.bool false)) H := by intros; kernel_rfl
theorem s36 (R : Type) (s : (Option Sl)) (x1 : Int) (n : Int) (H : Heap) (K : AV → Heap → Option R) (lp : Code → St → (AExit → St → Option R) → Option R) : fnL CC36 lp Try.f36.results.toList (bodyOf Try.f36) [.agg [Cell.slice s], .c (Cell.int .i64 x1), .c (Cell.int .i64 n)] H K = K (oneOf [.c (Cell.bool ((rope_store_has s x1 n)))]) H := by
  rw [e36]
  unfold rope_store_has
  cases decide (x1 ≥ 0) <;> cases decide (n ≥ 0) <;> cases decide (x1 ≤ slen s) <;> rfl
theorem ok36 : FnOk Try.prog 36 F36 := by
  refine fn_ok (C := CC36) (good36.env rfl) (good36.ctx rfl rfl rfl) (by kernel_rfl) Try.func36 (c := bodyOf Try.f36) (by kernel_rfl) (by kernel_rfl) (Nat.le_of_eq Try.ntmps36.symm) ?_
  intro R args H K r h
  unfold F36 numF G36 at h
  split at h
  · rw [fnA_eq, s36]; exact h
  · cases h
theorem has_eq {n : Nat} {α : Type} {E : α → List Cell} {H : Heap} {s : Option Sl} {l : List α} (h : RS n E H s l) (hl : l.length ≤ 4611686018427387904) (a k : Int) : rope_store_has s a k = hasI l.length a k := by
  unfold rope_store_has hasI
  rw [h.slenEq]
  by_cases g : 0 ≤ a ∧ a ≤ l.length
  · rw [wrap_i64 (by omega) (by omega)]
  · by_cases g1 : a ≥ 0
    · have : decide (a ≤ (l.length : Int)) = false := by simp; omega
      rw [this]; simp
    · have : decide (a ≥ 0) = false := by simp; omega
      rw [this]; simp
/-! 38: rope_store_num -/
noncomputable def CC38 : Ctx := { P := Try.prog, own := [3], fns := [], nt := 27, nums := [], live := [(3, ⟨[1, 3, 7, 8], [3], [7], []⟩)] }
theorem good38 : Callees Try.prog CC38.fns [] CC38.nums := Callees.nil Try.prog
theorem hN38 : CtxNat CC38 := good38.ctx rfl rfl rfl
abbrev Ty38 := (Option Sl) → Int → Int → Heap → Option (Int × Heap)
def enc38 (r : Int) : List TV := [.c (Cell.int .u64 (r))]
def dec38 : AV → Option (Int)
  | .c (Cell.int .u64 q0) => some (q0)
  | _ => none
theorem de38 (v : AV) (r : Int) (h : dec38 v = some r) : v = oneOf (enc38 r) := by
  unfold dec38 at h
  split at h
  · cases h; rfl
  · cases h
def sem38 (f : Ty38) : List TV → Heap → Option (Int × Heap)
  | [.agg [Cell.slice s], .c (Cell.int .i64 x1), .c (Cell.int .i64 w)], H => f s x1 w H
  | _, _ => none
noncomputable def f38 : Ty38 := hide fun s x1 w H => fnA CC38 Try.f38.results.toList (bodyOf Try.f38) _ [.agg [Cell.slice s], .c (Cell.int .i64 x1), .c (Cell.int .i64 w)] H (decF dec38)
theorem f38_eq (s : (Option Sl)) (x1 : Int) (w : Int) (H : Heap) : f38 s x1 w H = fnA CC38 Try.f38.results.toList (bodyOf Try.f38) _ [.agg [Cell.slice s], .c (Cell.int .i64 x1), .c (Cell.int .i64 w)] H (decF dec38) := by unfold f38; rw [hide_eq]
theorem f38_run (s : (Option Sl)) (x1 : Int) (w : Int) (H : Heap) : f38 s x1 w H = fnL CC38 (lpD CC38) Try.f38.results.toList (bodyOf Try.f38) [.agg [Cell.slice s], .c (Cell.int .i64 x1), .c (Cell.int .i64 w)] H (decF dec38) := (f38_eq ..).trans (fnA_lpD hN38 ..)
def S38_3 (t1 : Int) (t7 : Int) (t8 : Int) (b3_ : (Option Sl)) (H : Heap) : St := ⟨[(1, .c (Cell.int .i64 t1)), (3, .lp 3 0), (7, .c (Cell.int .u64 t7)), (8, .c (Cell.int .i64 t8))], [(3, [Cell.slice b3_])], H⟩
noncomputable def D38_3 (n : Nat) (t1 : Int) (t7 : Int) (t8 : Int) (b3_ : (Option Sl)) (H : Heap) : Option (AExit × St) := loopN (exec CC38 (Code.l (Code.l (Code.r (Code.l (Code.r (Code.r (bodyOf Try.f38)))))))) (keepOf CC38.live (Code.l (Code.l (Code.r (Code.l (Code.r (Code.r (bodyOf Try.f38)))))))) n (S38_3 t1 t7 t8 b3_ H) retD
noncomputable def LL38_3 (t1 : Int) (t7 : Int) (t8 : Int) (b3_ : (Option Sl)) (H : Heap) : Option (AExit × St) := loopsD CC38 (Code.l (Code.l (Code.r (Code.l (Code.r (Code.r (bodyOf Try.f38))))))) (S38_3 t1 t7 t8 b3_ H)
theorem LL38_3_of (m : Nat) (hm : m < 18446744073709551616) (t1 : Int) (t7 : Int) (t8 : Int) (b3_ : (Option Sl)) (H : Heap) : ∃ n, LL38_3 t1 t7 t8 b3_ H = D38_3 (n + m + 1) t1 t7 t8 b3_ H := loopsD_of _ _ _ m hm
def X38_3 (x0 : Int) (H : Heap) : St := { env := [(7, AV.c (Cell.int IntKind.u64 x0))], loc := [], heap := H }
noncomputable def J38_3 : AExit × St → Option (Int × Heap) := fun p => blockK 0 (seqK (execL CC38 (lpD CC38) (Code.r (Code.r (Code.r (bodyOf Try.f38))))) (retA CC38 [ResultVar.tmp 6] (decF dec38))) p.fst p.snd
theorem D38_3_s : ∀ (n : Nat) (t1 t7 t8 : Int) (b3_ : Option Sl) (H : Heap), D38_3 (n + 1) t1 t7 t8 b3_ H = bif decide (t8 ≥ 0) then b3_.bind fun v2 => bif inb (IntKind.i64.wrap (t1 + t8)) v2.len && v2.esz == 1 then (H.get v2.id (v2.off + (IntKind.i64.wrap (t1 + t8)).toNat * 1)).bind fun v1 => (Cell.toInt IntKind.u8 v1).bind fun v0 => D38_3 n t1 (bor IntKind.u64 (ishl IntKind.u64 t7 8) (IntKind.u64.wrap v0)) (IntKind.i64.wrap (t8 - 1)) b3_ H else none else some (AExit.exit 0, X38_3 t7 H) := by intros; exact (loopN_stepD hN38 _ _ _ _).trans (by kernel_rfl)
theorem q38 : ∀ (s : Option Sl) (x1 w : Int) (H : Heap), f38 s x1 w H = (LL38_3 x1 0 (IntKind.i64.wrap (w - 1)) s H).bind J38_3 := by intros; exact (f38_run ..).trans (by kernel_rfl)
theorem J38_3_0 : ∀ (x0 : Int) (H : Heap), J38_3 (AExit.exit 0, X38_3 x0 H) = some (x0, H) := by intros; kernel_rfl
theorem ok38 : FnOk Try.prog 38 (specF enc38 (sem38 f38)) := by
  refine spec_ok (C := CC38) good38 rfl rfl rfl (by kernel_rfl) Try.func38 (c := bodyOf Try.f38) (by kernel_rfl) (by kernel_rfl) (Nat.le_of_eq Try.ntmps38.symm) dec38 enc38 de38 _ ?_
  intro args H q h
  unfold sem38 at h
  split at h
  · rw [← f38_eq]; exact h
  · cases h
theorem shl8_or (v b : Nat) (hv : v < 72057594037927936) (hb : b < 256) : bor .u64 (ishl .u64 (v : Int) 8) (IntKind.u64.wrap (b : Int)) = ((b + 256 * v : Nat) : Int) := by
  have e1 : ishl .u64 (v : Int) 8 = ((2 ^ 8 * v : Nat) : Int) := by
    unfold ishl
    have : min ((8 : Int).toNat) IntKind.u64.bits = 8 := rfl
    rw [this, wrap_u64]; omega
  rw [e1, wrapU_nat b (by omega), bor_u64]
  have h1 : (((2 ^ 8 * v : Nat) : Int) % 18446744073709551616).toNat = 2 ^ 8 * v := by omega
  have h2 : ((b : Int) % 18446744073709551616).toNat = b := by omega
  rw [h1, h2, ← Nat.two_pow_add_eq_or_of_lt (by omega)]
  congr 1; omega
theorem numB7 {l : List UInt8} (h : l.length ≤ 7) : numB l < 72057594037927936 := Nat.lt_of_lt_of_le (numB_lt l) (Nat.le_trans (Nat.pow_le_pow_right (by decide) h) (by decide))
theorem loop38 (s : Option Sl) (l : List UInt8) (hmax : l.length ≤ 4611686018427387904) (a w : Nat) (hw : w ≤ 8) (hal : a + w ≤ l.length) (H : Heap) (hs : RS 1 E8 H s l) : ∀ (m n : Nat), m ≤ w →
    D38_3 (n + m + 1) (a : Int) ((numB ((l.drop (a + m)).take (w - m)) : Nat) : Int) ((m : Int) - 1) s H = some (.exit 0, X38_3 ((numB ((l.drop a).take w) : Nat) : Int) H)
  | 0, n, hm => by
    have g : decide (((0 : Nat) : Int) - 1 ≥ 0) = false := by decide
    rw [D38_3_s, g, cf]; rfl
  | m + 1, n, hm => by
    have hb : a + m < l.length := by omega
    have hlb : l[a + m]? = some l[a + m] := List.getElem?_eq_getElem hb
    obtain ⟨sl, rfl, g2, g4⟩ := hs.idx1 hlb (e := fun b => .int .u8 (b.toNat : Int)) fun _ => rfl
    have e : (((m + 1 : Nat) : Int) - 1) = m := by omega
    have g : decide ((m : Int) ≥ 0) = true := by simp
    have g1 : IntKind.i64.wrap ((a : Int) + (m : Int)) = ((a + m : Nat) : Int) := by rw [wrap_i64 (by omega) (by omega)]; omega
    have g3 : IntKind.i64.wrap ((m : Int) - 1) = (m : Int) - 1 := wrap_i64 (by omega) (by omega)
    have hlt : numB ((l.drop (a + (m + 1))).take (w - (m + 1))) < 72057594037927936 := numB7 (by simp; omega)
    have e2 : l[a + m] :: (l.drop (a + (m + 1))).take (w - (m + 1)) = (l.drop (a + m)).take (w - m) := by
      rw [show w - m = (w - (m + 1)) + 1 by omega, List.drop_eq_getElem_cons hb, List.take_succ_cons]; rfl
    rw [show n + (m + 1) + 1 = (n + m + 1) + 1 by omega, e, D38_3_s, g]
    simp only [ct, bs, g1, g2, g3, g4, tInt, shl8_or _ _ hlt l[a + m].toNat_lt]
    rw [show l[a + m].toNat + 256 * numB ((l.drop (a + (m + 1))).take (w - (m + 1))) = numB ((l.drop (a + m)).take (w - m)) by rw [← e2]; rfl]
    exact loop38 (some sl) l hmax a w hw hal H hs m n (by omega)
theorem f38_spec (s : Option Sl) (l : List UInt8) (hmax : l.length ≤ 4611686018427387904) (a w : Nat) (hw : w ≤ 8) (hal : a + w ≤ l.length) (H : Heap) (hs : RS 1 E8 H s l) :
    f38 s (a : Int) (w : Int) H = some (((numB ((l.drop a).take w) : Nat) : Int), H) := by
  have g : IntKind.i64.wrap ((w : Int) - 1) = (w : Int) - 1 := wrap_i64 (by omega) (by omega)
  obtain ⟨n, hn⟩ := LL38_3_of w (by omega) (a : Int) 0 ((w : Int) - 1) s H
  have h := loop38 s l hmax a w hw hal H hs w n (Nat.le_refl _)
  rw [Nat.sub_self] at h
  rw [q38, g, hn, show D38_3 (n + w + 1) (a : Int) 0 ((w : Int) - 1) s H = _ from h, bs, J38_3_0]
/-! 16: rope_Rope_At -/
noncomputable def CC16 : Ctx := { P := Try.prog, own := [], fns := [(33, F33), (36, F36), (38, specF enc38 (sem38 f38))], nt := 31, nums := [33, 36], live := [] }
theorem good16 : Callees Try.prog CC16.fns [] CC16.nums := (((Callees.nil Try.prog).cons ok38 (specF_nat _ _)).cons_num ok36 F36_num).cons_num ok33 F33_num
theorem hN16 : CtxNat CC16 := good16.ctx rfl rfl rfl
abbrev Ty16 := (Option (Nat × Nat)) → Int → Int → Heap → Option ((Int × Int) × Heap)
def enc16 (r : Int × Int) : List TV := [.c (Cell.int .u64 (r.1)), .c (Cell.int .i64 (r.2))]
def dec16 : AV → Option (Int × Int)
  | .tup [.c (Cell.int .u64 q0), .c (Cell.int .i64 q1)] => some (q0, q1)
  | _ => none
theorem de16 (v : AV) (r : Int × Int) (h : dec16 v = some r) : v = oneOf (enc16 r) := by
  unfold dec16 at h
  split at h
  · cases h; rfl
  · cases h
def sem16 (f : Ty16) : List TV → Heap → Option ((Int × Int) × Heap)
  | [.c (Cell.ptr r), .c (Cell.int .i64 x1), .c (Cell.int .i64 w)], H => f r x1 w H
  | _, _ => none
noncomputable def f16 : Ty16 := hide fun r x1 w H => fnA CC16 Try.f16.results.toList (bodyOf Try.f16) _ [.c (Cell.ptr r), .c (Cell.int .i64 x1), .c (Cell.int .i64 w)] H (decF dec16)
theorem f16_eq (r : (Option (Nat × Nat))) (x1 : Int) (w : Int) (H : Heap) : f16 r x1 w H = fnA CC16 Try.f16.results.toList (bodyOf Try.f16) _ [.c (Cell.ptr r), .c (Cell.int .i64 x1), .c (Cell.int .i64 w)] H (decF dec16) := by unfold f16; rw [hide_eq]
theorem f16_run (r : (Option (Nat × Nat))) (x1 : Int) (w : Int) (H : Heap) : f16 r x1 w H = fnL CC16 (lpD CC16) Try.f16.results.toList (bodyOf Try.f16) [.c (Cell.ptr r), .c (Cell.int .i64 x1), .c (Cell.int .i64 w)] H (decF dec16) := (f16_eq ..).trans (fnA_lpD hN16 ..)
theorem q16 : ∀ (r : Option (Nat × Nat)) (x1 w : Int) (H : Heap), f16 r x1 w H = bif r.isNone then some ((0, 1), H) else bif !bits_Is w then some ((0, 2), H) else r.bind fun v6 => (H.get v6.fst (v6.snd + 0)).bind fun v5 => v5.toSlice.bind fun v4 => bif !rope_store_has v4 x1 w then some ((0, 7), H) else r.bind fun v3 => (H.get v3.fst (v3.snd + 0)).bind fun v2 => v2.toSlice.bind fun v1 => (f38 v1 x1 w H).bind fun v0 => some ((v0.fst, 0), v0.snd) := by intros; exact (f16_run ..).trans (by kernel_rfl)
theorem ok16 : FnOk Try.prog 16 (specF enc16 (sem16 f16)) := by
  refine spec_ok (C := CC16) good16 rfl rfl rfl (by kernel_rfl) Try.func16 (c := bodyOf Try.f16) (by kernel_rfl) (by kernel_rfl) (Nat.le_of_eq Try.ntmps16.symm) dec16 enc16 de16 _ ?_
  intro args H q h
  unfold sem16 at h
  split at h
  · rw [← f16_eq]; exact h
  · cases h
/-! 37: bytes_Clone -/
noncomputable def CC37 : Ctx := { P := Try.prog, own := [], fns := [], nt := 8, nums := [], live := [] }
theorem good37 : Callees Try.prog CC37.fns [] CC37.nums := Callees.nil Try.prog
theorem hN37 : CtxNat CC37 := good37.ctx rfl rfl rfl
abbrev Ty37 := (Option Sl) → Heap → Option ((Option Sl) × Heap)
def enc37 (r : (Option Sl)) : List TV := [.c (Cell.slice (r))]
def dec37 : AV → Option ((Option Sl))
  | .c (Cell.slice q0) => some (q0)
  | _ => none
theorem de37 (v : AV) (r : (Option Sl)) (h : dec37 v = some r) : v = oneOf (enc37 r) := by
  unfold dec37 at h
  split at h
  · cases h; rfl
  · cases h
def sem37 (f : Ty37) : List TV → Heap → Option ((Option Sl) × Heap)
  | [.c (Cell.slice b)], H => f b H
  | _, _ => none
noncomputable def f37 : Ty37 := hide fun b H => fnA CC37 Try.f37.results.toList (bodyOf Try.f37) _ [.c (Cell.slice b)] H (decF dec37)
theorem f37_eq (b : (Option Sl)) (H : Heap) : f37 b H = fnA CC37 Try.f37.results.toList (bodyOf Try.f37) _ [.c (Cell.slice b)] H (decF dec37) := by unfold f37; rw [hide_eq]
theorem f37_run (b : (Option Sl)) (H : Heap) : f37 b H = fnL CC37 (lpD CC37) Try.f37.results.toList (bodyOf Try.f37) [.c (Cell.slice b)] H (decF dec37) := (f37_eq ..).trans (fnA_lpD hN37 ..)
theorem q37 : ∀ (b : Option Sl) (H : Heap), f37 b H = bif b.isNone then some (none, H) else ((H ++ [Blk.row [] false]).append 1 1 (some { id := List.length H, off := 0, len := 0, cap := 0, esz := 1 }) b).bind fun v0 => some (v0.fst, v0.snd) := by intros; exact (f37_run ..).trans (by kernel_rfl)
theorem ok37 : FnOk Try.prog 37 (specF enc37 (sem37 f37)) := by
  refine spec_ok (C := CC37) good37 rfl rfl rfl (by kernel_rfl) Try.func37 (c := bodyOf Try.f37) (by kernel_rfl) (by kernel_rfl) (Nat.le_of_eq Try.ntmps37.symm) dec37 enc37 de37 _ ?_
  intro args H q h
  unfold sem37 at h
  split at h
  · rw [← f37_eq]; exact h
  · cases h
theorem f37_spec (s : Option Sl) (l : List UInt8) (H : Heap) (hs : RS 1 E8 H s l) (hl : l.length ≤ most) :
    ∃ s' H', f37 s H = some (s', H') ∧ OS 1 E8 H' s' l ∧ Kp No H H' ∧ New H.length s' := by
  rw [q37]
  cases s with
  | none =>
    cases hs
    exact ⟨none, H, rfl, rfl, Kp.refl _ _, fun _ e => nomatch e⟩
  | some sl =>
    have h1 := OS_new (n := 1) (E := E8) H
    obtain ⟨s', H', h2, h3, h4, h5⟩ := append_OS E8_len (by decide) (by' := 1) h1 (hs.new E8_len (by decide) (Kp.push No H [.row [] false]) fun _ _ h => h) (by simpa using hl)
    refine ⟨s', H', by rw [nsome, cf, h2, bs], by simpa using h3, (Kp.push No H _).trans h4 (fun _ h => h) (fun i hi hf => ?_), fun sl' e => ?_⟩
    · obtain ⟨sl0, e0, e1⟩ := hf; cases e0; exact absurd e1 (by show ¬ i = H.length; omega)
    · rcases h5 sl' e with ⟨sl0, e0, e1⟩ | h
      · cases e0; rw [e1]; exact Nat.le_refl _
      · simp at h; omega
/-! 9: L02_awake -/
noncomputable def OC10 : Ctx := { P := Try.prog, own := [], fns := [], nt := 38, nums := [], live := [(3, ⟨[3, 8, 9, 10], [], [3], []⟩)] }
theorem goodO10 : Callees Try.prog OC10.fns [] OC10.nums := Callees.nil Try.prog
noncomputable def OF10 : FnSem := natF (runS OC10 Try.f10.results.toList (bodyOf Try.f10))
theorem okO10 : FnOk Try.prog 10 OF10 := own_ok (C := OC10) goodO10 rfl rfl rfl (by kernel_rfl) Try.func10 (c := bodyOf Try.f10) (by kernel_rfl) (by kernel_rfl) (Nat.le_of_eq Try.ntmps10.symm)
noncomputable def OC33 : Ctx := { P := Try.prog, own := [], fns := [], nt := 17, nums := [], live := [] }
theorem goodO33 : Callees Try.prog OC33.fns [] OC33.nums := Callees.nil Try.prog
noncomputable def OF33 : FnSem := natF (runS OC33 Try.f33.results.toList (bodyOf Try.f33))
theorem okO33 : FnOk Try.prog 33 OF33 := own_ok (C := OC33) goodO33 rfl rfl rfl (by kernel_rfl) Try.func33 (c := bodyOf Try.f33) (by kernel_rfl) (by kernel_rfl) (Nat.le_of_eq Try.ntmps33.symm)
noncomputable def OC34 : Ctx := { P := Try.prog, own := [2], fns := [], nt := 11, nums := [], live := [] }
theorem goodO34 : Callees Try.prog OC34.fns [] OC34.nums := Callees.nil Try.prog
noncomputable def OF34 : FnSem := natF (runS OC34 Try.f34.results.toList (bodyOf Try.f34))
theorem okO34 : FnOk Try.prog 34 OF34 := own_ok (C := OC34) goodO34 rfl rfl rfl (by kernel_rfl) Try.func34 (c := bodyOf Try.f34) (by kernel_rfl) (by kernel_rfl) (Nat.le_of_eq Try.ntmps34.symm)
noncomputable def OC35 : Ctx := { P := Try.prog, own := [], fns := [], nt := 20, nums := [], live := [(1, ⟨[0, 2, 7, 8], [], [], []⟩)] }
theorem goodO35 : Callees Try.prog OC35.fns [] OC35.nums := Callees.nil Try.prog
noncomputable def OF35 : FnSem := natF (runS OC35 Try.f35.results.toList (bodyOf Try.f35))
theorem okO35 : FnOk Try.prog 35 OF35 := own_ok (C := OC35) goodO35 rfl rfl rfl (by kernel_rfl) Try.func35 (c := bodyOf Try.f35) (by kernel_rfl) (by kernel_rfl) (Nat.le_of_eq Try.ntmps35.symm)
noncomputable def OC11 : Ctx := { P := Try.prog, own := [], fns := [(35, OF35), (34, OF34), (33, OF33)], nt := 58, nums := [], live := [(8, ⟨[0, 1, 35, 36, 37], [], [], []⟩)] }
theorem goodO11 : Callees Try.prog OC11.fns [] OC11.nums := (((Callees.nil Try.prog).cons okO33 (natF_nat _)).cons okO34 (natF_nat _)).cons okO35 (natF_nat _)
noncomputable def OF11 : FnSem := natF (runS OC11 Try.f11.results.toList (bodyOf Try.f11))
theorem okO11 : FnOk Try.prog 11 OF11 := own_ok (C := OC11) goodO11 rfl rfl rfl (by kernel_rfl) Try.func11 (c := bodyOf Try.f11) (by kernel_rfl) (by kernel_rfl) (Nat.le_of_eq Try.ntmps11.symm)
noncomputable def OC36 : Ctx := { P := Try.prog, own := [3], fns := [], nt := 29, nums := [], live := [] }
theorem goodO36 : Callees Try.prog OC36.fns [] OC36.nums := Callees.nil Try.prog
noncomputable def OF36 : FnSem := natF (runS OC36 Try.f36.results.toList (bodyOf Try.f36))
theorem okO36 : FnOk Try.prog 36 OF36 := own_ok (C := OC36) goodO36 rfl rfl rfl (by kernel_rfl) Try.func36 (c := bodyOf Try.f36) (by kernel_rfl) (by kernel_rfl) (Nat.le_of_eq Try.ntmps36.symm)
noncomputable def OC32 : Ctx := { P := Try.prog, own := [], fns := [(35, OF35), (36, OF36), (33, OF33)], nt := 35, nums := [], live := [] }
theorem goodO32 : Callees Try.prog OC32.fns [] OC32.nums := (((Callees.nil Try.prog).cons okO33 (natF_nat _)).cons okO36 (natF_nat _)).cons okO35 (natF_nat _)
noncomputable def OF32 : FnSem := natF (runS OC32 Try.f32.results.toList (bodyOf Try.f32))
theorem okO32 : FnOk Try.prog 32 OF32 := own_ok (C := OC32) goodO32 rfl rfl rfl (by kernel_rfl) Try.func32 (c := bodyOf Try.f32) (by kernel_rfl) (by kernel_rfl) (Nat.le_of_eq Try.ntmps32.symm)
noncomputable def OC38 : Ctx := { P := Try.prog, own := [3], fns := [], nt := 27, nums := [], live := [(3, ⟨[1, 3, 7, 8], [3], [7], []⟩)] }
theorem goodO38 : Callees Try.prog OC38.fns [] OC38.nums := Callees.nil Try.prog
noncomputable def OF38 : FnSem := natF (runS OC38 Try.f38.results.toList (bodyOf Try.f38))
theorem okO38 : FnOk Try.prog 38 OF38 := own_ok (C := OC38) goodO38 rfl rfl rfl (by kernel_rfl) Try.func38 (c := bodyOf Try.f38) (by kernel_rfl) (by kernel_rfl) (Nat.le_of_eq Try.ntmps38.symm)
noncomputable def OC16 : Ctx := { P := Try.prog, own := [], fns := [(38, OF38), (36, OF36), (33, OF33)], nt := 31, nums := [], live := [] }
theorem goodO16 : Callees Try.prog OC16.fns [] OC16.nums := (((Callees.nil Try.prog).cons okO33 (natF_nat _)).cons okO36 (natF_nat _)).cons okO38 (natF_nat _)
noncomputable def OF16 : FnSem := natF (runS OC16 Try.f16.results.toList (bodyOf Try.f16))
theorem okO16 : FnOk Try.prog 16 OF16 := own_ok (C := OC16) goodO16 rfl rfl rfl (by kernel_rfl) Try.func16 (c := bodyOf Try.f16) (by kernel_rfl) (by kernel_rfl) (Nat.le_of_eq Try.ntmps16.symm)
noncomputable def OC37 : Ctx := { P := Try.prog, own := [], fns := [], nt := 8, nums := [], live := [] }
theorem goodO37 : Callees Try.prog OC37.fns [] OC37.nums := Callees.nil Try.prog
noncomputable def OF37 : FnSem := natF (runS OC37 Try.f37.results.toList (bodyOf Try.f37))
theorem okO37 : FnOk Try.prog 37 OF37 := own_ok (C := OC37) goodO37 rfl rfl rfl (by kernel_rfl) Try.func37 (c := bodyOf Try.f37) (by kernel_rfl) (by kernel_rfl) (Nat.le_of_eq Try.ntmps37.symm)
noncomputable def OC29 : Ctx := { P := Try.prog, own := [], fns := [(37, OF37)], nt := 11, nums := [], live := [] }
theorem goodO29 : Callees Try.prog OC29.fns [] OC29.nums := (Callees.nil Try.prog).cons okO37 (natF_nat _)
noncomputable def OF29 : FnSem := natF (runS OC29 Try.f29.results.toList (bodyOf Try.f29))
theorem okO29 : FnOk Try.prog 29 OF29 := own_ok (C := OC29) goodO29 rfl rfl rfl (by kernel_rfl) Try.func29 (c := bodyOf Try.f29) (by kernel_rfl) (by kernel_rfl) (Nat.le_of_eq Try.ntmps29.symm)
noncomputable def OC9 : Ctx := { P := Try.prog, own := [], fns := [(29, OF29), (16, OF16), (32, OF32), (11, OF11), (10, OF10)], nt := 48, nums := [], live := [] }
theorem goodO9 : Callees Try.prog OC9.fns [] OC9.nums := (((((Callees.nil Try.prog).cons okO10 (natF_nat _)).cons okO11 (natF_nat _)).cons okO32 (natF_nat _)).cons okO16 (natF_nat _)).cons okO29 (natF_nat _)
abbrev F9 : FnSem := trueF
theorem F9_num : FnNum F9 := trueF_num
theorem ok9 : FnOk Try.prog 9 F9 := closed_ok (C := OC9) goodO9 rfl rfl rfl (by kernel_rfl) Try.func9 (c := bodyOf Try.f9) (by kernel_rfl) (by kernel_rfl) (Nat.le_of_eq Try.ntmps9.symm) (by kernel_rfl)
/-! 12: rope_Rope_Len -/
noncomputable def CC12 : Ctx := { P := Try.prog, own := [], fns := [], nt := 11, nums := [], live := [] }
theorem good12 : Callees Try.prog CC12.fns [] CC12.nums := Callees.nil Try.prog
theorem hN12 : CtxNat CC12 := good12.ctx rfl rfl rfl
abbrev Ty12 := (Option (Nat × Nat)) → Heap → Option (Int × Heap)
def enc12 (r : Int) : List TV := [.c (Cell.int .i64 (r))]
def dec12 : AV → Option (Int)
  | .c (Cell.int .i64 q0) => some (q0)
  | _ => none
theorem de12 (v : AV) (r : Int) (h : dec12 v = some r) : v = oneOf (enc12 r) := by
  unfold dec12 at h
  split at h
  · cases h; rfl
  · cases h
def sem12 (f : Ty12) : List TV → Heap → Option (Int × Heap)
  | [.c (Cell.ptr r)], H => f r H
  | _, _ => none
noncomputable def f12 : Ty12 := hide fun r H => fnA CC12 Try.f12.results.toList (bodyOf Try.f12) _ [.c (Cell.ptr r)] H (decF dec12)
theorem f12_eq (r : (Option (Nat × Nat))) (H : Heap) : f12 r H = fnA CC12 Try.f12.results.toList (bodyOf Try.f12) _ [.c (Cell.ptr r)] H (decF dec12) := by unfold f12; rw [hide_eq]
theorem f12_run (r : (Option (Nat × Nat))) (H : Heap) : f12 r H = fnL CC12 (lpD CC12) Try.f12.results.toList (bodyOf Try.f12) [.c (Cell.ptr r)] H (decF dec12) := (f12_eq ..).trans (fnA_lpD hN12 ..)
theorem q12 : ∀ (r : Option (Nat × Nat)) (H : Heap), f12 r H = bif r.isNone then some (0, H) else r.bind fun v2 => (H.get v2.fst (v2.snd + 0 + 0)).bind fun v1 => v1.toSlice.bind fun v0 => some (slen v0, H) := by intros; exact (f12_run ..).trans (by kernel_rfl)
theorem ok12 : FnOk Try.prog 12 (specF enc12 (sem12 f12)) := by
  refine spec_ok (C := CC12) good12 rfl rfl rfl (by kernel_rfl) Try.func12 (c := bodyOf Try.f12) (by kernel_rfl) (by kernel_rfl) (Nat.le_of_eq Try.ntmps12.symm) dec12 enc12 de12 _ ?_
  intro args H q h
  unfold sem12 at h
  split at h
  · rw [← f12_eq]; exact h
  · cases h
abbrev TyR12 := (Option (Nat × Nat)) → Heap → Option Int
def semR12 (f : TyR12) : List TV → Heap → Option Int
  | [.c (Cell.ptr r)], H => f r H
  | _, _ => none
noncomputable def g12 : TyR12 := hide fun r H => readOf (f12 r H) H
theorem g12_eq (r : (Option (Nat × Nat))) (H : Heap) : g12 r H = readOf (f12 r H) H := by unfold g12; rw [hide_eq]
theorem okR12 : FnOk Try.prog 12 (readF enc12 (semR12 g12)) := read_ok ok12 fun args H r h => by
  unfold semR12 at h
  split at h
  · rw [g12_eq] at h; exact readOf_some h
  · cases h
/-! 13: rope_Rope_Read -/
noncomputable def CC13 : Ctx := { P := Try.prog, own := [], fns := [(36, F36), (37, specF enc37 (sem37 f37))], nt := 30, nums := [36], live := [] }
theorem good13 : Callees Try.prog CC13.fns [] CC13.nums := ((Callees.nil Try.prog).cons ok37 (specF_nat _ _)).cons_num ok36 F36_num
theorem hN13 : CtxNat CC13 := good13.ctx rfl rfl rfl
abbrev Ty13 := (Option (Nat × Nat)) → Int → Heap → Option (((Option (Nat × Nat))) × Heap)
def enc13 (r : (Option (Nat × Nat))) : List TV := [.c (Cell.ptr (r))]
def dec13 : AV → Option ((Option (Nat × Nat)))
  | .c (Cell.ptr q0) => some (q0)
  | _ => none
theorem de13 (v : AV) (r : (Option (Nat × Nat))) (h : dec13 v = some r) : v = oneOf (enc13 r) := by
  unfold dec13 at h
  split at h
  · cases h; rfl
  · cases h
def sem13 (f : Ty13) : List TV → Heap → Option (((Option (Nat × Nat))) × Heap)
  | [.c (Cell.ptr r), .c (Cell.int .i64 x1)], H => f r x1 H
  | _, _ => none
noncomputable def f13 : Ty13 := hide fun r x1 H => fnA CC13 Try.f13.results.toList (bodyOf Try.f13) _ [.c (Cell.ptr r), .c (Cell.int .i64 x1)] H (decF dec13)
theorem f13_eq (r : (Option (Nat × Nat))) (x1 : Int) (H : Heap) : f13 r x1 H = fnA CC13 Try.f13.results.toList (bodyOf Try.f13) _ [.c (Cell.ptr r), .c (Cell.int .i64 x1)] H (decF dec13) := by unfold f13; rw [hide_eq]
theorem f13_run (r : (Option (Nat × Nat))) (x1 : Int) (H : Heap) : f13 r x1 H = fnL CC13 (lpD CC13) Try.f13.results.toList (bodyOf Try.f13) [.c (Cell.ptr r), .c (Cell.int .i64 x1)] H (decF dec13) := (f13_eq ..).trans (fnA_lpD hN13 ..)
theorem q13 : ∀ (r : Option (Nat × Nat)) (x1 : Int) (H : Heap), f13 r x1 H = bif r.isNone then some (some (List.length H, 0), H ++ [Blk.row [Cell.slice none, Cell.int IntKind.i64 0, Cell.int IntKind.i64 1] false]) else r.bind fun v6 => (H.get v6.fst (v6.snd + 0)).bind fun v5 => v5.toSlice.bind fun v4 => bif !rope_store_has v4 x1 0 then some (some (List.length H, 0), H ++ [Blk.row [Cell.slice none, Cell.int IntKind.i64 0, Cell.int IntKind.i64 7] false]) else r.bind fun v3 => (H.get v3.fst (v3.snd + 0 + 0)).bind fun v2 => v2.toSlice.bind fun v1 => (f37 v1 H).bind fun v0 => some (some (List.length v0.snd, 0), v0.snd ++ [Blk.row [Cell.slice v0.fst, Cell.int IntKind.i64 x1, Cell.int IntKind.i64 0] false]) := by intros; exact (f13_run ..).trans (by kernel_rfl)
theorem ok13 : FnOk Try.prog 13 (specF enc13 (sem13 f13)) := by
  refine spec_ok (C := CC13) good13 rfl rfl rfl (by kernel_rfl) Try.func13 (c := bodyOf Try.f13) (by kernel_rfl) (by kernel_rfl) (Nat.le_of_eq Try.ntmps13.symm) dec13 enc13 de13 _ ?_
  intro args H q h
  unfold sem13 at h
  split at h
  · rw [← f13_eq]; exact h
  · cases h
/-- A view's cells. -/
def vw (s : Option Sl) (a e : Int) : Blk := .row [.slice s, .int .i64 a, .int .i64 e] false
theorem f13_no (id : Nat) (s : Option Sl) (l : List UInt8) (a : Int) (H : Heap) (h : H[id]? = some (.row [.slice s] false)) (hb : RS 1 E8 H s l) (hl : l.length ≤ most) (ha : hasI l.length a 0 = false) :
    f13 (some (id, 0)) a H = some (some (H.length, 0), H ++ [vw none 0 7]) := by
  have hh := (has_eq hb (by unfold most at hl; omega) a 0).trans ha
  rw [q13]
  simp only [nsome, ct, cf, bs, az, get_of h, rg0, tSlice, hh, Bool.not_false]
  rfl
theorem f13_yes (id : Nat) (s : Option Sl) (l : List UInt8) (a : Int) (H : Heap) (h : H[id]? = some (.row [.slice s] false)) (hb : RS 1 E8 H s l) (hl : l.length ≤ most) (ha : hasI l.length a 0 = true) :
    ∃ s' H', f13 (some (id, 0)) a H = some (some (H'.length, 0), H' ++ [vw s' a 0]) ∧ OS 1 E8 H' s' l ∧ Kp No H H' ∧ New H.length s' := by
  obtain ⟨s', H', h1, h2, h3, h4⟩ := f37_spec s l H hb hl
  refine ⟨s', H', ?_, h2, h3, h4⟩
  have hh := (has_eq hb (by unfold most at hl; omega) a 0).trans ha
  rw [q13]
  simp only [nsome, ct, cf, bs, az, get_of h, rg0, tSlice, hh, Bool.not_true, h1]
  rfl
/-! 15: R2_Bytes -/
noncomputable def CC15 : Ctx := { P := Try.prog, own := [], fns := [], nt := 21, nums := [], live := [(3, ⟨[0, 1, 5, 6], [], [5], []⟩)] }
theorem good15 : Callees Try.prog CC15.fns [] CC15.nums := Callees.nil Try.prog
theorem hN15 : CtxNat CC15 := good15.ctx rfl rfl rfl
abbrev Ty15 := Int → Int → Heap → Option ((Option Sl) × Heap)
def enc15 (r : (Option Sl)) : List TV := [.c (Cell.slice (r))]
def dec15 : AV → Option ((Option Sl))
  | .c (Cell.slice q0) => some (q0)
  | _ => none
theorem de15 (v : AV) (r : (Option Sl)) (h : dec15 v = some r) : v = oneOf (enc15 r) := by
  unfold dec15 at h
  split at h
  · cases h; rfl
  · cases h
def sem15 (f : Ty15) : List TV → Heap → Option ((Option Sl) × Heap)
  | [.c (Cell.int .i64 w), .c (Cell.int .u64 v)], H => f w v H
  | _, _ => none
noncomputable def f15 : Ty15 := hide fun w v H => fnA CC15 Try.f15.results.toList (bodyOf Try.f15) _ [.c (Cell.int .i64 w), .c (Cell.int .u64 v)] H (decF dec15)
theorem f15_eq (w : Int) (v : Int) (H : Heap) : f15 w v H = fnA CC15 Try.f15.results.toList (bodyOf Try.f15) _ [.c (Cell.int .i64 w), .c (Cell.int .u64 v)] H (decF dec15) := by unfold f15; rw [hide_eq]
theorem f15_run (w : Int) (v : Int) (H : Heap) : f15 w v H = fnL CC15 (lpD CC15) Try.f15.results.toList (bodyOf Try.f15) [.c (Cell.int .i64 w), .c (Cell.int .u64 v)] H (decF dec15) := (f15_eq ..).trans (fnA_lpD hN15 ..)
def S15_3 (t0 : Int) (t1 : Int) (t5 : (Option Sl)) (t6 : Int) (H : Heap) : St := ⟨[(0, .c (Cell.int .i64 t0)), (1, .c (Cell.int .u64 t1)), (5, .c (Cell.slice t5)), (6, .c (Cell.int .i64 t6))], [], H⟩
noncomputable def D15_3 (n : Nat) (t0 : Int) (t1 : Int) (t5 : (Option Sl)) (t6 : Int) (H : Heap) : Option (AExit × St) := loopN (exec CC15 (Code.l (Code.l (Code.r (Code.l (Code.r (Code.r (bodyOf Try.f15)))))))) (keepOf CC15.live (Code.l (Code.l (Code.r (Code.l (Code.r (Code.r (bodyOf Try.f15)))))))) n (S15_3 t0 t1 t5 t6 H) retD
noncomputable def LL15_3 (t0 : Int) (t1 : Int) (t5 : (Option Sl)) (t6 : Int) (H : Heap) : Option (AExit × St) := loopsD CC15 (Code.l (Code.l (Code.r (Code.l (Code.r (Code.r (bodyOf Try.f15))))))) (S15_3 t0 t1 t5 t6 H)
theorem LL15_3_of (m : Nat) (hm : m < 18446744073709551616) (t0 : Int) (t1 : Int) (t5 : (Option Sl)) (t6 : Int) (H : Heap) : ∃ n, LL15_3 t0 t1 t5 t6 H = D15_3 (n + m + 1) t0 t1 t5 t6 H := loopsD_of _ _ _ m hm
def X15_3 (x0 : Option Sl) (H : Heap) : St := { env := [(5, AV.c (Cell.slice x0))], loc := [], heap := H }
noncomputable def J15_3 : AExit × St → Option (Option Sl × Heap) := fun p => blockK 0 (seqK (execL CC15 (lpD CC15) (Code.r (Code.r (Code.r (bodyOf Try.f15))))) (retA CC15 [ResultVar.tmp 4] (decF dec15))) p.fst p.snd
theorem D15_3_s : ∀ (n : Nat) (t0 t1 : Int) (t5 : Option Sl) (t6 : Int) (H : Heap), D15_3 (n + 1) t0 t1 t5 t6 H = bif decide (t6 < t0) then ((H ++ [Blk.row [Cell.int IntKind.u8 (IntKind.u8.wrap (t1.tmod 256))] false]).append 1 1 t5 (some { id := List.length H, off := 0, len := 1, cap := 1, esz := 1 })).bind fun v0 => D15_3 n t0 (IntKind.u64.wrap (t1.tdiv 256)) v0.fst (IntKind.i64.wrap (t6 + 1)) v0.snd else some (AExit.exit 0, X15_3 t5 H) := by intros; exact (loopN_stepD hN15 _ _ _ _).trans (by kernel_rfl)
theorem q15 : ∀ (w v : Int) (H : Heap), f15 w v H = (LL15_3 w v none 0 H).bind J15_3 := by intros; exact (f15_run ..).trans (by kernel_rfl)
theorem J15_3_0 : ∀ (x0 : Option Sl) (H : Heap), J15_3 (AExit.exit 0, X15_3 x0 H) = some (x0, H) := by intros; kernel_rfl
theorem ok15 : FnOk Try.prog 15 (specF enc15 (sem15 f15)) := by
  refine spec_ok (C := CC15) good15 rfl rfl rfl (by kernel_rfl) Try.func15 (c := bodyOf Try.f15) (by kernel_rfl) (by kernel_rfl) (Nat.le_of_eq Try.ntmps15.symm) dec15 enc15 de15 _ ?_
  intro args H q h
  unfold sem15 at h
  split at h
  · rw [← f15_eq]; exact h
  · cases h
/-! 14: R2_Num -/
noncomputable def CC14 : Ctx := { P := Try.prog, own := [], fns := [], nt := 21, nums := [], live := [(3, ⟨[0, 3, 4], [], [3], []⟩)] }
theorem good14 : Callees Try.prog CC14.fns [] CC14.nums := Callees.nil Try.prog
theorem hN14 : CtxNat CC14 := good14.ctx rfl rfl rfl
abbrev Ty14 := (Option Sl) → Heap → Option (Int × Heap)
def enc14 (r : Int) : List TV := [.c (Cell.int .u64 (r))]
def dec14 : AV → Option (Int)
  | .c (Cell.int .u64 q0) => some (q0)
  | _ => none
theorem de14 (v : AV) (r : Int) (h : dec14 v = some r) : v = oneOf (enc14 r) := by
  unfold dec14 at h
  split at h
  · cases h; rfl
  · cases h
def sem14 (f : Ty14) : List TV → Heap → Option (Int × Heap)
  | [.c (Cell.slice b)], H => f b H
  | _, _ => none
noncomputable def f14 : Ty14 := hide fun b H => fnA CC14 Try.f14.results.toList (bodyOf Try.f14) _ [.c (Cell.slice b)] H (decF dec14)
theorem f14_eq (b : (Option Sl)) (H : Heap) : f14 b H = fnA CC14 Try.f14.results.toList (bodyOf Try.f14) _ [.c (Cell.slice b)] H (decF dec14) := by unfold f14; rw [hide_eq]
theorem f14_run (b : (Option Sl)) (H : Heap) : f14 b H = fnL CC14 (lpD CC14) Try.f14.results.toList (bodyOf Try.f14) [.c (Cell.slice b)] H (decF dec14) := (f14_eq ..).trans (fnA_lpD hN14 ..)
def S14_3 (t0 : (Option Sl)) (t3 : Int) (t4 : Int) (H : Heap) : St := ⟨[(0, .c (Cell.slice t0)), (3, .c (Cell.int .u64 t3)), (4, .c (Cell.int .i64 t4))], [], H⟩
noncomputable def D14_3 (n : Nat) (t0 : (Option Sl)) (t3 : Int) (t4 : Int) (H : Heap) : Option (AExit × St) := loopN (exec CC14 (Code.l (Code.l (Code.r (Code.l (Code.r (Code.r (bodyOf Try.f14)))))))) (keepOf CC14.live (Code.l (Code.l (Code.r (Code.l (Code.r (Code.r (bodyOf Try.f14)))))))) n (S14_3 t0 t3 t4 H) retD
noncomputable def LL14_3 (t0 : (Option Sl)) (t3 : Int) (t4 : Int) (H : Heap) : Option (AExit × St) := loopsD CC14 (Code.l (Code.l (Code.r (Code.l (Code.r (Code.r (bodyOf Try.f14))))))) (S14_3 t0 t3 t4 H)
theorem LL14_3_of (m : Nat) (hm : m < 18446744073709551616) (t0 : (Option Sl)) (t3 : Int) (t4 : Int) (H : Heap) : ∃ n, LL14_3 t0 t3 t4 H = D14_3 (n + m + 1) t0 t3 t4 H := loopsD_of _ _ _ m hm
def X14_3 (x0 : Int) (H : Heap) : St := { env := [(3, AV.c (Cell.int IntKind.u64 x0))], loc := [], heap := H }
noncomputable def J14_3 : AExit × St → Option (Int × Heap) := fun p => blockK 0 (seqK (execL CC14 (lpD CC14) (Code.r (Code.r (Code.r (bodyOf Try.f14))))) (retA CC14 [ResultVar.tmp 2] (decF dec14))) p.fst p.snd
theorem D14_3_s : ∀ (n : Nat) (t0 : Option Sl) (t3 t4 : Int) (H : Heap), D14_3 (n + 1) t0 t3 t4 H = bif decide (t4 ≥ 0) then t0.bind fun v2 => bif inb t4 v2.len && v2.esz == 1 then (H.get v2.id (v2.off + t4.toNat * 1)).bind fun v1 => (Cell.toInt IntKind.u8 v1).bind fun v0 => D14_3 n t0 (IntKind.u64.wrap (IntKind.u64.wrap (t3 * 256) + IntKind.u64.wrap v0)) (IntKind.i64.wrap (t4 - 1)) H else none else some (AExit.exit 0, X14_3 t3 H) := by intros; exact (loopN_stepD hN14 _ _ _ _).trans (by kernel_rfl)
theorem q14 : ∀ (b : Option Sl) (H : Heap), f14 b H = (LL14_3 b 0 (IntKind.i64.wrap (slen b - 1)) H).bind J14_3 := by intros; exact (f14_run ..).trans (by kernel_rfl)
theorem J14_3_0 : ∀ (x0 : Int) (H : Heap), J14_3 (AExit.exit 0, X14_3 x0 H) = some (x0, H) := by intros; kernel_rfl
theorem ok14 : FnOk Try.prog 14 (specF enc14 (sem14 f14)) := by
  refine spec_ok (C := CC14) good14 rfl rfl rfl (by kernel_rfl) Try.func14 (c := bodyOf Try.f14) (by kernel_rfl) (by kernel_rfl) (Nat.le_of_eq Try.ntmps14.symm) dec14 enc14 de14 _ ?_
  intro args H q h
  unfold sem14 at h
  split at h
  · rw [← f14_eq]; exact h
  · cases h
theorem loop14 (s : Option Sl) (l : List UInt8) (hl : l.length ≤ 8) (H : Heap) (hs : RS 1 E8 H s l) : ∀ (m n : Nat), m ≤ l.length →
    D14_3 (n + m + 1) s ((numB (l.drop m) : Nat) : Int) ((m : Int) - 1) H = some (.exit 0, X14_3 ((numB l : Nat) : Int) H)
  | 0, n, hm => by
    have g : decide (((0 : Nat) : Int) - 1 ≥ 0) = false := by decide
    rw [D14_3_s, g, cf]; rfl
  | m + 1, n, hm => by
    have hb : m < l.length := by omega
    have hlb : l[m]? = some l[m] := List.getElem?_eq_getElem hb
    obtain ⟨sl, rfl, g2, g4⟩ := hs.idx1 hlb (e := fun b => .int .u8 (b.toNat : Int)) fun _ => rfl
    have e : (((m + 1 : Nat) : Int) - 1) = m := by omega
    have g : decide ((m : Int) ≥ 0) = true := by simp
    have g3 : IntKind.i64.wrap ((m : Int) - 1) = (m : Int) - 1 := wrap_i64 (by omega) (by omega)
    have hlt : numB (l.drop (m + 1)) < 72057594037927936 := numB7 (by simp; omega)
    have h8 := l[m].toNat_lt
    have e3 : IntKind.u64.wrap (IntKind.u64.wrap (((numB (l.drop (m + 1)) : Nat) : Int) * 256) + IntKind.u64.wrap ((l[m].toNat : Nat) : Int)) = ((l[m].toNat + 256 * numB (l.drop (m + 1)) : Nat) : Int) := by
      simp only [wrap_u64]; omega
    have e2 : l[m] :: l.drop (m + 1) = l.drop m := by rw [List.drop_eq_getElem_cons hb]
    rw [show n + (m + 1) + 1 = (n + m + 1) + 1 by omega, e, D14_3_s, g]
    simp only [ct, bs, g2, g3, g4, tInt, e3]
    rw [show l[m].toNat + 256 * numB (l.drop (m + 1)) = numB (l.drop m) by rw [← e2]; rfl]
    exact loop14 (some sl) l hl H hs m n (by omega)
theorem f14_spec (s : Option Sl) (l : List UInt8) (hl : l.length ≤ 8) (H : Heap) (hs : RS 1 E8 H s l) : f14 s H = some (((numB l : Nat) : Int), H) := by
  have g : IntKind.i64.wrap (slen s - 1) = (l.length : Int) - 1 := by rw [hs.slenEq]; exact wrap_i64 (by omega) (by omega)
  obtain ⟨n, hn⟩ := LL14_3_of l.length (by omega) s 0 ((l.length : Int) - 1) H
  have h := loop14 s l hl H hs l.length n (Nat.le_refl _)
  rw [List.drop_length] at h
  rw [q14, g, hn, show D14_3 (n + l.length + 1) s 0 ((l.length : Int) - 1) H = _ from h, bs, J14_3_0]
/-! 39: rope_View_take -/
noncomputable def CC39 : Ctx := { P := Try.prog, own := [], fns := [(36, F36)], nt := 43, nums := [36], live := [] }
theorem good39 : Callees Try.prog CC39.fns [] CC39.nums := (Callees.nil Try.prog).cons_num ok36 F36_num
theorem hN39 : CtxNat CC39 := good39.ctx rfl rfl rfl
abbrev Ty39 := (Option (Nat × Nat)) → Int → Heap → Option ((Int × Bool) × Heap)
def enc39 (r : Int × Bool) : List TV := [.c (Cell.int .i64 (r.1)), .c (Cell.bool (r.2))]
def dec39 : AV → Option (Int × Bool)
  | .tup [.c (Cell.int .i64 q0), .c (Cell.bool q1)] => some (q0, q1)
  | _ => none
theorem de39 (v : AV) (r : Int × Bool) (h : dec39 v = some r) : v = oneOf (enc39 r) := by
  unfold dec39 at h
  split at h
  · cases h; rfl
  · cases h
def sem39 (f : Ty39) : List TV → Heap → Option ((Int × Bool) × Heap)
  | [.c (Cell.ptr v), .c (Cell.int .i64 n)], H => f v n H
  | _, _ => none
noncomputable def f39 : Ty39 := hide fun v n H => fnA CC39 Try.f39.results.toList (bodyOf Try.f39) _ [.c (Cell.ptr v), .c (Cell.int .i64 n)] H (decF dec39)
theorem f39_eq (v : (Option (Nat × Nat))) (n : Int) (H : Heap) : f39 v n H = fnA CC39 Try.f39.results.toList (bodyOf Try.f39) _ [.c (Cell.ptr v), .c (Cell.int .i64 n)] H (decF dec39) := by unfold f39; rw [hide_eq]
theorem f39_run (v : (Option (Nat × Nat))) (n : Int) (H : Heap) : f39 v n H = fnL CC39 (lpD CC39) Try.f39.results.toList (bodyOf Try.f39) [.c (Cell.ptr v), .c (Cell.int .i64 n)] H (decF dec39) := (f39_eq ..).trans (fnA_lpD hN39 ..)
theorem q39 : ∀ (v : Option (Nat × Nat)) (n : Int) (H : Heap), f39 v n H = bif v.isNone then some ((0, false), H) else v.bind fun v18 => (H.get v18.fst (v18.snd + 2)).bind fun v17 => (Cell.toInt IntKind.i64 v17).bind fun v16 => bif v16 != 0 then some ((0, false), H) else v.bind fun v15 => (H.get v15.fst (v15.snd + 0)).bind fun v14 => v14.toSlice.bind fun v13 => v.bind fun v12 => (H.get v12.fst (v12.snd + 1)).bind fun v11 => (Cell.toInt IntKind.i64 v11).bind fun v10 => bif !rope_store_has v13 v10 n then v.bind fun v1 => (H.put v1.fst (v1.snd + 2) [Cell.int IntKind.i64 7]).bind fun v0 => some ((0, false), v0) else v.bind fun v9 => (H.get v9.fst (v9.snd + 1)).bind fun v8 => (Cell.toInt IntKind.i64 v8).bind fun v7 => v.bind fun v6 => (H.get v6.fst (v6.snd + 1)).bind fun v5 => (Cell.toInt IntKind.i64 v5).bind fun v4 => v.bind fun v3 => (H.put v3.fst (v3.snd + 1) [Cell.int IntKind.i64 (IntKind.i64.wrap (v4 + n))]).bind fun v2 => some ((v7, true), v2) := by intros; exact (f39_run ..).trans (by kernel_rfl)
theorem ok39 : FnOk Try.prog 39 (specF enc39 (sem39 f39)) := by
  refine spec_ok (C := CC39) good39 rfl rfl rfl (by kernel_rfl) Try.func39 (c := bodyOf Try.f39) (by kernel_rfl) (by kernel_rfl) (Nat.le_of_eq Try.ntmps39.symm) dec39 enc39 de39 _ ?_
  intro args H q h
  unfold sem39 at h
  split at h
  · rw [← f39_eq]; exact h
  · cases h
theorem f39_err (id : Nat) (s : Option Sl) (a e n : Int) (H : Heap) (h : H[id]? = some (vw s a e)) (he : e ≠ 0) : f39 (some (id, 0)) n H = some ((0, false), H) := by
  have g : (e != 0) = true := by simp [he]
  rw [q39]
  simp only [nsome, ct, cf, bs, az, za, get_of h, rg0, rg1, rg2, tInt, g]
theorem vput1 {id : Nat} {s : Option Sl} {a e : Int} {H : Heap} (h : H[id]? = some (vw s a e)) (x : Int) : H.put id 1 [.int .i64 x] = some (H.set id (vw s x e)) := put_of h (by simp)
theorem vput2 {id : Nat} {s : Option Sl} {a e : Int} {H : Heap} (h : H[id]? = some (vw s a e)) (x : Int) : H.put id 2 [.int .i64 x] = some (H.set id (vw s a x)) := put_of h (by simp)
theorem f39_no (id : Nat) (s : Option Sl) (a n : Int) (H : Heap) (h : H[id]? = some (vw s a 0)) (hh : rope_store_has s a n = false) : f39 (some (id, 0)) n H = some ((0, false), H.set id (vw s a 7)) := by
  have z : ((0 : Int) != 0) = false := by decide
  rw [q39]
  simp only [nsome, ct, cf, bs, az, za, get_of h, rg0, rg1, rg2, tInt, tSlice, z, hh, Bool.not_false, vput2 h]
theorem f39_yes (id : Nat) (s : Option Sl) (a n : Int) (H : Heap) (h : H[id]? = some (vw s a 0)) (hh : rope_store_has s a n = true) : f39 (some (id, 0)) n H = some ((a, true), H.set id (vw s (IntKind.i64.wrap (a + n)) 0)) := by
  have z : ((0 : Int) != 0) = false := by decide
  rw [q39]
  simp only [nsome, ct, cf, bs, az, za, get_of h, rg0, rg1, rg2, tInt, tSlice, z, hh, Bool.not_true, vput1 h]
/-! 17: rope_View_Num -/
noncomputable def CC17 : Ctx := { P := Try.prog, own := [], fns := [(33, F33), (38, specF enc38 (sem38 f38)), (39, specF enc39 (sem39 f39))], nt := 39, nums := [33], live := [] }
theorem good17 : Callees Try.prog CC17.fns [] CC17.nums := (((Callees.nil Try.prog).cons ok39 (specF_nat _ _)).cons ok38 (specF_nat _ _)).cons_num ok33 F33_num
theorem hN17 : CtxNat CC17 := good17.ctx rfl rfl rfl
abbrev Ty17 := (Option (Nat × Nat)) → Int → Heap → Option (Int × Heap)
def enc17 (r : Int) : List TV := [.c (Cell.int .u64 (r))]
def dec17 : AV → Option (Int)
  | .c (Cell.int .u64 q0) => some (q0)
  | _ => none
theorem de17 (v : AV) (r : Int) (h : dec17 v = some r) : v = oneOf (enc17 r) := by
  unfold dec17 at h
  split at h
  · cases h; rfl
  · cases h
def sem17 (f : Ty17) : List TV → Heap → Option (Int × Heap)
  | [.c (Cell.ptr v), .c (Cell.int .i64 w)], H => f v w H
  | _, _ => none
noncomputable def f17 : Ty17 := hide fun v w H => fnA CC17 Try.f17.results.toList (bodyOf Try.f17) _ [.c (Cell.ptr v), .c (Cell.int .i64 w)] H (decF dec17)
theorem f17_eq (v : (Option (Nat × Nat))) (w : Int) (H : Heap) : f17 v w H = fnA CC17 Try.f17.results.toList (bodyOf Try.f17) _ [.c (Cell.ptr v), .c (Cell.int .i64 w)] H (decF dec17) := by unfold f17; rw [hide_eq]
theorem f17_run (v : (Option (Nat × Nat))) (w : Int) (H : Heap) : f17 v w H = fnL CC17 (lpD CC17) Try.f17.results.toList (bodyOf Try.f17) [.c (Cell.ptr v), .c (Cell.int .i64 w)] H (decF dec17) := (f17_eq ..).trans (fnA_lpD hN17 ..)
theorem q17 : ∀ (v : Option (Nat × Nat)) (w : Int) (H : Heap), f17 v w H = bif !v.isNone then v.bind fun v19 => (H.get v19.fst (v19.snd + 2)).bind fun v18 => (Cell.toInt IntKind.i64 v18).bind fun v17 => bif v17 == 0 then bif !bits_Is w then v.bind fun v6 => (H.put v6.fst (v6.snd + 2) [Cell.int IntKind.i64 2]).bind fun v5 => (f39 v w v5).bind fun v4 => bif !v4.fst.snd then some (0, v4.snd) else v.bind fun v3 => (v4.snd.get v3.fst (v3.snd + 0)).bind fun v2 => v2.toSlice.bind fun v1 => (f38 v1 v4.fst.fst w v4.snd).bind fun v0 => some (v0.fst, v0.snd) else (f39 v w H).bind fun v11 => bif !v11.fst.snd then some (0, v11.snd) else v.bind fun v10 => (v11.snd.get v10.fst (v10.snd + 0)).bind fun v9 => v9.toSlice.bind fun v8 => (f38 v8 v11.fst.fst w v11.snd).bind fun v7 => some (v7.fst, v7.snd) else (f39 v w H).bind fun v16 => bif !v16.fst.snd then some (0, v16.snd) else v.bind fun v15 => (v16.snd.get v15.fst (v15.snd + 0)).bind fun v14 => v14.toSlice.bind fun v13 => (f38 v13 v16.fst.fst w v16.snd).bind fun v12 => some (v12.fst, v12.snd) else (f39 v w H).bind fun v24 => bif !v24.fst.snd then some (0, v24.snd) else v.bind fun v23 => (v24.snd.get v23.fst (v23.snd + 0)).bind fun v22 => v22.toSlice.bind fun v21 => (f38 v21 v24.fst.fst w v24.snd).bind fun v20 => some (v20.fst, v20.snd) := by intros; exact (f17_run ..).trans (by kernel_rfl)
theorem ok17 : FnOk Try.prog 17 (specF enc17 (sem17 f17)) := by
  refine spec_ok (C := CC17) good17 rfl rfl rfl (by kernel_rfl) Try.func17 (c := bodyOf Try.f17) (by kernel_rfl) (by kernel_rfl) (Nat.le_of_eq Try.ntmps17.symm) dec17 enc17 de17 _ ?_
  intro args H q h
  unfold sem17 at h
  split at h
  · rw [← f17_eq]; exact h
  · cases h
/-- A view: what it reads, in blocks that are not its own. -/
def VW (H : Heap) (id : Nat) (s : Option Sl) (l : List UInt8) (a : Nat) : Prop :=
  H[id]? = some (vw s (a : Int) 0) ∧ RS 1 E8 H s l ∧ (∀ sl, s = some sl → l ≠ [] → sl.id ≠ id) ∧ a ≤ l.length ∧ l.length ≤ 1048576
theorem VW.set {H : Heap} {id : Nat} {s : Option Sl} {l : List UInt8} {a : Nat} (h : VW H id s l a) (k : Nat) (hk : k ≤ l.length) : VW (H.set id (vw s (k : Int) 0)) id s l k :=
  ⟨set_get' (lt_of h.1), h.2.1.kp (Kp.set _ _ _) h.2.2.1, h.2.2.1, hk, h.2.2.2.2⟩
theorem hasI_nat {L a : Nat} {n : Int} (h : hasI L (a : Int) n = true) : ∃ k : Nat, n = (k : Int) ∧ a + k ≤ L := by
  simp only [hasI, Bool.and_eq_true, decide_eq_true_eq] at h
  exact ⟨n.toNat, by omega, by omega⟩
theorem f17_err (id : Nat) (s : Option Sl) (a e w : Int) (H : Heap) (h : H[id]? = some (vw s a e)) (he : e ≠ 0) : f17 (some (id, 0)) w H = some (0, H) := by
  have g : (e == 0) = false := by simp [he]
  rw [q17]
  simp only [nsome, ct, cf, bs, az, za, get_of h, rg2, tInt, g, Bool.not_false, f39_err id s a e w H h he]
theorem f17_arg (id : Nat) (s : Option Sl) (a w : Int) (H : Heap) (h : H[id]? = some (vw s a 0)) (hw : bits_Is w = false) : f17 (some (id, 0)) w H = some (0, H.set id (vw s a 2)) := by
  have g : ((0 : Int) == 0) = true := by decide
  rw [q17]
  simp only [nsome, ct, bs, az, za, get_of h, rg2, tInt, g, Bool.not_false, hw, vput2 h, f39_err id s a 2 w _ (set_get' (lt_of h)) (by decide)]
theorem f17_no (id : Nat) (s : Option Sl) (a w : Int) (H : Heap) (h : H[id]? = some (vw s a 0)) (hw : bits_Is w = true) (hh : rope_store_has s a w = false) : f17 (some (id, 0)) w H = some (0, H.set id (vw s a 7)) := by
  have g : ((0 : Int) == 0) = true := by decide
  rw [q17]
  simp only [nsome, ct, cf, bs, az, za, get_of h, rg2, tInt, g, Bool.not_false, hw, Bool.not_true, f39_no id s a w H h hh]
theorem f17_yes (id : Nat) (s : Option Sl) (l : List UInt8) (a w : Nat) (H : Heap) (h : VW H id s l a) (hw : bits_Is (w : Int) = true) (hh : a + w ≤ l.length) :
    f17 (some (id, 0)) (w : Int) H = some (((numB ((l.drop a).take w) : Nat) : Int), H.set id (vw s ((a + w : Nat) : Int) 0)) := by
  have g : ((0 : Int) == 0) = true := by decide
  have hl := h.2.2.2.2
  have gh : rope_store_has s (a : Int) (w : Int) = true := by rw [has_eq h.2.1 (by omega)]; simp [hasI]; omega
  have g3 : IntKind.i64.wrap ((a : Int) + (w : Int)) = ((a + w : Nat) : Int) := by rw [wrap_i64 (by omega) (by omega)]; omega
  have h2 := h.set (a + w) hh
  have h8 : w ≤ 8 := by
    have : (w : Int) = 1 ∨ (w : Int) = 2 ∨ (w : Int) = 4 ∨ (w : Int) = 8 := by simpa [bits_Is] using hw
    omega
  have h39 := f39_yes id s a w H h.1 gh
  rw [g3] at h39
  rw [q17]
  simp only [nsome, ct, cf, bs, az, za, get_of h.1, get_of h2.1, rg0, rg2, tInt, tSlice, g, Bool.not_false, hw, Bool.not_true, h39, f38_spec s l (by omega) a w h8 hh _ h2.2.1]
/-! 18: rope_View_Err -/
noncomputable def CC18 : Ctx := { P := Try.prog, own := [], fns := [], nt := 9, nums := [], live := [] }
theorem good18 : Callees Try.prog CC18.fns [] CC18.nums := Callees.nil Try.prog
theorem hN18 : CtxNat CC18 := good18.ctx rfl rfl rfl
abbrev Ty18 := (Option (Nat × Nat)) → Heap → Option (Int × Heap)
def enc18 (r : Int) : List TV := [.c (Cell.int .i64 (r))]
def dec18 : AV → Option (Int)
  | .c (Cell.int .i64 q0) => some (q0)
  | _ => none
theorem de18 (v : AV) (r : Int) (h : dec18 v = some r) : v = oneOf (enc18 r) := by
  unfold dec18 at h
  split at h
  · cases h; rfl
  · cases h
def sem18 (f : Ty18) : List TV → Heap → Option (Int × Heap)
  | [.c (Cell.ptr v)], H => f v H
  | _, _ => none
noncomputable def f18 : Ty18 := hide fun v H => fnA CC18 Try.f18.results.toList (bodyOf Try.f18) _ [.c (Cell.ptr v)] H (decF dec18)
theorem f18_eq (v : (Option (Nat × Nat))) (H : Heap) : f18 v H = fnA CC18 Try.f18.results.toList (bodyOf Try.f18) _ [.c (Cell.ptr v)] H (decF dec18) := by unfold f18; rw [hide_eq]
theorem f18_run (v : (Option (Nat × Nat))) (H : Heap) : f18 v H = fnL CC18 (lpD CC18) Try.f18.results.toList (bodyOf Try.f18) [.c (Cell.ptr v)] H (decF dec18) := (f18_eq ..).trans (fnA_lpD hN18 ..)
theorem q18 : ∀ (v : Option (Nat × Nat)) (H : Heap), f18 v H = bif v.isNone then some (1, H) else v.bind fun v2 => (H.get v2.fst (v2.snd + 2)).bind fun v1 => (Cell.toInt IntKind.i64 v1).bind fun v0 => some (v0, H) := by intros; exact (f18_run ..).trans (by kernel_rfl)
theorem ok18 : FnOk Try.prog 18 (specF enc18 (sem18 f18)) := by
  refine spec_ok (C := CC18) good18 rfl rfl rfl (by kernel_rfl) Try.func18 (c := bodyOf Try.f18) (by kernel_rfl) (by kernel_rfl) (Nat.le_of_eq Try.ntmps18.symm) dec18 enc18 de18 _ ?_
  intro args H q h
  unfold sem18 at h
  split at h
  · rw [← f18_eq]; exact h
  · cases h
abbrev TyR18 := (Option (Nat × Nat)) → Heap → Option Int
def semR18 (f : TyR18) : List TV → Heap → Option Int
  | [.c (Cell.ptr v)], H => f v H
  | _, _ => none
noncomputable def g18 : TyR18 := hide fun v H => readOf (f18 v H) H
theorem g18_eq (v : (Option (Nat × Nat))) (H : Heap) : g18 v H = readOf (f18 v H) H := by unfold g18; rw [hide_eq]
theorem okR18 : FnOk Try.prog 18 (readF enc18 (semR18 g18)) := read_ok ok18 fun args H r h => by
  unfold semR18 at h
  split at h
  · rw [g18_eq] at h; exact readOf_some h
  · cases h
theorem g18_spec (id : Nat) (s : Option Sl) (a e : Int) (H : Heap) (h : H[id]? = some (vw s a e)) : g18 (some (id, 0)) H = some e := by
  rw [g18_eq]
  refine readOf_eq ?_
  rw [q18]
  simp only [nsome, cf, bs, za, get_of h, rg2, tInt]
/-! 19: rope_View_Left -/
noncomputable def CC19 : Ctx := { P := Try.prog, own := [], fns := [], nt := 23, nums := [], live := [] }
theorem good19 : Callees Try.prog CC19.fns [] CC19.nums := Callees.nil Try.prog
theorem hN19 : CtxNat CC19 := good19.ctx rfl rfl rfl
abbrev Ty19 := (Option (Nat × Nat)) → Heap → Option (Int × Heap)
def enc19 (r : Int) : List TV := [.c (Cell.int .i64 (r))]
def dec19 : AV → Option (Int)
  | .c (Cell.int .i64 q0) => some (q0)
  | _ => none
theorem de19 (v : AV) (r : Int) (h : dec19 v = some r) : v = oneOf (enc19 r) := by
  unfold dec19 at h
  split at h
  · cases h; rfl
  · cases h
def sem19 (f : Ty19) : List TV → Heap → Option (Int × Heap)
  | [.c (Cell.ptr v)], H => f v H
  | _, _ => none
noncomputable def f19 : Ty19 := hide fun v H => fnA CC19 Try.f19.results.toList (bodyOf Try.f19) _ [.c (Cell.ptr v)] H (decF dec19)
theorem f19_eq (v : (Option (Nat × Nat))) (H : Heap) : f19 v H = fnA CC19 Try.f19.results.toList (bodyOf Try.f19) _ [.c (Cell.ptr v)] H (decF dec19) := by unfold f19; rw [hide_eq]
theorem f19_run (v : (Option (Nat × Nat))) (H : Heap) : f19 v H = fnL CC19 (lpD CC19) Try.f19.results.toList (bodyOf Try.f19) [.c (Cell.ptr v)] H (decF dec19) := (f19_eq ..).trans (fnA_lpD hN19 ..)
theorem q19 : ∀ (v : Option (Nat × Nat)) (H : Heap), f19 v H = bif v.isNone then some (0, H) else v.bind fun v8 => (H.get v8.fst (v8.snd + 2)).bind fun v7 => (Cell.toInt IntKind.i64 v7).bind fun v6 => bif v6 != 0 then some (0, H) else v.bind fun v5 => (H.get v5.fst (v5.snd + 0 + 0)).bind fun v4 => v4.toSlice.bind fun v3 => v.bind fun v2 => (H.get v2.fst (v2.snd + 1)).bind fun v1 => (Cell.toInt IntKind.i64 v1).bind fun v0 => some (IntKind.i64.wrap (slen v3 - v0), H) := by intros; exact (f19_run ..).trans (by kernel_rfl)
theorem ok19 : FnOk Try.prog 19 (specF enc19 (sem19 f19)) := by
  refine spec_ok (C := CC19) good19 rfl rfl rfl (by kernel_rfl) Try.func19 (c := bodyOf Try.f19) (by kernel_rfl) (by kernel_rfl) (Nat.le_of_eq Try.ntmps19.symm) dec19 enc19 de19 _ ?_
  intro args H q h
  unfold sem19 at h
  split at h
  · rw [← f19_eq]; exact h
  · cases h
abbrev TyR19 := (Option (Nat × Nat)) → Heap → Option Int
def semR19 (f : TyR19) : List TV → Heap → Option Int
  | [.c (Cell.ptr v)], H => f v H
  | _, _ => none
noncomputable def g19 : TyR19 := hide fun v H => readOf (f19 v H) H
theorem g19_eq (v : (Option (Nat × Nat))) (H : Heap) : g19 v H = readOf (f19 v H) H := by unfold g19; rw [hide_eq]
theorem okR19 : FnOk Try.prog 19 (readF enc19 (semR19 g19)) := read_ok ok19 fun args H r h => by
  unfold semR19 at h
  split at h
  · rw [g19_eq] at h; exact readOf_some h
  · cases h
theorem g19_err (id : Nat) (s : Option Sl) (a e : Int) (H : Heap) (h : H[id]? = some (vw s a e)) (he : e ≠ 0) : g19 (some (id, 0)) H = some 0 := by
  have g : (e != 0) = true := by simp [he]
  rw [g19_eq]
  refine readOf_eq ?_
  rw [q19]
  simp only [nsome, ct, cf, bs, za, get_of h, rg2, tInt, g]
theorem g19_ok (id : Nat) (s : Option Sl) (a : Int) (H : Heap) (h : H[id]? = some (vw s a 0)) : g19 (some (id, 0)) H = some (IntKind.i64.wrap (slen s - a)) := by
  have g : ((0 : Int) != 0) = false := by decide
  rw [g19_eq]
  refine readOf_eq ?_
  rw [q19]
  simp only [nsome, cf, bs, za, az, get_of h, rg0, rg1, rg2, tInt, tSlice, g]
/-! 20: R2_Has -/
noncomputable def CC20 : Ctx := { P := Try.prog, own := [], fns := [], nt := 27, nums := [], live := [] }
theorem good20 : Callees Try.prog CC20.fns [] CC20.nums := Callees.nil Try.prog
def R2_Has (s : Option Sl) (a n : Int) : Bool := decide (a ≥ 0) && (decide (a ≤ slen s) && (decide (n ≥ 0) && decide (n ≤ IntKind.i64.wrap (slen s - a))))
noncomputable def G20 : List TV → Option (List TV)
  | [.c (Cell.slice b), .c (Cell.int .i64 x1), .c (Cell.int .i64 n)] => some [.c (Cell.bool ((R2_Has b x1 n)))]
  | _ => none
noncomputable def F20 : FnSem := numF G20
theorem F20_num : FnNum F20 := numF_num _
theorem e20 : ∀ (R : Type) (b : Option Sl) (x1 n : Int) (H : Heap) (K : AV → Heap → Option R) (lp : Code → St → (AExit → St → Option R) → Option R), fnL CC20 lp Try.f20.results.toList (bodyOf Try.f20) [TV.c (Cell.slice b), TV.c (Cell.int IntKind.i64 x1), TV.c (Cell.int IntKind.i64 n)] H K = bif decide (x1 ≥ 0) then bif decide (x1 ≤ slen b) then bif decide (n ≥ 0) then K (AV.c (Cell.bool (decide (n ≤ IntKind.i64.wrap (slen b - x1))))) H else K (AV.c (Cell.bool false)) H else K (AV.c (Cell.bool false)) H else K (AV.c (Cell.bool false)) H := by intros; kernel_rfl
theorem s20 (R : Type) (b : (Option Sl)) (x1 : Int) (n : Int) (H : Heap) (K : AV → Heap → Option R) (lp : Code → St → (AExit → St → Option R) → Option R) : fnL CC20 lp Try.f20.results.toList (bodyOf Try.f20) [.c (Cell.slice b), .c (Cell.int .i64 x1), .c (Cell.int .i64 n)] H K = K (oneOf [.c (Cell.bool ((R2_Has b x1 n)))]) H := by
  rw [e20]
  unfold R2_Has
  cases decide (x1 ≥ 0) <;> cases decide (n ≥ 0) <;> cases decide (x1 ≤ slen b) <;> rfl
theorem ok20 : FnOk Try.prog 20 F20 := by
  refine fn_ok (C := CC20) (good20.env rfl) (good20.ctx rfl rfl rfl) (by kernel_rfl) Try.func20 (c := bodyOf Try.f20) (by kernel_rfl) (by kernel_rfl) (Nat.le_of_eq Try.ntmps20.symm) ?_
  intro R args H K r h
  unfold F20 numF G20 at h
  split at h
  · rw [fnA_eq, s20]; exact h
  · cases h
theorem R2_has_eq (s : Option Sl) (a k : Int) : R2_Has s a k = rope_store_has s a k := by
  unfold R2_Has rope_store_has
  cases decide (a ≥ 0) <;> cases decide (k ≥ 0) <;> cases decide (a ≤ slen s) <;> rfl
/-! 21: R2_View_Take -/
noncomputable def CC21 : Ctx := { P := Try.prog, own := [], fns := [(20, F20)], nt := 47, nums := [20], live := [] }
theorem good21 : Callees Try.prog CC21.fns [] CC21.nums := (Callees.nil Try.prog).cons_num ok20 F20_num
theorem hN21 : CtxNat CC21 := good21.ctx rfl rfl rfl
abbrev Ty21 := (Option (Nat × Nat)) → Int → Heap → Option ((Option Sl) × Heap)
def enc21 (r : (Option Sl)) : List TV := [.c (Cell.slice (r))]
def dec21 : AV → Option ((Option Sl))
  | .c (Cell.slice q0) => some (q0)
  | _ => none
theorem de21 (v : AV) (r : (Option Sl)) (h : dec21 v = some r) : v = oneOf (enc21 r) := by
  unfold dec21 at h
  split at h
  · cases h; rfl
  · cases h
def sem21 (f : Ty21) : List TV → Heap → Option ((Option Sl) × Heap)
  | [.c (Cell.ptr v), .c (Cell.int .i64 n)], H => f v n H
  | _, _ => none
noncomputable def f21 : Ty21 := hide fun v n H => fnA CC21 Try.f21.results.toList (bodyOf Try.f21) _ [.c (Cell.ptr v), .c (Cell.int .i64 n)] H (decF dec21)
theorem f21_eq (v : (Option (Nat × Nat))) (n : Int) (H : Heap) : f21 v n H = fnA CC21 Try.f21.results.toList (bodyOf Try.f21) _ [.c (Cell.ptr v), .c (Cell.int .i64 n)] H (decF dec21) := by unfold f21; rw [hide_eq]
theorem f21_run (v : (Option (Nat × Nat))) (n : Int) (H : Heap) : f21 v n H = fnL CC21 (lpD CC21) Try.f21.results.toList (bodyOf Try.f21) [.c (Cell.ptr v), .c (Cell.int .i64 n)] H (decF dec21) := (f21_eq ..).trans (fnA_lpD hN21 ..)
theorem q21 : ∀ (v : Option (Nat × Nat)) (n : Int) (H : Heap), f21 v n H = v.bind fun v25 => (H.get v25.fst (v25.snd + 2)).bind fun v24 => (Cell.toInt IntKind.i64 v24).bind fun v23 => bif v23 != 0 then some (none, H) else v.bind fun v22 => (H.get v22.fst (v22.snd + 0)).bind fun v21 => v21.toSlice.bind fun v20 => v.bind fun v19 => (H.get v19.fst (v19.snd + 1)).bind fun v18 => (Cell.toInt IntKind.i64 v18).bind fun v17 => bif !R2_Has v20 v17 n then v.bind fun v1 => (H.put v1.fst (v1.snd + 2) [Cell.int IntKind.i64 7]).bind fun v0 => some (none, v0) else v.bind fun v16 => (H.get v16.fst (v16.snd + 1)).bind fun v15 => (Cell.toInt IntKind.i64 v15).bind fun v14 => v.bind fun v13 => (H.put v13.fst (v13.snd + 1) [Cell.int IntKind.i64 (IntKind.i64.wrap (v14 + n))]).bind fun v12 => v.bind fun v11 => (v12.get v11.fst (v11.snd + 0)).bind fun v10 => v10.toSlice.bind fun v9 => v.bind fun v8 => (v12.get v8.fst (v8.snd + 1)).bind fun v7 => (Cell.toInt IntKind.i64 v7).bind fun v6 => v.bind fun v5 => (v12.get v5.fst (v5.snd + 1)).bind fun v4 => (Cell.toInt IntKind.i64 v4).bind fun v3 => (Sl.sub v9 (IntKind.i64.wrap (v6 - n)) (some v3)).bind fun v2 => bif esOk v9 1 then some (v2, v12) else none := by intros; exact (f21_run ..).trans (by kernel_rfl)
theorem ok21 : FnOk Try.prog 21 (specF enc21 (sem21 f21)) := by
  refine spec_ok (C := CC21) good21 rfl rfl rfl (by kernel_rfl) Try.func21 (c := bodyOf Try.f21) (by kernel_rfl) (by kernel_rfl) (Nat.le_of_eq Try.ntmps21.symm) dec21 enc21 de21 _ ?_
  intro args H q h
  unfold sem21 at h
  split at h
  · rw [← f21_eq]; exact h
  · cases h
theorem f21_err (id : Nat) (s : Option Sl) (a e n : Int) (H : Heap) (h : H[id]? = some (vw s a e)) (he : e ≠ 0) : f21 (some (id, 0)) n H = some (none, H) := by
  have g : (e != 0) = true := by simp [he]
  rw [q21]
  simp only [ct, bs, az, za, get_of h, rg2, tInt, g]
theorem f21_no (id : Nat) (s : Option Sl) (a n : Int) (H : Heap) (h : H[id]? = some (vw s a 0)) (hh : rope_store_has s a n = false) : f21 (some (id, 0)) n H = some (none, H.set id (vw s a 7)) := by
  have z : ((0 : Int) != 0) = false := by decide
  have hh' := (R2_has_eq s a n).trans hh
  rw [q21]
  simp only [ct, cf, bs, az, za, get_of h, rg0, rg1, rg2, tInt, tSlice, z, hh', Bool.not_false, vput2 h]
theorem f21_yes (id : Nat) (s : Option Sl) (l : List UInt8) (a w : Nat) (H : Heap) (h : VW H id s l a) (hh : a + w ≤ l.length) :
    ∃ s', f21 (some (id, 0)) (w : Int) H = some (s', H.set id (vw s ((a + w : Nat) : Int) 0)) ∧ RS 1 E8 (H.set id (vw s ((a + w : Nat) : Int) 0)) s' ((l.drop a).take w) := by
  have z : ((0 : Int) != 0) = false := by decide
  have hl := h.2.2.2.2
  have gh : R2_Has s (a : Int) (w : Int) = true := by rw [R2_has_eq, has_eq h.2.1 (by omega)]; simp [hasI]; omega
  have g3 : IntKind.i64.wrap ((a : Int) + (w : Int)) = ((a + w : Nat) : Int) := by rw [wrap_i64 (by omega) (by omega)]; omega
  have g4 : IntKind.i64.wrap (((a + w : Nat) : Int) - (w : Int)) = (a : Int) := by rw [wrap_i64 (by omega) (by omega)]; omega
  have h2 := h.set (a + w) hh
  obtain ⟨s1, c1, c2, c3⟩ := h2.2.1.sub E8_len a (a + w) (by omega) hh
  rw [show a + w - a = w by omega] at c2
  refine ⟨s1, ?_, c2⟩
  rw [q21]
  simp only [ct, cf, bs, az, za, get_of h.1, get_of h2.1, rg0, rg1, rg2, tInt, tSlice, z, gh, Bool.not_true, g3, vput1 h.1, g4, c1, h2.2.1.esOkT]
/-! 22: rope_View_Raw -/
noncomputable def CC22 : Ctx := { P := Try.prog, own := [], fns := [(37, specF enc37 (sem37 f37)), (39, specF enc39 (sem39 f39))], nt := 26, nums := [], live := [] }
theorem good22 : Callees Try.prog CC22.fns [] CC22.nums := ((Callees.nil Try.prog).cons ok39 (specF_nat _ _)).cons ok37 (specF_nat _ _)
theorem hN22 : CtxNat CC22 := good22.ctx rfl rfl rfl
abbrev Ty22 := (Option (Nat × Nat)) → Int → Heap → Option ((Option Sl) × Heap)
def enc22 (r : (Option Sl)) : List TV := [.c (Cell.slice (r))]
def dec22 : AV → Option ((Option Sl))
  | .c (Cell.slice q0) => some (q0)
  | _ => none
theorem de22 (v : AV) (r : (Option Sl)) (h : dec22 v = some r) : v = oneOf (enc22 r) := by
  unfold dec22 at h
  split at h
  · cases h; rfl
  · cases h
def sem22 (f : Ty22) : List TV → Heap → Option ((Option Sl) × Heap)
  | [.c (Cell.ptr v), .c (Cell.int .i64 n)], H => f v n H
  | _, _ => none
noncomputable def f22 : Ty22 := hide fun v n H => fnA CC22 Try.f22.results.toList (bodyOf Try.f22) _ [.c (Cell.ptr v), .c (Cell.int .i64 n)] H (decF dec22)
theorem f22_eq (v : (Option (Nat × Nat))) (n : Int) (H : Heap) : f22 v n H = fnA CC22 Try.f22.results.toList (bodyOf Try.f22) _ [.c (Cell.ptr v), .c (Cell.int .i64 n)] H (decF dec22) := by unfold f22; rw [hide_eq]
theorem f22_run (v : (Option (Nat × Nat))) (n : Int) (H : Heap) : f22 v n H = fnL CC22 (lpD CC22) Try.f22.results.toList (bodyOf Try.f22) [.c (Cell.ptr v), .c (Cell.int .i64 n)] H (decF dec22) := (f22_eq ..).trans (fnA_lpD hN22 ..)
theorem q22 : ∀ (v : Option (Nat × Nat)) (n : Int) (H : Heap), f22 v n H = (f39 v n H).bind fun v5 => bif !v5.fst.snd then some (none, v5.snd) else v.bind fun v4 => (v5.snd.get v4.fst (v4.snd + 0 + 0)).bind fun v3 => v3.toSlice.bind fun v2 => (Sl.sub v2 v5.fst.fst (some (IntKind.i64.wrap (v5.fst.fst + n)))).bind fun v1 => bif esOk v2 1 then (f37 v1 v5.snd).bind fun v0 => some (v0.fst, v0.snd) else none := by intros; exact (f22_run ..).trans (by kernel_rfl)
theorem ok22 : FnOk Try.prog 22 (specF enc22 (sem22 f22)) := by
  refine spec_ok (C := CC22) good22 rfl rfl rfl (by kernel_rfl) Try.func22 (c := bodyOf Try.f22) (by kernel_rfl) (by kernel_rfl) (Nat.le_of_eq Try.ntmps22.symm) dec22 enc22 de22 _ ?_
  intro args H q h
  unfold sem22 at h
  split at h
  · rw [← f22_eq]; exact h
  · cases h
theorem f22_err (id : Nat) (s : Option Sl) (a e n : Int) (H : Heap) (h : H[id]? = some (vw s a e)) (he : e ≠ 0) : f22 (some (id, 0)) n H = some (none, H) := by
  rw [q22]
  simp only [ct, bs, f39_err id s a e n H h he, Bool.not_false]
theorem f22_no (id : Nat) (s : Option Sl) (a n : Int) (H : Heap) (h : H[id]? = some (vw s a 0)) (hh : rope_store_has s a n = false) : f22 (some (id, 0)) n H = some (none, H.set id (vw s a 7)) := by
  rw [q22]
  simp only [ct, bs, f39_no id s a n H h hh, Bool.not_false]
theorem f22_yes (id : Nat) (s : Option Sl) (l : List UInt8) (a w : Nat) (H : Heap) (h : VW H id s l a) (hh : a + w ≤ l.length) :
    ∃ s' H', f22 (some (id, 0)) (w : Int) H = some (s', H') ∧ OS 1 E8 H' s' ((l.drop a).take w) ∧ Kp No (H.set id (vw s ((a + w : Nat) : Int) 0)) H' ∧ New H.length s' := by
  have hl := h.2.2.2.2
  have gh : rope_store_has s (a : Int) (w : Int) = true := by rw [has_eq h.2.1 (by omega)]; simp [hasI]; omega
  have g3 : IntKind.i64.wrap ((a : Int) + (w : Int)) = ((a + w : Nat) : Int) := by rw [wrap_i64 (by omega) (by omega)]; omega
  have h2 := h.set (a + w) hh
  have h39 := f39_yes id s a w H h.1 gh
  rw [g3] at h39
  obtain ⟨s1, c1, c2, c3⟩ := h2.2.1.sub E8_len a (a + w) (by omega) hh
  rw [show a + w - a = w by omega] at c2
  obtain ⟨s', H', d1, d2, d3, d4⟩ := f37_spec s1 _ _ c2 (by simp [most]; omega)
  refine ⟨s', H', ?_, d2, d3, by simpa using d4⟩
  rw [q22]
  simp only [ct, cf, bs, az, h39, Bool.not_true, get_of h2.1, rg0, tSlice, g3, c1, h2.2.1.esOkT, d1]
/-! 23: rope_View_Skip -/
noncomputable def CC23 : Ctx := { P := Try.prog, own := [], fns := [(39, specF enc39 (sem39 f39))], nt := 7, nums := [], live := [] }
theorem good23 : Callees Try.prog CC23.fns [] CC23.nums := (Callees.nil Try.prog).cons ok39 (specF_nat _ _)
theorem hN23 : CtxNat CC23 := good23.ctx rfl rfl rfl
abbrev Ty23 := (Option (Nat × Nat)) → Int → Heap → Option (Unit × Heap)
def enc23 (r : Unit) : List TV := []
def dec23 : AV → Option (Unit)
  | .tup [] => some ()
  | _ => none
theorem de23 (v : AV) (r : Unit) (h : dec23 v = some r) : v = oneOf (enc23 r) := by
  unfold dec23 at h
  split at h
  · cases h; rfl
  · cases h
def sem23 (f : Ty23) : List TV → Heap → Option (Unit × Heap)
  | [.c (Cell.ptr v), .c (Cell.int .i64 n)], H => f v n H
  | _, _ => none
noncomputable def f23 : Ty23 := hide fun v n H => fnA CC23 Try.f23.results.toList (bodyOf Try.f23) _ [.c (Cell.ptr v), .c (Cell.int .i64 n)] H (decF dec23)
theorem f23_eq (v : (Option (Nat × Nat))) (n : Int) (H : Heap) : f23 v n H = fnA CC23 Try.f23.results.toList (bodyOf Try.f23) _ [.c (Cell.ptr v), .c (Cell.int .i64 n)] H (decF dec23) := by unfold f23; rw [hide_eq]
theorem f23_run (v : (Option (Nat × Nat))) (n : Int) (H : Heap) : f23 v n H = fnL CC23 (lpD CC23) Try.f23.results.toList (bodyOf Try.f23) [.c (Cell.ptr v), .c (Cell.int .i64 n)] H (decF dec23) := (f23_eq ..).trans (fnA_lpD hN23 ..)
theorem q23 : ∀ (v : Option (Nat × Nat)) (n : Int) (H : Heap), f23 v n H = (f39 v n H).bind fun v0 => some ((), v0.snd) := by intros; exact (f23_run ..).trans (by kernel_rfl)
theorem ok23 : FnOk Try.prog 23 (specF enc23 (sem23 f23)) := by
  refine spec_ok (C := CC23) good23 rfl rfl rfl (by kernel_rfl) Try.func23 (c := bodyOf Try.f23) (by kernel_rfl) (by kernel_rfl) (Nat.le_of_eq Try.ntmps23.symm) dec23 enc23 de23 _ ?_
  intro args H q h
  unfold sem23 at h
  split at h
  · rw [← f23_eq]; exact h
  · cases h
/-! 24: rope_View_At -/
noncomputable def CC24 : Ctx := { P := Try.prog, own := [], fns := [], nt := 9, nums := [], live := [] }
theorem good24 : Callees Try.prog CC24.fns [] CC24.nums := Callees.nil Try.prog
theorem hN24 : CtxNat CC24 := good24.ctx rfl rfl rfl
abbrev Ty24 := (Option (Nat × Nat)) → Heap → Option (Int × Heap)
def enc24 (r : Int) : List TV := [.c (Cell.int .i64 (r))]
def dec24 : AV → Option (Int)
  | .c (Cell.int .i64 q0) => some (q0)
  | _ => none
theorem de24 (v : AV) (r : Int) (h : dec24 v = some r) : v = oneOf (enc24 r) := by
  unfold dec24 at h
  split at h
  · cases h; rfl
  · cases h
def sem24 (f : Ty24) : List TV → Heap → Option (Int × Heap)
  | [.c (Cell.ptr v)], H => f v H
  | _, _ => none
noncomputable def f24 : Ty24 := hide fun v H => fnA CC24 Try.f24.results.toList (bodyOf Try.f24) _ [.c (Cell.ptr v)] H (decF dec24)
theorem f24_eq (v : (Option (Nat × Nat))) (H : Heap) : f24 v H = fnA CC24 Try.f24.results.toList (bodyOf Try.f24) _ [.c (Cell.ptr v)] H (decF dec24) := by unfold f24; rw [hide_eq]
theorem f24_run (v : (Option (Nat × Nat))) (H : Heap) : f24 v H = fnL CC24 (lpD CC24) Try.f24.results.toList (bodyOf Try.f24) [.c (Cell.ptr v)] H (decF dec24) := (f24_eq ..).trans (fnA_lpD hN24 ..)
theorem q24 : ∀ (v : Option (Nat × Nat)) (H : Heap), f24 v H = bif v.isNone then some (0, H) else v.bind fun v2 => (H.get v2.fst (v2.snd + 1)).bind fun v1 => (Cell.toInt IntKind.i64 v1).bind fun v0 => some (v0, H) := by intros; exact (f24_run ..).trans (by kernel_rfl)
theorem ok24 : FnOk Try.prog 24 (specF enc24 (sem24 f24)) := by
  refine spec_ok (C := CC24) good24 rfl rfl rfl (by kernel_rfl) Try.func24 (c := bodyOf Try.f24) (by kernel_rfl) (by kernel_rfl) (Nat.le_of_eq Try.ntmps24.symm) dec24 enc24 de24 _ ?_
  intro args H q h
  unfold sem24 at h
  split at h
  · rw [← f24_eq]; exact h
  · cases h
abbrev TyR24 := (Option (Nat × Nat)) → Heap → Option Int
def semR24 (f : TyR24) : List TV → Heap → Option Int
  | [.c (Cell.ptr v)], H => f v H
  | _, _ => none
noncomputable def g24 : TyR24 := hide fun v H => readOf (f24 v H) H
theorem g24_eq (v : (Option (Nat × Nat))) (H : Heap) : g24 v H = readOf (f24 v H) H := by unfold g24; rw [hide_eq]
theorem okR24 : FnOk Try.prog 24 (readF enc24 (semR24 g24)) := read_ok ok24 fun args H r h => by
  unfold semR24 at h
  split at h
  · rw [g24_eq] at h; exact readOf_some h
  · cases h
theorem g24_spec (id : Nat) (s : Option Sl) (a e : Int) (H : Heap) (h : H[id]? = some (vw s a e)) : g24 (some (id, 0)) H = some a := by
  rw [g24_eq]
  refine readOf_eq ?_
  rw [q24]
  simp only [nsome, cf, bs, za, get_of h, rg1, tInt]
