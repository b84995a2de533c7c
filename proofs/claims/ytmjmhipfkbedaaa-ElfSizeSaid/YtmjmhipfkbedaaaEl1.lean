/- Layer 3: the ropes' functions, in direct style. -/
import Derived.Test.YtmjmhipfkbedaaaProg
import Derived.Test.YtmjmhipfkbedaaaAb33
import Derived.KernelRfl
namespace Go.Proofs.Ytmjmhipfkbedaaa
open Go Go.Proofs.Ytmjmhipfkbedaaa.Ab
set_option linter.unusedVariables false
set_option linter.unusedSimpArgs false
set_option maxRecDepth 100000
noncomputable section
/-- The number of bytes, the lowest first. -/
def numB : List UInt8 → Nat
  | [] => 0
  | b :: l => b.toNat + 256 * numB l
theorem numB_lt : ∀ l : List UInt8, numB l < 256 ^ l.length
  | [] => by simp [numB]
  | b :: l => by
    have h1 := numB_lt l
    have h2 := b.toNat_lt
    simp only [numB, List.length_cons, Nat.pow_succ]
    omega
theorem wrapU_nat (n : Nat) (h : n < 18446744073709551616) : IntKind.u64.wrap (n : Int) = n := by rw [wrap_u64]; omega
def ES (s : Option Sl) : List Cell := [.slice s]
theorem ES_len (s : Option Sl) : (ES s).length = 1 := rfl
/-- Are there n bytes from one on, of so many? -/
def hasI (L : Nat) (a n : Int) : Bool := decide (a ≥ 0) && (decide (n ≥ 0) && (decide (a ≤ L) && decide (n ≤ L - a)))
/-! 18: rope_New -/
noncomputable def CC18 : Ctx := { P := Try.prog, own := [], fns := [], nt := 38, nums := [], live := [(3, ⟨[3, 8, 9, 10], [], [3], []⟩)] }
theorem good18 : Callees Try.prog CC18.fns [] CC18.nums := Callees.nil Try.prog
theorem hN18 : CtxNat CC18 := good18.ctx rfl rfl rfl
def enc18 (r : (Option (Nat × Nat))) : List TV := [.c (Cell.ptr (r))]
def dec18 : AV → Option ((Option (Nat × Nat)))
  | .c (Cell.ptr q0) => some (q0)
  | _ => none
theorem de18 (v : AV) (r : (Option (Nat × Nat))) (h : dec18 v = some r) : v = oneOf (enc18 r) := by
  unfold dec18 at h
  split at h
  · cases h; rfl
  · cases h
abbrev Ty18 := (Option Sl) → Heap → Option (((Option (Nat × Nat))) × Heap)
def sem18 (f : Ty18) : List TV → Heap → Option (((Option (Nat × Nat))) × Heap)
  | [.c (Cell.slice parts)], H => f parts H
  | _, _ => none
noncomputable def f18 : Ty18 := hide fun parts H => fnA CC18 Try.f18.results.toList (bodyOf Try.f18) _ [.c (Cell.slice parts)] H (decF dec18)
theorem f18_eq (parts : (Option Sl)) (H : Heap) : f18 parts H = fnA CC18 Try.f18.results.toList (bodyOf Try.f18) _ [.c (Cell.slice parts)] H (decF dec18) := by unfold f18; rw [hide_eq]
theorem f18_run (parts : (Option Sl)) (H : Heap) : f18 parts H = fnL CC18 (lpD CC18) Try.f18.results.toList (bodyOf Try.f18) [.c (Cell.slice parts)] H (decF dec18) := (f18_eq ..).trans (fnA_lpD hN18 ..)
def S18_3 (t3 : (Option (Nat × Nat))) (t8 : (Option Sl)) (t9 : Int) (t10 : Int) (H : Heap) : St := ⟨[(3, .c (Cell.ptr t3)), (8, .c (Cell.slice t8)), (9, .c (Cell.int .i64 t9)), (10, .c (Cell.int .i64 t10))], [], H⟩
noncomputable def D18_3 (n : Nat) (t3 : (Option (Nat × Nat))) (t8 : (Option Sl)) (t9 : Int) (t10 : Int) (H : Heap) : Option (AExit × St) := loopN (exec CC18 (Code.l (Code.l (Code.r (Code.l (Code.r (Code.r (bodyOf Try.f18)))))))) (keepOf CC18.live (Code.l (Code.l (Code.r (Code.l (Code.r (Code.r (bodyOf Try.f18)))))))) n (S18_3 t3 t8 t9 t10 H) retD
noncomputable def LL18_3 (t3 : (Option (Nat × Nat))) (t8 : (Option Sl)) (t9 : Int) (t10 : Int) (H : Heap) : Option (AExit × St) := loopsD CC18 (Code.l (Code.l (Code.r (Code.l (Code.r (Code.r (bodyOf Try.f18))))))) (S18_3 t3 t8 t9 t10 H)
theorem LL18_3_of (m : Nat) (hm : m < 18446744073709551616) (t3 : (Option (Nat × Nat))) (t8 : (Option Sl)) (t9 : Int) (t10 : Int) (H : Heap) : ∃ n, LL18_3 t3 t8 t9 t10 H = D18_3 (n + m + 1) t3 t8 t9 t10 H := loopsD_of _ _ _ m hm
def X18_3 (x0 : Option (Nat × Nat)) (H : Heap) : St := { env := [(3, AV.c (Cell.ptr x0))], loc := [], heap := H }
noncomputable def J18_3 : AExit × St → Option (Option (Nat × Nat) × Heap) := fun p => blockK 0 (seqK (execL CC18 (lpD CC18) (Code.r (Code.r (Code.r (bodyOf Try.f18))))) (retA CC18 [ResultVar.tmp 2] (decF dec18))) p.fst p.snd
theorem D18_3_s : ∀ (n : Nat) (t3 : Option (Nat × Nat)) (t8 : Option Sl) (t9 t10 : Int) (H : Heap), D18_3 (n + 1) t3 t8 t9 t10 H = bif decide (t10 < t9) then t8.bind fun v12 => bif inb t10 v12.len && v12.esz == 1 then (H.get v12.id (v12.off + t10.toNat * 1)).bind fun v11 => v11.toSlice.bind fun v10 => t3.bind fun v9 => (H.get v9.fst (v9.snd + 0 + 0)).bind fun v8 => v8.toSlice.bind fun v7 => t3.bind fun v6 => (H.get v6.fst (v6.snd + 0 + 0)).bind fun v5 => v5.toSlice.bind fun v4 => (Sl.sub v10 0 (some (mm Builtin.min (slen v10) (IntKind.i64.wrap (1048576 - slen v4))))).bind fun v3 => bif esOk v10 1 then (H.append 1 1 v7 v3).bind fun v2 => t3.bind fun v1 => (v2.snd.put v1.fst (v1.snd + 0 + 0) [Cell.slice v2.fst]).bind fun v0 => D18_3 n t3 t8 t9 (IntKind.i64.wrap (t10 + 1)) v0 else none else none else some (AExit.exit 0, X18_3 t3 H) := by intros; exact (loopN_stepD hN18 _ _ _ _).trans (by kernel_rfl)
theorem q18 : ∀ (parts : Option Sl) (H : Heap), f18 parts H = (LL18_3 (some (List.length H, 0)) parts (slen parts) 0 (H ++ [Blk.row [Cell.slice none] false])).bind J18_3 := by intros; exact (f18_run ..).trans (by kernel_rfl)
theorem J18_3_0 : ∀ (x0 : Option (Nat × Nat)) (H : Heap), J18_3 (AExit.exit 0, X18_3 x0 H) = some (x0, H) := by intros; kernel_rfl
theorem ok18 : FnOk Try.prog 18 (specF enc18 (sem18 f18)) := by
  refine spec_ok (C := CC18) good18 rfl rfl rfl (by kernel_rfl) Try.func18 (c := bodyOf Try.f18) (by kernel_rfl) (by kernel_rfl) (Nat.le_of_eq Try.ntmps18.symm) dec18 enc18 de18 _ ?_
  intro args H q h
  unfold sem18 at h
  split at h
  · rw [← f18_eq]; exact h
  · cases h
/-- A rope: its bytes; in blocks of F. -/
def RP (F : Nat → Prop) (H : Heap) (id : Nat) (l : List UInt8) : Prop :=
  ∃ s, H[id]? = some (.row [.slice s] false) ∧ OS 1 E8 H s l ∧ (∀ sl, s = some sl → sl.id ≠ id) ∧ F id ∧ (∀ sl, s = some sl → F sl.id)
/-- All blocks from one on. -/
def Up (n : Nat) : Nat → Prop := fun i => n ≤ i
/-- Parts, one behind the other, as far as there is room. -/
def catCut (b : List UInt8) : List (List UInt8) → List UInt8
  | [] => b
  | p :: r => catCut (b ++ p.take (1048576 - b.length)) r
/-- Some slices of bytes, in a slice. -/
def RSS (H : Heap) (t : Option Sl) (ls : List (List UInt8)) : Prop :=
  ∃ ps : List (Option Sl), RS 1 ES H t ps ∧ ps.length = ls.length ∧ ∀ (j : Nat) p l, ps[j]? = some p → ls[j]? = some l → RS 1 E8 H p l
/-- Bytes behind a rope's. -/
theorem rp_app {F : Nat → Prop} {H : Heap} {id : Nat} {b x : List UInt8} {sx : Option Sl} (h : RP F H id b) (hF : ∀ i, H.length ≤ i → F i) (hx : RS 1 E8 H sx x) (hb : b.length + x.length ≤ most) :
    ∃ s s' H1 H2, H.get id 0 = some (.slice s) ∧ slen s = (b.length : Int) ∧ H.append 1 1 s sx = some (s', H1) ∧ H1.put id 0 [.slice s'] = some H2 ∧ RP F H2 id (b ++ x) ∧ Kp F H H2 := by
  obtain ⟨s, h1, h2, h3, h4, h5⟩ := h
  obtain ⟨s', H1, a1, a2, a3, a4⟩ := append_OS E8_len (by decide) (by' := 1) h2 hx (by omega)
  have hid := lt_of h1
  have g1 : H1[id]? = some (.row [.slice s] false) := a3.at h1 (by rintro ⟨sl, e, e1⟩; exact h3 sl e e1.symm)
  have hne : ∀ sl', s' = some sl' → sl'.id ≠ id := fun sl' e => by
    rcases a4 sl' e with ⟨sl, e0, e1⟩ | h
    · rw [e1]; exact h3 sl e0
    · omega
  refine ⟨s, s', H1, _, by rw [get_of h1]; rfl, h2.rs.slenEq, a1, put_of g1 (by simp), ⟨s', set_get' (lt_of g1), a2.kp (Kp.set _ _ _) (fun sl e => hne sl e), hne, h4, fun sl' e => ?_⟩, ?_⟩
  · rcases a4 sl' e with ⟨sl, e0, e1⟩ | h
    · rw [e1]; exact h5 sl e0
    · exact hF _ h
  · refine a3.trans (Kp.set _ _ _) (fun i hi => ?_) fun i _ hi => ?_
    · obtain ⟨sl, e0, e1⟩ := hi; rw [e1]; exact h5 sl e0
    · rw [show i = id from hi]; exact h4
theorem rp_mono {F G : Nat → Prop} {H : Heap} {id : Nat} {b : List UInt8} (h : RP F H id b) (hG : ∀ i, i < H.length → F i → G i) : RP G H id b := by
  obtain ⟨s, h1, h2, h3, h4, h5⟩ := h
  exact ⟨s, h1, h2, h3, hG _ (lt_of h1) h4, fun sl e => by subst e; exact hG _ h2.lt (h5 sl rfl)⟩
theorem kp_old {H0 H H' : Heap} (h : Kp No H0 H) (k : Kp (Up H0.length) H H') : Kp No H0 H' := h.trans k (fun _ h => h) fun i hi h => absurd (show H0.length ≤ i from h) (by omega)
theorem up_le {H0 H : Heap} (h : Kp No H0 H) : ∀ i, H.length ≤ i → Up H0.length i := fun i hi => Nat.le_trans h.len hi
theorem loop18 (H0 : Heap) (t : Option Sl) (ls : List (List UInt8)) (ht : RSS H0 t ls) (hlen : ls.length ≤ 4611686018427387904) (hls : ∀ l ∈ ls, l.length ≤ 4611686018427387904) (id : Nat) : ∀ (m n i : Nat) (b : List UInt8) (H : Heap), i + m = ls.length → b.length ≤ 1048576 → RP (Up H0.length) H id b → Kp No H0 H →
    ∃ H', D18_3 (n + m + 1) (some (id, 0)) t (ls.length : Int) (i : Int) H = some (.exit 0, X18_3 (some (id, 0)) H') ∧ RP (Up H0.length) H' id (catCut b (ls.drop i)) ∧ Kp No H0 H'
  | 0, n, i, b, H, hi, hb, hr, hk => by
    have g : decide ((i : Int) < (ls.length : Int)) = false := by simp; omega
    refine ⟨H, by rw [D18_3_s, g, cf], ?_, hk⟩
    rw [List.drop_eq_nil_of_le (by omega)]; exact hr
  | m + 1, n, i, b, H, hi, hb, hr, hk => by
    have hil : i < ls.length := by omega
    have hli : ls[i]? = some ls[i] := List.getElem?_eq_getElem hil
    obtain ⟨ps, p1, p2, p3⟩ := ht
    have hpi : ps[i]? = some ps[i] := List.getElem?_eq_getElem (by omega)
    have hp := p3 i _ _ hpi hli
    have hL := hls ls[i] (List.getElem_mem hil)
    generalize hp0 : ps[i]'(by omega) = p at *
    generalize hl0 : ls[i] = l at *
    have g : decide ((i : Int) < (ls.length : Int)) = true := by simp; omega
    have g3 : IntKind.i64.wrap ((i : Int) + 1) = ((i + 1 : Nat) : Int) := by rw [wrap_i64 (by omega) (by omega)]; omega
    obtain ⟨sl, rfl, g2, g4⟩ := (p1.new ES_len (by decide) hk fun _ _ h => h).idx1 hpi (e := fun s => .slice s) fun _ => rfl
    have hp' := hp.new E8_len (by decide) hk fun _ _ h => h
    obtain ⟨s', c1, c2, c3⟩ := hp'.sub0 E8_len (min l.length (1048576 - b.length)) (by omega)
    obtain ⟨s, s2, H1, H2, r1, r2, r3, r4, r5, r6⟩ := rp_app hr (up_le hk) c2 (by simp [most]; omega)
    have gm : mm Builtin.min (slen p) (IntKind.i64.wrap (1048576 - slen s)) = ((min l.length (1048576 - b.length) : Nat) : Int) := by
      rw [hp.slenEq, r2, wrap_i64 (by omega) (by omega)]
      unfold mm
      split <;> omega
    have e5 : l.take (min l.length (1048576 - b.length)) = l.take (1048576 - b.length) := by
      rcases Nat.le_total l.length (1048576 - b.length) with h | h
      · rw [Nat.min_eq_left h, List.take_of_length_le (Nat.le_refl _), List.take_of_length_le h]
      · rw [Nat.min_eq_right h]
    rw [e5] at r5
    obtain ⟨H', j1, j2, j3⟩ := loop18 H0 (some sl) ls ⟨ps, p1, p2, p3⟩ hlen hls id m n (i + 1) _ H2 (by omega) (by simp; omega) r5 (kp_old hk r6)
    refine ⟨H', ?_, ?_, j3⟩
    · rw [show n + (m + 1) + 1 = (n + m + 1) + 1 by omega, D18_3_s, g]
      simp only [ct, bs, g2, g3, g4, tSlice, az, r1, gm, c1, hp.esOkT, r3, r4]
      exact j1
    · rw [List.drop_eq_getElem_cons hil, hl0]; exact j2
theorem f18_spec (H : Heap) (t : Option Sl) (ls : List (List UInt8)) (ht : RSS H t ls) (hlen : ls.length ≤ 4611686018427387904) (hls : ∀ l ∈ ls, l.length ≤ 4611686018427387904) :
    ∃ H', f18 t H = some (some (H.length, 0), H') ∧ RP (Up H.length) H' H.length (catCut [] ls) ∧ Kp No H H' := by
  have hsl : slen t = (ls.length : Int) := by
    obtain ⟨ps, p1, p2, _⟩ := ht
    rw [p1.slenEq, p2]
  obtain ⟨n, hn⟩ := LL18_3_of ls.length (by omega) (some (H.length, 0)) t (ls.length : Int) 0 (H ++ [.row [.slice none] false])
  obtain ⟨H', j1, j2, j3⟩ := loop18 H t ls ht hlen hls H.length ls.length n 0 [] (H ++ [.row [.slice none] false]) (by omega) (by simp) ⟨none, by simp, rfl, (fun _ e => nomatch e), Nat.le_refl _, (fun _ e => nomatch e)⟩ (Kp.push _ _ _)
  refine ⟨H', ?_, j2, j3⟩
  rw [q18, hsl, hn, show D18_3 (n + ls.length + 1) _ t _ 0 _ = _ from j1, bs, J18_3_0]
/-! 74: bits_Is -/
noncomputable def CC74 : Ctx := { P := Try.prog, own := [], fns := [], nt := 17, nums := [], live := [] }
theorem good74 : Callees Try.prog CC74.fns [] CC74.nums := Callees.nil Try.prog
def bits_Is (w : Int) : Bool := w == 1 || (w == 2 || (w == 4 || w == 8))
noncomputable def G74 : List TV → Option (List TV)
  | [.c (Cell.int .i64 w)] => some [.c (Cell.bool ((bits_Is w)))]
  | _ => none
noncomputable def F74 : FnSem := numF G74
theorem F74_num : FnNum F74 := numF_num _
theorem e74 : ∀ (R : Type) (w : Int) (H : Heap) (K : AV → Heap → Option R) (lp : Code → St → (AExit → St → Option R) → Option R), fnL CC74 lp Try.f74.results.toList (bodyOf Try.f74) [TV.c (Cell.int IntKind.i64 w)] H K = bif w == 1 then K (AV.c (Cell.bool true)) H else bif w == 2 then K (AV.c (Cell.bool true)) H else bif w == 4 then K (AV.c (Cell.bool true)) H else K (AV.c (Cell.bool (w == 8))) H := by intros; kernel_rfl
theorem s74 (R : Type) (w : Int) (H : Heap) (K : AV → Heap → Option R) (lp : Code → St → (AExit → St → Option R) → Option R) : fnL CC74 lp Try.f74.results.toList (bodyOf Try.f74) [.c (Cell.int .i64 w)] H K = K (oneOf [.c (Cell.bool ((bits_Is w)))]) H := by
  rw [e74]
  unfold bits_Is
  cases (w == 1) <;> cases (w == 2) <;> cases (w == 4) <;> rfl
theorem ok74 : FnOk Try.prog 74 F74 := by
  refine fn_ok (C := CC74) (good74.env rfl) (good74.ctx rfl rfl rfl) (by kernel_rfl) Try.func74 (c := bodyOf Try.f74) (by kernel_rfl) (by kernel_rfl) (Nat.le_of_eq Try.ntmps74.symm) ?_
  intro R args H K r h
  unfold F74 numF G74 at h
  split at h
  · rw [fnA_eq, s74]; exact h
  · cases h
/-! 75: rope_store_room -/
noncomputable def CC75 : Ctx := { P := Try.prog, own := [2], fns := [], nt := 11, nums := [], live := [] }
theorem good75 : Callees Try.prog CC75.fns [] CC75.nums := Callees.nil Try.prog
def rope_store_room (s : Option Sl) (n : Int) : Bool := decide (n ≤ IntKind.i64.wrap (1048576 - slen s))
noncomputable def G75 : List TV → Option (List TV)
  | [.agg [Cell.slice s], .c (Cell.int .i64 n)] => some [.c (Cell.bool ((rope_store_room s n)))]
  | _ => none
noncomputable def F75 : FnSem := numF G75
theorem F75_num : FnNum F75 := numF_num _
theorem e75 : ∀ (R : Type) (s : Option Sl) (n : Int) (H : Heap) (K : AV → Heap → Option R) (lp : Code → St → (AExit → St → Option R) → Option R), fnL CC75 lp Try.f75.results.toList (bodyOf Try.f75) [TV.agg [Cell.slice s], TV.c (Cell.int IntKind.i64 n)] H K = K (AV.c (Cell.bool (decide (n ≤ IntKind.i64.wrap (1048576 - slen s))))) H := by intros; kernel_rfl
theorem s75 (R : Type) (s : (Option Sl)) (n : Int) (H : Heap) (K : AV → Heap → Option R) (lp : Code → St → (AExit → St → Option R) → Option R) : fnL CC75 lp Try.f75.results.toList (bodyOf Try.f75) [.agg [Cell.slice s], .c (Cell.int .i64 n)] H K = K (oneOf [.c (Cell.bool ((rope_store_room s n)))]) H := by
  rw [e75]
  rfl
theorem ok75 : FnOk Try.prog 75 F75 := by
  refine fn_ok (C := CC75) (good75.env rfl) (good75.ctx rfl rfl rfl) (by kernel_rfl) Try.func75 (c := bodyOf Try.f75) (by kernel_rfl) (by kernel_rfl) (Nat.le_of_eq Try.ntmps75.symm) ?_
  intro R args H K r h
  unfold F75 numF G75 at h
  split at h
  · rw [fnA_eq, s75]; exact h
  · cases h
/-! 76: rope_put -/
noncomputable def CC76 : Ctx := { P := Try.prog, own := [], fns := [], nt := 20, nums := [], live := [(1, ⟨[0, 2, 7, 8], [], [], []⟩)] }
theorem good76 : Callees Try.prog CC76.fns [] CC76.nums := Callees.nil Try.prog
theorem hN76 : CtxNat CC76 := good76.ctx rfl rfl rfl
def enc76 (r : Unit) : List TV := []
def dec76 : AV → Option (Unit)
  | .tup [] => some ()
  | _ => none
theorem de76 (v : AV) (r : Unit) (h : dec76 v = some r) : v = oneOf (enc76 r) := by
  unfold dec76 at h
  split at h
  · cases h; rfl
  · cases h
abbrev Ty76 := (Option Sl) → Int → Int → Heap → Option (Unit × Heap)
def sem76 (f : Ty76) : List TV → Heap → Option (Unit × Heap)
  | [.c (Cell.slice b), .c (Cell.int .i64 w), .c (Cell.int .u64 v)], H => f b w v H
  | _, _ => none
noncomputable def f76 : Ty76 := hide fun b w v H => fnA CC76 Try.f76.results.toList (bodyOf Try.f76) _ [.c (Cell.slice b), .c (Cell.int .i64 w), .c (Cell.int .u64 v)] H (decF dec76)
theorem f76_eq (b : (Option Sl)) (w : Int) (v : Int) (H : Heap) : f76 b w v H = fnA CC76 Try.f76.results.toList (bodyOf Try.f76) _ [.c (Cell.slice b), .c (Cell.int .i64 w), .c (Cell.int .u64 v)] H (decF dec76) := by unfold f76; rw [hide_eq]
theorem f76_run (b : (Option Sl)) (w : Int) (v : Int) (H : Heap) : f76 b w v H = fnL CC76 (lpD CC76) Try.f76.results.toList (bodyOf Try.f76) [.c (Cell.slice b), .c (Cell.int .i64 w), .c (Cell.int .u64 v)] H (decF dec76) := (f76_eq ..).trans (fnA_lpD hN76 ..)
def S76_1 (t0 : (Option Sl)) (t2 : Int) (t7 : Int) (t8 : Int) (H : Heap) : St := ⟨[(0, .c (Cell.slice t0)), (2, .c (Cell.int .u64 t2)), (7, .c (Cell.int .i64 t7)), (8, .c (Cell.int .i64 t8))], [], H⟩
noncomputable def D76_1 (n : Nat) (t0 : (Option Sl)) (t2 : Int) (t7 : Int) (t8 : Int) (H : Heap) : Option (AExit × St) := loopN (exec CC76 (Code.l (Code.l (Code.r (bodyOf Try.f76))))) (keepOf CC76.live (Code.l (Code.l (Code.r (bodyOf Try.f76))))) n (S76_1 t0 t2 t7 t8 H) retD
noncomputable def LL76_1 (t0 : (Option Sl)) (t2 : Int) (t7 : Int) (t8 : Int) (H : Heap) : Option (AExit × St) := loopsD CC76 (Code.l (Code.l (Code.r (bodyOf Try.f76)))) (S76_1 t0 t2 t7 t8 H)
theorem LL76_1_of (m : Nat) (hm : m < 18446744073709551616) (t0 : (Option Sl)) (t2 : Int) (t7 : Int) (t8 : Int) (H : Heap) : ∃ n, LL76_1 t0 t2 t7 t8 H = D76_1 (n + m + 1) t0 t2 t7 t8 H := loopsD_of _ _ _ m hm
def X76_1 (H : Heap) : St := { env := [], loc := [], heap := H }
noncomputable def J76_1 : AExit × St → Option (Unit × Heap) := fun p => blockK 0 (retA CC76 [] (decF dec76)) p.fst p.snd
theorem D76_1_s : ∀ (n : Nat) (t0 : Option Sl) (t2 t7 t8 : Int) (H : Heap), D76_1 (n + 1) t0 t2 t7 t8 H = bif decide (t8 < t7) then bif decide (IntKind.i64.wrap (8 * t8) < 0) then none else t0.bind fun v1 => bif inb t8 v1.len && v1.esz == 1 then (H.put v1.id (v1.off + t8.toNat * 1) [Cell.int IntKind.u8 (IntKind.u8.wrap (ishr IntKind.u64 t2 (IntKind.i64.wrap (8 * t8))))]).bind fun v0 => D76_1 n t0 t2 t7 (IntKind.i64.wrap (t8 + 1)) v0 else none else some (AExit.exit 0, X76_1 H) := by intros; exact (loopN_stepD hN76 _ _ _ _).trans (by kernel_rfl)
theorem q76 : ∀ (b : Option Sl) (w v : Int) (H : Heap), f76 b w v H = (LL76_1 b v w 0 H).bind J76_1 := by intros; exact (f76_run ..).trans (by kernel_rfl)
theorem J76_1_0 : ∀ (H : Heap), J76_1 (AExit.exit 0, X76_1 H) = some ((), H) := by intros; kernel_rfl
theorem ok76 : FnOk Try.prog 76 (specF enc76 (sem76 f76)) := by
  refine spec_ok (C := CC76) good76 rfl rfl rfl (by kernel_rfl) Try.func76 (c := bodyOf Try.f76) (by kernel_rfl) (by kernel_rfl) (Nat.le_of_eq Try.ntmps76.symm) dec76 enc76 de76 _ ?_
  intro args H q h
  unfold sem76 at h
  split at h
  · rw [← f76_eq]; exact h
  · cases h
/-! 50: rope_Rope_Num -/
noncomputable def CC50 : Ctx := { P := Try.prog, own := [], fns := [(74, F74), (75, F75), (76, specF enc76 (sem76 f76))], nt := 58, nums := [74, 75], live := [(8, ⟨[0, 1, 35, 36, 37], [], [], []⟩)] }
theorem good50 : Callees Try.prog CC50.fns [] CC50.nums := (((Callees.nil Try.prog).cons ok76 (specF_nat _ _)).cons_num ok75 F75_num).cons_num ok74 F74_num
theorem hN50 : CtxNat CC50 := good50.ctx rfl rfl rfl
def enc50 (r : Int) : List TV := [.c (Cell.int .i64 (r))]
def dec50 : AV → Option (Int)
  | .c (Cell.int .i64 q0) => some (q0)
  | _ => none
theorem de50 (v : AV) (r : Int) (h : dec50 v = some r) : v = oneOf (enc50 r) := by
  unfold dec50 at h
  split at h
  · cases h; rfl
  · cases h
abbrev Ty50 := (Option (Nat × Nat)) → Int → (Option Sl) → Heap → Option (Int × Heap)
def sem50 (f : Ty50) : List TV → Heap → Option (Int × Heap)
  | [.c (Cell.ptr r), .c (Cell.int .i64 w), .c (Cell.slice l)], H => f r w l H
  | _, _ => none
noncomputable def f50 : Ty50 := hide fun r w l H => fnA CC50 Try.f50.results.toList (bodyOf Try.f50) _ [.c (Cell.ptr r), .c (Cell.int .i64 w), .c (Cell.slice l)] H (decF dec50)
theorem f50_eq (r : (Option (Nat × Nat))) (w : Int) (l : (Option Sl)) (H : Heap) : f50 r w l H = fnA CC50 Try.f50.results.toList (bodyOf Try.f50) _ [.c (Cell.ptr r), .c (Cell.int .i64 w), .c (Cell.slice l)] H (decF dec50) := by unfold f50; rw [hide_eq]
theorem f50_run (r : (Option (Nat × Nat))) (w : Int) (l : (Option Sl)) (H : Heap) : f50 r w l H = fnL CC50 (lpD CC50) Try.f50.results.toList (bodyOf Try.f50) [.c (Cell.ptr r), .c (Cell.int .i64 w), .c (Cell.slice l)] H (decF dec50) := (f50_eq ..).trans (fnA_lpD hN50 ..)
def S50_8 (t0 : (Option (Nat × Nat))) (t1 : Int) (t35 : (Option Sl)) (t36 : Int) (t37 : Int) (H : Heap) : St := ⟨[(0, .c (Cell.ptr t0)), (1, .c (Cell.int .i64 t1)), (35, .c (Cell.slice t35)), (36, .c (Cell.int .i64 t36)), (37, .c (Cell.int .i64 t37))], [], H⟩
noncomputable def D50_8 (n : Nat) (t0 : (Option (Nat × Nat))) (t1 : Int) (t35 : (Option Sl)) (t36 : Int) (t37 : Int) (H : Heap) : Option (AExit × St) := loopN (exec CC50 (Code.l (Code.l (Code.r (Code.l (Code.r (Code.r (bodyOf Try.f50)))))))) (keepOf CC50.live (Code.l (Code.l (Code.r (Code.l (Code.r (Code.r (bodyOf Try.f50)))))))) n (S50_8 t0 t1 t35 t36 t37 H) retD
noncomputable def LL50_8 (t0 : (Option (Nat × Nat))) (t1 : Int) (t35 : (Option Sl)) (t36 : Int) (t37 : Int) (H : Heap) : Option (AExit × St) := loopsD CC50 (Code.l (Code.l (Code.r (Code.l (Code.r (Code.r (bodyOf Try.f50))))))) (S50_8 t0 t1 t35 t36 t37 H)
theorem LL50_8_of (m : Nat) (hm : m < 18446744073709551616) (t0 : (Option (Nat × Nat))) (t1 : Int) (t35 : (Option Sl)) (t36 : Int) (t37 : Int) (H : Heap) : ∃ n, LL50_8 t0 t1 t35 t36 t37 H = D50_8 (n + m + 1) t0 t1 t35 t36 t37 H := loopsD_of _ _ _ m hm
def X50_8 (H : Heap) : St := { env := [], loc := [], heap := H }
noncomputable def J50_8 : AExit × St → Option (Int × Heap) := fun p => blockK 1 (seqK (execL CC50 (lpD CC50) (Code.r (Code.r (Code.r (bodyOf Try.f50))))) (retA CC50 [ResultVar.tmp 6] (decF dec50))) p.fst p.snd
theorem D50_8_s : ∀ (n : Nat) (t0 : Option (Nat × Nat)) (t1 : Int) (t35 : Option Sl) (t36 t37 : Int) (H : Heap), D50_8 (n + 1) t0 t1 t35 t36 t37 H = bif decide (t37 < t36) then t35.bind fun v10 => bif inb t37 v10.len && v10.esz == 1 then (H.get v10.id (v10.off + t37.toNat * 1)).bind fun v9 => (Cell.toInt IntKind.u64 v9).bind fun v8 => (f76 (some { id := List.length H, off := 0, len := 8, cap := 8, esz := 1 }) t1 v8 (H ++ [Blk.row [Cell.int IntKind.u8 0, Cell.int IntKind.u8 0, Cell.int IntKind.u8 0, Cell.int IntKind.u8 0, Cell.int IntKind.u8 0, Cell.int IntKind.u8 0, Cell.int IntKind.u8 0, Cell.int IntKind.u8 0] false])).bind fun v7 => t0.bind fun v6 => (v7.snd.get v6.fst (v6.snd + 0 + 0)).bind fun v5 => v5.toSlice.bind fun v4 => (Sl.sub (some { id := List.length H, off := 0, len := 8, cap := 8, esz := 1 }) 0 (some t1)).bind fun v3 => (v7.snd.append 1 1 v4 v3).bind fun v2 => t0.bind fun v1 => (v2.snd.put v1.fst (v1.snd + 0 + 0) [Cell.slice v2.fst]).bind fun v0 => D50_8 n t0 t1 t35 t36 (IntKind.i64.wrap (t37 + 1)) v0 else none else some (AExit.exit 1, X50_8 H) := by intros; exact (loopN_stepD hN50 _ _ _ _).trans (by kernel_rfl)
theorem q50 : ∀ (r : Option (Nat × Nat)) (w : Int) (l : Option Sl) (H : Heap), f50 r w l H = bif r.isNone then some (1, H) else bif !bits_Is w then some (2, H) else bif w == 0 then none else bif decide (slen l > IntKind.i64.wrap (Int.tdiv 1048576 w)) then some (4, H) else r.bind fun v13 => (H.get v13.fst (v13.snd + 0)).bind fun v12 => v12.toSlice.bind fun v11 => bif !rope_store_room v11 (IntKind.i64.wrap (w * slen l)) then some (4, H) else (LL50_8 r w l (slen l) 0 H).bind J50_8 := by intros; exact (f50_run ..).trans (by kernel_rfl)
theorem J50_8_0 : ∀ (H : Heap), J50_8 (AExit.exit 1, X50_8 H) = some (0, H) := by intros; kernel_rfl
theorem ok50 : FnOk Try.prog 50 (specF enc50 (sem50 f50)) := by
  refine spec_ok (C := CC50) good50 rfl rfl rfl (by kernel_rfl) Try.func50 (c := bodyOf Try.f50) (by kernel_rfl) (by kernel_rfl) (Nat.le_of_eq Try.ntmps50.symm) dec50 enc50 de50 _ ?_
  intro args H q h
  unfold sem50 at h
  split at h
  · rw [← f50_eq]; exact h
  · cases h
/-! 51: rope_Rope_Len -/
noncomputable def CC51 : Ctx := { P := Try.prog, own := [], fns := [], nt := 11, nums := [], live := [] }
theorem good51 : Callees Try.prog CC51.fns [] CC51.nums := Callees.nil Try.prog
theorem hN51 : CtxNat CC51 := good51.ctx rfl rfl rfl
def enc51 (r : Int) : List TV := [.c (Cell.int .i64 (r))]
def dec51 : AV → Option (Int)
  | .c (Cell.int .i64 q0) => some (q0)
  | _ => none
theorem de51 (v : AV) (r : Int) (h : dec51 v = some r) : v = oneOf (enc51 r) := by
  unfold dec51 at h
  split at h
  · cases h; rfl
  · cases h
abbrev Ty51 := (Option (Nat × Nat)) → Heap → Option (Int × Heap)
def sem51 (f : Ty51) : List TV → Heap → Option (Int × Heap)
  | [.c (Cell.ptr r)], H => f r H
  | _, _ => none
noncomputable def f51 : Ty51 := hide fun r H => fnA CC51 Try.f51.results.toList (bodyOf Try.f51) _ [.c (Cell.ptr r)] H (decF dec51)
theorem f51_eq (r : (Option (Nat × Nat))) (H : Heap) : f51 r H = fnA CC51 Try.f51.results.toList (bodyOf Try.f51) _ [.c (Cell.ptr r)] H (decF dec51) := by unfold f51; rw [hide_eq]
theorem f51_run (r : (Option (Nat × Nat))) (H : Heap) : f51 r H = fnL CC51 (lpD CC51) Try.f51.results.toList (bodyOf Try.f51) [.c (Cell.ptr r)] H (decF dec51) := (f51_eq ..).trans (fnA_lpD hN51 ..)
theorem q51 : ∀ (r : Option (Nat × Nat)) (H : Heap), f51 r H = bif r.isNone then some (0, H) else r.bind fun v2 => (H.get v2.fst (v2.snd + 0 + 0)).bind fun v1 => v1.toSlice.bind fun v0 => some (slen v0, H) := by intros; exact (f51_run ..).trans (by kernel_rfl)
theorem ok51 : FnOk Try.prog 51 (specF enc51 (sem51 f51)) := by
  refine spec_ok (C := CC51) good51 rfl rfl rfl (by kernel_rfl) Try.func51 (c := bodyOf Try.f51) (by kernel_rfl) (by kernel_rfl) (Nat.le_of_eq Try.ntmps51.symm) dec51 enc51 de51 _ ?_
  intro args H q h
  unfold sem51 at h
  split at h
  · rw [← f51_eq]; exact h
  · cases h
abbrev TyR51 := (Option (Nat × Nat)) → Heap → Option Int
def semR51 (f : TyR51) : List TV → Heap → Option Int
  | [.c (Cell.ptr r)], H => f r H
  | _, _ => none
noncomputable def g51 : TyR51 := hide fun r H => readOf (f51 r H) H
theorem g51_eq (r : (Option (Nat × Nat))) (H : Heap) : g51 r H = readOf (f51 r H) H := by unfold g51; rw [hide_eq]
theorem okR51 : FnOk Try.prog 51 (readF enc51 (semR51 g51)) := read_ok ok51 fun args H r h => by
  unfold semR51 at h
  split at h
  · rw [g51_eq] at h; exact readOf_some h
  · cases h
/-! 77: rope_store_has -/
noncomputable def CC77 : Ctx := { P := Try.prog, own := [3], fns := [], nt := 29, nums := [], live := [] }
theorem good77 : Callees Try.prog CC77.fns [] CC77.nums := Callees.nil Try.prog
def rope_store_has (s : Option Sl) (a n : Int) : Bool := decide (a ≥ 0) && (decide (n ≥ 0) && (decide (a ≤ slen s) && decide (n ≤ IntKind.i64.wrap (slen s - a))))
noncomputable def G77 : List TV → Option (List TV)
  | [.agg [Cell.slice s], .c (Cell.int .i64 x1), .c (Cell.int .i64 n)] => some [.c (Cell.bool ((rope_store_has s x1 n)))]
  | _ => none
noncomputable def F77 : FnSem := numF G77
theorem F77_num : FnNum F77 := numF_num _
theorem e77 : ∀ (R : Type) (s : Option Sl) (x1 n : Int) (H : Heap) (K : AV → Heap → Option R) (lp : Code → St → (AExit → St → Option R) → Option R), fnL CC77 lp Try.f77.results.toList (bodyOf Try.f77) [TV.agg [Cell.slice s], TV.c (Cell.int IntKind.i64 x1), TV.c (Cell.int IntKind.i64 n)] H K = bif decide (x1 ≥ 0) then bif decide (n ≥ 0) then bif decide (x1 ≤ slen s) then K (AV.c (Cell.bool (decide (n ≤ IntKind.i64.wrap (slen s - x1))))) H else K (AV.c (Cell.bool false)) H else K (AV.c (Cell.bool false)) H else K (AV.c (Cell.bool false)) H := by intros; kernel_rfl
theorem s77 (R : Type) (s : (Option Sl)) (x1 : Int) (n : Int) (H : Heap) (K : AV → Heap → Option R) (lp : Code → St → (AExit → St → Option R) → Option R) : fnL CC77 lp Try.f77.results.toList (bodyOf Try.f77) [.agg [Cell.slice s], .c (Cell.int .i64 x1), .c (Cell.int .i64 n)] H K = K (oneOf [.c (Cell.bool ((rope_store_has s x1 n)))]) H := by
  rw [e77]
  unfold rope_store_has
  cases decide (x1 ≥ 0) <;> cases decide (n ≥ 0) <;> cases decide (x1 ≤ slen s) <;> rfl
theorem ok77 : FnOk Try.prog 77 F77 := by
  refine fn_ok (C := CC77) (good77.env rfl) (good77.ctx rfl rfl rfl) (by kernel_rfl) Try.func77 (c := bodyOf Try.f77) (by kernel_rfl) (by kernel_rfl) (Nat.le_of_eq Try.ntmps77.symm) ?_
  intro R args H K r h
  unfold F77 numF G77 at h
  split at h
  · rw [fnA_eq, s77]; exact h
  · cases h
theorem has_eq {n : Nat} {α : Type} {E : α → List Cell} {H : Heap} {s : Option Sl} {l : List α} (h : RS n E H s l) (hl : l.length ≤ 4611686018427387904) (a k : Int) : rope_store_has s a k = hasI l.length a k := by
  unfold rope_store_has hasI
  rw [h.slenEq]
  by_cases g : 0 ≤ a ∧ a ≤ l.length
  · rw [wrap_i64 (by omega) (by omega)]
  · by_cases g1 : a ≥ 0
    · have : decide (a ≤ (l.length : Int)) = false := by simp; omega
      rw [this]; simp
    · have : decide (a ≥ 0) = false := by simp; omega
      rw [this]; simp
/-! 56: bytes_Clone -/
noncomputable def CC56 : Ctx := { P := Try.prog, own := [], fns := [], nt := 8, nums := [], live := [] }
theorem good56 : Callees Try.prog CC56.fns [] CC56.nums := Callees.nil Try.prog
theorem hN56 : CtxNat CC56 := good56.ctx rfl rfl rfl
def enc56 (r : (Option Sl)) : List TV := [.c (Cell.slice (r))]
def dec56 : AV → Option ((Option Sl))
  | .c (Cell.slice q0) => some (q0)
  | _ => none
theorem de56 (v : AV) (r : (Option Sl)) (h : dec56 v = some r) : v = oneOf (enc56 r) := by
  unfold dec56 at h
  split at h
  · cases h; rfl
  · cases h
abbrev Ty56 := (Option Sl) → Heap → Option ((Option Sl) × Heap)
def sem56 (f : Ty56) : List TV → Heap → Option ((Option Sl) × Heap)
  | [.c (Cell.slice b)], H => f b H
  | _, _ => none
noncomputable def f56 : Ty56 := hide fun b H => fnA CC56 Try.f56.results.toList (bodyOf Try.f56) _ [.c (Cell.slice b)] H (decF dec56)
theorem f56_eq (b : (Option Sl)) (H : Heap) : f56 b H = fnA CC56 Try.f56.results.toList (bodyOf Try.f56) _ [.c (Cell.slice b)] H (decF dec56) := by unfold f56; rw [hide_eq]
theorem f56_run (b : (Option Sl)) (H : Heap) : f56 b H = fnL CC56 (lpD CC56) Try.f56.results.toList (bodyOf Try.f56) [.c (Cell.slice b)] H (decF dec56) := (f56_eq ..).trans (fnA_lpD hN56 ..)
theorem q56 : ∀ (b : Option Sl) (H : Heap), f56 b H = bif b.isNone then some (none, H) else ((H ++ [Blk.row [] false]).append 1 1 (some { id := List.length H, off := 0, len := 0, cap := 0, esz := 1 }) b).bind fun v0 => some (v0.fst, v0.snd) := by intros; exact (f56_run ..).trans (by kernel_rfl)
theorem ok56 : FnOk Try.prog 56 (specF enc56 (sem56 f56)) := by
  refine spec_ok (C := CC56) good56 rfl rfl rfl (by kernel_rfl) Try.func56 (c := bodyOf Try.f56) (by kernel_rfl) (by kernel_rfl) (Nat.le_of_eq Try.ntmps56.symm) dec56 enc56 de56 _ ?_
  intro args H q h
  unfold sem56 at h
  split at h
  · rw [← f56_eq]; exact h
  · cases h
theorem f56_spec (s : Option Sl) (l : List UInt8) (H : Heap) (hs : RS 1 E8 H s l) (hl : l.length ≤ most) :
    ∃ s' H', f56 s H = some (s', H') ∧ OS 1 E8 H' s' l ∧ Kp No H H' ∧ New H.length s' := by
  rw [q56]
  cases s with
  | none =>
    cases hs
    exact ⟨none, H, rfl, rfl, Kp.refl _ _, fun _ e => nomatch e⟩
  | some sl =>
    have h1 := OS_new (n := 1) (E := E8) H
    obtain ⟨s', H', h2, h3, h4, h5⟩ := append_OS E8_len (by decide) (by' := 1) h1 (hs.new E8_len (by decide) (Kp.push No H [.row [] false]) fun _ _ h => h) (by simpa using hl)
    refine ⟨s', H', by rw [nsome, cf, h2, bs], by simpa using h3, (Kp.push No H _).trans h4 (fun _ h => h) (fun i hi hf => ?_), fun sl' e => ?_⟩
    · obtain ⟨sl0, e0, e1⟩ := hf; cases e0; exact absurd e1 (by show ¬ i = H.length; omega)
    · rcases h5 sl' e with ⟨sl0, e0, e1⟩ | h
      · cases e0; rw [e1]; exact Nat.le_refl _
      · simp at h; omega
/-! 69: rope_Rope_Read -/
noncomputable def CC69 : Ctx := { P := Try.prog, own := [], fns := [(77, F77), (56, specF enc56 (sem56 f56))], nt := 30, nums := [77], live := [] }
theorem good69 : Callees Try.prog CC69.fns [] CC69.nums := ((Callees.nil Try.prog).cons ok56 (specF_nat _ _)).cons_num ok77 F77_num
theorem hN69 : CtxNat CC69 := good69.ctx rfl rfl rfl
def enc69 (r : (Option (Nat × Nat))) : List TV := [.c (Cell.ptr (r))]
def dec69 : AV → Option ((Option (Nat × Nat)))
  | .c (Cell.ptr q0) => some (q0)
  | _ => none
theorem de69 (v : AV) (r : (Option (Nat × Nat))) (h : dec69 v = some r) : v = oneOf (enc69 r) := by
  unfold dec69 at h
  split at h
  · cases h; rfl
  · cases h
abbrev Ty69 := (Option (Nat × Nat)) → Int → Heap → Option (((Option (Nat × Nat))) × Heap)
def sem69 (f : Ty69) : List TV → Heap → Option (((Option (Nat × Nat))) × Heap)
  | [.c (Cell.ptr r), .c (Cell.int .i64 x1)], H => f r x1 H
  | _, _ => none
noncomputable def f69 : Ty69 := hide fun r x1 H => fnA CC69 Try.f69.results.toList (bodyOf Try.f69) _ [.c (Cell.ptr r), .c (Cell.int .i64 x1)] H (decF dec69)
theorem f69_eq (r : (Option (Nat × Nat))) (x1 : Int) (H : Heap) : f69 r x1 H = fnA CC69 Try.f69.results.toList (bodyOf Try.f69) _ [.c (Cell.ptr r), .c (Cell.int .i64 x1)] H (decF dec69) := by unfold f69; rw [hide_eq]
theorem f69_run (r : (Option (Nat × Nat))) (x1 : Int) (H : Heap) : f69 r x1 H = fnL CC69 (lpD CC69) Try.f69.results.toList (bodyOf Try.f69) [.c (Cell.ptr r), .c (Cell.int .i64 x1)] H (decF dec69) := (f69_eq ..).trans (fnA_lpD hN69 ..)
theorem q69 : ∀ (r : Option (Nat × Nat)) (x1 : Int) (H : Heap), f69 r x1 H = bif r.isNone then some (some (List.length H, 0), H ++ [Blk.row [Cell.slice none, Cell.int IntKind.i64 0, Cell.int IntKind.i64 1] false]) else r.bind fun v6 => (H.get v6.fst (v6.snd + 0)).bind fun v5 => v5.toSlice.bind fun v4 => bif !rope_store_has v4 x1 0 then some (some (List.length H, 0), H ++ [Blk.row [Cell.slice none, Cell.int IntKind.i64 0, Cell.int IntKind.i64 7] false]) else r.bind fun v3 => (H.get v3.fst (v3.snd + 0 + 0)).bind fun v2 => v2.toSlice.bind fun v1 => (f56 v1 H).bind fun v0 => some (some (List.length v0.snd, 0), v0.snd ++ [Blk.row [Cell.slice v0.fst, Cell.int IntKind.i64 x1, Cell.int IntKind.i64 0] false]) := by intros; exact (f69_run ..).trans (by kernel_rfl)
theorem ok69 : FnOk Try.prog 69 (specF enc69 (sem69 f69)) := by
  refine spec_ok (C := CC69) good69 rfl rfl rfl (by kernel_rfl) Try.func69 (c := bodyOf Try.f69) (by kernel_rfl) (by kernel_rfl) (Nat.le_of_eq Try.ntmps69.symm) dec69 enc69 de69 _ ?_
  intro args H q h
  unfold sem69 at h
  split at h
  · rw [← f69_eq]; exact h
  · cases h
/-- A view's cells. -/
def vw (s : Option Sl) (a e : Int) : Blk := .row [.slice s, .int .i64 a, .int .i64 e] false
theorem f69_no (id : Nat) (s : Option Sl) (l : List UInt8) (a : Int) (H : Heap) (h : H[id]? = some (.row [.slice s] false)) (hb : RS 1 E8 H s l) (hl : l.length ≤ most) (ha : hasI l.length a 0 = false) :
    f69 (some (id, 0)) a H = some (some (H.length, 0), H ++ [vw none 0 7]) := by
  have hh := (has_eq hb (by unfold most at hl; omega) a 0).trans ha
  rw [q69]
  simp only [nsome, ct, cf, bs, az, get_of h, rg0, tSlice, hh, Bool.not_false]
  rfl
theorem f69_yes (id : Nat) (s : Option Sl) (l : List UInt8) (a : Int) (H : Heap) (h : H[id]? = some (.row [.slice s] false)) (hb : RS 1 E8 H s l) (hl : l.length ≤ most) (ha : hasI l.length a 0 = true) :
    ∃ s' H', f69 (some (id, 0)) a H = some (some (H'.length, 0), H' ++ [vw s' a 0]) ∧ OS 1 E8 H' s' l ∧ Kp No H H' ∧ New H.length s' := by
  obtain ⟨s', H', h1, h2, h3, h4⟩ := f56_spec s l H hb hl
  refine ⟨s', H', ?_, h2, h3, h4⟩
  have hh := (has_eq hb (by unfold most at hl; omega) a 0).trans ha
  rw [q69]
  simp only [nsome, ct, cf, bs, az, get_of h, rg0, tSlice, hh, Bool.not_true, h1]
  rfl
/-! 82: rope_View_take -/
noncomputable def CC82 : Ctx := { P := Try.prog, own := [], fns := [(77, F77)], nt := 43, nums := [77], live := [] }
theorem good82 : Callees Try.prog CC82.fns [] CC82.nums := (Callees.nil Try.prog).cons_num ok77 F77_num
theorem hN82 : CtxNat CC82 := good82.ctx rfl rfl rfl
def enc82 (r : Int × Bool) : List TV := [.c (Cell.int .i64 (r.1)), .c (Cell.bool (r.2))]
def dec82 : AV → Option (Int × Bool)
  | .tup [.c (Cell.int .i64 q0), .c (Cell.bool q1)] => some (q0, q1)
  | _ => none
theorem de82 (v : AV) (r : Int × Bool) (h : dec82 v = some r) : v = oneOf (enc82 r) := by
  unfold dec82 at h
  split at h
  · cases h; rfl
  · cases h
abbrev Ty82 := (Option (Nat × Nat)) → Int → Heap → Option ((Int × Bool) × Heap)
def sem82 (f : Ty82) : List TV → Heap → Option ((Int × Bool) × Heap)
  | [.c (Cell.ptr v), .c (Cell.int .i64 n)], H => f v n H
  | _, _ => none
noncomputable def f82 : Ty82 := hide fun v n H => fnA CC82 Try.f82.results.toList (bodyOf Try.f82) _ [.c (Cell.ptr v), .c (Cell.int .i64 n)] H (decF dec82)
theorem f82_eq (v : (Option (Nat × Nat))) (n : Int) (H : Heap) : f82 v n H = fnA CC82 Try.f82.results.toList (bodyOf Try.f82) _ [.c (Cell.ptr v), .c (Cell.int .i64 n)] H (decF dec82) := by unfold f82; rw [hide_eq]
theorem f82_run (v : (Option (Nat × Nat))) (n : Int) (H : Heap) : f82 v n H = fnL CC82 (lpD CC82) Try.f82.results.toList (bodyOf Try.f82) [.c (Cell.ptr v), .c (Cell.int .i64 n)] H (decF dec82) := (f82_eq ..).trans (fnA_lpD hN82 ..)
theorem q82 : ∀ (v : Option (Nat × Nat)) (n : Int) (H : Heap), f82 v n H = bif v.isNone then some ((0, false), H) else v.bind fun v18 => (H.get v18.fst (v18.snd + 2)).bind fun v17 => (Cell.toInt IntKind.i64 v17).bind fun v16 => bif v16 != 0 then some ((0, false), H) else v.bind fun v15 => (H.get v15.fst (v15.snd + 0)).bind fun v14 => v14.toSlice.bind fun v13 => v.bind fun v12 => (H.get v12.fst (v12.snd + 1)).bind fun v11 => (Cell.toInt IntKind.i64 v11).bind fun v10 => bif !rope_store_has v13 v10 n then v.bind fun v1 => (H.put v1.fst (v1.snd + 2) [Cell.int IntKind.i64 7]).bind fun v0 => some ((0, false), v0) else v.bind fun v9 => (H.get v9.fst (v9.snd + 1)).bind fun v8 => (Cell.toInt IntKind.i64 v8).bind fun v7 => v.bind fun v6 => (H.get v6.fst (v6.snd + 1)).bind fun v5 => (Cell.toInt IntKind.i64 v5).bind fun v4 => v.bind fun v3 => (H.put v3.fst (v3.snd + 1) [Cell.int IntKind.i64 (IntKind.i64.wrap (v4 + n))]).bind fun v2 => some ((v7, true), v2) := by intros; exact (f82_run ..).trans (by kernel_rfl)
theorem ok82 : FnOk Try.prog 82 (specF enc82 (sem82 f82)) := by
  refine spec_ok (C := CC82) good82 rfl rfl rfl (by kernel_rfl) Try.func82 (c := bodyOf Try.f82) (by kernel_rfl) (by kernel_rfl) (Nat.le_of_eq Try.ntmps82.symm) dec82 enc82 de82 _ ?_
  intro args H q h
  unfold sem82 at h
  split at h
  · rw [← f82_eq]; exact h
  · cases h
theorem f82_err (id : Nat) (s : Option Sl) (a e n : Int) (H : Heap) (h : H[id]? = some (vw s a e)) (he : e ≠ 0) : f82 (some (id, 0)) n H = some ((0, false), H) := by
  have g : (e != 0) = true := by simp [he]
  rw [q82]
  simp only [nsome, ct, cf, bs, az, za, get_of h, rg0, rg1, rg2, tInt, g]
theorem vput1 {id : Nat} {s : Option Sl} {a e : Int} {H : Heap} (h : H[id]? = some (vw s a e)) (x : Int) : H.put id 1 [.int .i64 x] = some (H.set id (vw s x e)) := put_of h (by simp)
theorem vput2 {id : Nat} {s : Option Sl} {a e : Int} {H : Heap} (h : H[id]? = some (vw s a e)) (x : Int) : H.put id 2 [.int .i64 x] = some (H.set id (vw s a x)) := put_of h (by simp)
theorem f82_no (id : Nat) (s : Option Sl) (a n : Int) (H : Heap) (h : H[id]? = some (vw s a 0)) (hh : rope_store_has s a n = false) : f82 (some (id, 0)) n H = some ((0, false), H.set id (vw s a 7)) := by
  have z : ((0 : Int) != 0) = false := by decide
  rw [q82]
  simp only [nsome, ct, cf, bs, az, za, get_of h, rg0, rg1, rg2, tInt, tSlice, z, hh, Bool.not_false, vput2 h]
theorem f82_yes (id : Nat) (s : Option Sl) (a n : Int) (H : Heap) (h : H[id]? = some (vw s a 0)) (hh : rope_store_has s a n = true) : f82 (some (id, 0)) n H = some ((a, true), H.set id (vw s (IntKind.i64.wrap (a + n)) 0)) := by
  have z : ((0 : Int) != 0) = false := by decide
  rw [q82]
  simp only [nsome, ct, cf, bs, az, za, get_of h, rg0, rg1, rg2, tInt, tSlice, z, hh, Bool.not_true, vput1 h]
/-! 83: rope_store_num -/
noncomputable def CC83 : Ctx := { P := Try.prog, own := [3], fns := [], nt := 27, nums := [], live := [(3, ⟨[1, 3, 7, 8], [3], [7], []⟩)] }
theorem good83 : Callees Try.prog CC83.fns [] CC83.nums := Callees.nil Try.prog
theorem hN83 : CtxNat CC83 := good83.ctx rfl rfl rfl
def enc83 (r : Int) : List TV := [.c (Cell.int .u64 (r))]
def dec83 : AV → Option (Int)
  | .c (Cell.int .u64 q0) => some (q0)
  | _ => none
theorem de83 (v : AV) (r : Int) (h : dec83 v = some r) : v = oneOf (enc83 r) := by
  unfold dec83 at h
  split at h
  · cases h; rfl
  · cases h
abbrev Ty83 := (Option Sl) → Int → Int → Heap → Option (Int × Heap)
def sem83 (f : Ty83) : List TV → Heap → Option (Int × Heap)
  | [.agg [Cell.slice s], .c (Cell.int .i64 x1), .c (Cell.int .i64 w)], H => f s x1 w H
  | _, _ => none
noncomputable def f83 : Ty83 := hide fun s x1 w H => fnA CC83 Try.f83.results.toList (bodyOf Try.f83) _ [.agg [Cell.slice s], .c (Cell.int .i64 x1), .c (Cell.int .i64 w)] H (decF dec83)
theorem f83_eq (s : (Option Sl)) (x1 : Int) (w : Int) (H : Heap) : f83 s x1 w H = fnA CC83 Try.f83.results.toList (bodyOf Try.f83) _ [.agg [Cell.slice s], .c (Cell.int .i64 x1), .c (Cell.int .i64 w)] H (decF dec83) := by unfold f83; rw [hide_eq]
theorem f83_run (s : (Option Sl)) (x1 : Int) (w : Int) (H : Heap) : f83 s x1 w H = fnL CC83 (lpD CC83) Try.f83.results.toList (bodyOf Try.f83) [.agg [Cell.slice s], .c (Cell.int .i64 x1), .c (Cell.int .i64 w)] H (decF dec83) := (f83_eq ..).trans (fnA_lpD hN83 ..)
def S83_3 (t1 : Int) (t7 : Int) (t8 : Int) (b3_ : (Option Sl)) (H : Heap) : St := ⟨[(1, .c (Cell.int .i64 t1)), (3, .lp 3 0), (7, .c (Cell.int .u64 t7)), (8, .c (Cell.int .i64 t8))], [(3, [Cell.slice b3_])], H⟩
noncomputable def D83_3 (n : Nat) (t1 : Int) (t7 : Int) (t8 : Int) (b3_ : (Option Sl)) (H : Heap) : Option (AExit × St) := loopN (exec CC83 (Code.l (Code.l (Code.r (Code.l (Code.r (Code.r (bodyOf Try.f83)))))))) (keepOf CC83.live (Code.l (Code.l (Code.r (Code.l (Code.r (Code.r (bodyOf Try.f83)))))))) n (S83_3 t1 t7 t8 b3_ H) retD
noncomputable def LL83_3 (t1 : Int) (t7 : Int) (t8 : Int) (b3_ : (Option Sl)) (H : Heap) : Option (AExit × St) := loopsD CC83 (Code.l (Code.l (Code.r (Code.l (Code.r (Code.r (bodyOf Try.f83))))))) (S83_3 t1 t7 t8 b3_ H)
theorem LL83_3_of (m : Nat) (hm : m < 18446744073709551616) (t1 : Int) (t7 : Int) (t8 : Int) (b3_ : (Option Sl)) (H : Heap) : ∃ n, LL83_3 t1 t7 t8 b3_ H = D83_3 (n + m + 1) t1 t7 t8 b3_ H := loopsD_of _ _ _ m hm
def X83_3 (x0 : Int) (H : Heap) : St := { env := [(7, AV.c (Cell.int IntKind.u64 x0))], loc := [], heap := H }
noncomputable def J83_3 : AExit × St → Option (Int × Heap) := fun p => blockK 0 (seqK (execL CC83 (lpD CC83) (Code.r (Code.r (Code.r (bodyOf Try.f83))))) (retA CC83 [ResultVar.tmp 6] (decF dec83))) p.fst p.snd
theorem D83_3_s : ∀ (n : Nat) (t1 t7 t8 : Int) (b3_ : Option Sl) (H : Heap), D83_3 (n + 1) t1 t7 t8 b3_ H = bif decide (t8 ≥ 0) then b3_.bind fun v2 => bif inb (IntKind.i64.wrap (t1 + t8)) v2.len && v2.esz == 1 then (H.get v2.id (v2.off + (IntKind.i64.wrap (t1 + t8)).toNat * 1)).bind fun v1 => (Cell.toInt IntKind.u8 v1).bind fun v0 => D83_3 n t1 (bor IntKind.u64 (ishl IntKind.u64 t7 8) (IntKind.u64.wrap v0)) (IntKind.i64.wrap (t8 - 1)) b3_ H else none else some (AExit.exit 0, X83_3 t7 H) := by intros; exact (loopN_stepD hN83 _ _ _ _).trans (by kernel_rfl)
theorem q83 : ∀ (s : Option Sl) (x1 w : Int) (H : Heap), f83 s x1 w H = (LL83_3 x1 0 (IntKind.i64.wrap (w - 1)) s H).bind J83_3 := by intros; exact (f83_run ..).trans (by kernel_rfl)
theorem J83_3_0 : ∀ (x0 : Int) (H : Heap), J83_3 (AExit.exit 0, X83_3 x0 H) = some (x0, H) := by intros; kernel_rfl
theorem ok83 : FnOk Try.prog 83 (specF enc83 (sem83 f83)) := by
  refine spec_ok (C := CC83) good83 rfl rfl rfl (by kernel_rfl) Try.func83 (c := bodyOf Try.f83) (by kernel_rfl) (by kernel_rfl) (Nat.le_of_eq Try.ntmps83.symm) dec83 enc83 de83 _ ?_
  intro args H q h
  unfold sem83 at h
  split at h
  · rw [← f83_eq]; exact h
  · cases h
theorem shl8_or (v b : Nat) (hv : v < 72057594037927936) (hb : b < 256) : bor .u64 (ishl .u64 (v : Int) 8) (IntKind.u64.wrap (b : Int)) = ((b + 256 * v : Nat) : Int) := by
  have e1 : ishl .u64 (v : Int) 8 = ((2 ^ 8 * v : Nat) : Int) := by
    unfold ishl
    have : min ((8 : Int).toNat) IntKind.u64.bits = 8 := rfl
    rw [this, wrap_u64]; omega
  rw [e1, wrapU_nat b (by omega), bor_u64]
  have h1 : (((2 ^ 8 * v : Nat) : Int) % 18446744073709551616).toNat = 2 ^ 8 * v := by omega
  have h2 : ((b : Int) % 18446744073709551616).toNat = b := by omega
  rw [h1, h2, ← Nat.two_pow_add_eq_or_of_lt (by omega)]
  congr 1; omega
theorem numB7 {l : List UInt8} (h : l.length ≤ 7) : numB l < 72057594037927936 := Nat.lt_of_lt_of_le (numB_lt l) (Nat.le_trans (Nat.pow_le_pow_right (by decide) h) (by decide))
theorem loop83 (s : Option Sl) (l : List UInt8) (hmax : l.length ≤ 4611686018427387904) (a w : Nat) (hw : w ≤ 8) (hal : a + w ≤ l.length) (H : Heap) (hs : RS 1 E8 H s l) : ∀ (m n : Nat), m ≤ w →
    D83_3 (n + m + 1) (a : Int) ((numB ((l.drop (a + m)).take (w - m)) : Nat) : Int) ((m : Int) - 1) s H = some (.exit 0, X83_3 ((numB ((l.drop a).take w) : Nat) : Int) H)
  | 0, n, hm => by
    have g : decide (((0 : Nat) : Int) - 1 ≥ 0) = false := by decide
    rw [D83_3_s, g, cf]; rfl
  | m + 1, n, hm => by
    have hb : a + m < l.length := by omega
    have hlb : l[a + m]? = some l[a + m] := List.getElem?_eq_getElem hb
    obtain ⟨sl, rfl, g2, g4⟩ := hs.idx1 hlb (e := fun b => .int .u8 (b.toNat : Int)) fun _ => rfl
    have e : (((m + 1 : Nat) : Int) - 1) = m := by omega
    have g : decide ((m : Int) ≥ 0) = true := by simp
    have g1 : IntKind.i64.wrap ((a : Int) + (m : Int)) = ((a + m : Nat) : Int) := by rw [wrap_i64 (by omega) (by omega)]; omega
    have g3 : IntKind.i64.wrap ((m : Int) - 1) = (m : Int) - 1 := wrap_i64 (by omega) (by omega)
    have hlt : numB ((l.drop (a + (m + 1))).take (w - (m + 1))) < 72057594037927936 := numB7 (by simp; omega)
    have e2 : l[a + m] :: (l.drop (a + (m + 1))).take (w - (m + 1)) = (l.drop (a + m)).take (w - m) := by
      rw [show w - m = (w - (m + 1)) + 1 by omega, List.drop_eq_getElem_cons hb, List.take_succ_cons]; rfl
    rw [show n + (m + 1) + 1 = (n + m + 1) + 1 by omega, e, D83_3_s, g]
    simp only [ct, bs, g1, g2, g3, g4, tInt, shl8_or _ _ hlt l[a + m].toNat_lt]
    rw [show l[a + m].toNat + 256 * numB ((l.drop (a + (m + 1))).take (w - (m + 1))) = numB ((l.drop (a + m)).take (w - m)) by rw [← e2]; rfl]
    exact loop83 (some sl) l hmax a w hw hal H hs m n (by omega)
theorem f83_spec (s : Option Sl) (l : List UInt8) (hmax : l.length ≤ 4611686018427387904) (a w : Nat) (hw : w ≤ 8) (hal : a + w ≤ l.length) (H : Heap) (hs : RS 1 E8 H s l) :
    f83 s (a : Int) (w : Int) H = some (((numB ((l.drop a).take w) : Nat) : Int), H) := by
  have g : IntKind.i64.wrap ((w : Int) - 1) = (w : Int) - 1 := wrap_i64 (by omega) (by omega)
  obtain ⟨n, hn⟩ := LL83_3_of w (by omega) (a : Int) 0 ((w : Int) - 1) s H
  have h := loop83 s l hmax a w hw hal H hs w n (Nat.le_refl _)
  rw [Nat.sub_self] at h
  rw [q83, g, hn, show D83_3 (n + w + 1) (a : Int) 0 ((w : Int) - 1) s H = _ from h, bs, J83_3_0]
/-! 70: rope_View_Num -/
noncomputable def CC70 : Ctx := { P := Try.prog, own := [], fns := [(74, F74), (83, specF enc83 (sem83 f83)), (82, specF enc82 (sem82 f82))], nt := 39, nums := [74], live := [] }
theorem good70 : Callees Try.prog CC70.fns [] CC70.nums := (((Callees.nil Try.prog).cons ok82 (specF_nat _ _)).cons ok83 (specF_nat _ _)).cons_num ok74 F74_num
theorem hN70 : CtxNat CC70 := good70.ctx rfl rfl rfl
def enc70 (r : Int) : List TV := [.c (Cell.int .u64 (r))]
def dec70 : AV → Option (Int)
  | .c (Cell.int .u64 q0) => some (q0)
  | _ => none
theorem de70 (v : AV) (r : Int) (h : dec70 v = some r) : v = oneOf (enc70 r) := by
  unfold dec70 at h
  split at h
  · cases h; rfl
  · cases h
abbrev Ty70 := (Option (Nat × Nat)) → Int → Heap → Option (Int × Heap)
def sem70 (f : Ty70) : List TV → Heap → Option (Int × Heap)
  | [.c (Cell.ptr v), .c (Cell.int .i64 w)], H => f v w H
  | _, _ => none
noncomputable def f70 : Ty70 := hide fun v w H => fnA CC70 Try.f70.results.toList (bodyOf Try.f70) _ [.c (Cell.ptr v), .c (Cell.int .i64 w)] H (decF dec70)
theorem f70_eq (v : (Option (Nat × Nat))) (w : Int) (H : Heap) : f70 v w H = fnA CC70 Try.f70.results.toList (bodyOf Try.f70) _ [.c (Cell.ptr v), .c (Cell.int .i64 w)] H (decF dec70) := by unfold f70; rw [hide_eq]
theorem f70_run (v : (Option (Nat × Nat))) (w : Int) (H : Heap) : f70 v w H = fnL CC70 (lpD CC70) Try.f70.results.toList (bodyOf Try.f70) [.c (Cell.ptr v), .c (Cell.int .i64 w)] H (decF dec70) := (f70_eq ..).trans (fnA_lpD hN70 ..)
theorem q70 : ∀ (v : Option (Nat × Nat)) (w : Int) (H : Heap), f70 v w H = bif !v.isNone then v.bind fun v19 => (H.get v19.fst (v19.snd + 2)).bind fun v18 => (Cell.toInt IntKind.i64 v18).bind fun v17 => bif v17 == 0 then bif !bits_Is w then v.bind fun v6 => (H.put v6.fst (v6.snd + 2) [Cell.int IntKind.i64 2]).bind fun v5 => (f82 v w v5).bind fun v4 => bif !v4.fst.snd then some (0, v4.snd) else v.bind fun v3 => (v4.snd.get v3.fst (v3.snd + 0)).bind fun v2 => v2.toSlice.bind fun v1 => (f83 v1 v4.fst.fst w v4.snd).bind fun v0 => some (v0.fst, v0.snd) else (f82 v w H).bind fun v11 => bif !v11.fst.snd then some (0, v11.snd) else v.bind fun v10 => (v11.snd.get v10.fst (v10.snd + 0)).bind fun v9 => v9.toSlice.bind fun v8 => (f83 v8 v11.fst.fst w v11.snd).bind fun v7 => some (v7.fst, v7.snd) else (f82 v w H).bind fun v16 => bif !v16.fst.snd then some (0, v16.snd) else v.bind fun v15 => (v16.snd.get v15.fst (v15.snd + 0)).bind fun v14 => v14.toSlice.bind fun v13 => (f83 v13 v16.fst.fst w v16.snd).bind fun v12 => some (v12.fst, v12.snd) else (f82 v w H).bind fun v24 => bif !v24.fst.snd then some (0, v24.snd) else v.bind fun v23 => (v24.snd.get v23.fst (v23.snd + 0)).bind fun v22 => v22.toSlice.bind fun v21 => (f83 v21 v24.fst.fst w v24.snd).bind fun v20 => some (v20.fst, v20.snd) := by intros; exact (f70_run ..).trans (by kernel_rfl)
theorem ok70 : FnOk Try.prog 70 (specF enc70 (sem70 f70)) := by
  refine spec_ok (C := CC70) good70 rfl rfl rfl (by kernel_rfl) Try.func70 (c := bodyOf Try.f70) (by kernel_rfl) (by kernel_rfl) (Nat.le_of_eq Try.ntmps70.symm) dec70 enc70 de70 _ ?_
  intro args H q h
  unfold sem70 at h
  split at h
  · rw [← f70_eq]; exact h
  · cases h
/-- A view: what it reads, in blocks that are not its own. -/
def VW (H : Heap) (id : Nat) (s : Option Sl) (l : List UInt8) (a : Nat) : Prop :=
  H[id]? = some (vw s (a : Int) 0) ∧ RS 1 E8 H s l ∧ (∀ sl, s = some sl → l ≠ [] → sl.id ≠ id) ∧ a ≤ l.length ∧ l.length ≤ 1048576
theorem VW.set {H : Heap} {id : Nat} {s : Option Sl} {l : List UInt8} {a : Nat} (h : VW H id s l a) (k : Nat) (hk : k ≤ l.length) : VW (H.set id (vw s (k : Int) 0)) id s l k :=
  ⟨set_get' (lt_of h.1), h.2.1.kp (Kp.set _ _ _) h.2.2.1, h.2.2.1, hk, h.2.2.2.2⟩
theorem hasI_nat {L a : Nat} {n : Int} (h : hasI L (a : Int) n = true) : ∃ k : Nat, n = (k : Int) ∧ a + k ≤ L := by
  simp only [hasI, Bool.and_eq_true, decide_eq_true_eq] at h
  exact ⟨n.toNat, by omega, by omega⟩
theorem f70_err (id : Nat) (s : Option Sl) (a e w : Int) (H : Heap) (h : H[id]? = some (vw s a e)) (he : e ≠ 0) : f70 (some (id, 0)) w H = some (0, H) := by
  have g : (e == 0) = false := by simp [he]
  rw [q70]
  simp only [nsome, ct, cf, bs, az, za, get_of h, rg2, tInt, g, Bool.not_false, f82_err id s a e w H h he]
theorem f70_arg (id : Nat) (s : Option Sl) (a w : Int) (H : Heap) (h : H[id]? = some (vw s a 0)) (hw : bits_Is w = false) : f70 (some (id, 0)) w H = some (0, H.set id (vw s a 2)) := by
  have g : ((0 : Int) == 0) = true := by decide
  rw [q70]
  simp only [nsome, ct, bs, az, za, get_of h, rg2, tInt, g, Bool.not_false, hw, vput2 h, f82_err id s a 2 w _ (set_get' (lt_of h)) (by decide)]
theorem f70_no (id : Nat) (s : Option Sl) (a w : Int) (H : Heap) (h : H[id]? = some (vw s a 0)) (hw : bits_Is w = true) (hh : rope_store_has s a w = false) : f70 (some (id, 0)) w H = some (0, H.set id (vw s a 7)) := by
  have g : ((0 : Int) == 0) = true := by decide
  rw [q70]
  simp only [nsome, ct, cf, bs, az, za, get_of h, rg2, tInt, g, Bool.not_false, hw, Bool.not_true, f82_no id s a w H h hh]
theorem f70_yes (id : Nat) (s : Option Sl) (l : List UInt8) (a w : Nat) (H : Heap) (h : VW H id s l a) (hw : bits_Is (w : Int) = true) (hh : a + w ≤ l.length) :
    f70 (some (id, 0)) (w : Int) H = some (((numB ((l.drop a).take w) : Nat) : Int), H.set id (vw s ((a + w : Nat) : Int) 0)) := by
  have g : ((0 : Int) == 0) = true := by decide
  have hl := h.2.2.2.2
  have gh : rope_store_has s (a : Int) (w : Int) = true := by rw [has_eq h.2.1 (by omega)]; simp [hasI]; omega
  have g3 : IntKind.i64.wrap ((a : Int) + (w : Int)) = ((a + w : Nat) : Int) := by rw [wrap_i64 (by omega) (by omega)]; omega
  have h2 := h.set (a + w) hh
  have h8 : w ≤ 8 := by
    have : (w : Int) = 1 ∨ (w : Int) = 2 ∨ (w : Int) = 4 ∨ (w : Int) = 8 := by simpa [bits_Is] using hw
    omega
  have h39 := f82_yes id s a w H h.1 gh
  rw [g3] at h39
  rw [q70]
  simp only [nsome, ct, cf, bs, az, za, get_of h.1, get_of h2.1, rg0, rg2, tInt, tSlice, g, Bool.not_false, hw, Bool.not_true, h39, f83_spec s l (by omega) a w h8 hh _ h2.2.1]
/-! 71: rope_View_Skip -/
noncomputable def CC71 : Ctx := { P := Try.prog, own := [], fns := [(82, specF enc82 (sem82 f82))], nt := 7, nums := [], live := [] }
theorem good71 : Callees Try.prog CC71.fns [] CC71.nums := (Callees.nil Try.prog).cons ok82 (specF_nat _ _)
theorem hN71 : CtxNat CC71 := good71.ctx rfl rfl rfl
def enc71 (r : Unit) : List TV := []
def dec71 : AV → Option (Unit)
  | .tup [] => some ()
  | _ => none
theorem de71 (v : AV) (r : Unit) (h : dec71 v = some r) : v = oneOf (enc71 r) := by
  unfold dec71 at h
  split at h
  · cases h; rfl
  · cases h
abbrev Ty71 := (Option (Nat × Nat)) → Int → Heap → Option (Unit × Heap)
def sem71 (f : Ty71) : List TV → Heap → Option (Unit × Heap)
  | [.c (Cell.ptr v), .c (Cell.int .i64 n)], H => f v n H
  | _, _ => none
noncomputable def f71 : Ty71 := hide fun v n H => fnA CC71 Try.f71.results.toList (bodyOf Try.f71) _ [.c (Cell.ptr v), .c (Cell.int .i64 n)] H (decF dec71)
theorem f71_eq (v : (Option (Nat × Nat))) (n : Int) (H : Heap) : f71 v n H = fnA CC71 Try.f71.results.toList (bodyOf Try.f71) _ [.c (Cell.ptr v), .c (Cell.int .i64 n)] H (decF dec71) := by unfold f71; rw [hide_eq]
theorem f71_run (v : (Option (Nat × Nat))) (n : Int) (H : Heap) : f71 v n H = fnL CC71 (lpD CC71) Try.f71.results.toList (bodyOf Try.f71) [.c (Cell.ptr v), .c (Cell.int .i64 n)] H (decF dec71) := (f71_eq ..).trans (fnA_lpD hN71 ..)
theorem q71 : ∀ (v : Option (Nat × Nat)) (n : Int) (H : Heap), f71 v n H = (f82 v n H).bind fun v0 => some ((), v0.snd) := by intros; exact (f71_run ..).trans (by kernel_rfl)
theorem ok71 : FnOk Try.prog 71 (specF enc71 (sem71 f71)) := by
  refine spec_ok (C := CC71) good71 rfl rfl rfl (by kernel_rfl) Try.func71 (c := bodyOf Try.f71) (by kernel_rfl) (by kernel_rfl) (Nat.le_of_eq Try.ntmps71.symm) dec71 enc71 de71 _ ?_
  intro args H q h
  unfold sem71 at h
  split at h
  · rw [← f71_eq]; exact h
  · cases h
/-! 78: R2_Bytes -/
noncomputable def CC78 : Ctx := { P := Try.prog, own := [], fns := [], nt := 21, nums := [], live := [(3, ⟨[0, 1, 5, 6], [], [5], []⟩)] }
theorem good78 : Callees Try.prog CC78.fns [] CC78.nums := Callees.nil Try.prog
theorem hN78 : CtxNat CC78 := good78.ctx rfl rfl rfl
def enc78 (r : (Option Sl)) : List TV := [.c (Cell.slice (r))]
def dec78 : AV → Option ((Option Sl))
  | .c (Cell.slice q0) => some (q0)
  | _ => none
theorem de78 (v : AV) (r : (Option Sl)) (h : dec78 v = some r) : v = oneOf (enc78 r) := by
  unfold dec78 at h
  split at h
  · cases h; rfl
  · cases h
abbrev Ty78 := Int → Int → Heap → Option ((Option Sl) × Heap)
def sem78 (f : Ty78) : List TV → Heap → Option ((Option Sl) × Heap)
  | [.c (Cell.int .i64 w), .c (Cell.int .u64 v)], H => f w v H
  | _, _ => none
noncomputable def f78 : Ty78 := hide fun w v H => fnA CC78 Try.f78.results.toList (bodyOf Try.f78) _ [.c (Cell.int .i64 w), .c (Cell.int .u64 v)] H (decF dec78)
theorem f78_eq (w : Int) (v : Int) (H : Heap) : f78 w v H = fnA CC78 Try.f78.results.toList (bodyOf Try.f78) _ [.c (Cell.int .i64 w), .c (Cell.int .u64 v)] H (decF dec78) := by unfold f78; rw [hide_eq]
theorem f78_run (w : Int) (v : Int) (H : Heap) : f78 w v H = fnL CC78 (lpD CC78) Try.f78.results.toList (bodyOf Try.f78) [.c (Cell.int .i64 w), .c (Cell.int .u64 v)] H (decF dec78) := (f78_eq ..).trans (fnA_lpD hN78 ..)
def S78_3 (t0 : Int) (t1 : Int) (t5 : (Option Sl)) (t6 : Int) (H : Heap) : St := ⟨[(0, .c (Cell.int .i64 t0)), (1, .c (Cell.int .u64 t1)), (5, .c (Cell.slice t5)), (6, .c (Cell.int .i64 t6))], [], H⟩
noncomputable def D78_3 (n : Nat) (t0 : Int) (t1 : Int) (t5 : (Option Sl)) (t6 : Int) (H : Heap) : Option (AExit × St) := loopN (exec CC78 (Code.l (Code.l (Code.r (Code.l (Code.r (Code.r (bodyOf Try.f78)))))))) (keepOf CC78.live (Code.l (Code.l (Code.r (Code.l (Code.r (Code.r (bodyOf Try.f78)))))))) n (S78_3 t0 t1 t5 t6 H) retD
noncomputable def LL78_3 (t0 : Int) (t1 : Int) (t5 : (Option Sl)) (t6 : Int) (H : Heap) : Option (AExit × St) := loopsD CC78 (Code.l (Code.l (Code.r (Code.l (Code.r (Code.r (bodyOf Try.f78))))))) (S78_3 t0 t1 t5 t6 H)
theorem LL78_3_of (m : Nat) (hm : m < 18446744073709551616) (t0 : Int) (t1 : Int) (t5 : (Option Sl)) (t6 : Int) (H : Heap) : ∃ n, LL78_3 t0 t1 t5 t6 H = D78_3 (n + m + 1) t0 t1 t5 t6 H := loopsD_of _ _ _ m hm
def X78_3 (x0 : Option Sl) (H : Heap) : St := { env := [(5, AV.c (Cell.slice x0))], loc := [], heap := H }
noncomputable def J78_3 : AExit × St → Option (Option Sl × Heap) := fun p => blockK 0 (seqK (execL CC78 (lpD CC78) (Code.r (Code.r (Code.r (bodyOf Try.f78))))) (retA CC78 [ResultVar.tmp 4] (decF dec78))) p.fst p.snd
theorem D78_3_s : ∀ (n : Nat) (t0 t1 : Int) (t5 : Option Sl) (t6 : Int) (H : Heap), D78_3 (n + 1) t0 t1 t5 t6 H = bif decide (t6 < t0) then ((H ++ [Blk.row [Cell.int IntKind.u8 (IntKind.u8.wrap (t1.tmod 256))] false]).append 1 1 t5 (some { id := List.length H, off := 0, len := 1, cap := 1, esz := 1 })).bind fun v0 => D78_3 n t0 (IntKind.u64.wrap (t1.tdiv 256)) v0.fst (IntKind.i64.wrap (t6 + 1)) v0.snd else some (AExit.exit 0, X78_3 t5 H) := by intros; exact (loopN_stepD hN78 _ _ _ _).trans (by kernel_rfl)
theorem q78 : ∀ (w v : Int) (H : Heap), f78 w v H = (LL78_3 w v none 0 H).bind J78_3 := by intros; exact (f78_run ..).trans (by kernel_rfl)
theorem J78_3_0 : ∀ (x0 : Option Sl) (H : Heap), J78_3 (AExit.exit 0, X78_3 x0 H) = some (x0, H) := by intros; kernel_rfl
theorem ok78 : FnOk Try.prog 78 (specF enc78 (sem78 f78)) := by
  refine spec_ok (C := CC78) good78 rfl rfl rfl (by kernel_rfl) Try.func78 (c := bodyOf Try.f78) (by kernel_rfl) (by kernel_rfl) (Nat.le_of_eq Try.ntmps78.symm) dec78 enc78 de78 _ ?_
  intro args H q h
  unfold sem78 at h
  split at h
  · rw [← f78_eq]; exact h
  · cases h
/-! 81: rope_Rope_At -/
noncomputable def CC81 : Ctx := { P := Try.prog, own := [], fns := [(74, F74), (77, F77), (83, specF enc83 (sem83 f83))], nt := 31, nums := [74, 77], live := [] }
theorem good81 : Callees Try.prog CC81.fns [] CC81.nums := (((Callees.nil Try.prog).cons ok83 (specF_nat _ _)).cons_num ok77 F77_num).cons_num ok74 F74_num
theorem hN81 : CtxNat CC81 := good81.ctx rfl rfl rfl
def enc81 (r : Int × Int) : List TV := [.c (Cell.int .u64 (r.1)), .c (Cell.int .i64 (r.2))]
def dec81 : AV → Option (Int × Int)
  | .tup [.c (Cell.int .u64 q0), .c (Cell.int .i64 q1)] => some (q0, q1)
  | _ => none
theorem de81 (v : AV) (r : Int × Int) (h : dec81 v = some r) : v = oneOf (enc81 r) := by
  unfold dec81 at h
  split at h
  · cases h; rfl
  · cases h
abbrev Ty81 := (Option (Nat × Nat)) → Int → Int → Heap → Option ((Int × Int) × Heap)
def sem81 (f : Ty81) : List TV → Heap → Option ((Int × Int) × Heap)
  | [.c (Cell.ptr r), .c (Cell.int .i64 x1), .c (Cell.int .i64 w)], H => f r x1 w H
  | _, _ => none
noncomputable def f81 : Ty81 := hide fun r x1 w H => fnA CC81 Try.f81.results.toList (bodyOf Try.f81) _ [.c (Cell.ptr r), .c (Cell.int .i64 x1), .c (Cell.int .i64 w)] H (decF dec81)
theorem f81_eq (r : (Option (Nat × Nat))) (x1 : Int) (w : Int) (H : Heap) : f81 r x1 w H = fnA CC81 Try.f81.results.toList (bodyOf Try.f81) _ [.c (Cell.ptr r), .c (Cell.int .i64 x1), .c (Cell.int .i64 w)] H (decF dec81) := by unfold f81; rw [hide_eq]
theorem f81_run (r : (Option (Nat × Nat))) (x1 : Int) (w : Int) (H : Heap) : f81 r x1 w H = fnL CC81 (lpD CC81) Try.f81.results.toList (bodyOf Try.f81) [.c (Cell.ptr r), .c (Cell.int .i64 x1), .c (Cell.int .i64 w)] H (decF dec81) := (f81_eq ..).trans (fnA_lpD hN81 ..)
theorem q81 : ∀ (r : Option (Nat × Nat)) (x1 w : Int) (H : Heap), f81 r x1 w H = bif r.isNone then some ((0, 1), H) else bif !bits_Is w then some ((0, 2), H) else r.bind fun v6 => (H.get v6.fst (v6.snd + 0)).bind fun v5 => v5.toSlice.bind fun v4 => bif !rope_store_has v4 x1 w then some ((0, 7), H) else r.bind fun v3 => (H.get v3.fst (v3.snd + 0)).bind fun v2 => v2.toSlice.bind fun v1 => (f83 v1 x1 w H).bind fun v0 => some ((v0.fst, 0), v0.snd) := by intros; exact (f81_run ..).trans (by kernel_rfl)
theorem ok81 : FnOk Try.prog 81 (specF enc81 (sem81 f81)) := by
  refine spec_ok (C := CC81) good81 rfl rfl rfl (by kernel_rfl) Try.func81 (c := bodyOf Try.f81) (by kernel_rfl) (by kernel_rfl) (Nat.le_of_eq Try.ntmps81.symm) dec81 enc81 de81 _ ?_
  intro args H q h
  unfold sem81 at h
  split at h
  · rw [← f81_eq]; exact h
  · cases h
