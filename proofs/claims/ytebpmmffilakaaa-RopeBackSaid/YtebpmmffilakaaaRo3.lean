/- RopeBack: the law's walk. -/
import Derived.Test.YtebpmmffilakaaaRo2
namespace Go.Proofs.Ytebpmmffilakaaa
open Go Go.Proofs.Ytebpmmffilakaaa.Ab
set_option linter.unusedVariables false
set_option maxRecDepth 100000
noncomputable section
/-! 32: rope_Rope_Set -/
noncomputable def C32 (f35 : Ty35) : Ctx := { P := Try.prog, own := [], fns := [(33, F33), (36, F36), (35, specF enc35 (sem35 f35))], nt := 35, nums := [33, 36], live := [] }
noncomputable abbrev CC32 : Ctx := C32 f35
theorem good32 : Callees Try.prog CC32.fns [] CC32.nums := (((Callees.nil Try.prog).cons ok35 (specF_nat _ _)).cons_num ok36 F36_num).cons_num ok33 F33_num
noncomputable def F32 : FnSem := natF (runS CC32 Try.f32.results.toList (bodyOf Try.f32))
theorem ok32 : FnOk Try.prog 32 F32 := own_ok (C := CC32) good32 rfl rfl rfl (by kernel_rfl) Try.func32 (c := bodyOf Try.f32) (by kernel_rfl) (by kernel_rfl) (Nat.le_of_eq Try.ntmps32.symm)
/-! 29: rope_Rope_Bytes -/
noncomputable def C29 (f37 : Ty37) : Ctx := { P := Try.prog, own := [], fns := [(37, specF enc37 (sem37 f37))], nt := 11, nums := [], live := [] }
noncomputable abbrev CC29 : Ctx := C29 f37
theorem good29 : Callees Try.prog CC29.fns [] CC29.nums := (Callees.nil Try.prog).cons ok37 (specF_nat _ _)
noncomputable def F29 : FnSem := natF (runS CC29 Try.f29.results.toList (bodyOf Try.f29))
theorem ok29 : FnOk Try.prog 29 F29 := own_ok (C := CC29) good29 rfl rfl rfl (by kernel_rfl) Try.func29 (c := bodyOf Try.f29) (by kernel_rfl) (by kernel_rfl) (Nat.le_of_eq Try.ntmps29.symm)
/-! 9: L02_awake -/
noncomputable def C9 (f10 : Ty10) (f11 : Ty11) (f16 : Ty16) : Ctx := { P := Try.prog, own := [], fns := [(16, specF enc16 (sem16 f16)), (11, specF enc11 (sem11 f11)), (10, specF enc10 (sem10 f10)), (29, F29), (32, F32)], nt := 48, nums := [], live := [] }
noncomputable abbrev CC9 : Ctx := C9 f10 f11 f16
theorem good9 : Callees Try.prog CC9.fns [] CC9.nums := (((((Callees.nil Try.prog).cons ok32 (natF_nat _)).cons ok29 (natF_nat _)).cons ok10 (specF_nat _ _)).cons ok11 (specF_nat _ _)).cons ok16 (specF_nat _ _)
abbrev F9 : FnSem := trueF
theorem F9_num : FnNum F9 := trueF_num
theorem ok9 : FnOk Try.prog 9 F9 := closed_ok (C := CC9) good9 rfl rfl rfl (by kernel_rfl) Try.func9 (c := bodyOf Try.f9) (by kernel_rfl) (by kernel_rfl) (Nat.le_of_eq Try.ntmps9.symm) (by kernel_rfl)
/-! 3: L02_RopeBack -/
noncomputable def C3 (f10 : Ty10) (f11 : Ty11) (f12 : Ty12) (f13 : Ty13) (f15 : Ty15) (f14 : Ty14) (f16 : Ty16) (f17 : Ty17) (f18 : Ty18) (f19 : Ty19) : Ctx := { P := Try.prog, own := [], fns := [(8, F8), (9, F9), (19, specF enc19 (sem19 f19)), (18, specF enc18 (sem18 f18)), (17, specF enc17 (sem17 f17)), (16, specF enc16 (sem16 f16)), (14, specF enc14 (sem14 f14)), (15, specF enc15 (sem15 f15)), (13, specF enc13 (sem13 f13)), (12, specF enc12 (sem12 f12)), (11, specF enc11 (sem11 f11)), (10, specF enc10 (sem10 f10))], nt := 84, nums := [8, 9], live := [(10, ⟨[1, 5, 6, 38, 39, 40], [], [4, 6], []⟩)] }
noncomputable abbrev CC3 : Ctx := C3 f10 f11 f12 f13 f15 f14 f16 f17 f18 f19
theorem good3 : Callees Try.prog CC3.fns [] CC3.nums := ((((((((((((Callees.nil Try.prog).cons ok10 (specF_nat _ _)).cons ok11 (specF_nat _ _)).cons ok12 (specF_nat _ _)).cons ok13 (specF_nat _ _)).cons ok15 (specF_nat _ _)).cons ok14 (specF_nat _ _)).cons ok16 (specF_nat _ _)).cons ok17 (specF_nat _ _)).cons ok18 (specF_nat _ _)).cons ok19 (specF_nat _ _)).cons_num ok9 F9_num).cons_num ok8 F8_num
theorem e3 : ∀ (R : Type) (f10 : Ty10) (f11 : Ty11) (f12 : Ty12) (f13 : Ty13) (f15 : Ty15) (f14 : Ty14) (f16 : Ty16) (f17 : Ty17) (f18 : Ty18) (f19 : Ty19) (l : Option Sl) (w : Int) (H : Heap) (K : AV → Heap → Option R) (lp : Code → St → (AExit → St → Option R) → Option R), fnL (C3 f10 f11 f12 f13 f15 f14 f16 f17 f18 f19) lp Try.f3.results.toList (bodyOf Try.f3) [TV.c (Cell.slice l), TV.c (Cell.int IntKind.i64 w)] H K = bif decide (slen l > 30) then (Sl.sub l 0 (some 30)).bind fun v4 => bif esOk l 1 then bif !R2_Is w then K (AV.c (Cell.bool true)) H else (f10 none H).bind fun v3 => (f11 v3.fst w v4 v3.snd).bind fun v2 => bif v2.fst != 0 then K (AV.c (Cell.bool false)) v2.snd else (f12 v3.fst v2.snd).bind fun v1 => bif v1.fst != IntKind.i64.wrap (w * slen v4) then K (AV.c (Cell.bool false)) v1.snd else (f13 v3.fst 0 v1.snd).bind fun v0 => lp (Code.l (Code.l (Code.r (Code.l (Code.r (Code.r (Code.r (Code.r (Code.r (Code.r (bodyOf Try.f3))))))))))) { env := [(1, AV.c (Cell.int IntKind.i64 w)), (5, AV.c (Cell.ptr v3.fst)), (6, AV.c (Cell.ptr v0.fst)), (38, AV.c (Cell.slice v4)), (39, AV.c (Cell.int IntKind.i64 (slen v4))), (40, AV.c (Cell.int IntKind.i64 0))], loc := [], heap := v0.snd } (blockK 0 (seqK (execL (C3 f10 f11 f12 f13 f15 f14 f16 f17 f18 f19) lp (Code.r (Code.r (Code.r (Code.r (Code.r (Code.r (Code.r (bodyOf Try.f3))))))))) (retA (C3 f10 f11 f12 f13 f15 f14 f16 f17 f18 f19) [ResultVar.tmp 4] K))) else none else bif !R2_Is w then K (AV.c (Cell.bool true)) H else (f10 none H).bind fun v8 => (f11 v8.fst w l v8.snd).bind fun v7 => bif v7.fst != 0 then K (AV.c (Cell.bool false)) v7.snd else (f12 v8.fst v7.snd).bind fun v6 => bif v6.fst != IntKind.i64.wrap (w * slen l) then K (AV.c (Cell.bool false)) v6.snd else (f13 v8.fst 0 v6.snd).bind fun v5 => lp (Code.l (Code.l (Code.r (Code.l (Code.r (Code.r (Code.r (Code.r (Code.r (Code.r (bodyOf Try.f3))))))))))) { env := [(1, AV.c (Cell.int IntKind.i64 w)), (5, AV.c (Cell.ptr v8.fst)), (6, AV.c (Cell.ptr v5.fst)), (38, AV.c (Cell.slice l)), (39, AV.c (Cell.int IntKind.i64 (slen l))), (40, AV.c (Cell.int IntKind.i64 0))], loc := [], heap := v5.snd } (blockK 0 (seqK (execL (C3 f10 f11 f12 f13 f15 f14 f16 f17 f18 f19) lp (Code.r (Code.r (Code.r (Code.r (Code.r (Code.r (Code.r (bodyOf Try.f3))))))))) (retA (C3 f10 f11 f12 f13 f15 f14 f16 f17 f18 f19) [ResultVar.tmp 4] K))) := by intros; kernel_rfl
theorem b3_10 : ∀ (R : Type) (f10 : Ty10) (f11 : Ty11) (f12 : Ty12) (f13 : Ty13) (f15 : Ty15) (f14 : Ty14) (f16 : Ty16) (f17 : Ty17) (f18 : Ty18) (f19 : Ty19) (t1 : Int) (t5 t6 : Option (Nat × Nat)) (t38 : Option Sl) (t39 t40 : Int) (H : Heap) (K : AExit → St → Option R) (f : St → (AExit → St → Option R) → Option R) (lp : Code → St → (AExit → St → Option R) → Option R), execL (C3 f10 f11 f12 f13 f15 f14 f16 f17 f18 f19) lp (Code.l (Code.l (Code.r (Code.l (Code.r (Code.r (Code.r (Code.r (Code.r (Code.r (bodyOf Try.f3))))))))))) { env := [(1, AV.c (Cell.int IntKind.i64 t1)), (5, AV.c (Cell.ptr t5)), (6, AV.c (Cell.ptr t6)), (38, AV.c (Cell.slice t38)), (39, AV.c (Cell.int IntKind.i64 t39)), (40, AV.c (Cell.int IntKind.i64 t40))], loc := [], heap := H } (loopK (keepOf (C3 f10 f11 f12 f13 f15 f14 f16 f17 f18 f19).live (Code.l (Code.l (Code.r (Code.l (Code.r (Code.r (Code.r (Code.r (Code.r (Code.r (bodyOf Try.f3)))))))))))) f K) = bif decide (t40 < t39) then t38.bind fun v6 => bif inb t40 v6.len && v6.esz == 1 then (H.get v6.id (v6.off + t40.toNat * 1)).bind fun v5 => (Cell.toInt IntKind.u64 v5).bind fun v4 => (f15 t1 v4 H).bind fun v3 => (f14 v3.fst v3.snd).bind fun v2 => (f16 t5 (IntKind.i64.wrap (t1 * t40)) t1 v2.snd).bind fun v1 => bif v1.fst.snd != 0 then K AExit.ret { env := [(4, AV.c (Cell.bool false)), (6, AV.c (Cell.ptr t6))], loc := [], heap := v1.snd } else bif v1.fst.fst != v2.fst then K AExit.ret { env := [(4, AV.c (Cell.bool false)), (6, AV.c (Cell.ptr t6))], loc := [], heap := v1.snd } else (f17 t6 t1 v1.snd).bind fun v0 => bif v0.fst != v2.fst then K AExit.ret { env := [(4, AV.c (Cell.bool false)), (6, AV.c (Cell.ptr t6))], loc := [], heap := v0.snd } else f { env := [(1, AV.c (Cell.int IntKind.i64 t1)), (5, AV.c (Cell.ptr t5)), (6, AV.c (Cell.ptr t6)), (38, AV.c (Cell.slice t38)), (39, AV.c (Cell.int IntKind.i64 t39)), (40, AV.c (Cell.int IntKind.i64 (IntKind.i64.wrap (t40 + 1))))], loc := [], heap := v0.snd } K else none else K (AExit.exit 0) { env := [(6, AV.c (Cell.ptr t6))], loc := [], heap := H } := by intros; kernel_rfl
theorem k3 : ∀ (R : Type) (f10 : Ty10) (f11 : Ty11) (f12 : Ty12) (f13 : Ty13) (f15 : Ty15) (f14 : Ty14) (f16 : Ty16) (f17 : Ty17) (f18 : Ty18) (f19 : Ty19) (p : Option (Nat × Nat)) (H : Heap) (K : AV → Heap → Option R) (lp : Code → St → (AExit → St → Option R) → Option R), blockK 0 (seqK (execL (C3 f10 f11 f12 f13 f15 f14 f16 f17 f18 f19) lp (Code.r (Code.r (Code.r (Code.r (Code.r (Code.r (Code.r (bodyOf Try.f3))))))))) (retA (C3 f10 f11 f12 f13 f15 f14 f16 f17 f18 f19) [ResultVar.tmp 4] K)) (AExit.exit 0) { env := [(6, AV.c (Cell.ptr p))], loc := [], heap := H } = (f18 p H).bind fun v1 => bif v1.fst == 0 then (f19 p v1.snd).bind fun v0 => bif v0.fst == 0 then K (AV.c (Cell.bool true)) v0.snd else K (AV.c (Cell.bool false)) v0.snd else K (AV.c (Cell.bool false)) v1.snd := by intros; kernel_rfl
theorem RB.grew {H H' : Heap} {s : Option Sl} {l : List Nat} (h : RB H s l) (hg : Grew H H') : RB H' s l := by
  cases s with
  | none => exact h
  | some sl =>
    obtain ⟨h1, h2, h3⟩ := h
    refine ⟨h1, h2, fun i b e => ?_⟩
    have := h3 i b e
    obtain ⟨cs, ro, h4, h5⟩ := get_row this
    rw [get_of (by rw [hg.same _ (List.getElem?_eq_some_iff.1 h4).1]; exact h4)]
    exact h5
theorem Grew.ro {H H' : Heap} (h : Grew H H') : RoKept H H' := fun i row e => by rw [h.same i (List.getElem?_eq_some_iff.1 e).1]; exact e
theorem flat_slice (w : Nat) : ∀ (vs : List Nat) (i v : Nat), vs[i]? = some v → ((vs.flatMap (leN w)).drop (w * i)).take w = leN w v ∧ w * i + w ≤ (vs.flatMap (leN w)).length
  | [], i, v, h => by simp at h
  | u :: vs, 0, v, h => by
    simp at h; subst h
    rw [List.flatMap_cons, Nat.mul_zero, List.drop_zero]
    constructor
    · rw [List.take_append_of_le_length (by rw [leN_length]; omega), List.take_of_length_le (by rw [leN_length]; omega)]
    · simp [leN_length]
  | u :: vs, i + 1, v, h => by
    obtain ⟨h1, h2⟩ := flat_slice w vs i v (by simpa using h)
    rw [List.flatMap_cons, Nat.mul_succ, Nat.add_comm (w * i) w]
    have e : (leN w u ++ vs.flatMap (leN w)).drop (w + w * i) = (vs.flatMap (leN w)).drop (w * i) := by
      rw [← List.drop_drop]; congr 1; exact List.drop_left' (leN_length w u)
    rw [e]
    refine ⟨h1, ?_⟩
    rw [List.length_append, leN_length]; omega
theorem flat_lt (w : Nat) (vs : List Nat) : ∀ b ∈ vs.flatMap (leN w), b < 256 := by
  intro b hb
  obtain ⟨v, _, h⟩ := List.mem_flatMap.1 hb
  exact leN_lt w v b h
theorem flat_len (w : Nat) : ∀ vs : List Nat, (vs.flatMap (leN w)).length = w * vs.length
  | [] => by simp
  | v :: vs => by rw [List.flatMap_cons, List.length_append, leN_length, flat_len w vs, List.length_cons, Nat.mul_succ]; omega
structure Inv3 (H : Heap) (idr idv : Nat) (L : List Nat) (a : Nat) : Prop where
  ne : idr ≠ idv
  rope : ∃ s, H[idr]? = some (Blk.row [.slice s] false) ∧ RB H s L ∧ ∀ sl, s = some sl → sl.id ≠ idv
  view : ∃ s, H[idv]? = some (Blk.row [.slice s, .int .i64 (a : Int), .int .i64 0] false) ∧ RB H s L ∧ ∀ sl, s = some sl → sl.id ≠ idv
theorem loop3 (R : Type) (vs : List Nat) (w : Nat) (hw : bits_Is (w : Int) = true) (hvs : vs.length ≤ 30) (hv64 : ∀ v ∈ vs, v < 18446744073709551616) (idr idv : Nat) (x : Option Sl) (K : AExit → St → Option R) : ∀ (m n i : Nat) (H : Heap), i + m = vs.length →
    Inv3 H idr idv (vs.flatMap (leN w)) (w * i) → RU H x vs →
    ∃ H', loopN (exec CC3 (Code.l (Code.l (Code.r (Code.l (Code.r (Code.r (Code.r (Code.r (Code.r (Code.r (bodyOf Try.f3)))))))))))) (keepOf CC3.live (Code.l (Code.l (Code.r (Code.l (Code.r (Code.r (Code.r (Code.r (Code.r (Code.r (bodyOf Try.f3)))))))))))) (n + m + 1) { env := [(1, AV.c (Cell.int IntKind.i64 (w : Int))), (5, AV.c (Cell.ptr (some (idr, 0)))), (6, AV.c (Cell.ptr (some (idv, 0)))), (38, AV.c (Cell.slice x)), (39, AV.c (Cell.int IntKind.i64 (vs.length : Int))), (40, AV.c (Cell.int IntKind.i64 (i : Int)))], loc := [], heap := H } K
      = K (AExit.exit 0) { env := [(6, AV.c (Cell.ptr (some (idv, 0))))], loc := [], heap := H' } ∧ Inv3 H' idr idv (vs.flatMap (leN w)) (w * vs.length)
  | 0, n, i, H, hi, hI, hx => by
    refine ⟨H, ?_, by rw [show vs.length = i by omega]; exact hI⟩
    have g : decide ((i : Int) < (vs.length : Int)) = false := by simp; omega
    rw [loopN_step, b3_10, g, cf]
  | m + 1, n, i, H, hi, hI, hx => by
    have h8 : 0 < w ∧ w ≤ 8 := by rcases is_w hw with h | h | h | h <;> omega
    have hil : i < vs.length := by omega
    have hvi : vs[i]? = some vs[i] := List.getElem?_eq_getElem hil
    have hne : vs ≠ [] := by rintro rfl; simp at hil
    have g : decide ((i : Int) < (vs.length : Int)) = true := by simp; omega
    have g3 : IntKind.i64.wrap ((i : Int) + 1) = ((i + 1 : Nat) : Int) := by rw [wrap_i64 (by omega) (by omega)]; omega
    have hwi : w * i ≤ 8 * 30 := Nat.mul_le_mul h8.2 (by omega)
    have hLl : (vs.flatMap (leN w)).length ≤ 8 * 30 := by rw [flat_len]; exact Nat.mul_le_mul h8.2 hvs
    have gm : IntKind.i64.wrap ((w : Int) * (i : Int)) = ((w * i : Nat) : Int) := by
      have e : (w : Int) * (i : Int) = ((w * i : Nat) : Int) := by simp
      rw [e, wrap_i64 (by omega) (by omega)]
    have hx0 := hx
    cases x with
    | none => exact absurd hx hne
    | some sl =>
      obtain ⟨x1, x2, x3⟩ := hx
      obtain ⟨row, x4, x5⟩ := x3 hne
      have g2 : (inb (i : Int) sl.len && sl.esz == 1) = true := by rw [x2, x1]; simp [inb]; omega
      have g4 : H.get sl.id (sl.off + (i : Int).toNat * 1) = some (.int .u64 ((vs[i] : Nat) : Int)) := by
        rw [Int.toNat_natCast, Nat.mul_one, get_of x4]; exact x5 i _ hvi
      obtain ⟨sb, H1, p1, p2, p3, p4⟩ := f15_spec w vs[i] h8.2 (hv64 _ (List.getElem_mem hil)) H
      have q1 := f14_spec sb (leN w vs[i]) (leN_lt w _) (by rw [leN_length]; exact h8.2) H1 p2.rb
      obtain ⟨sr, r1, r2, r3⟩ := hI.rope
      obtain ⟨sv, v1, v2, v3⟩ := hI.view
      obtain ⟨fs1, fs2⟩ := flat_slice w vs i vs[i] hvi
      have hrl := (List.getElem?_eq_some_iff.1 r1).1
      have hvl := (List.getElem?_eq_some_iff.1 v1).1
      have q2 := f16_spec idr sr (vs.flatMap (leN w)) (flat_lt w vs) (by omega) (w * i) w hw fs2 H1 (by rw [p3.same _ hrl]; exact r1) (r2.grew p3)
      have q3 := f17_spec idv sv (vs.flatMap (leN w)) (flat_lt w vs) (by omega) (w * i) w hw fs2 H1 (by rw [p3.same _ hvl]; exact v1) (v2.grew p3) v3
      rw [fs1] at q2 q3
      have hvl1 : idv < H1.length := Nat.lt_of_lt_of_le hvl p3.len
      have hI' : Inv3 (H1.set idv (.row [.slice sv, .int .i64 ((w * i + w : Nat) : Int), .int .i64 0] false)) idr idv (vs.flatMap (leN w)) (w * (i + 1)) := by
        refine ⟨hI.ne, ⟨sr, ?_, (r2.grew p3).stays fun sl e _ => ?_, r3⟩, ⟨sv, set_get' hvl1, (v2.grew p3).stays fun sl e _ => ?_, v3⟩⟩
        · rw [List.getElem?_set_ne (fun he => hI.ne he.symm), p3.same _ hrl]; exact r1
        · rw [List.getElem?_set_ne (fun he => r3 sl e he.symm)]
        · rw [List.getElem?_set_ne (fun he => v3 sl e he.symm)]
      have hx' : RU (H1.set idv (.row [.slice sv, .int .i64 ((w * i + w : Nat) : Int), .int .i64 0] false)) (some sl) vs := (hx0.kept p3.ro).kept fun j row e => by
        have : j ≠ idv := by
          rintro rfl
          rw [p3.same _ hvl, v1] at e
          cases e
        rw [List.getElem?_set_ne (fun he => this he.symm)]; exact e
      obtain ⟨H', j1, j2⟩ := loop3 R vs w hw hvs hv64 idr idv (some sl) K m n (i + 1) _ (by omega) hI' hx'
      refine ⟨H', ?_, j2⟩
      have z : ((0 : Int) != 0) = false := rfl
      have zz : ∀ y : Int, (y != y) = false := by intro y; simp
      rw [show n + (m + 1) + 1 = (n + m + 1) + 1 by omega, loopN_step, b3_10, g, ct, Option.bind_some, g2, ct, g4, Option.bind_some, tInt, Option.bind_some, g3, gm, p1, Option.bind_some, q1, Option.bind_some, q2, Option.bind_some]
      simp only [z, zz, cf, q3, Option.bind_some]
      exact j1
/-- Numbers in a slice, as a law is handed them. -/
theorem ru_of {H : Heap} {n : Nat} {c : Cell} (h : Sh Try.prog H (n + 2) 22 [c]) : ∃ (x : Option Sl) (vs : List Nat), c = .slice x ∧ RU H x vs ∧ (∀ v ∈ vs, v < 18446744073709551616) ∧ (∀ sl, x = some sl → sl.cap = sl.len) := by
  unfold Sh at h
  rw [Try.underlying22] at h
  simp only at h
  have hc : Try.prog.cellsOf 32 = 1 := by kernel_rfl
  rcases h with h | ⟨s, row, h1, h2, h3, h4, h5, h6, h7, h8⟩
  · cases h
    exact ⟨none, [], rfl, rfl, by simp, fun sl e => (nomatch e)⟩
  · cases h1
    rw [hc] at h5 h7 h8
    simp only [Nat.mul_one] at h7 h8
    have each : ∀ i, i < s.len → ∃ v : Nat, row[i]? = some (.int .u64 (v : Int)) ∧ v < 18446744073709551616 := by
      intro i hi
      have := h8 i hi
      unfold Sh at this
      rw [Try.underlying32] at this
      simp only at this
      obtain ⟨y, e1, e2⟩ := this
      have hw := wf_u64 e2
      obtain ⟨v, rfl⟩ := Int.eq_ofNat_of_zero_le hw.1
      refine ⟨v, ?_, by omega⟩
      have hil : i < row.length := by omega
      rw [List.drop_eq_getElem_cons hil, List.take_succ_cons] at e1
      simp only [List.take_zero, List.cons.injEq, and_true] at e1
      rw [List.getElem?_eq_getElem hil, e1]
    refine ⟨some s, row.map fun c => match c with | .int _ v => v.toNat | _ => 0, rfl, ⟨by simp [h7], h5, fun hne => ⟨row, h6 (by
      rcases Nat.eq_zero_or_pos s.len with h | h
      · exfalso; apply hne; rw [List.eq_nil_of_length_eq_zero (show row.length = 0 by omega)]; rfl
      · exact h), fun i v e => ?_⟩⟩, fun v hv => ?_, fun sl e => (by cases e; exact h3)⟩
    · rw [h2, Nat.zero_add]
      rw [List.getElem?_map, Option.map_eq_some_iff] at e
      obtain ⟨c, hc1, hc2⟩ := e
      have hil := (List.getElem?_eq_some_iff.1 hc1).1
      obtain ⟨u, hu, _⟩ := each i (by omega)
      rw [hc1] at hu
      cases hu
      simp at hc2
      rw [hc1, hc2]
    · obtain ⟨c, hc1, hc2⟩ := List.mem_map.1 hv
      obtain ⟨i, hi⟩ := List.mem_iff_getElem?.1 hc1
      have hil := (List.getElem?_eq_some_iff.1 hi).1
      obtain ⟨u, hu, hu2⟩ := each i (by omega)
      rw [hi] at hu
      cases hu
      simp at hc2
      omega
theorem rope_tail (x : Option Sl) (vs : List Nat) (w : Nat) (hw : bits_Is (w : Int) = true) (hvs : vs.length ≤ 30) (hv64 : ∀ v ∈ vs, v < 18446744073709551616) (H : Heap) (hx : RU H x vs) :
    ∃ (H2 H3 : Heap) (s' : Option Sl) (H' : Heap), f10 none H = some (some (H.length, 0), H2) ∧ f11 (some (H.length, 0)) (w : Int) x H2 = some (0, H3) ∧ f12 (some (H.length, 0)) H3 = some (IntKind.i64.wrap ((w : Int) * slen x), H3) ∧
      f13 (some (H.length, 0)) 0 H3 = some (some (H'.length, 0), H' ++ [.row [.slice s', .int .i64 0, .int .i64 0] false]) ∧ Inv3 (H' ++ [.row [.slice s', .int .i64 0, .int .i64 0] false]) H.length H'.length (vs.flatMap (leN w)) 0 ∧ RU (H' ++ [.row [.slice s', .int .i64 0, .int .i64 0] false]) x vs ∧ slen x = (vs.length : Int) := by
  have h8 : 0 < w ∧ w ≤ 8 := by rcases is_w hw with h | h | h | h <;> omega
  have hsl : slen x = (vs.length : Int) := by
    cases x with
    | none => cases hx; rfl
    | some sl => obtain ⟨x1, _⟩ := hx; simp [slen, x1]
  have hg0 : Grew H (H ++ [.row [.slice none] false]) := Grew.push H _
  have hr0 : RP (H ++ [.row [.slice none] false]) H.length [] := ⟨none, by simp, rfl, fun sl e => (nomatch e)⟩
  obtain ⟨H3, a1, ⟨s, a2, a3, a4⟩, a5⟩ := f11_spec H.length x vs w hw hvs _ hr0 (hx.kept hg0.ro)
  have hLl : (vs.flatMap (leN w)).length = w * vs.length := flat_len w vs
  have hwm : w * vs.length ≤ 8 * 30 := Nat.mul_le_mul h8.2 hvs
  obtain ⟨s', H', b1, b2, b3, b4⟩ := f13_spec H.length s (vs.flatMap (leN w)) H3 a2 a3.rb (by rw [hLl]; unfold most; omega)
  have hrl := (List.getElem?_eq_some_iff.1 a2).1
  have hg1 : Grew H3 (H' ++ [.row [.slice s', .int .i64 0, .int .i64 0] false]) := b3.trans (Grew.push H' _)
  refine ⟨_, H3, s', H', f10_nil H, a1, ?_, b1, ⟨?_, ⟨s, ?_, a3.rb.grew hg1, fun sl e => ?_⟩, ⟨s', by simp, b2.rb.grew (Grew.push H' _), fun sl e => ?_⟩⟩, ((hx.kept hg0.ro).kept a5).kept hg1.ro, hsl⟩
  · rw [f12_spec H.length s H3 a2, a3.rb.slen, hLl, hsl]
    have e : (w : Int) * (vs.length : Int) = ((w * vs.length : Nat) : Int) := by simp
    rw [e, wrap_i64 (by omega) (by omega)]
  · have := b3.len; omega
  · rw [hg1.same _ hrl]; exact a2
  · subst e
    have := a3.lt
    have := b3.len
    omega
  · subst e
    have := b2.lt
    omega
theorem ropeBack_end (x : Option Sl) (vs : List Nat) (w : Nat) (hw : bits_Is (w : Int) = true) (hvs : vs.length ≤ 30) (hv64 : ∀ v ∈ vs, v < 18446744073709551616) (idr idv : Nat) (H : Heap) (hI : Inv3 H idr idv (vs.flatMap (leN w)) 0) (hx : RU H x vs) (K : AExit → St → Option Bool)
    (hK : ∀ H', Inv3 H' idr idv (vs.flatMap (leN w)) (w * vs.length) → K (AExit.exit 0) { env := [(6, AV.c (Cell.ptr (some (idv, 0))))], loc := [], heap := H' } = some true) :
    loops CC3 (Code.l (Code.l (Code.r (Code.l (Code.r (Code.r (Code.r (Code.r (Code.r (Code.r (bodyOf Try.f3))))))))))) { env := [(1, AV.c (Cell.int IntKind.i64 (w : Int))), (5, AV.c (Cell.ptr (some (idr, 0)))), (6, AV.c (Cell.ptr (some (idv, 0)))), (38, AV.c (Cell.slice x)), (39, AV.c (Cell.int IntKind.i64 (vs.length : Int))), (40, AV.c (Cell.int IntKind.i64 0))], loc := [], heap := H } K = some true := by
  obtain ⟨n, hn⟩ := loops_of CC3 (Code.l (Code.l (Code.r (Code.l (Code.r (Code.r (Code.r (Code.r (Code.r (Code.r (bodyOf Try.f3))))))))))) { env := [(1, AV.c (Cell.int IntKind.i64 (w : Int))), (5, AV.c (Cell.ptr (some (idr, 0)))), (6, AV.c (Cell.ptr (some (idv, 0)))), (38, AV.c (Cell.slice x)), (39, AV.c (Cell.int IntKind.i64 (vs.length : Int))), (40, AV.c (Cell.int IntKind.i64 ((0 : Nat) : Int)))], loc := [], heap := H } K vs.length (by omega)
  obtain ⟨H', j1, j2⟩ := loop3 Bool vs w hw hvs hv64 idr idv x K vs.length n 0 H (by omega) hI hx
  exact (show _ = _ from hn).trans (j1.trans (hK H' j2))
