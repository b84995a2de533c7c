/- Layer 2: what RopeBack calls. -/
import Derived.Test.YtebpmmffilakaaaRoH
namespace Go.Proofs.Ytebpmmffilakaaa
open Go Go.Proofs.Ytebpmmffilakaaa.Ab
set_option linter.unusedVariables false
set_option maxRecDepth 100000
noncomputable section
/-- A heap that has only grown. -/
structure Grew (H H' : Heap) : Prop where
  len : H.length ≤ H'.length
  same : ∀ i, i < H.length → H'[i]? = H[i]?
theorem Grew.refl (H : Heap) : Grew H H := ⟨Nat.le_refl _, fun _ _ => rfl⟩
theorem Grew.trans {A B C : Heap} (h : Grew A B) (k : Grew B C) : Grew A C := ⟨Nat.le_trans h.len k.len, fun i hi => by rw [k.same i (Nat.lt_of_lt_of_le hi h.len), h.same i hi]⟩
theorem Grew.push (H : Heap) (b : Blk) : Grew H (H ++ [b]) := ⟨by simp, fun i hi => by rw [List.getElem?_append_left hi]⟩
def Fresh (n : Nat) (s : Option Sl) : Prop := ∀ sl, s = some sl → n ≤ sl.id
theorem Kept.grew {n : Nat} {s : Option Sl} {A H H' : Heap} (h : Kept s H H') (hs : Fresh A.length s) (hg : Grew A H) : Grew A H' :=
  ⟨Nat.le_trans hg.len h.len, fun i hi => by
    rw [h.same i (Nat.lt_of_lt_of_le hi hg.len) (fun sl e he => by have := hs sl e; omega), hg.same i hi]⟩
theorem tSlice (s : Option Sl) : (Cell.slice s).toSlice = some s := by cases s <;> simp [Cell.toSlice]
theorem tInt (k : IntKind) (n : Int) : (Cell.int k n).toInt k = some n := by simp [Cell.toInt]
theorem tPtr (p : Option (Nat × Nat)) : (Cell.ptr p).toPtr = some p := by cases p <;> simp [Cell.toPtr]
theorem row_get0 (a : Cell) (l : List Cell) : (a :: l)[0]? = some a := by simp
theorem row_get1 (a b : Cell) (l : List Cell) : (a :: b :: l)[1]? = some b := by simp
theorem row_get2 (a b c : Cell) (l : List Cell) : (a :: b :: c :: l)[2]? = some c := by simp
theorem RB.slen {H : Heap} {s : Option Sl} {l : List Nat} (h : RB H s l) : slen s = (l.length : Int) := by
  cases s with
  | none => cases h; rfl
  | some sl => obtain ⟨h1, _⟩ := h; simp [Ab.slen, h1]
theorem has_true {H : Heap} {s : Option Sl} {l : List Nat} (h : RB H s l) {a n : Nat} (hm : l.length < 4611686018427387904) (hb : a + n ≤ l.length) : rope_store_has s (a : Int) (n : Int) = true := by
  unfold rope_store_has
  rw [h.slen, wrap_i64 (by omega) (by omega)]
  simp; omega
/-! 8: R2_Is -/
noncomputable def C8 : Ctx := { P := Try.prog, own := [], fns := [], nt := 17, nums := [], live := [] }
noncomputable abbrev CC8 : Ctx := C8
theorem good8 : Callees Try.prog CC8.fns [] CC8.nums := Callees.nil Try.prog
def R2_Is (w : Int) : Bool := bits_Is w
noncomputable def G8 : List TV → Option (List TV)
  | [.c (Cell.int .i64 w)] => some [.c (Cell.bool ((R2_Is w)))]
  | _ => none
noncomputable def F8 : FnSem := numF G8
theorem F8_num : FnNum F8 := numF_num _
theorem e8 : ∀ (R : Type) (w : Int) (H : Heap) (K : AV → Heap → Option R) (lp : Code → St → (AExit → St → Option R) → Option R), fnL C8 lp Try.f8.results.toList (bodyOf Try.f8) [TV.c (Cell.int IntKind.i64 w)] H K = bif w == 1 then K (AV.c (Cell.bool true)) H else bif w == 2 then K (AV.c (Cell.bool true)) H else bif w == 4 then K (AV.c (Cell.bool true)) H else K (AV.c (Cell.bool (w == 8))) H := by intros; kernel_rfl
theorem s8 (R : Type) (w : Int) (H : Heap) (K : AV → Heap → Option R) (lp : Code → St → (AExit → St → Option R) → Option R) : fnL CC8 lp Try.f8.results.toList (bodyOf Try.f8) [.c (Cell.int .i64 w)] H K = K (oneOf [.c (Cell.bool ((R2_Is w)))]) H := by
  rw [e8]
  unfold R2_Is bits_Is
  cases (w == 1) <;> cases (w == 2) <;> cases (w == 4) <;> rfl
theorem ok8 : FnOk Try.prog 8 F8 := by
  refine fn_ok (C := CC8) (good8.env rfl) (good8.ctx rfl rfl rfl) (by kernel_rfl) Try.func8 (c := bodyOf Try.f8) (by kernel_rfl) (by kernel_rfl) (Nat.le_of_eq Try.ntmps8.symm) ?_
  intro R args H K r h
  unfold F8 numF G8 at h
  split at h
  · rw [fnA_eq, s8]; exact h
  · cases h
/-! 10: rope_New -/
noncomputable def C10 : Ctx := { P := Try.prog, own := [], fns := [], nt := 38, nums := [], live := [(3, ⟨[3, 8, 9, 10], [], [3], []⟩)] }
noncomputable abbrev CC10 : Ctx := C10
theorem good10 : Callees Try.prog CC10.fns [] CC10.nums := Callees.nil Try.prog
abbrev Ty10 := (Option Sl) → Heap → Option (((Option (Nat × Nat))) × Heap)
def enc10 (r : (Option (Nat × Nat))) : List TV := [.c (Cell.ptr (r))]
def dec10 : AV → Option ((Option (Nat × Nat)))
  | .c (Cell.ptr q0) => some (q0)
  | _ => none
theorem de10 (v : AV) (r : (Option (Nat × Nat))) (h : dec10 v = some r) : v = oneOf (enc10 r) := by
  unfold dec10 at h
  split at h
  · cases h; rfl
  · cases h
def sem10 (f : Ty10) : List TV → Heap → Option (((Option (Nat × Nat))) × Heap)
  | [.c (Cell.slice parts)], H => f parts H
  | _, _ => none
noncomputable def f10 : Ty10 := fun parts H => fnA CC10 Try.f10.results.toList (bodyOf Try.f10) _ [.c (Cell.slice parts)] H (decF dec10)
theorem e10 : ∀ (R : Type) (parts : Option Sl) (H : Heap) (K : AV → Heap → Option R) (lp : Code → St → (AExit → St → Option R) → Option R), fnL C10 lp Try.f10.results.toList (bodyOf Try.f10) [TV.c (Cell.slice parts)] H K = lp (Code.l (Code.l (Code.r (Code.l (Code.r (Code.r (bodyOf Try.f10))))))) { env := [(3, AV.c (Cell.ptr (some (List.length H, 0)))), (8, AV.c (Cell.slice parts)), (9, AV.c (Cell.int IntKind.i64 (slen parts))), (10, AV.c (Cell.int IntKind.i64 0))], loc := [], heap := H ++ [Blk.row [Cell.slice none] false] } (blockK 0 (seqK (execL C10 lp (Code.r (Code.r (Code.r (bodyOf Try.f10))))) (retA C10 [ResultVar.tmp 2] K))) := by intros; kernel_rfl
theorem b10_3 : ∀ (R : Type) (t3 : Option (Nat × Nat)) (t8 : Option Sl) (t9 t10 : Int) (H : Heap) (K : AExit → St → Option R) (f : St → (AExit → St → Option R) → Option R) (lp : Code → St → (AExit → St → Option R) → Option R), execL C10 lp (Code.l (Code.l (Code.r (Code.l (Code.r (Code.r (bodyOf Try.f10))))))) { env := [(3, AV.c (Cell.ptr t3)), (8, AV.c (Cell.slice t8)), (9, AV.c (Cell.int IntKind.i64 t9)), (10, AV.c (Cell.int IntKind.i64 t10))], loc := [], heap := H } (loopK (keepOf C10.live (Code.l (Code.l (Code.r (Code.l (Code.r (Code.r (bodyOf Try.f10)))))))) f K) = bif decide (t10 < t9) then t8.bind fun v12 => bif inb t10 v12.len && v12.esz == 1 then (H.get v12.id (v12.off + t10.toNat * 1)).bind fun v11 => v11.toSlice.bind fun v10 => t3.bind fun v9 => (H.get v9.fst (v9.snd + 0 + 0)).bind fun v8 => v8.toSlice.bind fun v7 => t3.bind fun v6 => (H.get v6.fst (v6.snd + 0 + 0)).bind fun v5 => v5.toSlice.bind fun v4 => (Sl.sub v10 0 (some (mm Builtin.min (slen v10) (IntKind.i64.wrap (1048576 - slen v4))))).bind fun v3 => bif esOk v10 1 then (H.append 1 1 v7 v3).bind fun v2 => t3.bind fun v1 => (v2.snd.put v1.fst (v1.snd + 0 + 0) [Cell.slice v2.fst]).bind fun v0 => f { env := [(3, AV.c (Cell.ptr t3)), (8, AV.c (Cell.slice t8)), (9, AV.c (Cell.int IntKind.i64 t9)), (10, AV.c (Cell.int IntKind.i64 (IntKind.i64.wrap (t10 + 1))))], loc := [], heap := v0 } K else none else none else K (AExit.exit 0) { env := [(3, AV.c (Cell.ptr t3))], loc := [], heap := H } := by intros; kernel_rfl
theorem ok10 : FnOk Try.prog 10 (specF enc10 (sem10 f10)) := by
  refine spec_ok (C := CC10) good10 rfl rfl rfl (by kernel_rfl) Try.func10 (c := bodyOf Try.f10) (by kernel_rfl) (by kernel_rfl) (Nat.le_of_eq Try.ntmps10.symm) dec10 enc10 de10 _ ?_
  intro args H q h
  unfold sem10 at h
  split at h
  · exact h
  · cases h
theorem f10_nil (H : Heap) : f10 none H = some (some (H.length, 0), H ++ [.row [.slice none] false]) := by
  unfold f10
  rw [fnA_eq, e10]
  obtain ⟨n, hn⟩ := loops_of CC10 (Code.l (Code.l (Code.r (Code.l (Code.r (Code.r (bodyOf Try.f10))))))) { env := [(3, AV.c (Cell.ptr (some (H.length, 0)))), (8, AV.c (Cell.slice none)), (9, AV.c (Cell.int IntKind.i64 (slen none))), (10, AV.c (Cell.int IntKind.i64 0))], loc := [], heap := H ++ [.row [.slice none] false] } (blockK 0 (seqK (execL CC10 (loops CC10) (Code.r (Code.r (Code.r (bodyOf Try.f10))))) (retA CC10 [ResultVar.tmp 2] (decF dec10)))) 0 (by decide)
  refine (show _ = _ from hn).trans ?_
  have g : decide ((0 : Int) < slen none) = false := by decide
  rw [loopN_step, b10_3, g, cf]
  show _ = _
  kernel_rfl
/-! 11: rope_Rope_Num -/
noncomputable def C11 (f35 : Ty35) : Ctx := { P := Try.prog, own := [], fns := [(33, F33), (34, F34), (35, specF enc35 (sem35 f35))], nt := 58, nums := [33, 34], live := [(8, ⟨[0, 1, 35, 36, 37], [], [], []⟩)] }
noncomputable abbrev CC11 : Ctx := C11 f35
theorem good11 : Callees Try.prog CC11.fns [] CC11.nums := (((Callees.nil Try.prog).cons ok35 (specF_nat _ _)).cons_num ok34 F34_num).cons_num ok33 F33_num
abbrev Ty11 := (Option (Nat × Nat)) → Int → (Option Sl) → Heap → Option (Int × Heap)
def enc11 (r : Int) : List TV := [.c (Cell.int .i64 (r))]
def dec11 : AV → Option (Int)
  | .c (Cell.int .i64 q0) => some (q0)
  | _ => none
theorem de11 (v : AV) (r : Int) (h : dec11 v = some r) : v = oneOf (enc11 r) := by
  unfold dec11 at h
  split at h
  · cases h; rfl
  · cases h
def sem11 (f : Ty11) : List TV → Heap → Option (Int × Heap)
  | [.c (Cell.ptr r), .c (Cell.int .i64 w), .c (Cell.slice l)], H => f r w l H
  | _, _ => none
noncomputable def f11 : Ty11 := fun r w l H => fnA CC11 Try.f11.results.toList (bodyOf Try.f11) _ [.c (Cell.ptr r), .c (Cell.int .i64 w), .c (Cell.slice l)] H (decF dec11)
theorem e11 : ∀ (R : Type) (f35 : Ty35) (r : Option (Nat × Nat)) (w : Int) (l : Option Sl) (H : Heap) (K : AV → Heap → Option R) (lp : Code → St → (AExit → St → Option R) → Option R), fnL (C11 f35) lp Try.f11.results.toList (bodyOf Try.f11) [TV.c (Cell.ptr r), TV.c (Cell.int IntKind.i64 w), TV.c (Cell.slice l)] H K = bif bif true then r.isNone else !r.isNone then K (AV.c (Cell.int IntKind.i64 1)) H else bif !bits_Is w then K (AV.c (Cell.int IntKind.i64 2)) H else bif w == 0 then none else bif decide (slen l > IntKind.i64.wrap (Int.tdiv 1048576 w)) then K (AV.c (Cell.int IntKind.i64 4)) H else r.bind fun v2 => (H.get v2.fst (v2.snd + 0)).bind fun v1 => v1.toSlice.bind fun v0 => bif !rope_store_room v0 (IntKind.i64.wrap (w * slen l)) then K (AV.c (Cell.int IntKind.i64 4)) H else lp (Code.l (Code.l (Code.r (Code.l (Code.r (Code.r (bodyOf Try.f11))))))) { env := [(0, AV.c (Cell.ptr r)), (1, AV.c (Cell.int IntKind.i64 w)), (35, AV.c (Cell.slice l)), (36, AV.c (Cell.int IntKind.i64 (slen l))), (37, AV.c (Cell.int IntKind.i64 0))], loc := [], heap := H } (blockK 1 (seqK (execL (C11 f35) lp (Code.r (Code.r (Code.r (bodyOf Try.f11))))) (retA (C11 f35) [ResultVar.tmp 6] K))) := by intros; kernel_rfl
theorem b11_8 : ∀ (R : Type) (f35 : Ty35) (t0 : Option (Nat × Nat)) (t1 : Int) (t35 : Option Sl) (t36 t37 : Int) (H : Heap) (K : AExit → St → Option R) (f : St → (AExit → St → Option R) → Option R) (lp : Code → St → (AExit → St → Option R) → Option R), execL (C11 f35) lp (Code.l (Code.l (Code.r (Code.l (Code.r (Code.r (bodyOf Try.f11))))))) { env := [(0, AV.c (Cell.ptr t0)), (1, AV.c (Cell.int IntKind.i64 t1)), (35, AV.c (Cell.slice t35)), (36, AV.c (Cell.int IntKind.i64 t36)), (37, AV.c (Cell.int IntKind.i64 t37))], loc := [], heap := H } (loopK (keepOf (C11 f35).live (Code.l (Code.l (Code.r (Code.l (Code.r (Code.r (bodyOf Try.f11)))))))) f K) = bif decide (t37 < t36) then t35.bind fun v10 => bif inb t37 v10.len && v10.esz == 1 then (H.get v10.id (v10.off + t37.toNat * 1)).bind fun v9 => (Cell.toInt IntKind.u64 v9).bind fun v8 => (f35 (some { id := List.length H, off := 0, len := 8, cap := 8, esz := 1 }) t1 v8 (H ++ [Blk.row [Cell.int IntKind.u8 0, Cell.int IntKind.u8 0, Cell.int IntKind.u8 0, Cell.int IntKind.u8 0, Cell.int IntKind.u8 0, Cell.int IntKind.u8 0, Cell.int IntKind.u8 0, Cell.int IntKind.u8 0] false])).bind fun v7 => t0.bind fun v6 => (v7.snd.get v6.fst (v6.snd + 0 + 0)).bind fun v5 => v5.toSlice.bind fun v4 => (Sl.sub (some { id := List.length H, off := 0, len := 8, cap := 8, esz := 1 }) 0 (some t1)).bind fun v3 => (v7.snd.append 1 1 v4 v3).bind fun v2 => t0.bind fun v1 => (v2.snd.put v1.fst (v1.snd + 0 + 0) [Cell.slice v2.fst]).bind fun v0 => f { env := [(0, AV.c (Cell.ptr t0)), (1, AV.c (Cell.int IntKind.i64 t1)), (35, AV.c (Cell.slice t35)), (36, AV.c (Cell.int IntKind.i64 t36)), (37, AV.c (Cell.int IntKind.i64 (IntKind.i64.wrap (t37 + 1))))], loc := [], heap := v0 } K else none else K (AExit.exit 1) { env := [], loc := [], heap := H } := by intros; kernel_rfl
theorem ok11 : FnOk Try.prog 11 (specF enc11 (sem11 f11)) := by
  refine spec_ok (C := CC11) good11 rfl rfl rfl (by kernel_rfl) Try.func11 (c := bodyOf Try.f11) (by kernel_rfl) (by kernel_rfl) (Nat.le_of_eq Try.ntmps11.symm) dec11 enc11 de11 _ ?_
  intro args H q h
  unfold sem11 at h
  split at h
  · exact h
  · cases h
/-- A slice of numbers, in a read-only row. -/
def RU (H : Heap) (x : Option Sl) (vs : List Nat) : Prop :=
  match x with
  | none => vs = []
  | some sl => sl.len = vs.length ∧ sl.esz = 1 ∧ (vs ≠ [] → ∃ row, H[sl.id]? = some (.row row true) ∧ ∀ (i v : Nat), vs[i]? = some v → row[sl.off + i]? = some (.int .u64 (v : Int)))
/-- A rope: its bytes. -/
def RP (H : Heap) (id : Nat) (l : List Nat) : Prop :=
  ∃ s, H[id]? = some (.row [.slice s] false) ∧ OB H s l ∧ ∀ sl, s = some sl → sl.id ≠ id
def RoKept (H H' : Heap) : Prop := ∀ (i : Nat) (row : List Cell), H[i]? = some (Blk.row row true) → H'[i]? = some (Blk.row row true)
theorem RU.kept {H H' : Heap} {x : Option Sl} {vs : List Nat} (h : RU H x vs) (hk : RoKept H H') : RU H' x vs := by
  cases x with
  | none => exact h
  | some sl =>
    obtain ⟨h1, h2, h3⟩ := h
    exact ⟨h1, h2, fun hne => by
      obtain ⟨row, h4, h5⟩ := h3 hne
      exact ⟨row, hk _ _ h4, h5⟩⟩
def zeros8 : List Cell := [.int .u8 0, .int .u8 0, .int .u8 0, .int .u8 0, .int .u8 0, .int .u8 0, .int .u8 0, .int .u8 0]
/-- One number more. -/
theorem step11 (id : Nat) (l : List Nat) (w v : Nat) (hw : 0 < w ∧ w ≤ 8) (hl : l.length ≤ 1000) (H : Heap) (hr : RP H id l) :
    ∃ (s s' : Option Sl) (H2 H3 H4 : Heap), f35 (some ⟨H.length, 0, 8, 8, 1⟩) (w : Int) (v : Int) (H ++ [.row zeros8 false]) = some ((), H2) ∧ H2.get id 0 = some (.slice s) ∧ Sl.sub (some ⟨H.length, 0, 8, 8, 1⟩) 0 (some (w : Int)) = some (some ⟨H.length, 0, w, 8, 1⟩) ∧
      H2.append 1 1 s (some ⟨H.length, 0, w, 8, 1⟩) = some (s', H3) ∧ H3.put id 0 [.slice s'] = some H4 ∧ RP H4 id (l ++ leN w v) ∧ RoKept H H4 := by
  obtain ⟨s, h1, h2, h3⟩ := hr
  have hid : id < H.length := (List.getElem?_eq_some_iff.1 h1).1
  have k1 := f35_spec ⟨H.length, 0, 8, 8, 1⟩ w v hw.2 hw.2 rfl (H ++ [.row zeros8 false]) zeros8 (by simp) (by simp [zeros8]; omega)
  have hset : (H ++ [Blk.row zeros8 false]).set H.length (.row (splice zeros8 0 (bytesL (leN w v))) false) = H ++ [.row (splice zeros8 0 (bytesL (leN w v))) false] := by
    rw [List.set_append_right _ _ (Nat.le_refl _)]; simp
  have e2 : f35 (some ⟨H.length, 0, 8, 8, 1⟩) (w : Int) (v : Int) (H ++ [.row zeros8 false]) = some ((), H ++ [.row (splice zeros8 0 (bytesL (leN w v))) false]) := by
    rw [k1]; exact congrArg (fun x => some ((), x)) hset
  have hg2 : Grew H (H ++ [.row (splice zeros8 0 (bytesL (leN w v))) false]) := Grew.push H _
  have ho2 : OB (H ++ [.row (splice zeros8 0 (bytesL (leN w v))) false]) s l := h2.stays fun sl e => by subst e; exact List.getElem?_append_left h2.lt
  have hx2 : RB (H ++ [.row (splice zeros8 0 (bytesL (leN w v))) false]) (some ⟨H.length, 0, w, 8, 1⟩) (leN w v) :=
    ⟨by simp [leN_length], rfl, fun i b e => by
      have hi := (List.getElem?_eq_some_iff.1 e).1
      rw [leN_length] at hi
      rw [get_of (row := splice zeros8 0 (bytesL (leN w v))) (ro := false) (by simp)]
      show (splice zeros8 0 (bytesL (leN w v)))[0 + i]? = _
      rw [splice_get (by simp [zeros8, bytesL, leN_length]; omega), if_neg (by omega), if_pos (by simp [bytesL, leN_length]; omega)]
      simp [bytesL, e]⟩
  obtain ⟨s', H3, j1, j2, j3, j4⟩ := append_OB ho2 hx2 (by simp [most, leN_length]; omega)
  have h1' : (H ++ [Blk.row (splice zeros8 0 (bytesL (leN w v))) false])[id]? = some (.row [.slice s] false) := by rw [List.getElem?_append_left hid]; exact h1
  have h3' : H3[id]? = some (.row [.slice s] false) := by
    rw [j3.same id (by simp; omega) (fun sl e he => h3 sl e he.symm)]; exact h1'
  have hid3 : id < H3.length := (List.getElem?_eq_some_iff.1 h3').1
  have hne' : ∀ sl', s' = some sl' → sl'.id ≠ id := fun sl' e => by
    rcases j4 sl' e with ⟨sl, e1, e2⟩ | h
    · rw [e2]; exact h3 sl e1
    · simp at h; omega
  refine ⟨s, s', _, H3, H3.set id (.row [.slice s'] false), e2, by rw [get_of h1']; rfl, ?_, j1, put_of h3' (by simp), ⟨s', set_get' hid3, j2.stays fun sl' e => ?_, hne'⟩, fun i row hi => ?_⟩
  · unfold Sl.sub
    simp only [Option.getD_some]
    rw [if_pos (by omega)]
    simp
  · rw [List.getElem?_set_ne (fun he => hne' sl' e he.symm)]
  · have hil : i < H.length := (List.getElem?_eq_some_iff.1 hi).1
    have hne : i ≠ id := by rintro rfl; rw [h1] at hi; cases hi
    rw [List.getElem?_set_ne (fun he => hne he.symm), j3.same i (by simp; omega) (fun sl e he => ?_), List.getElem?_append_left hil]
    · exact hi
    · subst e
      obtain ⟨_, _, _, row', h4, _⟩ := h2
      rw [← he, hi] at h4
      cases h4
theorem loop11 (R : Type) (id : Nat) (x : Option Sl) (vs : List Nat) (w : Nat) (hw : 0 < w ∧ w ≤ 8) (hvs : vs.length ≤ 30) (K : AExit → St → Option R) : ∀ (m n i : Nat) (l : List Nat) (H : Heap), i + m = vs.length → l.length = w * i → RP H id l → RU H x vs →
    ∃ H', loopN (exec CC11 (Code.l (Code.l (Code.r (Code.l (Code.r (Code.r (bodyOf Try.f11)))))))) (keepOf CC11.live (Code.l (Code.l (Code.r (Code.l (Code.r (Code.r (bodyOf Try.f11)))))))) (n + m + 1) { env := [(0, AV.c (Cell.ptr (some (id, 0)))), (1, AV.c (Cell.int IntKind.i64 (w : Int))), (35, AV.c (Cell.slice x)), (36, AV.c (Cell.int IntKind.i64 (vs.length : Int))), (37, AV.c (Cell.int IntKind.i64 (i : Int)))], loc := [], heap := H } K
      = K (AExit.exit 1) { env := [], loc := [], heap := H' } ∧ RP H' id (l ++ (vs.drop i).flatMap (leN w)) ∧ RoKept H H'
  | 0, n, i, l, H, hi, hl, hr, hx => by
    refine ⟨H, ?_, by rw [List.drop_eq_nil_of_le (by omega)]; simpa using hr, fun _ _ h => h⟩
    have g : decide ((i : Int) < (vs.length : Int)) = false := by simp; omega
    rw [loopN_step, b11_8, g, cf]
  | m + 1, n, i, l, H, hi, hl, hr, hx => by
    have hil : i < vs.length := by omega
    have hvi : vs[i]? = some vs[i] := List.getElem?_eq_getElem hil
    have hne : vs ≠ [] := by rintro rfl; simp at hil
    have g : decide ((i : Int) < (vs.length : Int)) = true := by simp; omega
    have g3 : IntKind.i64.wrap ((i : Int) + 1) = ((i + 1 : Nat) : Int) := by rw [wrap_i64 (by omega) (by omega)]; omega
    have hx0 := hx
    cases x with
    | none => exact absurd hx hne
    | some sl =>
      obtain ⟨x1, x2, x3⟩ := hx
      obtain ⟨row, x4, x5⟩ := x3 hne
      have g2 : (inb (i : Int) sl.len && sl.esz == 1) = true := by rw [x2, x1]; simp [inb]; omega
      have g4 : H.get sl.id (sl.off + (i : Int).toNat * 1) = some (.int .u64 ((vs[i] : Nat) : Int)) := by
        rw [Int.toNat_natCast, Nat.mul_one, get_of x4]; exact x5 i _ hvi
      have hwi : w * i ≤ 8 * 30 := Nat.mul_le_mul hw.2 (by omega)
      obtain ⟨s, s', H2, H3, H4, q1, q2, q3, q4, q5, q6, q7⟩ := step11 id l w vs[i] hw (by omega) H hr
      obtain ⟨H', j1, j2, j3⟩ := loop11 R id (some sl) vs w hw hvs K m n (i + 1) (l ++ leN w vs[i]) H4 (by omega) (by simp [leN_length, hl, Nat.mul_add]) q6 (hx0.kept q7)
      refine ⟨H', ?_, ?_, fun i row h => j3 i row (q7 i row h)⟩
      · rw [show n + (m + 1) + 1 = (n + m + 1) + 1 by omega, loopN_step, b11_8, g, ct, Option.bind_some, g2, ct, g4, Option.bind_some, tInt, Option.bind_some, g3]
        rw [show (H ++ [Blk.row [Cell.int IntKind.u8 0, Cell.int IntKind.u8 0, Cell.int IntKind.u8 0, Cell.int IntKind.u8 0, Cell.int IntKind.u8 0, Cell.int IntKind.u8 0, Cell.int IntKind.u8 0, Cell.int IntKind.u8 0] false]) = H ++ [.row zeros8 false] from rfl, q1, Option.bind_some, Option.bind_some, Nat.add_zero, q2, Option.bind_some, tSlice, Option.bind_some, q3, Option.bind_some, q4, Option.bind_some, Option.bind_some, q5, Option.bind_some]
        exact j1
      · rw [List.drop_eq_getElem_cons hil, List.flatMap_cons, ← List.append_assoc]; exact j2
theorem f11_spec (id : Nat) (x : Option Sl) (vs : List Nat) (w : Nat) (hw : bits_Is (w : Int) = true) (hvs : vs.length ≤ 30) (H : Heap) (hr : RP H id []) (hx : RU H x vs) :
    ∃ H', f11 (some (id, 0)) (w : Int) x H = some (0, H') ∧ RP H' id (vs.flatMap (leN w)) ∧ RoKept H H' := by
  have h8 : 0 < w ∧ w ≤ 8 := by rcases is_w hw with h | h | h | h <;> omega
  have hsl : slen x = (vs.length : Int) := by
    cases x with
    | none => cases hx; rfl
    | some sl => obtain ⟨x1, _⟩ := hx; simp [slen, x1]
  have hr0 := hr
  obtain ⟨s, r1, r2, r3⟩ := hr0
  have hroom : rope_store_room s (IntKind.i64.wrap ((w : Int) * slen x)) = true := by
    have hwm : w * vs.length ≤ 8 * 30 := Nat.mul_le_mul h8.2 hvs
    have e : (w : Int) * (vs.length : Int) = ((w * vs.length : Nat) : Int) := by simp
    unfold rope_store_room
    rw [hsl, r2.rb.slen, e, wrap_i64 (by omega) (by omega)]
    have : IntKind.i64.wrap (1048576 - (([] : List Nat).length : Int)) = 1048576 := by decide
    rw [this]
    simp; omega
  have hmost : decide (slen x > IntKind.i64.wrap (Int.tdiv 1048576 (w : Int))) = false := by
    have : 30 < IntKind.i64.wrap (Int.tdiv 1048576 (w : Int)) := by rcases is_w hw with h | h | h | h <;> rw [h] <;> decide
    rw [hsl]
    simp only [decide_eq_false_iff_not]; omega
  have hw0 : ((w : Int) == 0) = false := by simp; omega
  obtain ⟨n, hn⟩ := loops_of CC11 (Code.l (Code.l (Code.r (Code.l (Code.r (Code.r (bodyOf Try.f11))))))) { env := [(0, AV.c (Cell.ptr (some (id, 0)))), (1, AV.c (Cell.int IntKind.i64 (w : Int))), (35, AV.c (Cell.slice x)), (36, AV.c (Cell.int IntKind.i64 (vs.length : Int))), (37, AV.c (Cell.int IntKind.i64 ((0 : Nat) : Int)))], loc := [], heap := H } (blockK 1 (seqK (execL CC11 (loops CC11) (Code.r (Code.r (Code.r (bodyOf Try.f11))))) (retA CC11 [ResultVar.tmp 6] (decF dec11)))) vs.length (by omega)
  obtain ⟨H', j1, j2, j3⟩ := loop11 _ id x vs w h8 hvs (blockK 1 (seqK (execL CC11 (loops CC11) (Code.r (Code.r (Code.r (bodyOf Try.f11))))) (retA CC11 [ResultVar.tmp 6] (decF dec11)))) vs.length n 0 [] H (by omega) (by simp) hr hx
  refine ⟨H', ?_, by simpa using j2, j3⟩
  unfold f11
  rw [fnA_eq, e11]
  simp only [ct, cf, Option.isNone_some, hw, Bool.not_true, hw0, hmost, Option.bind_some, get_of r1, Nat.add_zero, row_get0, tSlice, hroom]
  rw [hsl]
  refine (show _ = _ from hn).trans (j1.trans ?_)
  show _ = _
  kernel_rfl
/-! 16: rope_Rope_At -/
noncomputable def C16 (f38 : Ty38) : Ctx := { P := Try.prog, own := [], fns := [(33, F33), (36, F36), (38, specF enc38 (sem38 f38))], nt := 31, nums := [33, 36], live := [] }
noncomputable abbrev CC16 : Ctx := C16 f38
theorem good16 : Callees Try.prog CC16.fns [] CC16.nums := (((Callees.nil Try.prog).cons ok38 (specF_nat _ _)).cons_num ok36 F36_num).cons_num ok33 F33_num
abbrev Ty16 := (Option (Nat × Nat)) → Int → Int → Heap → Option ((Int × Int) × Heap)
def enc16 (r : Int × Int) : List TV := [.c (Cell.int .u64 (r.1)), .c (Cell.int .i64 (r.2))]
def dec16 : AV → Option (Int × Int)
  | .tup [.c (Cell.int .u64 q0), .c (Cell.int .i64 q1)] => some (q0, q1)
  | _ => none
theorem de16 (v : AV) (r : Int × Int) (h : dec16 v = some r) : v = oneOf (enc16 r) := by
  unfold dec16 at h
  split at h
  · cases h; rfl
  · cases h
def sem16 (f : Ty16) : List TV → Heap → Option ((Int × Int) × Heap)
  | [.c (Cell.ptr r), .c (Cell.int .i64 x1), .c (Cell.int .i64 w)], H => f r x1 w H
  | _, _ => none
noncomputable def f16 : Ty16 := fun r x1 w H => fnA CC16 Try.f16.results.toList (bodyOf Try.f16) _ [.c (Cell.ptr r), .c (Cell.int .i64 x1), .c (Cell.int .i64 w)] H (decF dec16)
theorem e16 : ∀ (R : Type) (f38 : Ty38) (r : Option (Nat × Nat)) (x1 w : Int) (H : Heap) (K : AV → Heap → Option R) (lp : Code → St → (AExit → St → Option R) → Option R), fnL (C16 f38) lp Try.f16.results.toList (bodyOf Try.f16) [TV.c (Cell.ptr r), TV.c (Cell.int IntKind.i64 x1), TV.c (Cell.int IntKind.i64 w)] H K = bif bif true then r.isNone else !r.isNone then K (AV.tup [TV.c (Cell.int IntKind.u64 0), TV.c (Cell.int IntKind.i64 1)]) H else bif !bits_Is w then K (AV.tup [TV.c (Cell.int IntKind.u64 0), TV.c (Cell.int IntKind.i64 2)]) H else r.bind fun v6 => (H.get v6.fst (v6.snd + 0)).bind fun v5 => v5.toSlice.bind fun v4 => bif !rope_store_has v4 x1 w then K (AV.tup [TV.c (Cell.int IntKind.u64 0), TV.c (Cell.int IntKind.i64 7)]) H else r.bind fun v3 => (H.get v3.fst (v3.snd + 0)).bind fun v2 => v2.toSlice.bind fun v1 => (f38 v1 x1 w H).bind fun v0 => K (AV.tup [TV.c (Cell.int IntKind.u64 v0.fst), TV.c (Cell.int IntKind.i64 0)]) v0.snd := by intros; kernel_rfl
theorem ok16 : FnOk Try.prog 16 (specF enc16 (sem16 f16)) := by
  refine spec_ok (C := CC16) good16 rfl rfl rfl (by kernel_rfl) Try.func16 (c := bodyOf Try.f16) (by kernel_rfl) (by kernel_rfl) (Nat.le_of_eq Try.ntmps16.symm) dec16 enc16 de16 _ ?_
  intro args H q h
  unfold sem16 at h
  split at h
  · exact h
  · cases h
theorem f16_spec (id : Nat) (s : Option Sl) (l : List Nat) (hB : ∀ b ∈ l, b < 256) (hmax : l.length < 4611686018427387904) (a w : Nat) (hw : bits_Is (w : Int) = true) (hal : a + w ≤ l.length) (H : Heap) (h : H[id]? = some (.row [.slice s] false)) (hb : RB H s l) :
    f16 (some (id, 0)) (a : Int) (w : Int) H = some ((((numN ((l.drop a).take w) : Nat) : Int), 0), H) := by
  have h8 : w ≤ 8 := by rcases is_w hw with h | h | h | h <;> omega
  unfold f16
  rw [fnA_eq, e16]
  simp only [ct, cf, Option.isNone_some, Option.bind_some, get_of h, Nat.add_zero, row_get0, tSlice, has_true hb hmax hal, hw, Bool.not_true, f38_spec s l hB hmax a w h8 hal H hb]
  rfl
/-! 37: bytes_Clone -/
noncomputable def C37 : Ctx := { P := Try.prog, own := [], fns := [], nt := 8, nums := [], live := [] }
noncomputable abbrev CC37 : Ctx := C37
theorem good37 : Callees Try.prog CC37.fns [] CC37.nums := Callees.nil Try.prog
abbrev Ty37 := (Option Sl) → Heap → Option ((Option Sl) × Heap)
def enc37 (r : (Option Sl)) : List TV := [.c (Cell.slice (r))]
def dec37 : AV → Option ((Option Sl))
  | .c (Cell.slice q0) => some (q0)
  | _ => none
theorem de37 (v : AV) (r : (Option Sl)) (h : dec37 v = some r) : v = oneOf (enc37 r) := by
  unfold dec37 at h
  split at h
  · cases h; rfl
  · cases h
def sem37 (f : Ty37) : List TV → Heap → Option ((Option Sl) × Heap)
  | [.c (Cell.slice b)], H => f b H
  | _, _ => none
noncomputable def f37 : Ty37 := fun b H => fnA CC37 Try.f37.results.toList (bodyOf Try.f37) _ [.c (Cell.slice b)] H (decF dec37)
theorem e37 : ∀ (R : Type) (b : Option Sl) (H : Heap) (K : AV → Heap → Option R) (lp : Code → St → (AExit → St → Option R) → Option R), fnL C37 lp Try.f37.results.toList (bodyOf Try.f37) [TV.c (Cell.slice b)] H K = bif bif true then b.isNone else !b.isNone then K (AV.c (Cell.slice none)) H else ((H ++ [Blk.row [] false]).append 1 1 (some { id := List.length H, off := 0, len := 0, cap := 0, esz := 1 }) b).bind fun v0 => K (AV.c (Cell.slice v0.fst)) v0.snd := by intros; kernel_rfl
theorem ok37 : FnOk Try.prog 37 (specF enc37 (sem37 f37)) := by
  refine spec_ok (C := CC37) good37 rfl rfl rfl (by kernel_rfl) Try.func37 (c := bodyOf Try.f37) (by kernel_rfl) (by kernel_rfl) (Nat.le_of_eq Try.ntmps37.symm) dec37 enc37 de37 _ ?_
  intro args H q h
  unfold sem37 at h
  split at h
  · exact h
  · cases h
theorem f37_spec (b : Option Sl) (l : List Nat) (H : Heap) (hb : RB H b l) (hl : l.length ≤ most) : ∃ s' H', f37 b H = some (s', H') ∧ OB H' s' l ∧ Grew H H' ∧ Fresh H.length s' := by
  unfold f37
  rw [fnA_eq, e37]
  cases b with
  | none =>
    cases hb
    exact ⟨none, H, rfl, rfl, Grew.refl H, fun sl e => by cases e⟩
  | some sl =>
    have hb' : RB (H ++ [.row [] false]) (some sl) l := by
      obtain ⟨h1, h2, h3⟩ := hb
      refine ⟨h1, h2, fun i c e => ?_⟩
      have := h3 i c e
      unfold Heap.get at this ⊢
      split at this
      · rename_i cs ro hr
        rw [List.getElem?_append_left (List.getElem?_eq_some_iff.1 hr).1, hr]
        exact this
      · cases this
    obtain ⟨s', H', h1, h2, h3, h4⟩ := append_OB (OB_new H) hb' (by simpa using hl)
    have hf : Fresh H.length (some (⟨H.length, 0, 0, 0, 1⟩ : Sl)) := fun sl e => by cases e; exact Nat.le_refl _
    refine ⟨s', H', ?_, by simpa using h2, h3.grew (n := 0) hf (Grew.push H _), fun sl' e => ?_⟩
    · show (Heap.append (H ++ [.row [] false]) 1 1 (some ⟨H.length, 0, 0, 0, 1⟩) (some sl)).bind _ = _
      rw [h1]; rfl
    · rcases h4 sl' e with ⟨sl2, e2, e3⟩ | h
      · cases e2; rw [e3]; exact Nat.le_refl _
      · simp at h; omega
/-! 12: rope_Rope_Len -/
noncomputable def C12 : Ctx := { P := Try.prog, own := [], fns := [], nt := 11, nums := [], live := [] }
noncomputable abbrev CC12 : Ctx := C12
theorem good12 : Callees Try.prog CC12.fns [] CC12.nums := Callees.nil Try.prog
abbrev Ty12 := (Option (Nat × Nat)) → Heap → Option (Int × Heap)
def enc12 (r : Int) : List TV := [.c (Cell.int .i64 (r))]
def dec12 : AV → Option (Int)
  | .c (Cell.int .i64 q0) => some (q0)
  | _ => none
theorem de12 (v : AV) (r : Int) (h : dec12 v = some r) : v = oneOf (enc12 r) := by
  unfold dec12 at h
  split at h
  · cases h; rfl
  · cases h
def sem12 (f : Ty12) : List TV → Heap → Option (Int × Heap)
  | [.c (Cell.ptr r)], H => f r H
  | _, _ => none
noncomputable def f12 : Ty12 := fun r H => fnA CC12 Try.f12.results.toList (bodyOf Try.f12) _ [.c (Cell.ptr r)] H (decF dec12)
theorem e12 : ∀ (R : Type) (r : Option (Nat × Nat)) (H : Heap) (K : AV → Heap → Option R) (lp : Code → St → (AExit → St → Option R) → Option R), fnL C12 lp Try.f12.results.toList (bodyOf Try.f12) [TV.c (Cell.ptr r)] H K = bif bif true then r.isNone else !r.isNone then K (AV.c (Cell.int IntKind.i64 0)) H else r.bind fun v2 => (H.get v2.fst (v2.snd + 0 + 0)).bind fun v1 => v1.toSlice.bind fun v0 => K (AV.c (Cell.int IntKind.i64 (slen v0))) H := by intros; kernel_rfl
theorem ok12 : FnOk Try.prog 12 (specF enc12 (sem12 f12)) := by
  refine spec_ok (C := CC12) good12 rfl rfl rfl (by kernel_rfl) Try.func12 (c := bodyOf Try.f12) (by kernel_rfl) (by kernel_rfl) (Nat.le_of_eq Try.ntmps12.symm) dec12 enc12 de12 _ ?_
  intro args H q h
  unfold sem12 at h
  split at h
  · exact h
  · cases h
theorem f12_spec (id : Nat) (s : Option Sl) (H : Heap) (h : H[id]? = some (.row [.slice s] false)) : f12 (some (id, 0)) H = some (slen s, H) := by
  unfold f12
  rw [fnA_eq, e12]
  simp only [ct, cf, Option.isNone_some, Option.bind_some, get_of h, Nat.add_zero, row_get0, tSlice]
  rfl
/-! 13: rope_Rope_Read -/
noncomputable def C13 (f37 : Ty37) : Ctx := { P := Try.prog, own := [], fns := [(36, F36), (37, specF enc37 (sem37 f37))], nt := 30, nums := [36], live := [] }
noncomputable abbrev CC13 : Ctx := C13 f37
theorem good13 : Callees Try.prog CC13.fns [] CC13.nums := ((Callees.nil Try.prog).cons ok37 (specF_nat _ _)).cons_num ok36 F36_num
abbrev Ty13 := (Option (Nat × Nat)) → Int → Heap → Option (((Option (Nat × Nat))) × Heap)
def enc13 (r : (Option (Nat × Nat))) : List TV := [.c (Cell.ptr (r))]
def dec13 : AV → Option ((Option (Nat × Nat)))
  | .c (Cell.ptr q0) => some (q0)
  | _ => none
theorem de13 (v : AV) (r : (Option (Nat × Nat))) (h : dec13 v = some r) : v = oneOf (enc13 r) := by
  unfold dec13 at h
  split at h
  · cases h; rfl
  · cases h
def sem13 (f : Ty13) : List TV → Heap → Option (((Option (Nat × Nat))) × Heap)
  | [.c (Cell.ptr r), .c (Cell.int .i64 x1)], H => f r x1 H
  | _, _ => none
noncomputable def f13 : Ty13 := fun r x1 H => fnA CC13 Try.f13.results.toList (bodyOf Try.f13) _ [.c (Cell.ptr r), .c (Cell.int .i64 x1)] H (decF dec13)
theorem e13 : ∀ (R : Type) (f37 : Ty37) (r : Option (Nat × Nat)) (x1 : Int) (H : Heap) (K : AV → Heap → Option R) (lp : Code → St → (AExit → St → Option R) → Option R), fnL (C13 f37) lp Try.f13.results.toList (bodyOf Try.f13) [TV.c (Cell.ptr r), TV.c (Cell.int IntKind.i64 x1)] H K = bif bif true then r.isNone else !r.isNone then K (AV.c (Cell.ptr (some (List.length H, 0)))) (H ++ [Blk.row [Cell.slice none, Cell.int IntKind.i64 0, Cell.int IntKind.i64 1] false]) else r.bind fun v6 => (H.get v6.fst (v6.snd + 0)).bind fun v5 => v5.toSlice.bind fun v4 => bif !rope_store_has v4 x1 0 then K (AV.c (Cell.ptr (some (List.length H, 0)))) (H ++ [Blk.row [Cell.slice none, Cell.int IntKind.i64 0, Cell.int IntKind.i64 7] false]) else r.bind fun v3 => (H.get v3.fst (v3.snd + 0 + 0)).bind fun v2 => v2.toSlice.bind fun v1 => (f37 v1 H).bind fun v0 => K (AV.c (Cell.ptr (some (List.length v0.snd, 0)))) (v0.snd ++ [Blk.row [Cell.slice v0.fst, Cell.int IntKind.i64 x1, Cell.int IntKind.i64 0] false]) := by intros; kernel_rfl
theorem ok13 : FnOk Try.prog 13 (specF enc13 (sem13 f13)) := by
  refine spec_ok (C := CC13) good13 rfl rfl rfl (by kernel_rfl) Try.func13 (c := bodyOf Try.f13) (by kernel_rfl) (by kernel_rfl) (Nat.le_of_eq Try.ntmps13.symm) dec13 enc13 de13 _ ?_
  intro args H q h
  unfold sem13 at h
  split at h
  · exact h
  · cases h
theorem f13_spec (id : Nat) (s : Option Sl) (l : List Nat) (H : Heap) (h : H[id]? = some (.row [.slice s] false)) (hb : RB H s l) (hl : l.length ≤ most) :
    ∃ s' H', f13 (some (id, 0)) 0 H = some (some (H'.length, 0), H' ++ [.row [.slice s', .int .i64 0, .int .i64 0] false]) ∧ OB H' s' l ∧ Grew H H' ∧ Fresh H.length s' := by
  obtain ⟨s', H', h1, h2, h3, h4⟩ := f37_spec s l H hb hl
  refine ⟨s', H', ?_, h2, h3, h4⟩
  have hh : rope_store_has s 0 0 = true := has_true (a := 0) (n := 0) hb (by unfold most at hl; omega) (by omega)
  unfold f13
  rw [fnA_eq, e13]
  simp only [ct, cf, Option.isNone_some, Option.bind_some, get_of h, Nat.add_zero, row_get0, tSlice, hh, Bool.not_true, h1]
  rfl
/-! 15: R2_Bytes -/
noncomputable def C15 : Ctx := { P := Try.prog, own := [], fns := [], nt := 21, nums := [], live := [(3, ⟨[0, 1, 5, 6], [], [5], []⟩)] }
noncomputable abbrev CC15 : Ctx := C15
theorem good15 : Callees Try.prog CC15.fns [] CC15.nums := Callees.nil Try.prog
abbrev Ty15 := Int → Int → Heap → Option ((Option Sl) × Heap)
def enc15 (r : (Option Sl)) : List TV := [.c (Cell.slice (r))]
def dec15 : AV → Option ((Option Sl))
  | .c (Cell.slice q0) => some (q0)
  | _ => none
theorem de15 (v : AV) (r : (Option Sl)) (h : dec15 v = some r) : v = oneOf (enc15 r) := by
  unfold dec15 at h
  split at h
  · cases h; rfl
  · cases h
def sem15 (f : Ty15) : List TV → Heap → Option ((Option Sl) × Heap)
  | [.c (Cell.int .i64 w), .c (Cell.int .u64 v)], H => f w v H
  | _, _ => none
noncomputable def f15 : Ty15 := fun w v H => fnA CC15 Try.f15.results.toList (bodyOf Try.f15) _ [.c (Cell.int .i64 w), .c (Cell.int .u64 v)] H (decF dec15)
theorem e15 : ∀ (R : Type) (w v : Int) (H : Heap) (K : AV → Heap → Option R) (lp : Code → St → (AExit → St → Option R) → Option R), fnL C15 lp Try.f15.results.toList (bodyOf Try.f15) [TV.c (Cell.int IntKind.i64 w), TV.c (Cell.int IntKind.u64 v)] H K = lp (Code.l (Code.l (Code.r (Code.l (Code.r (Code.r (bodyOf Try.f15))))))) { env := [(0, AV.c (Cell.int IntKind.i64 w)), (1, AV.c (Cell.int IntKind.u64 v)), (5, AV.c (Cell.slice none)), (6, AV.c (Cell.int IntKind.i64 0))], loc := [], heap := H } (blockK 0 (seqK (execL C15 lp (Code.r (Code.r (Code.r (bodyOf Try.f15))))) (retA C15 [ResultVar.tmp 4] K))) := by intros; kernel_rfl
theorem b15_3 : ∀ (R : Type) (t0 t1 : Int) (t5 : Option Sl) (t6 : Int) (H : Heap) (K : AExit → St → Option R) (f : St → (AExit → St → Option R) → Option R) (lp : Code → St → (AExit → St → Option R) → Option R), execL C15 lp (Code.l (Code.l (Code.r (Code.l (Code.r (Code.r (bodyOf Try.f15))))))) { env := [(0, AV.c (Cell.int IntKind.i64 t0)), (1, AV.c (Cell.int IntKind.u64 t1)), (5, AV.c (Cell.slice t5)), (6, AV.c (Cell.int IntKind.i64 t6))], loc := [], heap := H } (loopK (keepOf C15.live (Code.l (Code.l (Code.r (Code.l (Code.r (Code.r (bodyOf Try.f15)))))))) f K) = bif decide (t6 < t0) then ((H ++ [Blk.row [Cell.int IntKind.u8 (IntKind.u8.wrap (t1.tmod 256))] false]).append 1 1 t5 (some { id := List.length H, off := 0, len := 1, cap := 1, esz := 1 })).bind fun v0 => f { env := [(0, AV.c (Cell.int IntKind.i64 t0)), (1, AV.c (Cell.int IntKind.u64 (IntKind.u64.wrap (t1.tdiv 256)))), (5, AV.c (Cell.slice v0.fst)), (6, AV.c (Cell.int IntKind.i64 (IntKind.i64.wrap (t6 + 1))))], loc := [], heap := v0.snd } K else K (AExit.exit 0) { env := [(5, AV.c (Cell.slice t5))], loc := [], heap := H } := by intros; kernel_rfl
theorem ok15 : FnOk Try.prog 15 (specF enc15 (sem15 f15)) := by
  refine spec_ok (C := CC15) good15 rfl rfl rfl (by kernel_rfl) Try.func15 (c := bodyOf Try.f15) (by kernel_rfl) (by kernel_rfl) (Nat.le_of_eq Try.ntmps15.symm) dec15 enc15 de15 _ ?_
  intro args H q h
  unfold sem15 at h
  split at h
  · exact h
  · cases h
theorem loop15 (R : Type) (w : Nat) (hw : w ≤ 8) (A : Heap) (K : AExit → St → Option R) : ∀ (m n i v : Nat) (l : List Nat) (s : Option Sl) (H : Heap), i + m = w → v < 18446744073709551616 → l.length ≤ 8 + i → OB H s l → Grew A H → Fresh A.length s →
    ∃ s' H', loopN (exec CC15 (Code.l (Code.l (Code.r (Code.l (Code.r (Code.r (bodyOf Try.f15)))))))) (keepOf CC15.live (Code.l (Code.l (Code.r (Code.l (Code.r (Code.r (bodyOf Try.f15)))))))) (n + m + 1) { env := [(0, AV.c (Cell.int IntKind.i64 (w : Int))), (1, AV.c (Cell.int IntKind.u64 (v : Int))), (5, AV.c (Cell.slice s)), (6, AV.c (Cell.int IntKind.i64 (i : Int)))], loc := [], heap := H } K
      = K (AExit.exit 0) { env := [(5, AV.c (Cell.slice s'))], loc := [], heap := H' } ∧ OB H' s' (l ++ leN m v) ∧ Grew A H' ∧ Fresh A.length s'
  | 0, n, i, v, l, s, H, hi, hv, hl, ho, hg, hf => by
    refine ⟨s, H, ?_, by simpa [leN] using ho, hg, hf⟩
    have g : decide ((i : Int) < (w : Int)) = false := by simp; omega
    rw [loopN_step, b15_3, g, cf]
  | m + 1, n, i, v, l, s, H, hi, hv, hl, ho, hg, hf => by
    have g : decide ((i : Int) < (w : Int)) = true := by simp; omega
    have g3 : IntKind.i64.wrap ((i : Int) + 1) = ((i + 1 : Nat) : Int) := by rw [wrap_i64 (by omega) (by omega)]; omega
    have g1 : IntKind.u8.wrap ((v : Int).tmod 256) = ((v % 256 : Nat) : Int) := by
      rw [Int.tmod_eq_emod_of_nonneg (Int.natCast_nonneg v), wrap_u8]; omega
    have g2 : IntKind.u64.wrap ((v : Int).tdiv 256) = ((v / 256 : Nat) : Int) := by
      rw [Int.tdiv_eq_ediv_of_nonneg (Int.natCast_nonneg v), wrap_u64]; omega
    have ho' : OB (H ++ [.row [Cell.int IntKind.u8 ((v % 256 : Nat) : Int)] false]) s l := ho.stays fun sl e => by
      subst e
      exact List.getElem?_append_left ho.lt
    have hx : RB (H ++ [.row [Cell.int IntKind.u8 ((v % 256 : Nat) : Int)] false]) (some ⟨H.length, 0, 1, 1, 1⟩) [v % 256] :=
      ⟨rfl, rfl, fun j b e => by
        have hj : j = 0 := by
          have := (List.getElem?_eq_some_iff.1 e).1
          simp at this; exact this
        subst hj
        simp at e
        subst e
        unfold Heap.get
        simp [bcell]⟩
    obtain ⟨s1, H1, k1, k2, k3, k4⟩ := append_OB ho' hx (by simp [most]; omega)
    have hf1 : Fresh A.length s1 := fun sl' e => by
      rcases k4 sl' e with ⟨sl2, e2, e3⟩ | h
      · rw [e3]; exact hf sl2 e2
      · have := hg.len; simp at h; omega
    obtain ⟨s', H', j1, j2, j3, j4⟩ := loop15 R w hw A K m n (i + 1) (v / 256) (l ++ [v % 256]) s1 H1 (by omega) (by omega) (by simp; omega) k2 (k3.grew (n := 0) hf (hg.trans (Grew.push H _))) hf1
    refine ⟨s', H', ?_, by rw [leN]; simpa using j2, j3, j4⟩
    rw [show n + (m + 1) + 1 = (n + m + 1) + 1 by omega, loopN_step, b15_3, g, ct, g1, g2, g3, k1, Option.bind_some]
    exact j1
theorem f15_spec (w v : Nat) (hw : w ≤ 8) (hv : v < 18446744073709551616) (H : Heap) : ∃ s' H', f15 (w : Int) (v : Int) H = some (s', H') ∧ OB H' s' (leN w v) ∧ Grew H H' ∧ Fresh H.length s' := by
  unfold f15
  rw [fnA_eq, e15]
  obtain ⟨n, hn⟩ := loops_of CC15 (Code.l (Code.l (Code.r (Code.l (Code.r (Code.r (bodyOf Try.f15))))))) { env := [(0, AV.c (Cell.int IntKind.i64 (w : Int))), (1, AV.c (Cell.int IntKind.u64 (v : Int))), (5, AV.c (Cell.slice none)), (6, AV.c (Cell.int IntKind.i64 ((0 : Nat) : Int)))], loc := [], heap := H } (blockK 0 (seqK (execL CC15 (loops CC15) (Code.r (Code.r (Code.r (bodyOf Try.f15))))) (retA CC15 [ResultVar.tmp 4] (decF dec15)))) w (by omega)
  obtain ⟨s', H', j1, j2, j3, j4⟩ := loop15 _ w hw H (blockK 0 (seqK (execL CC15 (loops CC15) (Code.r (Code.r (Code.r (bodyOf Try.f15))))) (retA CC15 [ResultVar.tmp 4] (decF dec15)))) w n 0 v [] none H (by omega) hv (by simp) rfl (Grew.refl H) (fun sl e => by cases e)
  refine ⟨s', H', ?_, by simpa using j2, j3, j4⟩
  refine (show _ = _ from hn).trans (j1.trans ?_)
  show _ = _
  kernel_rfl
/-! 14: R2_Num -/
noncomputable def C14 : Ctx := { P := Try.prog, own := [], fns := [], nt := 21, nums := [], live := [(3, ⟨[0, 3, 4], [], [3], []⟩)] }
noncomputable abbrev CC14 : Ctx := C14
theorem good14 : Callees Try.prog CC14.fns [] CC14.nums := Callees.nil Try.prog
abbrev Ty14 := (Option Sl) → Heap → Option (Int × Heap)
def enc14 (r : Int) : List TV := [.c (Cell.int .u64 (r))]
def dec14 : AV → Option (Int)
  | .c (Cell.int .u64 q0) => some (q0)
  | _ => none
theorem de14 (v : AV) (r : Int) (h : dec14 v = some r) : v = oneOf (enc14 r) := by
  unfold dec14 at h
  split at h
  · cases h; rfl
  · cases h
def sem14 (f : Ty14) : List TV → Heap → Option (Int × Heap)
  | [.c (Cell.slice b)], H => f b H
  | _, _ => none
noncomputable def f14 : Ty14 := fun b H => fnA CC14 Try.f14.results.toList (bodyOf Try.f14) _ [.c (Cell.slice b)] H (decF dec14)
theorem e14 : ∀ (R : Type) (b : Option Sl) (H : Heap) (K : AV → Heap → Option R) (lp : Code → St → (AExit → St → Option R) → Option R), fnL C14 lp Try.f14.results.toList (bodyOf Try.f14) [TV.c (Cell.slice b)] H K = lp (Code.l (Code.l (Code.r (Code.l (Code.r (Code.r (bodyOf Try.f14))))))) { env := [(0, AV.c (Cell.slice b)), (3, AV.c (Cell.int IntKind.u64 0)), (4, AV.c (Cell.int IntKind.i64 (IntKind.i64.wrap (slen b - 1))))], loc := [], heap := H } (blockK 0 (seqK (execL C14 lp (Code.r (Code.r (Code.r (bodyOf Try.f14))))) (retA C14 [ResultVar.tmp 2] K))) := by intros; kernel_rfl
theorem b14_3 : ∀ (R : Type) (t0 : Option Sl) (t3 t4 : Int) (H : Heap) (K : AExit → St → Option R) (f : St → (AExit → St → Option R) → Option R) (lp : Code → St → (AExit → St → Option R) → Option R), execL C14 lp (Code.l (Code.l (Code.r (Code.l (Code.r (Code.r (bodyOf Try.f14))))))) { env := [(0, AV.c (Cell.slice t0)), (3, AV.c (Cell.int IntKind.u64 t3)), (4, AV.c (Cell.int IntKind.i64 t4))], loc := [], heap := H } (loopK (keepOf C14.live (Code.l (Code.l (Code.r (Code.l (Code.r (Code.r (bodyOf Try.f14)))))))) f K) = bif decide (t4 ≥ 0) then t0.bind fun v2 => bif inb t4 v2.len && v2.esz == 1 then (H.get v2.id (v2.off + t4.toNat * 1)).bind fun v1 => (Cell.toInt IntKind.u8 v1).bind fun v0 => f { env := [(0, AV.c (Cell.slice t0)), (3, AV.c (Cell.int IntKind.u64 (IntKind.u64.wrap (IntKind.u64.wrap (t3 * 256) + IntKind.u64.wrap v0)))), (4, AV.c (Cell.int IntKind.i64 (IntKind.i64.wrap (t4 - 1))))], loc := [], heap := H } K else none else K (AExit.exit 0) { env := [(3, AV.c (Cell.int IntKind.u64 t3))], loc := [], heap := H } := by intros; kernel_rfl
theorem ok14 : FnOk Try.prog 14 (specF enc14 (sem14 f14)) := by
  refine spec_ok (C := CC14) good14 rfl rfl rfl (by kernel_rfl) Try.func14 (c := bodyOf Try.f14) (by kernel_rfl) (by kernel_rfl) (Nat.le_of_eq Try.ntmps14.symm) dec14 enc14 de14 _ ?_
  intro args H q h
  unfold sem14 at h
  split at h
  · exact h
  · cases h
theorem loop14 (R : Type) (s : Option Sl) (l : List Nat) (hB : ∀ b ∈ l, b < 256) (hmax : l.length ≤ 8) (H : Heap) (hs : RB H s l) (K : AExit → St → Option R) : ∀ (m n : Nat), m ≤ l.length →
    loopN (exec CC14 (Code.l (Code.l (Code.r (Code.l (Code.r (Code.r (bodyOf Try.f14)))))))) (keepOf CC14.live (Code.l (Code.l (Code.r (Code.l (Code.r (Code.r (bodyOf Try.f14)))))))) (n + m + 1) { env := [(0, AV.c (Cell.slice s)), (3, AV.c (Cell.int IntKind.u64 ((numN (l.drop m) : Nat) : Int))), (4, AV.c (Cell.int IntKind.i64 ((m : Int) - 1)))], loc := [], heap := H } K
      = K (AExit.exit 0) { env := [(3, AV.c (Cell.int IntKind.u64 ((numN l : Nat) : Int)))], loc := [], heap := H }
  | 0, n, hm => by
    have g : decide (((0 : Nat) : Int) - 1 ≥ 0) = false := by decide
    rw [loopN_step, b14_3, g, cf]; rfl
  | m + 1, n, hm => by
    have hne : l ≠ [] := by rintro rfl; simp at hm
    obtain ⟨sl, rfl, h1, h2, h3⟩ := hs.get hne
    have hb : m < l.length := by omega
    have hlb : l[m]? = some l[m] := List.getElem?_eq_getElem hb
    have hB' := hB l[m] (List.getElem_mem hb)
    have e : (((m + 1 : Nat) : Int) - 1) = m := by omega
    have g : decide ((m : Int) ≥ 0) = true := by simp
    have g2 : (inb (m : Int) sl.len && sl.esz == 1) = true := by rw [h2, h1]; simp [inb]; omega
    have g3 : IntKind.i64.wrap ((m : Int) - 1) = (m : Int) - 1 := wrap_i64 (by omega) (by omega)
    have g4 : sl.off + (m : Int).toNat * 1 = sl.off + m := by rw [Int.toNat_natCast, Nat.mul_one]
    have hlt : numN (l.drop (m + 1)) < 72057594037927936 := by
      have h5 := numN_lt (l.drop (m + 1)) fun b hb => hB b (List.mem_of_mem_drop hb)
      have h6 : (l.drop (m + 1)).length ≤ 7 := by simp; omega
      exact Nat.lt_of_lt_of_le h5 (Nat.le_trans (Nat.pow_le_pow_right (by decide) h6) (by decide))
    have hw : IntKind.u64.wrap (IntKind.u64.wrap (((numN (l.drop (m + 1)) : Nat) : Int) * 256) + IntKind.u64.wrap ((l[m] : Nat) : Int)) = ((numN (l.drop m) : Nat) : Int) := by
      rw [List.drop_eq_getElem_cons hb, numN]
      generalize numN (l.drop (m + 1)) = v at *
      generalize l[m] = b at *
      rw [wrap_u64, wrap_u64, wrap_u64]; omega
    rw [show n + (m + 1) + 1 = (n + m + 1) + 1 by omega, e, loopN_step, b14_3, g]
    simp only [ct, Option.bind_some, g2, g3, g4, h3 m _ hlb]
    show (some _).bind _ = _
    rw [Option.bind_some, hw]
    exact loop14 R (some sl) l hB hmax H hs K m n (by omega)
theorem f14_spec (s : Option Sl) (l : List Nat) (hB : ∀ b ∈ l, b < 256) (hmax : l.length ≤ 8) (H : Heap) (hs : RB H s l) : f14 s H = some (((numN l : Nat) : Int), H) := by
  unfold f14
  rw [fnA_eq, e14]
  have hsl : slen s = (l.length : Int) := by
    have := hs.cells.2
    cases s with
    | none => cases hs; rfl
    | some sl => obtain ⟨h1, _⟩ := hs; simp [slen, h1]
  have g : IntKind.i64.wrap (slen s - 1) = (l.length : Int) - 1 := by rw [hsl]; exact wrap_i64 (by omega) (by omega)
  rw [g]
  obtain ⟨n, hn⟩ := loops_of CC14 (Code.l (Code.l (Code.r (Code.l (Code.r (Code.r (bodyOf Try.f14))))))) { env := [(0, AV.c (Cell.slice s)), (3, AV.c (Cell.int IntKind.u64 0)), (4, AV.c (Cell.int IntKind.i64 ((l.length : Int) - 1)))], loc := [], heap := H } (blockK 0 (seqK (execL CC14 (loops CC14) (Code.r (Code.r (Code.r (bodyOf Try.f14))))) (retA CC14 [ResultVar.tmp 2] (decF dec14)))) l.length (by omega)
  refine (show _ = _ from hn).trans ?_
  have h := loop14 _ s l hB hmax H hs (blockK 0 (seqK (execL CC14 (loops CC14) (Code.r (Code.r (Code.r (bodyOf Try.f14))))) (retA CC14 [ResultVar.tmp 2] (decF dec14)))) l.length n (Nat.le_refl _)
  rw [List.drop_length] at h
  refine (show _ = _ from h).trans ?_
  generalize numN l = v
  show _ = _
  kernel_rfl
/-! 39: rope_View_take -/
noncomputable def C39 : Ctx := { P := Try.prog, own := [], fns := [(36, F36)], nt := 43, nums := [36], live := [] }
noncomputable abbrev CC39 : Ctx := C39
theorem good39 : Callees Try.prog CC39.fns [] CC39.nums := (Callees.nil Try.prog).cons_num ok36 F36_num
abbrev Ty39 := (Option (Nat × Nat)) → Int → Heap → Option ((Int × Bool) × Heap)
def enc39 (r : Int × Bool) : List TV := [.c (Cell.int .i64 (r.1)), .c (Cell.bool (r.2))]
def dec39 : AV → Option (Int × Bool)
  | .tup [.c (Cell.int .i64 q0), .c (Cell.bool q1)] => some (q0, q1)
  | _ => none
theorem de39 (v : AV) (r : Int × Bool) (h : dec39 v = some r) : v = oneOf (enc39 r) := by
  unfold dec39 at h
  split at h
  · cases h; rfl
  · cases h
def sem39 (f : Ty39) : List TV → Heap → Option ((Int × Bool) × Heap)
  | [.c (Cell.ptr v), .c (Cell.int .i64 n)], H => f v n H
  | _, _ => none
noncomputable def f39 : Ty39 := fun v n H => fnA CC39 Try.f39.results.toList (bodyOf Try.f39) _ [.c (Cell.ptr v), .c (Cell.int .i64 n)] H (decF dec39)
theorem e39 : ∀ (R : Type) (v : Option (Nat × Nat)) (n : Int) (H : Heap) (K : AV → Heap → Option R) (lp : Code → St → (AExit → St → Option R) → Option R), fnL C39 lp Try.f39.results.toList (bodyOf Try.f39) [TV.c (Cell.ptr v), TV.c (Cell.int IntKind.i64 n)] H K = bif bif true then v.isNone else !v.isNone then K (AV.tup [TV.c (Cell.int IntKind.i64 0), TV.c (Cell.bool false)]) H else v.bind fun v18 => (H.get v18.fst (v18.snd + 2)).bind fun v17 => (Cell.toInt IntKind.i64 v17).bind fun v16 => bif v16 != 0 then K (AV.tup [TV.c (Cell.int IntKind.i64 0), TV.c (Cell.bool false)]) H else v.bind fun v15 => (H.get v15.fst (v15.snd + 0)).bind fun v14 => v14.toSlice.bind fun v13 => v.bind fun v12 => (H.get v12.fst (v12.snd + 1)).bind fun v11 => (Cell.toInt IntKind.i64 v11).bind fun v10 => bif !rope_store_has v13 v10 n then v.bind fun v1 => (H.put v1.fst (v1.snd + 2) [Cell.int IntKind.i64 7]).bind fun v0 => K (AV.tup [TV.c (Cell.int IntKind.i64 0), TV.c (Cell.bool false)]) v0 else v.bind fun v9 => (H.get v9.fst (v9.snd + 1)).bind fun v8 => (Cell.toInt IntKind.i64 v8).bind fun v7 => v.bind fun v6 => (H.get v6.fst (v6.snd + 1)).bind fun v5 => (Cell.toInt IntKind.i64 v5).bind fun v4 => v.bind fun v3 => (H.put v3.fst (v3.snd + 1) [Cell.int IntKind.i64 (IntKind.i64.wrap (v4 + n))]).bind fun v2 => K (AV.tup [TV.c (Cell.int IntKind.i64 v7), TV.c (Cell.bool true)]) v2 := by intros; kernel_rfl
theorem ok39 : FnOk Try.prog 39 (specF enc39 (sem39 f39)) := by
  refine spec_ok (C := CC39) good39 rfl rfl rfl (by kernel_rfl) Try.func39 (c := bodyOf Try.f39) (by kernel_rfl) (by kernel_rfl) (Nat.le_of_eq Try.ntmps39.symm) dec39 enc39 de39 _ ?_
  intro args H q h
  unfold sem39 at h
  split at h
  · exact h
  · cases h
theorem f39_spec (id : Nat) (s : Option Sl) (l : List Nat) (hmax : l.length < 4611686018427387904) (a w : Nat) (hal : a + w ≤ l.length) (H : Heap) (h : H[id]? = some (.row [.slice s, .int .i64 (a : Int), .int .i64 0] false)) (hb : RB H s l) :
    f39 (some (id, 0)) (w : Int) H = some (((a : Int), true), H.set id (.row [.slice s, .int .i64 ((a + w : Nat) : Int), .int .i64 0] false)) := by
  have g : IntKind.i64.wrap ((a : Int) + (w : Int)) = ((a + w : Nat) : Int) := by rw [wrap_i64 (by omega) (by omega)]; omega
  have z : ((0 : Int) != 0) = false := rfl
  unfold f39
  rw [fnA_eq, e39]
  simp only [ct, cf, Option.isNone_some, Option.bind_some, get_of h, Nat.add_zero, Nat.zero_add, row_get0, row_get1, row_get2, tSlice, tInt, has_true hb hmax hal, Bool.not_true, g, z]
  rw [put_of h (by simp)]
  rfl
/-! 17: rope_View_Num -/
noncomputable def C17 (f39 : Ty39) (f38 : Ty38) : Ctx := { P := Try.prog, own := [], fns := [(33, F33), (38, specF enc38 (sem38 f38)), (39, specF enc39 (sem39 f39))], nt := 39, nums := [33], live := [] }
noncomputable abbrev CC17 : Ctx := C17 f39 f38
theorem good17 : Callees Try.prog CC17.fns [] CC17.nums := (((Callees.nil Try.prog).cons ok39 (specF_nat _ _)).cons ok38 (specF_nat _ _)).cons_num ok33 F33_num
abbrev Ty17 := (Option (Nat × Nat)) → Int → Heap → Option (Int × Heap)
def enc17 (r : Int) : List TV := [.c (Cell.int .u64 (r))]
def dec17 : AV → Option (Int)
  | .c (Cell.int .u64 q0) => some (q0)
  | _ => none
theorem de17 (v : AV) (r : Int) (h : dec17 v = some r) : v = oneOf (enc17 r) := by
  unfold dec17 at h
  split at h
  · cases h; rfl
  · cases h
def sem17 (f : Ty17) : List TV → Heap → Option (Int × Heap)
  | [.c (Cell.ptr v), .c (Cell.int .i64 w)], H => f v w H
  | _, _ => none
noncomputable def f17 : Ty17 := fun v w H => fnA CC17 Try.f17.results.toList (bodyOf Try.f17) _ [.c (Cell.ptr v), .c (Cell.int .i64 w)] H (decF dec17)
theorem e17 : ∀ (R : Type) (f39 : Ty39) (f38 : Ty38) (v : Option (Nat × Nat)) (w : Int) (H : Heap) (K : AV → Heap → Option R) (lp : Code → St → (AExit → St → Option R) → Option R), fnL (C17 f39 f38) lp Try.f17.results.toList (bodyOf Try.f17) [TV.c (Cell.ptr v), TV.c (Cell.int IntKind.i64 w)] H K = bif bif false then v.isNone else !v.isNone then v.bind fun v19 => (H.get v19.fst (v19.snd + 2)).bind fun v18 => (Cell.toInt IntKind.i64 v18).bind fun v17 => bif v17 == 0 then bif !bits_Is w then v.bind fun v6 => (H.put v6.fst (v6.snd + 2) [Cell.int IntKind.i64 2]).bind fun v5 => (f39 v w v5).bind fun v4 => bif !v4.fst.snd then K (AV.c (Cell.int IntKind.u64 0)) v4.snd else v.bind fun v3 => (v4.snd.get v3.fst (v3.snd + 0)).bind fun v2 => v2.toSlice.bind fun v1 => (f38 v1 v4.fst.fst w v4.snd).bind fun v0 => K (AV.c (Cell.int IntKind.u64 v0.fst)) v0.snd else (f39 v w H).bind fun v11 => bif !v11.fst.snd then K (AV.c (Cell.int IntKind.u64 0)) v11.snd else v.bind fun v10 => (v11.snd.get v10.fst (v10.snd + 0)).bind fun v9 => v9.toSlice.bind fun v8 => (f38 v8 v11.fst.fst w v11.snd).bind fun v7 => K (AV.c (Cell.int IntKind.u64 v7.fst)) v7.snd else (f39 v w H).bind fun v16 => bif !v16.fst.snd then K (AV.c (Cell.int IntKind.u64 0)) v16.snd else v.bind fun v15 => (v16.snd.get v15.fst (v15.snd + 0)).bind fun v14 => v14.toSlice.bind fun v13 => (f38 v13 v16.fst.fst w v16.snd).bind fun v12 => K (AV.c (Cell.int IntKind.u64 v12.fst)) v12.snd else (f39 v w H).bind fun v24 => bif !v24.fst.snd then K (AV.c (Cell.int IntKind.u64 0)) v24.snd else v.bind fun v23 => (v24.snd.get v23.fst (v23.snd + 0)).bind fun v22 => v22.toSlice.bind fun v21 => (f38 v21 v24.fst.fst w v24.snd).bind fun v20 => K (AV.c (Cell.int IntKind.u64 v20.fst)) v20.snd := by intros; kernel_rfl
theorem ok17 : FnOk Try.prog 17 (specF enc17 (sem17 f17)) := by
  refine spec_ok (C := CC17) good17 rfl rfl rfl (by kernel_rfl) Try.func17 (c := bodyOf Try.f17) (by kernel_rfl) (by kernel_rfl) (Nat.le_of_eq Try.ntmps17.symm) dec17 enc17 de17 _ ?_
  intro args H q h
  unfold sem17 at h
  split at h
  · exact h
  · cases h
theorem f17_spec (id : Nat) (s : Option Sl) (l : List Nat) (hB : ∀ b ∈ l, b < 256) (hmax : l.length < 4611686018427387904) (a w : Nat) (hw : bits_Is (w : Int) = true) (hal : a + w ≤ l.length) (H : Heap)
    (h : H[id]? = some (.row [.slice s, .int .i64 (a : Int), .int .i64 0] false)) (hb : RB H s l) (hne : ∀ sl, s = some sl → sl.id ≠ id) :
    f17 (some (id, 0)) (w : Int) H = some (((numN ((l.drop a).take w) : Nat) : Int), H.set id (.row [.slice s, .int .i64 ((a + w : Nat) : Int), .int .i64 0] false)) := by
  have h8 : w ≤ 8 := by rcases is_w hw with h | h | h | h <;> omega
  have hid : id < H.length := (List.getElem?_eq_some_iff.1 h).1
  have hb2 : RB (H.set id (.row [.slice s, .int .i64 ((a + w : Nat) : Int), .int .i64 0] false)) s l := hb.stays fun sl e _ => by
    have := hne sl e
    rw [List.getElem?_set_ne (by omega)]
  have z : ((0 : Int) == 0) = true := rfl
  unfold f17
  rw [fnA_eq, e17]
  simp only [ct, cf, Option.isNone_some, Bool.not_false, Option.bind_some, get_of h, Nat.add_zero, Nat.zero_add, row_get2, tInt, z, hw, Bool.not_true, f39_spec id s l hmax a w hal H h hb, get_of (set_get' hid), row_get0, tSlice, f38_spec s l hB hmax a w h8 hal _ hb2]
  rfl
/-! 18: rope_View_Err -/
noncomputable def C18 : Ctx := { P := Try.prog, own := [], fns := [], nt := 9, nums := [], live := [] }
noncomputable abbrev CC18 : Ctx := C18
theorem good18 : Callees Try.prog CC18.fns [] CC18.nums := Callees.nil Try.prog
abbrev Ty18 := (Option (Nat × Nat)) → Heap → Option (Int × Heap)
def enc18 (r : Int) : List TV := [.c (Cell.int .i64 (r))]
def dec18 : AV → Option (Int)
  | .c (Cell.int .i64 q0) => some (q0)
  | _ => none
theorem de18 (v : AV) (r : Int) (h : dec18 v = some r) : v = oneOf (enc18 r) := by
  unfold dec18 at h
  split at h
  · cases h; rfl
  · cases h
def sem18 (f : Ty18) : List TV → Heap → Option (Int × Heap)
  | [.c (Cell.ptr v)], H => f v H
  | _, _ => none
noncomputable def f18 : Ty18 := fun v H => fnA CC18 Try.f18.results.toList (bodyOf Try.f18) _ [.c (Cell.ptr v)] H (decF dec18)
theorem e18 : ∀ (R : Type) (v : Option (Nat × Nat)) (H : Heap) (K : AV → Heap → Option R) (lp : Code → St → (AExit → St → Option R) → Option R), fnL C18 lp Try.f18.results.toList (bodyOf Try.f18) [TV.c (Cell.ptr v)] H K = bif bif true then v.isNone else !v.isNone then K (AV.c (Cell.int IntKind.i64 1)) H else v.bind fun v2 => (H.get v2.fst (v2.snd + 2)).bind fun v1 => (Cell.toInt IntKind.i64 v1).bind fun v0 => K (AV.c (Cell.int IntKind.i64 v0)) H := by intros; kernel_rfl
theorem ok18 : FnOk Try.prog 18 (specF enc18 (sem18 f18)) := by
  refine spec_ok (C := CC18) good18 rfl rfl rfl (by kernel_rfl) Try.func18 (c := bodyOf Try.f18) (by kernel_rfl) (by kernel_rfl) (Nat.le_of_eq Try.ntmps18.symm) dec18 enc18 de18 _ ?_
  intro args H q h
  unfold sem18 at h
  split at h
  · exact h
  · cases h
theorem f18_spec (id : Nat) (c d : Cell) (e : Int) (H : Heap) (h : H[id]? = some (.row [c, d, .int .i64 e] false)) : f18 (some (id, 0)) H = some (e, H) := by
  unfold f18
  rw [fnA_eq, e18]
  simp only [ct, cf, Option.isNone_some, Option.bind_some, get_of h, Nat.zero_add, row_get2, tInt]
  rfl
/-! 19: rope_View_Left -/
noncomputable def C19 : Ctx := { P := Try.prog, own := [], fns := [], nt := 23, nums := [], live := [] }
noncomputable abbrev CC19 : Ctx := C19
theorem good19 : Callees Try.prog CC19.fns [] CC19.nums := Callees.nil Try.prog
abbrev Ty19 := (Option (Nat × Nat)) → Heap → Option (Int × Heap)
def enc19 (r : Int) : List TV := [.c (Cell.int .i64 (r))]
def dec19 : AV → Option (Int)
  | .c (Cell.int .i64 q0) => some (q0)
  | _ => none
theorem de19 (v : AV) (r : Int) (h : dec19 v = some r) : v = oneOf (enc19 r) := by
  unfold dec19 at h
  split at h
  · cases h; rfl
  · cases h
def sem19 (f : Ty19) : List TV → Heap → Option (Int × Heap)
  | [.c (Cell.ptr v)], H => f v H
  | _, _ => none
noncomputable def f19 : Ty19 := fun v H => fnA CC19 Try.f19.results.toList (bodyOf Try.f19) _ [.c (Cell.ptr v)] H (decF dec19)
theorem e19 : ∀ (R : Type) (v : Option (Nat × Nat)) (H : Heap) (K : AV → Heap → Option R) (lp : Code → St → (AExit → St → Option R) → Option R), fnL C19 lp Try.f19.results.toList (bodyOf Try.f19) [TV.c (Cell.ptr v)] H K = bif bif true then v.isNone else !v.isNone then K (AV.c (Cell.int IntKind.i64 0)) H else v.bind fun v8 => (H.get v8.fst (v8.snd + 2)).bind fun v7 => (Cell.toInt IntKind.i64 v7).bind fun v6 => bif v6 != 0 then K (AV.c (Cell.int IntKind.i64 0)) H else v.bind fun v5 => (H.get v5.fst (v5.snd + 0 + 0)).bind fun v4 => v4.toSlice.bind fun v3 => v.bind fun v2 => (H.get v2.fst (v2.snd + 1)).bind fun v1 => (Cell.toInt IntKind.i64 v1).bind fun v0 => K (AV.c (Cell.int IntKind.i64 (IntKind.i64.wrap (slen v3 - v0)))) H := by intros; kernel_rfl
theorem ok19 : FnOk Try.prog 19 (specF enc19 (sem19 f19)) := by
  refine spec_ok (C := CC19) good19 rfl rfl rfl (by kernel_rfl) Try.func19 (c := bodyOf Try.f19) (by kernel_rfl) (by kernel_rfl) (Nat.le_of_eq Try.ntmps19.symm) dec19 enc19 de19 _ ?_
  intro args H q h
  unfold sem19 at h
  split at h
  · exact h
  · cases h
theorem f19_spec (id : Nat) (s : Option Sl) (a : Int) (H : Heap) (h : H[id]? = some (.row [.slice s, .int .i64 a, .int .i64 0] false)) : f19 (some (id, 0)) H = some (IntKind.i64.wrap (slen s - a), H) := by
  have z : ((0 : Int) != 0) = false := rfl
  unfold f19
  rw [fnA_eq, e19]
  simp only [ct, cf, Option.isNone_some, Option.bind_some, get_of h, Nat.zero_add, Nat.add_zero, row_get0, row_get1, row_get2, tSlice, tInt, z]
  rfl
