/- Layer 11: what is known behind code: the document's; JumpsBounds holds. -/
import Derived.Test.YtlhcbcfphognlaaJuF
import Derived.Test.YtlhcbcfphognlaaJu1b
namespace Go.Proofs.Ytlhcbcfphognlaa
open Go Go.Proofs.Ytlhcbcfphognlaa.Ab
set_option linter.unusedVariables false
set_option linter.unusedSimpArgs false
set_option maxRecDepth 100000
noncomputable section
theorem shape_w (x : Ins) (h : x.shape = true) : wOk x.w = true := by
  cases hw : wOk x.w with
  | true => rfl
  | false =>
    unfold wOk at hw
    simp only [Bool.or_eq_false_iff] at hw
    obtain ⟨w1, w2, w4, w8⟩ := hw
    unfold Ins.shape wOk w248 at h
    simp only [w1, w2, w4, w8, Bool.or_self, Bool.false_and, Bool.and_false] at h
    simp at h
theorem shape_op (x : Ins) (h : x.shape = true) : 1 ≤ x.op ∧ x.op ≤ 47 := by
  by_cases e : x.op < 1 ∨ x.op > 47
  · have l : ∀ L, inL x.op L = false := fun L => by unfold inL; rcases e with e | e <;> simp [e]
    unfold Ins.shape at h
    simp only [l, cond_false, Bool.false_and] at h
    cases h
  · omega
theorem rmay_shape (x : Ins) (h : x.rmay = true) : x.shape = true := by
  unfold Ins.rmay at h
  simp only [Bool.and_eq_true] at h
  exact h.1
/-- A word, by its number. -/
theorem word_eq (W : ByteArray) (n : Nat) (h : ∀ k : Fin 48, strEq (wordList[k.val]'k.isLt) W = (k.val == n)) (op : Int) (h1 : 1 ≤ op) (h2 : op ≤ 47) : strEq (wordAt op) W = (op == (n : Int)) := by
  have hk : op.toNat < 48 := by omega
  have hw : wordAt op = wordList[op.toNat]'hk := by unfold wordAt; rw [List.getElem?_eq_getElem hk]; rfl
  rw [hw, h ⟨op.toNat, hk⟩, Bool.eq_iff_iff]
  simp
  omega
theorem word_jcc (op : Int) (h1 : 1 ≤ op) (h2 : op ≤ 47) : strEq (wordAt op) ({ data := #[UInt8.ofNat 106, UInt8.ofNat 99, UInt8.ofNat 99] } : ByteArray) = (op == 36) := word_eq _ 36 (by decide +kernel) op h1 h2
theorem word_cmp (op : Int) (h1 : 1 ≤ op) (h2 : op ≤ 47) : strEq (wordAt op) ({ data := #[UInt8.ofNat 99, UInt8.ofNat 109, UInt8.ofNat 112] } : ByteArray) = (op == 8) := word_eq _ 8 (by decide +kernel) op h1 h2
theorem ge4 (w : Int) (h : wOk w = true) : decide (w ≥ 4) = (w == 4 || w == 8) := by
  have : w = 1 ∨ w = 2 ∨ w = 4 ∨ w = 8 := by simpa [wOk] using h
  rcases this with rfl | rfl | rfl | rfl <;> rfl
theorem f14_x (o : Option Sl) (ys : List Ins) (hy : ys.length ≤ 12) (hw : ∀ x ∈ ys, x.Wf) (H : Heap) (h : RS 20 E20 H o ys) :
    Says (f14 o H) H (if hl : 2 ≤ ys.length then bound2 ys[ys.length - 2] ys[ys.length - 1] else (0, 0, false)) := by
  rw [q14]
  by_cases h2 : 2 ≤ ys.length
  · have g : decide (slen o < 2) = false := by rw [h.slenEq]; simp; omega
    have e1 : IntKind.i64.wrap (slen o - 1) = ((ys.length - 1 : Nat) : Int) := by rw [h.slenEq, wrap_i64 (by omega) (by omega)]; omega
    have e2 : IntKind.i64.wrap (slen o - 2) = ((ys.length - 2 : Nat) : Int) := by rw [h.slenEq, wrap_i64 (by omega) (by omega)]; omega
    rw [dif_pos h2, g, cf, e1, e2]
    have i1 : ys.length - 1 < ys.length := by omega
    have i2 : ys.length - 2 < ys.length := by omega
    have w1 := hw _ (List.getElem_mem i1)
    have w2 := hw _ (List.getElem_mem i2)
    have G1 := fun (H' : Heap) (k : Kx H H') => gets20 (RS.kx h k) (List.getElem?_eq_getElem i1)
    have G2 := fun (H' : Heap) (k : Kx H H') => gets20 (RS.kx h k) (List.getElem?_eq_getElem i2)
    generalize ys[ys.length - 1] = j at *
    generalize ys[ys.length - 2] = c at *
    obtain ⟨sl, rfl, hin, r0, r1, r2, r3, r4, r5, r6, r7, r8, r9, r10, r11, r12, r13, r14, r15, r16, r17, r18, r19⟩ := G1 H (Kx.refl H)
    simp only [ct, Ab.bs, hin, r0, r1, r2, r3, r4, r5, r6, r7, r8, r9, r10, r11, r12, r13, r14, r15, r16, r17, r18, r19, tInt, show ∀ b : Bool, (Cell.bool b).toBool = some b from fun _ => rfl]
    refine says_bind (f8_x j w1 H) fun H1 k1 => ?_
    unfold bound2
    dsimp only
    cases hj : j.rmay
    · simp only [Bool.false_and, Bool.and_false, cf]
      exact says_ret rfl
    · obtain ⟨sl', e, hin', s0, s1, s2, s3, s4, s5, s6, s7, s8, s9, s10, s11, s12, s13, s14, s15, s16, s17, s18, s19⟩ := G2 H1 k1
      cases e
      simp only [Bool.not_true, cf, ct, Ab.bs, hin', s0, s1, s2, s3, s4, s5, s6, s7, s8, s9, s10, s11, s12, s13, s14, s15, s16, s17, s18, s19, tInt, show ∀ b : Bool, (Cell.bool b).toBool = some b from fun _ => rfl]
      refine says_bind (f8_x c w2 H1) fun H2 k2 => ?_
      dsimp only
      cases hc : c.rmay
      · simp only [Bool.false_and, Bool.and_false, cf]
        exact says_ret rfl
      · obtain ⟨sa, ea, hia, a0, a1, a2, a3, a4, a5, a6, a7, a8, a9, a10, a11, a12, a13, a14, a15, a16, a17, a18, a19⟩ := G1 H2 (k1.trans k2)
        obtain ⟨sb, eb, hib, b0, b1, b2, b3, b4, b5, b6, b7, b8, b9, b10, b11, b12, b13, b14, b15, b16, b17, b18, b19⟩ := G2 H2 (k1.trans k2)
        cases ea; cases eb
        obtain ⟨p1, p2⟩ := shape_op j (rmay_shape j hj)
        obtain ⟨p3, p4⟩ := shape_op c (rmay_shape c hc)
        have p5 := shape_w c (rmay_shape c hc)
        have gw := fun (X : Heap) (op : Int) (a : 0 ≤ op) (b : op ≤ 47) => get_word X op a b
        obtain ⟨m1, m2⟩ := get_word H2 j.op (by omega) p2
        obtain ⟨m3, m4⟩ := get_word (H2 ++ [Blk.row (wordList.map Cell.str) false]) c.op (by omega) p4
        simp only [Bool.not_true, cf, ct, Ab.bs, hia, hib, a0, a1, a2, a3, a4, a5, a6, a7, a8, a9, a10, a11, a12, a13, a14, a15, a16, a17, a18, a19, b0, b1, b2, b3, b4, b5, b6, b7, b8, b9, b10, b11, b12, b13, b14, b15, b16, b17, b18, b19, tInt, show ∀ b : Bool, (Cell.bool b).toBool = some b from fun _ => rfl, f29_v, m1, m2, m3, m4, beq_self_eq_true, Bool.and_self, show ∀ s, (Cell.str s).toStr = some s from fun _ => rfl, word_jcc j.op p1 p2, word_cmp c.op p3 p4, ge4 c.w p5, bne, Bool.true_and]
        have x63 : decide (c.imm > 63) = decide (c.imm ≥ 64) := by rw [decide_eq_decide]; omega
        rw [x63]
        cases (j.op == 36) <;> cases (j.cc == 7) <;> cases (c.op == 8) <;> cases (c.w == 4) <;> cases (c.w == 8) <;> cases (c.a.k == 1) <;> cases (c.b.k == 3) <;> cases decide (c.imm < 0) <;> cases decide (c.imm ≥ 64) <;> first | exact says_push (says_ret rfl) | exact says_push (says_push (says_ret rfl))
  · have g : decide (slen o < 2) = true := by rw [h.slenEq]; simp; omega
    rw [dif_neg h2, g, ct]
    exact says_ret rfl
theorem f4_true (l : Option Sl) (xs : List Ins) (hl : xs.length ≤ maxLen) (hw : ∀ x ∈ xs, x.Wf) (H : Heap) (h : RS 20 E20 H l xs) : ∃ H', f4 l H = some (true, H') := by
  obtain ⟨l', o, H1, a1, a2, a3, a4⟩ := f12_x l xs hl H h
  have hw' : ∀ x ∈ xs.take 12, x.Wf := fun x hx => hw x (List.mem_of_mem_take hx)
  have hy : (xs.take 12).length ≤ 12 := by simp; omega
  obtain ⟨H2, b1, b2⟩ := f13_x o _ hy hw' H1 a3
  obtain ⟨H3, c1, c2⟩ := f14_x l' _ hy hw' H2 (RS.kx a2 b2)
  refine ⟨H3, ?_⟩
  rw [q4, a1, Ab.bs]
  dsimp only
  rw [b1, Ab.bs]
  dsimp only
  rw [c1, Ab.bs]
  simp only [beq_self_eq_true, ct]
def E6 (o : Od) : List Cell := [.int .i64 o.k, .int .i64 o.r, .int .i64 o.b, .int .i64 o.i, .int .i64 o.s, .int .i64 o.d]
theorem i64_of {x : Int} (hx : (Lit.int .i64 x).wf = true) : -9223372036854775808 ≤ x ∧ x < 9223372036854775808 := by
  have : -9223372036854775808 ≤ x ∧ x ≤ 9223372036854775807 := by simpa [Lit.wf, IntKind.min, IntKind.max, IntKind.signed, IntKind.bits] using hx
  omega
theorem od_of {H : Heap} {n : Nat} (cs : List Cell) (h : Sh Try.prog H (n + 2) 23 cs) : ∃ o : Od, cs = E6 o ∧ -9223372036854775808 ≤ o.d ∧ o.d < 9223372036854775808 := by
  obtain ⟨h1, h2⟩ := sh_struct h Try.underlying23
  have h1 : cs.length = 6 := h1.trans (by kernel_rfl)
  obtain ⟨y0, z0, _⟩ := sh_int (h2 0 _ rfl) Try.underlying3
  obtain ⟨y1, z1, _⟩ := sh_int (h2 1 _ rfl) Try.underlying3
  obtain ⟨y2, z2, _⟩ := sh_int (h2 2 _ rfl) Try.underlying3
  obtain ⟨y3, z3, _⟩ := sh_int (h2 3 _ rfl) Try.underlying3
  obtain ⟨y4, z4, _⟩ := sh_int (h2 4 _ rfl) Try.underlying3
  obtain ⟨y5, z5, q⟩ := sh_int (h2 5 _ rfl) Try.underlying2
  have hc : Try.prog.cellsOf 3 = 1 := by kernel_rfl
  have hd : Try.prog.cellsOf 2 = 1 := by kernel_rfl
  rw [hc] at z0 z1 z2 z3 z4
  rw [hd] at z5
  have w0 := drop_app (o := 0) z0 rfl
  have w1 := drop_app (o := 1) z1 rfl
  have w2 := drop_app (o := 2) z2 rfl
  have w3 := drop_app (o := 3) z3 rfl
  have w4 := drop_app (o := 4) z4 rfl
  have w5 := drop_app (o := 5) z5 rfl
  have w6 : cs.drop 6 = [] := List.drop_eq_nil_of_le (by omega)
  exact ⟨⟨y0, y1, y2, y3, y4, y5⟩, by rw [List.drop_zero] at w0; rw [w0, w1, w2, w3, w4, w5, w6]; rfl, i64_of q⟩
theorem ins_of {H : Heap} {n : Nat} (cs : List Cell) (h : Sh Try.prog H (n + 3) 25 cs) : ∃ x : Ins, cs = E20 x ∧ x.Wf := by
  obtain ⟨h1, h2⟩ := sh_struct h Try.underlying25
  have h1 : cs.length = 20 := h1.trans (by kernel_rfl)
  have hc : Try.prog.cellsOf 3 = 1 := by kernel_rfl
  have hd : Try.prog.cellsOf 2 = 1 := by kernel_rfl
  have hb : Try.prog.cellsOf 4 = 1 := by kernel_rfl
  have ho : Try.prog.cellsOf 23 = 6 := by kernel_rfl
  obtain ⟨y0, z0, _⟩ := sh_int (h2 0 _ rfl) Try.underlying3
  obtain ⟨y1, z1, _⟩ := sh_int (h2 1 _ rfl) Try.underlying3
  obtain ⟨y2, z2, _⟩ := sh_int (h2 2 _ rfl) Try.underlying3
  obtain ⟨a, za, a1, a2⟩ := od_of _ (h2 3 _ rfl)
  obtain ⟨b, zb, b1, b2⟩ := od_of _ (h2 4 _ rfl)
  obtain ⟨y5, z5, q⟩ := sh_int (h2 5 _ rfl) Try.underlying2
  obtain ⟨y6, z6, _⟩ := sh_int (h2 6 _ rfl) Try.underlying3
  obtain ⟨y7, z7⟩ := sh_bool (h2 7 _ rfl) Try.underlying4
  obtain ⟨y8, z8⟩ := sh_bool (h2 8 _ rfl) Try.underlying4
  obtain ⟨y9, z9, _⟩ := sh_int (h2 9 _ rfl) Try.underlying3
  rw [hc] at z0 z1 z2 z6 z9
  rw [hd] at z5
  rw [hb] at z7 z8
  rw [ho] at za zb
  have w0 := drop_app (o := 0) z0 rfl
  have w1 := drop_app (o := 1) z1 rfl
  have w2 := drop_app (o := 2) z2 rfl
  have w3 := drop_app (o := 3) za rfl
  have w4 := drop_app (o := 9) zb rfl
  have w5 := drop_app (o := 15) z5 rfl
  have w6 := drop_app (o := 16) z6 rfl
  have w7 := drop_app (o := 17) z7 rfl
  have w8 := drop_app (o := 18) z8 rfl
  have w9 := drop_app (o := 19) z9 rfl
  have wx : cs.drop 20 = [] := List.drop_eq_nil_of_le (by omega)
  obtain ⟨q1, q2⟩ := i64_of q
  exact ⟨⟨y0, y1, y2, a, b, y5, y6, y7, y8, y9⟩, by rw [List.drop_zero] at w0; rw [w0, w1, w2, w3, w4, w5, w6, w7, w8, w9, wx]; rfl, ⟨a1, a2, b1, b2, q1, q2⟩⟩
theorem holds4 (Hp : Heap) (xs : List TV) (_hn : NoOwn Hp) (hxs : TShAll Try.prog Hp 12 Try.f4.params.toList xs) : fnA CC4 Try.f4.results.toList (bodyOf Try.f4) Bool xs Hp (fun x _ => x.cell.bind Cell.toBool) = some true := by
  have hp : Try.f4.params.toList = [39] := by kernel_rfl
  rw [hp] at hxs
  obtain ⟨x0, xr, rfl, t0, hnil⟩ := hxs
  subst hnil
  obtain ⟨c0, rfl, s0⟩ := tsh_c t0 (by simp [Try.underlying39]) (by simp [Try.underlying39])
  obtain ⟨l, is, e0, hl, hw, _, hm⟩ := sh_slice E20 (fun x => x.Wf) E20_len s0 Try.underlying39 (k := 20) (by kernel_rfl) (fun cs h => ins_of cs h)
  cases e0
  obtain ⟨H', h⟩ := f4_true l is hm hw Hp hl
  rw [f4_eq] at h
  exact law_of hN4 (fun v hv => by
    unfold dec4 at hv
    split at hv
    · cases hv; rfl
    · cases hv) h
end
end Go.Proofs.Ytlhcbcfphognlaa
