/- Layer 11: the document's May, and that both say the same. -/
import Derived.Test.YtlhcbcfphognlaaJuC
namespace Go.Proofs.Ytlhcbcfphognlaa
open Go Go.Proofs.Ytlhcbcfphognlaa.Ab
set_option linter.unusedVariables false
set_option linter.unusedSimpArgs false
set_option maxRecDepth 100000
noncomputable section
def Ins.shape (x : Ins) : Bool :=
  bif inL x.op [1, 2, 3, 4, 5, 6, 7, 8, 10] then wOk x.w && ((x.a.k == 1 || x.a.k == 2) && ((x.b.k == 1 || (x.b.k == 2 || x.b.k == 3)) && (!(x.a.k == 2) || !(x.b.k == 2))))
  else bif inL x.op [9] then wOk x.w && ((x.a.k == 1 || x.a.k == 2) && (x.b.k == 1 || x.b.k == 3))
  else bif inL x.op [11, 12, 24, 25, 34] then w248 x.w && (x.a.k == 1 && (x.b.k == 1 || x.b.k == 2))
  else bif inL x.op [13] then w248 x.w && (x.a.k == 1 && x.b.k == 2)
  else bif inL x.op [14] then x.w == 8 && ((x.a.k == 1 || (x.a.k == 2 || x.a.k == 3)) && x.b.k == 0)
  else bif inL x.op [15] then x.w == 8 && ((x.a.k == 1 || x.a.k == 2) && x.b.k == 0)
  else bif inL x.op [16, 17, 18, 19, 20, 21] then wOk x.w && ((x.a.k == 1 || x.a.k == 2) && x.b.k == 0)
  else bif inL x.op [22, 23] then (x.w == 1 || (x.w == 2 || x.w == 4)) && ((x.a.k == 1 || x.a.k == 2) && x.b.k == 0)
  else bif inL x.op [26, 27, 28, 29, 30] then wOk x.w && ((x.a.k == 1 || x.a.k == 2) && (x.b.k == 3 || (x.b.k == 1 && x.b.r == 1)))
  else bif inL x.op [31, 32, 33] then wOk x.w && ((x.a.k == 1 || x.a.k == 2) && x.b.k == 1)
  else bif inL x.op [35] then x.w == 1 && ((x.a.k == 1 || x.a.k == 2) && x.b.k == 0)
  else bif inL x.op [37, 38] then x.w == 8 && ((x.a.k == 0 || (x.a.k == 1 || x.a.k == 2)) && x.b.k == 0)
  else bif inL x.op [40, 41] then w248 x.w && (x.a.k == 0 && x.b.k == 0)
  else bif inL x.op [42, 43] then wOk x.w && (x.a.k == 0 && x.b.k == 0)
  else inL x.op [36, 39, 44, 45, 46, 47] && (x.w == 8 && (x.a.k == 0 && x.b.k == 0))
def Ins.hasImm (x : Ins) : Bool := x.a.k == 3 || (x.b.k == 3 || (inL x.op [25, 36] || (inL x.op [37, 38] && x.a.k == 0)))
def Ins.immR (x : Ins) : Bool :=
  bif !x.hasImm then x.imm == 0
  else bif inL x.op [26, 27, 28, 29, 30] then decide (x.imm ≥ 0) && decide (x.imm ≤ 255)
  else bif inL x.op [10] && (x.w == 8 && x.a.k == 1) then true
  else bif decide (IntKind.i64.wrap (8 * x.w) > 32) then fitsR x.imm 32 else fitsR x.imm (IntKind.i64.wrap (8 * x.w))
def Ins.w2R (x : Ins) : Bool := x.w2 == 1 || ((x.w2 == 2 && decide (x.w ≥ 4)) || (x.w2 == 4 && (x.w == 8 && inL x.op [12])))
def Ins.rmay (x : Ins) : Bool :=
  x.shape && (odMay x.a && (odMay x.b && (x.immR && (!decide (x.len < 0) && (!decide (x.len > 15) &&
    ((bif inL x.op [34, 35, 36] then !decide (x.cc < 0) && !decide (x.cc > 15) else x.cc == 0) &&
    ((bif inL x.op [11, 12] then x.w2R else x.w2 == 0) &&
    (!(x.lock && (!(x.a.k == 2) || !inL x.op [1, 2, 3, 4, 5, 6, 7, 16, 17, 18, 19, 31, 32, 33])) &&
    (!x.rep || inL x.op [42, 43])))))))))
theorem says_ifn {α : Type} {c : Bool} {a b : Option (α × Heap)} {H : Heap} {v : α} (h1 : c = false → Says a H v) (h2 : c = true → Says b H v) : Says (bif !c then a else b) H v := by
  cases c
  · exact h1 rfl
  · exact h2 rfl
theorem f43_x (x : Ins) (H : Heap) : Says (f43 x.op x.w x.w2 x.a.k x.a.r x.a.b x.a.i x.a.s x.a.d x.b.k x.b.r x.b.b x.b.i x.b.s x.b.d x.imm x.cc x.lock x.rep x.len H) H x.hasImm := by
  rw [q43]
  unfold Ins.hasImm
  repeat' (first
    | exact says_ret rfl
    | (refine says_ifn (fun hc => ?_) (fun hc => ?_) <;> try simp only [*, cond_true, cond_false, Bool.true_and, Bool.false_and, Bool.and_false, Bool.and_true, Bool.true_or, Bool.false_or, Bool.or_false, Bool.or_true, Bool.not_true, Bool.not_false])
    | (refine says_if (fun hc => ?_) (fun hc => ?_) <;> try simp only [*, cond_true, cond_false, Bool.true_and, Bool.false_and, Bool.and_false, Bool.and_true, Bool.true_or, Bool.false_or, Bool.or_false, Bool.or_true, Bool.not_true, Bool.not_false])
    | (refine says_bind (f25_x _ _ _ _ _ _ _ _ _ _ _ _ _ _ _ _ _ _ _ _ _ (by decide) _) fun H' _ => ?_
       dsimp only
       try simp only [is_add_or_adc_sbb_and_sub_xor_cmp_mov, is_add_or_adc_sbb_and_sub_xor_inc_dec_not_neg_xchg_cas_xadd, is_cmov_set_jcc, is_div_sdiv, is_imuli_jcc, is_inc_dec_not_neg_mul_smul, is_jcc_ret_fence_nop_sys_ud, is_jmp_call, is_lea, is_mov, is_movs_stos, is_movsx, is_movzx_movsx, is_movzx_movsx_imul_imuli_cmov, is_pop, is_push, is_rol_ror_shl_shr_sar, is_set, is_test, is_wide_sign, is_xchg_cas_xadd]
       try simp only [*, cond_true, cond_false, Bool.true_and, Bool.false_and, Bool.and_false, Bool.and_true, Bool.true_or, Bool.false_or, Bool.or_false, Bool.or_true, Bool.not_true, Bool.not_false]))
theorem f24_x (x : Ins) (H : Heap) : Says (f24 x.op x.w x.w2 x.a.k x.a.r x.a.b x.a.i x.a.s x.a.d x.b.k x.b.r x.b.b x.b.i x.b.s x.b.d x.imm x.cc x.lock x.rep x.len H) H x.immR := by
  rw [q24]
  simp only [g42_g, Ab.bs]
  refine says_bind (f43_x x H) fun H' _ => ?_
  unfold Ins.immR
  dsimp only
  repeat' (first
    | exact says_ret rfl
    | (refine says_ifn (fun hc => ?_) (fun hc => ?_) <;> try simp only [*, cond_true, cond_false, Bool.true_and, Bool.false_and, Bool.and_false, Bool.and_true, Bool.true_or, Bool.false_or, Bool.or_false, Bool.or_true, Bool.not_true, Bool.not_false])
    | (refine says_if (fun hc => ?_) (fun hc => ?_) <;> try simp only [*, cond_true, cond_false, Bool.true_and, Bool.false_and, Bool.and_false, Bool.and_true, Bool.true_or, Bool.false_or, Bool.or_false, Bool.or_true, Bool.not_true, Bool.not_false])
    | (refine says_bind (f25_x _ _ _ _ _ _ _ _ _ _ _ _ _ _ _ _ _ _ _ _ _ (by decide) _) fun H' _ => ?_
       dsimp only
       try simp only [is_add_or_adc_sbb_and_sub_xor_cmp_mov, is_add_or_adc_sbb_and_sub_xor_inc_dec_not_neg_xchg_cas_xadd, is_cmov_set_jcc, is_div_sdiv, is_imuli_jcc, is_inc_dec_not_neg_mul_smul, is_jcc_ret_fence_nop_sys_ud, is_jmp_call, is_lea, is_mov, is_movs_stos, is_movsx, is_movzx_movsx, is_movzx_movsx_imul_imuli_cmov, is_pop, is_push, is_rol_ror_shl_shr_sar, is_set, is_test, is_wide_sign, is_xchg_cas_xadd]
       try simp only [*, cond_true, cond_false, Bool.true_and, Bool.false_and, Bool.and_false, Bool.and_true, Bool.true_or, Bool.false_or, Bool.or_false, Bool.or_true, Bool.not_true, Bool.not_false]))
theorem f22_x (x : Ins) (H : Heap) : Says (f22 x.op x.w x.w2 x.a.k x.a.r x.a.b x.a.i x.a.s x.a.d x.b.k x.b.r x.b.b x.b.i x.b.s x.b.d x.imm x.cc x.lock x.rep x.len H) H x.shape := by
  rw [q22]
  simp (disch := decide) only [g40_x x, g41_x x.a, g41_x x.b, Ab.bs]
  simp only [w1248, w248_, w124, w8_, w1_, krm, krmi, kri, kr, km, ki, kn, knrm]
  unfold Ins.shape
  simp only [bne]
  repeat' (first
    | exact says_ret rfl
    | (refine says_ifn (fun hc => ?_) (fun hc => ?_) <;> try simp only [*, cond_true, cond_false, Bool.true_and, Bool.false_and, Bool.and_false, Bool.and_true, Bool.true_or, Bool.false_or, Bool.or_false, Bool.or_true, Bool.not_true, Bool.not_false])
    | (refine says_if (fun hc => ?_) (fun hc => ?_) <;> try simp only [*, cond_true, cond_false, Bool.true_and, Bool.false_and, Bool.and_false, Bool.and_true, Bool.true_or, Bool.false_or, Bool.or_false, Bool.or_true, Bool.not_true, Bool.not_false])
    | (refine says_bind (f25_x _ _ _ _ _ _ _ _ _ _ _ _ _ _ _ _ _ _ _ _ _ (by decide) _) fun H' _ => ?_
       dsimp only
       try simp only [is_add_or_adc_sbb_and_sub_xor_cmp_mov, is_add_or_adc_sbb_and_sub_xor_inc_dec_not_neg_xchg_cas_xadd, is_cmov_set_jcc, is_div_sdiv, is_imuli_jcc, is_inc_dec_not_neg_mul_smul, is_jcc_ret_fence_nop_sys_ud, is_jmp_call, is_lea, is_mov, is_movs_stos, is_movsx, is_movzx_movsx, is_movzx_movsx_imul_imuli_cmov, is_pop, is_push, is_rol_ror_shl_shr_sar, is_set, is_test, is_wide_sign, is_xchg_cas_xadd]
       try simp only [*, cond_true, cond_false, Bool.true_and, Bool.false_and, Bool.and_false, Bool.and_true, Bool.true_or, Bool.false_or, Bool.or_false, Bool.or_true, Bool.not_true, Bool.not_false]))
theorem f8_x (x : Ins) (h : x.Wf) (H : Heap) : Says (f8 x.op x.w x.w2 x.a.k x.a.r x.a.b x.a.i x.a.s x.a.d x.b.k x.b.r x.b.b x.b.i x.b.s x.b.d x.imm x.cc x.lock x.rep x.len H) H x.rmay := by
  rw [q8]
  simp only [g23_v x.a h.a1 h.a2, g23_v x.b h.b1 h.b2, Ab.bs]
  refine says_bind (f22_x x H) fun H1 _ => ?_
  unfold Ins.rmay
  dsimp only
  refine says_if (fun hc => ?_) (fun hc => ?_)
  · rw [show x.shape = false by simpa using hc]; exact says_ret rfl
  rw [show x.shape = true by simpa using hc, Bool.true_and]
  refine says_if (fun hc => ?_) (fun hc => ?_)
  · rw [show odMay x.a = false by simpa using hc]; exact says_ret rfl
  rw [show odMay x.a = true by simpa using hc, Bool.true_and]
  refine says_if (fun hc => ?_) (fun hc => ?_)
  · rw [show odMay x.b = false by simpa using hc]; exact says_ret rfl
  rw [show odMay x.b = true by simpa using hc, Bool.true_and]
  refine says_bind (f24_x x H1) fun H2 _ => ?_
  dsimp only
  refine says_if (fun hc => ?_) (fun hc => ?_)
  · rw [show x.immR = false by simpa using hc]; exact says_ret rfl
  rw [show x.immR = true by simpa using hc, Bool.true_and]
  unfold Ins.w2R
  simp only [bne]
  repeat' (first
    | exact says_ret rfl
    | (refine says_ifn (fun hc => ?_) (fun hc => ?_) <;> try simp only [*, cond_true, cond_false, Bool.true_and, Bool.false_and, Bool.and_false, Bool.and_true, Bool.true_or, Bool.false_or, Bool.or_false, Bool.or_true, Bool.not_true, Bool.not_false])
    | (refine says_if (fun hc => ?_) (fun hc => ?_) <;> try simp only [*, cond_true, cond_false, Bool.true_and, Bool.false_and, Bool.and_false, Bool.and_true, Bool.true_or, Bool.false_or, Bool.or_false, Bool.or_true, Bool.not_true, Bool.not_false])
    | (refine says_bind (f25_x _ _ _ _ _ _ _ _ _ _ _ _ _ _ _ _ _ _ _ _ _ (by decide) _) fun H' _ => ?_
       dsimp only
       try simp only [is_add_or_adc_sbb_and_sub_xor_cmp_mov, is_add_or_adc_sbb_and_sub_xor_inc_dec_not_neg_xchg_cas_xadd, is_cmov_set_jcc, is_div_sdiv, is_imuli_jcc, is_inc_dec_not_neg_mul_smul, is_jcc_ret_fence_nop_sys_ud, is_jmp_call, is_lea, is_mov, is_movs_stos, is_movsx, is_movzx_movsx, is_movzx_movsx_imul_imuli_cmov, is_pop, is_push, is_rol_ror_shl_shr_sar, is_set, is_test, is_wide_sign, is_xchg_cas_xadd]
       try simp only [*, cond_true, cond_false, Bool.true_and, Bool.false_and, Bool.and_false, Bool.and_true, Bool.true_or, Bool.false_or, Bool.or_false, Bool.or_true, Bool.not_true, Bool.not_false]))
end
end Go.Proofs.Ytlhcbcfphognlaa
