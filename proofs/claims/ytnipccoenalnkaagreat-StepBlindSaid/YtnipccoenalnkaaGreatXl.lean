/- Layer 10's laws: their functions. -/
import Derived.Test.YtnipccoenalnkaaGreatXs
namespace Go.Proofs.YtnipccoenalnkaaGreat
open Go Go.Proofs.YtnipccoenalnkaaGreat.Ab
set_option linter.unusedVariables false
set_option linter.unusedSimpArgs false
set_option maxRecDepth 100000
noncomputable section
def s_add : ByteArray := ⟨#[97, 100, 100]⟩
def s_or : ByteArray := ⟨#[111, 114]⟩
def s_adc : ByteArray := ⟨#[97, 100, 99]⟩
def s_sbb : ByteArray := ⟨#[115, 98, 98]⟩
def s_and : ByteArray := ⟨#[97, 110, 100]⟩
def s_sub : ByteArray := ⟨#[115, 117, 98]⟩
def s_xor : ByteArray := ⟨#[120, 111, 114]⟩
def s_cmp : ByteArray := ⟨#[99, 109, 112]⟩
def s_test : ByteArray := ⟨#[116, 101, 115, 116]⟩
def s_mov : ByteArray := ⟨#[109, 111, 118]⟩
def s_movzx : ByteArray := ⟨#[109, 111, 118, 122, 120]⟩
def s_movsx : ByteArray := ⟨#[109, 111, 118, 115, 120]⟩
def s_lea : ByteArray := ⟨#[108, 101, 97]⟩
def s_push : ByteArray := ⟨#[112, 117, 115, 104]⟩
def s_pop : ByteArray := ⟨#[112, 111, 112]⟩
def s_inc : ByteArray := ⟨#[105, 110, 99]⟩
def s_dec : ByteArray := ⟨#[100, 101, 99]⟩
def s_not : ByteArray := ⟨#[110, 111, 116]⟩
def s_neg : ByteArray := ⟨#[110, 101, 103]⟩
def s_mul : ByteArray := ⟨#[109, 117, 108]⟩
def s_smul : ByteArray := ⟨#[115, 109, 117, 108]⟩
def s_div : ByteArray := ⟨#[100, 105, 118]⟩
def s_sdiv : ByteArray := ⟨#[115, 100, 105, 118]⟩
def s_imul : ByteArray := ⟨#[105, 109, 117, 108]⟩
def s_imuli : ByteArray := ⟨#[105, 109, 117, 108, 105]⟩
def s_rol : ByteArray := ⟨#[114, 111, 108]⟩
def s_ror : ByteArray := ⟨#[114, 111, 114]⟩
def s_shl : ByteArray := ⟨#[115, 104, 108]⟩
def s_shr : ByteArray := ⟨#[115, 104, 114]⟩
def s_sar : ByteArray := ⟨#[115, 97, 114]⟩
def s_xchg : ByteArray := ⟨#[120, 99, 104, 103]⟩
def s_cas : ByteArray := ⟨#[99, 97, 115]⟩
def s_xadd : ByteArray := ⟨#[120, 97, 100, 100]⟩
def s_cmov : ByteArray := ⟨#[99, 109, 111, 118]⟩
def s_set : ByteArray := ⟨#[115, 101, 116]⟩
def s_jcc : ByteArray := ⟨#[106, 99, 99]⟩
def s_jmp : ByteArray := ⟨#[106, 109, 112]⟩
def s_call : ByteArray := ⟨#[99, 97, 108, 108]⟩
def s_ret : ByteArray := ⟨#[114, 101, 116]⟩
def s_wide : ByteArray := ⟨#[119, 105, 100, 101]⟩
def s_sign : ByteArray := ⟨#[115, 105, 103, 110]⟩
def s_movs : ByteArray := ⟨#[109, 111, 118, 115]⟩
def s_stos : ByteArray := ⟨#[115, 116, 111, 115]⟩
def s_fence : ByteArray := ⟨#[102, 101, 110, 99, 101]⟩
def s_nop : ByteArray := ⟨#[110, 111, 112]⟩
def s_sys : ByteArray := ⟨#[115, 121, 115]⟩
def s_ud : ByteArray := ⟨#[117, 100]⟩
def s_add_or_adc_sbb_and_sub_xor_cmp_mov : ByteArray := ⟨#[97, 100, 100, 32, 111, 114, 32, 97, 100, 99, 32, 115, 98, 98, 32, 97, 110, 100, 32, 115, 117, 98, 32, 120, 111, 114, 32, 99, 109, 112, 32, 109, 111, 118]⟩
def s_1248 : ByteArray := ⟨#[49, 50, 52, 56]⟩
def s_rm : ByteArray := ⟨#[114, 109]⟩
def s_rmi : ByteArray := ⟨#[114, 109, 105]⟩
def s_ri : ByteArray := ⟨#[114, 105]⟩
def s_movzx_movsx_imul_imuli_cmov : ByteArray := ⟨#[109, 111, 118, 122, 120, 32, 109, 111, 118, 115, 120, 32, 105, 109, 117, 108, 32, 105, 109, 117, 108, 105, 32, 99, 109, 111, 118]⟩
def s_248 : ByteArray := ⟨#[50, 52, 56]⟩
def s_r : ByteArray := ⟨#[114]⟩
def s_m : ByteArray := ⟨#[109]⟩
def s_8 : ByteArray := ⟨#[56]⟩
def s_n : ByteArray := ⟨#[110]⟩
def s_inc_dec_not_neg_mul_smul : ByteArray := ⟨#[105, 110, 99, 32, 100, 101, 99, 32, 110, 111, 116, 32, 110, 101, 103, 32, 109, 117, 108, 32, 115, 109, 117, 108]⟩
def s_div_sdiv : ByteArray := ⟨#[100, 105, 118, 32, 115, 100, 105, 118]⟩
def s_124 : ByteArray := ⟨#[49, 50, 52]⟩
def s_rol_ror_shl_shr_sar : ByteArray := ⟨#[114, 111, 108, 32, 114, 111, 114, 32, 115, 104, 108, 32, 115, 104, 114, 32, 115, 97, 114]⟩
def s_i : ByteArray := ⟨#[105]⟩
def s_xchg_cas_xadd : ByteArray := ⟨#[120, 99, 104, 103, 32, 99, 97, 115, 32, 120, 97, 100, 100]⟩
def s_1 : ByteArray := ⟨#[49]⟩
def s_jmp_call : ByteArray := ⟨#[106, 109, 112, 32, 99, 97, 108, 108]⟩
def s_nrm : ByteArray := ⟨#[110, 114, 109]⟩
def s_wide_sign : ByteArray := ⟨#[119, 105, 100, 101, 32, 115, 105, 103, 110]⟩
def s_movs_stos : ByteArray := ⟨#[109, 111, 118, 115, 32, 115, 116, 111, 115]⟩
def s_jcc_ret_fence_nop_sys_ud : ByteArray := ⟨#[106, 99, 99, 32, 114, 101, 116, 32, 102, 101, 110, 99, 101, 32, 110, 111, 112, 32, 115, 121, 115, 32, 117, 100]⟩
def s_imuli_jcc : ByteArray := ⟨#[105, 109, 117, 108, 105, 32, 106, 99, 99]⟩
def s_cmov_set_jcc : ByteArray := ⟨#[99, 109, 111, 118, 32, 115, 101, 116, 32, 106, 99, 99]⟩
def s_movzx_movsx : ByteArray := ⟨#[109, 111, 118, 122, 120, 32, 109, 111, 118, 115, 120]⟩
def s_add_or_adc_sbb_and_sub_xor_inc_dec_not_neg_xchg_cas_xadd : ByteArray := ⟨#[97, 100, 100, 32, 111, 114, 32, 97, 100, 99, 32, 115, 98, 98, 32, 97, 110, 100, 32, 115, 117, 98, 32, 120, 111, 114, 32, 105, 110, 99, 32, 100, 101, 99, 32, 110, 111, 116, 32, 110, 101, 103, 32, 120, 99, 104, 103, 32, 99, 97, 115, 32, 120, 97, 100, 100]⟩
/-! 8: L10_Start_worlds -/
noncomputable def CC8 : Ctx := mkC (P := Tryz.prog) [(SF.spec ok22), (SF.spec ok28), (SF.spec ok29), (SF.spec ok30), (SF.spec ok31), (SF.spec ok32), (SF.spec ok33)] [1, 8] 71 [(7, ⟨[4, 5, 6, 24, 25, 26], [], [5, 6], []⟩)]
noncomputable def f8 : TStart → Heap → Option ((PO × PO) × Heap) := hide (mkF CC8 Tryz.f8 [.g _ cStart] [ptS, ptS])
theorem h8 : IsF CC8 Tryz.f8 [.g _ cStart] [ptS, ptS] f8 := hide_eq _
noncomputable def P8_7 : Code := (Code.l (Code.l (Code.r (Code.l (Code.r (Code.r (Code.r (Code.r (bodyOf Tryz.f8)))))))))
def S8_7 (t4 : SO) (t5 t6 : PO) (t24 : SO) (t25 t26 : Int) (H : Heap) : St := ⟨[(4, .c (Cell.slice t4)), (5, .c (Cell.ptr t5)), (6, .c (Cell.ptr t6)), (24, .c (Cell.slice t24)), (25, .c (Cell.int .i64 t25)), (26, .c (Cell.int .i64 t26))], [], H⟩
noncomputable def D8_7 : Nat → St → Option (AExit × St) := dOf CC8 P8_7
noncomputable def LL8_7 : St → Option (AExit × St) := loopsD CC8 P8_7
theorem LL8_7_of (m : Nat) (hm : m < 18446744073709551616) (s : St) : ∃ n, LL8_7 s = D8_7 (n + m + 1) s := loopsD_of _ _ _ m hm
def X8_7 (x0 : PO) (x1 : PO) (H : Heap) : St := St.mk [(5, AV.c (Cell.ptr x0)), (6, AV.c (Cell.ptr x1))] [] H
noncomputable def J8_7 : AExit × St → Option ((Option (Nat × Nat) × Option (Nat × Nat)) × Heap) := fun p => blockK 0 (seqK (execL CC8 (lpD CC8) (Code.r (Code.r (Code.r (Code.r (Code.r (bodyOf Tryz.f8))))))) (retA CC8 [ResultVar.tmp 2, ResultVar.tmp 3] (decF (decR [ptS, ptS])))) p.1 p.2
theorem D8_7_s : ∀ (n : Nat) (t4 : SO) (t5 t6 : PO) (t24 : SO) (t25 t26 : Int) (H : Heap), D8_7 (n + 1) (S8_7 t4 t5 t6 t24 t25 t26 H) = bif decide (t26 < t25) then t24.bind fun v23 => bif inb t26 v23.len && v23.esz == 7 then (H.get v23.id (v23.off + t26.toNat * 7)).bind fun v22 => (H.get v23.id (v23.off + t26.toNat * 7 + 1)).bind fun v21 => (H.get v23.id (v23.off + t26.toNat * 7 + 1 + 1)).bind fun v20 => (H.get v23.id (v23.off + t26.toNat * 7 + 1 + 1 + 1)).bind fun v19 => (H.get v23.id (v23.off + t26.toNat * 7 + 1 + 1 + 1 + 1)).bind fun v18 => (H.get v23.id (v23.off + t26.toNat * 7 + 1 + 1 + 1 + 1 + 1)).bind fun v17 => (H.get v23.id (v23.off + t26.toNat * 7 + 1 + 1 + 1 + 1 + 1 + 1)).bind fun v16 => (Cell.toInt .i64 v22).bind fun v15 => (Cell.toInt .i64 v21).bind fun v14 => v20.toBool.bind fun v13 => (Cell.toInt .i64 v19).bind fun v12 => (Cell.toInt .u64 v18).bind fun v11 => (Cell.toInt .i64 v17).bind fun v10 => (Cell.toInt .u64 v16).bind fun v9 => bif decide (t26 ≥ 12) then some (AExit.exit 0, X8_7 t5 t6 H) else bif v13 then bif decide (slen t4 > 0) then t4.bind fun v4 => bif inb 0 v4.len && v4.esz == 5 then (H.get v4.id (v4.off + 0 + 0)).bind fun v3 => (Cell.toInt .u64 v3).bind fun v2 => (f32 t5 v14 (IntKind.u64.wrap (v2 + v11.tmod 72)) v10 v9 H).bind fun v1 => (f33 t6 v14 (IntKind.u64.wrap (v2 + v11.tmod 72)) v10 v9 v1.2).bind fun v0 => D8_7 n (S8_7 t4 t5 t6 t24 t25 (IntKind.i64.wrap (t26 + 1)) v0.2) else none else (f32 t5 v14 v11 v10 v9 H).bind fun v6 => (f33 t6 v14 v11 v10 v9 v6.2).bind fun v5 => D8_7 n (S8_7 t4 t5 t6 t24 t25 (IntKind.i64.wrap (t26 + 1)) v5.2) else (f32 t5 v14 v11 v10 v9 H).bind fun v8 => (f33 t6 v14 v11 v10 v9 v8.2).bind fun v7 => D8_7 n (S8_7 t4 t5 t6 t24 t25 (IntKind.i64.wrap (t26 + 1)) v7.2) else none else some (AExit.exit 0, X8_7 t5 t6 H) := by intros; exact (dOf_s (mkC_nat _ _ _ _) _ _ _).trans (by kernel_rfl)
theorem q8 : ∀ (s : TStart) (H : Heap), f8 s H = (f22 s.L H).bind fun v28 => (f28 v28.1 v28.2).bind fun v27 => (f29 v28.1 v27.2).bind fun v26 => bif s.mine then (f30 v27.1 0 1 v26.2).bind fun v25 => (f31 v26.1 0 1 v25.2).bind fun v24 => (LL8_7 (S8_7 v28.1 v27.1 v26.1 s.ops (slen s.ops) 0 v24.2)).bind J8_7 else (LL8_7 (S8_7 v28.1 v27.1 v26.1 s.ops (slen s.ops) 0 v26.2)).bind J8_7 := by intros; exact (congrFun (qF h8 (mkC_nat _ _ _ _) _) _).trans (by kernel_rfl)
theorem J8_7_0 : ∀ (x0 x1 : PO) (H : Heap), J8_7 (AExit.exit 0, X8_7 x0 x1 H) = some ((x0, x1), H) := by intros; kernel_rfl
noncomputable def k8 : SF Tryz.prog := SF.spec (g := 8) (enc := encR [ptS, ptS]) (S := appS [.g _ cStart] f8) (mkF_ok (C := CC8) rfl Tryz.func8 h8 Tryz.ntmps8.symm)
/-! 42: L05_opd -/
noncomputable def CC42 : Ctx := mkC (P := Tryz.prog) [] [1, 2] 17 []
noncomputable def f42 : TOpd → Heap → Option (TOpd × Heap) := hide (mkF CC42 Tryz.f42 [.g _ cOpd] [.g _ cOpd])
theorem h42 : IsF CC42 Tryz.f42 [.g _ cOpd] [.g _ cOpd] f42 := hide_eq _
theorem q42 : ∀ (o : TOpd) (H : Heap), f42 o H = some (o, H) := by intros; exact (congrFun (qF h42 (mkC_nat _ _ _ _) _) _).trans (by kernel_rfl)
noncomputable def k42 : SF Tryz.prog := SF.spec (g := 42) (enc := encR [.g _ cOpd]) (S := appS [.g _ cOpd] f42) (mkF_ok (C := CC42) rfl Tryz.func42 h42 Tryz.ntmps42.symm)
/-! 14: L05_Ours -/
noncomputable def CC14 : Ctx := mkC (P := Tryz.prog) [k42] [1, 2] 26 []
noncomputable def f14 : TInst → Heap → Option (TInst × Heap) := hide (mkF CC14 Tryz.f14 [.g _ cInst] [.g _ cInst])
theorem h14 : IsF CC14 Tryz.f14 [.g _ cInst] [.g _ cInst] f14 := hide_eq _
theorem q14 : ∀ (i : TInst) (H : Heap), f14 i H = (f42 i.A H).bind fun v1 => (f42 i.B v1.2).bind fun v0 => some (TInst.mk i.op i.W i.w2 v1.1 v0.1 i.imm i.cc i.lock i.rep i.len, v0.2) := by intros; exact (congrFun (qF h14 (mkC_nat _ _ _ _) _) _).trans (by kernel_rfl)
noncomputable def k14 : SF Tryz.prog := SF.spec (g := 14) (enc := encR [.g _ cInst]) (S := appS [.g _ cInst] f14) (mkF_ok (C := CC14) rfl Tryz.func14 h14 Tryz.ntmps14.symm)
/-! 25: R5_Words -/
noncomputable def CC25 : Ctx := mkC (P := Tryz.prog) [] [] 2 []
noncomputable def f25 : Heap → Option (SO × Heap) := hide (mkF CC25 Tryz.f25 [] [slS])
theorem h25 : IsF CC25 Tryz.f25 [] [slS] f25 := hide_eq _
theorem q25 : ∀ (H : Heap), f25 H = some (some (Sl.mk (List.length H) 0 48 48 1), H ++ [Blk.row [Cell.str (ByteArray.mk #[]), Cell.str s_add, Cell.str s_or, Cell.str s_adc, Cell.str s_sbb, Cell.str s_and, Cell.str s_sub, Cell.str s_xor, Cell.str s_cmp, Cell.str s_test, Cell.str s_mov, Cell.str s_movzx, Cell.str s_movsx, Cell.str s_lea, Cell.str s_push, Cell.str s_pop, Cell.str s_inc, Cell.str s_dec, Cell.str s_not, Cell.str s_neg, Cell.str s_mul, Cell.str s_smul, Cell.str s_div, Cell.str s_sdiv, Cell.str s_imul, Cell.str s_imuli, Cell.str s_rol, Cell.str s_ror, Cell.str s_shl, Cell.str s_shr, Cell.str s_sar, Cell.str s_xchg, Cell.str s_cas, Cell.str s_xadd, Cell.str s_cmov, Cell.str s_set, Cell.str s_jcc, Cell.str s_jmp, Cell.str s_call, Cell.str s_ret, Cell.str s_wide, Cell.str s_sign, Cell.str s_movs, Cell.str s_stos, Cell.str s_fence, Cell.str s_nop, Cell.str s_sys, Cell.str s_ud] false]) := by intros; exact (congrFun (qF h25 (mkC_nat _ _ _ _)) _).trans (by kernel_rfl)
noncomputable def k25 : SF Tryz.prog := SF.spec (g := 25) (enc := encR [slS]) (S := appS [] f25) (mkF_ok (C := CC25) rfl Tryz.func25 h25 Tryz.ntmps25.symm)
/-! 51: R5_Inst_is -/
noncomputable def CC51 : Ctx := mkC (P := Tryz.prog) [k25] [2] 67 [(5, ⟨[1, 5, 6], [], [4], []⟩)]
noncomputable def f51 : TInst → ByteArray → Heap → Option (Bool × Heap) := hide (mkF CC51 Tryz.f51 [.g _ cInst, .c .s] [boS])
theorem h51 : IsF CC51 Tryz.f51 [.g _ cInst, .c .s] [boS] f51 := hide_eq _
noncomputable def P51_5 : Code := (Code.l (Code.l (Code.r (Code.l (Code.r (Code.r (Code.r (bodyOf Tryz.f51))))))))
def S51_5 (t1 t5 : ByteArray) (t6 : Int) (H : Heap) : St := ⟨[(1, .c (Cell.str t1)), (5, .c (Cell.str t5)), (6, .c (Cell.int .i64 t6))], [], H⟩
noncomputable def D51_5 : Nat → St → Option (AExit × St) := dOf CC51 P51_5
noncomputable def LL51_5 : St → Option (AExit × St) := loopsD CC51 P51_5
theorem LL51_5_of (m : Nat) (hm : m < 18446744073709551616) (s : St) : ∃ n, LL51_5 s = D51_5 (n + m + 1) s := loopsD_of _ _ _ m hm
def X51_5 (x0 : Bool) (H : Heap) : St := St.mk [(4, AV.c (Cell.bool x0))] [] H
def X51_5a (H : Heap) : St := St.mk [] [] H
noncomputable def J51_5 : AExit × St → Option (Bool × Heap) := fun p => blockK 0 (seqK (execL CC51 (lpD CC51) (Code.r (Code.r (Code.r (Code.r (bodyOf Tryz.f51)))))) (retA CC51 [ResultVar.tmp 4] (decF (decR [boS])))) p.1 p.2
theorem D51_5_s : ∀ (n : Nat) (t1 t5 : ByteArray) (t6 : Int) (H : Heap), D51_5 (n + 1) (S51_5 t1 t5 t6 H) = bif decide (IntKind.i64.wrap (t6 + (↑t5.size : Int)) ≤ (↑t1.size : Int)) then (strSub t1 t6 (some (IntKind.i64.wrap (t6 + (↑t5.size : Int))))).bind fun v3 => bif strEq v3 t5 then bif t6 == 0 then bif IntKind.i64.wrap (t6 + (↑t5.size : Int)) == (↑t1.size : Int) then some (AExit.ret, X51_5 true H) else bif inb (IntKind.i64.wrap (t6 + (↑t5.size : Int))) t1.size then t1.data.toList[(IntKind.i64.wrap (t6 + (↑t5.size : Int))).toNat]?.bind fun v0 => bif (↑v0.toNat : Int) == 32 then some (AExit.ret, X51_5 true H) else D51_5 n (S51_5 t1 t5 (IntKind.i64.wrap (t6 + 1)) H) else none else bif inb (IntKind.i64.wrap (t6 - 1)) t1.size then t1.data.toList[(IntKind.i64.wrap (t6 - 1)).toNat]?.bind fun v2 => bif (↑v2.toNat : Int) == 32 then bif IntKind.i64.wrap (t6 + (↑t5.size : Int)) == (↑t1.size : Int) then some (AExit.ret, X51_5 true H) else bif inb (IntKind.i64.wrap (t6 + (↑t5.size : Int))) t1.size then t1.data.toList[(IntKind.i64.wrap (t6 + (↑t5.size : Int))).toNat]?.bind fun v1 => bif (↑v1.toNat : Int) == 32 then some (AExit.ret, X51_5 true H) else D51_5 n (S51_5 t1 t5 (IntKind.i64.wrap (t6 + 1)) H) else none else D51_5 n (S51_5 t1 t5 (IntKind.i64.wrap (t6 + 1)) H) else none else D51_5 n (S51_5 t1 t5 (IntKind.i64.wrap (t6 + 1)) H) else some (AExit.exit 0, X51_5a H) := by intros; exact (dOf_s (mkC_nat _ _ _ _) _ _ _).trans (by kernel_rfl)
theorem q51 : ∀ (i : TInst) (words : ByteArray) (H : Heap), f51 i words H = bif decide (i.op < 1) then some (false, H) else bif decide (i.op > 47) then some (false, H) else (f25 H).bind fun v7 => Option.bind v7.1 fun v6 => bif inb i.op v6.len && v6.esz == 1 then (v7.2.get v6.id (v6.off + i.op.toNat * 1)).bind fun v5 => v5.toStr.bind fun v4 => (LL51_5 (S51_5 words v4 0 v7.2)).bind J51_5 else none := by intros; exact (congrFun (qF h51 (mkC_nat _ _ _ _) _ _) _).trans (by kernel_rfl)
theorem J51_5_0 : ∀ (x0 : Bool) (H : Heap), J51_5 (AExit.ret, X51_5 x0 H) = some (x0, H) := by intros; kernel_rfl
theorem J51_5_1 : ∀ (H : Heap), J51_5 (AExit.exit 0, X51_5a H) = some (false, H) := by intros; kernel_rfl
noncomputable def k51 : SF Tryz.prog := SF.spec (g := 51) (enc := encR [boS]) (S := appS [.g _ cInst, .c .s] f51) (mkF_ok (C := CC51) rfl Tryz.func51 h51 Tryz.ntmps51.symm)
/-! 100: R5_Inst_width -/
noncomputable def CC100 : Ctx := mkC (P := Tryz.prog) [] [2] 20 [(2, ⟨[1, 2, 5], [2], [4], []⟩)]
noncomputable def f100 : TInst → ByteArray → Heap → Option (Bool × Heap) := hide (mkF CC100 Tryz.f100 [.g _ cInst, .c .s] [boS])
theorem h100 : IsF CC100 Tryz.f100 [.g _ cInst, .c .s] [boS] f100 := hide_eq _
noncomputable def P100_2 : Code := (Code.l (Code.l (Code.r (Code.l (Code.r (bodyOf Tryz.f100))))))
def S100_2 (t1 : ByteArray) (t5 : Int) (b2 : TInst) (H : Heap) : St := ⟨[(1, .c (Cell.str t1)), (2, .lp 2 0), (5, .c (Cell.int .i64 t5))], [(2, TInst.row b2)], H⟩
noncomputable def D100_2 : Nat → St → Option (AExit × St) := dOf CC100 P100_2
noncomputable def LL100_2 : St → Option (AExit × St) := loopsD CC100 P100_2
theorem LL100_2_of (m : Nat) (hm : m < 18446744073709551616) (s : St) : ∃ n, LL100_2 s = D100_2 (n + m + 1) s := loopsD_of _ _ _ m hm
def X100_2 (x0 : Bool) (H : Heap) : St := St.mk [(4, AV.c (Cell.bool x0))] [] H
def X100_2a (H : Heap) : St := St.mk [] [] H
noncomputable def J100_2 : AExit × St → Option (Bool × Heap) := fun p => blockK 0 (seqK (execL CC100 (lpD CC100) (Code.r (Code.r (bodyOf Tryz.f100)))) (retA CC100 [ResultVar.tmp 4] (decF (decR [boS])))) p.1 p.2
theorem D100_2_s : ∀ (n : Nat) (t1 : ByteArray) (t5 : Int) (b2 : TInst) (H : Heap), D100_2 (n + 1) (S100_2 t1 t5 b2 H) = bif decide (t5 < (↑t1.size : Int)) then bif inb t5 t1.size then t1.data.toList[t5.toNat]?.bind fun v0 => bif b2.W == IntKind.i64.wrap (IntKind.u8.wrap ((↑v0.toNat : Int) - 48)) then some (AExit.ret, X100_2 true H) else D100_2 n (S100_2 t1 (IntKind.i64.wrap (t5 + 1)) b2 H) else none else some (AExit.exit 0, X100_2a H) := by intros; exact (dOf_s (mkC_nat _ _ _ _) _ _ _).trans (by kernel_rfl)
theorem q100 : ∀ (i : TInst) (s : ByteArray) (H : Heap), f100 i s H = (LL100_2 (S100_2 s 0 i H)).bind J100_2 := by intros; exact (congrFun (qF h100 (mkC_nat _ _ _ _) _ _) _).trans (by kernel_rfl)
theorem J100_2_0 : ∀ (x0 : Bool) (H : Heap), J100_2 (AExit.ret, X100_2 x0 H) = some (x0, H) := by intros; kernel_rfl
theorem J100_2_1 : ∀ (H : Heap), J100_2 (AExit.exit 0, X100_2a H) = some (false, H) := by intros; kernel_rfl
noncomputable def k100 : SF Tryz.prog := SF.spec (g := 100) (enc := encR [boS]) (S := appS [.g _ cInst, .c .s] f100) (mkF_ok (C := CC100) rfl Tryz.func100 h100 Tryz.ntmps100.symm)
/-! 101: R5_kinds -/
noncomputable def CC101 : Ctx := mkC (P := Tryz.prog) [] [2] 54 [(2, ⟨[1, 2, 5], [2], [4], []⟩)]
noncomputable def f101 : TOpd → ByteArray → Heap → Option (Bool × Heap) := hide (mkF CC101 Tryz.f101 [.g _ cOpd, .c .s] [boS])
theorem h101 : IsF CC101 Tryz.f101 [.g _ cOpd, .c .s] [boS] f101 := hide_eq _
noncomputable def P101_2 : Code := (Code.l (Code.l (Code.r (Code.l (Code.r (bodyOf Tryz.f101))))))
def S101_2 (t1 : ByteArray) (t5 : Int) (b2 : TOpd) (H : Heap) : St := ⟨[(1, .c (Cell.str t1)), (2, .lp 2 0), (5, .c (Cell.int .i64 t5))], [(2, TOpd.row b2)], H⟩
noncomputable def D101_2 : Nat → St → Option (AExit × St) := dOf CC101 P101_2
noncomputable def LL101_2 : St → Option (AExit × St) := loopsD CC101 P101_2
theorem LL101_2_of (m : Nat) (hm : m < 18446744073709551616) (s : St) : ∃ n, LL101_2 s = D101_2 (n + m + 1) s := loopsD_of _ _ _ m hm
def X101_2 (x0 : Bool) (H : Heap) : St := St.mk [(4, AV.c (Cell.bool x0))] [] H
def X101_2a (H : Heap) : St := St.mk [] [] H
noncomputable def J101_2 : AExit × St → Option (Bool × Heap) := fun p => blockK 0 (seqK (execL CC101 (lpD CC101) (Code.r (Code.r (bodyOf Tryz.f101)))) (retA CC101 [ResultVar.tmp 4] (decF (decR [boS])))) p.1 p.2
theorem D101_2_s : ∀ (n : Nat) (t1 : ByteArray) (t5 : Int) (b2 : TOpd) (H : Heap), D101_2 (n + 1) (S101_2 t1 t5 b2 H) = bif decide (t5 < (↑t1.size : Int)) then bif b2.kind == 0 then bif inb t5 t1.size then t1.data.toList[t5.toNat]?.bind fun v7 => bif (↑v7.toNat : Int) == 110 then some (AExit.ret, X101_2 true H) else bif b2.kind == 1 then bif inb t5 t1.size then t1.data.toList[t5.toNat]?.bind fun v3 => bif (↑v3.toNat : Int) == 114 then some (AExit.ret, X101_2 true H) else bif b2.kind == 2 then bif inb t5 t1.size then t1.data.toList[t5.toNat]?.bind fun v1 => bif (↑v1.toNat : Int) == 109 then some (AExit.ret, X101_2 true H) else bif b2.kind == 3 then bif inb t5 t1.size then t1.data.toList[t5.toNat]?.bind fun v0 => bif (↑v0.toNat : Int) == 105 then some (AExit.ret, X101_2 true H) else D101_2 n (S101_2 t1 (IntKind.i64.wrap (t5 + 1)) b2 H) else none else D101_2 n (S101_2 t1 (IntKind.i64.wrap (t5 + 1)) b2 H) else none else bif b2.kind == 3 then bif inb t5 t1.size then t1.data.toList[t5.toNat]?.bind fun v2 => bif (↑v2.toNat : Int) == 105 then some (AExit.ret, X101_2 true H) else D101_2 n (S101_2 t1 (IntKind.i64.wrap (t5 + 1)) b2 H) else none else D101_2 n (S101_2 t1 (IntKind.i64.wrap (t5 + 1)) b2 H) else none else bif b2.kind == 2 then bif inb t5 t1.size then t1.data.toList[t5.toNat]?.bind fun v5 => bif (↑v5.toNat : Int) == 109 then some (AExit.ret, X101_2 true H) else bif b2.kind == 3 then bif inb t5 t1.size then t1.data.toList[t5.toNat]?.bind fun v4 => bif (↑v4.toNat : Int) == 105 then some (AExit.ret, X101_2 true H) else D101_2 n (S101_2 t1 (IntKind.i64.wrap (t5 + 1)) b2 H) else none else D101_2 n (S101_2 t1 (IntKind.i64.wrap (t5 + 1)) b2 H) else none else bif b2.kind == 3 then bif inb t5 t1.size then t1.data.toList[t5.toNat]?.bind fun v6 => bif (↑v6.toNat : Int) == 105 then some (AExit.ret, X101_2 true H) else D101_2 n (S101_2 t1 (IntKind.i64.wrap (t5 + 1)) b2 H) else none else D101_2 n (S101_2 t1 (IntKind.i64.wrap (t5 + 1)) b2 H) else none else bif b2.kind == 1 then bif inb t5 t1.size then t1.data.toList[t5.toNat]?.bind fun v11 => bif (↑v11.toNat : Int) == 114 then some (AExit.ret, X101_2 true H) else bif b2.kind == 2 then bif inb t5 t1.size then t1.data.toList[t5.toNat]?.bind fun v9 => bif (↑v9.toNat : Int) == 109 then some (AExit.ret, X101_2 true H) else bif b2.kind == 3 then bif inb t5 t1.size then t1.data.toList[t5.toNat]?.bind fun v8 => bif (↑v8.toNat : Int) == 105 then some (AExit.ret, X101_2 true H) else D101_2 n (S101_2 t1 (IntKind.i64.wrap (t5 + 1)) b2 H) else none else D101_2 n (S101_2 t1 (IntKind.i64.wrap (t5 + 1)) b2 H) else none else bif b2.kind == 3 then bif inb t5 t1.size then t1.data.toList[t5.toNat]?.bind fun v10 => bif (↑v10.toNat : Int) == 105 then some (AExit.ret, X101_2 true H) else D101_2 n (S101_2 t1 (IntKind.i64.wrap (t5 + 1)) b2 H) else none else D101_2 n (S101_2 t1 (IntKind.i64.wrap (t5 + 1)) b2 H) else none else bif b2.kind == 2 then bif inb t5 t1.size then t1.data.toList[t5.toNat]?.bind fun v13 => bif (↑v13.toNat : Int) == 109 then some (AExit.ret, X101_2 true H) else bif b2.kind == 3 then bif inb t5 t1.size then t1.data.toList[t5.toNat]?.bind fun v12 => bif (↑v12.toNat : Int) == 105 then some (AExit.ret, X101_2 true H) else D101_2 n (S101_2 t1 (IntKind.i64.wrap (t5 + 1)) b2 H) else none else D101_2 n (S101_2 t1 (IntKind.i64.wrap (t5 + 1)) b2 H) else none else bif b2.kind == 3 then bif inb t5 t1.size then t1.data.toList[t5.toNat]?.bind fun v14 => bif (↑v14.toNat : Int) == 105 then some (AExit.ret, X101_2 true H) else D101_2 n (S101_2 t1 (IntKind.i64.wrap (t5 + 1)) b2 H) else none else D101_2 n (S101_2 t1 (IntKind.i64.wrap (t5 + 1)) b2 H) else some (AExit.exit 0, X101_2a H) := by intros; exact (dOf_s (mkC_nat _ _ _ _) _ _ _).trans (by kernel_rfl)
theorem q101 : ∀ (o : TOpd) (s : ByteArray) (H : Heap), f101 o s H = (LL101_2 (S101_2 s 0 o H)).bind J101_2 := by intros; exact (congrFun (qF h101 (mkC_nat _ _ _ _) _ _) _).trans (by kernel_rfl)
theorem J101_2_0 : ∀ (x0 : Bool) (H : Heap), J101_2 (AExit.ret, X101_2 x0 H) = some (x0, H) := by intros; kernel_rfl
theorem J101_2_1 : ∀ (H : Heap), J101_2 (AExit.exit 0, X101_2a H) = some (false, H) := by intros; kernel_rfl
noncomputable def k101 : SF Tryz.prog := SF.spec (g := 101) (enc := encR [boS]) (S := appS [.g _ cOpd, .c .s] f101) (mkF_ok (C := CC101) rfl Tryz.func101 h101 Tryz.ntmps101.symm)
/-! 48: R5_Inst_shape -/
noncomputable def CC48 : Ctx := mkC (P := Tryz.prog) [k51, k100, k101] [1] 253 []
noncomputable def f48 : TInst → Heap → Option (Bool × Heap) := hide (mkF CC48 Tryz.f48 [.g _ cInst] [boS])
theorem h48 : IsF CC48 Tryz.f48 [.g _ cInst] [boS] f48 := hide_eq _
theorem q48 : ∀ (i : TInst) (H : Heap), f48 i H = (f51 i s_add_or_adc_sbb_and_sub_xor_cmp_mov H).bind fun v59 => bif v59.1 then (f100 i s_1248 v59.2).bind fun v2 => bif v2.1 then (f101 i.A s_rm v2.2).bind fun v1 => bif v1.1 then (f101 i.B s_rmi v1.2).bind fun v0 => bif v0.1 then bif i.A.kind != 2 then some (true, v0.2) else some (i.B.kind != 2, v0.2) else some (false, v0.2) else some (false, v1.2) else some (false, v2.2) else (f51 i s_test v59.2).bind fun v58 => bif v58.1 then (f100 i s_1248 v58.2).bind fun v5 => bif v5.1 then (f101 i.A s_rm v5.2).bind fun v4 => bif v4.1 then (f101 i.B s_ri v4.2).bind fun v3 => some (v3.1, v3.2) else some (false, v4.2) else some (false, v5.2) else (f51 i s_movzx_movsx_imul_imuli_cmov v58.2).bind fun v57 => bif v57.1 then (f100 i s_248 v57.2).bind fun v8 => bif v8.1 then (f101 i.A s_r v8.2).bind fun v7 => bif v7.1 then (f101 i.B s_rm v7.2).bind fun v6 => some (v6.1, v6.2) else some (false, v7.2) else some (false, v8.2) else (f51 i s_lea v57.2).bind fun v56 => bif v56.1 then (f100 i s_248 v56.2).bind fun v11 => bif v11.1 then (f101 i.A s_r v11.2).bind fun v10 => bif v10.1 then (f101 i.B s_m v10.2).bind fun v9 => some (v9.1, v9.2) else some (false, v10.2) else some (false, v11.2) else (f51 i s_push v56.2).bind fun v55 => bif v55.1 then (f100 i s_8 v55.2).bind fun v14 => bif v14.1 then (f101 i.A s_rmi v14.2).bind fun v13 => bif v13.1 then (f101 i.B s_n v13.2).bind fun v12 => some (v12.1, v12.2) else some (false, v13.2) else some (false, v14.2) else (f51 i s_pop v55.2).bind fun v54 => bif v54.1 then (f100 i s_8 v54.2).bind fun v17 => bif v17.1 then (f101 i.A s_rm v17.2).bind fun v16 => bif v16.1 then (f101 i.B s_n v16.2).bind fun v15 => some (v15.1, v15.2) else some (false, v16.2) else some (false, v17.2) else (f51 i s_inc_dec_not_neg_mul_smul v54.2).bind fun v53 => bif v53.1 then (f100 i s_1248 v53.2).bind fun v20 => bif v20.1 then (f101 i.A s_rm v20.2).bind fun v19 => bif v19.1 then (f101 i.B s_n v19.2).bind fun v18 => some (v18.1, v18.2) else some (false, v19.2) else some (false, v20.2) else (f51 i s_div_sdiv v53.2).bind fun v52 => bif v52.1 then (f100 i s_124 v52.2).bind fun v23 => bif v23.1 then (f101 i.A s_rm v23.2).bind fun v22 => bif v22.1 then (f101 i.B s_n v22.2).bind fun v21 => some (v21.1, v21.2) else some (false, v22.2) else some (false, v23.2) else (f51 i s_rol_ror_shl_shr_sar v52.2).bind fun v51 => bif v51.1 then (f100 i s_1248 v51.2).bind fun v26 => bif v26.1 then (f101 i.A s_rm v26.2).bind fun v25 => bif v25.1 then (f101 i.B s_i v25.2).bind fun v24 => bif v24.1 then some (true, v24.2) else bif i.B.kind == 1 then some (i.B.reg == 1, v24.2) else some (false, v24.2) else some (false, v25.2) else some (false, v26.2) else (f51 i s_xchg_cas_xadd v51.2).bind fun v50 => bif v50.1 then (f100 i s_1248 v50.2).bind fun v29 => bif v29.1 then (f101 i.A s_rm v29.2).bind fun v28 => bif v28.1 then (f101 i.B s_r v28.2).bind fun v27 => some (v27.1, v27.2) else some (false, v28.2) else some (false, v29.2) else (f51 i s_set v50.2).bind fun v49 => bif v49.1 then (f100 i s_1 v49.2).bind fun v32 => bif v32.1 then (f101 i.A s_rm v32.2).bind fun v31 => bif v31.1 then (f101 i.B s_n v31.2).bind fun v30 => some (v30.1, v30.2) else some (false, v31.2) else some (false, v32.2) else (f51 i s_jmp_call v49.2).bind fun v48 => bif v48.1 then (f100 i s_8 v48.2).bind fun v35 => bif v35.1 then (f101 i.A s_nrm v35.2).bind fun v34 => bif v34.1 then (f101 i.B s_n v34.2).bind fun v33 => some (v33.1, v33.2) else some (false, v34.2) else some (false, v35.2) else (f51 i s_wide_sign v48.2).bind fun v47 => bif v47.1 then (f100 i s_248 v47.2).bind fun v38 => bif v38.1 then (f101 i.A s_n v38.2).bind fun v37 => bif v37.1 then (f101 i.B s_n v37.2).bind fun v36 => some (v36.1, v36.2) else some (false, v37.2) else some (false, v38.2) else (f51 i s_movs_stos v47.2).bind fun v46 => bif v46.1 then (f100 i s_1248 v46.2).bind fun v41 => bif v41.1 then (f101 i.A s_n v41.2).bind fun v40 => bif v40.1 then (f101 i.B s_n v40.2).bind fun v39 => some (v39.1, v39.2) else some (false, v40.2) else some (false, v41.2) else (f51 i s_jcc_ret_fence_nop_sys_ud v46.2).bind fun v45 => bif v45.1 then (f100 i s_8 v45.2).bind fun v44 => bif v44.1 then (f101 i.A s_n v44.2).bind fun v43 => bif v43.1 then (f101 i.B s_n v43.2).bind fun v42 => some (v42.1, v42.2) else some (false, v43.2) else some (false, v44.2) else some (false, v45.2) := by intros; exact (congrFun (qF h48 (mkC_nat _ _ _ _) _) _).trans (by kernel_rfl)
noncomputable def k48 : SF Tryz.prog := SF.spec (g := 48) (enc := encR [boS]) (S := appS [.g _ cInst] f48) (mkF_ok (C := CC48) rfl Tryz.func48 h48 Tryz.ntmps48.symm)
/-! 102: R5_Fits -/
noncomputable def CC102 : Ctx := mkC (P := Tryz.prog) [] [] 35 []
noncomputable def f102 : Int → Int → Heap → Option (Bool × Heap) := hide (mkF CC102 Tryz.f102 [i64S, i64S] [boS])
theorem h102 : IsF CC102 Tryz.f102 [i64S, i64S] [boS] f102 := hide_eq _
theorem q102 : ∀ (v n : Int) (H : Heap), f102 v n H = bif decide (n ≥ 64) then some (true, H) else bif decide (v ≥ 0) then bif decide (IntKind.u64.wrap (IntKind.i64.wrap (n - 1)) < 0) then none else bif decide (IntKind.u64.wrap v < ishl IntKind.u64 1 (IntKind.u64.wrap (IntKind.i64.wrap (n - 1)))) then some (true, H) else bif decide (v < 0) then bif decide (IntKind.u64.wrap (IntKind.i64.wrap (n - 1)) < 0) then none else some (decide (IntKind.u64.wrap (IntKind.i64.wrap (0 - IntKind.i64.wrap (v + 1))) < ishl IntKind.u64 1 (IntKind.u64.wrap (IntKind.i64.wrap (n - 1)))), H) else some (false, H) else bif decide (v < 0) then bif decide (IntKind.u64.wrap (IntKind.i64.wrap (n - 1)) < 0) then none else some (decide (IntKind.u64.wrap (IntKind.i64.wrap (0 - IntKind.i64.wrap (v + 1))) < ishl IntKind.u64 1 (IntKind.u64.wrap (IntKind.i64.wrap (n - 1)))), H) else some (false, H) := by intros; exact (congrFun (qF h102 (mkC_nat _ _ _ _) _ _) _).trans (by kernel_rfl)
noncomputable def k102 : SF Tryz.prog := SF.spec (g := 102) (enc := encR [boS]) (S := appS [i64S, i64S] f102) (mkF_ok (C := CC102) rfl Tryz.func102 h102 Tryz.ntmps102.symm)
/-! 49: R5_MayOpd -/
noncomputable def CC49 : Ctx := mkC (P := Tryz.prog) [k102] [1] 108 []
noncomputable def f49 : TOpd → Heap → Option (Bool × Heap) := hide (mkF CC49 Tryz.f49 [.g _ cOpd] [boS])
theorem h49 : IsF CC49 Tryz.f49 [.g _ cOpd] [boS] f49 := hide_eq _
theorem q49 : ∀ (o : TOpd) (H : Heap), f49 o H = bif o.kind == 2 then bif o.reg != 0 then some (false, H) else bif decide (o.addr.base < -1) then some (false, H) else bif decide (o.addr.base > 16) then some (false, H) else bif decide (o.addr.index < -1) then some (false, H) else bif decide (o.addr.index > 15) then some (false, H) else bif o.addr.index == 4 then some (false, H) else (f102 o.addr.disp 32 H).bind fun v0 => bif !v0.1 then some (false, v0.2) else bif o.addr.index == -1 then some (o.addr.scale == 1, v0.2) else bif o.addr.base != 16 then bif o.addr.scale == 1 then some (true, v0.2) else bif o.addr.scale == 2 then some (true, v0.2) else bif o.addr.scale == 4 then some (true, v0.2) else some (o.addr.scale == 8, v0.2) else some (false, v0.2) else bif true && (true && (o.addr.base == 0 && (o.addr.index == 0 && (o.addr.scale == 0 && (o.addr.disp == 0 && true))))) then bif o.kind == 0 then bif o.reg == 0 then some (true, H) else bif o.kind == 1 then bif decide (o.reg > 0) then some (decide (o.reg < 16), H) else some (false, H) else some (false, H) else bif o.kind == 3 then bif o.reg == 0 then some (true, H) else bif o.kind == 1 then bif decide (o.reg > 0) then some (decide (o.reg < 16), H) else some (false, H) else some (false, H) else bif o.kind == 1 then bif o.reg == 0 then some (true, H) else bif o.kind == 1 then bif decide (o.reg > 0) then some (decide (o.reg < 16), H) else some (false, H) else some (false, H) else some (false, H) else some (false, H) := by intros; exact (congrFun (qF h49 (mkC_nat _ _ _ _) _) _).trans (by kernel_rfl)
noncomputable def k49 : SF Tryz.prog := SF.spec (g := 49) (enc := encR [boS]) (S := appS [.g _ cOpd] f49) (mkF_ok (C := CC49) rfl Tryz.func49 h49 Tryz.ntmps49.symm)
/-! 103: R5_Inst_HasImm -/
noncomputable def CC103 : Ctx := mkC (P := Tryz.prog) [k51] [1] 27 []
noncomputable def f103 : TInst → Heap → Option (Bool × Heap) := hide (mkF CC103 Tryz.f103 [.g _ cInst] [boS])
theorem h103 : IsF CC103 Tryz.f103 [.g _ cInst] [boS] f103 := hide_eq _
theorem q103 : ∀ (i : TInst) (H : Heap), f103 i H = bif i.A.kind == 3 then some (true, H) else bif i.B.kind == 3 then some (true, H) else (f51 i s_imuli_jcc H).bind fun v1 => bif v1.1 then some (true, v1.2) else (f51 i s_jmp_call v1.2).bind fun v0 => bif v0.1 then some (i.A.kind == 0, v0.2) else some (false, v0.2) := by intros; exact (congrFun (qF h103 (mkC_nat _ _ _ _) _) _).trans (by kernel_rfl)
noncomputable def k103 : SF Tryz.prog := SF.spec (g := 103) (enc := encR [boS]) (S := appS [.g _ cInst] f103) (mkF_ok (C := CC103) rfl Tryz.func103 h103 Tryz.ntmps103.symm)
/-! 50: R5_Inst_imm -/
noncomputable def CC50 : Ctx := mkC (P := Tryz.prog) [k103, k51, k102] [1] 42 []
noncomputable def f50 : TInst → Heap → Option (Bool × Heap) := hide (mkF CC50 Tryz.f50 [.g _ cInst] [boS])
theorem h50 : IsF CC50 Tryz.f50 [.g _ cInst] [boS] f50 := hide_eq _
theorem q50 : ∀ (i : TInst) (H : Heap), f50 i H = (f103 i H).bind fun v8 => bif !v8.1 then some (i.imm == 0, v8.2) else (f51 i s_rol_ror_shl_shr_sar v8.2).bind fun v7 => bif v7.1 then bif decide (i.imm ≥ 0) then some (decide (i.imm ≤ 255), v7.2) else some (false, v7.2) else (f51 i s_mov v7.2).bind fun v6 => bif v6.1 then bif i.W == 8 then bif i.A.kind == 1 then some (true, v6.2) else bif decide (IntKind.i64.wrap (8 * i.W) > 32) then (f102 i.imm 32 v6.2).bind fun v0 => some (v0.1, v0.2) else (f102 i.imm (IntKind.i64.wrap (8 * i.W)) v6.2).bind fun v1 => some (v1.1, v1.2) else bif decide (IntKind.i64.wrap (8 * i.W) > 32) then (f102 i.imm 32 v6.2).bind fun v2 => some (v2.1, v2.2) else (f102 i.imm (IntKind.i64.wrap (8 * i.W)) v6.2).bind fun v3 => some (v3.1, v3.2) else bif decide (IntKind.i64.wrap (8 * i.W) > 32) then (f102 i.imm 32 v6.2).bind fun v4 => some (v4.1, v4.2) else (f102 i.imm (IntKind.i64.wrap (8 * i.W)) v6.2).bind fun v5 => some (v5.1, v5.2) := by intros; exact (congrFun (qF h50 (mkC_nat _ _ _ _) _) _).trans (by kernel_rfl)
noncomputable def k50 : SF Tryz.prog := SF.spec (g := 50) (enc := encR [boS]) (S := appS [.g _ cInst] f50) (mkF_ok (C := CC50) rfl Tryz.func50 h50 Tryz.ntmps50.symm)
/-! 18: R5_May -/
noncomputable def CC18 : Ctx := mkC (P := Tryz.prog) [k48, k49, k50, k51] [1] 108 []
noncomputable def f18 : TInst → Heap → Option (Bool × Heap) := hide (mkF CC18 Tryz.f18 [.g _ cInst] [boS])
theorem h18 : IsF CC18 Tryz.f18 [.g _ cInst] [boS] f18 := hide_eq _
theorem q18 : ∀ (i : TInst) (H : Heap), f18 i H = (f48 i H).bind fun v78 => bif !v78.1 then some (false, v78.2) else (f49 i.A v78.2).bind fun v77 => bif !v77.1 then some (false, v77.2) else (f49 i.B v77.2).bind fun v76 => bif !v76.1 then some (false, v76.2) else (f50 i v76.2).bind fun v75 => bif !v75.1 then some (false, v75.2) else bif decide (i.len < 0) then some (false, v75.2) else bif decide (i.len > 15) then some (false, v75.2) else (f51 i s_cmov_set_jcc v75.2).bind fun v74 => bif v74.1 then bif decide (i.cc < 0) then some (false, v74.2) else bif decide (i.cc > 15) then some (false, v74.2) else (f51 i s_cmov_set_jcc v74.2).bind fun v36 => bif !v36.1 then bif i.cc != 0 then some (false, v36.2) else (f51 i s_movzx_movsx v36.2).bind fun v17 => bif v17.1 then bif i.w2 == 1 then bif i.lock then bif i.A.kind != 2 then some (false, v17.2) else (f51 i s_add_or_adc_sbb_and_sub_xor_inc_dec_not_neg_xchg_cas_xadd v17.2).bind fun v1 => bif !v1.1 then some (false, v1.2) else bif !i.rep then some (true, v1.2) else (f51 i s_movs_stos v1.2).bind fun v0 => some (v0.1, v0.2) else bif !i.rep then some (true, v17.2) else (f51 i s_movs_stos v17.2).bind fun v2 => some (v2.1, v2.2) else bif i.w2 == 2 then bif decide (i.W ≥ 4) then bif i.lock then bif i.A.kind != 2 then some (false, v17.2) else (f51 i s_add_or_adc_sbb_and_sub_xor_inc_dec_not_neg_xchg_cas_xadd v17.2).bind fun v4 => bif !v4.1 then some (false, v4.2) else bif !i.rep then some (true, v4.2) else (f51 i s_movs_stos v4.2).bind fun v3 => some (v3.1, v3.2) else bif !i.rep then some (true, v17.2) else (f51 i s_movs_stos v17.2).bind fun v5 => some (v5.1, v5.2) else bif i.w2 == 4 then bif i.W == 8 then (f51 i s_movsx v17.2).bind fun v9 => bif !v9.1 then some (false, v9.2) else bif i.lock then bif i.A.kind != 2 then some (false, v9.2) else (f51 i s_add_or_adc_sbb_and_sub_xor_inc_dec_not_neg_xchg_cas_xadd v9.2).bind fun v7 => bif !v7.1 then some (false, v7.2) else bif !i.rep then some (true, v7.2) else (f51 i s_movs_stos v7.2).bind fun v6 => some (v6.1, v6.2) else bif !i.rep then some (true, v9.2) else (f51 i s_movs_stos v9.2).bind fun v8 => some (v8.1, v8.2) else some (false, v17.2) else some (false, v17.2) else bif i.w2 == 4 then bif i.W == 8 then (f51 i s_movsx v17.2).bind fun v13 => bif !v13.1 then some (false, v13.2) else bif i.lock then bif i.A.kind != 2 then some (false, v13.2) else (f51 i s_add_or_adc_sbb_and_sub_xor_inc_dec_not_neg_xchg_cas_xadd v13.2).bind fun v11 => bif !v11.1 then some (false, v11.2) else bif !i.rep then some (true, v11.2) else (f51 i s_movs_stos v11.2).bind fun v10 => some (v10.1, v10.2) else bif !i.rep then some (true, v13.2) else (f51 i s_movs_stos v13.2).bind fun v12 => some (v12.1, v12.2) else some (false, v17.2) else some (false, v17.2) else bif i.w2 != 0 then some (false, v17.2) else bif i.lock then bif i.A.kind != 2 then some (false, v17.2) else (f51 i s_add_or_adc_sbb_and_sub_xor_inc_dec_not_neg_xchg_cas_xadd v17.2).bind fun v15 => bif !v15.1 then some (false, v15.2) else bif !i.rep then some (true, v15.2) else (f51 i s_movs_stos v15.2).bind fun v14 => some (v14.1, v14.2) else bif !i.rep then some (true, v17.2) else (f51 i s_movs_stos v17.2).bind fun v16 => some (v16.1, v16.2) else (f51 i s_movzx_movsx v36.2).bind fun v35 => bif v35.1 then bif i.w2 == 1 then bif i.lock then bif i.A.kind != 2 then some (false, v35.2) else (f51 i s_add_or_adc_sbb_and_sub_xor_inc_dec_not_neg_xchg_cas_xadd v35.2).bind fun v19 => bif !v19.1 then some (false, v19.2) else bif !i.rep then some (true, v19.2) else (f51 i s_movs_stos v19.2).bind fun v18 => some (v18.1, v18.2) else bif !i.rep then some (true, v35.2) else (f51 i s_movs_stos v35.2).bind fun v20 => some (v20.1, v20.2) else bif i.w2 == 2 then bif decide (i.W ≥ 4) then bif i.lock then bif i.A.kind != 2 then some (false, v35.2) else (f51 i s_add_or_adc_sbb_and_sub_xor_inc_dec_not_neg_xchg_cas_xadd v35.2).bind fun v22 => bif !v22.1 then some (false, v22.2) else bif !i.rep then some (true, v22.2) else (f51 i s_movs_stos v22.2).bind fun v21 => some (v21.1, v21.2) else bif !i.rep then some (true, v35.2) else (f51 i s_movs_stos v35.2).bind fun v23 => some (v23.1, v23.2) else bif i.w2 == 4 then bif i.W == 8 then (f51 i s_movsx v35.2).bind fun v27 => bif !v27.1 then some (false, v27.2) else bif i.lock then bif i.A.kind != 2 then some (false, v27.2) else (f51 i s_add_or_adc_sbb_and_sub_xor_inc_dec_not_neg_xchg_cas_xadd v27.2).bind fun v25 => bif !v25.1 then some (false, v25.2) else bif !i.rep then some (true, v25.2) else (f51 i s_movs_stos v25.2).bind fun v24 => some (v24.1, v24.2) else bif !i.rep then some (true, v27.2) else (f51 i s_movs_stos v27.2).bind fun v26 => some (v26.1, v26.2) else some (false, v35.2) else some (false, v35.2) else bif i.w2 == 4 then bif i.W == 8 then (f51 i s_movsx v35.2).bind fun v31 => bif !v31.1 then some (false, v31.2) else bif i.lock then bif i.A.kind != 2 then some (false, v31.2) else (f51 i s_add_or_adc_sbb_and_sub_xor_inc_dec_not_neg_xchg_cas_xadd v31.2).bind fun v29 => bif !v29.1 then some (false, v29.2) else bif !i.rep then some (true, v29.2) else (f51 i s_movs_stos v29.2).bind fun v28 => some (v28.1, v28.2) else bif !i.rep then some (true, v31.2) else (f51 i s_movs_stos v31.2).bind fun v30 => some (v30.1, v30.2) else some (false, v35.2) else some (false, v35.2) else bif i.w2 != 0 then some (false, v35.2) else bif i.lock then bif i.A.kind != 2 then some (false, v35.2) else (f51 i s_add_or_adc_sbb_and_sub_xor_inc_dec_not_neg_xchg_cas_xadd v35.2).bind fun v33 => bif !v33.1 then some (false, v33.2) else bif !i.rep then some (true, v33.2) else (f51 i s_movs_stos v33.2).bind fun v32 => some (v32.1, v32.2) else bif !i.rep then some (true, v35.2) else (f51 i s_movs_stos v35.2).bind fun v34 => some (v34.1, v34.2) else (f51 i s_cmov_set_jcc v74.2).bind fun v73 => bif !v73.1 then bif i.cc != 0 then some (false, v73.2) else (f51 i s_movzx_movsx v73.2).bind fun v54 => bif v54.1 then bif i.w2 == 1 then bif i.lock then bif i.A.kind != 2 then some (false, v54.2) else (f51 i s_add_or_adc_sbb_and_sub_xor_inc_dec_not_neg_xchg_cas_xadd v54.2).bind fun v38 => bif !v38.1 then some (false, v38.2) else bif !i.rep then some (true, v38.2) else (f51 i s_movs_stos v38.2).bind fun v37 => some (v37.1, v37.2) else bif !i.rep then some (true, v54.2) else (f51 i s_movs_stos v54.2).bind fun v39 => some (v39.1, v39.2) else bif i.w2 == 2 then bif decide (i.W ≥ 4) then bif i.lock then bif i.A.kind != 2 then some (false, v54.2) else (f51 i s_add_or_adc_sbb_and_sub_xor_inc_dec_not_neg_xchg_cas_xadd v54.2).bind fun v41 => bif !v41.1 then some (false, v41.2) else bif !i.rep then some (true, v41.2) else (f51 i s_movs_stos v41.2).bind fun v40 => some (v40.1, v40.2) else bif !i.rep then some (true, v54.2) else (f51 i s_movs_stos v54.2).bind fun v42 => some (v42.1, v42.2) else bif i.w2 == 4 then bif i.W == 8 then (f51 i s_movsx v54.2).bind fun v46 => bif !v46.1 then some (false, v46.2) else bif i.lock then bif i.A.kind != 2 then some (false, v46.2) else (f51 i s_add_or_adc_sbb_and_sub_xor_inc_dec_not_neg_xchg_cas_xadd v46.2).bind fun v44 => bif !v44.1 then some (false, v44.2) else bif !i.rep then some (true, v44.2) else (f51 i s_movs_stos v44.2).bind fun v43 => some (v43.1, v43.2) else bif !i.rep then some (true, v46.2) else (f51 i s_movs_stos v46.2).bind fun v45 => some (v45.1, v45.2) else some (false, v54.2) else some (false, v54.2) else bif i.w2 == 4 then bif i.W == 8 then (f51 i s_movsx v54.2).bind fun v50 => bif !v50.1 then some (false, v50.2) else bif i.lock then bif i.A.kind != 2 then some (false, v50.2) else (f51 i s_add_or_adc_sbb_and_sub_xor_inc_dec_not_neg_xchg_cas_xadd v50.2).bind fun v48 => bif !v48.1 then some (false, v48.2) else bif !i.rep then some (true, v48.2) else (f51 i s_movs_stos v48.2).bind fun v47 => some (v47.1, v47.2) else bif !i.rep then some (true, v50.2) else (f51 i s_movs_stos v50.2).bind fun v49 => some (v49.1, v49.2) else some (false, v54.2) else some (false, v54.2) else bif i.w2 != 0 then some (false, v54.2) else bif i.lock then bif i.A.kind != 2 then some (false, v54.2) else (f51 i s_add_or_adc_sbb_and_sub_xor_inc_dec_not_neg_xchg_cas_xadd v54.2).bind fun v52 => bif !v52.1 then some (false, v52.2) else bif !i.rep then some (true, v52.2) else (f51 i s_movs_stos v52.2).bind fun v51 => some (v51.1, v51.2) else bif !i.rep then some (true, v54.2) else (f51 i s_movs_stos v54.2).bind fun v53 => some (v53.1, v53.2) else (f51 i s_movzx_movsx v73.2).bind fun v72 => bif v72.1 then bif i.w2 == 1 then bif i.lock then bif i.A.kind != 2 then some (false, v72.2) else (f51 i s_add_or_adc_sbb_and_sub_xor_inc_dec_not_neg_xchg_cas_xadd v72.2).bind fun v56 => bif !v56.1 then some (false, v56.2) else bif !i.rep then some (true, v56.2) else (f51 i s_movs_stos v56.2).bind fun v55 => some (v55.1, v55.2) else bif !i.rep then some (true, v72.2) else (f51 i s_movs_stos v72.2).bind fun v57 => some (v57.1, v57.2) else bif i.w2 == 2 then bif decide (i.W ≥ 4) then bif i.lock then bif i.A.kind != 2 then some (false, v72.2) else (f51 i s_add_or_adc_sbb_and_sub_xor_inc_dec_not_neg_xchg_cas_xadd v72.2).bind fun v59 => bif !v59.1 then some (false, v59.2) else bif !i.rep then some (true, v59.2) else (f51 i s_movs_stos v59.2).bind fun v58 => some (v58.1, v58.2) else bif !i.rep then some (true, v72.2) else (f51 i s_movs_stos v72.2).bind fun v60 => some (v60.1, v60.2) else bif i.w2 == 4 then bif i.W == 8 then (f51 i s_movsx v72.2).bind fun v64 => bif !v64.1 then some (false, v64.2) else bif i.lock then bif i.A.kind != 2 then some (false, v64.2) else (f51 i s_add_or_adc_sbb_and_sub_xor_inc_dec_not_neg_xchg_cas_xadd v64.2).bind fun v62 => bif !v62.1 then some (false, v62.2) else bif !i.rep then some (true, v62.2) else (f51 i s_movs_stos v62.2).bind fun v61 => some (v61.1, v61.2) else bif !i.rep then some (true, v64.2) else (f51 i s_movs_stos v64.2).bind fun v63 => some (v63.1, v63.2) else some (false, v72.2) else some (false, v72.2) else bif i.w2 == 4 then bif i.W == 8 then (f51 i s_movsx v72.2).bind fun v68 => bif !v68.1 then some (false, v68.2) else bif i.lock then bif i.A.kind != 2 then some (false, v68.2) else (f51 i s_add_or_adc_sbb_and_sub_xor_inc_dec_not_neg_xchg_cas_xadd v68.2).bind fun v66 => bif !v66.1 then some (false, v66.2) else bif !i.rep then some (true, v66.2) else (f51 i s_movs_stos v66.2).bind fun v65 => some (v65.1, v65.2) else bif !i.rep then some (true, v68.2) else (f51 i s_movs_stos v68.2).bind fun v67 => some (v67.1, v67.2) else some (false, v72.2) else some (false, v72.2) else bif i.w2 != 0 then some (false, v72.2) else bif i.lock then bif i.A.kind != 2 then some (false, v72.2) else (f51 i s_add_or_adc_sbb_and_sub_xor_inc_dec_not_neg_xchg_cas_xadd v72.2).bind fun v70 => bif !v70.1 then some (false, v70.2) else bif !i.rep then some (true, v70.2) else (f51 i s_movs_stos v70.2).bind fun v69 => some (v69.1, v69.2) else bif !i.rep then some (true, v72.2) else (f51 i s_movs_stos v72.2).bind fun v71 => some (v71.1, v71.2) := by intros; exact (congrFun (qF h18 (mkC_nat _ _ _ _) _) _).trans (by kernel_rfl)
noncomputable def k18 : SF Tryz.prog := SF.spec (g := 18) (enc := encR [boS]) (S := appS [.g _ cInst] f18) (mkF_ok (C := CC18) rfl Tryz.func18 h18 Tryz.ntmps18.symm)
/-! 13: L10_awake -/
noncomputable def o39 : SF Tryz.prog := SF.ownK 39 Tryz.f39 [] [] 16 [] Tryz.func39 Tryz.ntmps39.symm
noncomputable def o11 : SF Tryz.prog := SF.ownK 11 Tryz.f11 [] [2] 5 [] Tryz.func11 Tryz.ntmps11.symm
noncomputable def o40 : SF Tryz.prog := SF.ownK 40 Tryz.f40 [] [0] 2 [] Tryz.func40 Tryz.ntmps40.symm
noncomputable def o84 : SF Tryz.prog := SF.ownK 84 Tryz.f84 [] [] 8 [] Tryz.func84 Tryz.ntmps84.symm
noncomputable def o41 : SF Tryz.prog := SF.ownK 41 Tryz.f41 [o84] [5] 31 [(3, ⟨[3, 8, 9, 10], [], [3], []⟩)] Tryz.func41 Tryz.ntmps41.symm
noncomputable def o52 : SF Tryz.prog := SF.ownK 52 Tryz.f52 [] [3] 17 [] Tryz.func52 Tryz.ntmps52.symm
noncomputable def o64 : SF Tryz.prog := SF.ownK 64 Tryz.f64 [o52] [1] 41 [] Tryz.func64 Tryz.ntmps64.symm
noncomputable def o65 : SF Tryz.prog := SF.ownK 65 Tryz.f65 [] [4] 41 [] Tryz.func65 Tryz.ntmps65.symm
noncomputable def o105 : SF Tryz.prog := SF.ownK 105 Tryz.f105 [] [] 17 [] Tryz.func105 Tryz.ntmps105.symm
noncomputable def o160 : SF Tryz.prog := SF.ownK 160 Tryz.f160 [] [] 21 [] Tryz.func160 Tryz.ntmps160.symm
noncomputable def o179 : SF Tryz.prog := SF.ownK 179 Tryz.f179 [o160, o105] [1] 46 [] Tryz.func179 Tryz.ntmps179.symm
noncomputable def o159 : SF Tryz.prog := SF.ownK 159 Tryz.f159 [o179] [1] 39 [] Tryz.func159 Tryz.ntmps159.symm
noncomputable def o110 : SF Tryz.prog := SF.ownK 110 Tryz.f110 [o159] [2] 20 [(2, ⟨[2, 7, 8, 9], [2], [4], []⟩)] Tryz.func110 Tryz.ntmps110.symm
noncomputable def o113 : SF Tryz.prog := SF.ownK 113 Tryz.f113 [o160] [1] 10 [] Tryz.func113 Tryz.ntmps113.symm
noncomputable def o111 : SF Tryz.prog := SF.ownK 111 Tryz.f111 [o113] [1] 22 [] Tryz.func111 Tryz.ntmps111.symm
noncomputable def o112 : SF Tryz.prog := SF.ownK 112 Tryz.f112 [] [1] 16 [] Tryz.func112 Tryz.ntmps112.symm
noncomputable def o66 : SF Tryz.prog := SF.ownK 66 Tryz.f66 [o52, o105, o110, o111, o112, o113, o11] [1] 271 [] Tryz.func66 Tryz.ntmps66.symm
noncomputable def o67 : SF Tryz.prog := SF.ownK 67 Tryz.f67 [o110, o113, o52, o105, o112] [1] 175 [] Tryz.func67 Tryz.ntmps67.symm
noncomputable def o34 : SF Tryz.prog := SF.ownK 34 Tryz.f34 [o52, o64, o65, o66, o67] [1] 41 [] Tryz.func34 Tryz.ntmps34.symm
noncomputable def o35 : SF Tryz.prog := SF.ownK 35 Tryz.f35 [] [2] 10 [] Tryz.func35 Tryz.ntmps35.symm
noncomputable def o36 : SF Tryz.prog := SF.ownK 36 Tryz.f36 [] [] 25 [] Tryz.func36 Tryz.ntmps36.symm
noncomputable def o47 : SF Tryz.prog := SF.ownK 47 Tryz.f47 [] [] 15 [] Tryz.func47 Tryz.ntmps47.symm
noncomputable def o173 : SF Tryz.prog := SF.ownK 173 Tryz.f173 [] [2] 14 [] Tryz.func173 Tryz.ntmps173.symm
noncomputable def o172 : SF Tryz.prog := SF.ownK 172 Tryz.f172 [o173] [2] 8 [] Tryz.func172 Tryz.ntmps172.symm
noncomputable def o171 : SF Tryz.prog := SF.ownK 171 Tryz.f171 [o172] [] 19 [(2, ⟨[0, 1, 7, 8], [], [4], []⟩)] Tryz.func171 Tryz.ntmps171.symm
noncomputable def o138 : SF Tryz.prog := SF.ownK 138 Tryz.f138 [o172, o171] [] 11 [] Tryz.func138 Tryz.ntmps138.symm
noncomputable def o83 : SF Tryz.prog := SF.ownK 83 Tryz.f83 [o138] [3, 5] 43 [(2, ⟨[0, 3, 8, 9], [3], [], []⟩)] Tryz.func83 Tryz.ntmps83.symm
noncomputable def o54 : SF Tryz.prog := SF.ownK 54 Tryz.f54 [] [] 8 [] Tryz.func54 Tryz.ntmps54.symm
noncomputable def o58 : SF Tryz.prog := SF.ownK 58 Tryz.f58 [o47, o83, o54] [] 42 [] Tryz.func58 Tryz.ntmps58.symm
noncomputable def o27 : SF Tryz.prog := SF.ownK 27 Tryz.f27 [o58] [] 12 [(2, ⟨[0, 1, 5], [], [5], []⟩)] Tryz.func27 Tryz.ntmps27.symm
noncomputable def o127 : SF Tryz.prog := SF.ownK 127 Tryz.f127 [o105] [] 21 [] Tryz.func127 Tryz.ntmps127.symm
noncomputable def o107 : SF Tryz.prog := SF.ownK 107 Tryz.f107 [o105] [] 10 [] Tryz.func107 Tryz.ntmps107.symm
noncomputable def o60 : SF Tryz.prog := SF.ownK 60 Tryz.f60 [o107] [] 9 [] Tryz.func60 Tryz.ntmps60.symm
noncomputable def o75 : SF Tryz.prog := SF.ownK 75 Tryz.f75 [o127, o60] [] 20 [] Tryz.func75 Tryz.ntmps75.symm
noncomputable def o118 : SF Tryz.prog := SF.ownK 118 Tryz.f118 [o75] [4] 34 [] Tryz.func118 Tryz.ntmps118.symm
noncomputable def o106 : SF Tryz.prog := SF.ownK 106 Tryz.f106 [o138] [10] 42 [] Tryz.func106 Tryz.ntmps106.symm
noncomputable def o59 : SF Tryz.prog := SF.ownK 59 Tryz.f59 [o47, o105, o106] [] 43 [(4, ⟨[0, 1, 2, 4, 30, 31], [], [10], []⟩)] Tryz.func59 Tryz.ntmps59.symm
noncomputable def o188 : SF Tryz.prog := SF.ownK 188 Tryz.f188 [] [] 19 [(1, ⟨[0, 1, 3], [], [], []⟩)] Tryz.func188 Tryz.ntmps188.symm
noncomputable def o187 : SF Tryz.prog := SF.ownK 187 Tryz.f187 [o188] [] 4 [] Tryz.func187 Tryz.ntmps187.symm
noncomputable def o180 : SF Tryz.prog := SF.ownK 180 Tryz.f180 [o187, o138] [8, 10] 54 [(2, ⟨[0, 5, 6, 17], [], [0, 5, 6], []⟩)] Tryz.func180 Tryz.ntmps180.symm
noncomputable def o164 : SF Tryz.prog := SF.ownK 164 Tryz.f164 [o59, o180] [] 37 [(5, ⟨[0, 1, 2, 10, 19, 20], [], [10], []⟩)] Tryz.func164 Tryz.ntmps164.symm
noncomputable def o82 : SF Tryz.prog := SF.ownK 82 Tryz.f82 [] [] 13 [] Tryz.func82 Tryz.ntmps82.symm
noncomputable def o117 : SF Tryz.prog := SF.ownK 117 Tryz.f117 [o164, o82] [] 28 [] Tryz.func117 Tryz.ntmps117.symm
noncomputable def o69 : SF Tryz.prog := SF.ownK 69 Tryz.f69 [o75, o118, o117, o60] [4] 41 [] Tryz.func69 Tryz.ntmps69.symm
noncomputable def o162 : SF Tryz.prog := SF.ownK 162 Tryz.f162 [] [] 4 [] Tryz.func162 Tryz.ntmps162.symm
noncomputable def o130 : SF Tryz.prog := SF.ownK 130 Tryz.f130 [o105] [] 16 [] Tryz.func130 Tryz.ntmps130.symm
noncomputable def o114 : SF Tryz.prog := SF.ownK 114 Tryz.f114 [o105, o60, o162, k161, o130] [] 53 [] Tryz.func114 Tryz.ntmps114.symm
noncomputable def o121 : SF Tryz.prog := SF.ownK 121 Tryz.f121 [o105] [] 19 [] Tryz.func121 Tryz.ntmps121.symm
noncomputable def o115 : SF Tryz.prog := SF.ownK 115 Tryz.f115 [o60, o121] [9] 19 [] Tryz.func115 Tryz.ntmps115.symm
noncomputable def o116 : SF Tryz.prog := SF.ownK 116 Tryz.f116 [o105, o60, o162, k163, o130] [] 46 [] Tryz.func116 Tryz.ntmps116.symm
noncomputable def o68 : SF Tryz.prog := SF.ownK 68 Tryz.f68 [o105, o114, o115, o116] [8, 11] 101 [] Tryz.func68 Tryz.ntmps68.symm
noncomputable def o119 : SF Tryz.prog := SF.ownK 119 Tryz.f119 [o59, o82, o60] [] 35 [] Tryz.func119 Tryz.ntmps119.symm
noncomputable def o120 : SF Tryz.prog := SF.ownK 120 Tryz.f120 [o127, o60, o107] [] 35 [] Tryz.func120 Tryz.ntmps120.symm
noncomputable def o70 : SF Tryz.prog := SF.ownK 70 Tryz.f70 [o118, o119, o120] [5] 33 [] Tryz.func70 Tryz.ntmps70.symm
noncomputable def o71 : SF Tryz.prog := SF.ownK 71 Tryz.f71 [o69, o121, o118, o70] [2] 57 [] Tryz.func71 Tryz.ntmps71.symm
noncomputable def o122 : SF Tryz.prog := SF.ownK 122 Tryz.f122 [o119] [] 22 [] Tryz.func122 Tryz.ntmps122.symm
noncomputable def o123 : SF Tryz.prog := SF.ownK 123 Tryz.f123 [o117] [] 24 [] Tryz.func123 Tryz.ntmps123.symm
noncomputable def o72 : SF Tryz.prog := SF.ownK 72 Tryz.f72 [o69, o122, o123, o70] [] 28 [] Tryz.func72 Tryz.ntmps72.symm
noncomputable def o73 : SF Tryz.prog := SF.ownK 73 Tryz.f73 [o105, o60, o68] [6, 9, 12] 52 [] Tryz.func73 Tryz.ntmps73.symm
noncomputable def o181 : SF Tryz.prog := SF.ownK 181 Tryz.f181 [] [] 51 [] Tryz.func181 Tryz.ntmps181.symm
noncomputable def o165 : SF Tryz.prog := SF.ownK 165 Tryz.f165 [o181] [] 11 [] Tryz.func165 Tryz.ntmps165.symm
noncomputable def o166 : SF Tryz.prog := SF.ownK 166 Tryz.f166 [o181] [] 28 [] Tryz.func166 Tryz.ntmps166.symm
noncomputable def o124 : SF Tryz.prog := SF.ownK 124 Tryz.f124 [o105, o60, o165, o121, o166, o130, o107, o115] [10, 16] 75 [] Tryz.func124 Tryz.ntmps124.symm
noncomputable def o125 : SF Tryz.prog := SF.ownK 125 Tryz.f125 [o120] [] 40 [] Tryz.func125 Tryz.ntmps125.symm
noncomputable def o182 : SF Tryz.prog := SF.ownK 182 Tryz.f182 [o160, o60] [] 38 [] Tryz.func182 Tryz.ntmps182.symm
noncomputable def o167 : SF Tryz.prog := SF.ownK 167 Tryz.f167 [o105, o60, o107, o121, o182] [] 66 [] Tryz.func167 Tryz.ntmps167.symm
noncomputable def o126 : SF Tryz.prog := SF.ownK 126 Tryz.f126 [o75, o69, o167, o82, o125] [2] 60 [] Tryz.func126 Tryz.ntmps126.symm
noncomputable def o74 : SF Tryz.prog := SF.ownK 74 Tryz.f74 [o75, o69, o124, o125, o126, o120] [2, 5, 10] 98 [] Tryz.func74 Tryz.ntmps74.symm
noncomputable def o168 : SF Tryz.prog := SF.ownK 168 Tryz.f168 [o105, o60] [] 34 [] Tryz.func168 Tryz.ntmps168.symm
noncomputable def o129 : SF Tryz.prog := SF.ownK 129 Tryz.f129 [] [] 18 [] Tryz.func129 Tryz.ntmps129.symm
noncomputable def o128 : SF Tryz.prog := SF.ownK 128 Tryz.f128 [o168, o129, o130] [8, 11] 54 [] Tryz.func128 Tryz.ntmps128.symm
noncomputable def o76 : SF Tryz.prog := SF.ownK 76 Tryz.f76 [o105, o60, o128, o129, o130, o115, o121] [8, 11] 111 [] Tryz.func76 Tryz.ntmps76.symm
noncomputable def o131 : SF Tryz.prog := SF.ownK 131 Tryz.f131 [o119, o120] [] 38 [] Tryz.func131 Tryz.ntmps131.symm
noncomputable def o77 : SF Tryz.prog := SF.ownK 77 Tryz.f77 [o118, o69, o120, o131, o68, o75] [2, 7, 10] 136 [] Tryz.func77 Tryz.ntmps77.symm
noncomputable def o136 : SF Tryz.prog := SF.ownK 136 Tryz.f136 [] [1] 6 [] Tryz.func136 Tryz.ntmps136.symm
noncomputable def o137 : SF Tryz.prog := SF.ownK 137 Tryz.f137 [] [1] 7 [] Tryz.func137 Tryz.ntmps137.symm
noncomputable def o183 : SF Tryz.prog := SF.ownK 183 Tryz.f183 [] [] 6 [] Tryz.func183 Tryz.ntmps183.symm
noncomputable def o170 : SF Tryz.prog := SF.ownK 170 Tryz.f170 [o183] [] 8 [] Tryz.func170 Tryz.ntmps170.symm
noncomputable def o135 : SF Tryz.prog := SF.ownK 135 Tryz.f135 [o170] [1] 6 [] Tryz.func135 Tryz.ntmps135.symm
noncomputable def o169 : SF Tryz.prog := SF.ownK 169 Tryz.f169 [o137] [1] 8 [] Tryz.func169 Tryz.ntmps169.symm
noncomputable def o132 : SF Tryz.prog := SF.ownK 132 Tryz.f132 [o136, o137, o135, o169] [2] 53 [] Tryz.func132 Tryz.ntmps132.symm
noncomputable def o78 : SF Tryz.prog := SF.ownK 78 Tryz.f78 [o132, o70, o69, o75, o120] [2] 56 [] Tryz.func78 Tryz.ntmps78.symm
noncomputable def o133 : SF Tryz.prog := SF.ownK 133 Tryz.f133 [o69] [] 28 [] Tryz.func133 Tryz.ntmps133.symm
noncomputable def o79 : SF Tryz.prog := SF.ownK 79 Tryz.f79 [o132, o133, o122, o123] [] 56 [] Tryz.func79 Tryz.ntmps79.symm
noncomputable def o134 : SF Tryz.prog := SF.ownK 134 Tryz.f134 [o75, o117, o119] [] 107 [] Tryz.func134 Tryz.ntmps134.symm
noncomputable def o80 : SF Tryz.prog := SF.ownK 80 Tryz.f80 [o75, o121, o120, o130, o107, o134] [] 50 [] Tryz.func80 Tryz.ntmps80.symm
noncomputable def o81 : SF Tryz.prog := SF.ownK 81 Tryz.f81 [o135, o136, o137] [1, 5] 35 [(3, ⟨[3, 21, 22, 23], [], [3], []⟩)] Tryz.func81 Tryz.ntmps81.symm
noncomputable def o37 : SF Tryz.prog := SF.ownK 37 Tryz.f37 [o69, o68, o70, o71, o72, o73, o74, o75, o76, o77, o78, o79, o80, o81, o82] [2, 4, 6, 9] 215 [] Tryz.func37 Tryz.ntmps37.symm
noncomputable def o38 : SF Tryz.prog := SF.ownK 38 Tryz.f38 [o59, o27, o83] [] 26 [] Tryz.func38 Tryz.ntmps38.symm
noncomputable def o32 : SF Tryz.prog := SF.ownK 32 Tryz.f32 [o59, o58, o60] [] 47 [] Tryz.func32 Tryz.ntmps32.symm
noncomputable def o12 : SF Tryz.prog := SF.ownK 12 Tryz.f12 [o34, o35, o36, o27, o37, o38, o32] [6] 119 [] Tryz.func12 Tryz.ntmps12.symm
noncomputable def OC13 : Ctx := mkC (P := Tryz.prog) [o39, o11, o40, o41, o12] [] 48 []
noncomputable def k13 : SF Tryz.prog := SF.nums (g := 13) (F := trueF) (mkC_closed (C := OC13) rfl Tryz.func13 Tryz.ntmps13.symm (by kernel_rfl)) trueF_num
/-! 5: L10_StepSets -/
noncomputable def CC5 : Ctx := mkC (P := Tryz.prog) [k8, (SF.spec ok17), k9, k14, k18, k12, k13, k19, k10, k20] [2, 3, 9] 60 []
noncomputable def f5 : TStart → TInst → Heap → Option (Bool × Heap) := hide (mkF CC5 Tryz.f5 [.g _ cStart, .g _ cInst] [boS])
theorem h5 : IsF CC5 Tryz.f5 [.g _ cStart, .g _ cInst] [boS] f5 := hide_eq _
theorem q5 : ∀ (s : TStart) (i : TInst) (H : Heap), f5 s i H = (f8 s H).bind fun v9 => (f17 v9.1.1 0 v9.2).bind fun v8 => (f9 s.C v8.2).bind fun v7 => (f14 i v7.2).bind fun v6 => (f18 i v6.2).bind fun v5 => bif !v5.1 then (f12 v7.1 0 v6.1 v9.1.1 v5.2).bind fun v0 => bif v0.1 == 4 then some (true, v0.2) else some (false, v0.2) else (f12 v7.1 0 v6.1 v9.1.1 v5.2).bind fun v4 => bif !xSets v6.1 then (f10 v7.1 v4.2).bind fun v2 => bif !(v2.1.thunk.C == s.C.thunk.C && (v2.1.thunk.O == s.C.thunk.O && (v2.1.thunk.res == s.C.thunk.res && true))) then some (false, v2.2) else bif xStores v6.1 then some (true, v2.2) else (f17 v9.1.1 0 v2.2).bind fun v1 => bif decide (v1.1 ≤ v8.1) then some (true, v1.2) else some (false, v1.2) else bif xStores v6.1 then some (true, v4.2) else (f17 v9.1.1 0 v4.2).bind fun v3 => bif decide (v3.1 ≤ v8.1) then some (true, v3.2) else some (false, v3.2) := by intros; exact (congrFun (qF h5 (mkC_nat _ _ _ _) _ _) _).trans (by kernel_rfl)
noncomputable def k5 : SF Tryz.prog := SF.spec (g := 5) (enc := encR [boS]) (S := appS [.g _ cStart, .g _ cInst] f5) (mkF_ok (C := CC5) rfl Tryz.func5 h5 Tryz.ntmps5.symm)
/-! 6: L10_StepBlind -/
noncomputable def CC6 : Ctx := mkC (P := Tryz.prog) [k14, k18, k21, k13, (SF.spec ok22), k8, k9, k12, k10, (SF.spec ok17)] [3, 4, 7, 8] 119 [(11, ⟨[2, 3, 7, 8, 9, 10, 39, 40, 52, 53], [3, 7, 8], [2, 3, 7, 8, 9, 10, 39, 40], [3, 7, 8]⟩), (7, ⟨[2, 3, 7, 8, 39, 40], [3, 7, 8], [3, 7, 8], [3, 7, 8]⟩)]
noncomputable def f6 : TStart → TInst → SO → Heap → Option (Bool × Heap) := hide (mkF CC6 Tryz.f6 [.g _ cStart, .g _ cInst, slS] [boS])
theorem h6 : IsF CC6 Tryz.f6 [.g _ cStart, .g _ cInst, slS] [boS] f6 := hide_eq _
noncomputable def P6_7 : Code := (Code.l (Code.l (Code.r (Code.l (Code.r (Code.r (Code.r (Code.r (Code.r (bodyOf Tryz.f6))))))))))
def S6_7 (t2 : SO) (t39 t40 : Int) (b3 : TStart) (b7 : TInst) (b8 : TStart) (H : Heap) : St := ⟨[(2, .c (Cell.slice t2)), (3, .lp 3 0), (7, .lp 7 0), (8, .lp 8 0), (39, .c (Cell.int .i64 t39)), (40, .c (Cell.int .i64 t40))], [(3, TStart.row b3), (7, TInst.row b7), (8, TStart.row b8)], H⟩
noncomputable def D6_7 : Nat → St → Option (AExit × St) := dOf CC6 P6_7
noncomputable def LL6_7 : St → Option (AExit × St) := loopsD CC6 P6_7
theorem LL6_7_of (m : Nat) (hm : m < 18446744073709551616) (s : St) : ∃ n, LL6_7 s = D6_7 (n + m + 1) s := loopsD_of _ _ _ m hm
noncomputable def P6_11 : Code := (Code.l (Code.l (Code.r (Code.l (Code.r (Code.r (Code.l (Code.l (Code.r (Code.r P6_7))))))))))
def S6_11 (t2 : SO) (t9 : Int) (t10 : SO) (t39 t40 t52 t53 : Int) (b3 : TStart) (b7 : TInst) (b8 : TStart) (H : Heap) : St := ⟨[(2, .c (Cell.slice t2)), (3, .lp 3 0), (7, .lp 7 0), (8, .lp 8 0), (9, .c (Cell.int .i64 t9)), (10, .c (Cell.slice t10)), (39, .c (Cell.int .i64 t39)), (40, .c (Cell.int .i64 t40)), (52, .c (Cell.int .i64 t52)), (53, .c (Cell.int .i64 t53))], [(3, TStart.row b3), (7, TInst.row b7), (8, TStart.row b8)], H⟩
noncomputable def D6_11 : Nat → St → Option (AExit × St) := dOf CC6 P6_11
noncomputable def LL6_11 : St → Option (AExit × St) := loopsD CC6 P6_11
theorem LL6_11_of (m : Nat) (hm : m < 18446744073709551616) (s : St) : ∃ n, LL6_11 s = D6_11 (n + m + 1) s := loopsD_of _ _ _ m hm
def X6_11 (x0 : SO) (x1 : Int) (x2 : SO) (x3 : Int) (x4 : Int) (x5 : TStart) (x6 : TInst) (x7 : TStart) (H : Heap) : St := St.mk [(2, AV.c (Cell.slice x0)), (3, AV.lp 3 0), (7, AV.lp 7 0), (8, AV.lp 8 0), (9, AV.c (Cell.int .i64 x1)), (10, AV.c (Cell.slice x2)), (39, AV.c (Cell.int .i64 x3)), (40, AV.c (Cell.int .i64 x4))] [(3, x5.row), (7, x6.row), (8, x7.row)] H
def X6_7 (x0 : TStart) (x1 : TInst) (x2 : TStart) (H : Heap) : St := St.mk [(3, AV.lp 3 0), (7, AV.lp 7 0), (8, AV.lp 8 0)] [(3, x0.row), (7, x1.row), (8, x2.row)] H
noncomputable def J6_11 : Nat → AExit × St → Option (AExit × St) := fun n p => blockK 2 (seqK (execL CC6 (lpD CC6) (Code.r (Code.r (Code.r (Code.l (Code.l (Code.r (Code.r (Code.l (Code.l (Code.r (Code.l (Code.r (Code.r (Code.r (Code.r (Code.r (bodyOf Tryz.f6)))))))))))))))))) (blockK 1 (seqK (execL CC6 (lpD CC6) (Code.r (Code.r (Code.r (Code.l (Code.l (Code.r (Code.l (Code.r (Code.r (Code.r (Code.r (Code.r (bodyOf Tryz.f6)))))))))))))) (loopK (some (Keep.mk [2, 3, 7, 8, 39, 40] [3, 7, 8] [3, 7, 8] [3, 7, 8])) (loopN (exec CC6 (Code.l (Code.l (Code.r (Code.l (Code.r (Code.r (Code.r (Code.r (Code.r (bodyOf Tryz.f6))))))))))) (keepOf CC6.live (Code.l (Code.l (Code.r (Code.l (Code.r (Code.r (Code.r (Code.r (Code.r (bodyOf Tryz.f6))))))))))) n) retD)))) p.1 p.2
noncomputable def J6_7 : AExit × St → Option (Bool × Heap) := fun p => blockK 0 (seqK (execL CC6 (lpD CC6) (Code.r (Code.r (Code.r (Code.r (Code.r (Code.r (bodyOf Tryz.f6)))))))) (retA CC6 [ResultVar.tmp 6] (decF (decR [boS])))) p.1 p.2
theorem D6_11_s : ∀ (n : Nat) (t2 : SO) (t9 : Int) (t10 : SO) (t39 t40 t52 t53 : Int) (b3 : TStart) (b7 : TInst) (b8 : TStart) (H : Heap), D6_11 (n + 1) (S6_11 t2 t9 t10 t39 t40 t52 t53 b3 b7 b8 H) = bif decide (t53 < t52) then bif decide (t53 < slen t2) then t2.bind fun v4 => bif inb t53 v4.len && v4.esz == 1 then (H.get v4.id (v4.off + t53.toNat * 1)).bind fun v3 => (Cell.toInt .u8 v3).bind fun v2 => t10.bind fun v1 => bif inb t53 v1.len && v1.esz == 1 then (H.put v1.id (v1.off + t53.toNat * 1) [Cell.int .u8 v2]).bind fun v0 => D6_11 n (S6_11 t2 t9 t10 t39 t40 t52 (IntKind.i64.wrap (t53 + 1)) b3 b7 b8 v0) else none else none else D6_11 n (S6_11 t2 t9 t10 t39 t40 t52 (IntKind.i64.wrap (t53 + 1)) b3 b7 b8 H) else some (AExit.exit 2, X6_11 t2 t9 t10 t39 t40 b3 b7 b8 H) := by intros; exact (dOf_s (mkC_nat _ _ _ _) _ _ _).trans (by kernel_rfl)
theorem D6_7_s : ∀ (n : Nat) (t2 : SO) (t39 t40 : Int) (b3 : TStart) (b7 : TInst) (b8 : TStart) (H : Heap), D6_7 (n + 1) (S6_7 t2 t39 t40 b3 b7 b8 H) = bif decide (t40 < t39) then b8.L.bind fun v8 => bif inb t40 v8.len && v8.esz == 5 then ((H ++ [Blk.row [] false]).get v8.id (v8.off + t40.toNat * 5 + 1)).bind fun v7 => v7.toSlice.bind fun v6 => ((H ++ [Blk.row [] false]).append 1 1 (some (Sl.mk (List.length H) 0 0 0 1)) v6).bind fun v5 => (LL6_11 (S6_11 t2 t40 v5.1 t39 t40 (slen v5.1) 0 b3 b7 b8 v5.2)).bind (J6_11 n) else none else some (AExit.exit 0, X6_7 b3 b7 b8 H) := by intros; exact (dOf_s (mkC_nat _ _ _ _) _ _ _).trans (by kernel_rfl)
theorem J6_11_0 : ∀ (n : Nat) (x0 : SO) (x1 : Int) (x2 : SO) (x3 x4 : Int) (x5 : TStart) (x6 : TInst) (x7 : TStart) (H : Heap), J6_11 n (AExit.exit 2, X6_11 x0 x1 x2 x3 x4 x5 x6 x7 H) = x7.L.bind fun v10 => bif inb x1 v10.len && v10.esz == 5 then (H.put v10.id (v10.off + x1.toNat * 5 + 1) [Cell.slice x2]).bind fun v9 => D6_7 n (S6_7 x0 x3 (IntKind.i64.wrap (x4 + 1)) x5 x6 x7 v9) else none := by intros; kernel_rfl
theorem q6 : ∀ (s : TStart) (i : TInst) (other : SO) (H : Heap), f6 s i other H = (f14 i H).bind fun v14 => (f18 i v14.2).bind fun v13 => bif !v13.1 then some (true, v13.2) else bif xLoads v14.1 then some (true, v13.2) else (f22 s.L (v13.2 ++ [Blk.row [] false])).bind fun v12 => (v12.2.append 5 48 (some (Sl.mk (List.length v13.2) 0 0 0 5)) v12.1).bind fun v11 => (LL6_7 (S6_7 other (slen v11.1) 0 s v14.1 (TStart.mk s.C v11.1 s.ops s.mine) v11.2)).bind J6_7 := by intros; exact (congrFun (qF h6 (mkC_nat _ _ _ _) _ _ _) _).trans (by kernel_rfl)
theorem J6_7_0 : ∀ (x0 : TStart) (x1 : TInst) (x2 : TStart) (H : Heap), J6_7 (AExit.exit 0, X6_7 x0 x1 x2 H) = (f8 x0 H).bind fun v24 => (f8 x2 v24.2).bind fun v23 => (f9 x0.C v23.2).bind fun v22 => (f9 x0.C v22.2).bind fun v21 => (f12 v22.1 0 x1 v24.1.1 v21.2).bind fun v20 => (f12 v21.1 0 x1 v23.1.1 v20.2).bind fun v19 => bif v20.1 == v19.1 then (f10 v22.1 v19.2).bind fun v18 => (f10 v21.1 v18.2).bind fun v17 => bif v18.1.reg.a0 == v17.1.reg.a0 && (v18.1.reg.a1 == v17.1.reg.a1 && (v18.1.reg.a2 == v17.1.reg.a2 && (v18.1.reg.a3 == v17.1.reg.a3 && (v18.1.reg.a4 == v17.1.reg.a4 && (v18.1.reg.a5 == v17.1.reg.a5 && (v18.1.reg.a6 == v17.1.reg.a6 && (v18.1.reg.a7 == v17.1.reg.a7 && (v18.1.reg.a8 == v17.1.reg.a8 && (v18.1.reg.a9 == v17.1.reg.a9 && (v18.1.reg.a10 == v17.1.reg.a10 && (v18.1.reg.a11 == v17.1.reg.a11 && (v18.1.reg.a12 == v17.1.reg.a12 && (v18.1.reg.a13 == v17.1.reg.a13 && (v18.1.reg.a14 == v17.1.reg.a14 && (v18.1.reg.a15 == v17.1.reg.a15 && true))))))))))))))) && (v18.1.thunk.C == v17.1.thunk.C && (v18.1.thunk.O == v17.1.thunk.O && (v18.1.thunk.res == v17.1.thunk.res && true)) && (v18.1.ip == v17.1.ip && true)) then (f17 v24.1.1 0 v17.2).bind fun v16 => (f17 v23.1.1 0 v16.2).bind fun v15 => bif v16.1 == v15.1 then some (true, v15.2) else some (false, v15.2) else some (false, v17.2) else some (false, v19.2) := by intros; kernel_rfl
/-! 24: R10_Locked -/
noncomputable def CC24 : Ctx := mkC (P := Tryz.prog) [k25] [1] 19 []
noncomputable def f24 : TInst → Heap → Option (Bool × Heap) := hide (mkF CC24 Tryz.f24 [.g _ cInst] [boS])
theorem h24 : IsF CC24 Tryz.f24 [.g _ cInst] [boS] f24 := hide_eq _
noncomputable def k24 : SF Tryz.prog := SF.spec (g := 24) (enc := encR [boS]) (S := appS [.g _ cInst] f24) (mkF_ok (C := CC24) rfl Tryz.func24 h24 Tryz.ntmps24.symm)
/-! 7: L10_StepPrecise -/
noncomputable def CC7 : Ctx := mkC (P := Tryz.prog) [k8, (SF.spec ok23), (SF.spec ok17), k9, k14, k12, k18, k24, k25, (SF.spec ok26), k13, (SF.spec ok27), k10] [2, 3] 95 []
noncomputable def f7 : TStart → TInst → Heap → Option (Bool × Heap) := hide (mkF CC7 Tryz.f7 [.g _ cStart, .g _ cInst] [boS])
theorem h7 : IsF CC7 Tryz.f7 [.g _ cStart, .g _ cInst] [boS] f7 := hide_eq _