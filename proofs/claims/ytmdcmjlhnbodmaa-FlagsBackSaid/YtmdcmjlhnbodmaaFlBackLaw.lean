/- FlagsBack: for every input the law returns true, and its arguments read as they did. -/
import Derived.Test.YtmdcmjlhnbodmaaRows
import Derived.Test.YtmdcmjlhnbodmaaAb21
import Derived.Test.YtmdcmjlhnbodmaaFlBack
namespace Go.Proofs.Ytmdcmjlhnbodmaa.flagsBack
open Go Go.ChangeShapes Go.WideShapes Go.ChangeAt Go.RowKit Go.Proofs.Ytmdcmjlhnbodmaa.Ab
set_option linter.unusedVariables false
set_option maxRecDepth 100000

theorem own : ownKnob Try.prog.godebug = none := by kernel_rfl
theorem laid : laidOutB Try.prog = true := by kernel_rfl
theorem walk (a0 : Int) (a1 : Int) (b0 : Int) (b1 : Int) (h_a0 : (Lit.int .u64 a0).wf = true) (h_a1 : (Lit.int .u64 a1).wf = true) (h_b0 : (Lit.int .u64 b0).wf = true) (h_b1 : (Lit.int .u64 b1).wf = true) (W : World) :
    Calls Try.prog 8 #[.agg #[.int .u64 a0, .int .u64 a1], .agg #[.int .u64 b0, .int .u64 b1]] W fun e w' => e = .returned (.bool true) ∧ Below W.heap.size W w' := by
  refine law_ok (C := C8) (good27.env rfl) (good27.ctx rfl rfl rfl) (by kernel_rfl) Try.func8 (c := bodyOf Try.f8) (by kernel_rfl) (Nat.le_of_eq Try.ntmps8.symm) (args := [.agg [Cell.int .u64 a0, Cell.int .u64 a1], .agg [Cell.int .u64 b0, Cell.int .u64 b1]]) (H := []) ?_ (HR.empty W) ?_ own_empty
  · rw [fnA_eq, s8 (h0 := wf_u64 h_a0) (h1 := wf_u64 h_a1) (h2 := wf_u64 h_b0) (h3 := wf_u64 h_b1)]; rfl
  · exact (.cons (.agg (.cons (.int _ _) (.cons (.int _ _) .nil))) (.cons (.agg (.cons (.int _ _) (.cons (.int _ _) .nil))) .nil))
theorem lifted (os : Os) (started : os.Started) (H : Type) (enc : TypeId × Value → H) :
    ReturnsInHanded {} Try.checked os 8 .any (Rows.flagsBackSpec.pre6 enc Try.prog Try.f8 Rows.flagsBackRow.domain false) (Rows.flagsBackSpec.post enc Try.prog Try.f8 false true false false) := by
  refine returnsInHanded_of_change (C := Try.checked) own started (by kernel_rfl) Try.func8
    (ChangeSpec.witness6 (enc := enc) (C := Try.checked) false ⟨#[], #[.agg #[.int .u64 0, .int .u64 0], .agg #[.int .u64 0, .int .u64 0]], []⟩ 8 (by kernel_rfl) (by kernel_rfl) (by kernel_rfl) (by kernel_rfl)) ?_
  intro W base args ds gs before hval0 hW hcnd _
  have hval : ∀ (j : Nat) t v, Try.f8.params[j]? = some t → args[j]? = some v → Value.okWide Try.prog W .any base t v := hval0
  have hW' := hW
  obtain ⟨p, q, hA0, hV, rfl, hfz, hnd⟩ := hW
  have hA : DataW.TrodAll enc Try.prog W 0 (fun _ => true) true Try.f8.params.toList args.toList ds p := hA0
  have hK := hA
  rw [Try.params8] at hA hval
  obtain ⟨v0, vs0, d0, ds0, p0, q0, hargs, rfl, rfl, h0, r0⟩ := trodAll_cons hA
  obtain ⟨v1, vs1, d1, ds1, p1, q1, rfl, rfl, rfl, h1, r1⟩ := trodAll_cons r0
  obtain ⟨rfl, rfl, rfl⟩ := trodAll_nil r1
  obtain rfl : args = #[v0, v1] := by cases args; simp_all
  obtain ⟨rfl, rfl⟩ := trodVars_none hV
  obtain ⟨cs0, rfl, hs0, hc0⟩ := value_array (ts := [22, 22]) Try.underlying50 (by kernel_rfl) (hval 0 50 v0 rfl rfl)
  have hz0 : Try.prog.cellsOf 50 = 2 := by kernel_rfl
  rw [hz0] at hs0
  obtain ⟨c0_0, c0_1, rfl⟩ := size_two hs0
  obtain ⟨u0_0, hu0_0, hk0_0⟩ := hc0 0 c0_0 rfl
  obtain rfl : 22 = u0_0 := Option.some.inj hu0_0
  obtain ⟨a0, rfl, h_a0⟩ := cell_int Try.underlying22 hk0_0
  obtain ⟨u0_1, hu0_1, hk0_1⟩ := hc0 1 c0_1 rfl
  obtain rfl : 22 = u0_1 := Option.some.inj hu0_1
  obtain ⟨a1, rfl, h_a1⟩ := cell_int Try.underlying22 hk0_1
  obtain ⟨cs1, rfl, hs1, hc1⟩ := value_array (ts := [22, 22]) Try.underlying50 (by kernel_rfl) (hval 1 50 v1 rfl rfl)
  have hz1 : Try.prog.cellsOf 50 = 2 := by kernel_rfl
  rw [hz1] at hs1
  obtain ⟨c1_0, c1_1, rfl⟩ := size_two hs1
  obtain ⟨u1_0, hu1_0, hk1_0⟩ := hc1 0 c1_0 rfl
  obtain rfl : 22 = u1_0 := Option.some.inj hu1_0
  obtain ⟨b0, rfl, h_b0⟩ := cell_int Try.underlying22 hk1_0
  obtain ⟨u1_1, hu1_1, hk1_1⟩ := hc1 1 c1_1 rfl
  obtain rfl : 22 = u1_1 := Option.some.inj hu1_1
  obtain ⟨b1, rfl, h_b1⟩ := cell_int Try.underlying22 hk1_1
  clear hA0 hval0
  have hlt := hW'.lt
  simp only [List.append_nil] at hW' hlt
  refine (walk a0 a1 b0 b1 h_a0 h_a1 h_b0 h_b1 W).mono fun e W' ⟨he, hg⟩ => ?_
  subst he
  exact ⟨_, rfl, post_below (pv := []) hW' (fun _ _ _ => trodAll_cons_mk (shut_bool Try.underlying4 _) trodAll_mk0) (fun sp hsp => below_all laid hg (by kernel_rfl) hK (fun x hx => hlt x (by simpa using hx)) fun x hx => hsp x (by simpa using hx)) (fun _ _ => rfl) (by simp)
    hg (ok_one (by kernel_rfl) rfl (okWide_bool_mk Try.underlying4 _))⟩

theorem over : Rows.flagsBackRow.holds Try.pinned (OpenSpec.ofChange Rows.flagsBackSpec) :=
  OpenClaim.holds_of_wide 8 Try.f8 rfl rfl rfl rfl rfl rfl rfl ⟨rfl, rfl, rfl, rfl, rfl⟩ rfl rfl rfl rfl rfl (by kernel_rfl) Try.func8 (by kernel_rfl)
    (of_decide_eq_true (by kernel_rfl)) (by unfold Func.isWrapper; first | (rw [if_pos (by decide +kernel)]; kernel_rfl) | (rw [if_neg (by decide +kernel)]; exact ⟨rfl, rfl⟩))
    (fun os started H enc _ => lifted os started H enc)
end Go.Proofs.Ytmdcmjlhnbodmaa.flagsBack
namespace Go.Proofs.Ytmdcmjlhnbodmaa
theorem flagsBack_proved : Rows.FlagsBackSaid := flagsBack.over
end Go.Proofs.Ytmdcmjlhnbodmaa
