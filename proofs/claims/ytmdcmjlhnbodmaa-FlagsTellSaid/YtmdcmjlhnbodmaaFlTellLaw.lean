/- FlagsTell: for every input the law returns true, and its arguments read as they did. -/
import Derived.Test.YtmdcmjlhnbodmaaRows
import Derived.Test.YtmdcmjlhnbodmaaAb21
import Derived.Test.YtmdcmjlhnbodmaaFlTell2
namespace Go.Proofs.Ytmdcmjlhnbodmaa.flagsTell
open Go Go.ChangeShapes Go.WideShapes Go.ChangeAt Go.RowKit Go.Proofs.Ytmdcmjlhnbodmaa.Ab
set_option linter.unusedVariables false
set_option maxRecDepth 100000

theorem own : ownKnob Try.prog.godebug = none := by kernel_rfl
theorem laid : laidOutB Try.prog = true := by kernel_rfl
theorem walk (t0 : Bool) (t1 : Bool) (t2 : Int) (cc : Int) (h_t2 : (Lit.int .u64 t2).wf = true) (h_cc : (Lit.int .i64 cc).wf = true) (W : World) :
    Calls Try.prog 10 #[.agg #[.bool t0, .bool t1, .int .u64 t2], .int .i64 cc] W fun e w' => e = .returned (.bool true) ∧ Below W.heap.size W w' := by
  refine law_ok (C := C10) (good36.env rfl) (good36.ctx rfl rfl rfl) (by kernel_rfl) Try.func10 (c := bodyOf Try.f10) (by kernel_rfl) (Nat.le_of_eq Try.ntmps10.symm) (args := [.agg [Cell.bool t0, Cell.bool t1, Cell.int .u64 t2], .c (Cell.int .i64 cc)]) (H := []) ?_ (HR.empty W) ?_ own_empty
  · rw [fnA_eq, s10 (hv := wf_u64 h_t2) (hc := wf_i64 h_cc)]; rfl
  · exact (.cons (.agg (.cons (.bool _) (.cons (.bool _) (.cons (.int _ _) .nil)))) (.cons (.c (.int _ _)) .nil))
theorem lifted (os : Os) (started : os.Started) (H : Type) (enc : TypeId × Value → H) :
    ReturnsInHanded {} Try.checked os 10 .any (Rows.flagsTellSpec.pre6 enc Try.prog Try.f10 Rows.flagsTellRow.domain false) (Rows.flagsTellSpec.post enc Try.prog Try.f10 false true false false) := by
  refine returnsInHanded_of_change (C := Try.checked) own started (by kernel_rfl) Try.func10
    (ChangeSpec.witness6 (enc := enc) (C := Try.checked) false ⟨#[], #[.agg #[.bool false, .bool false, .int .u64 0], .int .i64 0], []⟩ 8 (by kernel_rfl) (by kernel_rfl) (by kernel_rfl) (by kernel_rfl)) ?_
  intro W base args ds gs before hval0 hW hcnd _
  have hval : ∀ (j : Nat) t v, Try.f10.params[j]? = some t → args[j]? = some v → Value.okWide Try.prog W .any base t v := hval0
  have hW' := hW
  obtain ⟨p, q, hA0, hV, rfl, hfz, hnd⟩ := hW
  have hA : DataW.TrodAll enc Try.prog W 0 (fun _ => true) true Try.f10.params.toList args.toList ds p := hA0
  have hK := hA
  rw [Try.params10] at hA hval
  obtain ⟨v0, vs0, d0, ds0, p0, q0, hargs, rfl, rfl, h0, r0⟩ := trodAll_cons hA
  obtain ⟨v1, vs1, d1, ds1, p1, q1, rfl, rfl, rfl, h1, r1⟩ := trodAll_cons r0
  obtain ⟨rfl, rfl, rfl⟩ := trodAll_nil r1
  obtain rfl : args = #[v0, v1] := by cases args; simp_all
  obtain ⟨rfl, rfl⟩ := trodVars_none hV
  obtain ⟨cs0, rfl, hs0, hc0⟩ := value_struct (ts := [4, 4, 22]) Try.underlying24 (by kernel_rfl) (hval 0 24 v0 rfl rfl)
  have hz0 : Try.prog.cellsOf 24 = 3 := by kernel_rfl
  rw [hz0] at hs0
  obtain ⟨c0_0, c0_1, c0_2, rfl⟩ := size_three hs0
  obtain ⟨u0_0, hu0_0, hk0_0⟩ := hc0 0 c0_0 rfl
  obtain rfl : 4 = u0_0 := Option.some.inj hu0_0
  obtain ⟨t0, rfl⟩ := cell_bool Try.underlying4 hk0_0
  obtain ⟨u0_1, hu0_1, hk0_1⟩ := hc0 1 c0_1 rfl
  obtain rfl : 4 = u0_1 := Option.some.inj hu0_1
  obtain ⟨t1, rfl⟩ := cell_bool Try.underlying4 hk0_1
  obtain ⟨u0_2, hu0_2, hk0_2⟩ := hc0 2 c0_2 rfl
  obtain rfl : 22 = u0_2 := Option.some.inj hu0_2
  obtain ⟨t2, rfl, h_t2⟩ := cell_int Try.underlying22 hk0_2
  obtain ⟨cc, rfl, h_cc⟩ := value_int Try.underlying3 (hval 1 3 v1 rfl rfl)
  clear hA0 hval0
  have hlt := hW'.lt
  simp only [List.append_nil] at hW' hlt
  refine (walk t0 t1 t2 cc h_t2 h_cc W).mono fun e W' ⟨he, hg⟩ => ?_
  subst he
  exact ⟨_, rfl, post_below (pv := []) hW' (fun _ _ _ => trodAll_cons_mk (shut_bool Try.underlying4 _) trodAll_mk0) (fun sp hsp => below_all laid hg (by kernel_rfl) hK (fun x hx => hlt x (by simpa using hx)) fun x hx => hsp x (by simpa using hx)) (fun _ _ => rfl) (by simp)
    hg (ok_one (by kernel_rfl) rfl (okWide_bool_mk Try.underlying4 _))⟩

theorem over : Rows.flagsTellRow.holds Try.pinned (OpenSpec.ofChange Rows.flagsTellSpec) :=
  OpenClaim.holds_of_wide 10 Try.f10 rfl rfl rfl rfl rfl rfl rfl ⟨rfl, rfl, rfl, rfl, rfl⟩ rfl rfl rfl rfl rfl (by kernel_rfl) Try.func10 (by kernel_rfl)
    (of_decide_eq_true (by kernel_rfl)) (by unfold Func.isWrapper; first | (rw [if_pos (by decide +kernel)]; kernel_rfl) | (rw [if_neg (by decide +kernel)]; exact ⟨rfl, rfl⟩))
    (fun os started H enc _ => lifted os started H enc)
end Go.Proofs.Ytmdcmjlhnbodmaa.flagsTell
namespace Go.Proofs.Ytmdcmjlhnbodmaa
theorem flagsTell_proved : Rows.FlagsTellSaid := flagsTell.over
end Go.Proofs.Ytmdcmjlhnbodmaa
