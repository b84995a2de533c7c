/- RopeNil: for every input the law returns true, and its arguments read as they did. -/
import Derived.Test.YtebpmmffilakaaaRows
import Derived.Test.YtebpmmffilakaaaAb21
import Derived.Test.YtebpmmffilakaaaRoOwn
namespace Go.Proofs.Ytebpmmffilakaaa.ropeNil
open Go Go.ChangeShapes Go.WideShapes Go.ChangeAt Go.RowKit Go.Proofs.Ytebpmmffilakaaa.Ab
set_option linter.unusedVariables false
set_option maxRecDepth 100000

theorem own : ownKnob Try.prog.godebug = none := by kernel_rfl
theorem laid : laidOutB Try.prog = true := by kernel_rfl
theorem walk (x0 : Int) (n : Int) (h_x0 : (Lit.int .i64 x0).wf = true) (h_n : (Lit.int .i64 n).wf = true) (W : World) :
    Calls Try.prog 7 #[.int .i64 x0, .int .i64 n] W fun e w' => e = .returned (.bool true) ∧ Below W.heap.size W w' := by
  refine law_ok (C := C7) (good9.env rfl) (good9.ctx rfl rfl rfl) (by kernel_rfl) Try.func7 (c := bodyOf Try.f7) (by kernel_rfl) (Nat.le_of_eq Try.ntmps7.symm) (args := [.c (Cell.int .i64 x0), .c (Cell.int .i64 n)]) (H := []) ?_ (HR.empty W) ?_ own_empty
  · kernel_rfl
  · exact (.cons (.c (.int _ _)) (.cons (.c (.int _ _)) .nil))
theorem lifted (os : Os) (started : os.Started) (H : Type) (enc : TypeId × Value → H) :
    ReturnsInHanded {} Try.checked os 7 .any (Rows.ropeNilSpec.pre6 enc Try.prog Try.f7 Rows.ropeNilRow.domain false) (Rows.ropeNilSpec.post enc Try.prog Try.f7 false true false false) := by
  refine returnsInHanded_of_change (C := Try.checked) own started (by kernel_rfl) Try.func7
    (ChangeSpec.witness6 (enc := enc) (C := Try.checked) false ⟨#[], #[.int .i64 0, .int .i64 0], []⟩ 8 (by kernel_rfl) (by kernel_rfl) (by kernel_rfl) (by kernel_rfl)) ?_
  intro W base args ds gs before hval0 hW hcnd _
  have hval : ∀ (j : Nat) t v, Try.f7.params[j]? = some t → args[j]? = some v → Value.okWide Try.prog W .any base t v := hval0
  have hW' := hW
  obtain ⟨p, q, hA0, hV, rfl, hfz, hnd⟩ := hW
  have hA : DataW.TrodAll enc Try.prog W 0 (fun _ => true) true Try.f7.params.toList args.toList ds p := hA0
  have hK := hA
  rw [Try.params7] at hA hval
  obtain ⟨v0, vs0, d0, ds0, p0, q0, hargs, rfl, rfl, h0, r0⟩ := trodAll_cons hA
  obtain ⟨v1, vs1, d1, ds1, p1, q1, rfl, rfl, rfl, h1, r1⟩ := trodAll_cons r0
  obtain ⟨rfl, rfl, rfl⟩ := trodAll_nil r1
  obtain rfl : args = #[v0, v1] := by cases args; simp_all
  obtain ⟨rfl, rfl⟩ := trodVars_none hV
  obtain ⟨x0, rfl, h_x0⟩ := value_int Try.underlying3 (hval 0 3 v0 rfl rfl)
  obtain ⟨n, rfl, h_n⟩ := value_int Try.underlying3 (hval 1 3 v1 rfl rfl)
  clear hA0 hval0
  have hlt := hW'.lt
  simp only [List.append_nil] at hW' hlt
  refine (walk x0 n h_x0 h_n W).mono fun e W' ⟨he, hg⟩ => ?_
  subst he
  exact ⟨_, rfl, post_below (pv := []) hW' (fun _ _ _ => trodAll_cons_mk (shut_bool Try.underlying4 _) trodAll_mk0) (fun sp hsp => below_all laid hg (by kernel_rfl) hK (fun x hx => hlt x (by simpa using hx)) fun x hx => hsp x (by simpa using hx)) (fun _ _ => rfl) (by simp)
    hg (ok_one (by kernel_rfl) rfl (okWide_bool_mk Try.underlying4 _))⟩

theorem over : Rows.ropeNilRow.holds Try.pinned (OpenSpec.ofChange Rows.ropeNilSpec) :=
  OpenClaim.holds_of_wide 7 Try.f7 rfl rfl rfl rfl rfl rfl rfl ⟨rfl, rfl, rfl, rfl, rfl⟩ rfl rfl rfl rfl rfl (by kernel_rfl) Try.func7 (by kernel_rfl)
    (of_decide_eq_true (by kernel_rfl)) (by unfold Func.isWrapper; first | (rw [if_pos (by decide +kernel)]; kernel_rfl) | (rw [if_neg (by decide +kernel)]; exact ⟨rfl, rfl⟩))
    (fun os started H enc _ => lifted os started H enc)
end Go.Proofs.Ytebpmmffilakaaa.ropeNil
namespace Go.Proofs.Ytebpmmffilakaaa
theorem ropeNil_proved : Rows.RopeNilSaid := ropeNil.over
end Go.Proofs.Ytebpmmffilakaaa
