/- ImageOrder: for every input the law returns true, and its arguments read as they did. -/
import Derived.Test.YtnjdajcgcnjamaaRows
import Derived.Test.YtnjdajcgcnjamaaAb30
import Derived.Test.YtnjdajcgcnjamaaImO
namespace Go.Proofs.Ytnjdajcgcnjamaa.imageOrder
open Go Go.ChangeShapes Go.WideShapes Go.ChangeAt Go.RowKit Go.Proofs.Ytnjdajcgcnjamaa.Ab
set_option linter.unusedVariables false
set_option maxRecDepth 100000

noncomputable def zeroV (t : TypeId) : Value := ((Try.prog.info? t).bind (·.zero)).getD undef
theorem own : ownKnob Try.prog.godebug = none := by kernel_rfl
theorem laid : laidOutB Try.prog = true := by kernel_rfl
theorem lifted (os : Os) (started : os.Started) (H : Type) (enc : TypeId × Value → H) :
    ReturnsInHanded {} Try.checked os 4 .any (Rows.imageOrderSpec.pre6 enc Try.prog Try.f4 Rows.imageOrderRow.domain false) (Rows.imageOrderSpec.post enc Try.prog Try.f4 false true false false) := by
  refine returnsInHanded_of_change (C := Try.checked) own started (by kernel_rfl) Try.func4
    (ChangeSpec.witness6 (enc := enc) (C := Try.checked) false ⟨#[], #[zeroV 27], []⟩ 8 (by kernel_rfl) (by kernel_rfl) (by kernel_rfl) (by kernel_rfl)) ?_
  intro W base args ds gs before hval hW hcnd _
  have hW' := hW
  obtain ⟨p, q, hA0, hV, rfl, hfz, hnd⟩ := hW
  have hA2 : DataW.TrodAll enc Try.prog W 0 (fun _ => true) true Try.f4.params.toList args.toList ds p := hA0
  have hA := hA2
  rw [Try.params4] at hA2
  obtain ⟨v0, vs0, d0, ds0, p0, q0, hv0, rfl, hp0, h0, r0⟩ := trodAll_cons hA2
  obtain ⟨-, rfl, -⟩ := trodAll_nil r0
  obtain ⟨rfl, rfl⟩ := trodVars_none hV
  have hlt := hW'.lt
  simp only [List.append_nil] at hW' hlt
  refine (law_plain (C := CC4) (good4.env rfl) (good4.ctx rfl rfl rfl) (by kernel_rfl) Try.func4 (c := bodyOf Try.f4) (by kernel_rfl) (Nat.le_of_eq Try.ntmps4.symm) (n := 12) (by kernel_rfl) holds4 hval hA).mono fun e W' ⟨he, hg⟩ => ?_
  subst he
  exact ⟨_, rfl, post_below (pv := []) hW' (fun _ _ _ => trodAll_cons_mk (shut_bool Try.underlying4 _) trodAll_mk0) (fun sp hsp => below_all laid hg (by kernel_rfl) hA (fun x hx => hlt x (by simpa using hx)) fun x hx => hsp x (by simpa using hx)) (fun _ _ => rfl) (by simp)
    hg (ok_one (by kernel_rfl) rfl (okWide_bool_mk Try.underlying4 _))⟩

theorem over : Rows.imageOrderRow.holds Try.pinned (OpenSpec.ofChange Rows.imageOrderSpec) :=
  OpenClaim.holds_of_wide 4 Try.f4 rfl rfl rfl rfl rfl rfl rfl ⟨rfl, rfl, rfl, rfl, rfl⟩ rfl rfl rfl rfl rfl (by kernel_rfl) Try.func4 (by kernel_rfl)
    (of_decide_eq_true (by kernel_rfl)) (by unfold Func.isWrapper; first | (rw [if_pos (by decide +kernel)]; kernel_rfl) | (rw [if_neg (by decide +kernel)]; exact ⟨rfl, rfl⟩))
    (fun os started H enc _ => lifted os started H enc)
end Go.Proofs.Ytnjdajcgcnjamaa.imageOrder
namespace Go.Proofs.Ytnjdajcgcnjamaa
theorem imageOrder_proved : Rows.ImageOrderSaid := imageOrder.over
end Go.Proofs.Ytnjdajcgcnjamaa
