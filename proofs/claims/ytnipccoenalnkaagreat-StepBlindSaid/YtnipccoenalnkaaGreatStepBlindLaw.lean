/- StepBlind: for every input the law returns true, and its arguments read as they did. -/
import Derived.Test.YtnipccoenalnkaaGreatRows
import Derived.Test.YtnipccoenalnkaaGreatAb30
import Derived.Test.YtnipccoenalnkaaGreatSqL
namespace Go.Proofs.YtnipccoenalnkaaGreat.stepBlind
open Go Go.ChangeShapes Go.WideShapes Go.ChangeAt Go.RowKit Go.Proofs.YtnipccoenalnkaaGreat.Ab
set_option linter.unusedVariables false
set_option maxRecDepth 100000

noncomputable def zeroV (t : TypeId) : Value := ((Tryz.prog.info? t).bind (·.zero)).getD undef
theorem own : ownKnob Tryz.prog.godebug = none := by kernel_rfl
theorem laid : laidOutB Tryz.prog = true := by kernel_rfl
theorem lifted (os : Os) (started : os.Started) (H : Type) (enc : TypeId × Value → H) :
    ReturnsInHanded {} Tryz.checked os 6 .any (Rows.stepBlindSpec.pre6 enc Tryz.prog Tryz.f6 Rows.stepBlindRow.domain false) (Rows.stepBlindSpec.post enc Tryz.prog Tryz.f6 false true false false) := by
  refine returnsInHanded_of_change (C := Tryz.checked) own started (by kernel_rfl) Tryz.func6
    (ChangeSpec.witness6 (enc := enc) (C := Tryz.checked) false ⟨#[], #[zeroV 31, zeroV 56, zeroV 65], []⟩ 8 (by kernel_rfl) (by kernel_rfl) (by kernel_rfl) (by kernel_rfl)) ?_
  intro W base args ds gs before hval hW hcnd _
  have hW' := hW
  obtain ⟨p, q, hA0, hV, rfl, hfz, hnd⟩ := hW
  have hA2 : DataW.TrodAll enc Tryz.prog W 0 (fun _ => true) true Tryz.f6.params.toList args.toList ds p := hA0
  have hA := hA2
  rw [Tryz.params6] at hA2
  obtain ⟨v0, vs0, d0, ds0, p0, q0, hv0, rfl, hp0, h0, r0⟩ := trodAll_cons hA2
  obtain ⟨v1, vs1, d1, ds1, p1, q1, hv1, rfl, hp1, h1, r1⟩ := trodAll_cons r0
  obtain ⟨v2, vs2, d2, ds2, p2, q2, hv2, rfl, hp2, h2, r2⟩ := trodAll_cons r1
  obtain ⟨-, rfl, -⟩ := trodAll_nil r2
  obtain ⟨rfl, rfl⟩ := trodVars_none hV
  have hlt := hW'.lt
  simp only [List.append_nil] at hW' hlt
  refine (law_plain (C := CC6) ((mkC_callees _).env rfl) ((mkC_callees _).ctx rfl rfl rfl) (by kernel_rfl) Tryz.func6 (c := bodyOf Tryz.f6) (by kernel_rfl) (Nat.le_of_eq Tryz.ntmps6.symm) (n := 12) (by kernel_rfl) holds6 hval hA).mono fun e W' ⟨he, hg⟩ => ?_
  subst he
  exact ⟨_, rfl, post_below (pv := []) hW' (fun _ _ _ => trodAll_cons_mk (shut_bool Tryz.underlying4 _) trodAll_mk0) (fun sp hsp => below_all laid hg (by kernel_rfl) hA (fun x hx => hlt x (by simpa using hx)) fun x hx => hsp x (by simpa using hx)) (fun _ _ => rfl) (by simp)
    hg (ok_one (by kernel_rfl) rfl (okWide_bool_mk Tryz.underlying4 _))⟩

theorem over : Rows.stepBlindRow.holds Tryz.pinned (OpenSpec.ofChange Rows.stepBlindSpec) :=
  OpenClaim.holds_of_wide 6 Tryz.f6 rfl rfl rfl rfl rfl rfl rfl ⟨rfl, rfl, rfl, rfl, rfl⟩ rfl rfl rfl rfl rfl (by kernel_rfl) Tryz.func6 (by kernel_rfl)
    (of_decide_eq_true (by kernel_rfl)) (by unfold Func.isWrapper; first | (rw [if_pos (by decide +kernel)]; kernel_rfl) | (rw [if_neg (by decide +kernel)]; exact ⟨rfl, rfl⟩))
    (fun os started H enc _ => lifted os started H enc)
end Go.Proofs.YtnipccoenalnkaaGreat.stepBlind
namespace Go.Proofs.YtnipccoenalnkaaGreat
theorem stepBlind_proved : Rows.StepBlindSaid := stepBlind.over
end Go.Proofs.YtnipccoenalnkaaGreat
