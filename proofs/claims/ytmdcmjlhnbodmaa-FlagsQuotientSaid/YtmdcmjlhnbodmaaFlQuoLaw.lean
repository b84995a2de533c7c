/- FlagsQuotient: for every input the law returns true, and its arguments read as they did. -/
import Derived.Test.YtmdcmjlhnbodmaaRows
import Derived.Test.YtmdcmjlhnbodmaaAb21
import Derived.Test.YtmdcmjlhnbodmaaFlQuo
namespace Go.Proofs.Ytmdcmjlhnbodmaa.flagsQuotient
open Go Go.ChangeShapes Go.WideShapes Go.ChangeAt Go.RowKit Go.Proofs.Ytmdcmjlhnbodmaa.Ab
set_option linter.unusedVariables false
set_option maxRecDepth 100000

theorem own : ownKnob Try.prog.godebug = none := by kernel_rfl
theorem laid : laidOutB Try.prog = true := by kernel_rfl
theorem walk (hi : Int) (lo : Int) (d : Int) (signed : Bool) (w : Int) (h_hi : (Lit.int .u64 hi).wf = true) (h_lo : (Lit.int .u64 lo).wf = true) (h_d : (Lit.int .u64 d).wf = true) (h_w : (Lit.int .i64 w).wf = true) (W : World) :
    Calls Try.prog 6 #[.int .u64 hi, .int .u64 lo, .int .u64 d, .bool signed, .int .i64 w] W fun e w' => e = .returned (.bool true) ∧ Below W.heap.size W w' := by
  refine law_ok (C := C6) (good21.env rfl) (good21.ctx rfl rfl rfl) (by kernel_rfl) Try.func6 (c := bodyOf Try.f6) (by kernel_rfl) (Nat.le_of_eq Try.ntmps6.symm) (args := [.c (Cell.int .u64 hi), .c (Cell.int .u64 lo), .c (Cell.int .u64 d), .c (Cell.bool signed), .c (Cell.int .i64 w)]) (H := []) ?_ (HR.empty W) ?_ own_empty
  · rw [fnA_eq, s6 (hh := wf_u64 h_hi) (hl := wf_u64 h_lo) (hd := wf_u64 h_d)]; rfl
  · exact (.cons (.c (.int _ _)) (.cons (.c (.int _ _)) (.cons (.c (.int _ _)) (.cons (.c (.bool _)) (.cons (.c (.int _ _)) .nil)))))
theorem lifted (os : Os) (started : os.Started) (H : Type) (enc : TypeId × Value → H) :
    ReturnsInHanded {} Try.checked os 6 .any (Rows.flagsQuotientSpec.pre6 enc Try.prog Try.f6 Rows.flagsQuotientRow.domain false) (Rows.flagsQuotientSpec.post enc Try.prog Try.f6 false true false false) := by
  refine returnsInHanded_of_change (C := Try.checked) own started (by kernel_rfl) Try.func6
    (ChangeSpec.witness6 (enc := enc) (C := Try.checked) false ⟨#[], #[.int .u64 0, .int .u64 0, .int .u64 0, .bool false, .int .i64 0], []⟩ 8 (by kernel_rfl) (by kernel_rfl) (by kernel_rfl) (by kernel_rfl)) ?_
  intro W base args ds gs before hval0 hW hcnd _
  have hval : ∀ (j : Nat) t v, Try.f6.params[j]? = some t → args[j]? = some v → Value.okWide Try.prog W .any base t v := hval0
  have hW' := hW
  obtain ⟨p, q, hA0, hV, rfl, hfz, hnd⟩ := hW
  have hA : DataW.TrodAll enc Try.prog W 0 (fun _ => true) true Try.f6.params.toList args.toList ds p := hA0
  have hK := hA
  rw [Try.params6] at hA hval
  obtain ⟨v0, vs0, d0, ds0, p0, q0, hargs, rfl, rfl, h0, r0⟩ := trodAll_cons hA
  obtain ⟨v1, vs1, d1, ds1, p1, q1, rfl, rfl, rfl, h1, r1⟩ := trodAll_cons r0
  obtain ⟨v2, vs2, d2, ds2, p2, q2, rfl, rfl, rfl, h2, r2⟩ := trodAll_cons r1
  obtain ⟨v3, vs3, d3, ds3, p3, q3, rfl, rfl, rfl, h3, r3⟩ := trodAll_cons r2
  obtain ⟨v4, vs4, d4, ds4, p4, q4, rfl, rfl, rfl, h4, r4⟩ := trodAll_cons r3
  obtain ⟨rfl, rfl, rfl⟩ := trodAll_nil r4
  obtain rfl : args = #[v0, v1, v2, v3, v4] := by cases args; simp_all
  obtain ⟨rfl, rfl⟩ := trodVars_none hV
  obtain ⟨hi, rfl, h_hi⟩ := value_int Try.underlying22 (hval 0 22 v0 rfl rfl)
  obtain ⟨lo, rfl, h_lo⟩ := value_int Try.underlying22 (hval 1 22 v1 rfl rfl)
  obtain ⟨d, rfl, h_d⟩ := value_int Try.underlying22 (hval 2 22 v2 rfl rfl)
  obtain ⟨signed, rfl⟩ := value_bool Try.underlying4 (hval 3 4 v3 rfl rfl)
  obtain ⟨w, rfl, h_w⟩ := value_int Try.underlying3 (hval 4 3 v4 rfl rfl)
  clear hA0 hval0
  have hlt := hW'.lt
  simp only [List.append_nil] at hW' hlt
  refine (walk hi lo d signed w h_hi h_lo h_d h_w W).mono fun e W' ⟨he, hg⟩ => ?_
  subst he
  exact ⟨_, rfl, post_below (pv := []) hW' (fun _ _ _ => trodAll_cons_mk (shut_bool Try.underlying4 _) trodAll_mk0) (fun sp hsp => below_all laid hg (by kernel_rfl) hK (fun x hx => hlt x (by simpa using hx)) fun x hx => hsp x (by simpa using hx)) (fun _ _ => rfl) (by simp)
    hg (ok_one (by kernel_rfl) rfl (okWide_bool_mk Try.underlying4 _))⟩

theorem over : Rows.flagsQuotientRow.holds Try.pinned (OpenSpec.ofChange Rows.flagsQuotientSpec) :=
  OpenClaim.holds_of_wide 6 Try.f6 rfl rfl rfl rfl rfl rfl rfl ⟨rfl, rfl, rfl, rfl, rfl⟩ rfl rfl rfl rfl rfl (by kernel_rfl) Try.func6 (by kernel_rfl)
    (of_decide_eq_true (by kernel_rfl)) (by unfold Func.isWrapper; first | (rw [if_pos (by decide +kernel)]; kernel_rfl) | (rw [if_neg (by decide +kernel)]; exact ⟨rfl, rfl⟩))
    (fun os started H enc _ => lifted os started H enc)
end Go.Proofs.Ytmdcmjlhnbodmaa.flagsQuotient
namespace Go.Proofs.Ytmdcmjlhnbodmaa
theorem flagsQuotient_proved : Rows.FlagsQuotientSaid := flagsQuotient.over
end Go.Proofs.Ytmdcmjlhnbodmaa
