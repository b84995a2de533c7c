/- FlagsProduct: for every input the law returns true, and its arguments read as they did. -/
import Derived.Test.YtmdcmjlhnbodmaaRows
import Derived.Test.YtmdcmjlhnbodmaaAb21
import Derived.Test.YtmdcmjlhnbodmaaFlProd
namespace Go.Proofs.Ytmdcmjlhnbodmaa.flagsProduct
open Go Go.ChangeShapes Go.WideShapes Go.ChangeAt Go.RowKit Go.Proofs.Ytmdcmjlhnbodmaa.Ab
set_option linter.unusedVariables false
set_option maxRecDepth 100000

theorem own : ownKnob Try.prog.godebug = none := by kernel_rfl
theorem laid : laidOutB Try.prog = true := by kernel_rfl
theorem walk (a : Int) (b : Int) (signed : Bool) (w : Int) (h_a : (Lit.int .u64 a).wf = true) (h_b : (Lit.int .u64 b).wf = true) (h_w : (Lit.int .i64 w).wf = true) (W : World) :
    Calls Try.prog 5 #[.int .u64 a, .int .u64 b, .bool signed, .int .i64 w] W fun e w' => e = .returned (.bool true) ∧ Below W.heap.size W w' := by
  refine law_ok (C := C5) (good19.env rfl) (good19.ctx rfl rfl rfl) (by kernel_rfl) Try.func5 (c := bodyOf Try.f5) (by kernel_rfl) (Nat.le_of_eq Try.ntmps5.symm) (args := [.c (Cell.int .u64 a), .c (Cell.int .u64 b), .c (Cell.bool signed), .c (Cell.int .i64 w)]) (H := []) ?_ (HR.empty W) ?_ own_empty
  · rw [fnA_eq, s5 (ha := wf_u64 h_a) (hb := wf_u64 h_b)]; rfl
  · exact (.cons (.c (.int _ _)) (.cons (.c (.int _ _)) (.cons (.c (.bool _)) (.cons (.c (.int _ _)) .nil))))
theorem lifted (os : Os) (started : os.Started) (H : Type) (enc : TypeId × Value → H) :
    ReturnsInHanded {} Try.checked os 5 .any (Rows.flagsProductSpec.pre6 enc Try.prog Try.f5 Rows.flagsProductRow.domain false) (Rows.flagsProductSpec.post enc Try.prog Try.f5 false true false false) := by
  refine returnsInHanded_of_change (C := Try.checked) own started (by kernel_rfl) Try.func5
    (ChangeSpec.witness6 (enc := enc) (C := Try.checked) false ⟨#[], #[.int .u64 0, .int .u64 0, .bool false, .int .i64 0], []⟩ 8 (by kernel_rfl) (by kernel_rfl) (by kernel_rfl) (by kernel_rfl)) ?_
  intro W base args ds gs before hval0 hW hcnd _
  have hval : ∀ (j : Nat) t v, Try.f5.params[j]? = some t → args[j]? = some v → Value.okWide Try.prog W .any base t v := hval0
  have hW' := hW
  obtain ⟨p, q, hA0, hV, rfl, hfz, hnd⟩ := hW
  have hA : DataW.TrodAll enc Try.prog W 0 (fun _ => true) true Try.f5.params.toList args.toList ds p := hA0
  have hK := hA
  rw [Try.params5] at hA hval
  obtain ⟨v0, vs0, d0, ds0, p0, q0, hargs, rfl, rfl, h0, r0⟩ := trodAll_cons hA
  obtain ⟨v1, vs1, d1, ds1, p1, q1, rfl, rfl, rfl, h1, r1⟩ := trodAll_cons r0
  obtain ⟨v2, vs2, d2, ds2, p2, q2, rfl, rfl, rfl, h2, r2⟩ := trodAll_cons r1
  obtain ⟨v3, vs3, d3, ds3, p3, q3, rfl, rfl, rfl, h3, r3⟩ := trodAll_cons r2
  obtain ⟨rfl, rfl, rfl⟩ := trodAll_nil r3
  obtain rfl : args = #[v0, v1, v2, v3] := by cases args; simp_all
  obtain ⟨rfl, rfl⟩ := trodVars_none hV
  obtain ⟨a, rfl, h_a⟩ := value_int Try.underlying22 (hval 0 22 v0 rfl rfl)
  obtain ⟨b, rfl, h_b⟩ := value_int Try.underlying22 (hval 1 22 v1 rfl rfl)
  obtain ⟨signed, rfl⟩ := value_bool Try.underlying4 (hval 2 4 v2 rfl rfl)
  obtain ⟨w, rfl, h_w⟩ := value_int Try.underlying3 (hval 3 3 v3 rfl rfl)
  clear hA0 hval0
  have hlt := hW'.lt
  simp only [List.append_nil] at hW' hlt
  refine (walk a b signed w h_a h_b h_w W).mono fun e W' ⟨he, hg⟩ => ?_
  subst he
  exact ⟨_, rfl, post_below (pv := []) hW' (fun _ _ _ => trodAll_cons_mk (shut_bool Try.underlying4 _) trodAll_mk0) (fun sp hsp => below_all laid hg (by kernel_rfl) hK (fun x hx => hlt x (by simpa using hx)) fun x hx => hsp x (by simpa using hx)) (fun _ _ => rfl) (by simp)
    hg (ok_one (by kernel_rfl) rfl (okWide_bool_mk Try.underlying4 _))⟩

theorem over : Rows.flagsProductRow.holds Try.pinned (OpenSpec.ofChange Rows.flagsProductSpec) :=
  OpenClaim.holds_of_wide 5 Try.f5 rfl rfl rfl rfl rfl rfl rfl ⟨rfl, rfl, rfl, rfl, rfl⟩ rfl rfl rfl rfl rfl (by kernel_rfl) Try.func5 (by kernel_rfl)
    (of_decide_eq_true (by kernel_rfl)) (by unfold Func.isWrapper; first | (rw [if_pos (by decide +kernel)]; kernel_rfl) | (rw [if_neg (by decide +kernel)]; exact ⟨rfl, rfl⟩))
    (fun os started H enc _ => lifted os started H enc)
end Go.Proofs.Ytmdcmjlhnbodmaa.flagsProduct
namespace Go.Proofs.Ytmdcmjlhnbodmaa
theorem flagsProduct_proved : Rows.FlagsProductSaid := flagsProduct.over
end Go.Proofs.Ytmdcmjlhnbodmaa
