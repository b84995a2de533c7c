/- FlagsTurn: for every input the law returns true, and its arguments read as they did. -/
import Derived.Test.YtmdcmjlhnbodmaaRows
import Derived.Test.YtmdcmjlhnbodmaaAb21
import Derived.Test.YtmdcmjlhnbodmaaFlTurnL
namespace Go.Proofs.Ytmdcmjlhnbodmaa.flagsTurn
open Go Go.ChangeShapes Go.WideShapes Go.ChangeAt Go.RowKit Go.Proofs.Ytmdcmjlhnbodmaa.Ab
set_option linter.unusedVariables false
set_option maxRecDepth 100000

theorem own : ownKnob Try.prog.godebug = none := by kernel_rfl
theorem laid : laidOutB Try.prog = true := by kernel_rfl
theorem walk (op : Int) (a : Int) (n : Int) (t0 : Bool) (t1 : Bool) (t2 : Int) (w : Int) (h_op : (Lit.int .i64 op).wf = true) (h_a : (Lit.int .u64 a).wf = true) (h_n : (Lit.int .i64 n).wf = true) (h_t2 : (Lit.int .u64 t2).wf = true) (h_w : (Lit.int .i64 w).wf = true) (W : World) :
    Calls Try.prog 4 #[.int .i64 op, .int .u64 a, .int .i64 n, .agg #[.bool t0, .bool t1, .int .u64 t2], .int .i64 w] W fun e w' => e = .returned (.bool true) ∧ Below W.heap.size W w' := by
  refine law_ok (C := C4) (good17.env rfl) (good17.ctx rfl rfl rfl) (by kernel_rfl) Try.func4 (c := bodyOf Try.f4) (by kernel_rfl) (Nat.le_of_eq Try.ntmps4.symm) (args := [.c (Cell.int .i64 op), .c (Cell.int .u64 a), .c (Cell.int .i64 n), .agg [Cell.bool t0, Cell.bool t1, Cell.int .u64 t2], .c (Cell.int .i64 w)]) (H := []) ?_ (HR.empty W) ?_ own_empty
  · rw [fnA_eq, s4 (ha := (wf_u64 h_a).1)]; rfl
  · exact (.cons (.c (.int _ _)) (.cons (.c (.int _ _)) (.cons (.c (.int _ _)) (.cons (.agg (.cons (.bool _) (.cons (.bool _) (.cons (.int _ _) .nil)))) (.cons (.c (.int _ _)) .nil)))))
theorem lifted (os : Os) (started : os.Started) (H : Type) (enc : TypeId × Value → H) :
    ReturnsInHanded {} Try.checked os 4 .any (Rows.flagsTurnSpec.pre6 enc Try.prog Try.f4 Rows.flagsTurnRow.domain false) (Rows.flagsTurnSpec.post enc Try.prog Try.f4 false true false false) := by
  refine returnsInHanded_of_change (C := Try.checked) own started (by kernel_rfl) Try.func4
    (ChangeSpec.witness6 (enc := enc) (C := Try.checked) false ⟨#[], #[.int .i64 0, .int .u64 0, .int .i64 0, .agg #[.bool false, .bool false, .int .u64 0], .int .i64 0], []⟩ 8 (by kernel_rfl) (by kernel_rfl) (by kernel_rfl) (by kernel_rfl)) ?_
  intro W base args ds gs before hval0 hW hcnd _
  have hval : ∀ (j : Nat) t v, Try.f4.params[j]? = some t → args[j]? = some v → Value.okWide Try.prog W .any base t v := hval0
  have hW' := hW
  obtain ⟨p, q, hA0, hV, rfl, hfz, hnd⟩ := hW
  have hA : DataW.TrodAll enc Try.prog W 0 (fun _ => true) true Try.f4.params.toList args.toList ds p := hA0
  have hK := hA
  rw [Try.params4] at hA hval
  obtain ⟨v0, vs0, d0, ds0, p0, q0, hargs, rfl, rfl, h0, r0⟩ := trodAll_cons hA
  obtain ⟨v1, vs1, d1, ds1, p1, q1, rfl, rfl, rfl, h1, r1⟩ := trodAll_cons r0
  obtain ⟨v2, vs2, d2, ds2, p2, q2, rfl, rfl, rfl, h2, r2⟩ := trodAll_cons r1
  obtain ⟨v3, vs3, d3, ds3, p3, q3, rfl, rfl, rfl, h3, r3⟩ := trodAll_cons r2
  obtain ⟨v4, vs4, d4, ds4, p4, q4, rfl, rfl, rfl, h4, r4⟩ := trodAll_cons r3
  obtain ⟨rfl, rfl, rfl⟩ := trodAll_nil r4
  obtain rfl : args = #[v0, v1, v2, v3, v4] := by cases args; simp_all
  obtain ⟨rfl, rfl⟩ := trodVars_none hV
  obtain ⟨op, rfl, h_op⟩ := value_int Try.underlying3 (hval 0 3 v0 rfl rfl)
  obtain ⟨a, rfl, h_a⟩ := value_int Try.underlying22 (hval 1 22 v1 rfl rfl)
  obtain ⟨n, rfl, h_n⟩ := value_int Try.underlying2 (hval 2 2 v2 rfl rfl)
  obtain ⟨cs3, rfl, hs3, hc3⟩ := value_struct (ts := [4, 4, 22]) Try.underlying24 (by kernel_rfl) (hval 3 24 v3 rfl rfl)
  have hz3 : Try.prog.cellsOf 24 = 3 := by kernel_rfl
  rw [hz3] at hs3
  obtain ⟨c3_0, c3_1, c3_2, rfl⟩ := size_three hs3
  obtain ⟨u3_0, hu3_0, hk3_0⟩ := hc3 0 c3_0 rfl
  obtain rfl : 4 = u3_0 := Option.some.inj hu3_0
  obtain ⟨t0, rfl⟩ := cell_bool Try.underlying4 hk3_0
  obtain ⟨u3_1, hu3_1, hk3_1⟩ := hc3 1 c3_1 rfl
  obtain rfl : 4 = u3_1 := Option.some.inj hu3_1
  obtain ⟨t1, rfl⟩ := cell_bool Try.underlying4 hk3_1
  obtain ⟨u3_2, hu3_2, hk3_2⟩ := hc3 2 c3_2 rfl
  obtain rfl : 22 = u3_2 := Option.some.inj hu3_2
  obtain ⟨t2, rfl, h_t2⟩ := cell_int Try.underlying22 hk3_2
  obtain ⟨w, rfl, h_w⟩ := value_int Try.underlying3 (hval 4 3 v4 rfl rfl)
  clear hA0 hval0
  have hlt := hW'.lt
  simp only [List.append_nil] at hW' hlt
  refine (walk op a n t0 t1 t2 w h_op h_a h_n h_t2 h_w W).mono fun e W' ⟨he, hg⟩ => ?_
  subst he
  exact ⟨_, rfl, post_below (pv := []) hW' (fun _ _ _ => trodAll_cons_mk (shut_bool Try.underlying4 _) trodAll_mk0) (fun sp hsp => below_all laid hg (by kernel_rfl) hK (fun x hx => hlt x (by simpa using hx)) fun x hx => hsp x (by simpa using hx)) (fun _ _ => rfl) (by simp)
    hg (ok_one (by kernel_rfl) rfl (okWide_bool_mk Try.underlying4 _))⟩

theorem over : Rows.flagsTurnRow.holds Try.pinned (OpenSpec.ofChange Rows.flagsTurnSpec) :=
  OpenClaim.holds_of_wide 4 Try.f4 rfl rfl rfl rfl rfl rfl rfl ⟨rfl, rfl, rfl, rfl, rfl⟩ rfl rfl rfl rfl rfl (by kernel_rfl) Try.func4 (by kernel_rfl)
    (of_decide_eq_true (by kernel_rfl)) (by unfold Func.isWrapper; first | (rw [if_pos (by decide +kernel)]; kernel_rfl) | (rw [if_neg (by decide +kernel)]; exact ⟨rfl, rfl⟩))
    (fun os started H enc _ => lifted os started H enc)
end Go.Proofs.Ytmdcmjlhnbodmaa.flagsTurn
namespace Go.Proofs.Ytmdcmjlhnbodmaa
theorem flagsTurn_proved : Rows.FlagsTurnSaid := flagsTurn.over
end Go.Proofs.Ytmdcmjlhnbodmaa
