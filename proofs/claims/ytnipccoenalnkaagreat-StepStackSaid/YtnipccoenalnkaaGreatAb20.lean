/- The abstract machine, 20: callees without a body. -/
import Derived.Test.YtnipccoenalnkaaGreatAb19
import Derived.Laws.Externs
import Derived.Shelf.Spec.BitsCarry
namespace Go.Proofs.YtnipccoenalnkaaGreat.Ab
open Go
set_option linter.unusedVariables false
set_option linter.unusedSimpArgs false

theorem numG_ok {P : Program} {g : Nat} {c : List TV → Bool} {f : List TV → Option (List TV)}
    (h : ∀ args vs, c args = true → f args = some vs → ∀ (ρ : Rho) (args' : Array Value), TLR ρ args args'.toList → ∃ v, (∀ w, (callFunc g args').run P w = .ok (.value v) w) ∧ AR ρ (fun _ => none) (oneOf vs) v) : FnOk P g (numG c f) := by
  intro R args H K r hF ρ w args' hH ha rd o a next Q hn
  simp only [numG] at hF
  cases hc : c args with
  | false => rw [hc] at hF; cases hF
  | true =>
    rw [hc] at hF
    simp only [cond_true, Option.bind_eq_some_iff] at hF
    obtain ⟨vs, hvs, hK⟩ := hF
    obtain ⟨v, h1, h2⟩ := h args vs hc hvs ρ args' ha
    rw [h1 w, Oper.uponIn_value]
    exact hn _ _ ρ v w hK hH h2 (Fr.refl _ _ _)
theorem TLR.three {ρ : Rho} {x y z : TV} {args' : Array Value} (h : TLR ρ [x, y, z] args'.toList) : ∃ a b c, args' = #[a, b, c] ∧ TR ρ x a ∧ TR ρ y b ∧ TR ρ z c := by
  obtain ⟨l⟩ := args'
  cases h with
  | cons h1 h => cases h with
    | cons h2 h => cases h with
      | cons h3 h => cases h; exact ⟨_, _, _, rfl, h1, h2, h3⟩
theorem TR.int {ρ : Rho} {k : IntKind} {n : Int} {v : Value} (h : TR ρ (.c (.int k n)) v) : v = .int k n := by
  cases h with
  | c h => cases h; rfl

def m64 : Int := 18446744073709551616
def addF : List TV → Option (List TV)
  | [.c (.int .u64 x), .c (.int .u64 y), .c (.int .u64 c)] => some [.c (.int .u64 ((x + y + c) % m64)), .c (.int .u64 ((x + y + c) / m64))]
  | _ => none
def addG : List TV → Bool
  | [.c (.int .u64 x), .c (.int .u64 y), .c (.int .u64 c)] => decide (0 ≤ x ∧ 0 ≤ y ∧ 0 ≤ c ∧ c ≤ 1)
  | _ => false
def borrow (x y b : Int) : Int := bif decide (x < y + b) then 1 else 0
def subF : List TV → Option (List TV)
  | [.c (.int .u64 x), .c (.int .u64 y), .c (.int .u64 b)] => some [.c (.int .u64 ((x + m64 - y - b) % m64)), .c (.int .u64 (borrow x y b))]
  | _ => none
def subG : List TV → Bool
  | [.c (.int .u64 x), .c (.int .u64 y), .c (.int .u64 b)] => decide (0 ≤ x ∧ x < m64 ∧ 0 ≤ y ∧ y < m64 ∧ 0 ≤ b ∧ b ≤ 1)
  | _ => false
theorem addF_ok {P : Program} {g : Nat} {fn : Func} (hf : P.funcs[g]? = some fn) (h1 : (fn.name == "runtime.NumGoroutine") = false) (h2 : fn.body.isNone = true) (h3 : Extern.findNext fn = none)
    (h4 : Extern.find fn = some add64Entry) : FnOk P g (numG addG addF) := by
  refine numG_ok fun args vs hc h ρ args' ha => ?_
  unfold addF at h
  split at h
  · rename_i x y c
    · replace hc := of_decide_eq_true hc
      simp only [Option.some.injEq] at h
      subst h
      obtain ⟨a, b, d, rfl, ha, hb, hd⟩ := ha.three
      rw [ha.int, hb.int, hd.int]
      refine ⟨.tuple #[.int .u64 ((x + y + c) % 18446744073709551616), .int .u64 ((x + y + c) / 18446744073709551616)], fun w => ?_, .tup (.cons (.c (.int _ _)) (.cons (.c (.int _ _)) .nil))⟩
      rw [run_callFunc_extern hf h1 h2 h3 h4, run_add64 x y c hc.1 hc.2.1 hc.2.2.1 hc.2.2.2]
      rfl
  · cases h
theorem subF_ok {P : Program} {g : Nat} {fn : Func} (hf : P.funcs[g]? = some fn) (h1 : (fn.name == "runtime.NumGoroutine") = false) (h2 : fn.body.isNone = true) (h3 : Extern.findNext fn = none)
    (h4 : Extern.find fn = some sub64Entry) : FnOk P g (numG subG subF) := by
  refine numG_ok fun args vs hc h ρ args' ha => ?_
  unfold subF at h
  split at h
  · rename_i x y c
    · replace hc := of_decide_eq_true hc
      unfold m64 at hc
      simp only [Option.some.injEq] at h
      subst h
      obtain ⟨a, b, d, rfl, ha, hb, hd⟩ := ha.three
      rw [ha.int, hb.int, hd.int]
      obtain ⟨X, rfl⟩ := Int.eq_ofNat_of_zero_le hc.1
      obtain ⟨Y, rfl⟩ := Int.eq_ofNat_of_zero_le hc.2.2.1
      obtain ⟨B, rfl⟩ := Int.eq_ofNat_of_zero_le hc.2.2.2.2.1
      refine ⟨.tuple #[.int .u64 (((X + 18446744073709551616 - Y - B) % 18446744073709551616 : Nat) : Int), .int .u64 ((if X < Y + B then 1 else 0 : Nat) : Int)], fun w => ?_, ?_⟩
      · rw [run_callFunc_extern hf h1 h2 h3 h4, run_sub64 X Y B (by omega)]
        rfl
      · have e1 : (((X + 18446744073709551616 - Y - B) % 18446744073709551616 : Nat) : Int) = ((X : Int) + m64 - Y - B) % m64 := by unfold m64; omega
        have e2 : ((if X < Y + B then 1 else 0 : Nat) : Int) = borrow X Y B := by
          unfold borrow
          rw [cond_eq_ite]
          by_cases hlt : X < Y + B
          · have : (X : Int) < Y + B := by omega
            simp [hlt, this]
          · have : ¬ (X : Int) < Y + B := by omega
            simp [hlt, this]
        rw [e1, e2]
        exact .tup (.cons (.c (.int _ _)) (.cons (.c (.int _ _)) .nil))
  · cases h
end Go.Proofs.YtnipccoenalnkaaGreat.Ab
