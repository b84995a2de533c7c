/- The abstract machine, 32: a function whose new blocks nobody sees any more is one without a heap. -/
import Derived.Test.YtnipccoenalnkaaGreatAb31
namespace Go.Proofs.YtnipccoenalnkaaGreat.Ab
open Go

def plainC : Cell → Bool
  | .bool _ => true
  | .int _ _ => true
  | .str _ => true
  | _ => false
def plainTV : TV → Bool
  | .c x => plainC x
  | .agg l => l.all plainC
theorem CR.plain {ρ ρ' : Rho} {x : Cell} {v : Value} (h : CR ρ x v) (hp : plainC x = true) : CR ρ' x v := by
  cases h <;> simp [plainC] at hp <;> constructor
theorem LR.plain {ρ ρ' : Rho} : ∀ {xs : List Cell} {vs : List Value}, LR ρ xs vs → xs.all plainC = true → LR ρ' xs vs
  | _, _, .nil, _ => .nil
  | _, _, .cons a t, h => by
    simp only [List.all_cons, Bool.and_eq_true] at h
    exact .cons (CR.plain a h.1) (LR.plain t h.2)
theorem TR.plain {ρ ρ' : Rho} {x : TV} {v : Value} (h : TR ρ x v) (hp : plainTV x = true) : TR ρ' x v := by
  cases h with
  | c h => exact .c (h.plain hp)
  | agg h => exact .agg (h.plain hp)
theorem TLR.plain {ρ ρ' : Rho} : ∀ {xs : List TV} {vs : List Value}, TLR ρ xs vs → xs.all plainTV = true → TLR ρ' xs vs
  | _, _, .nil, _ => .nil
  | _, _, .cons a t, h => by
    simp only [List.all_cons, Bool.and_eq_true] at h
    exact .cons (TR.plain a h.1) (TLR.plain t h.2)
theorem AR.plain {ρ ρ' : Rho} {L : Nat → Option Nat} {vs : List TV} {v : Value} (h : AR ρ L (oneOf vs) v) (hp : vs.all plainTV = true) : AR ρ' L (oneOf vs) v := by
  cases vs with
  | nil => cases h with | tup h => exact .tup (TLR.plain h hp)
  | cons x t =>
    cases t with
    | nil =>
      cases x with
      | c x => cases h with | c h => exact .c (CR.plain h (by simpa [plainTV] using hp))
      | agg l => cases h with | agg h => exact .agg (LR.plain h (by simpa [plainTV] using hp))
    | cons y t => cases h with | tup h => exact .tup (TLR.plain h hp)
theorem drop_ok {P : Program} {g : Nat} {F : FnSem} {p : List TV → Option (List TV)} (h : FnOk P g F)
    (hp : ∀ args vs, p args = some vs → args.all plainTV = true ∧ vs.all plainTV = true ∧ ∃ H', ∀ (R : Type) (K : AV → Heap → Option R), F R args [] K = K (oneOf vs) H') : FnOk P g (numF p) := by
  intro R args H K r hr ρ w args' hH hA rd o a next Q hn
  simp only [numF, Option.bind_eq_some_iff] at hr
  obtain ⟨vs, h1, h2⟩ := hr
  obtain ⟨hpl, hvl, H', hF⟩ := hp args vs h1
  refine h (R × AV) args [] (fun x _ => (K x H).map fun r => (r, x)) (r, oneOf vs) (by rw [hF, h2]; rfl) (fun _ => none) w args' (HR.empty w) (hA.plain hpl) rd o a next Q ?_
  intro x H2 ρ' v w' hx _ hv hfr
  simp only [Option.map_eq_some_iff, Prod.mk.injEq] at hx
  obtain ⟨r', hr', rfl, rfl⟩ := hx
  have same : ∀ b, b < w.heap.size → w'.heap[b]? = w.heap[b]? := fun b hb => hfr.same b hb (own_empty b)
  exact hn _ H ρ v w' hr' (HR.congr hH hfr.size fun id b o m hi _ => same b (hH.inw id b o m hi)) (hv.plain hvl)
    ⟨Rho.le_refl ρ, hfr.size, fun b hb _ => same b hb, fun _ hb => .inl hb, fun _ _ _ _ hi => .inl hi, hfr.os, hfr.tape, hfr.output⟩
theorem readF_sl {α : Type} {enc : α → List TV} {S : List TV → Heap → Option α} (h : ∀ args H H', (∀ sl : Sl, firstSl args = some sl → H'[sl.id]? = H[sl.id]?) → S args H' = S args H) : FnSl (readF enc S) := by
  intro args
  refine ⟨fun H => (S args H).map fun r => oneOf (enc r), ?_, ?_, ?_⟩
  · intro H v hv
    simp only [Option.map_eq_some_iff] at hv
    obtain ⟨r, _, rfl⟩ := hv
    exact nolp_one _
  · intro H R K
    unfold readF
    show (S args H).bind _ = ((S args H).map _).bind _
    cases S args H <;> rfl
  · intro H H' e
    simp only [h args H H' e]
end Go.Proofs.YtnipccoenalnkaaGreat.Ab
