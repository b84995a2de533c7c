/- The abstract machine, 25: a law of plain data, whatever its arguments. -/
import Derived.Test.YtnipccoenalnkaaGreatAb24
namespace Go.Proofs.YtnipccoenalnkaaGreat.Ab
open Go Go.ChangeShapes Go.WideShapes Go.ChangeAt Go.RowKit
set_option linter.unusedVariables false
set_option linter.unusedSimpArgs false

/-- An argument of a type, as plain data. -/
def TSh (P : Program) (H : Heap) (n : Nat) (t : TypeId) (x : TV) : Prop :=
  match P.underlying t with
  | some (.struct _) => ∃ cs, x = .agg cs ∧ Sh P H n t cs
  | some (.array _ _) => ∃ cs, x = .agg cs ∧ Sh P H n t cs
  | _ => ∃ c, x = .c c ∧ Sh P H n t [c]
def TShAll (P : Program) (H : Heap) (n : Nat) : List TypeId → List TV → Prop
  | [], xs => xs = []
  | t :: ts, xs => ∃ x xr, xs = x :: xr ∧ TSh P H n t x ∧ TShAll P H n ts xr
theorem TSh.mono {P : Program} {H H2 : Heap} {n : Nat} {t : TypeId} {x : TV} (h : TSh P H n t x) : TSh P (H ++ H2) n t x := by
  unfold TSh at h ⊢
  split at h
  · obtain ⟨cs, h1, h2⟩ := h; exact ⟨cs, h1, h2.mono⟩
  · obtain ⟨cs, h1, h2⟩ := h; exact ⟨cs, h1, h2.mono⟩
  · obtain ⟨cs, h1, h2⟩ := h; exact ⟨cs, h1, h2.mono⟩
theorem TShAll.mono {P : Program} {H H2 : Heap} {n : Nat} : ∀ {ts : List TypeId} {xs : List TV}, TShAll P H n ts xs → TShAll P (H ++ H2) n ts xs
  | [], xs, h => h
  | t :: ts, xs, ⟨x, xr, h1, h2, h3⟩ => ⟨x, xr, h1, h2.mono, h3.mono⟩
theorem sh_one {P : Program} {H : Heap} {n : Nat} {t : TypeId} {cs : List Cell} (h : Sh P H n t cs) (h1 : ∀ fs, P.underlying t ≠ some (.struct fs)) (h2 : ∀ m e, P.underlying t ≠ some (.array m e)) : ∃ c, cs = [c] := by
  cases n with
  | zero => exact h.elim
  | succ n =>
    unfold Sh at h
    split at h
    · obtain ⟨b, rfl⟩ := h; exact ⟨_, rfl⟩
    · obtain ⟨b, rfl, _⟩ := h; exact ⟨_, rfl⟩
    · obtain ⟨b, rfl, _⟩ := h; exact ⟨_, rfl⟩
    · rcases h with rfl | ⟨s, row, rfl, _⟩ <;> exact ⟨_, rfl⟩
    · rename_i fs hu; exact absurd hu (h1 fs)
    · rename_i m e hu; exact absurd hu (h2 m e)
    · exact h.elim
theorem args_laid {H : Type} {enc : TypeId × Value → H} {P : Program} {W : World} {base n : Nat} : ∀ (ts : List TypeId) (vs : List Value) (ds : List (DataW H)) (ps : List MemPlace),
    (∀ (j : Nat) t v, ts[j]? = some t → vs[j]? = some v → Value.okWide P W .any base t v) → (ts.all (plainT P n)) = true → DataW.TrodAll enc P W 0 (fun _ => true) true ts vs ds ps →
    ∀ (ρ : Rho) (Hp : Heap), HR ρ Hp W → NoOwn Hp → ∃ ρ' H2 xs, HR ρ' (Hp ++ H2) W ∧ ρ.le ρ' ∧ NoOwn (Hp ++ H2) ∧ TLR ρ' xs vs ∧ TShAll P (Hp ++ H2) n ts xs
  | [], vs, ds, ps, hv, hp, h, ρ, Hp, g1, g2 => by
    obtain ⟨rfl, rfl, rfl⟩ := trodAll_nil h
    exact ⟨ρ, [], [], by simpa using g1, Rho.le_refl ρ, by simpa using g2, .nil, rfl⟩
  | t :: ts, vs, ds, ps, hv, hp, h, ρ, Hp, g1, g2 => by
    obtain ⟨v, vs1, d, ds1, p, q, rfl, rfl, rfl, ⟨F, hF⟩, h2⟩ := trodAll_cons h
    simp only [List.all_cons, Bool.and_eq_true] at hp
    obtain ⟨ρ1, H1, cs, k1, k2, k3, k4, k5⟩ := trod_laid (fun _ => rfl) n F t _ _ hp.1 hF ρ Hp g1 g2
    obtain ⟨ρ2, H2, xs, m1, m2, m3, m4, m5⟩ := args_laid ts vs1 ds1 q (fun j u w hj hw => hv (j + 1) u w (by simpa using hj) (by simpa using hw)) hp.2 h2 ρ1 (Hp ++ H1) k1 k3
    have hval := hv 0 t v rfl rfl
    have hx : ∃ x, TR ρ1 x v ∧ TSh P (Hp ++ H1) n t x := by
      unfold Value.okWide at hval
      unfold TSh
      cases hu : P.underlying t with
      | none =>
        rw [hu] at hval
        simp only at hval ⊢
        exfalso
        cases n with
        | zero => exact k5.elim
        | succ n => unfold Sh at k5; rw [hu] at k5; exact k5.elim
      | some u =>
        rw [hu] at hval
        cases u with
        | struct fs =>
          simp only at hval ⊢
          obtain ⟨cs', rfl, _⟩ := hval
          exact ⟨.agg cs, .agg (by simpa [Value.cells] using k4), cs, rfl, k5⟩
        | array m e =>
          simp only at hval ⊢
          obtain ⟨cs', rfl, _⟩ := hval
          exact ⟨.agg cs, .agg (by simpa [Value.cells] using k4), cs, rfl, k5⟩
        | _ =>
          simp only at hval ⊢
          obtain ⟨c, rfl⟩ := sh_one k5 (by simp [hu]) (by simp [hu])
          refine ⟨.c c, .c ?_, c, rfl, k5⟩
          have hvc : v.cells = #[v] := by
            unfold Cell.okWide Cell.ok at hval
            rw [hu] at hval
            cases v <;> simp_all [Value.cells]
          rw [hvc] at k4
          cases k4 with
          | cons h _ => exact h
    obtain ⟨x, hx1, hx2⟩ := hx
    refine ⟨ρ2, H1 ++ H2, x :: xs, by rw [← List.append_assoc]; exact m1, Rho.le_trans k2 m2, by rw [← List.append_assoc]; exact m3, .cons (hx1.mono m2) m4, x, xs, rfl, ?_, ?_⟩
    · rw [← List.append_assoc]; exact hx2.mono
    · rw [← List.append_assoc]; exact m5
/-- A law of plain data: its body comes to true, whatever the data. -/
theorem law_plain {C : Ctx} {H : Type} {enc : TypeId × Value → H} {g : Nat} {fn : Func} {c : Code} {n base : Nat} (hE : EnvOk C) (hN : CtxNat C) (hm : C.P.follows .mixedOrders = true) (hf : C.P.funcs[g]? = some fn) (hb : fn.body = some c) (hnt : C.nt ≤ fn.ntmps)
    (hp : fn.params.toList.all (plainT C.P n) = true)
    (hlaw : ∀ (Hp : Heap) (xs : List TV), NoOwn Hp → TShAll C.P Hp n fn.params.toList xs → fnA C fn.results.toList c Bool xs Hp (fun x _ => x.cell.bind Cell.toBool) = some true)
    {W : World} {args : Array Value} {ds : List (DataW H)} {ps : List MemPlace} (hval : ∀ (j : Nat) t v, fn.params[j]? = some t → args[j]? = some v → Value.okWide C.P W .any base t v)
    (hA : DataW.TrodAll enc C.P W 0 (fun _ => true) true fn.params.toList args.toList ds ps) : Calls C.P g args W fun e w' => e = .returned (.bool true) ∧ Go.RowKit.Below W.heap.size W w' := by
  obtain ⟨ρ, H2, xs, k1, _, k3, k4, k5⟩ := args_laid fn.params.toList args.toList ds ps (fun j t v hj hv => hval j t v (by simpa using hj) (by simpa using hv)) hp hA (fun _ => none) [] (HR.empty W) (fun i hi => by
    rcases hi with ⟨cs, hi⟩ | ⟨es, c, hi⟩ <;> simp at hi)
  refine law_ok hE hN hm hf hb hnt (hlaw _ xs k3 k5) k1 k4 fun b hb => ?_
  obtain ⟨i, o, m, hi, _⟩ := hb
  exact k3 i hi
end Go.Proofs.YtnipccoenalnkaaGreat.Ab
