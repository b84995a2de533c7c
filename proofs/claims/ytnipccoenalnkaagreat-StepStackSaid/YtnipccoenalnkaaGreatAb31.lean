/- The abstract machine, 31: bytealg.IndexByte, of strings and of slices, as callees. -/
import Derived.Test.YtnipccoenalnkaaGreatAb30
import Derived.Lib.BytesEntry
namespace Go.Proofs.YtnipccoenalnkaaGreat.Ab
open Go
set_option linter.unusedVariables false

def idxS : List TV → Option (List TV)
  | [.c (.str s), .c (.int .u8 c)] => some [.c (.int .i64 (Lib.indexByte s.data.toList c.toNat.toUInt8))]
  | _ => none
def encI (n : Int) : List TV := [.c (.int .i64 n)]
def idxB : List TV → Heap → Option Int
  | [.c (.slice s), .c (.int .u8 c)], H => (H.str s).map fun b => Lib.indexByte b.data.toList c.toNat.toUInt8
  | _, _ => none
theorem TLR.pair {ρ : Rho} {x y : TV} {args' : Array Value} (h : TLR ρ [x, y] args'.toList) : ∃ a b, args' = #[a, b] ∧ TR ρ x a ∧ TR ρ y b := by
  obtain ⟨l⟩ := args'
  cases h with
  | cons h1 h => cases h with
    | cons h2 h => cases h; exact ⟨_, _, rfl, h1, h2⟩
theorem TR.cell' {ρ : Rho} {x : Cell} {v : Value} (h : TR ρ (.c x) v) : CR ρ x v := by cases h; assumption
theorem idxS_ok {P : Program} {g : Nat} {fn : Func} (hf : P.funcs[g]? = some fn) (h1 : (fn.name == "runtime.NumGoroutine") = false) (h2 : fn.body.isNone = true) (h3 : Extern.findNext fn = none)
    (h4 : Extern.find fn = some Extern.BytealgIndexByte.indexByte) : FnOk P g (numF idxS) := by
  refine numF_ok fun args vs h ρ args' ha => ?_
  unfold idxS at h
  split at h
  · rename_i s c
    simp only [Option.some.injEq] at h
    subst h
    obtain ⟨a, b, rfl, ha, hb⟩ := ha.pair
    rw [hb.int]
    cases ha.cell'
    refine ⟨.int .i64 (Lib.indexByte s.data.toList c.toNat.toUInt8), fun w => ?_, .c (.int _ _)⟩
    rw [run_callFunc_extern hf h1 h2 h3 h4, Lib.run_indexByteString]
    rfl
  · cases h
theorem bytesOf_map (ns : List Int) : Lib.bytesOf ns = ns.map fun n => UInt8.ofNat n.toNat := by
  induction ns with
  | nil => rfl
  | cons n ns ih => simp only [List.map_cons, ← ih]; rfl
theorem idxB_ok {P : Program} {g : Nat} {fn : Func} (hf : P.funcs[g]? = some fn) (h1 : (fn.name == "runtime.NumGoroutine") = false) (h2 : fn.body.isNone = true) (h3 : Extern.findNext fn = none)
    (h4 : Extern.find fn = some Extern.BytealgIndexByte.indexByte) : FnOk P g (readF encI idxB) := by
  intro R args H K r hF ρ w args' hH ha rd o a next Q hn
  simp only [readF, Option.bind_eq_some_iff] at hF
  obtain ⟨x, hx, hK⟩ := hF
  have key : (callFunc g args').run P w = .ok (.value (.int .i64 x)) w := by
    unfold idxB at hx
    split at hx
    · rename_i s c
      obtain ⟨a, b, rfl, ha, hb⟩ := ha.pair
      rw [hb.int, run_callFunc_extern hf h1 h2 h3 h4]
      simp only [Option.map_eq_some_iff] at hx
      obtain ⟨bb, hx, rfl⟩ := hx
      cases ha.cell' with
      | nilSlice =>
        simp [Heap.str] at hx
        subst hx
        rw [Lib.run_indexByteNil]
        rfl
      | slice hr hcap hl haa hm =>
        rename_i s b' o' m cap ad _
        simp only [Heap.str] at hx
        split at hx
        · have hload : ∀ (xs : List Int), xs.length = s.len → (∀ j x, xs[j]? = some x → w.cell? (ad.add j) = some (.int .u8 x)) → (Extern.BytealgIndexByte.indexByte #[.slice (some ad) s.len cap, .int .u8 c]).run P w = .ok (.int .i64 (Lib.indexByte (Lib.bytesOf xs) c.toNat.toUInt8)) w := fun xs hxl hc => by
            have hl := Lib.run_loadBytesX (P := P) w xs ad .empty hc
            rw [hxl] at hl
            have hs := Lib.run_indexByteString (P := P) ⟨(Lib.bytesOf xs).toArray⟩ c w
            have he : (⟨ByteArray.empty.data ++ (Lib.bytesOf xs).toArray⟩ : ByteArray) = ⟨(Lib.bytesOf xs).toArray⟩ := by
              apply ByteArray.ext
              show (#[] : Array UInt8) ++ (Lib.bytesOf xs).toArray = (Lib.bytesOf xs).toArray
              simp
            rw [he] at hl
            change Sem.run P (do
              let b ← Extern.Bytes.bytesOf (.slice (some ad) s.len cap)
              let c ← Extern.Bytes.asByte (.int .u8 c)
              match (List.range b.size).find? fun i => b[i]! == c with
              | some i => pure (goInt i)
              | none => pure (goInt (-1))) w = _
            change Sem.run P (do
              let b ← Extern.Bytes.bytesOf (.string ⟨(Lib.bytesOf xs).toArray⟩)
              let c ← Extern.Bytes.asByte (.int .u8 c)
              match (List.range b.size).find? fun i => b[i]! == c with
              | some i => pure (goInt i)
              | none => pure (goInt (-1))) w = _ at hs
            simp only [Extern.Bytes.bytesOf, Sem.run_bind, Sem.run_pure, hl, Result.andThen] at hs ⊢
            exact hs
          by_cases h0 : s.len = 0
          · rw [if_pos h0] at hx
            simp at hx
            subst hx
            rw [hload [] h0.symm (fun j x e => by simp at e)]
            rfl
          rw [if_neg h0] at hx
          have hr := hr.resolve_right (by omega)
          simp only [Option.bind_eq_some_iff, Option.map_eq_some_iff] at hx
          obtain ⟨cs, hcs, l, hl', hbl⟩ := hx
          obtain ⟨g1, vs, g2, g3⟩ := hH.getN hcs hr
          obtain ⟨ns, g4, g5⟩ := toBytes_rel hl' g2
          have had : ad = ⟨b', o' + s.off, none⟩ := by
            rcases haa with haa | haa
            · exact haa
            · omega
          subst had
          rw [hload ns (by have := g2.length; rw [g1, g4] at this; simpa using this.symm) (fun j x e => by
            rw [addr_add]; exact g3 j _ (by rw [g4, List.getElem?_map, e]; rfl)), bytesOf_map, g5, ← hbl]
          rfl
        · cases hx
    · cases hx
  rw [key, Oper.uponIn_value]
  exact hn _ _ ρ _ w hK hH (.c (.int _ _)) (Fr.refl _ _ _)
theorem numX_ok {P : Program} {g : Nat} {f f' : List TV → Option (List TV)} (h : FnOk P g (numF f)) (hS : ∀ args vs, f' args = some vs → f args = some vs) : FnOk P g (numF f') := by
  intro R args H K r hr
  refine h R args H K r ?_
  simp only [numF, Option.bind_eq_some_iff] at hr
  obtain ⟨x, h1, h2⟩ := hr
  simp only [numF, hS _ _ h1, Option.bind_some]
  exact h2
theorem readX_ok {P : Program} {g : Nat} {α : Type} {enc : α → List TV} {S S' : List TV → Heap → Option α} (h : FnOk P g (readF enc S)) (hS : ∀ args H r, S' args H = some r → S args H = some r) : FnOk P g (readF enc S') := by
  intro R args H K r hr
  refine h R args H K r ?_
  simp only [readF, Option.bind_eq_some_iff] at hr
  obtain ⟨x, h1, h2⟩ := hr
  simp only [readF, hS _ _ _ h1, Option.bind_some]
  exact h2
end Go.Proofs.YtnipccoenalnkaaGreat.Ab
