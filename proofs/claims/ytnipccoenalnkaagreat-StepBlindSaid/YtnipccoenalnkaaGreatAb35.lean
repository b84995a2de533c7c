/- The abstract machine, 35: a law's structs, cell by cell. -/
import Derived.Test.YtnipccoenalnkaaGreatAb34
import Derived.Test.YtnipccoenalnkaaGreatAb30
namespace Go.Proofs.YtnipccoenalnkaaGreat.Ab
open Go
set_option linter.unusedSimpArgs false
set_option linter.unusedVariables false

/-- What a law's data are sure of. -/
def CT.wf : (t : CT) → t.D → Prop
  | .i k, v => (Lit.int k v).wf = true
  | .s, v => v.size ≤ maxLen
  | _, _ => True
/-- Cells of some kinds. -/
def Ks : List CT → List Cell → Prop
  | [], cs => cs = []
  | k :: ks, cs => ∃ (v : k.D) (r : List Cell), cs = k.enc v :: r ∧ k.wf v ∧ Ks ks r
theorem Ks.append : ∀ {a b : List CT} {x y : List Cell}, Ks a x → Ks b y → Ks (a ++ b) (x ++ y)
  | [], _, _, _, h, k => by cases h; exact k
  | _ :: _, _, _, _, ⟨v, r, h, w, g⟩, k => ⟨v, _, by rw [h]; rfl, w, g.append k⟩
theorem Ks.len : ∀ {a : List CT} {x : List Cell}, Ks a x → x.length = a.length
  | [], _, h => by cases h; rfl
  | _ :: _, _, ⟨_, _, h, _, g⟩ => by rw [h, List.length_cons, g.len, List.length_cons]
def kindsF (P : Program) (k : TypeId → Option (List CT)) : List Field → Nat → Nat → Option (List CT)
  | [], off, m => if off = m then some [] else none
  | f :: r, off, m => if f.offset = off then (k f.type).bind fun ks => if P.cellsOf f.type = ks.length then (kindsF P k r (off + ks.length) m).map (ks ++ ·) else none else none
def kindsT (P : Program) : Nat → TypeId → Option (List CT)
  | 0, _ => none
  | n + 1, t =>
    match P.underlying t with
    | some .bool => some [.b]
    | some (.int k) => some [.i k]
    | some .string => some [.s]
    | some (.struct fs) => kindsF P (kindsT P n) fs.toList 0 (P.cellsOf t)
    | some (.array m e) => (kindsT P n e).bind fun k => if P.cellsOf e = k.length ∧ P.cellsOf t = m * k.length then some (List.replicate m k).flatten else none
    | _ => none
theorem ks_fields {P : Program} {k : TypeId → Option (List CT)} {S : TypeId → List Cell → Prop} (hk : ∀ t cs ks, S t cs → k t = some ks → Ks ks cs) {cs : List Cell} : ∀ (l : List Field) (off m : Nat) (ks : List CT), kindsF P k l off m = some ks → cs.length = m →
    (∀ f ∈ l, S f.type ((cs.drop f.offset).take (P.cellsOf f.type))) → Ks ks (cs.drop off)
  | [], off, m, ks, h, hl, _ => by
    unfold kindsF at h
    split at h
    · cases h; rename_i e; rw [List.drop_eq_nil_of_le (by omega)]; rfl
    · cases h
  | f :: r, off, m, ks, h, hl, hs => by
    unfold kindsF at h
    split at h
    · rename_i e
      simp only [Option.bind_eq_some_iff] at h
      obtain ⟨k1, h1, h⟩ := h
      split at h
      · rename_i e2
        simp only [Option.map_eq_some_iff] at h
        obtain ⟨k2, h2, rfl⟩ := h
        have a := hk _ _ _ (hs f (by simp)) h1
        have b := ks_fields hk r _ m k2 h2 hl fun g hg => hs g (List.mem_cons_of_mem _ hg)
        rw [e, e2] at a
        have := a.append b
        rwa [← List.drop_drop, List.take_append_drop] at this
      · cases h
    · cases h
theorem ks_array {k : List CT} {cs : List Cell} : ∀ (m : Nat), cs.length = m * k.length → (∀ i, i < m → Ks k ((cs.drop (i * k.length)).take k.length)) → Ks (List.replicate m k).flatten cs
  | 0, hl, _ => by
    have : cs = [] := List.eq_nil_of_length_eq_zero (by omega)
    rw [this]; rfl
  | m + 1, hl, h => by
    rw [List.replicate_succ, List.flatten_cons, ← List.take_append_drop k.length cs]
    have h0 := h 0 (by omega)
    rw [Nat.zero_mul, List.drop_zero] at h0
    rw [Nat.succ_mul] at hl
    refine h0.append (ks_array (cs := cs.drop k.length) m (by rw [List.length_drop]; omega) fun i hi => ?_)
    have := h (i + 1) (by omega)
    rw [Nat.succ_mul, Nat.add_comm, ← List.drop_drop] at this
    exact this
theorem sh_ks {P : Program} {H : Heap} : ∀ (n : Nat) (t : TypeId) (cs : List Cell) (ks : List CT), Sh P H n t cs → kindsT P n t = some ks → Ks ks cs
  | 0, _, _, _, h, _ => h.elim
  | n + 1, t, cs, ks, h, hk => by
    unfold Sh at h
    unfold kindsT at hk
    split at h
    · rename_i e; rw [e] at hk; cases hk; obtain ⟨b, rfl⟩ := h; exact ⟨b, [], rfl, trivial, rfl⟩
    · rename_i k e; rw [e] at hk; cases hk; obtain ⟨b, rfl, w⟩ := h; exact ⟨b, [], rfl, w, rfl⟩
    · rename_i e; rw [e] at hk; cases hk; obtain ⟨b, rfl, w⟩ := h; exact ⟨b, [], rfl, w, rfl⟩
    · rename_i e; rw [e] at hk; cases hk
    · rename_i fs e
      rw [e] at hk
      have := ks_fields (S := Sh P H n) (fun t cs ks a b => sh_ks n t cs ks a b) fs.toList 0 _ ks hk h.1 fun f hf => by
        obtain ⟨j, hj⟩ := List.mem_iff_getElem?.1 hf
        exact h.2 j f hj
      rwa [List.drop_zero] at this
    · rename_i m e' e
      rw [e] at hk
      simp only [Option.bind_eq_some_iff] at hk
      obtain ⟨k, h1, hk⟩ := hk
      split at hk
      · rename_i c
        cases hk
        refine ks_array m (by rw [h.1, c.2]) fun i hi => ?_
        have := sh_ks n _ _ k (h.2 i hi) h1
        rwa [c.1] at this
      · cases hk
    · exact h.elim
theorem decR_true : ∀ v : AV, decR [boS] v = some true → v.cell.bind Cell.toBool = some true
  | .c x, h => h
  | .agg _, h => by cases h
  | .tup _, h => by cases h
  | .lp _ _, h => by cases h
/-- A law holds, if its typed function answers true. -/
theorem law_ofN {C : Ctx} {f : Func} {ps : List Shp} {F : FunT ps (Heap → Option (ResT [boS] × Heap))} (hF : IsF C f ps [boS] F) (hN : CtxNat C) {args : List TV} {H H' : Heap} (h : appS ps F args H = some (true, H')) :
    fnA C f.results.toList (bodyOf f) Bool args H (fun x _ => x.cell.bind Cell.toBool) = some true := by
  unfold IsF at hF
  subst hF
  exact law_of hN decR_true (appS_cur ps (fun args H => fnA C f.results.toList (bodyOf f) _ args H (decF (decR [boS]))) args H _ h)
end Go.Proofs.YtnipccoenalnkaaGreat.Ab
