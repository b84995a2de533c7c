/- Layer 10: memory, of layer 9: loads, bytes, and a step of both memories. -/
import Derived.Test.YtnipccoenalnkaaGreatSmU
namespace Go.Proofs.YtnipccoenalnkaaGreat
open Go Go.Proofs.YtnipccoenalnkaaGreat.Ab
set_option linter.unusedVariables false
set_option linter.unusedSimpArgs false
set_option maxRecDepth 100000
noncomputable section
/-! ### loads tell by areas and rows -/
theorem data_nf {l : List Ar} (h : Tru l) (x : Int) : dataAt (nfs l) x = dataAt l x := by
  unfold dataAt
  rw [findA_nf h x, nfs_at]
  cases l[(findA l x).toNat]? <;> rfl
theorem sees_nf {l : List Ar} (h : Tru l) (r : List Sto) (x : Int) : seesA (nfs l) r x = seesA l r x := by
  unfold seesA; rw [data_nf h]
theorem load_nf {l : List Ar} (h : Tru l) (r : List Sto) (x : Int) : ∀ n i v, loadN (nfs l) r x i n v = loadN l r x i n v
  | 0, _, _ => rfl
  | n + 1, i, v => by unfold loadN; rw [sees_nf h, load_nf h r x n]
def rowC (c : Co) (t : Int) : List Sto := (c.rows[t.toNat]?).getD []
def loadC (c : Co) (t x w : Int) : Int × Bool := bif mayA c.ars t x w false then (loadN c.ars (rowC c t) x 0 w.toNat 0, true) else (0, false)
theorem may_thrd {ars : List Ar} {t x w : Int} {wr : Bool} (h : mayA ars t x w wr = true) : thrd t = true ∧ isW8 w = true ∧ allThere ars t x wr 0 w.toNat = true := by
  unfold mayA at h
  simp only [Bool.and_eq_true] at h
  exact ⟨h.1, h.2.1, h.2.2.2⟩
theorem load_x {M : Mm} {H : Heap} {L N : Nat} {c : Co} (h : M.Is H L c) (f : c.Fit N) (hN : N ≤ 1000000) (t x w : Int) :
    ∃ M' H', f164 M.p t x w H = some (loadC c t x w, H') ∧ M'.Is H' L c ∧ M.To M' H H' := by
  unfold loadC
  cases hm : mayA c.ars t x w false
  · obtain ⟨H', e1, e2⟩ := f164_no (M.b, 0) M.ars t x w H (h.m.rd (by have := h.nl f; omega)) (by rw [h.may]; exact hm)
    exact ⟨M, H', e1, h.no e2, Mm.To.no e2⟩
  · obtain ⟨_, t, rfl, h8⟩ := inb8 (may_thrd hm).1
    obtain ⟨l, hl, h1, h2⟩ := f.row h8
    have hr : rowC c ((t : Nat) : Int) = l := by
      unfold rowC
      have hl' : c.rows[((t : Nat) : Int).toNat]? = some l := hl
      rw [hl']; rfl
    obtain ⟨H', e1, e2⟩ := f164_yes h.m (h.nl f) (h.dl f) (t : Int) x w (l := l) (by rw [h.r]; exact hl) (by omega) (by rw [h.may]; exact hm)
    rw [hr, ct, ← h.a, load_nf h.tru]
    exact ⟨M, H', e1, h.no e2 |> fun q => ⟨q.m, q.a, q.r⟩, Mm.To.no e2⟩
theorem may_x {M : Mm} {H : Heap} {L N : Nat} {c : Co} (h : M.Is H L c) (f : c.Fit N) (t x w : Int) (wr : Bool) :
    ∃ M' H', f59 M.p t x w wr H = some (mayA c.ars t x w wr, H') ∧ M'.Is H' L c ∧ M.To M' H H' := by
  obtain ⟨H', e1, e2⟩ := f59_x (M.b, 0) M.ars t x w wr H (h.m.rd (by have := h.nl f; omega))
  rw [h.may] at e1
  exact ⟨M, H', e1, h.no e2, Mm.To.no e2⟩
/-! ### what the document sees -/
/-! ### numbers of bytes -/
theorem bor_shl (v b : Int) (i : Nat) (hi : i < 8) (hv : 0 ≤ v ∧ v < 2 ^ (8 * i)) (hb : 0 ≤ b ∧ b < 256) : bor .u64 v (ishl .u64 (IntKind.u64.wrap b) (IntKind.u64.wrap (8 * (i : Int)))) = v + b * 2 ^ (8 * i) := by
  obtain ⟨v, rfl⟩ := Int.eq_ofNat_of_zero_le hv.1
  obtain ⟨b, rfl⟩ := Int.eq_ofNat_of_zero_le hb.1
  have hb : b < 256 := by omega
  have e0 : ((2 : Int) ^ (8 * i)) = ((2 ^ (8 * i) : Nat) : Int) := by simp
  have hv : v < 2 ^ (8 * i) := by have := hv.2; rw [e0] at this; omega
  have hp : (2 : Nat) ^ (8 * i) ≤ 2 ^ 56 := Nat.pow_le_pow_right (by omega) (by omega)
  unfold ishl
  rw [sh8 i hi, wrap_nat b (by omega), e0, bor_u64]
  have h1 : b * 2 ^ (8 * i) ≤ 255 * 2 ^ 56 := Nat.mul_le_mul (by omega) hp
  have e1 : IntKind.u64.wrap ((b : Int) * ((2 ^ (8 * i) : Nat) : Int)) = ((b * 2 ^ (8 * i) : Nat) : Int) := by
    rw [wrap_u64, ← Int.natCast_mul]
    omega
  rw [e1]
  have e2 : (((v : Nat) : Int) % 18446744073709551616).toNat = v := by omega
  have e3 : (((b * 2 ^ (8 * i) : Nat) : Int) % 18446744073709551616).toNat = b * 2 ^ (8 * i) := by omega
  rw [e2, e3, Nat.or_comm, Nat.mul_comm b, ← Nat.two_pow_add_eq_or_of_lt hv]
  rw [Int.natCast_add, Int.natCast_mul]
  have : ((b : Int)) * ((2 ^ (8 * i) : Nat) : Int) = ((2 ^ (8 * i) : Nat) : Int) * (b : Int) := Int.mul_comm _ _
  omega
/-! ### Byte -/
/-! ### both -/
structure Par (H : Heap) (L : Nat) (M : Mm) (R : Rm) (c d : Co) : Prop where
  m : M.Is H L c
  r : R.Is H L d
  dj : ∀ i, M.In i → ¬ R.In i
structure Go2 (M : Mm) (R : Rm) (M' : Mm) (R' : Rm) (H H' : Heap) : Prop where
  bm : M'.b = M.b
  br : R'.b = R.b
  k : Kp (fun i => M.In i ∨ R.Inm i) H H'
  im : ∀ i, M'.In i → M.In i ∨ H.length ≤ i
  irm : ∀ i, R'.Inm i → R.Inm i ∨ H.length ≤ i
  ir : ∀ i, R'.In i → R.In i ∨ H.length ≤ i
theorem both {α β : Type} {H : Heap} {L : Nat} {M : Mm} {R : Rm} {c d c' d' : Co} (P : Par H L M R c d) {f : Option (Nat × Nat) → Heap → Option (α × Heap)} {g : Option (Nat × Nat) → Heap → Option (β × Heap)} {v : α} {u : β}
    (hf : ∀ M H, M.Is H L c → ∃ M' H', f M.p H = some (v, H') ∧ Mm.Is M' H' L c' ∧ Mm.To M M' H H') (hg : ∀ R H, R.Is H L d → ∃ R' H', g R.p H = some (u, H') ∧ Rm.Is R' H' L d' ∧ Rm.To R R' H H') :
    ∃ M' R' H1 H', f M.p H = some (v, H1) ∧ g R.p H1 = some (u, H') ∧ Par H' L M' R' c' d' ∧ Go2 M R M' R' H H' := by
  obtain ⟨M', H1, e1, e2, e3⟩ := hf M H P.m
  have r1 := P.r.other e3.k fun i hi hf => P.dj i hf hi
  obtain ⟨R', H', u1, u2, u3⟩ := hg R H1 r1
  have dj1 : ∀ i, M'.In i → ¬ R.In i := fun i a b => by
    rcases e3.ids i a with e | e
    · exact P.dj i e b
    · have := P.r.lt b; omega
  refine ⟨M', R', H1, H', e1, u1, ⟨e2.other u3.k fun i hi hf => dj1 i hi (.inl hf), u2, fun i a b => ?_⟩, ⟨e3.b, u3.b, ?_, e3.ids, fun i hi => ?_, fun i hi => ?_⟩⟩
  · rcases u3.idy i b with e | e
    · exact dj1 i a e
    · have := e2.lt a; omega
  · exact (e3.k.mono (D := fun i => M.In i ∨ R.Inm i) fun i _ hf => .inl hf).trans (u3.k.mono (D := fun i => M.In i ∨ R.Inm i) fun i hi hf => .inr hf) (fun _ h => h) fun _ _ h => h
  · rcases u3.idm i hi with e | e
    · exact .inl e
    · exact .inr (Nat.le_trans e3.k.len e)
  · rcases u3.idy i hi with e | e
    · exact .inl e
    · exact .inr (Nat.le_trans e3.k.len e)
/-! ### a step -/
end
end Go.Proofs.YtnipccoenalnkaaGreat
