/- Layer 10: memory, of layer 9: loads, bytes, and a step of both memories. -/
import Derived.Test.YtnipccoenalnkaaGreatSmU
namespace Go.Proofs.YtnipccoenalnkaaGreat
open Go Go.Proofs.YtnipccoenalnkaaGreat.Ab
set_option linter.unusedVariables false
set_option linter.unusedSimpArgs false
set_option maxRecDepth 100000
noncomputable section
/-! ### loads tell by areas and rows -/
theorem data_nf {l : List Ar} (h : Tru l) (x : Int) : dataAt (nfs l) x = dataAt l x := by
  unfold dataAt
  rw [findA_nf h x, nfs_at]
  cases l[(findA l x).toNat]? <;> rfl
theorem sees_nf {l : List Ar} (h : Tru l) (r : List Sto) (x : Int) : seesA (nfs l) r x = seesA l r x := by
  unfold seesA; rw [data_nf h]
theorem load_nf {l : List Ar} (h : Tru l) (r : List Sto) (x : Int) : ∀ n i v, loadN (nfs l) r x i n v = loadN l r x i n v
  | 0, _, _ => rfl
  | n + 1, i, v => by unfold loadN; rw [sees_nf h, load_nf h r x n]
def rowC (c : Co) (t : Int) : List Sto := (c.rows[t.toNat]?).getD []
def loadC (c : Co) (t x w : Int) : Int × Bool := bif mayA c.ars t x w false then (loadN c.ars (rowC c t) x 0 w.toNat 0, true) else (0, false)
theorem may_thrd {ars : List Ar} {t x w : Int} {wr : Bool} (h : mayA ars t x w wr = true) : thrd t = true ∧ isW8 w = true ∧ allThere ars t x wr 0 w.toNat = true := by
  unfold mayA at h
  simp only [Bool.and_eq_true] at h
  exact ⟨h.1, h.2.1, h.2.2.2⟩
theorem load_x {M : Mm} {H : Heap} {L N : Nat} {c : Co} (h : M.Is H L c) (f : c.Fit N) (hN : N ≤ 1000000) (t x w : Int) :
    ∃ M' H', f164 M.p t x w H = some (loadC c t x w, H') ∧ M'.Is H' L c ∧ M.To M' H H' := by
  unfold loadC
  cases hm : mayA c.ars t x w false
  · obtain ⟨H', e1, e2⟩ := f164_no (M.b, 0) M.ars t x w H (h.m.rd (by have := h.nl f; omega)) (by rw [h.may]; exact hm)
    exact ⟨M, H', e1, h.no e2, Mm.To.no e2⟩
  · obtain ⟨_, t, rfl, h8⟩ := inb8 (may_thrd hm).1
    obtain ⟨l, hl, h1, h2⟩ := f.row h8
    have hr : rowC c ((t : Nat) : Int) = l := by
      unfold rowC
      have hl' : c.rows[((t : Nat) : Int).toNat]? = some l := hl
      rw [hl']; rfl
    obtain ⟨H', e1, e2⟩ := f164_yes h.m (h.nl f) (h.dl f) (t : Int) x w (l := l) (by rw [h.r]; exact hl) (by omega) (by rw [h.may]; exact hm)
    rw [hr, ct, ← h.a, load_nf h.tru]
    exact ⟨M, H', e1, h.no e2 |> fun q => ⟨q.m, q.a, q.r⟩, Mm.To.no e2⟩
theorem may_x {M : Mm} {H : Heap} {L N : Nat} {c : Co} (h : M.Is H L c) (f : c.Fit N) (t x w : Int) (wr : Bool) :
    ∃ M' H', f59 M.p t x w wr H = some (mayA c.ars t x w wr, H') ∧ M'.Is H' L c ∧ M.To M' H H' := by
  obtain ⟨H', e1, e2⟩ := f59_x (M.b, 0) M.ars t x w wr H (h.m.rd (by have := h.nl f; omega))
  rw [h.may] at e1
  exact ⟨M, H', e1, h.no e2, Mm.To.no e2⟩
theorem rmay_x {R : Rm} {H : Heap} {L N : Nat} {c : Co} (h : R.Is H L c) (f : c.Fit N) (t x w : Int) (wr : Bool) (hx : u64p x) :
    ∃ R' H', f61 R.p t x w wr H = some (mayA c.ars t x w wr, H') ∧ R'.Is H' L c ∧ R.To R' H H' := by
  refine ⟨R, H, ?_, h, Rm.To.no (Kp.refl _ _)⟩
  rw [← h.may]
  exact f61_x (R.b, 0) R.ars t x w wr H (h.m.rd (by have := h.nl f; omega)) hx
/-! ### what the document sees -/
def pickB (at' v x : Int) (N i : Nat) (b : Int) : Int := bif decide (i ≤ (IntKind.u64.wrap (x - at')).toNat ∧ (IntKind.u64.wrap (x - at')).toNat < N) then byteOf v (IntKind.u64.wrap (x - at')).toNat else b
theorem loop184i (at' v x : Int) (hx : u64p x) (B q : Option Sl) (ql qi : Int) (N : Nat) (hN : N ≤ 8) (H : Heap) (hB : RS 1 E8 H B (bytesFrom v 0 N)) : ∀ (m n i : Nat) (b : Int), i + m = N →
    D184_7 (n + m + 1) x b q ql qi B (N : Int) (i : Int) at' B H = some (.exit 2, X184_7 x (pickB at' v x N i b) q ql qi H)
  | 0, n, i, b, hm => by
    have g : decide ((i : Int) < (N : Int)) = false := by simp; omega
    have : pickB at' v x N i b = b := by
      unfold pickB
      rw [decide_eq_false (by omega), cf]
    rw [D184_7_s, g, cf, this]
  | m + 1, n, i, b, hm => by
    have g : decide ((i : Int) < (N : Int)) = true := by simp; omega
    obtain ⟨sb, rfl, b1, b2⟩ := hB.idx1 (bytes_at v N 0 i (by omega)) (e := fun c : UInt8 => Cell.int .u8 (c.toNat : Int)) (fun _ => rfl)
    rw [Nat.zero_add, u8v_eq (byteOf_range v i).1 (byteOf_range v i).2] at b2
    have ih := fun b => loop184i at' v x hx (some sb) q ql qi N hN H hB m n (i + 1) b (by omega)
    rw [show n + (m + 1) + 1 = (n + m + 1) + 1 by omega, D184_7_s, g]
    simp only [ct, Ab.bs, b1, b2, tInt, wrap_nat i (by omega), i64_succ i (by omega)]
    unfold u64p at hx
    by_cases e : (IntKind.u64.wrap (x - at')).toNat = i
    · have he : (IntKind.u64.wrap (at' + (i : Int)) == x) = true := by
        simp only [wrap_u64] at e ⊢
        simp only [beq_iff_eq]; omega
      have p1 : pickB at' v x N i b = byteOf v i := by
        unfold pickB; rw [decide_eq_true (by omega), ct, e]
      have p2 : pickB at' v x N (i + 1) (byteOf v i) = byteOf v i := by
        unfold pickB; rw [decide_eq_false (by omega), cf]
      rw [he, ct, ih, p1, p2]
    · have he : (IntKind.u64.wrap (at' + (i : Int)) == x) = false := by
        simp only [wrap_u64] at e ⊢
        simp only [beq_eq_false_iff_ne, ne_eq]; omega
      have p1 : pickB at' v x N i b = pickB at' v x N (i + 1) b := by
        unfold pickB
        congr 1
        apply decide_eq_decide.2
        omega
      rw [he, cf, ih, p1]
def refB (l : List Sto) (x b : Int) : Int := l.foldl (fun b s => bif s.has x then s.byte x else b) b
theorem pick_sto (s : Sto) (x b : Int) (hw : isW8 s.w = true) : pickB s.at' s.v x s.w.toNat 0 b = bif s.has x then s.byte x else b := by
  unfold pickB Sto.has Sto.byte byteOf
  obtain ⟨k, hk⟩ : ∃ k : Nat, IntKind.u64.wrap (x - s.at') = (k : Int) := Int.eq_ofNat_of_zero_le (by rw [wrap_u64]; exact Int.emod_nonneg _ (by decide))
  have hw := isW8_w hw
  have e1 : IntKind.u64.wrap s.w = s.w := by rw [wrap_u64]; omega
  rw [hk, e1]
  have : decide (0 ≤ ((k : Nat) : Int).toNat ∧ ((k : Nat) : Int).toNat < s.w.toNat) = decide (((k : Nat) : Int) < s.w) := by
    apply decide_eq_decide.2; omega
  rw [this]
  rfl
theorem ref_hit (x : Int) : ∀ (n : Nat) (l : List Sto) (b : Int), n ≤ l.length → refB (l.take n) x b = match hitN l x n with | some s => s.byte x | none => b
  | 0, l, b, h => by rw [List.take_zero]; rfl
  | n + 1, l, b, h => by
    have hlt : n < l.length := by omega
    have ih := ref_hit x n l b (by omega)
    unfold refB at ih ⊢
    have hh : hitN l x (n + 1) = match l[n]? with | some s => bif s.has x then some s else hitN l x n | none => none := rfl
    rw [hh, List.take_succ_eq_append_getElem hlt, List.foldl_append, ih, List.getElem?_eq_getElem hlt]
    simp only [List.foldl_cons, List.foldl_nil]
    cases l[n].has x
    · rw [cf, cf]
    · rw [ct, ct]
theorem ref_sees (ars : List Ar) (l : List Sto) (x : Int) : refB l x (dataAt ars x) = seesA ars l x := by
  have := ref_hit x l.length l (dataAt ars x) (Nat.le_refl _)
  rw [List.take_length] at this
  rw [this]; rfl
theorem loop184o {H : Heap} (x : Int) (hx : u64p x) (rt : Option Sl) (q : List RSto) (l : List Sto) (hro : RS 2 E2 H rt q) (hqa : q.map RSto.abs = l.map Sto.abs) (hq : ∀ z, z ∈ q → RS 1 E8 H z.sl z.bytes) (hw : ∀ s, s ∈ l → isW8 s.w = true) (hl : l.length ≤ 1000000) : ∀ (m n i : Nat) (b : Int), i + m = l.length →
    (D184_4 (n + m + 1) x b rt (l.length : Int) (i : Int) H).bind J184_4 = some (refB (l.drop i) x b, H)
  | 0, n, i, b, hm => by
    have g : decide ((i : Int) < (l.length : Int)) = false := by simp; omega
    rw [D184_4_s, g, cf, Ab.bs, J184_4_0, List.drop_eq_nil_of_le (by omega)]; rfl
  | m + 1, n, i, b, hm => by
    have g : decide ((i : Int) < (l.length : Int)) = true := by simp; omega
    have hlt : i < l.length := by omega
    have hql : q.length = l.length := by simpa using congrArg List.length hqa
    have hi := List.getElem?_eq_getElem (l := q) (i := i) (by omega)
    have hli := List.getElem?_eq_getElem hlt
    have hab : RSto.abs (q[i]'(by omega)) = Sto.abs l[i] := by
      have := congrArg (·[i]?) hqa
      simp only [List.getElem?_map, hi, hli, Option.map_some] at this
      exact Option.some.inj this
    have hx1 : (q[i]'(by omega)).at' = l[i].at' := congrArg Prod.fst hab
    have hx2 : (q[i]'(by omega)).bytes = bytesFrom l[i].v 0 l[i].w.toNat := congrArg Prod.snd hab
    have hwi := hw l[i] (List.getElem_mem hlt)
    have hw8 := isW8_w hwi
    have hB := hq _ (List.mem_of_getElem? hi)
    rw [hx2] at hB
    obtain ⟨sl, rfl, g1, c0, c1⟩ := gets2 hro hi
    have ih := loop184o x hx (some sl) q l hro hqa hq hw hl m n (i + 1) (pickB l[i].at' l[i].v x l[i].w.toNat 0 b) (by omega)
    rw [show n + (m + 1) + 1 = (n + m + 1) + 1 by omega, D184_4_s, g]
    simp only [ct, Ab.bs, g1, c0, c1, tInt, tSlice, hB.slenEq, bytes_len]
    obtain ⟨n', e⟩ := LL184_7_of l[i].w.toNat (by omega) x b (some sl) (l.length : Int) (i : Int) (q[i]'(by omega)).sl ((l[i].w.toNat : Nat) : Int) 0 (q[i]'(by omega)).at' (q[i]'(by omega)).sl H
    have hin := loop184i l[i].at' l[i].v x hx (q[i]'(by omega)).sl (some sl) (l.length : Int) (i : Int) l[i].w.toNat (by omega) H hB l[i].w.toNat n' 0 b (by omega)
    rw [e, hx1, show (0 : Int) = ((0 : Nat) : Int) from rfl, hin, Ab.bs, J184_7_0, i64_succ i (by omega), ih, List.drop_eq_getElem_cons hlt]
    unfold refB
    rw [List.foldl_cons, pick_sto _ _ _ hwi]
theorem f184_x {R : Rm} {H : Heap} {L N : Nat} {c : Co} (h : R.Is H L c) (f : c.Fit N) (hN : N ≤ 1000000) (t : Nat) (h8 : t < 8) {l : List Sto} (hl : c.rows[t]? = some l) (x : Int) (hx : u64p x) {k : Nat} {a : Ar} (hk : R.ars[k]? = some a) (hax : a.has x = true) (hf : findA R.ars x = (k : Int)) :
    f184 R.p (t : Int) x H = some (seesA R.ars l x, H) := by
  obtain ⟨q, hq, hqa⟩ := h.row hl
  obtain ⟨rt, hr⟩ := rowR h h8
  obtain ⟨h1, h2⟩ := f.g l (List.mem_of_getElem? hl)
  have hro := h.m.ro t _ _ hr hq
  have hrow : H.get R.b (0 + 1 + ((t : Nat) : Int).toNat * 1) = some (.slice rt) := head_row h.m hr
  have gs : H.get R.b (0 + 0) = some (.slice R.s) := by rw [get_of h.m.hd]; rfl
  have i8 : inb (t : Int) 8 = true := by simp [inb]; omega
  obtain ⟨sl, hsl, g1, c0, c1, c2, c3, c4⟩ := gets5 h.m.ar.rs hk
  have c0' : H.get sl.id (sl.off + ((k : Nat) : Int).toNat * 5 + 0) = some (.int .u64 a.lo) := c0
  obtain ⟨sd, d1, d2, d3⟩ := data_get h.m hk hax (by have := h.dl f a (List.mem_of_getElem? hk); omega) hf
  have hql : q.length = l.length := by simpa using congrArg List.length hqa
  rw [q184]
  unfold Rm.p
  rw [f109_x (R.b, 0) R.ars x H (h.m.rd (by have := h.nl f; omega)), Ab.bs]
  simp only [Ab.bs, gs, tSlice, hf, hsl, g1, ct, c0', c1, tInt, d1, d2, d3, i8, hrow, hro.rs.slenEq, hql]
  obtain ⟨n, e⟩ := LL184_4_of l.length (by omega) x (dataAt R.ars x) rt (l.length : Int) 0 H
  have := loop184o x hx rt q l hro.rs hqa (fun z hz => (h.y q (List.mem_of_getElem? hq) z hz).1.rs) (fun s hs => (h2 s hs).w) (by omega) l.length n 0 (dataAt R.ars x) (by omega)
  rw [e, show (0 : Int) = ((0 : Nat) : Int) from rfl, this, List.drop_zero, ref_sees]
/-! ### numbers of bytes -/
def numB : List UInt8 → Int
  | [] => 0
  | c :: l => (c.toNat : Int) + 256 * numB l
theorem numB_lt : ∀ l : List UInt8, 0 ≤ numB l ∧ numB l < 2 ^ (8 * l.length)
  | [] => by unfold numB; decide
  | c :: l => by
    have ⟨h1, h2⟩ := numB_lt l
    have hc : c.toNat < 256 := c.toNat_lt
    have e : (2 : Int) ^ (8 * (c :: l).length) = 256 * 2 ^ (8 * l.length) := by
      rw [List.length_cons, show 8 * (l.length + 1) = 8 + 8 * l.length by omega, Int.pow_add]; rfl
    unfold numB
    rw [e]
    generalize (2 : Int) ^ (8 * l.length) = P at *
    omega
theorem seesA_range (ars : List Ar) (l : List Sto) (x : Int) : 0 ≤ seesA ars l x ∧ seesA ars l x < 256 := by
  unfold seesA
  split
  · exact u8_range _
  · unfold dataAt
    split
    · split
      · rename_i c _
        have : c.toNat < 256 := c.toNat_lt
        omega
      · omega
    · omega
def seesL (ars : List Ar) (l : List Sto) (x : Int) : Nat → Nat → List UInt8
  | _, 0 => []
  | i, n + 1 => u8v (seesA ars l (IntKind.u64.wrap (x + (i : Int)))) :: seesL ars l x (i + 1) n
theorem sees_len (ars : List Ar) (l : List Sto) (x : Int) : ∀ n i, (seesL ars l x i n).length = n
  | 0, _ => rfl
  | n + 1, i => by unfold seesL; rw [List.length_cons, sees_len ars l x n]
theorem sees_last (ars : List Ar) (l : List Sto) (x : Int) : ∀ n i, seesL ars l x i (n + 1) = seesL ars l x i n ++ [u8v (seesA ars l (IntKind.u64.wrap (x + ((i + n : Nat) : Int))))]
  | 0, i => rfl
  | n + 1, i => by
    show u8v _ :: seesL ars l x (i + 1) (n + 1) = u8v _ :: seesL ars l x (i + 1) n ++ _
    rw [sees_last ars l x n (i + 1), List.cons_append, show i + 1 + n = i + (n + 1) by omega]
theorem bor_shl (v b : Int) (i : Nat) (hi : i < 8) (hv : 0 ≤ v ∧ v < 2 ^ (8 * i)) (hb : 0 ≤ b ∧ b < 256) : bor .u64 v (ishl .u64 (IntKind.u64.wrap b) (IntKind.u64.wrap (8 * (i : Int)))) = v + b * 2 ^ (8 * i) := by
  obtain ⟨v, rfl⟩ := Int.eq_ofNat_of_zero_le hv.1
  obtain ⟨b, rfl⟩ := Int.eq_ofNat_of_zero_le hb.1
  have hb : b < 256 := by omega
  have e0 : ((2 : Int) ^ (8 * i)) = ((2 ^ (8 * i) : Nat) : Int) := by simp
  have hv : v < 2 ^ (8 * i) := by have := hv.2; rw [e0] at this; omega
  have hp : (2 : Nat) ^ (8 * i) ≤ 2 ^ 56 := Nat.pow_le_pow_right (by omega) (by omega)
  unfold ishl
  rw [sh8 i hi, wrap_nat b (by omega), e0, bor_u64]
  have h1 : b * 2 ^ (8 * i) ≤ 255 * 2 ^ 56 := Nat.mul_le_mul (by omega) hp
  have e1 : IntKind.u64.wrap ((b : Int) * ((2 ^ (8 * i) : Nat) : Int)) = ((b * 2 ^ (8 * i) : Nat) : Int) := by
    rw [wrap_u64, ← Int.natCast_mul]
    omega
  rw [e1]
  have e2 : (((v : Nat) : Int) % 18446744073709551616).toNat = v := by omega
  have e3 : (((b * 2 ^ (8 * i) : Nat) : Int) % 18446744073709551616).toNat = b * 2 ^ (8 * i) := by omega
  rw [e2, e3, Nat.or_comm, Nat.mul_comm b, ← Nat.two_pow_add_eq_or_of_lt hv]
  rw [Int.natCast_add, Int.natCast_mul]
  have : ((b : Int)) * ((2 ^ (8 * i) : Nat) : Int) = ((2 ^ (8 * i) : Nat) : Int) * (b : Int) := Int.mul_comm _ _
  omega
theorem load_num (ars : List Ar) (l : List Sto) (x : Int) : ∀ (n i : Nat) (v : Int), i + n ≤ 8 → 0 ≤ v ∧ v < 2 ^ (8 * i) → loadN ars l x i n v = v + 2 ^ (8 * i) * numB (seesL ars l x i n)
  | 0, i, v, _, _ => by unfold loadN seesL numB; omega
  | n + 1, i, v, h, hv => by
    have hr := seesA_range ars l (IntKind.u64.wrap (x + (i : Int)))
    have e : (2 : Int) ^ (8 * (i + 1)) = 2 ^ (8 * i) * 256 := by
      rw [show 8 * (i + 1) = 8 * i + 8 by omega, Int.pow_add]; rfl
    have hP : (0 : Int) < 2 ^ (8 * i) := Int.pow_pos (by decide)
    unfold loadN
    rw [bor_shl v _ i (by omega) hv hr]
    unfold seesL numB
    rw [u8v_eq hr.1 hr.2]
    generalize seesA ars l (IntKind.u64.wrap (x + (i : Int))) = s at *
    rw [load_num ars l x n (i + 1) _ (by omega) (by
      rw [e]
      have h1 : s * 2 ^ (8 * i) ≤ 255 * 2 ^ (8 * i) := Int.mul_le_mul_of_nonneg_right (by omega) (Int.le_of_lt hP)
      have h2 : 0 ≤ s * 2 ^ (8 * i) := Int.mul_nonneg hr.1 (Int.le_of_lt hP)
      omega), e]
    generalize numB (seesL ars l x (i + 1) n) = q
    rw [Int.mul_add, Int.mul_assoc, Int.mul_comm s, Int.add_assoc]
theorem loop185 {H : Heap} {s : Option Sl} {l : List UInt8} (hB : RS 1 E8 H s l) (hl : l.length ≤ 8) : ∀ (j n : Nat), j ≤ l.length →
    (D185_3 (n + j + 1) s (numB (l.drop j)) ((j : Int) - 1) H).bind J185_3 = some (numB l, H)
  | 0, n, hj => by
    have g : decide ((((0 : Nat) : Int) - 1) ≥ 0) = false := by decide
    rw [D185_3_s, g, cf, Ab.bs, J185_3_0, List.drop_zero]
  | j + 1, n, hj => by
    have g : decide ((((j + 1 : Nat) : Int) - 1) ≥ 0) = true := by apply decide_eq_true; omega
    have hlt : j < l.length := by omega
    have ih := loop185 hB hl j n (by omega)
    obtain ⟨sb, rfl, b1, b2⟩ := hB.idx1 (List.getElem?_eq_getElem hlt) (e := fun c : UInt8 => Cell.int .u8 (c.toNat : Int)) (fun _ => rfl)
    have e1 : (((j + 1 : Nat) : Int) - 1) = (j : Int) := by omega
    rw [show n + (j + 1) + 1 = (n + j + 1) + 1 by omega, D185_3_s, g]
    simp only [e1, ct, Ab.bs, b1, b2, tInt]
    rw [wrap_i64 (n := (j : Int) - 1) (by omega) (by omega)]
    have hn : numB (l.drop j) = (l[j].toNat : Int) + 256 * numB (l.drop (j + 1)) := by
      rw [List.drop_eq_getElem_cons hlt]; rfl
    have hb := numB_lt (l.drop j)
    have hb2 : numB (l.drop j) < 18446744073709551616 := by
      refine Int.lt_of_lt_of_le hb.2 ?_
      have : (2 : Nat) ^ (8 * (l.drop j).length) ≤ 2 ^ 64 := Nat.pow_le_pow_right (by omega) (by simp; omega)
      have e0 : ((2 : Int) ^ (8 * (l.drop j).length)) = ((2 ^ (8 * (l.drop j).length) : Nat) : Int) := by simp
      rw [e0]; omega
    have hb3 := numB_lt (l.drop (j + 1))
    have hv : IntKind.u64.wrap (IntKind.u64.wrap (numB (l.drop (j + 1)) * 256) + IntKind.u64.wrap (l[j].toNat : Int)) = numB (l.drop j) := by
      have hc : l[j].toNat < 256 := l[j].toNat_lt
      rw [hn] at hb hb2 ⊢
      simp only [wrap_u64]
      omega
    rw [hv]
    exact ih
theorem f185_x {H : Heap} {s : Option Sl} {l : List UInt8} (hB : RS 1 E8 H s l) (hl : l.length ≤ 8) : f185 s H = some (numB l, H) := by
  rw [q185, hB.slenEq]
  obtain ⟨n, e⟩ := LL185_3_of l.length (by omega) s 0 (IntKind.i64.wrap ((l.length : Int) - 1)) H
  have := loop185 hB hl l.length n (Nat.le_refl _)
  rw [List.drop_eq_nil_of_le (Nat.le_refl _)] at this
  rw [e, wrap_i64 (by omega) (by omega)]
  exact this
theorem wrap_p (z : Int) : u64p (IntKind.u64.wrap z) := by rw [wrap_u64]; exact ⟨Int.emod_nonneg _ (by decide), Int.emod_lt_of_pos _ (by decide)⟩
theorem loop175 {R : Rm} {L K N : Nat} {c : Co} (f : c.Fit N) (hN : N ≤ 1000000) (t : Nat) (h8 : t < 8) {l : List Sto} (hl : c.rows[t]? = some l) (x : Int) (W : Nat) (hW : W ≤ 8) : ∀ (m n i : Nat) (s : Option Sl) (H : Heap), i + m = W → R.Is H L c → OS 1 E8 H s (seesL R.ars l x 0 i) → New K s → K ≤ H.length → (∀ j, R.In j → j < K) → allThere R.ars (t : Int) x false i m = true →
    ∃ s' H', D175_5 (n + m + 1) R.p (t : Int) x (W : Int) s (i : Int) H = some (.exit 0, X175_5 s' H') ∧ OS 1 E8 H' s' (seesL R.ars l x 0 W) ∧ R.Is H' L c ∧ Kp (fun i => K ≤ i) H H'
  | 0, n, i, s, H, hm, h, hO, hs, hK, hlt, ha => by
    have g : decide ((i : Int) < (W : Int)) = false := by simp; omega
    obtain rfl : i = W := by omega
    exact ⟨s, H, by rw [D175_5_s, g, cf], hO, h, Kp.refl _ _⟩
  | m + 1, n, i, s, H, hm, h, hO, hs, hK, hlt, ha => by
    have g : decide ((i : Int) < (W : Int)) = true := by simp; omega
    unfold allThere at ha
    simp only [Bool.and_eq_true] at ha
    obtain ⟨k, a, f1, f2, f3⟩ := there_find ha.1
    have hs52 := f184_x h f hN t h8 hl _ (wrap_p (x + (i : Int))) f1 f2 f3
    have hr := seesA_range R.ars l (IntKind.u64.wrap (x + (i : Int)))
    obtain ⟨s1, H1, a1, a2, a3, a4⟩ := push8 hO hs hK (by rw [sees_len]; omega) (u8v (seesA R.ars l (IntKind.u64.wrap (x + (i : Int)))))
    rw [u8v_eq hr.1 hr.2] at a1
    have a2' : OS 1 E8 H1 s1 (seesL R.ars l x 0 (i + 1)) := by rw [sees_last, Nat.zero_add]; exact a2
    have h1 := h.other a4 fun j hj hf => by have := hlt j hj; omega
    obtain ⟨s', H', r1, r2, r3, r4⟩ := loop175 f hN t h8 hl x W hW m n (i + 1) s1 H1 (by omega) h1 a2' a3 (Nat.le_trans hK a4.len) hlt ha.2
    refine ⟨s', H', ?_, r2, r3, a4.trans r4 (fun _ h => h) fun _ _ h => h⟩
    rw [show n + (m + 1) + 1 = (n + m + 1) + 1 by omega, D175_5_s, g, ct, wrap_nat i (by omega), hs52, Ab.bs]
    dsimp only
    rw [a1, Ab.bs, i64_succ i (by omega)]
    exact r1
theorem rload_x {R : Rm} {H : Heap} {L N : Nat} {c : Co} (h : R.Is H L c) (f : c.Fit N) (hN : N ≤ 1000000) (t x w : Int) (hx : u64p x) :
    ∃ R' H', f175 R.p t x w H = some (loadC c t x w, H') ∧ R'.Is H' L c ∧ R.To R' H H' := by
  have e1 : f61 R.p t x w false H = some (mayA c.ars t x w false, H) := by rw [← h.may]; exact f61_x (R.b, 0) R.ars t x w false H (h.m.rd (by have := h.nl f; omega)) hx
  rw [q175, e1, Ab.bs]
  unfold loadC
  cases hm : mayA c.ars t x w false
  · exact ⟨R, H, rfl, h, Rm.To.no (Kp.refl _ _)⟩
  · obtain ⟨ht, hw, _⟩ := may_thrd hm
    obtain ⟨_, t, rfl, h8⟩ := inb8 ht
    obtain ⟨l, hl, h1, h2⟩ := f.row h8
    have hr : rowC c ((t : Nat) : Int) = l := by
      unfold rowC
      have hl' : c.rows[((t : Nat) : Int).toNat]? = some l := hl
      rw [hl']; rfl
    rw [← h.may] at hm
    have ha := (may_thrd hm).2.2
    have hw := isW8_w hw
    have hwn : ((w.toNat : Nat) : Int) = w := by omega
    obtain ⟨n, e⟩ := LL175_5_of w.toNat (by omega) R.p (t : Int) x w none 0 H
    obtain ⟨s', H', r1, r2, r3, r4⟩ := loop175 f hN t h8 hl x w.toNat (by omega) w.toNat n 0 none H (by omega) h rfl (fun _ e => nomatch e) (Nat.le_refl _) (fun j hj => h.lt hj) ha
    rw [hwn] at r1
    have r1 : D175_5 (n + w.toNat + 1) R.p (t : Int) x w none 0 H = _ := r1
    refine ⟨R, H', ?_, r3, Rm.To.no ((Kp.refl No H).tr' r4)⟩
    simp only [Bool.not_true, cf, ct]
    rw [e, r1, Ab.bs, J175_5_0, f185_x r2.rs (by rw [sees_len]; omega), Ab.bs, hr, ← h.a, load_nf h.tru, load_num R.ars l x w.toNat 0 0 (by omega) ⟨by decide, by decide⟩]
    simp
/-! ### Byte -/
def byteC (c : Co) (x : Int) : Int × Bool := bif decide (findA c.ars x < 0) then (0, false) else (dataAt c.ars x, true)
theorem at_nf (o : Cal) (l : List Ar) : atA o (nfs l) = atA o l := by
  unfold atA
  have hl : (nfs l).length = l.length := by simp [nfs]
  rw [hl, nfs_at]
  cases l[(bif decide (o.inn.tmod (l.length : Int) < 0) then 0 - o.inn.tmod (l.length : Int) else o.inn.tmod (l.length : Int)).toNat]? <;> rfl
/-! ### both -/
structure Par (H : Heap) (L : Nat) (M : Mm) (R : Rm) (c d : Co) : Prop where
  m : M.Is H L c
  r : R.Is H L d
  dj : ∀ i, M.In i → ¬ R.In i
structure Go2 (M : Mm) (R : Rm) (M' : Mm) (R' : Rm) (H H' : Heap) : Prop where
  bm : M'.b = M.b
  br : R'.b = R.b
  k : Kp (fun i => M.In i ∨ R.Inm i) H H'
  im : ∀ i, M'.In i → M.In i ∨ H.length ≤ i
  irm : ∀ i, R'.Inm i → R.Inm i ∨ H.length ≤ i
  ir : ∀ i, R'.In i → R.In i ∨ H.length ≤ i
theorem both {α β : Type} {H : Heap} {L : Nat} {M : Mm} {R : Rm} {c d c' d' : Co} (P : Par H L M R c d) {f : Option (Nat × Nat) → Heap → Option (α × Heap)} {g : Option (Nat × Nat) → Heap → Option (β × Heap)} {v : α} {u : β}
    (hf : ∀ M H, M.Is H L c → ∃ M' H', f M.p H = some (v, H') ∧ Mm.Is M' H' L c' ∧ Mm.To M M' H H') (hg : ∀ R H, R.Is H L d → ∃ R' H', g R.p H = some (u, H') ∧ Rm.Is R' H' L d' ∧ Rm.To R R' H H') :
    ∃ M' R' H1 H', f M.p H = some (v, H1) ∧ g R.p H1 = some (u, H') ∧ Par H' L M' R' c' d' ∧ Go2 M R M' R' H H' := by
  obtain ⟨M', H1, e1, e2, e3⟩ := hf M H P.m
  have r1 := P.r.other e3.k fun i hi hf => P.dj i hf hi
  obtain ⟨R', H', u1, u2, u3⟩ := hg R H1 r1
  have dj1 : ∀ i, M'.In i → ¬ R.In i := fun i a b => by
    rcases e3.ids i a with e | e
    · exact P.dj i e b
    · have := P.r.lt b; omega
  refine ⟨M', R', H1, H', e1, u1, ⟨e2.other u3.k fun i hi hf => dj1 i hi (.inl hf), u2, fun i a b => ?_⟩, ⟨e3.b, u3.b, ?_, e3.ids, fun i hi => ?_, fun i hi => ?_⟩⟩
  · rcases u3.idy i b with e | e
    · exact dj1 i a e
    · have := e2.lt a; omega
  · exact (e3.k.mono (D := fun i => M.In i ∨ R.Inm i) fun i _ hf => .inl hf).trans (u3.k.mono (D := fun i => M.In i ∨ R.Inm i) fun i hi hf => .inr hf) (fun _ h => h) fun _ _ h => h
  · rcases u3.idm i hi with e | e
    · exact .inl e
    · exact .inr (Nat.le_trans e3.k.len e)
  · rcases u3.idy i hi with e | e
    · exact .inl e
    · exact .inr (Nat.le_trans e3.k.len e)
/-! ### a step -/
def stepV (o : Cal) (a : Int) (c d : Co) : Bool :=
  bif o.kind == 0 || o.kind == 1 then (bif (loadC c o.t a o.w).1 == (loadC d o.t a o.w).1 then (loadC c o.t a o.w).2 == (loadC d o.t a o.w).2 else false)
  else bif o.kind == 2 || o.kind == 3 then (storeC c o.t a o.w o.v).1 == (storeC d o.t a o.w o.v).1
  else bif o.kind == 4 then (putC c o.t a o.w o.v).1 == (putC d o.t a o.w o.v).1
  else bif o.kind == 5 then (drainC c o.t).1 == (drainC d o.t).1
  else bif o.kind == 6 then (flushC c o.t).1 == (flushC d o.t).1
  else bif o.kind == 7 then (ownC c o.t o.w).1 == (ownC d o.t o.w).1
  else bif o.kind == 8 then mayA c.ars o.t a o.w (o.v.tmod 2 == 1) == mayA d.ars o.t a o.w (o.v.tmod 2 == 1)
  else bif o.kind == 9 then (bif decide (findA d.ars a < 0) then (bif !(byteC c a).2 then (byteC c a).1 == 0 else false) else bif (byteC c a).2 then (byteC c a).1 == dataAt d.ars a else false)
  else true
theorem bool_eta (b c : Bool) : (b == c) = (b == c) := rfl
theorem step_self (o : Cal) (a : Int) (c : Co) : stepV o a c c = true := by
  unfold stepV byteC
  simp only [beq_self_eq_true]
  cases decide (findA c.ars a < 0) <;> cases o.kind == 0 || o.kind == 1 <;> cases o.kind == 2 || o.kind == 3 <;> cases o.kind == 4 <;> cases o.kind == 5 <;> cases o.kind == 6 <;> cases o.kind == 7 <;> cases o.kind == 8 <;> cases o.kind == 9 <;> simp
end
end Go.Proofs.YtnipccoenalnkaaGreat
