/- Layer 10: memory, of layer 9: what a thread sees, and loads. -/
import Derived.Test.YtnipccoenalnkaaGreatSmE
namespace Go.Proofs.YtnipccoenalnkaaGreat
open Go Go.Proofs.YtnipccoenalnkaaGreat.Ab
set_option linter.unusedVariables false
set_option linter.unusedSimpArgs false
set_option maxRecDepth 100000
noncomputable section
/-- Has a store an address? -/
def Sto.has (s : Sto) (x : Int) : Bool := decide (IntKind.u64.wrap (x - s.at') < IntKind.u64.wrap s.w)
def Sto.byte (s : Sto) (x : Int) : Int := IntKind.u8.wrap (ishr .u64 s.v (IntKind.u64.wrap (8 * IntKind.u64.wrap (x - s.at'))))
/-- The last of the first n stores that has an address. -/
def hitN (l : List Sto) (x : Int) : Nat → Option Sto
  | 0 => none
  | n + 1 => match l[n]? with
    | some s => bif s.has x then some s else hitN l x n
    | none => none
def dataAt (ars : List Ar) (x : Int) : Int :=
  match ars[(findA ars x).toNat]? with
  | some a => match a.data[(IntKind.u64.wrap (x - a.lo)).toNat]? with | some c => (c.toNat : Int) | none => 0
  | none => 0
def seesA (ars : List Ar) (l : List Sto) (x : Int) : Int :=
  match hitN l x l.length with
  | some s => s.byte x
  | none => dataAt ars x
theorem gets3 {H : Heap} {s : Option Sl} {l : List Sto} (h : RS 3 E3 H s l) {i : Nat} {a : Sto} (hi : l[i]? = some a) :
    ∃ sl, s = some sl ∧ (inb (i : Int) sl.len && sl.esz == 3) = true ∧ H.get sl.id (sl.off + ((i : Nat) : Int).toNat * 3) = some (.int .u64 a.at') ∧ H.get sl.id (sl.off + ((i : Nat) : Int).toNat * 3 + 1) = some (.int .i64 a.w) ∧
      H.get sl.id (sl.off + ((i : Nat) : Int).toNat * 3 + 1 + 1) = some (.int .u64 a.v) := by
  obtain ⟨sl, e, h1, h2⟩ := h.idx E3_len hi
  exact ⟨sl, e, h1, by simpa using h2 0 _ rfl, by simpa using h2 1 _ rfl, by simpa using h2 2 _ rfl⟩
theorem caught64 {R : Type} (id off : Nat) (H : Heap) (K : Option Sl → Option R) : caught CC180.P 102 id off H K = (H.get id off).bind fun c => c.toSlice.bind K := by kernel_rfl
theorem D180_0 (t0 : Option (Nat × Nat)) (t5 t6 id off : Nat) (H : Heap) : D180_2 0 t0 t5 t6 id off H = some (.normal, H) := by kernel_rfl
theorem u64_nn (x : Int) : decide (IntKind.u64.wrap x < 0) = false := by
  rw [wrap_u64]
  simp only [decide_eq_false_iff_not]
  have := Int.emod_nonneg x (b := 18446744073709551616) (by decide)
  omega
theorem put1 {H : Heap} {id : Nat} {c d : Cell} (h : H[id]? = some (.row [c] false)) : H.put id 0 [d] = some (H.set id (.row [d] false)) := by
  rw [put_of h (by simp)]; rfl
theorem loop180 (l : List Sto) (r : Option Sl) (x : Int) (t0 : Option (Nat × Nat)) (t5 t6 id : Nat) (c : Cell) (H : Heap) (h1 : H.get id 0 = some (.slice r)) (h2 : RS 3 E3 H r l) (h3 : H.get t5 0 = some (.int .u64 x)) (h4 : H[t6]? = some (.row [c] false)) :
    ∀ n, n ≤ l.length → D180_2 n t0 t5 t6 id 0 H = match hitN l x n with | none => some (.normal, H) | some s => some (.ret, H.set t6 (.row [Cell.int .u8 (s.byte x)] false))
  | 0, _ => D180_0 ..
  | n + 1, hn => by
    have hlt : n < l.length := by omega
    obtain ⟨sl, rfl, g1, c0, c1, c2⟩ := gets3 h2 (List.getElem?_eq_getElem hlt)
    have ih := loop180 l (some sl) x t0 t5 t6 id c H h1 h2 h3 h4 n (by omega)
    rw [D180_2_s]
    simp only [h1, Ab.bs, tSlice, g1, ct, c0, c1, c2, tInt, h3, u64_nn, cf]
    unfold hitN
    rw [List.getElem?_eq_getElem hlt]
    dsimp only
    unfold Sto.has
    cases decide (IntKind.u64.wrap (x - l[n].at') < IntKind.u64.wrap l[n].w)
    · rw [cf, cf]; exact ih
    · rw [ct, ct, put1 h4, Ab.bs]; rfl
theorem inb8 {t : Int} (h : thrd t = true) : inb t 8 = true ∧ ∃ k : Nat, t = (k : Int) ∧ k < 8 := by
  unfold thrd at h
  simp only [Bool.and_eq_true, decide_eq_true_eq] at h
  refine ⟨by simp [inb]; omega, t.toNat, by omega, by omega⟩
/-- What is at an address that is found. -/
theorem data_get {H : Heap} {b L : Nat} {s : Option Sl} {ars : List Ar} {rs : List (Option Sl)} {β : Type} {en : Nat} {eE : β → List Cell} {rows : List (List β)} (h : MRg en eE H b L s ars rs rows) {x : Int} {k : Nat} {a : Ar} (hk : ars[k]? = some a) (hx : a.has x = true) (hn : a.data.length < 18446744073709551616) (hf : findA ars x = (k : Int)) :
    ∃ sl, a.sl = some sl ∧ (inb (IntKind.u64.wrap (x - a.lo)) sl.len && sl.esz == 1) = true ∧ H.get sl.id (sl.off + (IntKind.u64.wrap (x - a.lo)).toNat * 1) = some (.int .u8 (dataAt ars x)) := by
  obtain ⟨i, hi⟩ : ∃ i : Nat, IntKind.u64.wrap (x - a.lo) = (i : Int) := Int.eq_ofNat_of_zero_le (by rw [wrap_u64]; exact Int.emod_nonneg _ (by decide))
  have hd := (h.dt k a hk).rs
  unfold Ar.has at hx
  rw [hd.slenEq, hi] at hx
  have hx := of_decide_eq_true hx
  have e : IntKind.u64.wrap ((a.data.length : Nat) : Int) = ((a.data.length : Nat) : Int) := by rw [wrap_u64]; omega
  rw [e] at hx
  have hlt : i < a.data.length := by omega
  obtain ⟨sl, e1, e2, e3⟩ := hd.idx1 (List.getElem?_eq_getElem hlt) (e := fun c : UInt8 => Cell.int .u8 (c.toNat : Int)) (fun _ => rfl)
  refine ⟨sl, e1, by rw [hi]; exact e2, ?_⟩
  rw [hi, e3]
  unfold dataAt
  have e4 : ars[(findA ars x).toNat]? = some a := by rw [hf]; exact hk
  rw [e4]
  dsimp only
  rw [hi, show ((i : Nat) : Int).toNat = i from rfl, List.getElem?_eq_getElem hlt]
theorem f180_x {H : Heap} {b L : Nat} {s : Option Sl} {ars : List Ar} {rs : List (Option Sl)} {rows : List (List Sto)} (h : MR H b L s ars rs rows) (hn : ars.length ≤ 1000) (hd : ∀ a, a ∈ ars → a.data.length ≤ 1048576) (t x : Int) (ht : thrd t = true) {l : List Sto} (hl : rows[t.toNat]? = some l) (hll : l.length < 9223372036854775807)
    {k : Nat} {a : Ar} (hk : ars[k]? = some a) (hx : a.has x = true) (hf : findA ars x = (k : Int)) : Says (f180 (some (b, 0)) t x H) H (seesA ars l x) := by
  obtain ⟨i8, t, rfl, ht8⟩ := inb8 ht
  have hl : rows[t]? = some l := hl
  have hlr : t < rs.length := by rw [h.rl]; exact ht8
  have hr := List.getElem?_eq_getElem hlr
  rw [q180]
  simp only [Ab.bs, i8, ct]
  have kX := Kp.push1 H (Blk.row [Cell.int .u64 x] false)
  generalize hX : H ++ [Blk.row [Cell.int .u64 x] false] = X at *
  have kY := Kp.push1 X (Blk.row [Cell.int .u8 0] false)
  have bX : X[H.length]? = some (.row [Cell.int .u64 x] false) := by rw [← hX]; exact push_get _ _
  have lX : H.length ≤ X.length := kX.len
  generalize hY : X ++ [Blk.row [Cell.int .u8 0] false] = Y at *
  have bY : Y[X.length]? = some (.row [Cell.int .u8 0] false) := by rw [← hY]; exact push_get _ _
  have mY := (h.no kX).no kY
  have g0 : Y.get b (0 + 1 + ((t : Nat) : Int).toNat * 1) = some (.slice rs[t]) := by
    rw [get_of mY.hd, show 0 + 1 + ((t : Nat) : Int).toNat * 1 = t + 1 by omega, List.getElem?_cons_succ, List.getElem?_map, hr]
    rfl
  rw [g0, Ab.bs, tSlice, Ab.bs]
  have kZ := Kp.push1 Y (Blk.row [Cell.slice rs[t]] false)
  have bZ : (Y ++ [Blk.row [Cell.slice rs[t]] false])[Y.length]? = some (.row [Cell.slice rs[t]] false) := push_get _ _
  generalize hZ : Y ++ [Blk.row [Cell.slice rs[t]] false] = Z at *
  have mZ := mY.no kZ
  have bZ0 := kZ.bk (kY.bk bX)
  have bZ1 := kZ.bk bY
  have kHZ : Kp No H Z := (kX.tr kY).tr kZ
  have q1 : Z.get Y.length 0 = some (.slice rs[t]) := by rw [get_of bZ]; rfl
  have q2 : Z.get H.length 0 = some (.int .u64 x) := by rw [get_of bZ0]; rfl
  have hrow := (mZ.ro t _ l hr hl).rs
  rw [LL180_2_r, caught64, q1, Ab.bs, tSlice, Ab.bs]
  have hsl : slen rs[t] = (l.length : Int) := hrow.slenEq
  rw [hsl, show decide (((l.length : Nat) : Int) ≤ 9223372036854775807) = true by simp; omega, ct, show (((l.length : Nat) : Int)).toNat = l.length from rfl,
    loop180 l rs[t] x (some (b, 0)) H.length X.length Y.length (Cell.int .u8 0) Z q1 hrow q2 bZ1 l.length (Nat.le_refl _)]
  unfold seesA
  cases hitN l x l.length with
  | some st =>
    dsimp only
    rw [Ab.bs, Ab.bs, XR180_2_x, J180_2_1]
    have bb : (Z.set X.length (.row [Cell.int .u8 (st.byte x)] false))[X.length]? = some (.row [Cell.int .u8 (st.byte x)] false) := set_get' (lt_of bZ1)
    rw [get_of bb]
    refine ⟨_, by rw [show ([Cell.int .u8 (st.byte x)] : List Cell)[0]? = some (Cell.int .u8 (st.byte x)) from rfl, Ab.bs, tInt, Ab.bs], ?_⟩
    exact kHZ.trSet (Kp.set _ _ _) lX
  | none =>
    dsimp only
    rw [Ab.bs, Ab.bs, XR180_2_x, J180_2_0]
    have rdZ := mZ.rd (by omega)
    obtain ⟨H', e1, e2⟩ := f138_x (b, 0) ars x Z rdZ
    have gs : Z.get b (0 + 0) = some (.slice s) := by rw [get_of mZ.hd]; rfl
    have mH := mZ.no e2
    obtain ⟨sl, rfl, g1, c0, c1, c2, c3, c4⟩ := gets5 mH.ar.rs hk
    obtain ⟨sd, d1, d2, d3⟩ := data_get mH hk hx (by have := hd a (List.mem_of_getElem? hk); omega) hf
    have q3 : H'.get H.length 0 = some (.int .u64 x) := e2.gt q2
    have bH := e2.bk bZ1
    have sm : same b Z H' = true := e2.same1 (lt_of mZ.hd)
    simp only [Ab.bs, gs, tSlice, q2, tInt, e1, sm, ct, hf, g1, c0, c1, c2, c3, c4, tBool, q3, d1, d2, d3, put1 bH]
    have bb : (H'.set X.length (.row [Cell.int .u8 (dataAt ars x)] false))[X.length]? = some (.row [Cell.int .u8 (dataAt ars x)] false) := set_get' (lt_of bH)
    rw [get_of bb]
    refine ⟨_, by rw [show ([Cell.int .u8 (dataAt ars x)] : List Cell)[0]? = some (Cell.int .u8 (dataAt ars x)) from rfl, Ab.bs, tInt, Ab.bs], ?_⟩
    exact (kHZ.tr e2).trSet (Kp.set _ _ _) lX
/-- What is loaded. -/
def loadN (ars : List Ar) (l : List Sto) (x : Int) : Nat → Nat → Int → Int
  | _, 0, v => v
  | i, n + 1, v => loadN ars l x (i + 1) n (bor .u64 v (ishl .u64 (IntKind.u64.wrap (seesA ars l (IntKind.u64.wrap (x + (i : Int))))) (IntKind.u64.wrap (8 * (i : Int)))))
theorem there_find {ars : List Ar} {t x : Int} {w : Bool} (h : thereA ars t x w = true) : ∃ (k : Nat) (a : Ar), ars[k]? = some a ∧ a.has x = true ∧ findA ars x = (k : Int) := by
  rcases findA_cases ars x with e | e
  · unfold thereA at h
    rw [e] at h
    cases hq : ars[(-1 : Int).toNat]? with
    | none => rw [hq] at h; cases h
    | some a => rw [hq] at h; simp at h
  · exact e
theorem loop164 {b L : Nat} {s : Option Sl} {ars : List Ar} {rs : List (Option Sl)} {rows : List (List Sto)} (hn : ars.length ≤ 1000) (hd : ∀ a, a ∈ ars → a.data.length ≤ 1048576) (t x : Int) (ht : thrd t = true) {l : List Sto} (hl : rows[t.toNat]? = some l) (hll : l.length < 9223372036854775807) (N : Nat) (hN : N ≤ 8) :
    ∀ (m n i : Nat) (v : Int) (H : Heap), MR H b L s ars rs rows → i + m = N → allThere ars t x false i m = true →
      Says ((D164_5 (n + m + 1) (some (b, 0)) t x v (N : Int) (i : Int) H).bind J164_5) H (loadN ars l x i m v, true)
  | 0, n, i, v, H, h, hm, ha => by
    have g : decide ((i : Int) < (N : Int)) = false := by simp; omega
    rw [D164_5_s, g, cf, Ab.bs, J164_5_0]
    exact says_ret rfl
  | m + 1, n, i, v, H, h, hm, ha => by
    have g : decide ((i : Int) < (N : Int)) = true := by simp; omega
    unfold allThere at ha
    simp only [Bool.and_eq_true] at ha
    obtain ⟨k, a, f1, f2, f3⟩ := there_find ha.1
    obtain ⟨H', e, kk⟩ := f180_x h hn hd t _ ht hl hll f1 f2 f3
    rw [show n + (m + 1) + 1 = (n + m + 1) + 1 by omega, D164_5_s, g, ct, e, Ab.bs]
    simp only [u64_nn, cf, u64_succ i (by omega)]
    exact says_kp kk (loop164 hn hd t x ht hl hll N hN m n (i + 1) _ H' (h.no kk) (by omega) ha.2)
theorem f164_yes {H : Heap} {b L : Nat} {s : Option Sl} {ars : List Ar} {rs : List (Option Sl)} {rows : List (List Sto)} (h : MR H b L s ars rs rows) (hn : ars.length ≤ 1000) (hd : ∀ a, a ∈ ars → a.data.length ≤ 1048576) (t x w : Int) {l : List Sto} (hl : rows[t.toNat]? = some l) (hll : l.length < 9223372036854775807)
    (hm : mayA ars t x w false = true) : Says (f164 (some (b, 0)) t x w H) H (loadN ars l x 0 w.toNat 0, true) := by
  rw [q164]
  refine says_bind (f59_x (b, 0) ars t x w false H (h.rd (by omega))) fun H' k => ?_
  rw [hm]
  simp only [Bool.not_true, cf]
  unfold mayA at hm
  simp only [Bool.and_eq_true] at hm
  obtain ⟨ht, hw, _, ha⟩ := hm
  have hw := isW8_w hw
  have e1 : IntKind.u64.wrap w = ((w.toNat : Nat) : Int) := by rw [wrap_u64]; omega
  obtain ⟨n, e⟩ := LL164_5_of w.toNat (by omega) (some (b, 0)) t x 0 (IntKind.u64.wrap w) 0 H'
  rw [e, e1]
  exact loop164 hn hd t x ht hl hll w.toNat (by omega) w.toNat n 0 0 H' (h.no k) (by omega) ha
end
end Go.Proofs.YtnipccoenalnkaaGreat
