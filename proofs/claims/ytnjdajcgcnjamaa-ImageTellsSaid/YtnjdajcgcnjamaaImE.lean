/- Layer 4: files: what may be, their parts, copies. -/
import Derived.Test.YtnjdajcgcnjamaaIm2
import Derived.Test.YtnjdajcgcnjamaaImC
namespace Go.Proofs.Ytnjdajcgcnjamaa
open Go Go.Proofs.Ytnjdajcgcnjamaa.Ab
set_option linter.unusedVariables false
set_option linter.unusedSimpArgs false
set_option maxRecDepth 100000
noncomputable section
theorem i64_succ (i : Nat) (h : i < 9223372036854775807) : IntKind.i64.wrap ((i : Int) + 1) = ((i + 1 : Nat) : Int) := by
  rw [wrap_i64 (by omega) (by omega)]; rfl
theorem rs_new {α : Type} {n : Nat} {E : α → List Cell} {H : Heap} {id k : Nat} (l : List α) {ro : Bool} (h : H[id]? = some (.row (l.flatMap E) ro)) (hl : k = l.length) : RS n E H (some ⟨id, 0, k, k, n⟩) l := by
  subst hl
  exact ⟨rfl, rfl, Nat.le_refl _, fun i c e => by rw [get_of h]; simpa using e⟩
/-- Numbers, from a new row. -/
structure FS where
  M : Int
  E : Int
  sg : Option Sl
  sy : Option Sl
  rl : Option Sl
structure Sg where
  kind : Int
  flags : Int
  addr : Int
  size : Int
  sl : Option Sl
  data : List UInt8
def ESg (s : Sg) : List Cell := [.int .i64 s.kind, .int .i64 s.flags, .int .u64 s.addr, .int .u64 s.size, .slice s.sl]
theorem ESg_len (s : Sg) : (ESg s).length = 5 := rfl
structure Sy where
  name : ByteArray
  kind : Int
  addr : Int
  size : Int
def ESy (s : Sy) : List Cell := [.str s.name, .int .i64 s.kind, .int .u64 s.addr, .int .u64 s.size]
theorem ESy_len (s : Sy) : (ESy s).length = 4 := rfl
structure Rl where
  at' : Int
  sym : Int
  add : Int
def ERl (r : Rl) : List Cell := [.int .u64 r.at', .int .i64 r.sym, .int .i64 r.add]
theorem ERl_len (r : Rl) : (ERl r).length = 3 := rfl
def u64r (n : Int) : Prop := 0 ≤ n ∧ n < 18446744073709551616
theorem getsSg {H : Heap} {s : Option Sl} {l : List Sg} (h : RS 5 ESg H s l) {i : Nat} {e : Sg} (hi : l[i]? = some e) :
    ∃ sl, s = some sl ∧ (inb (i : Int) sl.len && sl.esz == 5) = true ∧ H.get sl.id (sl.off + ((i : Nat) : Int).toNat * 5) = some (.int .i64 e.kind) ∧ H.get sl.id (sl.off + ((i : Nat) : Int).toNat * 5 + 1) = some (.int .i64 e.flags) ∧
      H.get sl.id (sl.off + ((i : Nat) : Int).toNat * 5 + 1 + 1) = some (.int .u64 e.addr) ∧ H.get sl.id (sl.off + ((i : Nat) : Int).toNat * 5 + 1 + 1 + 1) = some (.int .u64 e.size) ∧ H.get sl.id (sl.off + ((i : Nat) : Int).toNat * 5 + 1 + 1 + 1 + 1) = some (.slice e.sl) := by
  obtain ⟨sl, e, h1, h2⟩ := h.idx ESg_len hi
  exact ⟨sl, e, h1, by simpa using h2 0 _ rfl, by simpa using h2 1 _ rfl, by simpa using h2 2 _ rfl, by simpa using h2 3 _ rfl, by simpa using h2 4 _ rfl⟩
theorem getsSy {H : Heap} {s : Option Sl} {l : List Sy} (h : RS 4 ESy H s l) {i : Nat} {e : Sy} (hi : l[i]? = some e) :
    ∃ sl, s = some sl ∧ (inb (i : Int) sl.len && sl.esz == 4) = true ∧ H.get sl.id (sl.off + ((i : Nat) : Int).toNat * 4) = some (.str e.name) ∧ H.get sl.id (sl.off + ((i : Nat) : Int).toNat * 4 + 1) = some (.int .i64 e.kind) ∧
      H.get sl.id (sl.off + ((i : Nat) : Int).toNat * 4 + 1 + 1) = some (.int .u64 e.addr) ∧ H.get sl.id (sl.off + ((i : Nat) : Int).toNat * 4 + 1 + 1 + 1) = some (.int .u64 e.size) := by
  obtain ⟨sl, e, h1, h2⟩ := h.idx ESy_len hi
  exact ⟨sl, e, h1, by simpa using h2 0 _ rfl, by simpa using h2 1 _ rfl, by simpa using h2 2 _ rfl, by simpa using h2 3 _ rfl⟩
theorem getsRl {H : Heap} {s : Option Sl} {l : List Rl} (h : RS 3 ERl H s l) {i : Nat} {e : Rl} (hi : l[i]? = some e) :
    ∃ sl, s = some sl ∧ (inb (i : Int) sl.len && sl.esz == 3) = true ∧ H.get sl.id (sl.off + ((i : Nat) : Int).toNat * 3) = some (.int .u64 e.at') ∧ H.get sl.id (sl.off + ((i : Nat) : Int).toNat * 3 + 1) = some (.int .i64 e.sym) ∧
      H.get sl.id (sl.off + ((i : Nat) : Int).toNat * 3 + 1 + 1) = some (.int .i64 e.add) := by
  obtain ⟨sl, e, h1, h2⟩ := h.idx ERl_len hi
  exact ⟨sl, e, h1, by simpa using h2 0 _ rfl, by simpa using h2 1 _ rfl, by simpa using h2 2 _ rfl⟩
def sgMay (s : Sg) : Bool := (s.kind == 1 || s.kind == 1610612737) && (!decide (s.flags < 0) && (!decide (s.flags > 7) && (!decide (s.size > 4294967296) && (!decide (s.addr > 9223372036854775808) && (decide (IntKind.u64.wrap (s.data.length : Int) ≤ s.size) && (s.kind == 1 || ((s.data.length : Int) == 0)))))))
def syMay (s : Sy) : Bool := decide ((s.name.size : Int) ≤ 32) && (decide (strings_IndexByte s.name 0 < 0) && (decide (s.kind ≥ 0) && decide (s.kind ≤ 2)))
def rlMay (n : Nat) (r : Rl) : Bool := !decide (r.sym < 0) && !decide (r.sym ≥ (n : Int))
theorem f46_x (s : Sg) (H : Heap) (h : slen s.sl = (s.data.length : Int)) : f46 s.kind s.flags s.addr s.size s.sl H = some (sgMay s, H) := by
  rw [q46, h]; unfold sgMay bne
  cases s.kind == 1 <;> cases s.kind == 1610612737 <;> cases decide (s.flags < 0) <;> cases decide (s.flags > 7) <;> cases decide (s.size > 4294967296) <;> cases decide (s.addr > 9223372036854775808) <;> cases decide (IntKind.u64.wrap (s.data.length : Int) ≤ s.size) <;> rfl
theorem loop57 {H : Heap} {t : Option Sl} {l : List Sg} (hR : RS 5 ESg H t l) (hl : l.length < 1000) (hs : ∀ s ∈ l, slen s.sl = (s.data.length : Int)) : ∀ (m n i : Nat), i + m = l.length →
    ((l.drop i).all sgMay = true → (D57a_2 (n + m + 1) t (l.length : Int) (i : Int) H).bind J57a_2 = some (-1, H)) ∧ ((l.drop i).all sgMay = false → ∃ k : Nat, (D57a_2 (n + m + 1) t (l.length : Int) (i : Int) H).bind J57a_2 = some ((k : Int), H))
  | 0, n, i, hm => by
    have g : decide ((i : Int) < (l.length : Int)) = false := by simp; omega
    rw [List.drop_eq_nil_of_le (by omega), D57a_2_s, g, cf, Ab.bs, J57a_2_1]
    exact ⟨fun _ => rfl, fun h => by cases h⟩
  | m + 1, n, i, hm => by
    have g : decide ((i : Int) < (l.length : Int)) = true := by simp; omega
    have hi : i < l.length := by omega
    obtain ⟨sl, e0, g1, c0, c1, c2, c3, c4⟩ := getsSg hR (List.getElem?_eq_getElem hi)
    have ih := loop57 hR hl hs m n (i + 1) (by omega)
    have h31 : f45 l[i].kind l[i].flags l[i].addr l[i].size l[i].sl H = some (!sgMay l[i], H) := by
      rw [q45, f46_x _ _ (hs _ (List.getElem_mem hi)), Ab.bs]
    rw [show n + (m + 1) + 1 = (n + m + 1) + 1 by omega, D57a_2_s, g, ct, List.drop_eq_getElem_cons hi, List.all_cons]
    rw [show t.bind = (some sl).bind (β := AExit × St) by rw [e0]]
    simp only [Ab.bs, g1, ct, c0, c1, c2, c3, c4, tInt, tSlice, h31, i64_succ i (by omega)]
    cases sgMay l[i] with
    | true => simpa only [Bool.not_true, cf, Bool.true_and] using ih
    | false =>
      simp only [Bool.not_false, ct, Ab.bs, J57a_2_0, Bool.false_and]
      exact ⟨fun h => (by cases h), fun _ => ⟨i, rfl⟩⟩
theorem f44_x {H : Heap} {t : Option Sl} {l : List Sg} (hR : RS 5 ESg H t l) (hl : l.length < 1000) (hs : ∀ s ∈ l, slen s.sl = (s.data.length : Int)) : f44a t H = some (!l.all sgMay, H) := by
  obtain ⟨n, e⟩ := LL57a_2_of l.length (by omega) t (l.length : Int) 0 H
  have h := loop57 hR hl hs l.length n 0 (by omega)
  rw [List.drop_zero] at h
  rw [q44a, q57a, hR.slenEq, e]
  cases ha : l.all sgMay with
  | true =>
    have := h.1 ha
    rw [show (0 : Int) = ((0 : Nat) : Int) from rfl, this]; rfl
  | false =>
    obtain ⟨k, hk⟩ := h.2 ha
    rw [show (0 : Int) = ((0 : Nat) : Int) from rfl, hk, Ab.bs]
    have : decide ((k : Int) ≥ 0) = true := by simp
    simp only [this]; rfl
theorem f49_x (s : Sy) (H : Heap) : f49 s.name s.kind s.addr s.size H = some (syMay s, H) := by
  rw [q49]; unfold syMay
  cases decide ((s.name.size : Int) ≤ 32) <;> cases decide (strings_IndexByte s.name 0 < 0) <;> cases decide (s.kind ≥ 0) <;> rfl
theorem loop68 {H : Heap} {t : Option Sl} {l : List Sy} (hR : RS 4 ESy H t l) (hl : l.length < 1000) : ∀ (m n i : Nat), i + m = l.length →
    ((l.drop i).all syMay = true → (D68a_2 (n + m + 1) t (l.length : Int) (i : Int) H).bind J68a_2 = some (-1, H)) ∧ ((l.drop i).all syMay = false → ∃ k : Nat, (D68a_2 (n + m + 1) t (l.length : Int) (i : Int) H).bind J68a_2 = some ((k : Int), H))
  | 0, n, i, hm => by
    have g : decide ((i : Int) < (l.length : Int)) = false := by simp; omega
    rw [List.drop_eq_nil_of_le (by omega), D68a_2_s, g, cf, Ab.bs, J68a_2_1]
    exact ⟨fun _ => rfl, fun h => by cases h⟩
  | m + 1, n, i, hm => by
    have g : decide ((i : Int) < (l.length : Int)) = true := by simp; omega
    have hi : i < l.length := by omega
    obtain ⟨sl, e0, g1, c0, c1, c2, c3⟩ := getsSy hR (List.getElem?_eq_getElem hi)
    have ih := loop68 hR hl m n (i + 1) (by omega)
    have h34 : f48 l[i].name l[i].kind l[i].addr l[i].size H = some (!syMay l[i], H) := by
      rw [q48, f49_x, Ab.bs]
    rw [show n + (m + 1) + 1 = (n + m + 1) + 1 by omega, D68a_2_s, g, ct, List.drop_eq_getElem_cons hi, List.all_cons]
    rw [show t.bind = (some sl).bind (β := AExit × St) by rw [e0]]
    simp only [Ab.bs, g1, ct, c0, c1, c2, c3, tInt, tStr, h34, i64_succ i (by omega)]
    cases syMay l[i] with
    | true => simpa only [Bool.not_true, cf, Bool.true_and] using ih
    | false =>
      simp only [Bool.not_false, ct, Ab.bs, J68a_2_0, Bool.false_and]
      exact ⟨fun h => (by cases h), fun _ => ⟨i, rfl⟩⟩
theorem f47_x {H : Heap} {t : Option Sl} {l : List Sy} (hR : RS 4 ESy H t l) (hl : l.length < 1000) : f47a t H = some (!l.all syMay, H) := by
  obtain ⟨n, e⟩ := LL68a_2_of l.length (by omega) t (l.length : Int) 0 H
  have h := loop68 hR hl l.length n 0 (by omega)
  rw [List.drop_zero] at h
  rw [q47a, q68a, hR.slenEq, e]
  cases ha : l.all syMay with
  | true =>
    have := h.1 ha
    rw [show (0 : Int) = ((0 : Nat) : Int) from rfl, this]; rfl
  | false =>
    obtain ⟨k, hk⟩ := h.2 ha
    rw [show (0 : Int) = ((0 : Nat) : Int) from rfl, hk, Ab.bs]
    have : decide ((k : Int) ≥ 0) = true := by simp
    simp only [this]; rfl
theorem f51_x (r : Rl) (c : Nat) (H : Heap) (s : Option Sl) (n : Nat) (hc : H.get c 3 = some (.slice s)) (hn : slen s = (n : Int)) : f51 r.at' r.sym r.add (some (c, 0)) H = some (!rlMay n r, H) := by
  rw [q51]; unfold rlMay
  simp only [Ab.bs, za, hc, tSlice, hn]
  cases decide (r.sym < 0) <;> cases decide (r.sym ≥ (n : Int)) <;> rfl
theorem loop70 {H : Heap} {t : Option Sl} {l : List Rl} (hR : RS 3 ERl H t l) (hl : l.length < 1000) (c : Nat) (s : Option Sl) (ns : Nat) (hc : H.get c 3 = some (.slice s)) (hn : slen s = (ns : Int)) : ∀ (m n i : Nat), i + m = l.length →
    ((l.drop i).all (rlMay ns) = true → (D70a_2 (n + m + 1) t (some (c, 0)) (l.length : Int) (i : Int) H).bind J70a_2 = some (-1, H)) ∧ ((l.drop i).all (rlMay ns) = false → ∃ k : Nat, (D70a_2 (n + m + 1) t (some (c, 0)) (l.length : Int) (i : Int) H).bind J70a_2 = some ((k : Int), H))
  | 0, n, i, hm => by
    have g : decide ((i : Int) < (l.length : Int)) = false := by simp; omega
    rw [List.drop_eq_nil_of_le (by omega), D70a_2_s, g, cf, Ab.bs, J70a_2_1]
    exact ⟨fun _ => rfl, fun h => by cases h⟩
  | m + 1, n, i, hm => by
    have g : decide ((i : Int) < (l.length : Int)) = true := by simp; omega
    have hi : i < l.length := by omega
    obtain ⟨sl, e0, g1, c0, c1, c2⟩ := getsRl hR (List.getElem?_eq_getElem hi)
    have ih := loop70 hR hl c s ns hc hn m n (i + 1) (by omega)
    rw [show n + (m + 1) + 1 = (n + m + 1) + 1 by omega, D70a_2_s, g, ct, List.drop_eq_getElem_cons hi, List.all_cons]
    rw [show t.bind = (some sl).bind (β := AExit × St) by rw [e0]]
    simp only [Ab.bs, g1, ct, c0, c1, c2, tInt, f51_x _ c H s ns hc hn, i64_succ i (by omega)]
    cases rlMay ns l[i] with
    | true => simpa only [Bool.not_true, cf, Bool.true_and] using ih
    | false =>
      simp only [Bool.not_false, ct, Ab.bs, J70a_2_0, Bool.false_and]
      exact ⟨fun h => (by cases h), fun _ => ⟨i, rfl⟩⟩
theorem f50_x {H : Heap} {t : Option Sl} {l : List Rl} (hR : RS 3 ERl H t l) (hl : l.length < 1000) (c : Nat) (s : Option Sl) (ns : Nat) (hc : H.get c 3 = some (.slice s)) (hn : slen s = (ns : Int)) : f50a t (some (c, 0)) H = some (!l.all (rlMay ns), H) := by
  obtain ⟨n, e⟩ := LL70a_2_of l.length (by omega) t (some (c, 0)) (l.length : Int) 0 H
  have h := loop70 hR hl c s ns hc hn l.length n 0 (by omega)
  rw [List.drop_zero] at h
  rw [q50a, q70a, hR.slenEq, e]
  cases ha : l.all (rlMay ns) with
  | true =>
    have := h.1 ha
    rw [show (0 : Int) = ((0 : Nat) : Int) from rfl, this]; rfl
  | false =>
    obtain ⟨k, hk⟩ := h.2 ha
    rw [show (0 : Int) = ((0 : Nat) : Int) from rfl, hk, Ab.bs]
    have : decide ((k : Int) ≥ 0) = true := by simp
    simp only [this]; rfl
/-- A file, and how it lies. -/
structure Fl where
  M : Int
  E : Int
  sg : List Sg
  sy : List Sy
  rl : List Rl
structure FR (H : Heap) (s : FS) (f : Fl) : Prop where
  m : s.M = f.M
  e : s.E = f.E
  sg : RS 5 ESg H s.sg f.sg
  sy : RS 4 ESy H s.sy f.sy
  rl : RS 3 ERl H s.rl f.rl
  sd : ∀ x ∈ f.sg, RS 1 E8 H x.sl x.data
theorem FR.no {H H' : Heap} {s : FS} {f : Fl} (h : FR H s f) (k : Kp No H H') : FR H' s f := ⟨h.m, h.e, h.sg.no k, h.sy.no k, h.rl.no k, fun x hx => (h.sd x hx).no k⟩
def mayF (f : Fl) : Bool := (f.M == 62 || f.M == 183) && (decide (f.sg.length ≤ 24) && (decide (f.sy.length ≤ 64) && (decide (f.rl.length ≤ 64) && (f.sg.all sgMay && (f.sy.all syMay && f.rl.all (rlMay f.sy.length))))))
theorem f22_x {H : Heap} {s : FS} {f : Fl} (h : FR H s f) : Says (f22 s.M s.E s.sg s.sy s.rl H) H (mayF f) := by
  rw [q22]
  have kP : Kp No H (H ++ [Blk.row [Cell.int IntKind.i64 s.M, Cell.int IntKind.u64 s.E, Cell.slice s.sg, Cell.slice s.sy, Cell.slice s.rl] false]) := Kp.push1 _ _
  have h1 := h.no kP
  have hb : (H ++ [Blk.row [Cell.int IntKind.i64 s.M, Cell.int IntKind.u64 s.E, Cell.slice s.sg, Cell.slice s.sy, Cell.slice s.rl] false])[H.length]? = _ := push_get _ _
  generalize H ++ [Blk.row [Cell.int IntKind.i64 s.M, Cell.int IntKind.u64 s.E, Cell.slice s.sg, Cell.slice s.sy, Cell.slice s.rl] false] = G at h1 hb kP
  have g0 : G.get H.length 0 = some (.int .i64 s.M) := by rw [get_of hb]; rfl
  have g2 : G.get H.length 2 = some (.slice s.sg) := by rw [get_of hb]; rfl
  have g3 : G.get H.length 3 = some (.slice s.sy) := by rw [get_of hb]; rfl
  have g4 : G.get H.length 4 = some (.slice s.rl) := by rw [get_of hb]; rfl
  refine says_kp kP ?_
  unfold mayF
  rw [← h.m]
  simp only [Ab.bs, g0, g2, g3, g4, tInt, tSlice, h.sg.slenEq, h.sy.slenEq, h.rl.slenEq, bne]
  by_cases l1 : f.sg.length ≤ 24
  · rw [show decide ((f.sg.length : Int) > 24) = false by simp; omega, show decide (f.sg.length ≤ 24) = true by simp [l1]]
    by_cases l2 : f.sy.length ≤ 64
    · rw [show decide ((f.sy.length : Int) > 64) = false by simp; omega, show decide (f.sy.length ≤ 64) = true by simp [l2]]
      by_cases l3 : f.rl.length ≤ 64
      · rw [show decide ((f.rl.length : Int) > 64) = false by simp; omega, show decide (f.rl.length ≤ 64) = true by simp [l3]]
        simp only [cf, f44_x h1.sg (by omega) (fun x hx => (h1.sd x hx).slenEq), f47_x h1.sy (by omega), f50_x h1.rl (by omega) H.length s.sy f.sy.length g3 h.sy.slenEq, Ab.bs, g3, g4, tSlice]
        cases s.M == 62 <;> cases s.M == 183 <;> cases f.sg.all sgMay <;> cases f.sy.all syMay <;> cases f.rl.all (rlMay f.sy.length) <;> exact says_ret rfl
      · rw [show decide ((f.rl.length : Int) > 64) = true by simp; omega, show decide (f.rl.length ≤ 64) = false by simp [l3]]
        cases s.M == 62 <;> cases s.M == 183 <;> exact says_ret rfl
    · rw [show decide ((f.sy.length : Int) > 64) = true by simp; omega, show decide (f.sy.length ≤ 64) = false by simp [l2]]
      cases s.M == 62 <;> cases s.M == 183 <;> exact says_ret rfl
  · rw [show decide ((f.sg.length : Int) > 24) = true by simp; omega, show decide (f.sg.length ≤ 24) = false by simp [l1]]
    cases s.M == 62 <;> cases s.M == 183 <;> exact says_ret rfl
structure SgOk (s : Sg) : Prop where
  k : 0 ≤ s.kind ∧ s.kind < 4294967296
  f : 0 ≤ s.flags ∧ s.flags ≤ 7
  a : u64r s.addr
  n : u64r s.size
structure SyOk (s : Sy) : Prop where
  n : s.name.size ≤ 32
  z : fi s.name.data.toList = none
  k : 0 ≤ s.kind ∧ s.kind ≤ 2
  a : u64r s.addr
  s : u64r s.size
structure RlOk (r : Rl) (n : Nat) : Prop where
  a : u64r r.at'
  s : 0 ≤ r.sym ∧ r.sym < (n : Int)
structure FOk (f : Fl) : Prop where
  e : u64r f.E
  sg : ∀ s ∈ f.sg, u64r s.addr ∧ u64r s.size
  sy : ∀ s ∈ f.sy, u64r s.addr ∧ u64r s.size
  rl : ∀ r ∈ f.rl, u64r r.at'
theorem fi_of {s : Sy} (h : decide (strings_IndexByte s.name 0 < 0) = true) : fi s.name.data.toList = none := by
  have := ixs_ge s.name
  cases hf : fi s.name.data.toList with
  | none => rfl
  | some i =>
    rw [hf] at this
    simp at this h
    omega
theorem may_ok {f : Fl} (h : mayF f = true) (hf : FOk f) : (f.M = 62 ∨ f.M = 183) ∧ f.sg.length ≤ 24 ∧ f.sy.length ≤ 64 ∧ f.rl.length ≤ 64 ∧ (∀ s ∈ f.sg, SgOk s) ∧ (∀ s ∈ f.sy, SyOk s) ∧ (∀ r ∈ f.rl, RlOk r f.sy.length) := by
  unfold mayF at h
  simp only [Bool.and_eq_true, Bool.or_eq_true, beq_iff_eq, decide_eq_true_eq, List.all_eq_true] at h
  obtain ⟨h1, h2, h3, h4, h5, h6, h7⟩ := h
  refine ⟨h1, h2, h3, h4, fun s hs => ?_, fun s hs => ?_, fun r hr => ?_⟩
  · have := h5 s hs
    unfold sgMay at this
    simp only [Bool.and_eq_true, Bool.or_eq_true, beq_iff_eq, Bool.not_eq_true', decide_eq_false_iff_not, decide_eq_true_eq] at this
    obtain ⟨a1, a2, a3, _⟩ := this
    exact ⟨by omega, by omega, (hf.sg s hs).1, (hf.sg s hs).2⟩
  · have := h6 s hs
    unfold syMay at this
    rw [Bool.and_eq_true, Bool.and_eq_true, Bool.and_eq_true] at this
    obtain ⟨a1, a2, a3, a4⟩ := this
    simp only [decide_eq_true_eq] at a1 a3 a4
    exact ⟨by omega, fi_of a2, ⟨by omega, by omega⟩, (hf.sy s hs).1, (hf.sy s hs).2⟩
  · have := h7 r hr
    unfold rlMay at this
    simp only [Bool.and_eq_true, Bool.not_eq_true', decide_eq_false_iff_not] at this
    exact ⟨hf.rl r hr, by omega⟩
def i64r (n : Int) : Prop := -9223372036854775808 ≤ n ∧ n < 9223372036854775808
theorem grow {α : Type} {n by' : Nat} {Ec : α → List Cell} (hE : ∀ x, (Ec x).length = n) (hn : 0 < n) {H0 H : Heap} (k : Kp No H0 H) (t : Option Sl) (l : List α) (ho : OS n Ec H t l) (hnw : New H0.length t) (x : α) (hb : (l.length + 1) * by' ≤ most) :
    ∃ t' H2, (H ++ [Blk.row (Ec x) false]).append n by' t (some ⟨H.length, 0, 1, 1, n⟩) = some (t', H2) ∧ Kp No H0 H2 ∧ OS n Ec H2 t' (l ++ [x]) ∧ New H0.length t' := by
  have kP : Kp No H (H ++ [Blk.row (Ec x) false]) := Kp.push1 _ _
  have xr : RS n Ec (H ++ [Blk.row (Ec x) false]) (some ⟨H.length, 0, 1, 1, n⟩) [x] := rs_new [x] (ro := false) (by rw [push_get]; simp) rfl
  obtain ⟨t', H2, a1, a2, a3, a4⟩ := append_OS hE hn (by' := by') (ho.no kP) xr (by simpa using hb)
  refine ⟨t', H2, a1, (k.tr kP).trans a3 (fun _ h => h) fun i hi ⟨q, e5, e6⟩ => by have := hnw q e5; omega, a2, fun q e => ?_⟩
  rcases a4 q e with ⟨q', e1, e2⟩ | h
  · have := hnw q' e1; omega
  · have := k.len; have := kP.len; omega
/-! a file cut -/
def cutSg (s : Sg) : Sg := bif decide (s.data.length > 60) then { s with sl := (Sl.sub s.sl 0 (some 60)).getD none, data := s.data.take 60 } else s
def cutSy (s : Sy) : Sy := bif decide (s.name.size > 40) then { s with name := s.name.extract 0 40 } else s
def cutF (f : Fl) : Fl := ⟨f.M, f.E, (f.sg.take 26).map cutSg, (f.sy.take 66).map cutSy, f.rl.take 66⟩
theorem cutSg_rs {H : Heap} {s : Sg} (h : RS 1 E8 H s.sl s.data) : RS 1 E8 H (cutSg s).sl (cutSg s).data := by
  unfold cutSg
  cases hd : decide (s.data.length > 60) with
  | false => exact h
  | true =>
    obtain ⟨s', e1, e2, _⟩ := h.sub0 E8_len 60 (by simp at hd; omega)
    have e1' : Sl.sub s.sl 0 (some 60) = some s' := e1
    simp only [cond_true, e1', Option.getD_some]
    exact e2
theorem loop6a {H0 : Heap} {s : FS} {f : Fl} (h : FR H0 s f) (a0 a1 : Int) (a2 a3 a4 : Option Sl) (b0 b1 : Int) (b2 b3 b4 : Option Sl) (c0 c1 : Int) (c3 c4 : Option Sl) :
    ∀ (m n i : Nat) (t : Option Sl) (H : Heap), i + m = 26 → i ≤ f.sg.length → Kp No H0 H → OS 5 ESg H t ((f.sg.take i).map cutSg) → New H0.length t →
    ∃ t' H', D6_3 (n + m + 1) s.sg (f.sg.length : Int) (i : Int) a0 a1 a2 a3 a4 b0 b1 b2 b3 b4 c0 c1 t c3 c4 H = some (.exit 0, X6_3 a0 a1 a2 a3 a4 b0 b1 b2 b3 b4 c0 c1 t' c3 c4 H') ∧ Kp No H0 H' ∧ OS 5 ESg H' t' ((f.sg.take 26).map cutSg) ∧ New H0.length t'
  | 0, n, i, t, H, hm, hi, k, ho, hn => by
    by_cases hlt : i < f.sg.length
    · have g : decide ((i : Int) < (f.sg.length : Int)) = true := by simp; omega
      obtain ⟨sl, e0, g1, c0', c1', c2', c3', c4'⟩ := getsSg (h.no k).sg (List.getElem?_eq_getElem hlt)
      have hst : D6_3 (n + 0 + 1) s.sg (f.sg.length : Int) (i : Int) a0 a1 a2 a3 a4 b0 b1 b2 b3 b4 c0 c1 t c3 c4 H = _ := D6_3_s (n + 0) s.sg (f.sg.length : Int) (i : Int) a0 a1 a2 a3 a4 b0 b1 b2 b3 b4 c0 c1 t c3 c4 H
      rw [g, ct] at hst
      rw [show s.sg.bind = (some sl).bind (β := AExit × St) by rw [e0]] at hst
      simp only [Ab.bs, g1, ct, c0', c1', c2', c3', c4', tInt, tSlice] at hst
      have : i = 26 := by omega
      subst this
      rw [show decide (((26 : Nat) : Int) ≥ 26) = true from rfl, ct] at hst
      exact ⟨t, H, hst, k, ho, hn⟩
    · have g : decide ((i : Int) < (f.sg.length : Int)) = false := by simp; omega
      have hst := D6_3_s (n + 0) s.sg (f.sg.length : Int) (i : Int) a0 a1 a2 a3 a4 b0 b1 b2 b3 b4 c0 c1 t c3 c4 H
      rw [g, cf] at hst
      have ht : f.sg.take i = f.sg.take 26 := by
        rw [List.take_of_length_le (by omega), List.take_of_length_le (by omega)]
      rw [ht] at ho
      exact ⟨t, H, hst, k, ho, hn⟩
  | m + 1, n, i, t, H, hm, hi, k, ho, hn => by
    by_cases hlt : i < f.sg.length
    · have g : decide ((i : Int) < (f.sg.length : Int)) = true := by simp; omega
      obtain ⟨sl, e0, g1, c0', c1', c2', c3', c4'⟩ := getsSg (h.no k).sg (List.getElem?_eq_getElem hlt)
      have hst : D6_3 (n + (m + 1) + 1) s.sg (f.sg.length : Int) (i : Int) a0 a1 a2 a3 a4 b0 b1 b2 b3 b4 c0 c1 t c3 c4 H = _ := D6_3_s (n + m + 1) s.sg (f.sg.length : Int) (i : Int) a0 a1 a2 a3 a4 b0 b1 b2 b3 b4 c0 c1 t c3 c4 H
      rw [g, ct] at hst
      rw [show s.sg.bind = (some sl).bind (β := AExit × St) by rw [e0]] at hst
      simp only [Ab.bs, g1, ct, c0', c1', c2', c3', c4', tInt, tSlice] at hst
      have hx := (h.no k).sd f.sg[i] (List.getElem_mem hlt)
      rw [show decide ((i : Int) ≥ 26) = false by simp; omega, cf, hx.slenEq] at hst
      obtain ⟨t2, H2, r1, r2, r3, r4⟩ := grow (by' := 56) ESg_len (by omega) k t ((f.sg.take i).map cutSg) ho hn (cutSg f.sg[i]) (by rw [List.length_map, List.length_take]; simp [most]; omega)
      have hmap : (f.sg.take i).map cutSg ++ [cutSg f.sg[i]] = (f.sg.take (i + 1)).map cutSg := by
        rw [List.take_succ_eq_append_getElem hlt, List.map_append]; rfl
      rw [hmap] at r3
      obtain ⟨t', H', q1, q2⟩ := loop6a h a0 a1 a2 a3 a4 b0 b1 b2 b3 b4 c0 c1 c3 c4 m n (i + 1) t2 H2 (by omega) (by omega) r2 r3 r4
      refine ⟨t', H', ?_, q2⟩
      rw [hst, ← q1]
      by_cases hd : f.sg[i].data.length > 60
      · obtain ⟨s', e1, e2, _⟩ := hx.sub0 E8_len 60 (by omega)
        have e1' : Sl.sub f.sg[i].sl 0 (some 60) = some s' := e1
        have hcut : cutSg f.sg[i] = { f.sg[i] with sl := s', data := f.sg[i].data.take 60 } := by
          unfold cutSg
          rw [show decide (f.sg[i].data.length > 60) = true by simpa using hd, cond_true, e1']; rfl
        rw [hcut] at r1
        have r1' : (H ++ [Blk.row [Cell.int IntKind.i64 f.sg[i].kind, Cell.int IntKind.i64 f.sg[i].flags, Cell.int IntKind.u64 f.sg[i].addr, Cell.int IntKind.u64 f.sg[i].size, Cell.slice s'] false]).append 5 56 t (some ⟨List.length H, 0, 1, 1, 5⟩) = some (t2, H2) := r1
        rw [show decide ((f.sg[i].data.length : Int) > 60) = true by simp; omega, ct, e1', Ab.bs, hx.esOkT, ct, r1', Ab.bs, i64_succ i (by omega)]
      · have hcut : cutSg f.sg[i] = f.sg[i] := by
          unfold cutSg
          rw [show decide (f.sg[i].data.length > 60) = false by simp; omega, cond_false]
        rw [hcut] at r1
        have r1' : (H ++ [Blk.row [Cell.int IntKind.i64 f.sg[i].kind, Cell.int IntKind.i64 f.sg[i].flags, Cell.int IntKind.u64 f.sg[i].addr, Cell.int IntKind.u64 f.sg[i].size, Cell.slice f.sg[i].sl] false]).append 5 56 t (some ⟨List.length H, 0, 1, 1, 5⟩) = some (t2, H2) := r1
        rw [show decide ((f.sg[i].data.length : Int) > 60) = false by simp; omega, cf, r1', Ab.bs, i64_succ i (by omega)]
    · have g : decide ((i : Int) < (f.sg.length : Int)) = false := by simp; omega
      have hst := D6_3_s (n + m + 1) s.sg (f.sg.length : Int) (i : Int) a0 a1 a2 a3 a4 b0 b1 b2 b3 b4 c0 c1 t c3 c4 H
      rw [g, cf] at hst
      have ht : f.sg.take i = f.sg.take 26 := by
        rw [List.take_of_length_le (by omega), List.take_of_length_le (by omega)]
      rw [ht] at ho
      exact ⟨t, H, hst, k, ho, hn⟩
theorem loop6b {H0 : Heap} {s : FS} {f : Fl} (h : FR H0 s f) (a0 a1 : Int) (a2 a3 a4 : Option Sl) (b0 b1 : Int) (b2 b3 b4 : Option Sl) (c0 c1 : Int) (c2 c4 : Option Sl) :
    ∀ (m n i : Nat) (t : Option Sl) (H : Heap), i + m = 66 → i ≤ f.sy.length → Kp No H0 H → OS 4 ESy H t ((f.sy.take i).map cutSy) → New H0.length t →
    ∃ t' H', D6_11 (n + m + 1) s.sy (f.sy.length : Int) (i : Int) a0 a1 a2 a3 a4 b0 b1 b2 b3 b4 c0 c1 c2 t c4 H = some (.exit 2, X6_11 a0 a1 a2 a3 a4 b0 b1 b2 b3 b4 c0 c1 c2 t' c4 H') ∧ Kp No H0 H' ∧ OS 4 ESy H' t' ((f.sy.take 66).map cutSy) ∧ New H0.length t'
  | 0, n, i, t, H, hm, hi, k, ho, hn => by
    by_cases hlt : i < f.sy.length
    · have g : decide ((i : Int) < (f.sy.length : Int)) = true := by simp; omega
      obtain ⟨sl, e0, g1, c0', c1', c2', c3'⟩ := getsSy (h.no k).sy (List.getElem?_eq_getElem hlt)
      have hst : D6_11 (n + 0 + 1) s.sy (f.sy.length : Int) (i : Int) a0 a1 a2 a3 a4 b0 b1 b2 b3 b4 c0 c1 c2 t c4 H = _ := D6_11_s (n + 0) s.sy (f.sy.length : Int) (i : Int) a0 a1 a2 a3 a4 b0 b1 b2 b3 b4 c0 c1 c2 t c4 H
      rw [g, ct] at hst
      rw [show s.sy.bind = (some sl).bind (β := AExit × St) by rw [e0]] at hst
      simp only [Ab.bs, g1, ct, c0', c1', c2', c3', tInt, tStr] at hst
      have : i = 66 := by omega
      subst this
      rw [show decide (((66 : Nat) : Int) ≥ 66) = true from rfl, ct] at hst
      exact ⟨t, H, hst, k, ho, hn⟩
    · have g : decide ((i : Int) < (f.sy.length : Int)) = false := by simp; omega
      have hst := D6_11_s (n + 0) s.sy (f.sy.length : Int) (i : Int) a0 a1 a2 a3 a4 b0 b1 b2 b3 b4 c0 c1 c2 t c4 H
      rw [g, cf] at hst
      have ht : f.sy.take i = f.sy.take 66 := by
        rw [List.take_of_length_le (by omega), List.take_of_length_le (by omega)]
      rw [ht] at ho
      exact ⟨t, H, hst, k, ho, hn⟩
  | m + 1, n, i, t, H, hm, hi, k, ho, hn => by
    by_cases hlt : i < f.sy.length
    · have g : decide ((i : Int) < (f.sy.length : Int)) = true := by simp; omega
      obtain ⟨sl, e0, g1, c0', c1', c2', c3'⟩ := getsSy (h.no k).sy (List.getElem?_eq_getElem hlt)
      have hst : D6_11 (n + (m + 1) + 1) s.sy (f.sy.length : Int) (i : Int) a0 a1 a2 a3 a4 b0 b1 b2 b3 b4 c0 c1 c2 t c4 H = _ := D6_11_s (n + m + 1) s.sy (f.sy.length : Int) (i : Int) a0 a1 a2 a3 a4 b0 b1 b2 b3 b4 c0 c1 c2 t c4 H
      rw [g, ct] at hst
      rw [show s.sy.bind = (some sl).bind (β := AExit × St) by rw [e0]] at hst
      simp only [Ab.bs, g1, ct, c0', c1', c2', c3', tInt, tStr] at hst
      rw [show decide ((i : Int) ≥ 66) = false by simp; omega, cf] at hst
      obtain ⟨t2, H2, r1, r2, r3, r4⟩ := grow (by' := 40) ESy_len (by omega) k t ((f.sy.take i).map cutSy) ho hn (cutSy f.sy[i]) (by rw [List.length_map, List.length_take]; simp [most]; omega)
      have hmap : (f.sy.take i).map cutSy ++ [cutSy f.sy[i]] = (f.sy.take (i + 1)).map cutSy := by
        rw [List.take_succ_eq_append_getElem hlt, List.map_append]; rfl
      rw [hmap] at r3
      obtain ⟨t', H', q1, q2⟩ := loop6b h a0 a1 a2 a3 a4 b0 b1 b2 b3 b4 c0 c1 c2 c4 m n (i + 1) t2 H2 (by omega) (by omega) r2 r3 r4
      refine ⟨t', H', ?_, q2⟩
      rw [hst, ← q1]
      by_cases hd : f.sy[i].name.size > 40
      · have e1' : strSub f.sy[i].name 0 (some 40) = some (f.sy[i].name.extract 0 40) := by
          unfold strSub
          rw [if_pos (by simp only [Option.getD_some]; omega)]; rfl
        have hcut : cutSy f.sy[i] = { f.sy[i] with name := f.sy[i].name.extract 0 40 } := by
          unfold cutSy
          rw [show decide (f.sy[i].name.size > 40) = true by simpa using hd, cond_true]
        rw [hcut] at r1
        have r1' : (H ++ [Blk.row [Cell.str (f.sy[i].name.extract 0 40), Cell.int IntKind.i64 f.sy[i].kind, Cell.int IntKind.u64 f.sy[i].addr, Cell.int IntKind.u64 f.sy[i].size] false]).append 4 40 t (some ⟨List.length H, 0, 1, 1, 4⟩) = some (t2, H2) := r1
        rw [show decide ((f.sy[i].name.size : Int) > 40) = true by simp; omega, ct, e1', Ab.bs, r1', Ab.bs, i64_succ i (by omega)]
      · have hcut : cutSy f.sy[i] = f.sy[i] := by
          unfold cutSy
          rw [show decide (f.sy[i].name.size > 40) = false by simp; omega, cond_false]
        rw [hcut] at r1
        have r1' : (H ++ [Blk.row [Cell.str f.sy[i].name, Cell.int IntKind.i64 f.sy[i].kind, Cell.int IntKind.u64 f.sy[i].addr, Cell.int IntKind.u64 f.sy[i].size] false]).append 4 40 t (some ⟨List.length H, 0, 1, 1, 4⟩) = some (t2, H2) := r1
        rw [show decide ((f.sy[i].name.size : Int) > 40) = false by simp; omega, cf, r1', Ab.bs, i64_succ i (by omega)]
    · have g : decide ((i : Int) < (f.sy.length : Int)) = false := by simp; omega
      have hst := D6_11_s (n + m + 1) s.sy (f.sy.length : Int) (i : Int) a0 a1 a2 a3 a4 b0 b1 b2 b3 b4 c0 c1 c2 t c4 H
      rw [g, cf] at hst
      have ht : f.sy.take i = f.sy.take 66 := by
        rw [List.take_of_length_le (by omega), List.take_of_length_le (by omega)]
      rw [ht] at ho
      exact ⟨t, H, hst, k, ho, hn⟩
theorem loop6c {H0 : Heap} {s : FS} {f : Fl} (h : FR H0 s f) (hl : f.rl.length ≤ 9223372036854775807) (b0 b1 : Int) (b2 b3 b4 : Option Sl) (c0 c1 : Int) (c2 c3 : Option Sl) :
    ∀ (m n i : Nat) (t : Option Sl) (H : Heap), i + m = f.rl.length → Kp No H0 H → OS 3 ERl H t ((f.rl.take i).take 66) → New H0.length t →
    ∃ t' H', D6_19 (n + m + 1) s.rl (f.rl.length : Int) (i : Int) b0 b1 b2 b3 b4 c0 c1 c2 c3 t H = some (.exit 4, X6_19 b0 b1 b2 b3 b4 c0 c1 c2 c3 t' H') ∧ Kp No H0 H' ∧ OS 3 ERl H' t' (f.rl.take 66) ∧ New H0.length t'
  | 0, n, i, t, H, hm, k, ho, hn => by
    have g : decide ((i : Int) < (f.rl.length : Int)) = false := by simp; omega
    rw [List.take_of_length_le (l := f.rl) (by omega)] at ho
    exact ⟨t, H, by rw [D6_19_s, g, cf], k, ho, hn⟩
  | m + 1, n, i, t, H, hm, k, ho, hn => by
    have hlt : i < f.rl.length := by omega
    have g : decide ((i : Int) < (f.rl.length : Int)) = true := by simp; omega
    obtain ⟨sl, e0, g1, c0', c1', c2'⟩ := getsRl (h.no k).rl (List.getElem?_eq_getElem hlt)
    have hw : IntKind.i64.wrap ((i : Int) + 1) = ((i + 1 : Nat) : Int) := by rw [wrap_i64 (by omega) (by omega)]; omega
    have hst : D6_19 (n + (m + 1) + 1) s.rl (f.rl.length : Int) (i : Int) b0 b1 b2 b3 b4 c0 c1 c2 c3 t H = _ := D6_19_s (n + m + 1) s.rl (f.rl.length : Int) (i : Int) b0 b1 b2 b3 b4 c0 c1 c2 c3 t H
    rw [g, ct] at hst
    rw [show s.rl.bind = (some sl).bind (β := AExit × St) by rw [e0]] at hst
    simp only [Ab.bs, g1, ct, c0', c1', c2', tInt, hw] at hst
    by_cases h66 : i < 66
    · have e1 : (f.rl.take i).take 66 = f.rl.take i := List.take_of_length_le (by rw [List.length_take]; omega)
      have e2 : (f.rl.take (i + 1)).take 66 = f.rl.take (i + 1) := List.take_of_length_le (by rw [List.length_take]; omega)
      rw [e1] at ho
      obtain ⟨t2, H2, r1, r2, r3, r4⟩ := grow (by' := 24) ERl_len (by omega) k t (f.rl.take i) ho hn f.rl[i] (by rw [List.length_take]; simp [most]; omega)
      rw [← List.take_succ_eq_append_getElem hlt, ← e2] at r3
      obtain ⟨t', H', q1, q2⟩ := loop6c h hl b0 b1 b2 b3 b4 c0 c1 c2 c3 m n (i + 1) t2 H2 (by omega) r2 r3 r4
      have r1' : (H ++ [Blk.row [Cell.int IntKind.u64 f.rl[i].at', Cell.int IntKind.i64 f.rl[i].sym, Cell.int IntKind.i64 f.rl[i].add] false]).append 3 24 t (some ⟨List.length H, 0, 1, 1, 3⟩) = some (t2, H2) := r1
      refine ⟨t', H', ?_, q2⟩
      rw [show decide ((i : Int) < 66) = true by simp; omega, ct, r1', Ab.bs] at hst
      exact hst.trans q1
    · have e2 : (f.rl.take (i + 1)).take 66 = (f.rl.take i).take 66 := by
        rw [List.take_take, List.take_take]; congr 1; omega
      rw [← e2] at ho
      obtain ⟨t', H', q1, q2⟩ := loop6c h hl b0 b1 b2 b3 b4 c0 c1 c2 c3 m n (i + 1) t H (by omega) k ho hn
      refine ⟨t', H', ?_, q2⟩
      rw [show decide ((i : Int) < 66) = false by simp; omega, cf] at hst
      exact hst.trans q1
/-- Cut. -/
theorem f6_x {H : Heap} {s : FS} {f : Fl} (h : FR H s f) (hl : f.rl.length ≤ 9223372036854775807) :
    ∃ s' H', f6 s.M s.E s.sg s.sy s.rl H = some ((s'.M, s'.E, s'.sg, s'.sy, s'.rl), H') ∧ Kp No H H' ∧ FR H' s' (cutF f) := by
  obtain ⟨n1, e1⟩ := LL6_3_of 26 (by omega) s.sg (slen s.sg) 0 s.M s.E s.sg s.sy s.rl 0 0 none none none s.M s.E none none none H
  obtain ⟨t1, H1, r1, k1, o1, _⟩ := loop6a h s.M s.E s.sg s.sy s.rl 0 0 none none none s.M s.E none none 26 n1 0 none H (by omega) (by omega) (Kp.refl _ _) rfl (fun _ e => nomatch e)
  have h1 := h.no k1
  obtain ⟨n2, e2⟩ := LL6_11_of 66 (by omega) s.sy (slen s.sy) 0 s.M s.E s.sg s.sy s.rl 0 0 none none none s.M s.E t1 none none H1
  obtain ⟨t2, H2, r2, k2, o2, _⟩ := loop6b h1 s.M s.E s.sg s.sy s.rl 0 0 none none none s.M s.E t1 none 66 n2 0 none H1 (by omega) (by omega) (Kp.refl _ _) rfl (fun _ e => nomatch e)
  have h2 := h1.no k2
  obtain ⟨n3, e3⟩ := LL6_19_of f.rl.length (by omega) s.rl (slen s.rl) 0 0 0 none none none s.M s.E t1 t2 none H2
  obtain ⟨t3, H3, r3, k3, o3, _⟩ := loop6c h2 hl 0 0 none none none s.M s.E t1 t2 f.rl.length n3 0 none H2 (by omega) (Kp.refl _ _) rfl (fun _ e => nomatch e)
  refine ⟨⟨s.M, s.E, t1, t2, t3⟩, H3, ?_, (k1.tr k2).tr k3, h.m, h.e, ((o1.no k2).no k3).rs, (o2.no k3).rs, o3.rs, fun x hx => ?_⟩
  · rw [h.sg.slenEq] at e1
    rw [h.sy.slenEq] at e2
    rw [h.rl.slenEq] at e3
    rw [q6, h.sg.slenEq, e1.trans r1, Ab.bs, J6_3_0, h.sy.slenEq]
    rw [e2.trans r2, Ab.bs, J6_11_0, h.rl.slenEq]
    rw [e3.trans r3, Ab.bs, J6_19_0]
  · obtain ⟨y, y1, y2⟩ := List.mem_map.1 hx
    subst y2
    exact cutSg_rs ((h2.no k3).sd y (List.mem_of_mem_take y1))
theorem loop8a {H0 : Heap} {s : FS} {f : Fl} (h : FR H0 s f) (hl : f.sg.length ≤ 1000) (a0 a1 : Int) (a2 a3 a4 : Option Sl) (b0 b1 : Int) (b2 b3 b4 : Option Sl) (c0 c1 : Int) (c3 c4 : Option Sl) :
    ∀ (m n i : Nat) (t : Option Sl) (H : Heap), i + m = f.sg.length → Kp No H0 H → OS 5 ESg H t (f.sg.take i) → New H0.length t →
    ∃ t' H', D8_3 (n + m + 1) s.sg (f.sg.length : Int) (i : Int) a0 a1 a2 a3 a4 b0 b1 b2 b3 b4 c0 c1 t c3 c4 H = some (.exit 0, X8_3 a0 a1 a2 a3 a4 b0 b1 b2 b3 b4 c0 c1 t' c3 c4 H') ∧ Kp No H0 H' ∧ OS 5 ESg H' t' f.sg ∧ New H0.length t'
  | 0, n, i, t, H, hm, k, ho, hn => by
    have g : decide ((i : Int) < (f.sg.length : Int)) = false := by simp; omega
    rw [List.take_of_length_le (by omega)] at ho
    exact ⟨t, H, by rw [D8_3_s, g, cf], k, ho, hn⟩
  | m + 1, n, i, t, H, hm, k, ho, hn => by
    have hlt : i < f.sg.length := by omega
    have g : decide ((i : Int) < (f.sg.length : Int)) = true := by simp; omega
    obtain ⟨sl, e0, g1, c0', c1', c2', c3', c4'⟩ := getsSg (h.no k).sg (List.getElem?_eq_getElem hlt)
    have hst : D8_3 (n + (m + 1) + 1) s.sg (f.sg.length : Int) (i : Int) a0 a1 a2 a3 a4 b0 b1 b2 b3 b4 c0 c1 t c3 c4 H = _ := D8_3_s (n + m + 1) s.sg (f.sg.length : Int) (i : Int) a0 a1 a2 a3 a4 b0 b1 b2 b3 b4 c0 c1 t c3 c4 H
    rw [g, ct] at hst
    rw [show s.sg.bind = (some sl).bind (β := AExit × St) by rw [e0]] at hst
    simp only [Ab.bs, g1, ct, c0', c1', c2', c3', c4', tInt, tSlice, i64_succ i (show i < 9223372036854775807 by omega)] at hst
    obtain ⟨t2, H2, r1, r2, r3, r4⟩ := grow (by' := 56) ESg_len (by omega) k t (f.sg.take i) ho hn f.sg[i] (by rw [List.length_take]; simp [most]; omega)
    rw [← List.take_succ_eq_append_getElem hlt] at r3
    obtain ⟨t', H', q1, q2⟩ := loop8a h hl a0 a1 a2 a3 a4 b0 b1 b2 b3 b4 c0 c1 c3 c4 m n (i + 1) t2 H2 (by omega) r2 r3 r4
    have r1' : (H ++ [Blk.row [Cell.int IntKind.i64 f.sg[i].kind, Cell.int IntKind.i64 f.sg[i].flags, Cell.int IntKind.u64 f.sg[i].addr, Cell.int IntKind.u64 f.sg[i].size, Cell.slice f.sg[i].sl] false]).append 5 56 t (some ⟨List.length H, 0, 1, 1, 5⟩) = some (t2, H2) := r1
    refine ⟨t', H', ?_, q2⟩
    rw [r1', Ab.bs] at hst
    exact hst.trans q1
theorem loop8b {H0 : Heap} {s : FS} {f : Fl} (h : FR H0 s f) (hl : f.sy.length ≤ 1000) (a0 a1 : Int) (a2 a3 a4 : Option Sl) (b0 b1 : Int) (b2 b3 b4 : Option Sl) (c0 c1 : Int) (c2 c4 : Option Sl) :
    ∀ (m n i : Nat) (t : Option Sl) (H : Heap), i + m = f.sy.length → Kp No H0 H → OS 4 ESy H t (f.sy.take i) → New H0.length t →
    ∃ t' H', D8_8 (n + m + 1) s.sy (f.sy.length : Int) (i : Int) a0 a1 a2 a3 a4 b0 b1 b2 b3 b4 c0 c1 c2 t c4 H = some (.exit 2, X8_8 a0 a1 a2 a3 a4 b0 b1 b2 b3 b4 c0 c1 c2 t' c4 H') ∧ Kp No H0 H' ∧ OS 4 ESy H' t' f.sy ∧ New H0.length t'
  | 0, n, i, t, H, hm, k, ho, hn => by
    have g : decide ((i : Int) < (f.sy.length : Int)) = false := by simp; omega
    rw [List.take_of_length_le (by omega)] at ho
    exact ⟨t, H, by rw [D8_8_s, g, cf], k, ho, hn⟩
  | m + 1, n, i, t, H, hm, k, ho, hn => by
    have hlt : i < f.sy.length := by omega
    have g : decide ((i : Int) < (f.sy.length : Int)) = true := by simp; omega
    obtain ⟨sl, e0, g1, c0', c1', c2', c3'⟩ := getsSy (h.no k).sy (List.getElem?_eq_getElem hlt)
    have hst : D8_8 (n + (m + 1) + 1) s.sy (f.sy.length : Int) (i : Int) a0 a1 a2 a3 a4 b0 b1 b2 b3 b4 c0 c1 c2 t c4 H = _ := D8_8_s (n + m + 1) s.sy (f.sy.length : Int) (i : Int) a0 a1 a2 a3 a4 b0 b1 b2 b3 b4 c0 c1 c2 t c4 H
    rw [g, ct] at hst
    rw [show s.sy.bind = (some sl).bind (β := AExit × St) by rw [e0]] at hst
    simp only [Ab.bs, g1, ct, c0', c1', c2', c3', tInt, tStr, i64_succ i (show i < 9223372036854775807 by omega)] at hst
    obtain ⟨t2, H2, r1, r2, r3, r4⟩ := grow (by' := 40) ESy_len (by omega) k t (f.sy.take i) ho hn f.sy[i] (by rw [List.length_take]; simp [most]; omega)
    rw [← List.take_succ_eq_append_getElem hlt] at r3
    obtain ⟨t', H', q1, q2⟩ := loop8b h hl a0 a1 a2 a3 a4 b0 b1 b2 b3 b4 c0 c1 c2 c4 m n (i + 1) t2 H2 (by omega) r2 r3 r4
    have r1' : (H ++ [Blk.row [Cell.str f.sy[i].name, Cell.int IntKind.i64 f.sy[i].kind, Cell.int IntKind.u64 f.sy[i].addr, Cell.int IntKind.u64 f.sy[i].size] false]).append 4 40 t (some ⟨List.length H, 0, 1, 1, 4⟩) = some (t2, H2) := r1
    refine ⟨t', H', ?_, q2⟩
    rw [r1', Ab.bs] at hst
    exact hst.trans q1
theorem loop8c {H0 : Heap} {s : FS} {f : Fl} (h : FR H0 s f) (hl : f.rl.length ≤ 1000) (b0 b1 : Int) (b2 b3 b4 : Option Sl) (c0 c1 : Int) (c2 c3 : Option Sl) :
    ∀ (m n i : Nat) (t : Option Sl) (H : Heap), i + m = f.rl.length → Kp No H0 H → OS 3 ERl H t (f.rl.take i) → New H0.length t →
    ∃ t' H', D8_13 (n + m + 1) s.rl (f.rl.length : Int) (i : Int) b0 b1 b2 b3 b4 c0 c1 c2 c3 t H = some (.exit 4, X8_13 b0 b1 b2 b3 b4 c0 c1 c2 c3 t' H') ∧ Kp No H0 H' ∧ OS 3 ERl H' t' f.rl ∧ New H0.length t'
  | 0, n, i, t, H, hm, k, ho, hn => by
    have g : decide ((i : Int) < (f.rl.length : Int)) = false := by simp; omega
    rw [List.take_of_length_le (by omega)] at ho
    exact ⟨t, H, by rw [D8_13_s, g, cf], k, ho, hn⟩
  | m + 1, n, i, t, H, hm, k, ho, hn => by
    have hlt : i < f.rl.length := by omega
    have g : decide ((i : Int) < (f.rl.length : Int)) = true := by simp; omega
    obtain ⟨sl, e0, g1, c0', c1', c2'⟩ := getsRl (h.no k).rl (List.getElem?_eq_getElem hlt)
    have hst : D8_13 (n + (m + 1) + 1) s.rl (f.rl.length : Int) (i : Int) b0 b1 b2 b3 b4 c0 c1 c2 c3 t H = _ := D8_13_s (n + m + 1) s.rl (f.rl.length : Int) (i : Int) b0 b1 b2 b3 b4 c0 c1 c2 c3 t H
    rw [g, ct] at hst
    rw [show s.rl.bind = (some sl).bind (β := AExit × St) by rw [e0]] at hst
    simp only [Ab.bs, g1, ct, c0', c1', c2', tInt, i64_succ i (show i < 9223372036854775807 by omega)] at hst
    obtain ⟨t2, H2, r1, r2, r3, r4⟩ := grow (by' := 24) ERl_len (by omega) k t (f.rl.take i) ho hn f.rl[i] (by rw [List.length_take]; simp [most]; omega)
    rw [← List.take_succ_eq_append_getElem hlt] at r3
    obtain ⟨t', H', q1, q2⟩ := loop8c h hl b0 b1 b2 b3 b4 c0 c1 c2 c3 m n (i + 1) t2 H2 (by omega) r2 r3 r4
    have r1' : (H ++ [Blk.row [Cell.int IntKind.u64 f.rl[i].at', Cell.int IntKind.i64 f.rl[i].sym, Cell.int IntKind.i64 f.rl[i].add] false]).append 3 24 t (some ⟨List.length H, 0, 1, 1, 3⟩) = some (t2, H2) := r1
    refine ⟨t', H', ?_, q2⟩
    rw [r1', Ab.bs] at hst
    exact hst.trans q1
/-- A copy. -/
theorem f8_x {H : Heap} {s : FS} {f : Fl} (h : FR H s f) (h1 : f.sg.length ≤ 1000) (h2 : f.sy.length ≤ 1000) (h3 : f.rl.length ≤ 1000) :
    ∃ s' H', f8 s.M s.E s.sg s.sy s.rl H = some ((s'.M, s'.E, s'.sg, s'.sy, s'.rl), H') ∧ Kp No H H' ∧ FR H' s' f := by
  obtain ⟨n1, e1⟩ := LL8_3_of f.sg.length (by omega) s.sg (slen s.sg) 0 s.M s.E s.sg s.sy s.rl 0 0 none none none s.M s.E none none none H
  obtain ⟨t1, H1, r1, k1, o1, _⟩ := loop8a h h1 s.M s.E s.sg s.sy s.rl 0 0 none none none s.M s.E none none f.sg.length n1 0 none H (by omega) (Kp.refl _ _) rfl (fun _ e => nomatch e)
  have g1 := h.no k1
  obtain ⟨n2, e2⟩ := LL8_8_of f.sy.length (by omega) s.sy (slen s.sy) 0 s.M s.E s.sg s.sy s.rl 0 0 none none none s.M s.E t1 none none H1
  obtain ⟨t2, H2, r2, k2, o2, _⟩ := loop8b g1 h2 s.M s.E s.sg s.sy s.rl 0 0 none none none s.M s.E t1 none f.sy.length n2 0 none H1 (by omega) (Kp.refl _ _) rfl (fun _ e => nomatch e)
  have g2 := g1.no k2
  obtain ⟨n3, e3⟩ := LL8_13_of f.rl.length (by omega) s.rl (slen s.rl) 0 0 0 none none none s.M s.E t1 t2 none H2
  obtain ⟨t3, H3, r3, k3, o3, _⟩ := loop8c g2 h3 0 0 none none none s.M s.E t1 t2 f.rl.length n3 0 none H2 (by omega) (Kp.refl _ _) rfl (fun _ e => nomatch e)
  refine ⟨⟨s.M, s.E, t1, t2, t3⟩, H3, ?_, (k1.tr k2).tr k3, h.m, h.e, ((o1.no k2).no k3).rs, (o2.no k3).rs, o3.rs, (g2.no k3).sd⟩
  rw [h.sg.slenEq] at e1
  rw [h.sy.slenEq] at e2
  rw [h.rl.slenEq] at e3
  rw [q8, h.sg.slenEq, e1.trans r1, Ab.bs, J8_3_0, h.sy.slenEq]
  rw [e2.trans r2, Ab.bs, J8_8_0, h.rl.slenEq]
  rw [e3.trans r3, Ab.bs, J8_13_0]
end
end Go.Proofs.Ytnjdajcgcnjamaa
