/- SpA to SpG. -/
import Derived.Test.YtnipccoenalnkaaGreatSmY
import Derived.Test.YtnipccoenalnkaaGreatSt1b
namespace Go.Proofs.YtnipccoenalnkaaGreat
open Go Go.Proofs.YtnipccoenalnkaaGreat.Ab
set_option linter.unusedVariables false
set_option linter.unusedSimpArgs false
set_option maxRecDepth 100000
noncomputable section
theorem dT {p : Prop} [Decidable p] (h : p) : decide p = true := decide_eq_true h
theorem dF {p : Prop} [Decidable p] (h : ¬ p) : decide p = false := decide_eq_false h
/-- A step: registers, flags, and what stands behind them. -/
structure Rn where
  r : Nat → Int
  C : Bool
  O : Bool
  res : Int
  ip : Int
  here : Int
  next : Int
  e : Int
  s : Bool
  a : Int
  v : Int
/-- The instructions that are asked of here: one operand, of width 8. -/
structure In where
  op : Int
  kind : Int
  reg : Int
  imm : Int
  len : Int
def Rn.row (x : Rn) (t : Int) (i : In) (mp : Option (Nat × Nat)) : List Cell :=
  [.int .u64 (x.r 0), .int .u64 (x.r 1), .int .u64 (x.r 2), .int .u64 (x.r 3), .int .u64 (x.r 4), .int .u64 (x.r 5), .int .u64 (x.r 6), .int .u64 (x.r 7), .int .u64 (x.r 8), .int .u64 (x.r 9), .int .u64 (x.r 10), .int .u64 (x.r 11), .int .u64 (x.r 12), .int .u64 (x.r 13), .int .u64 (x.r 14), .int .u64 (x.r 15), .bool x.C, .bool x.O, .int .u64 x.res, .int .u64 x.ip, .int .i64 t, .int .i64 i.op, .int .i64 8, .int .i64 0, .int .i64 i.kind, .int .i64 i.reg, .int .i64 0, .int .i64 0, .int .i64 0, .int .i64 0, .int .i64 0, .int .i64 0, .int .i64 0, .int .i64 0, .int .i64 0, .int .i64 0, .int .i64 i.imm, .int .i64 0, .bool false, .bool false, .int .i64 i.len, .ptr mp, .int .u64 x.here, .int .u64 x.next, .int .i64 x.e, .bool x.s, .int .u64 x.a, .int .u64 x.v]
def upd (r : Nat → Int) (k : Nat) (v : Int) : Nat → Int := fun j => if j = k then v else r j
theorem row_len (x : Rn) (t : Int) (i : In) (mp : Option (Nat × Nat)) : (x.row t i mp).length = 48 := rfl
theorem row_reg (x : Rn) (t : Int) (i : In) (mp : Option (Nat × Nat)) : ∀ k, k < 16 → (x.row t i mp)[k]? = some (.int .u64 (x.r k))
  | 0, _ => rfl
  | 1, _ => rfl
  | 2, _ => rfl
  | 3, _ => rfl
  | 4, _ => rfl
  | 5, _ => rfl
  | 6, _ => rfl
  | 7, _ => rfl
  | 8, _ => rfl
  | 9, _ => rfl
  | 10, _ => rfl
  | 11, _ => rfl
  | 12, _ => rfl
  | 13, _ => rfl
  | 14, _ => rfl
  | 15, _ => rfl
  | k + 16, h => by omega
theorem row_set (x : Rn) (t : Int) (i : In) (mp : Option (Nat × Nat)) (v : Int) : ∀ k, k < 16 → splice (x.row t i mp) k [.int .u64 v] = ({ x with r := upd x.r k v } : Rn).row t i mp
  | 0, _ => rfl
  | 1, _ => rfl
  | 2, _ => rfl
  | 3, _ => rfl
  | 4, _ => rfl
  | 5, _ => rfl
  | 6, _ => rfl
  | 7, _ => rfl
  | 8, _ => rfl
  | 9, _ => rfl
  | 10, _ => rfl
  | 11, _ => rfl
  | 12, _ => rfl
  | 13, _ => rfl
  | 14, _ => rfl
  | 15, _ => rfl
  | k + 16, h => by omega
structure RunAt (H : Heap) (b L N id cid : Nat) (pc : List Cell) (x : Rn) (t : Int) (i : In) (M : Mm) (c : Co) : Prop where
  row : H[id]? = some (.row (x.row t i M.p) false)
  m : M.Is H L c
  fit : c.Fit N
  out : ¬ M.In id
  cpu : H[cid]? = some (.row pc false)
  ne : cid ≠ id
  cout : ¬ M.In cid
  u : ∀ k, u64p (x.r k)
  bb : M.b = b
section
variable {H : Heap} {b L N id cid : Nat} {pc : List Cell} {x : Rn} {t : Int} {i : In} {M : Mm} {c : Co}
theorem RunAt.to (h : RunAt H b L N id cid pc x t i M c) {M' : Mm} {H' : Heap} {c' : Co} (m : M'.Is H' L c') (f : c'.Fit N) (k : M.To M' H H') : RunAt H' b L N id cid pc x t i M' c' := by
  have hp : M'.p = M.p := by unfold Mm.p; rw [k.b]
  refine ⟨by rw [hp]; exact k.k.at h.row h.out, m, f, fun g => ?_, k.k.at h.cpu h.cout, h.ne, fun g => ?_, h.u, k.b.trans h.bb⟩
  · rcases k.ids id g with g | g
    · exact h.out g
    · have := lt_of h.row; omega
  · rcases k.ids cid g with g | g
    · exact h.cout g
    · have := lt_of h.cpu; omega
theorem RunAt.put (h : RunAt H b L N id cid pc x t i M c) (off : Nat) (vs : List Cell) (x' : Rn) (hb : off + vs.length ≤ 48) (hx : splice (x.row t i M.p) off vs = x'.row t i M.p) (hu : ∀ k, u64p (x'.r k)) : ∃ H', H.put id off vs = some H' ∧ RunAt H' b L N id cid pc x' t i M c := by
  have kq : Kp (One id) H (H.set id (.row (x'.row t i M.p) false)) := Kp.set _ _ _
  refine ⟨_, by rw [put_of h.row (by rw [row_len]; exact hb), hx], set_get' (lt_of h.row), h.m.other kq (fun j hj e => h.out (by have : j = id := e; rwa [this] at hj)), h.fit, h.out, kq.at h.cpu h.ne, h.ne, h.cout, hu, h.bb⟩
theorem RunAt.get (h : RunAt H b L N id cid pc x t i M c) (off : Nat) : H.get id off = (x.row t i M.p)[off]? := get_of h.row off
theorem zx8 {v : Int} (h : u64p v) : zxv v 8 = v := by
  rw [mask_eq v 8 (by decide)]
  unfold u64p at h
  have : (2 : Int) ^ (8 * (8 : Int).toNat) = 18446744073709551616 := by decide
  rw [this]; omega
theorem has_x (k : Nat) (hk : k < 16) (p : Nat × Nat) (G : Heap) : f127 (some p) (k : Int) 8 G = some (true, G) := by
  rw [q127, f105_x]
  rw [show (some p : Option (Nat × Nat)).isNone = false from rfl, Bool.not_false, ct, dT (show (k : Int) ≥ 0 by omega), ct, dT (show (k : Int) < 16 by omega), ct]
  rfl
theorem inb16 {k : Nat} (hk : k < 16) : inb (k : Int) 16 = true := by simp [inb]; omega
theorem RunAt.read (h : RunAt H b L N id cid pc x t i M c) (k : Nat) (hk : k < 16) : f75 (some (id, 0 + 0)) (k : Int) 8 H = some (x.r k, H) := by
  have g : H.get id (0 + 0 + 0 + (k : Int).toNat * 1) = some (.int .u64 (x.r k)) := by
    rw [h.get, show 0 + 0 + 0 + (k : Int).toNat * 1 = k by simp]; exact row_reg x t i M.p k hk
  rw [q75, has_x k hk, Ab.bs]
  simp only [Bool.not_true, cf, Ab.bs, inb16 hk, ct, g, tInt, f60_x _ 8 (by decide), zx8 (h.u k)]
theorem upd_u {r : Nat → Int} (h : ∀ k, u64p (r k)) (j : Nat) {v : Int} (hv : u64p v) : ∀ k, u64p (upd r j v k) := fun k => by
  unfold upd; split
  · exact hv
  · exact h k
theorem RunAt.write (h : RunAt H b L N id cid pc x t i M c) (k : Nat) (hk : k < 16) {v : Int} (hv : u64p v) : ∃ H', f120 (some (id, 0 + 0)) (k : Int) 8 v H = some ((), H') ∧ RunAt H' b L N id cid pc { x with r := upd x.r k v } t i M c := by
  obtain ⟨H', p1, p2⟩ := h.put k [.int .u64 v] { x with r := upd x.r k v } (by simp; omega) (row_set x t i M.p v k hk) (upd_u h.u k hv)
  refine ⟨H', ?_, p2⟩
  rw [q120, has_x k hk, Ab.bs]
  have p1' : H.put id (0 + 0 + 0 + (k : Int).toNat * 1) [.int .u64 v] = some H' := by rw [show 0 + 0 + 0 + (k : Int).toNat * 1 = k by simp]; exact p1
  simp only [Bool.not_true, cf, f60_x _ 8 (show isW8 8 = true by decide), zx8 hv, Ab.bs, dF (show ¬ (8 : Int) < 4 by decide), inb16 hk, ct, p1']
theorem RunAt.fail (h : RunAt H b L N id cid pc x t i M c) (e : Int) : ∃ H', f82 (some (id, 0)) e H = some ((), H') ∧ RunAt H' b L N id cid pc { x with e := if x.e = 0 then e else x.e } t i M c := by
  have g : H.get id (0 + 44) = some (.int .i64 x.e) := (h.get _).trans rfl
  rw [q82]
  simp only [Ab.bs, g, tInt]
  by_cases h0 : x.e = 0
  · obtain ⟨H', p1, p2⟩ := h.put (0 + 44) [.int .i64 e] { x with e := e } (by simp) rfl h.u
    exact ⟨H', by rw [show (x.e == 0) = true by simp [h0], ct, p1, Ab.bs], by rw [if_pos h0]; exact p2⟩
  · exact ⟨H, by rw [show (x.e == 0) = false by simp [h0], cf], by rw [if_neg h0]; exact h⟩
/-- Is it there to be stored? -/
def Rn.wr (x : Rn) (ok : Bool) (a v : Int) : Rn := { x with e := if ok then x.e else if x.e = 0 then 2 else x.e, s := true, a := a, v := v }
theorem RunAt.store (h : RunAt H b L N id cid pc x t i M c) (a : Int) {v : Int} (hv : u64p v) : ∃ M' H', f119 (some (id, 0)) a 8 v H = some ((), H') ∧ RunAt H' b L N id cid pc (x.wr (mayA c.ars t a 8 true) a v) t i M' c := by
  have g41 : H.get id (0 + 41) = some (.ptr M.p) := (h.get _).trans rfl
  have g20 : H.get id (0 + 20) = some (.int .i64 t) := (h.get _).trans rfl
  obtain ⟨M1, H1, e1, m1, k1⟩ := may_x h.m h.fit t a 8 true
  have h1 := h.to m1 h.fit k1
  rw [q119]
  simp only [Ab.bs, g41, g20, tInt, Cell.toPtr, e1]
  have fin : ∀ (y : Rn) (G : Heap), RunAt G b L N id cid pc y t i M1 c → ∃ H', ((f60 v 8 G).bind fun v6 => (some (id, 0)).bind fun v5 => (v6.2.put v5.1 (v5.2 + 45) [Cell.bool true]).bind fun v4 => (some (id, 0)).bind fun v3 => (v4.put v3.1 (v3.2 + 46) [Cell.int IntKind.u64 a]).bind fun v2 => (some (id, 0)).bind fun v1 => (v2.put v1.1 (v1.2 + 47) [Cell.int IntKind.u64 v6.1]).bind fun v0 => some ((), v0)) = some ((), H') ∧ RunAt H' b L N id cid pc { y with s := true, a := a, v := v } t i M1 c := by
    intro y G hy
    obtain ⟨G1, p1, hy1⟩ := hy.put (0 + 45) [.bool true] { y with s := true } (by simp) rfl hy.u
    obtain ⟨G2, p2, hy2⟩ := hy1.put (0 + 46) [.int .u64 a] { y with s := true, a := a } (by simp) rfl hy.u
    obtain ⟨G3, p3, hy3⟩ := hy2.put (0 + 47) [.int .u64 v] { y with s := true, a := a, v := v } (by simp) rfl hy.u
    exact ⟨G3, by simp only [f60_x _ 8 (show isW8 8 = true by decide), zx8 hv, Ab.bs, p1, p2, p3], hy3⟩
  unfold Rn.wr
  cases hm : mayA c.ars t a 8 true with
  | true =>
    obtain ⟨H', p1, p2⟩ := fin x H1 h1
    exact ⟨M1, H', by simp only [Bool.not_true, cf]; exact p1, p2⟩
  | false =>
    obtain ⟨H2, p1, h2⟩ := h1.fail 2
    obtain ⟨H', p3, p4⟩ := fin _ H2 h2
    exact ⟨M1, H', by simp only [Bool.not_false, ct, p1, Ab.bs]; exact p3, p4⟩
theorem RunAt.load (h : RunAt H b L N id cid pc x t i M c) (hN : N ≤ 1000000) (a : Int) : ∃ M' H', f117 (some (id, 0)) a 8 H = some ((loadC c t a 8).1, H') ∧ RunAt H' b L N id cid pc { x with e := if (loadC c t a 8).2 then x.e else if x.e = 0 then 2 else x.e } t i M' c := by
  have g41 : H.get id (0 + 41) = some (.ptr M.p) := (h.get _).trans rfl
  have g20 : H.get id (0 + 20) = some (.int .i64 t) := (h.get _).trans rfl
  obtain ⟨M1, H1, e1, m1, k1⟩ := load_x h.m h.fit hN t a 8
  have h1 := h.to m1 h.fit k1
  rw [q117]
  simp only [Ab.bs, g41, g20, tInt, Cell.toPtr, e1]
  cases hm : (loadC c t a 8).2 with
  | true => exact ⟨M1, H1, by simp only [Bool.not_true, cf], h1⟩
  | false =>
    obtain ⟨H2, p1, h2⟩ := h1.fail 2
    exact ⟨M1, H2, by simp only [Bool.not_false, ct, p1, Ab.bs], h2⟩
end
theorem tBool (b : Bool) : Cell.toBool (.bool b) = some b := rfl
def Rn.push (x : Rn) (ok : Bool) (v : Int) : Rn := { x.wr ok (IntKind.u64.wrap (x.r 4 - 8)) v with r := upd x.r 4 (IntKind.u64.wrap (x.r 4 - 8)) }
def Rn.pop (x : Rn) (ok : Bool) : Rn := { x with e := if ok then x.e else if x.e = 0 then 2 else x.e, r := upd x.r 4 (IntKind.u64.wrap (x.r 4 + 8)) }
theorem u64w (n : Int) : u64p (IntKind.u64.wrap n) := by unfold u64p; rw [wrap_u64]; omega
section
variable {H : Heap} {b L N id cid : Nat} {pc : List Cell} {x : Rn} {t : Int} {i : In} {M : Mm} {c : Co}
theorem RunAt.push (h : RunAt H b L N id cid pc x t i M c) {v : Int} (hv : u64p v) : ∃ M' H', f122 (some (id, 0)) v H = some ((), H') ∧ RunAt H' b L N id cid pc (x.push (mayA c.ars t (IntKind.u64.wrap (x.r 4 - 8)) 8 true) v) t i M' c := by
  have g4 : H.get id (0 + 0 + 0 + 4) = some (.int .u64 (x.r 4)) := (h.get _).trans rfl
  obtain ⟨M1, H1, e1, h1⟩ := h.store (IntKind.u64.wrap (x.r 4 - 8)) hv
  obtain ⟨H2, p2, h2⟩ := h1.put (0 + 0 + 0 + 4) [.int .u64 (IntKind.u64.wrap (x.r 4 - 8))] (x.push (mayA c.ars t (IntKind.u64.wrap (x.r 4 - 8)) 8 true) v) (by simp) rfl (upd_u h.u 4 (u64w _))
  rw [q122]
  exact ⟨M1, H2, by simp only [Ab.bs, g4, tInt, e1, p2], h2⟩
theorem RunAt.pop (h : RunAt H b L N id cid pc x t i M c) (hN : N ≤ 1000000) : ∃ M' H', f123 (some (id, 0)) H = some ((loadC c t (x.r 4) 8).1, H') ∧ RunAt H' b L N id cid pc (x.pop (loadC c t (x.r 4) 8).2) t i M' c := by
  have g4 : H.get id (0 + 0 + 0 + 4) = some (.int .u64 (x.r 4)) := (h.get _).trans rfl
  obtain ⟨M1, H1, e1, h1⟩ := h.load hN (x.r 4)
  have g4' : H1.get id (0 + 0 + 0 + 4) = some (.int .u64 (x.r 4)) := (h1.get _).trans rfl
  obtain ⟨H2, p2, h2⟩ := h1.put (0 + 0 + 0 + 4) [.int .u64 (IntKind.u64.wrap (x.r 4 + 8))] (x.pop (loadC c t (x.r 4) 8).2) (by simp) rfl (upd_u h.u 4 (u64w _))
  rw [q123]
  exact ⟨M1, H2, by simp only [Ab.bs, g4, g4', tInt, e1, p2], h2⟩
/-- Push and Pop of a register. -/
theorem RunAt.st14 (h : RunAt H b L N id cid pc x t i M c) (ho : i.op = 14) (hk : i.kind = 1) {k : Nat} (hr : i.reg = (k : Int)) (hk16 : k < 16) : ∃ M' H', f72 (some (id, 0)) H = some ((), H') ∧ RunAt H' b L N id cid pc (x.push (mayA c.ars t (IntKind.u64.wrap (x.r 4 - 8)) 8 true) (x.r k)) t i M' c := by
  have g0 : H.get id (0 + 21 + 0) = some (.int .i64 i.op) := (h.get _).trans rfl
  have g3 : H.get id (0 + 21 + 3) = some (.int .i64 i.kind) := (h.get _).trans rfl
  have g4 : H.get id (0 + 21 + 3 + 1) = some (.int .i64 i.reg) := (h.get _).trans rfl
  have g5 : H.get id (0 + 21 + 3 + 1 + 1) = some (.int .i64 0) := (h.get _).trans rfl
  have g6 : H.get id (0 + 21 + 3 + 1 + 1 + 1) = some (.int .i64 0) := (h.get _).trans rfl
  have g7 : H.get id (0 + 21 + 3 + 1 + 1 + 1 + 1) = some (.int .i64 0) := (h.get _).trans rfl
  have g8 : H.get id (0 + 21 + 3 + 1 + 1 + 1 + 1 + 1) = some (.int .i64 0) := (h.get _).trans rfl
  have e69 : f69 (some (id, 0)) 1 (k : Int) 0 0 0 0 8 H = some (x.r k, H) := by
    rw [q69, show ((1 : Int) == 1) = true from rfl, ct]
    simp only [Ab.bs, h.read k hk16]
  obtain ⟨M1, H1, e1, h1⟩ := h.push (h.u k)
  rw [q72]
  refine ⟨M1, H1, ?_, h1⟩
  rw [ho] at g0
  rw [hk] at g3
  rw [hr] at g4
  simp only [Ab.bs, g0, g3, g4, g5, g6, g7, g8, tInt, show ((14 : Int) == 14) = true from rfl, ct, e69, e1]
theorem RunAt.st15 (h : RunAt H b L N id cid pc x t i M c) (hN : N ≤ 1000000) (ho : i.op = 15) (hk : i.kind = 1) {k : Nat} (hr : i.reg = (k : Int)) (hk16 : k < 16) (hv : u64p (loadC c t (x.r 4) 8).1) : ∃ M' H', f72 (some (id, 0)) H = some ((), H') ∧ RunAt H' b L N id cid pc { x.pop (loadC c t (x.r 4) 8).2 with r := upd (upd x.r 4 (IntKind.u64.wrap (x.r 4 + 8))) k (loadC c t (x.r 4) 8).1 } t i M' c := by
  have g0 : H.get id (0 + 21 + 0) = some (.int .i64 i.op) := (h.get _).trans rfl
  obtain ⟨M1, H1, e1, h1⟩ := h.pop hN
  have g3 : H1.get id (0 + 21 + 3) = some (.int .i64 i.kind) := (h1.get _).trans rfl
  have g4 : H1.get id (0 + 21 + 3 + 1) = some (.int .i64 i.reg) := (h1.get _).trans rfl
  have g5 : H1.get id (0 + 21 + 3 + 1 + 1) = some (.int .i64 0) := (h1.get _).trans rfl
  have g6 : H1.get id (0 + 21 + 3 + 1 + 1 + 1) = some (.int .i64 0) := (h1.get _).trans rfl
  have g7 : H1.get id (0 + 21 + 3 + 1 + 1 + 1 + 1) = some (.int .i64 0) := (h1.get _).trans rfl
  have g8 : H1.get id (0 + 21 + 3 + 1 + 1 + 1 + 1 + 1) = some (.int .i64 0) := (h1.get _).trans rfl
  obtain ⟨H2, e2, h2⟩ := h1.write k hk16 hv
  have e70 : f70 (some (id, 0)) 1 (k : Int) 0 0 0 0 8 (loadC c t (x.r 4) 8).1 H1 = some ((), H2) := by
    rw [q70, show ((1 : Int) == 2) = false from rfl, cf]
    simp only [Ab.bs, e2]
  rw [q72]
  refine ⟨M1, H2, ?_, h2⟩
  rw [ho] at g0
  rw [hk] at g3
  rw [hr] at g4
  simp only [Ab.bs, g0, tInt, show ((15 : Int) == 14) = false from rfl, cf, e1, g3, g4, g5, g6, g7, g8, e70]
/-- Call and Ret. -/
theorem RunAt.st38 (h : RunAt H b L N id cid pc x t i M c) (ho : i.op = 38) (hk : i.kind = 0) (hn : u64p x.next) : ∃ M' H', f79 (some (id, 0)) H = some ((), H') ∧ RunAt H' b L N id cid pc { x.push (mayA c.ars t (IntKind.u64.wrap (x.r 4 - 8)) 8 true) x.next with ip := IntKind.u64.wrap (x.next + IntKind.u64.wrap i.imm) } t i M' c := by
  have g0 : H.get id (0 + 21 + 0) = some (.int .i64 i.op) := (h.get _).trans rfl
  have g3 : H.get id (0 + 21 + 3 + 0) = some (.int .i64 i.kind) := (h.get _).trans rfl
  have g43 : H.get id (0 + 43) = some (.int .u64 x.next) := (h.get _).trans rfl
  have g15 : H.get id (0 + 21 + 15) = some (.int .i64 i.imm) := (h.get _).trans rfl
  obtain ⟨M1, H1, e1, h1⟩ := h.push hn
  obtain ⟨H2, p2, h2⟩ := h1.put (0 + 0 + 19) [.int .u64 (IntKind.u64.wrap (x.next + IntKind.u64.wrap i.imm))] { x.push (mayA c.ars t (IntKind.u64.wrap (x.r 4 - 8)) 8 true) x.next with ip := IntKind.u64.wrap (x.next + IntKind.u64.wrap i.imm) } (by simp) rfl h1.u
  rw [ho] at g0
  rw [hk] at g3
  have e133 : f133 (some (id, 0)) H = some (IntKind.u64.wrap (x.next + IntKind.u64.wrap i.imm), H) := by
    rw [q133]
    simp only [Ab.bs, g3, tInt, show ((0 : Int) == 0) = true from rfl, ct, g43, g15]
  rw [q79]
  refine ⟨M1, H2, ?_, h2⟩
  simp only [Ab.bs, g0, tInt, show ((38 : Int) == 36) = false from rfl, show ((38 : Int) == 37) = false from rfl, show ((38 : Int) == 38) = true from rfl, cf, ct, e133, g43, e1, p2]
theorem RunAt.st39 (h : RunAt H b L N id cid pc x t i M c) (hN : N ≤ 1000000) (ho : i.op = 39) : ∃ M' H', f79 (some (id, 0)) H = some ((), H') ∧ RunAt H' b L N id cid pc { x.pop (loadC c t (x.r 4) 8).2 with ip := (loadC c t (x.r 4) 8).1 } t i M' c := by
  have g0 : H.get id (0 + 21 + 0) = some (.int .i64 i.op) := (h.get _).trans rfl
  obtain ⟨M1, H1, e1, h1⟩ := h.pop hN
  obtain ⟨H2, p2, h2⟩ := h1.put (0 + 0 + 19) [.int .u64 (loadC c t (x.r 4) 8).1] { x.pop (loadC c t (x.r 4) 8).2 with ip := (loadC c t (x.r 4) 8).1 } (by simp) rfl h1.u
  rw [ho] at g0
  rw [q79]
  refine ⟨M1, H2, ?_, h2⟩
  simp only [Ab.bs, g0, tInt, show ((39 : Int) == 36) = false from rfl, show ((39 : Int) == 37) = false from rfl, show ((39 : Int) == 38) = false from rfl, cf, e1, p2]
theorem RunAt.dost (h : RunAt H b L N id cid pc x t i M c) (ho : 13 < i.op ∧ i.op ≤ 15) : f37 (some (id, 0)) H = (f72 (some (id, 0)) H).bind fun v => some ((), v.2) := by
  have g0 : H.get id (0 + 21) = some (.int .i64 i.op) := (h.get _).trans rfl
  have g1 : H.get id (0 + 21 + 1) = some (.int .i64 8) := (h.get _).trans rfl
  have g2 : H.get id (0 + 21 + 1 + 1) = some (.int .i64 0) := (h.get _).trans rfl
  have g3 : H.get id (0 + 21 + 1 + 1 + 1) = some (.int .i64 i.kind) := (h.get _).trans rfl
  have g4 : H.get id (0 + 21 + 1 + 1 + 1 + 1) = some (.int .i64 i.reg) := (h.get _).trans rfl
  have g5 : H.get id (0 + 21 + 1 + 1 + 1 + 1 + 1) = some (.int .i64 0) := (h.get _).trans rfl
  have g6 : H.get id (0 + 21 + 1 + 1 + 1 + 1 + 1 + 1) = some (.int .i64 0) := (h.get _).trans rfl
  have g7 : H.get id (0 + 21 + 1 + 1 + 1 + 1 + 1 + 1 + 1) = some (.int .i64 0) := (h.get _).trans rfl
  have g8 : H.get id (0 + 21 + 1 + 1 + 1 + 1 + 1 + 1 + 1 + 1) = some (.int .i64 0) := (h.get _).trans rfl
  have g9 : H.get id (0 + 21 + 1 + 1 + 1 + 1 + 1 + 1 + 1 + 1 + 1) = some (.int .i64 0) := (h.get _).trans rfl
  have g10 : H.get id (0 + 21 + 1 + 1 + 1 + 1 + 1 + 1 + 1 + 1 + 1 + 1) = some (.int .i64 0) := (h.get _).trans rfl
  have g11 : H.get id (0 + 21 + 1 + 1 + 1 + 1 + 1 + 1 + 1 + 1 + 1 + 1 + 1) = some (.int .i64 0) := (h.get _).trans rfl
  have g12 : H.get id (0 + 21 + 1 + 1 + 1 + 1 + 1 + 1 + 1 + 1 + 1 + 1 + 1 + 1) = some (.int .i64 0) := (h.get _).trans rfl
  have g13 : H.get id (0 + 21 + 1 + 1 + 1 + 1 + 1 + 1 + 1 + 1 + 1 + 1 + 1 + 1 + 1) = some (.int .i64 0) := (h.get _).trans rfl
  have g14 : H.get id (0 + 21 + 1 + 1 + 1 + 1 + 1 + 1 + 1 + 1 + 1 + 1 + 1 + 1 + 1 + 1) = some (.int .i64 0) := (h.get _).trans rfl
  have g15 : H.get id (0 + 21 + 1 + 1 + 1 + 1 + 1 + 1 + 1 + 1 + 1 + 1 + 1 + 1 + 1 + 1 + 1) = some (.int .i64 i.imm) := (h.get _).trans rfl
  have g16 : H.get id (0 + 21 + 1 + 1 + 1 + 1 + 1 + 1 + 1 + 1 + 1 + 1 + 1 + 1 + 1 + 1 + 1 + 1) = some (.int .i64 0) := (h.get _).trans rfl
  have g17 : H.get id (0 + 21 + 1 + 1 + 1 + 1 + 1 + 1 + 1 + 1 + 1 + 1 + 1 + 1 + 1 + 1 + 1 + 1 + 1) = some (.bool false) := (h.get _).trans rfl
  have g18 : H.get id (0 + 21 + 1 + 1 + 1 + 1 + 1 + 1 + 1 + 1 + 1 + 1 + 1 + 1 + 1 + 1 + 1 + 1 + 1 + 1) = some (.bool false) := (h.get _).trans rfl
  have g19 : H.get id (0 + 21 + 1 + 1 + 1 + 1 + 1 + 1 + 1 + 1 + 1 + 1 + 1 + 1 + 1 + 1 + 1 + 1 + 1 + 1 + 1) = some (.int .i64 i.len) := (h.get _).trans rfl
  rw [q37]
  simp only [Ab.bs, g0, g1, g2, g3, g4, g5, g6, g7, g8, g9, g10, g11, g12, g13, g14, g15, g16, g17, g18, g19, tInt, tBool, dF (show ¬ i.op ≤ 9 by omega), dF (show ¬ i.op ≤ 13 by omega), dT ho.2, ct, cf]
theorem RunAt.doj (h : RunAt H b L N id cid pc x t i M c) (ho : 35 < i.op ∧ i.op ≤ 39) : f37 (some (id, 0)) H = (f79 (some (id, 0)) H).bind fun v => some ((), v.2) := by
  have g0 : H.get id (0 + 21) = some (.int .i64 i.op) := (h.get _).trans rfl
  have g1 : H.get id (0 + 21 + 1) = some (.int .i64 8) := (h.get _).trans rfl
  have g2 : H.get id (0 + 21 + 1 + 1) = some (.int .i64 0) := (h.get _).trans rfl
  have g3 : H.get id (0 + 21 + 1 + 1 + 1) = some (.int .i64 i.kind) := (h.get _).trans rfl
  have g4 : H.get id (0 + 21 + 1 + 1 + 1 + 1) = some (.int .i64 i.reg) := (h.get _).trans rfl
  have g5 : H.get id (0 + 21 + 1 + 1 + 1 + 1 + 1) = some (.int .i64 0) := (h.get _).trans rfl
  have g6 : H.get id (0 + 21 + 1 + 1 + 1 + 1 + 1 + 1) = some (.int .i64 0) := (h.get _).trans rfl
  have g7 : H.get id (0 + 21 + 1 + 1 + 1 + 1 + 1 + 1 + 1) = some (.int .i64 0) := (h.get _).trans rfl
  have g8 : H.get id (0 + 21 + 1 + 1 + 1 + 1 + 1 + 1 + 1 + 1) = some (.int .i64 0) := (h.get _).trans rfl
  have g9 : H.get id (0 + 21 + 1 + 1 + 1 + 1 + 1 + 1 + 1 + 1 + 1) = some (.int .i64 0) := (h.get _).trans rfl
  have g10 : H.get id (0 + 21 + 1 + 1 + 1 + 1 + 1 + 1 + 1 + 1 + 1 + 1) = some (.int .i64 0) := (h.get _).trans rfl
  have g11 : H.get id (0 + 21 + 1 + 1 + 1 + 1 + 1 + 1 + 1 + 1 + 1 + 1 + 1) = some (.int .i64 0) := (h.get _).trans rfl
  have g12 : H.get id (0 + 21 + 1 + 1 + 1 + 1 + 1 + 1 + 1 + 1 + 1 + 1 + 1 + 1) = some (.int .i64 0) := (h.get _).trans rfl
  have g13 : H.get id (0 + 21 + 1 + 1 + 1 + 1 + 1 + 1 + 1 + 1 + 1 + 1 + 1 + 1 + 1) = some (.int .i64 0) := (h.get _).trans rfl
  have g14 : H.get id (0 + 21 + 1 + 1 + 1 + 1 + 1 + 1 + 1 + 1 + 1 + 1 + 1 + 1 + 1 + 1) = some (.int .i64 0) := (h.get _).trans rfl
  have g15 : H.get id (0 + 21 + 1 + 1 + 1 + 1 + 1 + 1 + 1 + 1 + 1 + 1 + 1 + 1 + 1 + 1 + 1) = some (.int .i64 i.imm) := (h.get _).trans rfl
  have g16 : H.get id (0 + 21 + 1 + 1 + 1 + 1 + 1 + 1 + 1 + 1 + 1 + 1 + 1 + 1 + 1 + 1 + 1 + 1) = some (.int .i64 0) := (h.get _).trans rfl
  have g17 : H.get id (0 + 21 + 1 + 1 + 1 + 1 + 1 + 1 + 1 + 1 + 1 + 1 + 1 + 1 + 1 + 1 + 1 + 1 + 1) = some (.bool false) := (h.get _).trans rfl
  have g18 : H.get id (0 + 21 + 1 + 1 + 1 + 1 + 1 + 1 + 1 + 1 + 1 + 1 + 1 + 1 + 1 + 1 + 1 + 1 + 1 + 1) = some (.bool false) := (h.get _).trans rfl
  have g19 : H.get id (0 + 21 + 1 + 1 + 1 + 1 + 1 + 1 + 1 + 1 + 1 + 1 + 1 + 1 + 1 + 1 + 1 + 1 + 1 + 1 + 1) = some (.int .i64 i.len) := (h.get _).trans rfl
  rw [q37]
  simp only [Ab.bs, g0, g1, g2, g3, g4, g5, g6, g7, g8, g9, g10, g11, g12, g13, g14, g15, g16, g17, g18, g19, tInt, tBool, dF (show ¬ i.op ≤ 9 by omega), dF (show ¬ i.op ≤ 13 by omega), dF (show ¬ i.op ≤ 15 by omega), dF (show ¬ i.op ≤ 19 by omega), dF (show ¬ i.op ≤ 25 by omega), dF (show ¬ i.op ≤ 30 by omega), dF (show ¬ i.op ≤ 33 by omega), dF (show ¬ i.op ≤ 35 by omega), dT ho.2, ct, cf]
theorem RunAt.lock (h : RunAt H b L N id cid pc x t i M c) (ho : i.op ≠ 31) : f36 (some (id, 0)) H = some (false, H) := by
  have g0 : H.get id (0 + 21 + 0) = some (.int .i64 i.op) := (h.get _).trans rfl
  have g17 : H.get id (0 + 21 + 17) = some (.bool false) := (h.get _).trans rfl
  have : (i.op == 31) = false := by simpa using ho
  rw [q36]
  simp only [Ab.bs, g0, g17, tInt, tBool, this, cf]
end
/-- A cpu. -/
structure Cp where
  r : Nat → Int
  C : Bool
  O : Bool
  res : Int
  ip : Int
def Cp.row (x : Cp) : List Cell := [.int .u64 (x.r 0), .int .u64 (x.r 1), .int .u64 (x.r 2), .int .u64 (x.r 3), .int .u64 (x.r 4), .int .u64 (x.r 5), .int .u64 (x.r 6), .int .u64 (x.r 7), .int .u64 (x.r 8), .int .u64 (x.r 9), .int .u64 (x.r 10), .int .u64 (x.r 11), .int .u64 (x.r 12), .int .u64 (x.r 13), .int .u64 (x.r 14), .int .u64 (x.r 15), .bool x.C, .bool x.O, .int .u64 x.res, .int .u64 x.ip]
structure CAt (H : Heap) (b L N cid : Nat) (x : Cp) (M : Mm) (c : Co) : Prop where
  cpu : H[cid]? = some (.row x.row false)
  m : M.Is H L c
  fit : c.Fit N
  out : ¬ M.In cid
  u : ∀ k, u64p (x.r k)
  bb : M.b = b
theorem CAt.no {H H' : Heap} {b L N cid : Nat} {x : Cp} {M : Mm} {c : Co} (h : CAt H b L N cid x M c) (k : Kp No H H') : CAt H' b L N cid x M c := ⟨k.bk h.cpu, h.m.no k, h.fit, h.out, h.u, h.bb⟩
/-- What a step begins with. -/
def Cp.run (x : Cp) (next : Int) : Rn := ⟨x.r, x.C, x.O, x.res, next, x.ip, next, 0, false, 0, 0⟩
def Rn.cp (y : Rn) : Cp := ⟨y.r, y.C, y.O, y.res, y.ip⟩
theorem RunAt.gs {G : Heap} {b L N id cid : Nat} {pc : List Cell} {y : Rn} {t : Int} {i : In} {M : Mm} {c : Co} (h : RunAt G b L N id cid pc y t i M c) : G.get id 0 = some (.int .u64 (y.r 0)) ∧ G.get id 1 = some (.int .u64 (y.r 1)) ∧ G.get id 2 = some (.int .u64 (y.r 2)) ∧ G.get id 3 = some (.int .u64 (y.r 3)) ∧ G.get id 4 = some (.int .u64 (y.r 4)) ∧ G.get id 5 = some (.int .u64 (y.r 5)) ∧ G.get id 6 = some (.int .u64 (y.r 6)) ∧ G.get id 7 = some (.int .u64 (y.r 7)) ∧ G.get id 8 = some (.int .u64 (y.r 8)) ∧ G.get id 9 = some (.int .u64 (y.r 9)) ∧ G.get id 10 = some (.int .u64 (y.r 10)) ∧ G.get id 11 = some (.int .u64 (y.r 11)) ∧ G.get id 12 = some (.int .u64 (y.r 12)) ∧ G.get id 13 = some (.int .u64 (y.r 13)) ∧ G.get id 14 = some (.int .u64 (y.r 14)) ∧ G.get id 15 = some (.int .u64 (y.r 15)) ∧ G.get id 16 = some (.bool y.C) ∧ G.get id 17 = some (.bool y.O) ∧ G.get id 18 = some (.int .u64 y.res) ∧ G.get id 19 = some (.int .u64 y.ip) := by
  refine ⟨?_, ?_, ?_, ?_, ?_, ?_, ?_, ?_, ?_, ?_, ?_, ?_, ?_, ?_, ?_, ?_, ?_, ?_, ?_, ?_⟩ <;> exact (h.get _).trans rfl
theorem RunAt.fin {G : Heap} {b L N id cid : Nat} {x : Cp} {y : Rn} {t : Int} {i : In} {M : Mm} {c : Co} (h : RunAt G b L N id cid x.row y t i M c) : ∃ G', G.put cid 0 [.int .u64 (y.r 0), .int .u64 (y.r 1), .int .u64 (y.r 2), .int .u64 (y.r 3), .int .u64 (y.r 4), .int .u64 (y.r 5), .int .u64 (y.r 6), .int .u64 (y.r 7), .int .u64 (y.r 8), .int .u64 (y.r 9), .int .u64 (y.r 10), .int .u64 (y.r 11), .int .u64 (y.r 12), .int .u64 (y.r 13), .int .u64 (y.r 14), .int .u64 (y.r 15), .bool y.C, .bool y.O, .int .u64 y.res, .int .u64 y.ip] = some G' ∧ G'.get id 44 = some (.int .i64 y.e) ∧ CAt G' b L N cid y.cp M c := by
  have kq : Kp (One cid) G (G.set cid (.row y.cp.row false)) := Kp.set _ _ _
  refine ⟨_, put_of h.cpu (by simp [Cp.row]), ?_, ?_⟩
  · exact kq.get (i := id) ((h.get 44).trans rfl) (fun e => h.ne (by have : id = cid := e; exact this.symm))
  · exact ⟨set_get' (lt_of h.cpu), h.m.other kq (fun j hj e => h.cout (by have : j = cid := e; rwa [this] at hj)), h.fit, h.cout, h.u, h.bb⟩
theorem step_x {H H0 : Heap} {b L N cid : Nat} {x : Cp} {M : Mm} {c : Co} (h : CAt H b L N cid x M c) (hN : N < 65536) (i : In) (hop : i.op = 14 ∨ i.op = 15 ∨ i.op = 38 ∨ i.op = 39)
    (hmay : f34 i.op 8 0 i.kind i.reg 0 0 0 0 0 0 0 0 0 0 i.imm 0 false false i.len H = some (true, H0)) (hk0 : Kp No H H0) {y : Rn}
    (hdo : ∀ G id M1, RunAt G b L N id cid x.row (x.run (IntKind.u64.wrap (x.ip + IntKind.u64.wrap i.len))) 0 i M1 c → ∃ M' G', f37 (some (id, 0)) G = some ((), G') ∧ RunAt G' b L N id cid x.row y 0 i M' c) :
    (y.e ≠ 0 → y.e ≠ 7 → ∃ M' H', f12 (some (cid, 0)) 0 i.op 8 0 i.kind i.reg 0 0 0 0 0 0 0 0 0 0 i.imm 0 false false i.len (some (b, 0)) H = some (y.e, H') ∧ CAt H' b L N cid x M' c) ∧
    (y.e = 0 → y.s = true → ∃ M' H', f12 (some (cid, 0)) 0 i.op 8 0 i.kind i.reg 0 0 0 0 0 0 0 0 0 0 i.imm 0 false false i.len (some (b, 0)) H = some (0, H') ∧ CAt H' b L (N + 1) cid y.cp M' (storeC c 0 y.a 8 y.v).2) ∧
    (y.e = 0 → y.s = false → ∃ M' H', f12 (some (cid, 0)) 0 i.op 8 0 i.kind i.reg 0 0 0 0 0 0 0 0 0 0 i.imm 0 false false i.len (some (b, 0)) H = some (0, H') ∧ CAt H' b L N cid y.cp M' c) := by
  have h0 := h.no hk0
  have hc0 := h0.cpu
  have c0 : H0.get cid 0 = some (.int .u64 (x.r 0)) := (get_of hc0 _).trans rfl
  have c1 : H0.get cid (0 + 1) = some (.int .u64 (x.r 1)) := (get_of hc0 _).trans rfl
  have c2 : H0.get cid (0 + 1 + 1) = some (.int .u64 (x.r 2)) := (get_of hc0 _).trans rfl
  have c3 : H0.get cid (0 + 1 + 1 + 1) = some (.int .u64 (x.r 3)) := (get_of hc0 _).trans rfl
  have c4 : H0.get cid (0 + 1 + 1 + 1 + 1) = some (.int .u64 (x.r 4)) := (get_of hc0 _).trans rfl
  have c5 : H0.get cid (0 + 1 + 1 + 1 + 1 + 1) = some (.int .u64 (x.r 5)) := (get_of hc0 _).trans rfl
  have c6 : H0.get cid (0 + 1 + 1 + 1 + 1 + 1 + 1) = some (.int .u64 (x.r 6)) := (get_of hc0 _).trans rfl
  have c7 : H0.get cid (0 + 1 + 1 + 1 + 1 + 1 + 1 + 1) = some (.int .u64 (x.r 7)) := (get_of hc0 _).trans rfl
  have c8 : H0.get cid (0 + 1 + 1 + 1 + 1 + 1 + 1 + 1 + 1) = some (.int .u64 (x.r 8)) := (get_of hc0 _).trans rfl
  have c9 : H0.get cid (0 + 1 + 1 + 1 + 1 + 1 + 1 + 1 + 1 + 1) = some (.int .u64 (x.r 9)) := (get_of hc0 _).trans rfl
  have c10 : H0.get cid (0 + 1 + 1 + 1 + 1 + 1 + 1 + 1 + 1 + 1 + 1) = some (.int .u64 (x.r 10)) := (get_of hc0 _).trans rfl
  have c11 : H0.get cid (0 + 1 + 1 + 1 + 1 + 1 + 1 + 1 + 1 + 1 + 1 + 1) = some (.int .u64 (x.r 11)) := (get_of hc0 _).trans rfl
  have c12 : H0.get cid (0 + 1 + 1 + 1 + 1 + 1 + 1 + 1 + 1 + 1 + 1 + 1 + 1) = some (.int .u64 (x.r 12)) := (get_of hc0 _).trans rfl
  have c13 : H0.get cid (0 + 1 + 1 + 1 + 1 + 1 + 1 + 1 + 1 + 1 + 1 + 1 + 1 + 1) = some (.int .u64 (x.r 13)) := (get_of hc0 _).trans rfl
  have c14 : H0.get cid (0 + 1 + 1 + 1 + 1 + 1 + 1 + 1 + 1 + 1 + 1 + 1 + 1 + 1 + 1) = some (.int .u64 (x.r 14)) := (get_of hc0 _).trans rfl
  have c15 : H0.get cid (0 + 1 + 1 + 1 + 1 + 1 + 1 + 1 + 1 + 1 + 1 + 1 + 1 + 1 + 1 + 1) = some (.int .u64 (x.r 15)) := (get_of hc0 _).trans rfl
  have c16 : H0.get cid (0 + 1 + 1 + 1 + 1 + 1 + 1 + 1 + 1 + 1 + 1 + 1 + 1 + 1 + 1 + 1 + 1) = some (.bool x.C) := (get_of hc0 _).trans rfl
  have c17 : H0.get cid (0 + 1 + 1 + 1 + 1 + 1 + 1 + 1 + 1 + 1 + 1 + 1 + 1 + 1 + 1 + 1 + 1 + 1) = some (.bool x.O) := (get_of hc0 _).trans rfl
  have c18 : H0.get cid (0 + 1 + 1 + 1 + 1 + 1 + 1 + 1 + 1 + 1 + 1 + 1 + 1 + 1 + 1 + 1 + 1 + 1 + 1) = some (.int .u64 x.res) := (get_of hc0 _).trans rfl
  have c19 : H0.get cid (0 + 1 + 1 + 1 + 1 + 1 + 1 + 1 + 1 + 1 + 1 + 1 + 1 + 1 + 1 + 1 + 1 + 1 + 1 + 1) = some (.int .u64 x.ip) := (get_of hc0 _).trans rfl
  have c19' : H0.get cid (0 + 19) = some (.int .u64 x.ip) := (get_of hc0 _).trans rfl
  obtain ⟨nx, hnx⟩ : ∃ nx, nx = IntKind.u64.wrap (x.ip + IntKind.u64.wrap i.len) := ⟨_, rfl⟩
  rw [← hnx] at hdo
  have e35 : f35 i.op 8 0 i.kind i.reg 0 0 0 0 0 0 0 0 0 0 i.imm 0 false false i.len x.ip H0 = some (nx, H0) := by rw [q35, hnx]
  have hsm : ∀ k, same k H0 H0 = true := fun k => same_iff.2 rfl
  have hlt := lt_of hc0
  have kP : Kp No H0 (H0 ++ [Blk.row (({ x.run nx with ip := x.ip } : Rn).row 0 i M.p) false]) := Kp.push1 _ _
  have R0 : RunAt (H0 ++ [Blk.row (({ x.run nx with ip := x.ip } : Rn).row 0 i M.p) false]) b L N H0.length cid x.row { x.run nx with ip := x.ip } 0 i M c :=
    ⟨push_get _ _, h0.m.no kP, h.fit, fun g => by have := h0.m.lt g; omega, kP.bk hc0, by omega, h.out, h.u, h.bb⟩
  have g43 : (H0 ++ [Blk.row (({ x.run nx with ip := x.ip } : Rn).row 0 i M.p) false] : Heap).get H0.length 43 = some (.int .u64 nx) := (R0.get _).trans rfl
  obtain ⟨G1, p1, R1⟩ := R0.put 19 [.int .u64 nx] (x.run nx) (by simp) rfl h.u
  have e36 := R1.lock (by omega)
  obtain ⟨M2, G, e37, hG⟩ := hdo G1 H0.length M R1
  have n1 : (i.op == 44) = false := by rcases hop with e | e | e | e <;> rw [e] <;> rfl
  have n2 : (i.op == 46) = false := by rcases hop with e | e | e | e <;> rw [e] <;> rfl
  have hgid : G.get H0.length 44 = some (.int .i64 y.e) := (hG.get _).trans rfl
  have hgs : G.get H0.length 45 = some (.bool y.s) := (hG.get _).trans rfl
  have hga : G.get H0.length 46 = some (.int .u64 y.a) := (hG.get _).trans rfl
  have hgv : G.get H0.length 47 = some (.int .u64 y.v) := (hG.get _).trans rfl
  have hL36 := hG.lock (by omega)
  have hrow : ({ x.run nx with ip := x.ip } : Rn).row 0 i M.p = [.int .u64 (x.r 0), .int .u64 (x.r 1), .int .u64 (x.r 2), .int .u64 (x.r 3), .int .u64 (x.r 4), .int .u64 (x.r 5), .int .u64 (x.r 6), .int .u64 (x.r 7), .int .u64 (x.r 8), .int .u64 (x.r 9), .int .u64 (x.r 10), .int .u64 (x.r 11), .int .u64 (x.r 12), .int .u64 (x.r 13), .int .u64 (x.r 14), .int .u64 (x.r 15), .bool x.C, .bool x.O, .int .u64 x.res, .int .u64 x.ip, .int .i64 0, .int .i64 i.op, .int .i64 8, .int .i64 0, .int .i64 i.kind, .int .i64 i.reg, .int .i64 0, .int .i64 0, .int .i64 0, .int .i64 0, .int .i64 0, .int .i64 0, .int .i64 0, .int .i64 0, .int .i64 0, .int .i64 0, .int .i64 i.imm, .int .i64 0, .bool false, .bool false, .int .i64 i.len, .ptr (some (b, 0)), .int .u64 x.ip, .int .u64 nx, .int .i64 0, .bool false, .int .u64 0, .int .u64 0] := by
    rw [← h.bb]; rfl
  rw [hrow] at g43 p1
  have hnn : (some (cid, 0) : Option (Nat × Nat)).isNone = false := rfl
  refine ⟨fun he h7 => ⟨M2, G, ?_, hG.cpu, hG.m, hG.fit, hG.cout, h.u, hG.bb⟩, fun he hs => ?_, fun he hs => ?_⟩
  · have t1 : (y.e != 0) = true := by simpa using he
    have t2 : (y.e != 7) = true := by simpa using h7
    rw [q12]
    refine cdf hnn ?_
    refine bnd hmay ?_
    refine cdf rfl ?_
    refine bnd rfl ?_
    refine bnd c0 ?_
    refine bnd c1 ?_
    refine bnd c2 ?_
    refine bnd c3 ?_
    refine bnd c4 ?_
    refine bnd c5 ?_
    refine bnd c6 ?_
    refine bnd c7 ?_
    refine bnd c8 ?_
    refine bnd c9 ?_
    refine bnd c10 ?_
    refine bnd c11 ?_
    refine bnd c12 ?_
    refine bnd c13 ?_
    refine bnd c14 ?_
    refine bnd c15 ?_
    refine bnd c16 ?_
    refine bnd c17 ?_
    refine bnd c18 ?_
    refine bnd c19 ?_
    refine bnd (tInt _ _) ?_
    refine bnd (tInt _ _) ?_
    refine bnd (tInt _ _) ?_
    refine bnd (tInt _ _) ?_
    refine bnd (tInt _ _) ?_
    refine bnd (tInt _ _) ?_
    refine bnd (tInt _ _) ?_
    refine bnd (tInt _ _) ?_
    refine bnd (tInt _ _) ?_
    refine bnd (tInt _ _) ?_
    refine bnd (tInt _ _) ?_
    refine bnd (tInt _ _) ?_
    refine bnd (tInt _ _) ?_
    refine bnd (tInt _ _) ?_
    refine bnd (tInt _ _) ?_
    refine bnd (tInt _ _) ?_
    refine bnd (tBool _) ?_
    refine bnd (tBool _) ?_
    refine bnd (tInt _ _) ?_
    refine bnd (tInt _ _) ?_
    refine bnd rfl ?_
    refine bnd c19' ?_
    refine bnd (tInt _ _) ?_
    refine bnd rfl ?_
    refine bnd c19' ?_
    refine bnd (tInt _ _) ?_
    refine bnd e35 ?_
    refine cdt (hsm _) ?_
    refine cdt (hsm _) ?_
    refine bnd g43 ?_
    refine bnd (tInt _ _) ?_
    refine bnd p1 ?_
    refine bnd e36 ?_
    refine cdf rfl ?_
    refine cdf n1 ?_
    refine cdf n2 ?_
    refine bnd e37 ?_
    refine bnd hgid ?_
    refine bnd (tInt _ _) ?_
    refine cdt t1 ?_
    refine bnd hgid ?_
    refine bnd (tInt _ _) ?_
    refine cdt t2 ?_
    refine bnd hgid ?_
    refine bnd (tInt _ _) ?_
    rfl
  · have t1 : (y.e != 0) = false := by simp [he]
    obtain ⟨M3, G3, e32, m3, k3⟩ := store_x hG.m hG.fit hN 0 y.a 8 y.v
    have hp : M2.p = some (b, 0) := by unfold Mm.p; rw [hG.bb]
    rw [hp] at e32
    have hG3 : RunAt G3 b L (N + 1) H0.length cid x.row y 0 i M3 (storeC c 0 y.a 8 y.v).2 := by
      have hq : M3.p = M2.p := by unfold Mm.p; rw [k3.b]
      refine ⟨by rw [hq]; exact k3.k.at hG.row hG.out, m3, store_fit hG.fit 0 y.a 8 y.v, fun g => ?_, k3.k.at hG.cpu hG.cout, hG.ne, fun g => ?_, hG.u, k3.b.trans hG.bb⟩
      · rcases k3.ids _ g with g | g
        · exact hG.out g
        · have := lt_of hG.row; omega
      · rcases k3.ids cid g with g | g
        · exact hG.cout g
        · have := lt_of hG.cpu; omega
    obtain ⟨g0, g1, g2, g3, g4, g5, g6, g7, g8, g9, g10, g11, g12, g13, g14, g15, g16, g17, g18, g19⟩ := hG3.gs
    obtain ⟨G4, p4, ge, hC⟩ := hG3.fin
    rw [he] at ge
    refine ⟨M3, G4, ?_, hC⟩
    rw [q12]
    refine cdf hnn ?_
    refine bnd hmay ?_
    refine cdf rfl ?_
    refine bnd rfl ?_
    refine bnd c0 ?_
    refine bnd c1 ?_
    refine bnd c2 ?_
    refine bnd c3 ?_
    refine bnd c4 ?_
    refine bnd c5 ?_
    refine bnd c6 ?_
    refine bnd c7 ?_
    refine bnd c8 ?_
    refine bnd c9 ?_
    refine bnd c10 ?_
    refine bnd c11 ?_
    refine bnd c12 ?_
    refine bnd c13 ?_
    refine bnd c14 ?_
    refine bnd c15 ?_
    refine bnd c16 ?_
    refine bnd c17 ?_
    refine bnd c18 ?_
    refine bnd c19 ?_
    refine bnd (tInt _ _) ?_
    refine bnd (tInt _ _) ?_
    refine bnd (tInt _ _) ?_
    refine bnd (tInt _ _) ?_
    refine bnd (tInt _ _) ?_
    refine bnd (tInt _ _) ?_
    refine bnd (tInt _ _) ?_
    refine bnd (tInt _ _) ?_
    refine bnd (tInt _ _) ?_
    refine bnd (tInt _ _) ?_
    refine bnd (tInt _ _) ?_
    refine bnd (tInt _ _) ?_
    refine bnd (tInt _ _) ?_
    refine bnd (tInt _ _) ?_
    refine bnd (tInt _ _) ?_
    refine bnd (tInt _ _) ?_
    refine bnd (tBool _) ?_
    refine bnd (tBool _) ?_
    refine bnd (tInt _ _) ?_
    refine bnd (tInt _ _) ?_
    refine bnd rfl ?_
    refine bnd c19' ?_
    refine bnd (tInt _ _) ?_
    refine bnd rfl ?_
    refine bnd c19' ?_
    refine bnd (tInt _ _) ?_
    refine bnd e35 ?_
    refine cdt (hsm _) ?_
    refine cdt (hsm _) ?_
    refine bnd g43 ?_
    refine bnd (tInt _ _) ?_
    refine bnd p1 ?_
    refine bnd e36 ?_
    refine cdf rfl ?_
    refine cdf n1 ?_
    refine cdf n2 ?_
    refine bnd e37 ?_
    refine bnd hgid ?_
    refine bnd (tInt _ _) ?_
    refine cdf t1 ?_
    refine bnd hgs ?_
    refine bnd (tBool _) ?_
    refine cdt hs ?_
    refine bnd hL36 ?_
    refine cdf rfl ?_
    refine bnd hga ?_
    refine bnd (tInt _ _) ?_
    refine bnd hgv ?_
    refine bnd (tInt _ _) ?_
    refine bnd e32 ?_
    refine bnd g0 ?_
    refine bnd g1 ?_
    refine bnd g2 ?_
    refine bnd g3 ?_
    refine bnd g4 ?_
    refine bnd g5 ?_
    refine bnd g6 ?_
    refine bnd g7 ?_
    refine bnd g8 ?_
    refine bnd g9 ?_
    refine bnd g10 ?_
    refine bnd g11 ?_
    refine bnd g12 ?_
    refine bnd g13 ?_
    refine bnd g14 ?_
    refine bnd g15 ?_
    refine bnd g16 ?_
    refine bnd g17 ?_
    refine bnd g18 ?_
    refine bnd g19 ?_
    refine bnd (tInt _ _) ?_
    refine bnd (tInt _ _) ?_
    refine bnd (tInt _ _) ?_
    refine bnd (tInt _ _) ?_
    refine bnd (tInt _ _) ?_
    refine bnd (tInt _ _) ?_
    refine bnd (tInt _ _) ?_
    refine bnd (tInt _ _) ?_
    refine bnd (tInt _ _) ?_
    refine bnd (tInt _ _) ?_
    refine bnd (tInt _ _) ?_
    refine bnd (tInt _ _) ?_
    refine bnd (tInt _ _) ?_
    refine bnd (tInt _ _) ?_
    refine bnd (tInt _ _) ?_
    refine bnd (tInt _ _) ?_
    refine bnd (tBool _) ?_
    refine bnd (tBool _) ?_
    refine bnd (tInt _ _) ?_
    refine bnd (tInt _ _) ?_
    refine bnd rfl ?_
    refine bnd p4 ?_
    refine bnd ge ?_
    refine bnd (tInt _ _) ?_
    rfl
  · have t1 : (y.e != 0) = false := by simp [he]
    obtain ⟨g0, g1, g2, g3, g4, g5, g6, g7, g8, g9, g10, g11, g12, g13, g14, g15, g16, g17, g18, g19⟩ := hG.gs
    obtain ⟨G4, p4, ge, hC⟩ := hG.fin
    rw [he] at ge
    refine ⟨M2, G4, ?_, hC⟩
    rw [q12]
    refine cdf hnn ?_
    refine bnd hmay ?_
    refine cdf rfl ?_
    refine bnd rfl ?_
    refine bnd c0 ?_
    refine bnd c1 ?_
    refine bnd c2 ?_
    refine bnd c3 ?_
    refine bnd c4 ?_
    refine bnd c5 ?_
    refine bnd c6 ?_
    refine bnd c7 ?_
    refine bnd c8 ?_
    refine bnd c9 ?_
    refine bnd c10 ?_
    refine bnd c11 ?_
    refine bnd c12 ?_
    refine bnd c13 ?_
    refine bnd c14 ?_
    refine bnd c15 ?_
    refine bnd c16 ?_
    refine bnd c17 ?_
    refine bnd c18 ?_
    refine bnd c19 ?_
    refine bnd (tInt _ _) ?_
    refine bnd (tInt _ _) ?_
    refine bnd (tInt _ _) ?_
    refine bnd (tInt _ _) ?_
    refine bnd (tInt _ _) ?_
    refine bnd (tInt _ _) ?_
    refine bnd (tInt _ _) ?_
    refine bnd (tInt _ _) ?_
    refine bnd (tInt _ _) ?_
    refine bnd (tInt _ _) ?_
    refine bnd (tInt _ _) ?_
    refine bnd (tInt _ _) ?_
    refine bnd (tInt _ _) ?_
    refine bnd (tInt _ _) ?_
    refine bnd (tInt _ _) ?_
    refine bnd (tInt _ _) ?_
    refine bnd (tBool _) ?_
    refine bnd (tBool _) ?_
    refine bnd (tInt _ _) ?_
    refine bnd (tInt _ _) ?_
    refine bnd rfl ?_
    refine bnd c19' ?_
    refine bnd (tInt _ _) ?_
    refine bnd rfl ?_
    refine bnd c19' ?_
    refine bnd (tInt _ _) ?_
    refine bnd e35 ?_
    refine cdt (hsm _) ?_
    refine cdt (hsm _) ?_
    refine bnd g43 ?_
    refine bnd (tInt _ _) ?_
    refine bnd p1 ?_
    refine bnd e36 ?_
    refine cdf rfl ?_
    refine cdf n1 ?_
    refine cdf n2 ?_
    refine bnd e37 ?_
    refine bnd hgid ?_
    refine bnd (tInt _ _) ?_
    refine cdf t1 ?_
    refine bnd hgs ?_
    refine bnd (tBool _) ?_
    refine cdf hs ?_
    refine bnd g0 ?_
    refine bnd g1 ?_
    refine bnd g2 ?_
    refine bnd g3 ?_
    refine bnd g4 ?_
    refine bnd g5 ?_
    refine bnd g6 ?_
    refine bnd g7 ?_
    refine bnd g8 ?_
    refine bnd g9 ?_
    refine bnd g10 ?_
    refine bnd g11 ?_
    refine bnd g12 ?_
    refine bnd g13 ?_
    refine bnd g14 ?_
    refine bnd g15 ?_
    refine bnd g16 ?_
    refine bnd g17 ?_
    refine bnd g18 ?_
    refine bnd g19 ?_
    refine bnd (tInt _ _) ?_
    refine bnd (tInt _ _) ?_
    refine bnd (tInt _ _) ?_
    refine bnd (tInt _ _) ?_
    refine bnd (tInt _ _) ?_
    refine bnd (tInt _ _) ?_
    refine bnd (tInt _ _) ?_
    refine bnd (tInt _ _) ?_
    refine bnd (tInt _ _) ?_
    refine bnd (tInt _ _) ?_
    refine bnd (tInt _ _) ?_
    refine bnd (tInt _ _) ?_
    refine bnd (tInt _ _) ?_
    refine bnd (tInt _ _) ?_
    refine bnd (tInt _ _) ?_
    refine bnd (tInt _ _) ?_
    refine bnd (tBool _) ?_
    refine bnd (tBool _) ?_
    refine bnd (tInt _ _) ?_
    refine bnd (tInt _ _) ?_
    refine bnd rfl ?_
    refine bnd p4 ?_
    refine bnd ge ?_
    refine bnd (tInt _ _) ?_
    rfl
theorem in_x (i0 i1 i2 i3 i4 i5 i6 i7 i8 i9 i10 i11 i12 i13 i14 i15 i16 : Int) (i17 i18 : Bool) (i19 lo hi : Int) (H : Heap) : f52 i0 i1 i2 i3 i4 i5 i6 i7 i8 i9 i10 i11 i12 i13 i14 i15 i16 i17 i18 i19 lo hi H = some (decide (i0 ≥ lo) && decide (i0 ≤ hi), H) := by
  rw [q52]
  cases decide (i0 ≥ lo) <;> rfl
theorem f110_x (H : Heap) (k0 : Int) (rest : List Cell) (n : Nat) (o1 o2 o3 o4 o5 : Int) {v : Bool} (h : ∀ G, f159 k0 o1 o2 o3 o4 o5 G = some (v, G)) :
    f110 k0 o1 o2 o3 o4 o5 (some ⟨H.length, 0, n + 1, n + 1, 1⟩) (H ++ [Blk.row (.int .i64 k0 :: rest) false]) = some (v, H ++ [Blk.row (.int .i64 k0 :: rest) false]) := by
  obtain ⟨m, hm⟩ := LL110_2_of 0 (by omega) (some ⟨H.length, 0, n + 1, n + 1, 1⟩) ((n + 1 : Nat) : Int) 0 k0 o1 o2 o3 o4 o5 (H ++ [Blk.row (.int .i64 k0 :: rest) false])
  have g : (H ++ [Blk.row (.int .i64 k0 :: rest) false] : Heap).get H.length (0 + (0 : Int).toNat * 1) = some (.int .i64 k0) := (get_of (push_get _ _) _).trans rfl
  have hi : inb (0 : Int) (n + 1) = true := by simp [inb]
  rw [q110, show slen (some ⟨H.length, 0, n + 1, n + 1, 1⟩) = ((n + 1 : Nat) : Int) from rfl, hm, Nat.add_zero, D110_2_s, dT (by omega), ct]
  simp only [Ab.bs, hi, Bool.true_and, ct, g, tInt, beq_self_eq_true, h, J110_2_0]
theorem opd1 (k : Nat) (hk : k < 16) (G : Heap) : f159 1 (k : Int) 0 0 0 0 G = some (true, G) := by
  rw [q159]
  refine cdt rfl ?_
  refine cdt (dT (by omega)) ?_
  refine cdt (dT (by omega)) ?_
  rfl
theorem opd0 (G : Heap) : f159 0 0 0 0 0 0 G = some (true, G) := by
  rw [q159]
  refine cdf rfl ?_
  refine cdf rfl ?_
  refine cdt rfl ?_
  refine cdt rfl ?_
  rfl
theorem fits_x (v : Int) (hv : -1000 < v ∧ v < 1000) (H : Heap) : f160 v 32 H = some (true, H) := by
  have w : IntKind.i64.wrap (64 - 32) = 32 := by decide
  have e : (ishr IntKind.i64 (ishl IntKind.i64 v 32) 32 == v) = true := by
    unfold ishr ishl
    have h1 : min ((32 : Int).toNat) IntKind.i64.bits = 32 := by decide
    rw [h1, wrap_i64 (by omega) (by omega), Int.fdiv_eq_ediv_of_nonneg _ (by decide)]
    simp only [beq_iff_eq]; omega
  rw [q160]
  refine cdf rfl ?_
  refine cdf rfl ?_
  rw [w]
  refine cdf rfl ?_
  refine cdf rfl ?_
  rw [e]
theorem may14 (k : Nat) (hk : k < 16) (H : Heap) : ∃ H', f34 14 8 0 1 (k : Int) 0 0 0 0 0 0 0 0 0 0 0 0 false false 1 H = some (true, H') ∧ Kp No H H' := by
  have e64 : f64 14 8 0 1 (k : Int) 0 0 0 0 0 0 0 0 0 0 0 0 false false 1 H = some (true, H) := by
    rw [q64]
    refine cdf rfl ?_
    refine cdf rfl ?_
    refine cdf rfl ?_
    refine cdt rfl ?_
    rfl
  have e66 : f66 14 8 0 1 (k : Int) 0 0 0 0 0 0 0 0 0 0 0 0 false false 1 H = some (false, H) := by
    rw [q66]
    refine cdf rfl ?_
    refine bnd (in_x ..) ?_
    refine cdf rfl ?_
    refine cdf rfl ?_
    refine cdf rfl ?_
    refine bnd (in_x ..) ?_
    refine cdf rfl ?_
    refine cdf rfl ?_
    refine bnd (in_x ..) ?_
    refine cdf rfl ?_
    refine bnd (in_x ..) ?_
    refine cdf rfl ?_
    refine bnd (in_x ..) ?_
    refine cdf rfl ?_
    refine cdf rfl ?_
    rfl
  have e110 : f110 1 (k : Int) 0 0 0 0 (some ⟨H.length, 0, 3, 3, 1⟩) (H ++ [Blk.row [.int .i64 1, .int .i64 2, .int .i64 3] false]) = some (true, (H ++ [Blk.row [.int .i64 1, .int .i64 2, .int .i64 3] false])) := f110_x H 1 _ 2 _ _ _ _ _ (opd1 k hk)
  have e67 : f67 14 8 0 1 (k : Int) 0 0 0 0 0 0 0 0 0 0 0 0 false false 1 H = some (true, (H ++ [Blk.row [.int .i64 1, .int .i64 2, .int .i64 3] false])) := by
    rw [q67]
    refine cdf rfl ?_
    refine cdt rfl ?_
    refine cdt rfl ?_
    refine bnd e110 ?_
    refine cdt rfl ?_
    refine cdf rfl ?_
    rfl
  refine ⟨(H ++ [Blk.row [.int .i64 1, .int .i64 2, .int .i64 3] false]), ?_, Kp.push1 _ _⟩
  rw [q34]
  refine cdf rfl ?_
  refine cdf rfl ?_
  refine cdt rfl ?_
  refine bnd e64 ?_
  refine cdt rfl ?_
  refine bnd (in_x ..) ?_
  refine bnd (in_x ..) ?_
  refine bnd (show f65 14 8 0 1 (k : Int) 0 0 0 0 0 0 0 0 0 0 0 0 false false 1 true (decide ((14 : Int) ≥ 34) && decide ((14 : Int) ≤ 36)) (decide ((14 : Int) ≥ 11) && decide ((14 : Int) ≤ 12)) H = some (true, H) from by rw [q65]; rfl) ?_
  refine cdt rfl ?_
  refine bnd e66 ?_
  refine cdf rfl ?_
  refine bnd e67 ?_
  rfl
theorem may15 (k : Nat) (hk : k < 16) (H : Heap) : ∃ H', f34 15 8 0 1 (k : Int) 0 0 0 0 0 0 0 0 0 0 0 0 false false 1 H = some (true, H') ∧ Kp No H H' := by
  have e64 : f64 15 8 0 1 (k : Int) 0 0 0 0 0 0 0 0 0 0 0 0 false false 1 H = some (true, H) := by
    rw [q64]
    refine cdf rfl ?_
    refine cdf rfl ?_
    refine cdf rfl ?_
    refine cdt rfl ?_
    rfl
  have e66 : f66 15 8 0 1 (k : Int) 0 0 0 0 0 0 0 0 0 0 0 0 false false 1 H = some (false, H) := by
    rw [q66]
    refine cdf rfl ?_
    refine bnd (in_x ..) ?_
    refine cdf rfl ?_
    refine cdf rfl ?_
    refine cdf rfl ?_
    refine bnd (in_x ..) ?_
    refine cdf rfl ?_
    refine cdf rfl ?_
    refine bnd (in_x ..) ?_
    refine cdf rfl ?_
    refine bnd (in_x ..) ?_
    refine cdf rfl ?_
    refine bnd (in_x ..) ?_
    refine cdf rfl ?_
    refine cdf rfl ?_
    rfl
  have e110 : f110 1 (k : Int) 0 0 0 0 (some ⟨H.length, 0, 2, 2, 1⟩) (H ++ [Blk.row [.int .i64 1, .int .i64 2] false]) = some (true, (H ++ [Blk.row [.int .i64 1, .int .i64 2] false])) := f110_x H 1 _ 1 _ _ _ _ _ (opd1 k hk)
  have e67 : f67 15 8 0 1 (k : Int) 0 0 0 0 0 0 0 0 0 0 0 0 false false 1 H = some (true, (H ++ [Blk.row [.int .i64 1, .int .i64 2] false])) := by
    rw [q67]
    refine cdf rfl ?_
    refine cdf rfl ?_
    refine cdt rfl ?_
    refine cdt rfl ?_
    refine bnd e110 ?_
    rfl
  refine ⟨(H ++ [Blk.row [.int .i64 1, .int .i64 2] false]), ?_, Kp.push1 _ _⟩
  rw [q34]
  refine cdf rfl ?_
  refine cdf rfl ?_
  refine cdf rfl ?_
  refine bnd (in_x ..) ?_
  refine bnd e64 ?_
  refine cdt rfl ?_
  refine bnd (in_x ..) ?_
  refine bnd (in_x ..) ?_
  refine bnd (show f65 15 8 0 1 (k : Int) 0 0 0 0 0 0 0 0 0 0 0 0 false false 1 (decide ((15 : Int) ≥ 36) && decide ((15 : Int) ≤ 38)) (decide ((15 : Int) ≥ 34) && decide ((15 : Int) ≤ 36)) (decide ((15 : Int) ≥ 11) && decide ((15 : Int) ≤ 12)) H = some (true, H) from by rw [q65]; rfl) ?_
  refine cdt rfl ?_
  refine bnd e66 ?_
  refine cdf rfl ?_
  refine bnd e67 ?_
  rfl
theorem may38 (v : Int) (hv : -1000 < v ∧ v < 1000) (H : Heap) : ∃ H', f34 38 8 0 0 0 0 0 0 0 0 0 0 0 0 0 v 0 false false 5 H = some (true, H') ∧ Kp No H H' := by
  have e113 : ∀ G, f113 38 8 0 0 0 0 0 0 0 0 0 0 0 0 0 v 0 false false 5 G = some (true, G) := fun G => by
    rw [q113, show IntKind.i64.wrap (8 * mm Builtin.min 8 4) = 32 from by decide, fits_x v hv, Ab.bs]
  have e64 : f64 38 8 0 0 0 0 0 0 0 0 0 0 0 0 0 v 0 false false 5 H = some (true, H) := by
    rw [q64]
    refine cdf rfl ?_
    refine cdf rfl ?_
    refine cdf rfl ?_
    refine cdt rfl ?_
    rfl
  have e66 : f66 38 8 0 0 0 0 0 0 0 0 0 0 0 0 0 v 0 false false 5 H = some (false, H) := by
    rw [q66]
    refine cdf rfl ?_
    refine bnd (in_x ..) ?_
    refine cdf rfl ?_
    refine cdf rfl ?_
    refine cdf rfl ?_
    refine bnd (in_x ..) ?_
    refine cdf rfl ?_
    refine cdf rfl ?_
    refine bnd (in_x ..) ?_
    refine cdf rfl ?_
    refine bnd (in_x ..) ?_
    refine cdf rfl ?_
    refine bnd (in_x ..) ?_
    refine cdf rfl ?_
    refine cdf rfl ?_
    rfl
  have e110 : f110 0 0 0 0 0 0 (some ⟨H.length, 0, 1, 1, 1⟩) (H ++ [Blk.row [.int .i64 0] false]) = some (true, (H ++ [Blk.row [.int .i64 0] false])) := f110_x H 0 _ 0 _ _ _ _ _ (opd0)
  have e67 : f67 38 8 0 0 0 0 0 0 0 0 0 0 0 0 0 v 0 false false 5 H = some (true, (H ++ [Blk.row [.int .i64 0] false])) := by
    rw [q67]
    refine cdf rfl ?_
    refine cdf rfl ?_
    refine cdf rfl ?_
    refine bnd (in_x ..) ?_
    refine cdf rfl ?_
    refine bnd (in_x ..) ?_
    refine cdf rfl ?_
    refine cdf rfl ?_
    refine bnd (in_x ..) ?_
    refine cdt rfl ?_
    refine cdt rfl ?_
    refine bnd e110 ?_
    refine cdt rfl ?_
    refine bnd (e113 _) ?_
    refine cdt rfl ?_
    rfl
  refine ⟨(H ++ [Blk.row [.int .i64 0] false]), ?_, Kp.push1 _ _⟩
  rw [q34]
  refine cdf rfl ?_
  refine cdf rfl ?_
  refine cdf rfl ?_
  refine bnd (in_x ..) ?_
  refine bnd e64 ?_
  refine cdt rfl ?_
  refine bnd (in_x ..) ?_
  refine bnd (in_x ..) ?_
  refine bnd (show f65 38 8 0 0 0 0 0 0 0 0 0 0 0 0 0 v 0 false false 5 (decide ((38 : Int) ≥ 36) && decide ((38 : Int) ≤ 38)) (decide ((38 : Int) ≥ 34) && decide ((38 : Int) ≤ 36)) (decide ((38 : Int) ≥ 11) && decide ((38 : Int) ≤ 12)) H = some (true, H) from by rw [q65]; rfl) ?_
  refine cdt rfl ?_
  refine bnd e66 ?_
  refine cdf rfl ?_
  refine bnd e67 ?_
  rfl
theorem may39  (H : Heap) : ∃ H', f34 39 8 0 0 0 0 0 0 0 0 0 0 0 0 0 0 0 false false 1 H = some (true, H') ∧ Kp No H H' := by
  have e64 : f64 39 8 0 0 0 0 0 0 0 0 0 0 0 0 0 0 0 false false 1 H = some (true, H) := by
    rw [q64]
    refine cdf rfl ?_
    refine cdf rfl ?_
    refine cdf rfl ?_
    refine cdt rfl ?_
    rfl
  have e66 : f66 39 8 0 0 0 0 0 0 0 0 0 0 0 0 0 0 0 false false 1 H = some (false, H) := by
    rw [q66]
    refine cdf rfl ?_
    refine bnd (in_x ..) ?_
    refine cdf rfl ?_
    refine cdf rfl ?_
    refine cdf rfl ?_
    refine bnd (in_x ..) ?_
    refine cdf rfl ?_
    refine cdf rfl ?_
    refine bnd (in_x ..) ?_
    refine cdf rfl ?_
    refine bnd (in_x ..) ?_
    refine cdf rfl ?_
    refine bnd (in_x ..) ?_
    refine cdf rfl ?_
    refine cdf rfl ?_
    rfl
  have e110 : f110 0 0 0 0 0 0 (some ⟨H.length, 0, 1, 1, 1⟩) (H ++ [Blk.row [.int .i64 0] false]) = some (true, (H ++ [Blk.row [.int .i64 0] false])) := f110_x H 0 _ 0 _ _ _ _ _ (opd0)
  have e67 : f67 39 8 0 0 0 0 0 0 0 0 0 0 0 0 0 0 0 false false 1 H = some (true, (H ++ [Blk.row [.int .i64 0] false])) := by
    rw [q67]
    refine cdf rfl ?_
    refine cdf rfl ?_
    refine cdf rfl ?_
    refine bnd (in_x ..) ?_
    refine cdf rfl ?_
    refine bnd (in_x ..) ?_
    refine cdf rfl ?_
    refine cdf rfl ?_
    refine bnd (in_x ..) ?_
    refine cdf rfl ?_
    refine cdf rfl ?_
    refine bnd (in_x ..) ?_
    refine cdf rfl ?_
    refine bnd (in_x ..) ?_
    refine cdf rfl ?_
    refine cdt rfl ?_
    refine cdt rfl ?_
    refine bnd e110 ?_
    rfl
  refine ⟨(H ++ [Blk.row [.int .i64 0] false]), ?_, Kp.push1 _ _⟩
  rw [q34]
  refine cdf rfl ?_
  refine cdf rfl ?_
  refine cdf rfl ?_
  refine bnd (in_x ..) ?_
  refine bnd e64 ?_
  refine cdt rfl ?_
  refine bnd (in_x ..) ?_
  refine bnd (in_x ..) ?_
  refine bnd (show f65 39 8 0 0 0 0 0 0 0 0 0 0 0 0 0 0 0 false false 1 (decide ((39 : Int) ≥ 36) && decide ((39 : Int) ≤ 38)) (decide ((39 : Int) ≥ 34) && decide ((39 : Int) ≤ 36)) (decide ((39 : Int) ≥ 11) && decide ((39 : Int) ≤ 12)) H = some (true, H) from by rw [q65]; rfl) ?_
  refine cdt rfl ?_
  refine bnd e66 ?_
  refine cdf rfl ?_
  refine bnd e67 ?_
  rfl
theorem Go2.ge {H H' : Heap} {L : Nat} {M M' : Mm} {R R' : Rm} {c d : Co} (P : Par H L M R c d) (g : Go2 M R M' R' H H') : ∀ i, (M.In i ∨ R.Inm i) → L ≤ i := fun i h => by
  rcases h with h | h
  · exact P.m.ge h
  · exact P.r.ge (.inl h)
theorem store2 {H : Heap} {L N : Nat} {M : Mm} {R : Rm} {c : Co} (P : Par H L M R c c) (f : c.Fit N) (hN : N < 65536) (t a w v : Int) (ha : u64p a) (hv : u64p v) :
    ∃ M' R' H1 H', f32 M.p t a w v H = some ((storeC c t a w v).1, H1) ∧ f33 R.p t a w v H1 = some ((storeC c t a w v).1, H') ∧ Par H' L M' R' (storeC c t a w v).2 (storeC c t a w v).2 ∧ Go2 M R M' R' H H' :=
  both P (f := fun p H => f32 p t a w v H) (g := fun p H => f33 p t a w v H) (fun M H h => store_x h f hN t a w v) (fun R H h => rstore_x h f hN t a w v ha hv)
theorem loop8 (L : Nat) (o ops : Option Sl) (ys : List Ar) (xs : List Cal) (hx : xs.length ≤ 9223372036854775807) (hxw : ∀ x, x ∈ xs → x.Wf) (p q : Option (Nat × Nat)) : ∀ (m n i : Nat) (M : Mm) (R : Rm) (c : Co) (H : Heap), M.p = p → R.p = q → i + m = xs.length → i ≤ 12 → Par H L M R c c → c.Fit i → RSL 5 E5 H L o ys → RSL 7 E7 H L ops xs →
    ∃ (M' : Mm) (R' : Rm) (c' : Co) (N : Nat) (H' : Heap), D8_7 (n + m + 1) o p q ops (xs.length : Int) (i : Int) H = some (.exit 0, X8_7 p q H') ∧ M'.p = p ∧ Par H' L M' R' c' c' ∧ c'.Fit N ∧ N ≤ 12
  | 0, n, i, M, R, c, H, hp, hq, hm, hi, P, f, ho, hs => ⟨M, R, c, i, H, by rw [D8_7_s, dF (by omega), cf], hp, P, f, hi⟩
  | m + 1, n, i, M, R, c, H, hp, hq, hm, hi, P, f, ho, hs => by
    have hil : i < xs.length := by omega
    obtain ⟨sl, e0, g, c0, c1, c2, c3, c4, c5, c6⟩ := gets7 hs.1 (List.getElem?_eq_getElem hil)
    have hw := hxw _ (List.getElem_mem hil)
    rw [show n + (m + 1) + 1 = (n + m + 1) + 1 by omega, D8_7_s, dT (by omega), ct]
    rw [show ops.bind = (some sl).bind (β := AExit × St) by rw [e0]]
    simp only [Ab.bs, g, ct, c0, c1, c2, c3, c4, c5, c6, tInt, tBool, i64_succ i (by omega)]
    generalize xs[i] = x at *
    by_cases h12 : i = 12
    · subst h12
      exact ⟨M, R, c, 12, H, by rw [dT (by omega), ct], hp, P, f, Nat.le_refl _⟩
    · rw [dF (show ¬ (i : Int) ≥ 12 by omega), cf]
      have act : ∀ a, u64p a → ∃ (M' : Mm) (R' : Rm) (c' : Co) (N : Nat) (H' : Heap), ((f32 p x.t a x.w x.v H).bind fun v6 => (f33 q x.t a x.w x.v v6.2).bind fun v5 => D8_7 (n + m + 1) o p q ops (xs.length : Int) ((i + 1 : Nat) : Int) v5.2) = some (.exit 0, X8_7 p q H') ∧ M'.p = p ∧ Par H' L M' R' c' c' ∧ c'.Fit N ∧ N ≤ 12 := by
        intro a ha
        obtain ⟨M1, R1, H1, H2, e1, e2, P1, G⟩ := store2 P f (by omega) x.t a x.w x.v ha hw.v
        rw [hp] at e1
        rw [hq] at e2
        have hge := Go2.ge P G
        obtain ⟨M', R', c', N, H', r⟩ := loop8 L o ops ys xs hx hxw p q m n (i + 1) M1 R1 _ H2 (by unfold Mm.p; rw [G.bm]; exact hp) (by unfold Rm.p; rw [G.br]; exact hq) (by omega) (by omega) P1 (store_fit f _ _ _ _) (ho.kp G.k hge) (hs.kp G.k hge)
        refine ⟨M', R', c', N, H', ?_, r.2⟩
        rw [e1, Ab.bs]
        simp only []
        rw [e2, Ab.bs]
        exact r.1
      cases x.near with
      | false => simp only [cf]; exact act x.at' hw.a
      | true =>
        simp only [ct, ho.1.slenEq]
        by_cases hy : ys.length = 0
        · rw [dF (by omega), cf]; exact act x.at' hw.a
        · rw [dT (by omega), ct]
          have h0 : 0 < ys.length := by omega
          obtain ⟨so, eo, go, ko⟩ := ho.1.idx E5_len (List.getElem?_eq_getElem h0)
          have k0 := ko 0 (.int .u64 ys[0].lo) rfl
          have k0' : H.get so.id (so.off + 0 + 0) = some (.int .u64 ys[0].lo) := k0
          clear k0 ko
          generalize ys[0].lo = lo at *
          have hb : ∀ {β : Type} (f : Sl → Option β), o.bind f = f so := fun f => by rw [eo]; rfl
          rw [hb]
          have go' : (inb 0 so.len && so.esz == 5) = true := go
          simp only [go', ct, k0', Ab.bs, tInt]
          exact act (IntKind.u64.wrap (lo + x.at'.tmod 72)) (u64w _)
theorem f8_x (l : Option Sl) (zs : List Ar) (hz : zs.length ≤ 9223372036854775807) (ops : Option Sl) (xs : List Cal) (hx : xs.length ≤ 9223372036854775807) (hxw : ∀ x, x ∈ xs → x.Wf) (s0 s1 s2 s3 s4 s5 s6 s7 s8 s9 s10 s11 s12 s13 s14 s15 : Int) (s16 s17 : Bool) (s18 s19 : Int) (mine : Bool) (H : Heap) (hR : RS 5 E5 H l zs) (hX : ∀ x, x ∈ zs → RS 1 E8 H x.sl x.data) (hS : RS 7 E7 H ops xs) :
    ∃ (M : Mm) (q : Option (Nat × Nat)) (c : Co) (N L : Nat) (H' : Heap), f8 s0 s1 s2 s3 s4 s5 s6 s7 s8 s9 s10 s11 s12 s13 s14 s15 s16 s17 s18 s19 l ops mine H = some ((M.p, q), H') ∧ M.Is H' L c ∧ c.Fit N ∧ N ≤ 12 := by
  obtain ⟨o, ys, H1, a1, a2, a3⟩ := f22_x l zs hz H hR hX
  obtain ⟨M, H2, b1, b2, b3, b4⟩ := ours_x o ys H1 a2
  obtain ⟨R, H3, c1, c2, c3, c4⟩ := rnew_x o ys H2 (a2.no b4)
  have hb : M.b < H2.length := b3.lt ⟨.hd, rfl⟩
  have P : Par H3 M.b M R (freshC ys) (freshC ys) := ⟨b3.no c4, c3.mono (by omega), fun i h1 h2 => by
    have := b3.lt h1; have := c3.ge h2; omega⟩
  have fit := fresh_fit a2
  have hS3 : RSL 7 E7 H3 M.b ops xs := (RSL.of E7_len (by decide) (hS.no a3) b2).kp (b4.tr c4) fun _ h => absurd h (fun h => h)
  have ho3 : RSL 5 E5 H3 M.b o ys := (RSL.of E5_len (by decide) a2.r b2).kp (b4.tr c4) fun _ h => absurd h (fun h => h)
  have run : ∀ (M1 : Mm) (R1 : Rm) (c : Co) (G : Heap), M1.p = M.p → R1.p = R.p → Par G M.b M1 R1 c c → c.Fit 0 → RSL 5 E5 G M.b o ys → RSL 7 E7 G M.b ops xs → ∃ (M' : Mm) (q : Option (Nat × Nat)) (c : Co) (N L : Nat) (H' : Heap), (LL8_7 o M.p R.p ops (slen ops) 0 G).bind J8_7 = some ((M'.p, q), H') ∧ M'.Is H' L c ∧ c.Fit N ∧ N ≤ 12 := by
    intro M1 R1 c G h1 h2 P1 f1 ho hs
    obtain ⟨n, e⟩ := LL8_7_of xs.length (by omega) o M.p R.p ops (slen ops) 0 G
    obtain ⟨M', R', c', N, H', r1, r2, r3, r4, r5⟩ := loop8 M.b o ops ys xs hx hxw M.p R.p xs.length n 0 M1 R1 c G h1 h2 (by omega) (by omega) P1 f1 ho hs
    refine ⟨M', R.p, c', N, M.b, H', ?_, r3.m, r4, r5⟩
    rw [e, hs.1.slenEq, show (0 : Int) = ((0 : Nat) : Int) from rfl, r1, Ab.bs, J8_7_0, r2]
  rw [q8, a1, Ab.bs]
  dsimp only
  rw [b1, Ab.bs]
  dsimp only
  rw [c1, Ab.bs]
  dsimp only
  cases mine with
  | false => rw [cf]; exact run M R _ H3 rfl rfl P fit ho3 hS3
  | true =>
    obtain ⟨M1, R1, H4, H5, e1, e2, P1, G⟩ := both P (f := fun p H => f30 p 0 1 H) (g := fun p H => f31 p 0 1 H) (fun M H h => own_x h fit 0 1) (fun R H h => rown_x h fit 0 1)
    have hge := Go2.ge P G
    rw [ct, e1, Ab.bs]
    dsimp only
    rw [e2, Ab.bs]
    exact run M1 R1 _ H5 (by unfold Mm.p; rw [G.bm]) (by unfold Rm.p; rw [G.br]) P1 (own_fit fit 0 1) (ho3.kp G.k hge) (hS3.kp G.k hge)
theorem sto_byte {a : Int} (ha : u64p a) (v : Int) (i : Nat) (hi : i < 8) : Sto.has ⟨a, 8, v⟩ (IntKind.u64.wrap (a + (i : Int))) = true ∧ Sto.byte ⟨a, 8, v⟩ (IntKind.u64.wrap (a + (i : Int))) = byteOf v i := by
  unfold u64p at ha
  have e : IntKind.u64.wrap (IntKind.u64.wrap (a + (i : Int)) - a) = (i : Int) := by rw [wrap_u64, wrap_u64]; omega
  constructor
  · unfold Sto.has
    simp only [e]
    rw [show IntKind.u64.wrap 8 = 8 by decide]
    exact decide_eq_true (by omega)
  · unfold Sto.byte byteOf
    simp only [e]
theorem sees_back {a : Int} (ha : u64p a) (v : Int) (ars : List Ar) (l : List Sto) (i : Nat) (hi : i < 8) : seesA ars (l ++ [⟨a, 8, v⟩]) (IntKind.u64.wrap (a + (i : Int))) = byteOf v i := by
  obtain ⟨h1, h2⟩ := sto_byte ha v i hi
  have h3 : hitN (l ++ [⟨a, 8, v⟩]) (IntKind.u64.wrap (a + (i : Int))) (l ++ [(⟨a, 8, v⟩ : Sto)]).length = some ⟨a, 8, v⟩ := by
    rw [List.length_append, List.length_singleton]
    unfold hitN
    rw [List.getElem?_append_right (Nat.le_refl _), Nat.sub_self]
    simp only [List.getElem?_cons_zero, h1, cond_true]
  unfold seesA
  rw [h3]
  exact h2
theorem mod_step (v : Int) (i : Nat) (hi : i < 8) : v % 2 ^ (8 * i) + v / 2 ^ (8 * i) % 256 * 2 ^ (8 * i) = v % 2 ^ (8 * (i + 1)) := by
  have : i = 0 ∨ i = 1 ∨ i = 2 ∨ i = 3 ∨ i = 4 ∨ i = 5 ∨ i = 6 ∨ i = 7 := by omega
  rcases this with e | e | e | e | e | e | e | e <;> subst e <;> simp only [Nat.reduceMul, Nat.reduceAdd, Int.reducePow] <;> omega
theorem loadN_back {a : Int} (ha : u64p a) (v : Int) (ars : List Ar) (l : List Sto) : ∀ (n i : Nat), i + n = 8 → loadN ars (l ++ [⟨a, 8, v⟩]) a i n (v % 2 ^ (8 * i)) = v % 2 ^ (8 * 8)
  | 0, i, h => by rw [loadN, show i = 8 by omega]
  | n + 1, i, h => by
    have hb := byteOf_range v i
    have hp : (0 : Int) < 2 ^ (8 * i) := Int.pow_pos (by decide)
    rw [loadN, sees_back ha v ars l i (by omega), bor_shl (v % 2 ^ (8 * i)) (byteOf v i) i (by omega) ⟨Int.emod_nonneg _ (by omega), Int.emod_lt_of_pos _ hp⟩ hb, byteOf_div v i (by omega), mod_step v i (by omega)]
    exact loadN_back ha v ars l n (i + 1) (by omega)
theorem load_back {c : Co} {N : Nat} (f : c.Fit N) {a v : Int} (ha : u64p a) (hv : u64p v) (hm : mayA c.ars 0 a 8 true = true) : loadC (storeC c 0 a 8 v).2 0 a 8 = (v, true) := by
  obtain ⟨l, hl, _, _⟩ := f.row (t := 0) (by decide)
  have hl' : c.rows[(0 : Int).toNat]? = some l := hl
  have hlen : 0 < c.rows.length := by rw [f.w]; decide
  have e : (storeC c 0 a 8 v).2 = ⟨c.ars, c.rows.set 0 (l ++ [⟨a, 8, v⟩])⟩ := by
    unfold storeC
    rw [hm, ct, hl']
    simp only [zx8 hv]; rfl
  have hr : rowC (storeC c 0 a 8 v).2 0 = l ++ [⟨a, 8, v⟩] := by
    rw [e]; unfold rowC
    rw [show (0 : Int).toNat = 0 from rfl, List.getElem?_set_self hlen]; rfl
  unfold loadC
  rw [hr, e]
  simp only []
  rw [may_rd hm, ct]
  have h0 := loadN_back ha v c.ars l 8 0 rfl
  have hz : v % 2 ^ (8 * 0) = 0 := by simp
  rw [hz] at h0
  rw [show (8 : Int).toNat = 8 from rfl, h0]
  unfold u64p at hv
  have : v % 2 ^ (8 * 8) = v := by
    rw [show (2 : Int) ^ (8 * 8) = 18446744073709551616 by decide]; omega
  rw [this]
/-- The document's cpu. -/
def Cp.tup (x : Cp) : Int × Int × Int × Int × Int × Int × Int × Int × Int × Int × Int × Int × Int × Int × Int × Int × Bool × Bool × Int × Int := (x.r 0, x.r 1, x.r 2, x.r 3, x.r 4, x.r 5, x.r 6, x.r 7, x.r 8, x.r 9, x.r 10, x.r 11, x.r 12, x.r 13, x.r 14, x.r 15, x.C, x.O, x.res, x.ip)
theorem f10_x {H : Heap} {b L N cid : Nat} {x : Cp} {M : Mm} {c : Co} (h : CAt H b L N cid x M c) : f10 (some (cid, 0)) H = some (x.tup, H) := by
  have c0 : H.get cid (0 + 0) = some (.int .u64 (x.r 0)) := (get_of h.cpu _).trans rfl
  have c1 : H.get cid (0 + 0 + 1) = some (.int .u64 (x.r 1)) := (get_of h.cpu _).trans rfl
  have c2 : H.get cid (0 + 0 + 1 + 1) = some (.int .u64 (x.r 2)) := (get_of h.cpu _).trans rfl
  have c3 : H.get cid (0 + 0 + 1 + 1 + 1) = some (.int .u64 (x.r 3)) := (get_of h.cpu _).trans rfl
  have c4 : H.get cid (0 + 0 + 1 + 1 + 1 + 1) = some (.int .u64 (x.r 4)) := (get_of h.cpu _).trans rfl
  have c5 : H.get cid (0 + 0 + 1 + 1 + 1 + 1 + 1) = some (.int .u64 (x.r 5)) := (get_of h.cpu _).trans rfl
  have c6 : H.get cid (0 + 0 + 1 + 1 + 1 + 1 + 1 + 1) = some (.int .u64 (x.r 6)) := (get_of h.cpu _).trans rfl
  have c7 : H.get cid (0 + 0 + 1 + 1 + 1 + 1 + 1 + 1 + 1) = some (.int .u64 (x.r 7)) := (get_of h.cpu _).trans rfl
  have c8 : H.get cid (0 + 0 + 1 + 1 + 1 + 1 + 1 + 1 + 1 + 1) = some (.int .u64 (x.r 8)) := (get_of h.cpu _).trans rfl
  have c9 : H.get cid (0 + 0 + 1 + 1 + 1 + 1 + 1 + 1 + 1 + 1 + 1) = some (.int .u64 (x.r 9)) := (get_of h.cpu _).trans rfl
  have c10 : H.get cid (0 + 0 + 1 + 1 + 1 + 1 + 1 + 1 + 1 + 1 + 1 + 1) = some (.int .u64 (x.r 10)) := (get_of h.cpu _).trans rfl
  have c11 : H.get cid (0 + 0 + 1 + 1 + 1 + 1 + 1 + 1 + 1 + 1 + 1 + 1 + 1) = some (.int .u64 (x.r 11)) := (get_of h.cpu _).trans rfl
  have c12 : H.get cid (0 + 0 + 1 + 1 + 1 + 1 + 1 + 1 + 1 + 1 + 1 + 1 + 1 + 1) = some (.int .u64 (x.r 12)) := (get_of h.cpu _).trans rfl
  have c13 : H.get cid (0 + 0 + 1 + 1 + 1 + 1 + 1 + 1 + 1 + 1 + 1 + 1 + 1 + 1 + 1) = some (.int .u64 (x.r 13)) := (get_of h.cpu _).trans rfl
  have c14 : H.get cid (0 + 0 + 1 + 1 + 1 + 1 + 1 + 1 + 1 + 1 + 1 + 1 + 1 + 1 + 1 + 1) = some (.int .u64 (x.r 14)) := (get_of h.cpu _).trans rfl
  have c15 : H.get cid (0 + 0 + 1 + 1 + 1 + 1 + 1 + 1 + 1 + 1 + 1 + 1 + 1 + 1 + 1 + 1 + 1) = some (.int .u64 (x.r 15)) := (get_of h.cpu _).trans rfl
  have cC : H.get cid (0 + 16 + 0) = some (.bool x.C) := (get_of h.cpu _).trans rfl
  have cO : H.get cid (0 + 16 + 1) = some (.bool x.O) := (get_of h.cpu _).trans rfl
  have cR : H.get cid (0 + 16 + 2) = some (.int .u64 x.res) := (get_of h.cpu _).trans rfl
  have cI : H.get cid (0 + 19) = some (.int .u64 x.ip) := (get_of h.cpu _).trans rfl
  rw [q10]
  refine bnd rfl ?_
  refine bnd c0 ?_
  refine bnd c1 ?_
  refine bnd c2 ?_
  refine bnd c3 ?_
  refine bnd c4 ?_
  refine bnd c5 ?_
  refine bnd c6 ?_
  refine bnd c7 ?_
  refine bnd c8 ?_
  refine bnd c9 ?_
  refine bnd c10 ?_
  refine bnd c11 ?_
  refine bnd c12 ?_
  refine bnd c13 ?_
  refine bnd c14 ?_
  refine bnd c15 ?_
  refine bnd (tInt _ _) ?_
  refine bnd (tInt _ _) ?_
  refine bnd (tInt _ _) ?_
  refine bnd (tInt _ _) ?_
  refine bnd (tInt _ _) ?_
  refine bnd (tInt _ _) ?_
  refine bnd (tInt _ _) ?_
  refine bnd (tInt _ _) ?_
  refine bnd (tInt _ _) ?_
  refine bnd (tInt _ _) ?_
  refine bnd (tInt _ _) ?_
  refine bnd (tInt _ _) ?_
  refine bnd (tInt _ _) ?_
  refine bnd (tInt _ _) ?_
  refine bnd (tInt _ _) ?_
  refine bnd (tInt _ _) ?_
  refine bnd rfl ?_
  refine bnd cC ?_
  refine bnd (tBool _) ?_
  refine bnd rfl ?_
  refine bnd cO ?_
  refine bnd (tBool _) ?_
  refine bnd rfl ?_
  refine bnd cR ?_
  refine bnd (tInt _ _) ?_
  refine bnd rfl ?_
  refine bnd cI ?_
  refine bnd (tInt _ _) ?_
  rfl
def Rn.jmp (y : Rn) (ip : Int) : Rn := { y with ip := ip }
section
variable {H : Heap} {b L N cid : Nat} {x : Cp} {M : Mm} {c : Co}
theorem push_x (h : CAt H b L N cid x M c) (hN : N < 65536) (k : Nat) (hk : k < 16) :
    (mayA c.ars 0 (IntKind.u64.wrap (x.r 4 - 8)) 8 true = false → ∃ M' H', f12 (some (cid, 0)) 0 14 8 0 1 (k : Int) 0 0 0 0 0 0 0 0 0 0 0 0 false false 1 (some (b, 0)) H = some (2, H') ∧ CAt H' b L N cid x M' c) ∧
    (mayA c.ars 0 (IntKind.u64.wrap (x.r 4 - 8)) 8 true = true → ∃ M' H', f12 (some (cid, 0)) 0 14 8 0 1 (k : Int) 0 0 0 0 0 0 0 0 0 0 0 0 false false 1 (some (b, 0)) H = some (0, H') ∧
      CAt H' b L (N + 1) cid ⟨upd x.r 4 (IntKind.u64.wrap (x.r 4 - 8)), x.C, x.O, x.res, IntKind.u64.wrap (x.ip + IntKind.u64.wrap 1)⟩ M' (storeC c 0 (IntKind.u64.wrap (x.r 4 - 8)) 8 (x.r k)).2) := by
  obtain ⟨H0, m1, m2⟩ := may14 k hk H
  obtain ⟨s1, s2, _⟩ := step_x h hN ⟨14, 1, (k : Int), 0, 1⟩ (.inl rfl) m1 m2 (y := (x.run (IntKind.u64.wrap (x.ip + IntKind.u64.wrap 1))).push (mayA c.ars 0 (IntKind.u64.wrap (x.r 4 - 8)) 8 true) (x.r k)) fun G id M1 hR => by
    obtain ⟨M', G', e1, e2⟩ := hR.st14 rfl rfl rfl hk
    exact ⟨M', G', by rw [hR.dost ⟨by show (13 : Int) < 14; decide, by show (14 : Int) ≤ 15; decide⟩, e1, Ab.bs], e2⟩
  refine ⟨fun hm => ?_, fun hm => ?_⟩
  · have e : ((x.run (IntKind.u64.wrap (x.ip + IntKind.u64.wrap 1))).push (mayA c.ars 0 (IntKind.u64.wrap (x.r 4 - 8)) 8 true) (x.r k)).e = 2 := by rw [hm]; rfl
    have := s1 (by rw [e]; decide) (by rw [e]; decide)
    rw [e] at this; exact this
  · have e : ((x.run (IntKind.u64.wrap (x.ip + IntKind.u64.wrap 1))).push (mayA c.ars 0 (IntKind.u64.wrap (x.r 4 - 8)) 8 true) (x.r k)).e = 0 := by rw [hm]; rfl
    exact s2 e rfl
theorem pop_x (h : CAt H b L N cid x M c) (hN : N < 65536) (k : Nat) (hk : k < 16) {v : Int} (hv : u64p v) (hl : loadC c 0 (x.r 4) 8 = (v, true)) :
    ∃ M' H', f12 (some (cid, 0)) 0 15 8 0 1 (k : Int) 0 0 0 0 0 0 0 0 0 0 0 0 false false 1 (some (b, 0)) H = some (0, H') ∧
      CAt H' b L N cid ⟨upd (upd x.r 4 (IntKind.u64.wrap (x.r 4 + 8))) k v, x.C, x.O, x.res, IntKind.u64.wrap (x.ip + IntKind.u64.wrap 1)⟩ M' c := by
  obtain ⟨H0, m1, m2⟩ := may15 k hk H
  obtain ⟨_, _, s3⟩ := step_x h hN ⟨15, 1, (k : Int), 0, 1⟩ (.inr (.inl rfl)) m1 m2 (y := { (x.run (IntKind.u64.wrap (x.ip + IntKind.u64.wrap 1))).pop true with r := upd (upd x.r 4 (IntKind.u64.wrap (x.r 4 + 8))) k v }) fun G id M1 hR => by
    obtain ⟨M', G', e1, e2⟩ := hR.st15 (by omega) rfl rfl rfl hk (by show u64p (loadC c 0 (x.r 4) 8).1; rw [hl]; exact hv)
    refine ⟨M', G', by rw [hR.dost ⟨by show (13 : Int) < 15; decide, by show (15 : Int) ≤ 15; decide⟩, e1, Ab.bs], ?_⟩
    have hl' : loadC c 0 ((x.run (IntKind.u64.wrap (x.ip + IntKind.u64.wrap 1))).r 4) 8 = (v, true) := hl
    rw [hl'] at e2
    exact e2
  exact s3 rfl rfl
theorem call_x (h : CAt H b L N cid x M c) (hN : N < 65536) (v : Int) (hv : -1000 < v ∧ v < 1000) :
    (mayA c.ars 0 (IntKind.u64.wrap (x.r 4 - 8)) 8 true = false → ∃ M' H', f12 (some (cid, 0)) 0 38 8 0 0 0 0 0 0 0 0 0 0 0 0 0 v 0 false false 5 (some (b, 0)) H = some (2, H') ∧ CAt H' b L N cid x M' c) ∧
    (mayA c.ars 0 (IntKind.u64.wrap (x.r 4 - 8)) 8 true = true → ∃ M' H', f12 (some (cid, 0)) 0 38 8 0 0 0 0 0 0 0 0 0 0 0 0 0 v 0 false false 5 (some (b, 0)) H = some (0, H') ∧
      CAt H' b L (N + 1) cid ⟨upd x.r 4 (IntKind.u64.wrap (x.r 4 - 8)), x.C, x.O, x.res, IntKind.u64.wrap (IntKind.u64.wrap (x.ip + IntKind.u64.wrap 5) + IntKind.u64.wrap v)⟩ M' (storeC c 0 (IntKind.u64.wrap (x.r 4 - 8)) 8 (IntKind.u64.wrap (x.ip + IntKind.u64.wrap 5))).2) := by
  obtain ⟨H0, m1, m2⟩ := may38 v hv H
  obtain ⟨s1, s2, _⟩ := step_x h hN ⟨38, 0, 0, v, 5⟩ (.inr (.inr (.inl rfl))) m1 m2 (y := ((x.run (IntKind.u64.wrap (x.ip + IntKind.u64.wrap 5))).push (mayA c.ars 0 (IntKind.u64.wrap (x.r 4 - 8)) 8 true) (IntKind.u64.wrap (x.ip + IntKind.u64.wrap 5))).jmp (IntKind.u64.wrap (IntKind.u64.wrap (x.ip + IntKind.u64.wrap 5) + IntKind.u64.wrap v))) fun G id M1 hR => by
    obtain ⟨M', G', e1, e2⟩ := hR.st38 rfl rfl (u64w _)
    exact ⟨M', G', by rw [hR.doj ⟨by show (35 : Int) < 38; decide, by show (38 : Int) ≤ 39; decide⟩, e1, Ab.bs], e2⟩
  refine ⟨fun hm => ?_, fun hm => ?_⟩
  · have e : (((x.run (IntKind.u64.wrap (x.ip + IntKind.u64.wrap 5))).push (mayA c.ars 0 (IntKind.u64.wrap (x.r 4 - 8)) 8 true) (IntKind.u64.wrap (x.ip + IntKind.u64.wrap 5))).jmp (IntKind.u64.wrap (IntKind.u64.wrap (x.ip + IntKind.u64.wrap 5) + IntKind.u64.wrap v))).e = 2 := by rw [hm]; rfl
    have := s1 (by rw [e]; decide) (by rw [e]; decide)
    rw [e] at this; exact this
  · have e : (((x.run (IntKind.u64.wrap (x.ip + IntKind.u64.wrap 5))).push (mayA c.ars 0 (IntKind.u64.wrap (x.r 4 - 8)) 8 true) (IntKind.u64.wrap (x.ip + IntKind.u64.wrap 5))).jmp (IntKind.u64.wrap (IntKind.u64.wrap (x.ip + IntKind.u64.wrap 5) + IntKind.u64.wrap v))).e = 0 := by rw [hm]; rfl
    exact s2 e rfl
theorem ret_x (h : CAt H b L N cid x M c) (hN : N < 65536) {v : Int} (hl : loadC c 0 (x.r 4) 8 = (v, true)) :
    ∃ M' H', f12 (some (cid, 0)) 0 39 8 0 0 0 0 0 0 0 0 0 0 0 0 0 0 0 false false 1 (some (b, 0)) H = some (0, H') ∧
      CAt H' b L N cid ⟨upd x.r 4 (IntKind.u64.wrap (x.r 4 + 8)), x.C, x.O, x.res, v⟩ M' c := by
  obtain ⟨H0, m1, m2⟩ := may39 H
  obtain ⟨_, _, s3⟩ := step_x h hN ⟨39, 0, 0, 0, 1⟩ (.inr (.inr (.inr rfl))) m1 m2 (y := { (x.run (IntKind.u64.wrap (x.ip + IntKind.u64.wrap 1))).pop true with ip := v }) fun G id M1 hR => by
    obtain ⟨M', G', e1, e2⟩ := hR.st39 (by omega) rfl
    refine ⟨M', G', by rw [hR.doj ⟨by show (35 : Int) < 39; decide, by show (39 : Int) ≤ 39; decide⟩, e1, Ab.bs], ?_⟩
    have hl' : loadC c 0 ((x.run (IntKind.u64.wrap (x.ip + IntKind.u64.wrap 1))).r 4) 8 = (v, true) := hl
    rw [hl'] at e2
    exact e2
  exact s3 rfl rfl
end
end
end Go.Proofs.YtnipccoenalnkaaGreat
