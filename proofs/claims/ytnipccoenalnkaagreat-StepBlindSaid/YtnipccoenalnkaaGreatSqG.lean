/- SqA to SqG. -/
import Derived.Test.YtnipccoenalnkaaGreatXs
namespace Go.Proofs.YtnipccoenalnkaaGreat
open Go Go.Proofs.YtnipccoenalnkaaGreat.Ab
set_option linter.unusedVariables false
set_option linter.unusedSimpArgs false
set_option maxRecDepth 100000
noncomputable section
/-- A register's number, a register with another one. -/
def TA16u64.g (r : TA16u64) : Nat → Int
  | 0 => r.a0
  | 1 => r.a1
  | 2 => r.a2
  | 3 => r.a3
  | 4 => r.a4
  | 5 => r.a5
  | 6 => r.a6
  | 7 => r.a7
  | 8 => r.a8
  | 9 => r.a9
  | 10 => r.a10
  | 11 => r.a11
  | 12 => r.a12
  | 13 => r.a13
  | 14 => r.a14
  | 15 => r.a15
  | _ => 0
def TA16u64.s (r : TA16u64) (v : Int) : Nat → TA16u64
  | 0 => { r with a0 := v }
  | 1 => { r with a1 := v }
  | 2 => { r with a2 := v }
  | 3 => { r with a3 := v }
  | 4 => { r with a4 := v }
  | 5 => { r with a5 := v }
  | 6 => { r with a6 := v }
  | 7 => { r with a7 := v }
  | 8 => { r with a8 := v }
  | 9 => { r with a9 := v }
  | 10 => { r with a10 := v }
  | 11 => { r with a11 := v }
  | 12 => { r with a12 := v }
  | 13 => { r with a13 := v }
  | 14 => { r with a14 := v }
  | 15 => { r with a15 := v }
  | _ => r
def hasR (reg w : Int) : Bool := decide (reg ≥ 0) && (decide (reg < 16) && isW8 w)
def rdR (c : TCpu) (reg w : Int) : Int := bif hasR reg w then bits_Zx (c.reg.g reg.toNat) w else 0
def mixR (old v w : Int) : Int := bif decide (w < 4) then bor .u64 (bits_Zx v w) (bandn .u64 old (bits_Mask w)) else bits_Zx v w
def wrR (c : TCpu) (reg w v : Int) : TCpu := bif hasR reg w then { c with reg := c.reg.s (mixR (c.reg.g reg.toNat) v w) reg.toNat } else c
def atR (c : TCpu) (a : TAddr) (next : Int) : Int := IntKind.u64.wrap (IntKind.u64.wrap (IntKind.u64.wrap a.disp + IntKind.u64.wrap (IntKind.u64.wrap a.scale * rdR c a.index 8)) + (bif a.base == 16 then next else rdR c a.base 8))
/-- Memory as a step sees it. -/
structure View where
  ld : Int → Int → Int × Bool
  my : Int → Int → Bool
def view (c : Co) (t : Int) : View := ⟨loadC c t, fun a w => mayA c.ars t a w true⟩
def pkX (v : Int) (b : Bool) (k : Int) : Int := bif b then bor .u64 v k else v
def packX (t : TThunk) : Int := pkX (pkX (pkX (pkX (pkX 514 t.C 1) (xflag_Thunk_Even t) 4) (xflag_Thunk_Zero t) 64) (xflag_Thunk_Sign t) 128) t.O 2048
namespace TRun
def fail (x : TRun) (e : Int) : TRun := { x with end0 := bif x.end0 == 0 then e else x.end0 }
def wr (x : TRun) (reg w v : Int) : TRun := { x with cpu := wrR x.cpu reg w v }
def th (x : TRun) (t : TThunk) : TRun := { x with cpu := { x.cpu with thunk := t } }
def rg (x : TRun) (k : Nat) (v : Int) : TRun := { x with cpu := { x.cpu with reg := x.cpu.reg.s v k } }
def jp (x : TRun) (v : Int) : TRun := { x with cpu := { x.cpu with ip := v } }
end TRun
section
variable (V : View) (x : TRun)
def rdX (a w : Int) : Int × TRun := ((V.ld a w).1, bif (V.ld a w).2 then x else x.fail 2)
def wrX (a w v : Int) : TRun := { (bif V.my a w then x else x.fail 2) with stores := true, at0 := a, v := bits_Zx v w }
def getX (o : TOpd) (w : Int) : Int × TRun := bif o.kind == 1 then (rdR x.cpu o.reg w, x) else bif o.kind == 2 then rdX V x (atR x.cpu o.addr x.next0) w else (bits_Zx (IntKind.u64.wrap x.i.imm) w, x)
def setX (o : TOpd) (w v : Int) : TRun := bif o.kind == 2 then wrX V x (atR x.cpu o.addr x.next0) w v else x.wr o.reg w v
def moveX : TRun :=
  bif x.i.op == 10 then setX V (getX V x x.i.B x.i.W).2 x.i.A x.i.W (getX V x x.i.B x.i.W).1
  else bif x.i.op == 11 then setX V (getX V x x.i.B x.i.w2).2 x.i.A x.i.W (getX V x x.i.B x.i.w2).1
  else bif x.i.op == 12 then setX V (getX V x x.i.B x.i.w2).2 x.i.A x.i.W (bits_Sx (getX V x x.i.B x.i.w2).1 x.i.w2)
  else bif x.i.op == 13 then setX V x x.i.A x.i.W (atR x.cpu x.i.B.addr x.next0)
  else setX V x x.i.A x.i.W 0
def pushX (v : Int) : TRun := (wrX V x (IntKind.u64.wrap (x.cpu.reg.a4 - 8)) 8 v).rg 4 (IntKind.u64.wrap (x.cpu.reg.a4 - 8))
def popX : Int × TRun := ((rdX V x x.cpu.reg.a4 8).1, (rdX V x x.cpu.reg.a4 8).2.rg 4 (IntKind.u64.wrap (x.cpu.reg.a4 + 8)))
def stackX : TRun := bif x.i.op == 14 then pushX V (getX V x x.i.A 8).2 (getX V x x.i.A 8).1 else setX V (popX V x).2 x.i.A 8 (popX V x).1
def halvesX (lo hi : Int) : TRun := bif x.i.W == 1 then x.wr 0 2 (bor .u64 lo (ishl .u64 hi 8)) else (x.wr 0 x.i.W lo).wr 2 x.i.W hi
def quoX (y : TRun) (q : Int × Int × Bool) : TRun := bif !q.2.2 then y.fail 3 else halvesX y q.1 q.2.1
def hiX : Int := bif x.i.W == 1 then ishr .u64 x.cpu.reg.a0 8 else rdR x.cpu 2 x.i.W
def quotientX : TRun := quoX (getX V x x.i.A x.i.W).2 (xflag_Quotient (hiX x) (rdR (getX V x x.i.A x.i.W).2.cpu 0 x.i.W) (getX V x x.i.A x.i.W).1 (x.i.op == 23) x.i.W)
def proX (y : TRun) (p : Int × Int × TThunk) : TRun := (halvesX y p.1 p.2.1).th p.2.2
def mulX (y : TRun) (p : Int × Int × TThunk) : TRun := (y.wr x.i.A.reg x.i.W p.1).th p.2.2
def productX : TRun :=
  bif x.i.op == 20 || x.i.op == 21 then proX (getX V x x.i.A x.i.W).2 (xflag_Product (rdR x.cpu 0 x.i.W) (getX V x x.i.A x.i.W).1 (x.i.op == 21) x.i.W)
  else bif x.i.op == 22 || x.i.op == 23 then quotientX V x
  else mulX x (getX V (getX V x x.i.A x.i.W).2 x.i.B x.i.W).2 (xflag_Product (bif x.i.op == 25 then IntKind.u64.wrap x.i.imm else (getX V x x.i.A x.i.W).1) (getX V (getX V x x.i.A x.i.W).2 x.i.B x.i.W).1 true x.i.W)
def swapX (a v : Int) : TRun := bif x.i.A.kind == 2 then wrX V x a x.i.W v else x.wr x.i.A.reg x.i.W v
/-- An exchange, behind its two values. -/
def exK (x y : TRun) (at0 a b : Int) : TRun :=
  bif x.i.op == 31 then swapX V (y.wr x.i.B.reg x.i.W a) at0 b
  else bif x.i.op == 33 then (swapX V (y.wr x.i.B.reg x.i.W a) at0 (xflag_Two 1 a b y.cpu.thunk x.i.W).1).th (xflag_Two 1 a b y.cpu.thunk x.i.W).2
  else bif rdR y.cpu 0 x.i.W == a then swapX V (y.th (xflag_Two 8 (rdR y.cpu 0 x.i.W) a y.cpu.thunk x.i.W).2) at0 b
  else bif x.i.A.kind == 2 then swapX V ((y.th (xflag_Two 8 (rdR y.cpu 0 x.i.W) a y.cpu.thunk x.i.W).2).wr 0 x.i.W a) at0 a
  else (y.th (xflag_Two 8 (rdR y.cpu 0 x.i.W) a y.cpu.thunk x.i.W).2).wr 0 x.i.W a
def exchangeX : TRun := exK V x (getX V (getX V x x.i.A x.i.W).2 x.i.B x.i.W).2 (atR x.cpu x.i.A.addr x.next0) (getX V x x.i.A x.i.W).1 (getX V (getX V x x.i.A x.i.W).2 x.i.B x.i.W).1
def chooseX : TRun :=
  bif x.i.op == 35 then setX V x x.i.A x.i.W (bif xflag_Thunk_Cond x.cpu.thunk x.i.cc then 1 else 0)
  else (getX V x x.i.B x.i.W).2.wr x.i.A.reg x.i.W (bif xflag_Thunk_Cond x.cpu.thunk x.i.cc then (getX V x x.i.B x.i.W).1 else rdR (getX V x x.i.B x.i.W).2.cpu x.i.A.reg x.i.W)
def targetX : Int × TRun := bif x.i.A.kind == 0 then (IntKind.u64.wrap (x.next0 + IntKind.u64.wrap x.i.imm), x) else getX V x x.i.A 8
def jumpX : TRun :=
  bif x.i.op == 36 then (bif xflag_Thunk_Cond x.cpu.thunk x.i.cc then (targetX V x).2.jp (targetX V x).1 else x)
  else bif x.i.op == 37 then (targetX V x).2.jp (targetX V x).1
  else bif x.i.op == 38 then (pushX V (targetX V x).2 (targetX V x).2.next0).jp (targetX V x).1
  else (popX V x).2.jp (popX V x).1
def strV (w : Int) : Int × TRun := bif x.i.op == 42 then ((rdX V x x.cpu.reg.a6 w).1, (rdX V x x.cpu.reg.a6 w).2.rg 6 (IntKind.u64.wrap (x.cpu.reg.a6 + IntKind.u64.wrap w))) else (rdR x.cpu 0 w, x)
def strK (y : TRun) : TRun := bif !y.i.rep then y else bif IntKind.u64.wrap (y.cpu.reg.a1 - 1) != 0 then (y.rg 1 (IntKind.u64.wrap (y.cpu.reg.a1 - 1))).jp y.here else y.rg 1 (IntKind.u64.wrap (y.cpu.reg.a1 - 1))
def strS (y : TRun) (w v : Int) : TRun := (wrX V y y.cpu.reg.a7 w v).rg 7 (IntKind.u64.wrap (y.cpu.reg.a7 + IntKind.u64.wrap w))
def stringsX (w : Int) : TRun := bif x.i.rep && x.cpu.reg.a1 == 0 then x else strK (strS V (strV V x w).2 w (strV V x w).1)
def otherX : TRun :=
  bif x.i.op == 40 then x.wr 0 x.i.W (bits_Sx (rdR x.cpu 0 (IntKind.i64.wrap (x.i.W.tdiv 2))) (IntKind.i64.wrap (x.i.W.tdiv 2)))
  else bif x.i.op == 41 then x.wr 2 x.i.W (bif bits_Neg (rdR x.cpu 0 x.i.W) x.i.W then bits_Mask x.i.W else 0)
  else stringsX V x x.i.W
/-- How a result of an operation of A is set. -/
def resX (y : TRun) (p : Int × TThunk) : TRun := (setX V y x.i.A x.i.W p.1).th p.2
def turnN : Int := bif x.i.B.kind == 1 then IntKind.i64.wrap (rdR x.cpu 1 1) else x.i.imm
def twoP : Int × TThunk := xflag_Two x.i.op (getX V x x.i.A x.i.W).1 (getX V (getX V x x.i.A x.i.W).2 x.i.B x.i.W).1 x.cpu.thunk x.i.W
def doX : TRun :=
  bif decide (x.i.op ≤ 9) then
    (bif decide (x.i.op < 8) then resX V x (getX V (getX V x x.i.A x.i.W).2 x.i.B x.i.W).2 (twoP V x)
     else (getX V (getX V x x.i.A x.i.W).2 x.i.B x.i.W).2.th (twoP V x).2)
  else bif decide (x.i.op ≤ 13) then moveX V x
  else bif decide (x.i.op ≤ 15) then stackX V x
  else bif decide (x.i.op ≤ 19) then resX V x (getX V x x.i.A x.i.W).2 (xflag_One x.i.op (getX V x x.i.A x.i.W).1 x.cpu.thunk x.i.W)
  else bif decide (x.i.op ≤ 25) then productX V x
  else bif decide (x.i.op ≤ 30) then resX V x (getX V x x.i.A x.i.W).2 (xflag_Turn x.i.op (getX V x x.i.A x.i.W).1 (turnN x) x.cpu.thunk x.i.W)
  else bif decide (x.i.op ≤ 33) then exchangeX V x
  else bif decide (x.i.op ≤ 35) then chooseX V x
  else bif decide (x.i.op ≤ 39) then jumpX V x
  else bif decide (x.i.op ≤ 43) then otherX V x
  else bif x.i.op == 46 then { ((x.rg 1 x.next0).rg 11 (packX x.cpu.thunk)) with end0 := 7 }
  else bif x.i.op == 47 then x.fail 4
  else x
end
theorem dT {p : Prop} [Decidable p] (h : p) : decide p = true := decide_eq_true h
theorem dF {p : Prop} [Decidable p] (h : ¬ p) : decide p = false := decide_eq_false h
theorem tBool (b : Bool) : Cell.toBool (.bool b) = some b := rfl
theorem tPtr (p : Option (Nat × Nat)) : Cell.toPtr (.ptr p) = some p := rfl
/-- With memory in its place. -/
def TRun.sm (x : TRun) (p : Option (Nat × Nat)) : TRun := { x with m := p }
structure RA (H : Heap) (L N id : Nat) (t : Int) (x : TRun) (M : Mm) (c : Co) : Prop where
  row : H[id]? = some (.row (x.sm M.p).row false)
  m : M.Is H L c
  fit : c.Fit N
  out : ¬ M.In id
  ht : x.t = t
/-- What has moved: the step's block, memory; all else is as it was. -/
structure Mv (id : Nat) (M M' : Mm) (H H' : Heap) : Prop where
  b : M'.b = M.b
  k : Kp (fun i => i = id ∨ M.In i) H H'
  ids : ∀ i, M'.In i → M.In i ∨ H.length ≤ i
theorem Mv.refl (id : Nat) (M : Mm) (H : Heap) : Mv id M M H H := ⟨rfl, Kp.refl _ _, fun _ h => .inl h⟩
theorem Mv.trans {id : Nat} {M N O : Mm} {A B C : Heap} (p : Mv id M N A B) (q : Mv id N O B C) : Mv id M O A C := by
  refine ⟨q.b.trans p.b, p.k.trans q.k (fun _ h => h) fun i hi hf => ?_, fun i h => ?_⟩
  · rcases hf with e | e
    · exact .inl e
    · rcases p.ids i e with e | e
      · exact .inr e
      · omega
  · rcases q.ids i h with e | e
    · exact p.ids i e
    · have := p.k.len; exact .inr (by omega)
theorem Mv.no {id : Nat} {M : Mm} {H H' : Heap} (k : Kp No H H') : Mv id M M H H' := ⟨rfl, k.mono fun _ _ h => h.elim, fun _ h => .inl h⟩
/-- A function's answer, and the step behind it. -/
def Rn {α : Type} (L N id : Nat) (t : Int) (M : Mm) (c : Co) (H : Heap) (q : Option (α × Heap)) (v : α) (y : TRun) : Prop :=
  ∃ M' H', q = some (v, H') ∧ RA H' L N id t y M' c ∧ Mv id M M' H H'
section
variable {α β : Type} {H H' : Heap} {L N id : Nat} {t : Int} {x y z : TRun} {M : Mm} {c : Co} {v u : α} {w : β}
theorem rn_ret (h : RA H L N id t x M c) (e : x = y) (ev : v = u) : Rn L N id t M c H (some (v, H)) u y := ⟨M, H, by rw [ev], e ▸ h, Mv.refl _ _ _⟩
theorem rn_bind {q : Option (α × Heap)} {f : α × Heap → Option (β × Heap)} (h : Rn L N id t M c H q v y) (k : ∀ M' H', RA H' L N id t y M' c → Mv id M M' H H' → Rn L N id t M' c H' (f (v, H')) w z) : Rn L N id t M c H (q.bind f) w z := by
  obtain ⟨M1, H1, e1, r1, m1⟩ := h
  obtain ⟨M2, H2, e2, r2, m2⟩ := k M1 H1 r1 m1
  exact ⟨M2, H2, by rw [e1]; exact e2, r2, m1.trans m2⟩
theorem rn_if {b : Bool} {p q : Option (α × Heap)} {y z : TRun} (h1 : b = true → Rn L N id t M c H p v y) (h2 : b = false → Rn L N id t M c H q v z) : Rn L N id t M c H (bif b then p else q) v (bif b then y else z) := by
  cases b
  · exact h2 rfl
  · exact h1 rfl
theorem RA.no (h : RA H L N id t x M c) (k : Kp No H H') : RA H' L N id t x M c := ⟨k.bk h.row, h.m.no k, h.fit, h.out, h.ht⟩
theorem RA.to (h : RA H L N id t x M c) {M' : Mm} (m : M'.Is H' L c) (k : M.To M' H H') : RA H' L N id t x M' c ∧ Mv id M M' H H' := by
  refine ⟨⟨by rw [show M'.p = M.p by unfold Mm.p; rw [k.b]]; exact k.k.at h.row h.out, m, h.fit, fun g => ?_, h.ht⟩, k.b, k.k.mono fun _ _ h => .inr h, k.ids⟩
  rcases k.ids id g with g | g
  · exact h.out g
  · have := lt_of h.row; omega
theorem rn_mem {q : Option (α × Heap)} {f : α × Heap → Option (β × Heap)} (h : RA H L N id t x M c) {M' : Mm} (e : q = some (v, H')) (m : M'.Is H' L c) (k : M.To M' H H') (n : RA H' L N id t x M' c → Rn L N id t M' c H' (f (v, H')) w z) : Rn L N id t M c H (q.bind f) w z := by
  obtain ⟨M2, H2, e2, r2, m2⟩ := n (h.to m k).1
  exact ⟨M2, H2, by rw [e]; exact e2, r2, (h.to m k).2.trans m2⟩
theorem RA.put (h : RA H L N id t x M c) (off : Nat) (vs : List Cell) (y : TRun) (hb : off + vs.length ≤ 48) (hx : ∀ p, splice (x.sm p).row off vs = (y.sm p).row) (ht : y.t = x.t) : ∃ H', H.put id off vs = some H' ∧ RA H' L N id t y M c ∧ Mv id M M H H' := by
  have kq : Kp (One id) H (H.set id (.row (y.sm M.p).row false)) := Kp.set _ _ _
  exact ⟨_, by rw [put_of h.row hb, hx M.p], ⟨set_get' (lt_of h.row), h.m.other kq (fun j hj e => h.out (by have : j = id := e; rwa [this] at hj)), h.fit, h.out, ht.trans h.ht⟩, rfl, kq.mono fun i _ e => .inl e, fun _ h => .inl h⟩
theorem rn_put {f : Heap → Option (β × Heap)} (h : RA H L N id t x M c) {off : Nat} {vs : List Cell} (y : TRun) (hb : off + vs.length ≤ 48) (hx : ∀ p, splice (x.sm p).row off vs = (y.sm p).row) (ht : y.t = x.t) (n : ∀ H', RA H' L N id t y M c → Rn L N id t M c H' (f H') w z) : Rn L N id t M c H ((H.put id off vs).bind f) w z := by
  obtain ⟨H1, e1, r1, m1⟩ := h.put off vs y hb hx ht
  obtain ⟨M2, H2, e2, r2, m2⟩ := n H1 r1
  exact ⟨M2, H2, by rw [e1]; exact e2, r2, m1.trans m2⟩
theorem RA.has (h : RA H L N id t x M c) (off n : Nat) (l : List Cell) (e : ((x.sm M.p).row.drop off).take n = l) : HasAt H id off l := fun j a hj => by
  rw [get_of h.row]
  subst e
  rw [List.getElem?_take] at hj
  split at hj
  · rwa [List.getElem?_drop] at hj
  · cases hj
theorem RA.g0 (h : RA H L N id t x M c) : H.get id 0 = some (.int .u64 x.cpu.reg.a0) := (get_of h.row _).trans rfl
theorem RA.g1 (h : RA H L N id t x M c) : H.get id 1 = some (.int .u64 x.cpu.reg.a1) := (get_of h.row _).trans rfl
theorem RA.g4 (h : RA H L N id t x M c) : H.get id 4 = some (.int .u64 x.cpu.reg.a4) := (get_of h.row _).trans rfl
theorem RA.g6 (h : RA H L N id t x M c) : H.get id 6 = some (.int .u64 x.cpu.reg.a6) := (get_of h.row _).trans rfl
theorem RA.g7 (h : RA H L N id t x M c) : H.get id 7 = some (.int .u64 x.cpu.reg.a7) := (get_of h.row _).trans rfl
theorem RA.g19 (h : RA H L N id t x M c) : H.get id 19 = some (.int .u64 x.cpu.ip) := (get_of h.row _).trans rfl
theorem RA.g20 (h : RA H L N id t x M c) : H.get id 20 = some (.int .i64 x.t) := (get_of h.row _).trans rfl
theorem RA.g21 (h : RA H L N id t x M c) : H.get id 21 = some (.int .i64 x.i.op) := (get_of h.row _).trans rfl
theorem RA.g22 (h : RA H L N id t x M c) : H.get id 22 = some (.int .i64 x.i.W) := (get_of h.row _).trans rfl
theorem RA.g24 (h : RA H L N id t x M c) : H.get id 24 = some (.int .i64 x.i.A.kind) := (get_of h.row _).trans rfl
theorem RA.g25 (h : RA H L N id t x M c) : H.get id 25 = some (.int .i64 x.i.A.reg) := (get_of h.row _).trans rfl
theorem RA.g36 (h : RA H L N id t x M c) : H.get id 36 = some (.int .i64 x.i.imm) := (get_of h.row _).trans rfl
theorem RA.g37 (h : RA H L N id t x M c) : H.get id 37 = some (.int .i64 x.i.cc) := (get_of h.row _).trans rfl
theorem RA.g38 (h : RA H L N id t x M c) : H.get id 38 = some (.bool x.i.lock) := (get_of h.row _).trans rfl
theorem RA.g39 (h : RA H L N id t x M c) : H.get id 39 = some (.bool x.i.rep) := (get_of h.row _).trans rfl
theorem RA.g41 (h : RA H L N id t x M c) : H.get id 41 = some (.ptr M.p) := (get_of h.row _).trans rfl
theorem RA.g42 (h : RA H L N id t x M c) : H.get id 42 = some (.int .u64 x.here) := (get_of h.row _).trans rfl
theorem RA.g43 (h : RA H L N id t x M c) : H.get id 43 = some (.int .u64 x.next0) := (get_of h.row _).trans rfl
theorem RA.g44 (h : RA H L N id t x M c) : H.get id 44 = some (.int .i64 x.end0) := (get_of h.row _).trans rfl
theorem RA.g45 (h : RA H L N id t x M c) : H.get id 45 = some (.bool x.stores) := (get_of h.row _).trans rfl
theorem RA.g46 (h : RA H L N id t x M c) : H.get id 46 = some (.int .u64 x.at0) := (get_of h.row _).trans rfl
theorem RA.g47 (h : RA H L N id t x M c) : H.get id 47 = some (.int .u64 x.v) := (get_of h.row _).trans rfl
theorem RA.ldI {R : Type} (h : RA H L N id t x M c) (k : TInst → Option R) : ldInst H id 21 k = k x.i := ldInst_of (h.has 21 20 _ rfl) k
theorem RA.ldT {R : Type} (h : RA H L N id t x M c) (k : TThunk → Option R) : ldThunk H id 16 k = k x.cpu.thunk := ldThunk_of (h.has 16 3 _ rfl) k
theorem RA.ldA {R : Type} (h : RA H L N id t x M c) (k : TOpd → Option R) : ldOpd H id 24 k = k x.i.A := ldOpd_of (h.has 24 6 _ rfl) k
theorem RA.ldC {R : Type} (h : RA H L N id t x M c) (k : TCpu → Option R) : ldCpu H id 0 k = k x.cpu := ldCpu_of (h.has 0 20 _ rfl) k
theorem row_reg (x : TRun) : ∀ k, k < 16 → x.row[k]? = some (.int .u64 (x.cpu.reg.g k))
  | 0, _ => rfl
  | 1, _ => rfl
  | 2, _ => rfl
  | 3, _ => rfl
  | 4, _ => rfl
  | 5, _ => rfl
  | 6, _ => rfl
  | 7, _ => rfl
  | 8, _ => rfl
  | 9, _ => rfl
  | 10, _ => rfl
  | 11, _ => rfl
  | 12, _ => rfl
  | 13, _ => rfl
  | 14, _ => rfl
  | 15, _ => rfl
  | k + 16, h => by omega
theorem row_set (x : TRun) (v : Int) : ∀ k, k < 16 → splice x.row k [.int .u64 v] = (x.rg k v).row
  | 0, _ => rfl
  | 1, _ => rfl
  | 2, _ => rfl
  | 3, _ => rfl
  | 4, _ => rfl
  | 5, _ => rfl
  | 6, _ => rfl
  | 7, _ => rfl
  | 8, _ => rfl
  | 9, _ => rfl
  | 10, _ => rfl
  | 11, _ => rfl
  | 12, _ => rfl
  | 13, _ => rfl
  | 14, _ => rfl
  | 15, _ => rfl
  | k + 16, h => by omega
theorem RA.sameT (h : RA H L N id t x M c) {M' : Mm} {c' : Co} {N' : Nat} (h' : RA H' L N' id t y M' c') (e : y.cpu = x.cpu) : sameC id 16 3 H H' = true := sameC_iff.2 fun j hj => by
  rw [get_of h'.row, get_of h.row]
  rcases (by omega : j = 0 ∨ j = 1 ∨ j = 2) with rfl | rfl | rfl
  · show some (Cell.bool y.cpu.thunk.C) = some (Cell.bool x.cpu.thunk.C); rw [e]
  · show some (Cell.bool y.cpu.thunk.O) = some (Cell.bool x.cpu.thunk.O); rw [e]
  · show some (Cell.int .u64 y.cpu.thunk.res) = some (Cell.int .u64 x.cpu.thunk.res); rw [e]
/-! ### registers -/
theorem f127_x (p : Nat × Nat) (reg w : Int) (G : Heap) : f127 (some p) reg w G = some (hasR reg w, G) := by
  rw [q127]
  unfold hasR
  rw [show (some p : Option (Nat × Nat)).isNone = false from rfl]
  cases decide (reg ≥ 0) <;> cases decide (reg < 16) <;> rfl
theorem has_k {reg w : Int} (h : hasR reg w = true) : ∃ k : Nat, reg = (k : Int) ∧ k < 16 ∧ inb reg 16 = true := by
  unfold hasR at h
  simp only [Bool.and_eq_true, decide_eq_true_eq] at h
  exact ⟨reg.toNat, by omega, by omega, by simp [inb]; omega⟩
theorem f75_x (h : RA H L N id t x M c) (reg w : Int) : f75 (some (id, 0)) reg w H = some (rdR x.cpu reg w, H) := by
  rw [q75, f127_x, Ab.bs]
  unfold rdR
  cases hh : hasR reg w with
  | false => rfl
  | true =>
    obtain ⟨k, rfl, hk, hi⟩ := has_k hh
    have g : H.get id k = some (.int .u64 (x.cpu.reg.g k)) := (get_of h.row _).trans (row_reg (x.sm M.p) k hk)
    simp only [Bool.not_true, cf, ct, Ab.bs, hi, Nat.zero_add, Nat.add_zero, Int.toNat_natCast, Nat.mul_one, g, tInt]
theorem f118_x (h : RA H L N id t x M c) (a : TAddr) (next : Int) : f118 (some (id, 0)) a next H = some (atR x.cpu a next, H) := by
  rw [q118, f75_x h, Ab.bs, show (some (id, 0) : Option (Nat × Nat)).isNone = false from rfl, cf, f75_x h]
  unfold atR
  cases a.base == 16 <;> rfl
theorem f120_x (h : RA H L N id t x M c) (reg w v : Int) : Rn L N id t M c H (f120 (some (id, 0)) reg w v H) () (x.wr reg w v) := by
  rw [q120, f127_x, Ab.bs]
  unfold TRun.wr wrR mixR
  cases hh : hasR reg w with
  | false => exact rn_ret h rfl rfl
  | true =>
    obtain ⟨k, rfl, hk, hi⟩ := has_k hh
    have g : H.get id k = some (.int .u64 (x.cpu.reg.g k)) := (get_of h.row _).trans (row_reg (x.sm M.p) k hk)
    simp only [Bool.not_true, cf, ct, Ab.bs, hi, Nat.zero_add, Nat.add_zero, Int.toNat_natCast, Nat.mul_one, g, tInt]
    cases decide (w < 4)
    · exact rn_put h (x.rg k _) (by simp; omega) (fun p => row_set (x.sm p) _ k hk) rfl fun H' r => rn_ret r rfl rfl
    · exact rn_put h (x.rg k _) (by simp; omega) (fun p => row_set (x.sm p) _ k hk) rfl fun H' r => rn_ret r rfl rfl
/-! ### memory -/
theorem f82_x (h : RA H L N id t x M c) (e : Int) : Rn L N id t M c H (f82 (some (id, 0)) e H) () (x.fail e) := by
  rw [q82]
  simp only [Ab.bs, Nat.zero_add, h.g44, tInt]
  unfold TRun.fail
  cases x.end0 == 0
  · exact rn_ret h rfl rfl
  · exact rn_put h { x with end0 := e } (by simp) (fun _ => rfl) rfl fun H' r => rn_ret r rfl rfl
theorem f117_x (h : RA H L N id t x M c) (hN : N ≤ 1000000) (a w : Int) : Rn L N id t M c H (f117 (some (id, 0)) a w H) (rdX (view c t) x a w).1 (rdX (view c t) x a w).2 := by
  rw [q117]
  simp only [Ab.bs, Nat.zero_add, h.g41, h.g20, tInt, tPtr, h.ht]
  obtain ⟨M1, H1, e1, m1, k1⟩ := load_x h.m h.fit hN t a w
  refine rn_mem h e1 m1 k1 fun r => ?_
  show Rn L N id t M1 c H1 _ (loadC c t a w).1 (bif (loadC c t a w).2 then x else x.fail 2)
  cases (loadC c t a w).2
  · exact rn_bind (f82_x r 2) fun _ _ r _ => rn_ret r rfl rfl
  · exact rn_ret r rfl rfl
theorem f119_x (h : RA H L N id t x M c) (a w v : Int) : Rn L N id t M c H (f119 (some (id, 0)) a w v H) () (wrX (view c t) x a w v) := by
  rw [q119]
  simp only [Ab.bs, Nat.zero_add, h.g41, h.g20, tInt, tPtr, h.ht]
  obtain ⟨M1, H1, e1, m1, k1⟩ := may_x h.m h.fit t a w true
  refine rn_mem h e1 m1 k1 fun r => ?_
  have fin : ∀ (M : Mm) (G : Heap) (y : TRun), RA G L N id t y M c → Rn L N id t M c G ((G.put id 45 [Cell.bool true]).bind fun v4 => (v4.put id 46 [Cell.int .u64 a]).bind fun v2 => (v2.put id 47 [Cell.int .u64 (bits_Zx v w)]).bind fun v0 => some ((), v0)) () { y with stores := true, at0 := a, v := bits_Zx v w } := fun M G y r =>
    rn_put r { y with stores := true } (by simp) (fun _ => rfl) rfl fun _ r => rn_put r { y with stores := true, at0 := a } (by simp) (fun _ => rfl) rfl fun _ r => rn_put r { y with stores := true, at0 := a, v := bits_Zx v w } (by simp) (fun _ => rfl) rfl fun _ r => rn_ret r rfl rfl
  show Rn L N id t M1 c H1 _ () { (bif mayA c.ars t a w true then x else x.fail 2) with stores := true, at0 := a, v := bits_Zx v w }
  cases mayA c.ars t a w true
  · exact rn_bind (f82_x r 2) fun M2 H2 r _ => fin _ _ _ r
  · exact fin _ _ _ r
theorem f69_x (h : RA H L N id t x M c) (hN : N ≤ 1000000) (o : TOpd) (w : Int) : Rn L N id t M c H (f69 (some (id, 0)) o w H) (getX (view c t) x o w).1 (getX (view c t) x o w).2 := by
  rw [q69]
  unfold getX
  simp only [Ab.bs, Nat.zero_add, Nat.add_zero, Nat.reduceAdd, h.g43, h.g36, tInt, f75_x h, f118_x h]
  cases o.kind == 1
  · cases o.kind == 2
    · exact rn_ret h rfl rfl
    · exact rn_bind (f117_x h hN _ w) fun _ _ r _ => rn_ret r rfl rfl
  · exact rn_ret h rfl rfl
theorem f70_x (h : RA H L N id t x M c) (o : TOpd) (w v : Int) : Rn L N id t M c H (f70 (some (id, 0)) o w v H) () (setX (view c t) x o w v) := by
  rw [q70]
  unfold setX
  simp only [Ab.bs, Nat.zero_add, Nat.add_zero, Nat.reduceAdd, h.g43, tInt, f118_x h]
  cases o.kind == 2
  · exact rn_bind (f120_x h _ w v) fun _ _ r _ => rn_ret r rfl rfl
  · exact rn_bind (f119_x h _ w v) fun _ _ r _ => rn_ret r rfl rfl
end
section
variable (V : View) (x : TRun)
theorem rdX_k (a w : Int) : (rdX V x a w).2.cpu = x.cpu ∧ (rdX V x a w).2.i = x.i ∧ (rdX V x a w).2.next0 = x.next0 ∧ (rdX V x a w).2.here = x.here := by
  unfold rdX; dsimp only; cases (V.ld a w).2 <;> exact ⟨rfl, rfl, rfl, rfl⟩
theorem wrX_k (a w v : Int) : (wrX V x a w v).cpu = x.cpu ∧ (wrX V x a w v).i = x.i ∧ (wrX V x a w v).next0 = x.next0 ∧ (wrX V x a w v).here = x.here := by
  unfold wrX; dsimp only; cases V.my a w <;> exact ⟨rfl, rfl, rfl, rfl⟩
theorem getX_k (o : TOpd) (w : Int) : (getX V x o w).2.cpu = x.cpu ∧ (getX V x o w).2.i = x.i ∧ (getX V x o w).2.next0 = x.next0 ∧ (getX V x o w).2.here = x.here := by
  unfold getX
  cases o.kind == 1
  · cases o.kind == 2
    · exact ⟨rfl, rfl, rfl, rfl⟩
    · exact rdX_k V x _ w
  · exact ⟨rfl, rfl, rfl, rfl⟩
theorem popX_k : (popX V x).2.i = x.i ∧ (popX V x).2.next0 = x.next0 := ⟨(rdX_k V x _ 8).2.1, (rdX_k V x _ 8).2.2.1⟩
end
theorem splice_th (x : TRun) (p : TThunk) : splice x.row 16 p.row = (x.th p).row := rfl
section
variable {H H' : Heap} {L N id : Nat} {t : Int} {x y z : TRun} {M : Mm} {c : Co}
theorem rn_no {α β : Type} {v : α} {w : β} {q : Option (α × Heap)} {f : α × Heap → Option (β × Heap)} (h : RA H L N id t x M c) (e : q = some (v, H')) (k : Kp No H H') (n : RA H' L N id t x M c → Rn L N id t M c H' (f (v, H')) w z) : Rn L N id t M c H (q.bind f) w z := by
  obtain ⟨M2, H2, e2, r2, m2⟩ := n (h.no k)
  exact ⟨M2, H2, by rw [e]; exact e2, r2, (Mv.no k).trans m2⟩
theorem rn_th (h : RA H L N id t x M c) (p : TThunk) : Rn L N id t M c H ((H.put id 16 p.row).bind fun v => some ((), v)) () (x.th p) :=
  rn_put h (x.th p) (by show 16 + 3 ≤ 48; omega) (fun q => splice_th (x.sm q) p) rfl fun _ r => rn_ret r rfl rfl
theorem f71_x (h : RA H L N id t x M c) (hN : N ≤ 1000000) : Rn L N id t M c H (f71 (some (id, 0)) H) () (moveX (view c t) x) := by
  rw [q71]
  simp only [Ab.bs, Nat.zero_add, Nat.add_zero, Nat.reduceAdd, h.ldI, h.g43, tInt, f118_x h]
  unfold moveX
  have k : ∀ (w w2 : Int) (v : Int → Int), Rn L N id t M c H ((f69 (some (id, 0)) x.i.B w2 H).bind fun v2 => (f70 (some (id, 0)) x.i.A w (v v2.1) v2.2).bind fun v1 => some ((), v1.2)) () (setX (view c t) (getX (view c t) x x.i.B w2).2 x.i.A w (v (getX (view c t) x x.i.B w2).1)) := fun w w2 v =>
    rn_bind (f69_x h hN _ w2) fun _ _ r _ => rn_bind (f70_x r _ w _) fun _ _ r _ => rn_ret r rfl rfl
  cases x.i.op == 10
  · cases x.i.op == 11
    · cases x.i.op == 12
      · cases x.i.op == 13
        · exact rn_bind (f70_x h _ _ _) fun _ _ r _ => rn_ret r rfl rfl
        · exact rn_bind (f70_x h _ _ _) fun _ _ r _ => rn_ret r rfl rfl
      · exact k _ _ fun v => bits_Sx v x.i.w2
    · exact k _ _ fun v => v
  · exact k _ _ fun v => v
theorem f122_x (h : RA H L N id t x M c) (v : Int) : Rn L N id t M c H (f122 (some (id, 0)) v H) () (pushX (view c t) x v) := by
  rw [q122]
  simp only [Ab.bs, Nat.zero_add, Nat.add_zero, Nat.reduceAdd, h.g4, tInt]
  exact rn_bind (f119_x h _ 8 v) fun _ _ r _ => rn_put r (pushX (view c t) x v) (by simp) (fun _ => rfl) rfl fun _ r => rn_ret r rfl rfl
theorem f123_x (h : RA H L N id t x M c) (hN : N ≤ 1000000) : Rn L N id t M c H (f123 (some (id, 0)) H) (popX (view c t) x).1 (popX (view c t) x).2 := by
  rw [q123]
  simp only [Ab.bs, Nat.zero_add, Nat.add_zero, Nat.reduceAdd, h.g4, tInt]
  refine rn_bind (f117_x h hN _ 8) fun _ _ r _ => ?_
  have g := r.g4
  rw [(rdX_k _ _ _ _).1] at g
  simp only [g, Ab.bs, tInt]
  exact rn_put r (popX (view c t) x).2 (by simp) (fun _ => rfl) rfl fun _ r => rn_ret r rfl rfl
theorem f72_x (h : RA H L N id t x M c) (hN : N ≤ 1000000) : Rn L N id t M c H (f72 (some (id, 0)) H) () (stackX (view c t) x) := by
  rw [q72]
  simp only [Ab.bs, Nat.zero_add, Nat.add_zero, Nat.reduceAdd, h.g21, tInt, h.ldA]
  unfold stackX
  cases x.i.op == 14
  · refine rn_bind (f123_x h hN) fun _ _ r _ => ?_
    simp only [r.ldA, (popX_k _ _).1]
    exact rn_bind (f70_x r _ 8 _) fun _ _ r _ => rn_ret r rfl rfl
  · exact rn_bind (f69_x h hN _ 8) fun _ _ r _ => rn_bind (f122_x r _) fun _ _ r _ => rn_ret r rfl rfl
theorem f125_x (h : RA H L N id t x M c) (lo hi : Int) : Rn L N id t M c H (f125 (some (id, 0)) lo hi H) () (halvesX x lo hi) := by
  rw [q125]
  simp only [Ab.bs, Nat.zero_add, Nat.add_zero, Nat.reduceAdd, h.g22, tInt]
  unfold halvesX
  cases x.i.W == 1
  · refine rn_bind (f120_x h 0 _ lo) fun _ _ r _ => ?_
    have g := r.g22
    rw [show (x.wr 0 x.i.W lo).i.W = x.i.W from rfl] at g
    simp only [g, Ab.bs, tInt]
    exact rn_bind (f120_x r 2 _ hi) fun _ _ r _ => rn_ret r rfl rfl
  · exact rn_bind (f120_x h 0 2 _) fun _ _ r _ => rn_ret r rfl rfl
theorem f126_x (h : RA H L N id t x M c) (hN : N ≤ 1000000) : Rn L N id t M c H (f126 (some (id, 0)) H) () (quotientX (view c t) x) := by
  rw [q126]
  simp only [Ab.bs, Nat.zero_add, Nat.add_zero, Nat.reduceAdd, h.ldI, h.g0, tInt, f75_x h]
  unfold quotientX hiX quoX
  have k : ∀ hi, Rn L N id t M c H ((f69 (some (id, 0)) x.i.A x.i.W H).bind fun v5 => (f75 (some (id, 0)) 0 x.i.W v5.2).bind fun v3 => bif !(xflag_Quotient hi v3.1 v5.1 (x.i.op == 23) x.i.W).2.2 then (f82 (some (id, 0)) 3 v3.2).bind fun v1 => some ((), v1.2) else (f125 (some (id, 0)) (xflag_Quotient hi v3.1 v5.1 (x.i.op == 23) x.i.W).1 (xflag_Quotient hi v3.1 v5.1 (x.i.op == 23) x.i.W).2.1 v3.2).bind fun v2 => some ((), v2.2)) ()
      (quoX (getX (view c t) x x.i.A x.i.W).2 (xflag_Quotient hi (rdR (getX (view c t) x x.i.A x.i.W).2.cpu 0 x.i.W) (getX (view c t) x x.i.A x.i.W).1 (x.i.op == 23) x.i.W)) := by
    intro hi
    refine rn_bind (f69_x h hN _ _) fun _ _ r _ => ?_
    simp only [f75_x r, Ab.bs]
    unfold quoX
    generalize xflag_Quotient hi (rdR (getX (view c t) x x.i.A x.i.W).2.cpu 0 x.i.W) (getX (view c t) x x.i.A x.i.W).1 (x.i.op == 23) x.i.W = q
    cases q.2.2
    · exact rn_bind (f82_x r 3) fun _ _ r _ => rn_ret r rfl rfl
    · exact rn_bind (f125_x r _ _) fun _ _ r _ => rn_ret r rfl rfl
  cases x.i.W == 1
  · exact k _
  · exact k _
theorem f74_x (h : RA H L N id t x M c) (hN : N ≤ 1000000) : Rn L N id t M c H (f74 (some (id, 0)) H) () (productX (view c t) x) := by
  rw [q74]
  simp only [Ab.bs, Nat.zero_add, Nat.add_zero, Nat.reduceAdd, h.ldI, tInt, f75_x h]
  unfold productX
  have k1 : Rn L N id t M c H ((f69 (some (id, 0)) x.i.A x.i.W H).bind fun v4 => (f125 (some (id, 0)) (xflag_Product (rdR x.cpu 0 x.i.W) v4.1 (x.i.op == 21) x.i.W).1 (xflag_Product (rdR x.cpu 0 x.i.W) v4.1 (x.i.op == 21) x.i.W).2.1 v4.2).bind fun v3 => (v3.2.put id 16 (TThunk.row (xflag_Product (rdR x.cpu 0 x.i.W) v4.1 (x.i.op == 21) x.i.W).2.2)).bind fun v1 => some ((), v1)) ()
      (proX (getX (view c t) x x.i.A x.i.W).2 (xflag_Product (rdR x.cpu 0 x.i.W) (getX (view c t) x x.i.A x.i.W).1 (x.i.op == 21) x.i.W)) :=
    rn_bind (f69_x h hN _ _) fun _ _ r _ => rn_bind (f125_x r _ _) fun _ _ r _ => rn_th r _
  have k2 : Rn L N id t M c H ((f126 (some (id, 0)) H).bind fun v7 => some ((), v7.2)) () (quotientX (view c t) x) := rn_bind (f126_x h hN) fun _ _ r _ => rn_ret r rfl rfl
  have k3 : Rn L N id t M c H ((f69 (some (id, 0)) x.i.A x.i.W H).bind fun v17 => (f69 (some (id, 0)) x.i.B x.i.W v17.2).bind fun v16 => bif x.i.op == 25 then (f120 (some (id, 0)) x.i.A.reg x.i.W (xflag_Product (IntKind.u64.wrap x.i.imm) v16.1 true x.i.W).1 v16.2).bind fun v10 => (v10.2.put id 16 (TThunk.row (xflag_Product (IntKind.u64.wrap x.i.imm) v16.1 true x.i.W).2.2)).bind fun v8 => some ((), v8)
      else (f120 (some (id, 0)) x.i.A.reg x.i.W (xflag_Product v17.1 v16.1 true x.i.W).1 v16.2).bind fun v14 => (v14.2.put id 16 (TThunk.row (xflag_Product v17.1 v16.1 true x.i.W).2.2)).bind fun v12 => some ((), v12)) ()
      (mulX x (getX (view c t) (getX (view c t) x x.i.A x.i.W).2 x.i.B x.i.W).2 (xflag_Product (bif x.i.op == 25 then IntKind.u64.wrap x.i.imm else (getX (view c t) x x.i.A x.i.W).1) (getX (view c t) (getX (view c t) x x.i.A x.i.W).2 x.i.B x.i.W).1 true x.i.W)) := by
    refine rn_bind (f69_x h hN _ _) fun _ _ r _ => rn_bind (f69_x r hN _ _) fun _ _ r _ => ?_
    cases x.i.op == 25
    · exact rn_bind (f120_x r _ _ _) fun _ _ r _ => rn_th r _
    · exact rn_bind (f120_x r _ _ _) fun _ _ r _ => rn_th r _
  cases h20 : x.i.op == 20 <;> cases h21 : x.i.op == 21 <;> cases h22 : x.i.op == 22 <;> cases h23 : x.i.op == 23 <;> simp only [ct, cf, Bool.or_true, Bool.true_or, Bool.or_false, Bool.or_self] <;> rw [h21] at k1 <;> first | exact k1 | exact k2 | exact k3
theorem f131_x (h : RA H L N id t x M c) (a v : Int) : Rn L N id t M c H (f131 (some (id, 0)) a v H) () (swapX (view c t) x a v) := by
  rw [q131]
  simp only [Ab.bs, Nat.zero_add, Nat.add_zero, Nat.reduceAdd, h.g24, h.g22, h.g25, tInt]
  unfold swapX
  cases x.i.A.kind == 2
  · exact rn_bind (f120_x h _ _ v) fun _ _ r _ => rn_ret r rfl rfl
  · exact rn_bind (f119_x h _ _ v) fun _ _ r _ => rn_ret r rfl rfl
theorem f77_x (h : RA H L N id t x M c) (hN : N ≤ 1000000) : Rn L N id t M c H (f77 (some (id, 0)) H) () (exchangeX (view c t) x) := by
  rw [q77]
  simp only [Ab.bs, Nat.zero_add, Nat.add_zero, Nat.reduceAdd, h.ldI, h.g43, tInt, f118_x h]
  unfold exchangeX
  refine rn_bind (f69_x h hN _ _) fun _ _ r _ => rn_bind (f69_x r hN _ _) fun _ _ r _ => ?_
  have hi : (getX (view c t) (getX (view c t) x x.i.A x.i.W).2 x.i.B x.i.W).2.i = x.i := ((getX_k _ _ _ _).2.1).trans (getX_k _ _ _ _).2.1
  revert r hi
  generalize (getX (view c t) (getX (view c t) x x.i.A x.i.W).2 x.i.B x.i.W).2 = y
  generalize (getX (view c t) (getX (view c t) x x.i.A x.i.W).2 x.i.B x.i.W).1 = b
  generalize (getX (view c t) x x.i.A x.i.W).1 = a
  generalize atR x.cpu x.i.A.addr x.next0 = at0
  intro r hi
  simp only [r.ldT, f75_x r, Ab.bs]
  unfold exK
  cases x.i.op == 31
  · cases x.i.op == 33
    · generalize xflag_Two 8 (rdR y.cpu 0 x.i.W) a y.cpu.thunk x.i.W = p
      refine rn_put r (y.th p.2) (by show 16 + 3 ≤ 48; omega) (fun q => splice_th (y.sm q) p.2) rfl fun _ r => ?_
      cases rdR y.cpu 0 x.i.W == a
      · refine rn_bind (f120_x r _ _ _) fun _ _ r _ => ?_
        cases x.i.A.kind == 2
        · exact rn_ret r rfl rfl
        · exact rn_bind (f131_x r _ _) fun _ _ r _ => rn_ret r rfl rfl
      · exact rn_bind (f131_x r _ _) fun _ _ r _ => rn_ret r rfl rfl
    · exact rn_bind (f120_x r _ _ _) fun _ _ r _ => rn_bind (f131_x r _ _) fun _ _ r _ => rn_th r _
  · exact rn_bind (f120_x r _ _ _) fun _ _ r _ => rn_bind (f131_x r _ _) fun _ _ r _ => rn_ret r rfl rfl
theorem f78_x (h : RA H L N id t x M c) (hN : N ≤ 1000000) : Rn L N id t M c H (f78 (some (id, 0)) H) () (chooseX (view c t) x) := by
  rw [q78]
  simp only [Ab.bs, Nat.zero_add, Nat.add_zero, Nat.reduceAdd, h.ldI, h.ldT, tInt]
  unfold chooseX
  cases x.i.op == 35
  · refine rn_bind (f69_x h hN _ _) fun _ _ r _ => ?_
    simp only [f75_x r, Ab.bs]
    cases xflag_Thunk_Cond x.cpu.thunk x.i.cc
    · exact rn_bind (f120_x r _ _ _) fun _ _ r _ => rn_ret r rfl rfl
    · exact rn_bind (f120_x r _ _ _) fun _ _ r _ => rn_ret r rfl rfl
  · cases xflag_Thunk_Cond x.cpu.thunk x.i.cc
    · exact rn_bind (f70_x h _ _ _) fun _ _ r _ => rn_ret r rfl rfl
    · exact rn_bind (f70_x h _ _ _) fun _ _ r _ => rn_ret r rfl rfl
theorem f133_x (h : RA H L N id t x M c) (hN : N ≤ 1000000) : Rn L N id t M c H (f133 (some (id, 0)) H) (targetX (view c t) x).1 (targetX (view c t) x).2 := by
  rw [q133]
  simp only [Ab.bs, Nat.zero_add, Nat.add_zero, Nat.reduceAdd, h.g24, h.g43, h.g36, h.ldA, tInt]
  unfold targetX
  cases x.i.A.kind == 0
  · exact rn_bind (f69_x h hN _ 8) fun _ _ r _ => rn_ret r rfl rfl
  · exact rn_ret h rfl rfl
theorem rn_jp (h : RA H L N id t x M c) (p : Int) : Rn L N id t M c H ((H.put id 19 [Cell.int .u64 p]).bind fun v => some ((), v)) () (x.jp p) :=
  rn_put h (x.jp p) (by simp) (fun _ => rfl) rfl fun _ r => rn_ret r rfl rfl
theorem f79_x (h : RA H L N id t x M c) (hN : N ≤ 1000000) : Rn L N id t M c H (f79 (some (id, 0)) H) () (jumpX (view c t) x) := by
  rw [q79]
  simp only [Ab.bs, Nat.zero_add, Nat.add_zero, Nat.reduceAdd, h.g21, h.g37, h.ldT, tInt]
  unfold jumpX
  cases x.i.op == 36
  · cases x.i.op == 37
    · cases x.i.op == 38
      · exact rn_bind (f123_x h hN) fun _ _ r _ => rn_jp r _
      · refine rn_bind (f133_x h hN) fun _ _ r _ => ?_
        simp only [r.g43, Ab.bs, tInt]
        exact rn_bind (f122_x r _) fun _ _ r _ => rn_jp r _
    · exact rn_bind (f133_x h hN) fun _ _ r _ => rn_jp r _
  · cases xflag_Thunk_Cond x.cpu.thunk x.i.cc
    · exact rn_ret h rfl rfl
    · exact rn_bind (f133_x h hN) fun _ _ r _ => rn_jp r _
/-- The last part of Movs and Stos. -/
theorem strK_x (h : RA H L N id t x M c) : Rn L N id t M c H ((H.get id 39).bind fun v14 => v14.toBool.bind fun v13 => bif !v13 then some ((), H) else (H.get id 1).bind fun v11 => (Cell.toInt .u64 v11).bind fun v10 => (H.put id 1 [Cell.int .u64 (IntKind.u64.wrap (v10 - 1))]).bind fun v8 => (v8.get id 1).bind fun v6 => (Cell.toInt .u64 v6).bind fun v5 => bif v5 != 0 then (v8.get id 42).bind fun v3 => (Cell.toInt .u64 v3).bind fun v2 => (v8.put id 19 [Cell.int .u64 v2]).bind fun v0 => some ((), v0) else some ((), v8)) () (strK x) := by
  simp only [h.g39, h.g1, Ab.bs, tBool, tInt]
  unfold strK
  cases x.i.rep
  · exact rn_ret h rfl rfl
  · refine rn_put h (x.rg 1 (IntKind.u64.wrap (x.cpu.reg.a1 - 1))) (by simp) (fun _ => rfl) rfl fun _ r => ?_
    simp only [r.g1, r.g42, Ab.bs, tInt, Bool.not_true, cf]
    rw [show (x.rg 1 (IntKind.u64.wrap (x.cpu.reg.a1 - 1))).cpu.reg.a1 = IntKind.u64.wrap (x.cpu.reg.a1 - 1) from rfl]
    cases IntKind.u64.wrap (x.cpu.reg.a1 - 1) != 0
    · exact rn_ret r rfl rfl
    · exact rn_jp r _
/-- A turn of Movs and Stos behind its load. -/
theorem strS_x (h : RA H L N id t x M c) (w v : Int) : Rn L N id t M c H ((H.get id 7).bind fun v23 => (Cell.toInt .u64 v23).bind fun v22 => (f119 (some (id, 0)) v22 w v H).bind fun v21 => (v21.2.get id 7).bind fun v19 => (Cell.toInt .u64 v19).bind fun v18 => (v21.2.put id 7 [Cell.int .u64 (IntKind.u64.wrap (v18 + IntKind.u64.wrap w))]).bind fun v16 => (v16.get id 39).bind fun v14 => v14.toBool.bind fun v13 => bif !v13 then some ((), v16) else (v16.get id 1).bind fun v11 => (Cell.toInt .u64 v11).bind fun v10 => (v16.put id 1 [Cell.int .u64 (IntKind.u64.wrap (v10 - 1))]).bind fun v8 => (v8.get id 1).bind fun v6 => (Cell.toInt .u64 v6).bind fun v5 => bif v5 != 0 then (v8.get id 42).bind fun v3 => (Cell.toInt .u64 v3).bind fun v2 => (v8.put id 19 [Cell.int .u64 v2]).bind fun v0 => some ((), v0) else some ((), v8)) () (strK (strS (view c t) x w v)) := by
  simp only [h.g7, Ab.bs, tInt]
  refine rn_bind (f119_x h _ w v) fun _ _ r _ => ?_
  have g := r.g7
  rw [(wrX_k _ _ _ _ _).1] at g
  simp only [g, Ab.bs, tInt]
  exact rn_put r (strS (view c t) x w v) (by simp) (fun _ => rfl) rfl fun _ r => strK_x r
theorem f134_x (h : RA H L N id t x M c) (hN : N ≤ 1000000) (w : Int) : Rn L N id t M c H (f134 (some (id, 0)) w H) () (stringsX (view c t) x w) := by
  rw [q134]
  simp only [Ab.bs, Nat.zero_add, Nat.add_zero, Nat.reduceAdd, h.g39, h.g1, h.g21, h.g6, tInt, tBool, f75_x h]
  have k : Rn L N id t M c H (bif x.i.op == 42 then (f117 (some (id, 0)) x.cpu.reg.a6 w H).bind fun v30 => (v30.2.get id 6).bind fun v28 => (Cell.toInt .u64 v28).bind fun v27 => (v30.2.put id 6 [Cell.int .u64 (IntKind.u64.wrap (v27 + IntKind.u64.wrap w))]).bind fun v25 => (v25.get id 7).bind fun v23 => (Cell.toInt .u64 v23).bind fun v22 => (f119 (some (id, 0)) v22 w v30.1 v25).bind fun v21 => (v21.2.get id 7).bind fun v19 => (Cell.toInt .u64 v19).bind fun v18 => (v21.2.put id 7 [Cell.int .u64 (IntKind.u64.wrap (v18 + IntKind.u64.wrap w))]).bind fun v16 => (v16.get id 39).bind fun v14 => v14.toBool.bind fun v13 => bif !v13 then some ((), v16) else (v16.get id 1).bind fun v11 => (Cell.toInt .u64 v11).bind fun v10 => (v16.put id 1 [Cell.int .u64 (IntKind.u64.wrap (v10 - 1))]).bind fun v8 => (v8.get id 1).bind fun v6 => (Cell.toInt .u64 v6).bind fun v5 => bif v5 != 0 then (v8.get id 42).bind fun v3 => (Cell.toInt .u64 v3).bind fun v2 => (v8.put id 19 [Cell.int .u64 v2]).bind fun v0 => some ((), v0) else some ((), v8)
      else (H.get id 7).bind fun v23 => (Cell.toInt .u64 v23).bind fun v22 => (f119 (some (id, 0)) v22 w (rdR x.cpu 0 w) H).bind fun v21 => (v21.2.get id 7).bind fun v19 => (Cell.toInt .u64 v19).bind fun v18 => (v21.2.put id 7 [Cell.int .u64 (IntKind.u64.wrap (v18 + IntKind.u64.wrap w))]).bind fun v16 => (v16.get id 39).bind fun v14 => v14.toBool.bind fun v13 => bif !v13 then some ((), v16) else (v16.get id 1).bind fun v11 => (Cell.toInt .u64 v11).bind fun v10 => (v16.put id 1 [Cell.int .u64 (IntKind.u64.wrap (v10 - 1))]).bind fun v8 => (v8.get id 1).bind fun v6 => (Cell.toInt .u64 v6).bind fun v5 => bif v5 != 0 then (v8.get id 42).bind fun v3 => (Cell.toInt .u64 v3).bind fun v2 => (v8.put id 19 [Cell.int .u64 v2]).bind fun v0 => some ((), v0) else some ((), v8)) ()
      (strK (strS (view c t) (strV (view c t) x w).2 w (strV (view c t) x w).1)) := by
    unfold strV
    cases x.i.op == 42
    · exact strS_x h w _
    · refine rn_bind (f117_x h hN _ w) fun _ _ r _ => ?_
      have g := r.g6
      rw [(rdX_k _ _ _ _).1] at g
      simp only [g, Ab.bs, tInt]
      exact rn_put r ((rdX (view c t) x x.cpu.reg.a6 w).2.rg 6 (IntKind.u64.wrap (x.cpu.reg.a6 + IntKind.u64.wrap w))) (by simp) (fun _ => rfl) rfl fun _ r => strS_x r w _
  unfold stringsX
  cases x.i.rep
  · simp only [Bool.false_and, cf]; simpa only [h.g7, Ab.bs, tInt] using k
  · cases x.cpu.reg.a1 == 0
    · simp only [Bool.true_and, cf, ct]; simpa only [h.g7, Ab.bs, tInt] using k
    · exact rn_ret h rfl rfl
theorem f80_x (h : RA H L N id t x M c) (hN : N ≤ 1000000) : Rn L N id t M c H (f80 (some (id, 0)) H) () (otherX (view c t) x) := by
  rw [q80]
  simp only [Ab.bs, Nat.zero_add, Nat.add_zero, Nat.reduceAdd, h.g21, h.g22, tInt, f75_x h]
  unfold otherX
  cases x.i.op == 40
  · cases x.i.op == 41
    · exact rn_bind (f134_x h hN _) fun _ _ r _ => rn_ret r rfl rfl
    · cases bits_Neg (rdR x.cpu 0 x.i.W) x.i.W
      · exact rn_bind (f120_x h _ _ _) fun _ _ r _ => rn_ret r rfl rfl
      · exact rn_bind (f120_x h _ _ _) fun _ _ r _ => rn_ret r rfl rfl
  · exact rn_bind (f120_x h _ _ _) fun _ _ r _ => rn_ret r rfl rfl
end
theorem f81_x (p : TThunk) (H : Heap) : Says (f81 p H) H (packX p) := by
  rw [q81]
  refine says_push (b := .row [Cell.bool p.C, Cell.int .u64 1, Cell.bool (xflag_Thunk_Even p), Cell.int .u64 4, Cell.bool (xflag_Thunk_Zero p), Cell.int .u64 64, Cell.bool (xflag_Thunk_Sign p), Cell.int .u64 128, Cell.bool p.O, Cell.int .u64 2048] false) ?_
  have hb : ∀ j : Nat, (H ++ [Blk.row [Cell.bool p.C, Cell.int .u64 1, Cell.bool (xflag_Thunk_Even p), Cell.int .u64 4, Cell.bool (xflag_Thunk_Zero p), Cell.int .u64 64, Cell.bool (xflag_Thunk_Sign p), Cell.int .u64 128, Cell.bool p.O, Cell.int .u64 2048] false] : Heap).get H.length j = [Cell.bool p.C, Cell.int .u64 1, Cell.bool (xflag_Thunk_Even p), Cell.int .u64 4, Cell.bool (xflag_Thunk_Zero p), Cell.int .u64 64, Cell.bool (xflag_Thunk_Sign p), Cell.int .u64 128, Cell.bool p.O, Cell.int .u64 2048][j]? := fun j => get_of (push_get _ _) j
  generalize (H ++ [Blk.row [Cell.bool p.C, Cell.int .u64 1, Cell.bool (xflag_Thunk_Even p), Cell.int .u64 4, Cell.bool (xflag_Thunk_Zero p), Cell.int .u64 64, Cell.bool (xflag_Thunk_Sign p), Cell.int .u64 128, Cell.bool p.O, Cell.int .u64 2048] false] : Heap) = G at hb
  obtain ⟨n, hn⟩ := LL81_3_of 5 (by omega) (S81_3 514 (some (Sl.mk (List.length H) 0 5 5 2)) (slen (some (Sl.mk (List.length H) 0 5 5 2))) 0 G)
  have e : LL81_3 (S81_3 514 (some (Sl.mk (List.length H) 0 5 5 2)) (slen (some (Sl.mk (List.length H) 0 5 5 2))) 0 G) = some (AExit.exit 0, X81_3 (packX p) G) := by
    rw [hn]
    have st : ∀ (m i : Nat) (v : Int) (b : Bool) (k : Int), i < 5 → G.get H.length (i * 2) = some (Cell.bool b) → G.get H.length (i * 2 + 1) = some (Cell.int .u64 k) → D81_3 (m + 1) (S81_3 v (some (Sl.mk (List.length H) 0 5 5 2)) (slen (some (Sl.mk (List.length H) 0 5 5 2))) (i : Int) G) = D81_3 m (S81_3 (pkX v b k) (some (Sl.mk (List.length H) 0 5 5 2)) (slen (some (Sl.mk (List.length H) 0 5 5 2))) ((i + 1 : Nat) : Int) G) := by
      intro m i v b k hi g1 g2
      have hl : HasAt G H.length (i * 2) (TStructisboolbituint64.row ⟨b, k⟩) := fun j c hj => by
        rcases j with _ | _ | j
        · cases hj; exact g1
        · cases hj; exact g2
        · cases hj
      rw [D81_3_s, show decide ((i : Int) < slen (some (Sl.mk (List.length H) 0 5 5 2))) = true from dT (by show (i : Int) < 5; omega), ct, Ab.bs, show inb (i : Int) 5 = true by simp [inb]; omega, show ((2 : Nat) == 2) = true from rfl, Bool.and_self, ct, Nat.zero_add, Int.toNat_natCast, ldStructisboolbituint64_of hl, show IntKind.i64.wrap ((i : Int) + 1) = ((i + 1 : Nat) : Int) by rw [wrap_i64 (by omega) (by omega)]; rfl]
      unfold pkX
      cases b <;> rfl
    rw [show n + 5 + 1 = (n + 5) + 1 from rfl, show (0 : Int) = ((0 : Nat) : Int) from rfl, st (n + 5) 0 _ _ _ (by omega) (hb 0) (hb 1), st (n + 4) 1 _ _ _ (by omega) (hb 2) (hb 3), st (n + 3) 2 _ _ _ (by omega) (hb 4) (hb 5), st (n + 2) 3 _ _ _ (by omega) (hb 6) (hb 7), st (n + 1) 4 _ _ _ (by omega) (hb 8) (hb 9), D81_3_s]
    rfl
  show Says ((LL81_3 _).bind J81_3) _ _
  rw [e, Ab.bs, J81_3_0]
  exact says_ret rfl
section
variable {H H' : Heap} {L N id : Nat} {t : Int} {x y z : TRun} {M : Mm} {c : Co}
theorem f37_x (h : RA H L N id t x M c) (hN : N ≤ 1000000) : Rn L N id t M c H (f37 (some (id, 0)) H) () (doX (view c t) x) := by
  rw [q37]
  simp only [Ab.bs, Nat.zero_add, Nat.add_zero, Nat.reduceAdd, h.ldI, h.g43, h.ldT, tInt, f75_x h]
  unfold doX
  refine rn_if (fun _ => ?_) fun _ => ?_
  · refine rn_bind (f69_x h hN _ _) fun _ _ r1 _ => rn_bind (f69_x r1 hN _ _) fun _ _ r _ => ?_
    have c1 := (getX_k (view c t) x x.i.A x.i.W).1
    have c2 := (getX_k (view c t) (getX (view c t) x x.i.A x.i.W).2 x.i.B x.i.W).1
    simp only [r.ldT, h.sameT r1 c1, r1.sameT r c2, ct, c2, c1]
    refine rn_if (fun _ => ?_) fun _ => rn_th r _
    exact rn_bind (f70_x r _ _ _) fun _ _ r _ => rn_th r _
  refine rn_if (fun _ => ?_) fun _ => ?_
  · exact rn_bind (f71_x h hN) fun _ _ r _ => rn_ret r rfl rfl
  refine rn_if (fun _ => ?_) fun _ => ?_
  · exact rn_bind (f72_x h hN) fun _ _ r _ => rn_ret r rfl rfl
  refine rn_if (fun _ => ?_) fun _ => ?_
  · refine rn_bind (f69_x h hN _ _) fun _ _ r _ => ?_
    have c1 := (getX_k (view c t) x x.i.A x.i.W).1
    simp only [r.ldT, h.sameT r c1, ct, c1]
    exact rn_bind (f70_x r _ _ _) fun _ _ r _ => rn_th r _
  refine rn_if (fun _ => ?_) fun _ => ?_
  · exact rn_bind (f74_x h hN) fun _ _ r _ => rn_ret r rfl rfl
  refine rn_if (fun _ => ?_) fun _ => ?_
  · have k : ∀ n, Rn L N id t M c H ((f69 (some (id, 0)) x.i.A x.i.W H).bind fun v24 => ldThunk v24.2 id 16 fun v19 => bif sameC id 16 3 H v24.2 then (f70 (some (id, 0)) x.i.A x.i.W (xflag_Turn x.i.op v24.1 n v19 x.i.W).1 v24.2).bind fun v22 => (v22.2.put id 16 (TThunk.row (xflag_Turn x.i.op v24.1 n v19 x.i.W).2)).bind fun v20 => some ((), v20) else none) () (resX (view c t) x (getX (view c t) x x.i.A x.i.W).2 (xflag_Turn x.i.op (getX (view c t) x x.i.A x.i.W).1 n x.cpu.thunk x.i.W)) := by
      intro n
      refine rn_bind (f69_x h hN _ _) fun _ _ r _ => ?_
      have c1 := (getX_k (view c t) x x.i.A x.i.W).1
      simp only [r.ldT, h.sameT r c1, ct, c1]
      exact rn_bind (f70_x r _ _ _) fun _ _ r _ => rn_th r _
    unfold turnN
    cases x.i.B.kind == 1
    · exact k _
    · exact k _
  refine rn_if (fun _ => ?_) fun _ => ?_
  · exact rn_bind (f77_x h hN) fun _ _ r _ => rn_ret r rfl rfl
  refine rn_if (fun _ => ?_) fun _ => ?_
  · exact rn_bind (f78_x h hN) fun _ _ r _ => rn_ret r rfl rfl
  refine rn_if (fun _ => ?_) fun _ => ?_
  · exact rn_bind (f79_x h hN) fun _ _ r _ => rn_ret r rfl rfl
  refine rn_if (fun _ => ?_) fun _ => ?_
  · exact rn_bind (f80_x h hN) fun _ _ r _ => rn_ret r rfl rfl
  refine rn_if (fun _ => ?_) fun _ => ?_
  · obtain ⟨H1, e1, k1⟩ := f81_x x.cpu.thunk H
    refine rn_no h e1 k1 fun r => ?_
    simp only [k1.same1 (lt_of h.row), ct]
    exact rn_put r (x.rg 1 x.next0) (by simp) (fun _ => rfl) rfl fun _ r => rn_put r ((x.rg 1 x.next0).rg 11 (packX x.cpu.thunk)) (by simp) (fun _ => rfl) rfl fun _ r => rn_put r { ((x.rg 1 x.next0).rg 11 (packX x.cpu.thunk)) with end0 := 7 } (by simp) (fun _ => rfl) rfl fun _ r => rn_ret r rfl rfl
  refine rn_if (fun _ => ?_) fun _ => ?_
  · exact rn_bind (f82_x h 4) fun _ _ r _ => rn_ret r rfl rfl
  · exact rn_ret h rfl rfl
end
def isK (o : TOpd) (l : List Int) : Bool := l.contains o.kind && xomay o
theorem is_loop (o : TOpd) (b : Nat) (l : List Int) (hl : l.length < 100) (H : Heap) (hb : ∀ (j : Nat) (v : Int), l[j]? = some v → H.get b j = some (.int .i64 v)) : ∀ (m n i : Nat), i + m = l.length →
    (D110_2 (n + m + 1) (S110_2 (some ⟨b, 0, l.length, l.length, 1⟩) (l.length : Int) (i : Int) o H)).bind J110_2 = some ((l.drop i).contains o.kind && xomay o, H)
  | 0, n, i, h => by
    rw [D110_2_s, dF (show ¬ (i : Int) < (l.length : Int) by omega), cf, Ab.bs, J110_2_1, List.drop_eq_nil_of_le (by omega)]
    rfl
  | m + 1, n, i, h => by
    have hi : i < l.length := by omega
    have g := hb i _ (List.getElem?_eq_getElem hi)
    rw [show n + (m + 1) + 1 = (n + m + 1) + 1 by omega, D110_2_s, dT (show (i : Int) < (l.length : Int) by omega)]
    simp only [ct, Ab.bs, show inb (i : Int) l.length = true by simp [inb]; omega, beq_self_eq_true, Bool.and_self, Int.toNat_natCast, Nat.mul_one, Nat.zero_add, g, tInt, show IntKind.i64.wrap ((i : Int) + 1) = ((i + 1 : Nat) : Int) by rw [wrap_i64 (by omega) (by omega)]; rfl]
    rw [List.drop_eq_getElem_cons hi, List.contains_cons]
    cases hc : (o.kind == l[i]) with
    | true =>
      rw [ct, Ab.bs, J110_2_0]
      rw [Bool.true_or, Bool.true_and]
    | false =>
      rw [cf, is_loop o b l hl H hb m n (i + 1) (by omega), Bool.false_or]
theorem is_x (o : TOpd) (l : List Int) (hl : l.length < 100) (G : Heap) : Says (f110 o (some ⟨G.length, 0, l.length, l.length, 1⟩) (G ++ [Blk.row (l.map (Cell.int .i64)) false])) G (isK o l) := by
  refine says_push (b := Blk.row (l.map (Cell.int .i64)) false) ?_
  obtain ⟨n, hn⟩ := LL110_2_of l.length (by omega) (S110_2 (some ⟨G.length, 0, l.length, l.length, 1⟩) (l.length : Int) 0 o (G ++ [Blk.row (l.map (Cell.int .i64)) false]))
  rw [q110, show slen (some (⟨G.length, 0, l.length, l.length, 1⟩ : Sl)) = (l.length : Int) from rfl, hn]
  have := is_loop o G.length l hl (G ++ [Blk.row (l.map (Cell.int .i64)) false]) (fun j v hj => by rw [get_of (push_get _ _), List.getElem?_map, hj]; rfl) l.length n 0 (by omega)
  rw [show ((0 : Nat) : Int) = 0 from rfl, List.drop_zero] at this
  rw [this]
  exact says_ret rfl
section
variable (o : TOpd) (G : Heap)
theorem is12 : Says (f110 o (some (Sl.mk (List.length G) 0 2 2 1)) (G ++ [Blk.row [Cell.int .i64 1, Cell.int .i64 2] false])) G (isK o [1, 2]) := is_x o [1, 2] (by decide) G
theorem is123 : Says (f110 o (some (Sl.mk (List.length G) 0 3 3 1)) (G ++ [Blk.row [Cell.int .i64 1, Cell.int .i64 2, Cell.int .i64 3] false])) G (isK o [1, 2, 3]) := is_x o [1, 2, 3] (by decide) G
theorem is13 : Says (f110 o (some (Sl.mk (List.length G) 0 2 2 1)) (G ++ [Blk.row [Cell.int .i64 1, Cell.int .i64 3] false])) G (isK o [1, 3]) := is_x o [1, 3] (by decide) G
theorem is1 : Says (f110 o (some (Sl.mk (List.length G) 0 1 1 1)) (G ++ [Blk.row [Cell.int .i64 1] false])) G (isK o [1]) := is_x o [1] (by decide) G
theorem is2 : Says (f110 o (some (Sl.mk (List.length G) 0 1 1 1)) (G ++ [Blk.row [Cell.int .i64 2] false])) G (isK o [2]) := is_x o [2] (by decide) G
theorem is3 : Says (f110 o (some (Sl.mk (List.length G) 0 1 1 1)) (G ++ [Blk.row [Cell.int .i64 3] false])) G (isK o [3]) := is_x o [3] (by decide) G
theorem is0 : Says (f110 o (some (Sl.mk (List.length G) 0 1 1 1)) (G ++ [Blk.row [Cell.int .i64 0] false])) G (isK o [0]) := is_x o [0] (by decide) G
end
def xboth (i : TInst) : Bool := i.A.kind == 2 && i.B.kind == 2
def xtwo (i : TInst) : Bool :=
  bif xin i 1 8 then isW8 i.W && (isK i.A [1, 2] && (isK i.B [1, 2, 3] && (!xboth i && ximmB i)))
  else bif i.op == 9 then isW8 i.W && (isK i.A [1, 2] && (isK i.B [1, 3] && ximmB i))
  else bif i.op == 10 then isW8 i.W && (isK i.A [1, 2] && (isK i.B [1, 2, 3] && (!xboth i && (ximmB i || (i.W == 8 && (i.A.kind == 1 && i.B.kind == 3))))))
  else bif xin i 11 12 then xwide i && (isK i.A [1] && (isK i.B [1, 2] && (i.w2 == 1 || ((i.w2 == 2 && decide (i.W > 2)) || (i.w2 == 4 && (i.W == 8 && i.op == 12))))))
  else bif i.op == 13 then xwide i && (isK i.A [1] && isK i.B [2])
  else bif xin i 24 25 then xwide i && (isK i.A [1] && (isK i.B [1, 2] && ximm i))
  else bif xin i 26 30 then isW8 i.W && (isK i.A [1, 2] && (((i.B.kind == 1 && (i.B.reg == 1 && i.B.addr.nil)) && i.imm == 0) || (isK i.B [3] && (decide (i.imm ≥ 0) && decide (i.imm ≤ 255)))))
  else bif xin i 31 33 then isW8 i.W && (isK i.A [1, 2] && isK i.B [1])
  else i.op == 34 && (xwide i && (isK i.A [1] && isK i.B [1, 2]))
def TOpd.nil (o : TOpd) : Bool := o.kind == 0 && (o.reg == 0 && o.addr.nil)
def xone (i : TInst) : Bool :=
  bif !i.B.nil then false
  else bif i.op == 14 then i.W == 8 && (isK i.A [1, 2, 3] && ((i.A.kind == 3 && ximm i) || i.imm == 0))
  else bif i.op == 15 then i.W == 8 && isK i.A [1, 2]
  else bif xin i 16 21 then isW8 i.W && isK i.A [1, 2]
  else bif xin i 22 23 then isW8 i.W && (decide (i.W < 8) && isK i.A [1, 2])
  else bif i.op == 35 then i.W == 1 && isK i.A [1, 2]
  else bif xin i 37 38 then i.W == 8 && ((isK i.A [0] && ximm i) || (isK i.A [1, 2] && i.imm == 0))
  else bif i.op == 36 then i.W == 8 && (isK i.A [0] && ximm i)
  else bif xin i 40 41 then xwide i && isK i.A [0]
  else bif xin i 42 43 then isW8 i.W && isK i.A [0]
  else (i.op == 39 || xin i 44 47) && (i.W == 8 && isK i.A [0])
def ximmO (i : TInst) : Bool := i.B.kind == 3 || (i.op == 25 || (i.op == 14 || xin i 36 38))
def xmay (i : TInst) : Bool := xlocked i && (xplain i (ximmO i) (xin i 34 36) (xin i 11 12) && (xtwo i || xone i))
theorem f67_x (i : TInst) (H : Heap) : Says (f67 i H) H (xone i) := by
  rw [q67]
  simp only [Bool.and_true]
  unfold xone TOpd.nil TAddr.nil
  repeat' (first
    | exact says_ret rfl
    | (refine says_bind (is12 _ _) fun H' _ => ?_; dsimp only)
    | (refine says_bind (is123 _ _) fun H' _ => ?_; dsimp only)
    | (refine says_bind (is13 _ _) fun H' _ => ?_; dsimp only)
    | (refine says_bind (is1 _ _) fun H' _ => ?_; dsimp only)
    | (refine says_bind (is2 _ _) fun H' _ => ?_; dsimp only)
    | (refine says_bind (is3 _ _) fun H' _ => ?_; dsimp only)
    | (refine says_bind (is0 _ _) fun H' _ => ?_; dsimp only)
    | (refine says_if (fun hc => ?_) (fun hc => ?_) <;> (try simp only [Bool.not_eq_true', Bool.not_eq_false'] at hc) <;> simp only [hc, cond_true, cond_false, Bool.true_and, Bool.false_and, Bool.and_false, Bool.and_true, Bool.true_or, Bool.false_or, Bool.or_false, Bool.or_true, Bool.not_true, Bool.not_false]))
theorem f66_x (i : TInst) (H : Heap) : Says (f66 i H) H (xtwo i) := by
  rw [q66]
  simp only [Bool.and_true]
  unfold xtwo xboth TAddr.nil
  repeat' (first
    | exact says_ret rfl
    | (refine says_bind (is12 _ _) fun H' _ => ?_; dsimp only)
    | (refine says_bind (is123 _ _) fun H' _ => ?_; dsimp only)
    | (refine says_bind (is13 _ _) fun H' _ => ?_; dsimp only)
    | (refine says_bind (is1 _ _) fun H' _ => ?_; dsimp only)
    | (refine says_bind (is2 _ _) fun H' _ => ?_; dsimp only)
    | (refine says_bind (is3 _ _) fun H' _ => ?_; dsimp only)
    | (refine says_bind (is0 _ _) fun H' _ => ?_; dsimp only)
    | (refine says_if (fun hc => ?_) (fun hc => ?_) <;> (try simp only [Bool.not_eq_true', Bool.not_eq_false'] at hc) <;> simp only [hc, cond_true, cond_false, Bool.true_and, Bool.false_and, Bool.and_false, Bool.and_true, Bool.true_or, Bool.false_or, Bool.or_false, Bool.or_true, Bool.not_true, Bool.not_false]))
theorem f34_x (i : TInst) (H : Heap) : Says (f34 i H) H (xmay i) := by
  have k : Says ((f66 i H).bind fun v1 => bif v1.1 then some (true, v1.2) else (f67 i v1.2).bind fun v0 => some (v0.1, v0.2)) H (xtwo i || xone i) := by
    refine says_bind (f66_x i H) fun H' _ => ?_
    cases xtwo i
    · exact says_bind (f67_x i H') fun H2 _ => says_ret rfl
    · exact says_ret rfl
  rw [q34]
  unfold xmay ximmO
  have kk : ∀ b, Says (bif xlocked i then bif xplain i b (xin i 34 36) (xin i 11 12) then (f66 i H).bind fun v1 => bif v1.1 then some (true, v1.2) else (f67 i v1.2).bind fun v0 => some (v0.1, v0.2) else some (false, H) else some (false, H)) H (xlocked i && (xplain i b (xin i 34 36) (xin i 11 12) && (xtwo i || xone i))) := by
    intro b
    cases xlocked i
    · exact says_ret rfl
    · cases xplain i b (xin i 34 36) (xin i 11 12)
      · exact says_ret rfl
      · exact k
  cases i.B.kind == 3
  · cases i.op == 25
    · cases i.op == 14
      · exact kk _
      · exact kk _
    · exact kk _
  · exact kk _
/-- A step's instruction stays. -/
def Kx (x y : TRun) : Prop := y.i = x.i ∧ y.next0 = x.next0 ∧ y.here = x.here
theorem Kx.refl (x : TRun) : Kx x x := ⟨rfl, rfl, rfl⟩
theorem Kx.trans {x y z : TRun} (h : Kx x y) (k : Kx y z) : Kx x z := ⟨k.1.trans h.1, k.2.1.trans h.2.1, k.2.2.trans h.2.2⟩
theorem kx_if {x y z : TRun} {b : Bool} (h : Kx x y) (k : Kx x z) : Kx x (bif b then y else z) := by cases b <;> assumption
section
variable (V : View) (x : TRun)
theorem wr_kx (r w v : Int) : Kx x (x.wr r w v) := ⟨rfl, rfl, rfl⟩
theorem th_kx (p : TThunk) : Kx x (x.th p) := ⟨rfl, rfl, rfl⟩
theorem rg_kx (k : Nat) (v : Int) : Kx x (x.rg k v) := ⟨rfl, rfl, rfl⟩
theorem jp_kx (v : Int) : Kx x (x.jp v) := ⟨rfl, rfl, rfl⟩
theorem fail_kx (e : Int) : Kx x (x.fail e) := ⟨rfl, rfl, rfl⟩
theorem rd_kx (a w : Int) : Kx x (rdX V x a w).2 := (rdX_k V x a w).2
theorem wrX_kx (a w v : Int) : Kx x (wrX V x a w v) := (wrX_k V x a w v).2
theorem get_kx (o : TOpd) (w : Int) : Kx x (getX V x o w).2 := (getX_k V x o w).2
theorem set_kx (o : TOpd) (w v : Int) : Kx x (setX V x o w v) := kx_if (wrX_kx _ _ _ _ _) (wr_kx _ _ _ _)
theorem push_kx (v : Int) : Kx x (pushX V x v) := (wrX_kx V x _ _ _).trans (rg_kx _ _ _)
theorem pop_kx : Kx x (popX V x).2 := (rd_kx V x _ _).trans (rg_kx _ _ _)
theorem halves_kx (lo hi : Int) : Kx x (halvesX x lo hi) := kx_if (wr_kx _ _ _ _) ((wr_kx _ _ _ _).trans (wr_kx _ _ _ _))
theorem swap_kx (a v : Int) : Kx x (swapX V x a v) := kx_if (wrX_kx _ _ _ _ _) (wr_kx _ _ _ _)
theorem target_kx : Kx x (targetX V x).2 := by
  unfold targetX
  cases x.i.A.kind == 0
  · exact get_kx _ _ _ _
  · exact Kx.refl _
theorem move_kx : Kx x (moveX V x) := kx_if ((get_kx _ _ _ _).trans (set_kx _ _ _ _ _)) <| kx_if ((get_kx _ _ _ _).trans (set_kx _ _ _ _ _)) <| kx_if ((get_kx _ _ _ _).trans (set_kx _ _ _ _ _)) <| kx_if (set_kx _ _ _ _ _) (set_kx _ _ _ _ _)
theorem stack_kx : Kx x (stackX V x) := kx_if ((get_kx _ _ _ _).trans (push_kx _ _ _)) ((pop_kx _ _).trans (set_kx _ _ _ _ _))
theorem quotient_kx : Kx x (quotientX V x) := (get_kx _ _ _ _).trans (kx_if (fail_kx _ _) (halves_kx _ _ _))
theorem product_kx : Kx x (productX V x) := kx_if ((get_kx _ _ _ _).trans ((halves_kx _ _ _).trans (th_kx _ _))) <| kx_if (quotient_kx _ _) <| (get_kx _ _ _ _).trans ((get_kx _ _ _ _).trans ((wr_kx _ _ _ _).trans (th_kx _ _)))
theorem exK_kx (y : TRun) (a0 a b : Int) : Kx y (exK V x y a0 a b) := kx_if ((wr_kx _ _ _ _).trans (swap_kx _ _ _ _)) <| kx_if ((wr_kx _ _ _ _).trans ((swap_kx _ _ _ _).trans (th_kx _ _))) <| kx_if ((th_kx _ _).trans (swap_kx _ _ _ _)) <| kx_if ((th_kx _ _).trans ((wr_kx _ _ _ _).trans (swap_kx _ _ _ _))) ((th_kx _ _).trans (wr_kx _ _ _ _))
theorem exchange_kx : Kx x (exchangeX V x) := (get_kx _ _ _ _).trans ((get_kx _ _ _ _).trans (exK_kx _ _ _ _ _ _))
theorem choose_kx : Kx x (chooseX V x) := kx_if (set_kx _ _ _ _ _) ((get_kx _ _ _ _).trans (wr_kx _ _ _ _))
theorem jump_kx : Kx x (jumpX V x) := kx_if (kx_if ((target_kx _ _).trans (jp_kx _ _)) (Kx.refl _)) <| kx_if ((target_kx _ _).trans (jp_kx _ _)) <| kx_if ((target_kx _ _).trans ((push_kx _ _ _).trans (jp_kx _ _))) ((pop_kx _ _).trans (jp_kx _ _))
theorem strV_kx (w : Int) : Kx x (strV V x w).2 := by
  unfold strV
  cases x.i.op == 42
  · exact Kx.refl _
  · exact (rd_kx V x _ _).trans (rg_kx _ _ _)
theorem strings_kx (w : Int) : Kx x (stringsX V x w) := kx_if (Kx.refl _) <| (strV_kx _ _ _).trans (((wrX_kx _ _ _ _ _).trans (rg_kx _ _ _)).trans (kx_if (Kx.refl _) (kx_if ((rg_kx _ _ _).trans (jp_kx _ _)) (rg_kx _ _ _))))
theorem other_kx : Kx x (otherX V x) := kx_if (wr_kx _ _ _ _) <| kx_if (wr_kx _ _ _ _) (strings_kx _ _ _)
theorem res_kx (y : TRun) (p : Int × TThunk) : Kx y (resX V x y p) := (set_kx _ _ _ _ _).trans (th_kx _ _)
theorem do_kx : Kx x (doX V x) := by
  refine kx_if (kx_if ((get_kx _ _ _ _).trans ((get_kx _ _ _ _).trans (res_kx _ _ _ _))) ((get_kx _ _ _ _).trans ((get_kx _ _ _ _).trans (th_kx _ _)))) <| kx_if (move_kx _ _) <| kx_if (stack_kx _ _) <| kx_if ((get_kx _ _ _ _).trans (res_kx _ _ _ _)) <| kx_if (product_kx _ _) <| kx_if ((get_kx _ _ _ _).trans (res_kx _ _ _ _)) <| kx_if (exchange_kx _ _) <| kx_if (choose_kx _ _) <| kx_if (jump_kx _ _) <| kx_if (other_kx _ _) <| kx_if ⟨rfl, rfl, rfl⟩ <| kx_if (fail_kx _ _) (Kx.refl _)
end
def lkd (i : TInst) : Bool := i.lock || (i.op == 31 && i.A.kind == 2)
def flushes (i : TInst) : Bool := lkd i || (i.op == 44 || i.op == 46)
def run0 (x : TCpu) (t : Int) (i : TInst) : TRun := ⟨{ x with ip := xNext i x.ip }, t, i, none, x.ip, xNext i x.ip, 0, false, 0, 0⟩
def co1 (c : Co) (t : Int) (i : TInst) : Co := bif flushes i then (flushC c t).2 else c
def co2 (c : Co) (t : Int) (i : TInst) (y : TRun) : Co := bif y.stores then (bif lkd i then (putC c t y.at0 i.W y.v).2 else (storeC c t y.at0 i.W y.v).2) else c
def stepY (c : Co) (x : TCpu) (t : Int) (i : TInst) : TRun := doX (view (co1 c t i) t) (run0 x t i)
def fault (e : Int) : Bool := e != 0 && e != 7
/-- A step: how it ends, the cpu, memory. -/
def stepF (c : Co) (x : TCpu) (t : Int) (i : TInst) : Int × TCpu × Co :=
  bif !xmay i then (4, x, c)
  else bif fault (stepY c x t i).end0 then ((stepY c x t i).end0, x, co1 c t i)
  else ((stepY c x t i).end0, (stepY c x t i).cpu, co2 (co1 c t i) t i (stepY c x t i))
structure CA (H : Heap) (L N cid : Nat) (x : TCpu) (M : Mm) (c : Co) : Prop where
  cpu : H[cid]? = some (.row x.row false)
  m : M.Is H L c
  fit : c.Fit N
  out : ¬ M.In cid
theorem Co.Fit.up {c : Co} {N K : Nat} (f : c.Fit N) (h : N ≤ K) : c.Fit K := ⟨f.n, f.d, f.w, fun l hl => ⟨Nat.le_trans (f.g l hl).1 h, (f.g l hl).2⟩⟩
section
variable {H G : Heap} {L N id cid : Nat} {t : Int} {x : TCpu} {y : TRun} {M : Mm} {c : Co}
theorem f36_x (h : RA H L N id t y M c) : f36 (some (id, 0)) H = some (lkd y.i, H) := by
  rw [q36]
  simp only [Ab.bs, Nat.zero_add, Nat.add_zero, Nat.reduceAdd, h.g38, h.g21, h.g24, tInt, tBool]
  unfold lkd
  cases y.i.lock <;> cases y.i.op == 31 <;> rfl
noncomputable def wW (id cid : Nat) (G : Heap) : Option (Int × Heap) := ldCpu G id 0 fun v3 => (some (cid, 0)).bind fun v7 => (G.put v7.1 v7.2 v3.row).bind fun v6 => (v6.get id 44).bind fun v5 => (Cell.toInt .i64 v5).bind fun v4 => some (v4, v6)
noncomputable def wS (id cid : Nat) (t : Int) (i : TInst) (m : Option (Nat × Nat)) (G : Heap) : Option (Int × Heap) := (G.get id 45).bind fun v30 => v30.toBool.bind fun v29 => bif v29 then (f36 (some (id, 0)) G).bind fun v23 => bif v23.1 then (v23.2.get id 46).bind fun v12 => (Cell.toInt .u64 v12).bind fun v11 => (v23.2.get id 47).bind fun v10 => (Cell.toInt .u64 v10).bind fun v9 => (f38 m t v11 i.W v9 v23.2).bind fun v8 => wW id cid v8.2
  else (v23.2.get id 46).bind fun v22 => (Cell.toInt .u64 v22).bind fun v21 => (v23.2.get id 47).bind fun v20 => (Cell.toInt .u64 v20).bind fun v19 => (f32 m t v21 i.W v19 v23.2).bind fun v18 => wW id cid v18.2 else wW id cid G
noncomputable def wK (id cid : Nat) (t : Int) (i : TInst) (m : Option (Nat × Nat)) (G : Heap) : Option (Int × Heap) := (f37 (some (id, 0)) G).bind fun v63 => (v63.2.get id 44).bind fun v62 => (Cell.toInt .i64 v62).bind fun v61 => bif v61 != 0 then (v63.2.get id 44).bind fun v32 => (Cell.toInt .i64 v32).bind fun v31 => bif v31 != 7 then (v63.2.get id 44).bind fun v2 => (Cell.toInt .i64 v2).bind fun v1 => some (v1, v63.2) else wS id cid t i m v63.2 else wS id cid t i m v63.2
/-- What is left of a step: the cpu's block, memory, what has moved. -/
def Wr (L K id cid : Nat) (t : Int) (M : Mm) (H : Heap) (q : Option (Int × Heap)) (e : Int) (x : TCpu) (c : Co) : Prop :=
  ∃ M' H', q = some (e, H') ∧ CA H' L K cid x M' c ∧ M'.b = M.b ∧ Kp (fun j => j = id ∨ (j = cid ∨ M.In j)) H H' ∧ ∀ j, M'.In j → M.In j ∨ H.length ≤ j
theorem wr_to {L K : Nat} {q : Option (Int × Heap)} {e : Int} {x : TCpu} {c : Co} {M1 : Mm} {H1 : Heap} (m : Mv id M M1 H H1) (h : Wr L K id cid t M1 H1 q e x c) : Wr L K id cid t M H q e x c := by
  obtain ⟨M2, H2, e2, c2, b2, k2, i2⟩ := h
  refine ⟨M2, H2, e2, c2, b2.trans m.b, m.k.trans k2 (fun _ h => ?_) fun j hj h => ?_, fun j h => ?_⟩
  · rcases h with h | h
    · exact .inl h
    · exact .inr (.inr h)
  · rcases h with h | h | h
    · exact .inl h
    · exact .inr (.inl h)
    · rcases m.ids j h with h | h
      · exact .inr (.inr h)
      · omega
  · rcases i2 j h with h | h
    · exact m.ids j h
    · have := m.k.len; exact .inr (by omega)
theorem wW_x (h : RA H L N id t y M c) (hc : H[cid]? = some (.row x.row false)) (ho : ¬ M.In cid) (hne : cid ≠ id) : Wr L N id cid t M H (wW id cid H) y.end0 y.cpu c := by
  have hlt := lt_of hc
  have hp : H.put cid 0 y.cpu.row = some (H.set cid (.row y.cpu.row false)) := by
    rw [put_of hc (by show 0 + 20 ≤ 20; omega)]
    rfl
  have k : Kp (One cid) H (H.set cid (.row y.cpu.row false)) := Kp.set _ _ _
  have g : Heap.get (H.set cid (.row y.cpu.row false)) id 44 = some (Cell.int .i64 y.end0) := (get_of (k.at h.row (fun e => hne e.symm)) 44).trans rfl
  refine ⟨M, _, by unfold wW; rw [h.ldC]; simp only [Ab.bs, hp, g, tInt], ⟨set_get' hlt, h.m.other k fun j hj e => ho (by have : j = cid := e; rwa [this] at hj), h.fit, ho⟩, rfl, k.mono fun _ _ e => .inr (.inl e), fun _ h => .inl h⟩
theorem wr_step {K : Nat} {α : Type} {v : α} {q : Option (α × Heap)} {f : α × Heap → Option (Int × Heap)} {e : Int} {x : TCpu} {d : Co} {M' : Mm} {H' : Heap} (eq : q = some (v, H')) (k : M.To M' H H') (n : Wr L K id cid t M' H' (f (v, H')) e x d) : Wr L K id cid t M H (q.bind f) e x d := by
  obtain ⟨M2, H2, e2, r⟩ := wr_to (M := M) (H := H) ⟨k.b, k.k.mono fun _ _ h => .inr h, k.ids⟩ n
  exact ⟨M2, H2, by rw [eq]; exact e2, r⟩
theorem cpu_to {M' : Mm} {H' : Heap} (k : M.To M' H H') (hc : H[cid]? = some (.row x.row false)) (ho : ¬ M.In cid) : H'[cid]? = some (.row x.row false) ∧ ¬ M'.In cid := by
  refine ⟨k.k.at hc ho, fun g => ?_⟩
  rcases k.ids cid g with g | g
  · exact ho g
  · have := lt_of hc; omega
theorem cpu_mv {M' : Mm} {H' : Heap} (k : Mv id M M' H H') (hc : H[cid]? = some (.row x.row false)) (ho : ¬ M.In cid) (hne : cid ≠ id) : H'[cid]? = some (.row x.row false) ∧ ¬ M'.In cid := by
  refine ⟨k.k.at hc (fun g => g.elim hne ho), fun g => ?_⟩
  rcases k.ids cid g with g | g
  · exact ho g
  · have := lt_of hc; omega
theorem RA.up {K : Nat} (h : RA H L N id t y M c) (hk : N ≤ K) : RA H L K id t y M c := ⟨h.row, h.m, h.fit.up hk, h.out, h.ht⟩
/-- Memory moves and means something else. -/
theorem RA.co {K : Nat} {M' : Mm} {H' : Heap} {d : Co} (h : RA H L N id t y M c) (m : M'.Is H' L d) (f : d.Fit K) (k : M.To M' H H') : RA H' L K id t y M' d := by
  refine ⟨by rw [show M'.p = M.p by unfold Mm.p; rw [k.b]]; exact k.k.at h.row h.out, m, f, fun g => ?_, h.ht⟩
  rcases k.ids id g with g | g
  · exact h.out g
  · have := lt_of h.row; omega
theorem wS_x (h : RA H L N id t y M c) (hN : N < 65536) (hc : H[cid]? = some (.row x.row false)) (ho : ¬ M.In cid) (hne : cid ≠ id) (i : TInst) (hi : y.i = i) : Wr L (N + 1) id cid t M H (wS id cid t i M.p H) y.end0 y.cpu (co2 c t i y) := by
  unfold wS co2
  simp only [h.g45, Ab.bs, tBool, f36_x h, hi]
  cases y.stores
  · exact wW_x (h.up (Nat.le_succ N)) hc ho hne
  · cases lkd i
    · simp only [h.g46, h.g47, Ab.bs, tInt, ct, cf]
      obtain ⟨M1, H1, e1, m1, k1⟩ := store_x h.m h.fit hN t y.at0 i.W y.v
      obtain ⟨c1, c2⟩ := cpu_to k1 hc ho
      exact wr_step e1 k1 (wW_x (h.co m1 (store_fit h.fit t y.at0 i.W y.v) k1) c1 c2 hne)
    · simp only [h.g46, h.g47, Ab.bs, tInt, ct]
      obtain ⟨M1, H1, e1, m1, k1⟩ := put_x h.m h.fit (by omega) t y.at0 i.W y.v
      obtain ⟨c1, c2⟩ := cpu_to k1 hc ho
      exact wr_step e1 k1 (wW_x (h.co m1 ((put_fit h.fit t y.at0 i.W y.v).up (Nat.le_succ N)) k1) c1 c2 hne)
theorem wK_x (h : RA H L N id t y M c) (hN : N < 65536) (hc : H[cid]? = some (.row x.row false)) (ho : ¬ M.In cid) (hne : cid ≠ id) (i : TInst) (hi : y.i = i) :
    Wr L (N + 1) id cid t M H (wK id cid t i M.p H) (doX (view c t) y).end0 (bif fault (doX (view c t) y).end0 then x else (doX (view c t) y).cpu) (bif fault (doX (view c t) y).end0 then c else co2 c t i (doX (view c t) y)) := by
  obtain ⟨M1, H1, e1, r, m1⟩ := f37_x h (by omega)
  obtain ⟨c1, c2⟩ := cpu_mv m1 hc ho hne
  have hi1 : (doX (view c t) y).i = i := (do_kx _ _).1.trans hi
  have hp : M1.p = M.p := by unfold Mm.p; rw [m1.b]
  have s := wS_x r hN c1 c2 hne i hi1
  rw [hp] at s
  have e2 : wK id cid t i M.p H = bif (doX (view c t) y).end0 != 0 then bif (doX (view c t) y).end0 != 7 then some ((doX (view c t) y).end0, H1) else wS id cid t i M.p H1 else wS id cid t i M.p H1 := by
    unfold wK
    simp only [e1, Ab.bs, r.g44, tInt]
  refine wr_to m1 ?_
  rw [e2]
  unfold fault
  cases (doX (view c t) y).end0 != 0
  · exact s
  · cases (doX (view c t) y).end0 != 7
    · exact s
    · exact ⟨M1, H1, rfl, ⟨c1, r.m, r.fit.up (Nat.le_succ N), c2⟩, rfl, Kp.refl _ _, fun _ h => .inl h⟩
end
theorem f12_x {H : Heap} {L N cid : Nat} {x : TCpu} {M : Mm} {c : Co} (h : CA H L N cid x M c) (hN : N < 65536) (t : Int) (i : TInst) :
    ∃ M' H', f12 (some (cid, 0)) t i M.p H = some ((stepF c x t i).1, H') ∧ CA H' L (N + 1) cid (stepF c x t i).2.1 M' (stepF c x t i).2.2 ∧ Mv cid M M' H H' := by
  obtain ⟨H0, e0, k0⟩ := f34_x i H
  have hc0 := k0.bk h.cpu
  have m0 := h.m.no k0
  have hl0 := lt_of hc0
  have hl := lt_of h.cpu
  unfold stepF
  rw [q12, show (some (cid, 0) : Option (Nat × Nat)).isNone = false from rfl, cf, e0, Ab.bs]
  cases hm : xmay i with
  | false => exact ⟨M, H0, rfl, ⟨hc0, m0, h.fit.up (Nat.le_succ N), h.out⟩, Mv.no k0⟩
  | true =>
    have hld : ∀ {R : Type} (k : TCpu → Option R), ldCpu H0 cid 0 k = k x := fun k => ldCpu_of (hasAt_row hc0) k
    have g19 : H0.get cid 19 = some (.int .u64 x.ip) := (get_of hc0 _).trans rfl
    simp only [Bool.not_true, cf, Ab.bs, hld, Nat.zero_add, g19, tInt]
    have kp := Kp.push1 H0 (Blk.row (TRun.mk x t i M.p x.ip (xNext i x.ip) 0 false 0 0).row false)
    have R0 : RA (H0 ++ [Blk.row (TRun.mk x t i M.p x.ip (xNext i x.ip) 0 false 0 0).row false]) L N H0.length t (TRun.mk x t i none x.ip (xNext i x.ip) 0 false 0 0) M c := ⟨push_get _ _, m0.no kp, h.fit, fun g => by have := m0.lt g; omega, rfl⟩
    obtain ⟨G, eG, RG, mG⟩ := R0.put 19 [.int .u64 (xNext i x.ip)] (run0 x t i) (by simp) (fun _ => rfl) rfl
    obtain ⟨cG, oG⟩ := cpu_mv mG (kp.bk hc0) h.out (by omega : cid ≠ H0.length)
    have g43 := R0.g43
    simp only [g43, Ab.bs, tInt, eG, f36_x RG]
    have key : ∀ q, Wr L (N + 1) H0.length cid t M G q (stepY c x t i).end0 (bif fault (stepY c x t i).end0 then x else (stepY c x t i).cpu) (bif fault (stepY c x t i).end0 then co1 c t i else co2 (co1 c t i) t i (stepY c x t i)) →
        ∃ M' H', q = some ((bif fault (stepY c x t i).end0 then ((stepY c x t i).end0, x, co1 c t i) else ((stepY c x t i).end0, (stepY c x t i).cpu, co2 (co1 c t i) t i (stepY c x t i))).1, H') ∧ CA H' L (N + 1) cid (bif fault (stepY c x t i).end0 then ((stepY c x t i).end0, x, co1 c t i) else ((stepY c x t i).end0, (stepY c x t i).cpu, co2 (co1 c t i) t i (stepY c x t i))).2.1 M' (bif fault (stepY c x t i).end0 then ((stepY c x t i).end0, x, co1 c t i) else ((stepY c x t i).end0, (stepY c x t i).cpu, co2 (co1 c t i) t i (stepY c x t i))).2.2 ∧ Mv cid M M' H H' := by
      rintro q ⟨M2, H2, e2, c2, b2, k2, i2⟩
      have kk : Kp (fun j => j = cid ∨ M.In j) H H2 := by
        refine (k0.tr kp).trans (mG.k.trans k2 (D := fun j => j = H0.length ∨ (j = cid ∨ M.In j)) (fun _ h => h.elim .inl fun h => .inr (.inr h)) fun j _ h => h) (fun _ h => h.elim) fun j hj hf => ?_
        rcases hf with hf | hf
        · have := k0.len; omega
        · exact hf
      refine ⟨M2, H2, ?_, ?_, b2, kk, fun j hj => ?_⟩
      · rw [e2]; cases fault (stepY c x t i).end0 <;> rfl
      · revert c2; cases fault (stepY c x t i).end0 <;> exact fun c => c
      · rcases i2 j hj with g | g
        · exact .inl g
        · have := k0.len; have := kp.len; have := mG.k.len; exact .inr (by omega)
    have kf : flushes i = true → ∀ q, q = ((f27 M.p t G).bind fun v => wK H0.length cid t i M.p v.2) → Wr L (N + 1) H0.length cid t M G q (stepY c x t i).end0 (bif fault (stepY c x t i).end0 then x else (stepY c x t i).cpu) (bif fault (stepY c x t i).end0 then co1 c t i else co2 (co1 c t i) t i (stepY c x t i)) := by
      intro hf q hq
      subst hq
      obtain ⟨M1, H1, e1, m1, k1⟩ := flush_x RG.m RG.fit (by omega) t
      have RF := RG.co m1 (flush_fit h.fit t) k1
      obtain ⟨c1, o1⟩ := cpu_to k1 cG oG
      have w := wK_x RF hN c1 o1 (by omega : cid ≠ H0.length) i rfl
      rw [show M1.p = M.p by unfold Mm.p; rw [k1.b]] at w
      unfold stepY co1
      rw [hf, ct]
      exact wr_step e1 k1 w
    have kn : flushes i = false → Wr L (N + 1) H0.length cid t M G (wK H0.length cid t i M.p G) (stepY c x t i).end0 (bif fault (stepY c x t i).end0 then x else (stepY c x t i).cpu) (bif fault (stepY c x t i).end0 then co1 c t i else co2 (co1 c t i) t i (stepY c x t i)) := by
      intro hf
      unfold stepY co1
      rw [hf, cf]
      exact wK_x RG hN cG oG (by omega : cid ≠ H0.length) i rfl
    have li : lkd (run0 x t i).i = lkd i := rfl
    rw [li]
    cases h1 : lkd i with
    | true => exact key _ (kf (by unfold flushes; rw [h1, Bool.true_or]) _ rfl)
    | false =>
      cases h2 : i.op == 44 with
      | true => exact key _ (kf (by unfold flushes; rw [h1, h2, Bool.true_or, Bool.false_or]) _ rfl)
      | false =>
        cases h3 : i.op == 46 with
        | true => exact key _ (kf (by unfold flushes; rw [h1, h2, h3, Bool.false_or, Bool.false_or]) _ rfl)
        | false => exact key _ (kn (by unfold flushes; rw [h1, h2, h3, Bool.false_or, Bool.false_or]))
/-- What registers, jumps and faults leave alone. -/
structure Inv {β : Type} (p : TRun → β) : Prop where
  wr : ∀ x r w v, p (TRun.wr x r w v) = p x
  rg : ∀ x k v, p (TRun.rg x k v) = p x
  jp : ∀ x v, p (TRun.jp x v) = p x
  fail : ∀ x e, p (TRun.fail x e) = p x
/-- Stores too. -/
def InvS {β : Type} (p : TRun → β) : Prop := ∀ V x a w v, p (wrX V x a w v) = p x
theorem pif {β : Type} {p : TRun → β} {b : Bool} {y z : TRun} {k : β} (h1 : b = true → p y = k) (h2 : b = false → p z = k) : p (bif b then y else z) = k := by
  cases b
  · exact h2 rfl
  · exact h1 rfl
section
variable {β : Type} {p : TRun → β} (V : View) (x y : TRun)
theorem Inv.rd (h : Inv p) (a w : Int) : p (rdX V x a w).2 = p x := pif (fun _ => rfl) fun _ => h.fail _ _
theorem Inv.get (h : Inv p) (o : TOpd) (w : Int) : p (getX V x o w).2 = p x := by
  unfold getX
  cases o.kind == 1
  · cases o.kind == 2
    · rfl
    · exact h.rd V x _ w
  · rfl
theorem Inv.set (h : Inv p) (o : TOpd) (w v : Int) (ho : (o.kind == 2) = false ∨ InvS p) : p (setX V x o w v) = p x := pif (fun e => ho.elim (fun f => by rw [e] at f; cases f) fun s => s _ _ _ _ _) fun _ => h.wr _ _ _ _
theorem Inv.pop (h : Inv p) : p (popX V x).2 = p x := (h.rg _ _ _).trans (h.rd V x _ _)
theorem Inv.push (h : Inv p) (s : InvS p) (v : Int) : p (pushX V x v) = p x := (h.rg _ _ _).trans (s _ _ _ _ _)
theorem Inv.swap (h : Inv p) (a v : Int) (ho : (x.i.A.kind == 2) = false ∨ InvS p) : p (swapX V x a v) = p x := pif (fun e => ho.elim (fun f => by rw [e] at f; cases f) fun s => s _ _ _ _ _) fun _ => h.wr _ _ _ _
theorem Inv.target (h : Inv p) : p (targetX V x).2 = p x := by
  unfold targetX
  cases x.i.A.kind == 0
  · exact h.get V x _ _
  · rfl
theorem Inv.move (h : Inv p) (ho : (x.i.A.kind == 2) = false ∨ InvS p) : p (moveX V x) = p x :=
  pif (fun _ => (h.set V _ _ _ _ ho).trans (h.get V x _ _)) fun _ => pif (fun _ => (h.set V _ _ _ _ ho).trans (h.get V x _ _)) fun _ => pif (fun _ => (h.set V _ _ _ _ ho).trans (h.get V x _ _)) fun _ => pif (fun _ => h.set V _ _ _ _ ho) fun _ => h.set V _ _ _ _ ho
theorem Inv.choose (h : Inv p) (ho : (x.i.A.kind == 2) = false ∨ InvS p) : p (chooseX V x) = p x := pif (fun _ => h.set V _ _ _ _ ho) fun _ => (h.wr _ _ _ _).trans (h.get V x _ _)
theorem Inv.jump (h : Inv p) (hp : (x.i.op == 38) = false ∨ InvS p) : p (jumpX V x) = p x :=
  pif (fun _ => pif (fun _ => (h.jp _ _).trans (h.target V x)) fun _ => rfl) fun _ => pif (fun _ => (h.jp _ _).trans (h.target V x)) fun _ => pif (fun e => hp.elim (fun f => by rw [e] at f; cases f) fun s => (h.jp _ _).trans ((h.push V _ s _).trans (h.target V x))) fun _ => (h.jp _ _).trans (h.pop V x)
theorem Inv.strV (h : Inv p) (w : Int) : p (strV V x w).2 = p x := by
  unfold Go.Proofs.YtnipccoenalnkaaGreat.strV
  cases x.i.op == 42
  · rfl
  · exact (h.rg _ _ _).trans (h.rd V x _ _)
theorem Inv.strings (h : Inv p) (s : InvS p) (w : Int) : p (stringsX V x w) = p x :=
  pif (fun _ => rfl) fun _ => (pif (fun _ => rfl) fun _ => pif (fun _ => (h.jp _ _).trans (h.rg _ _ _)) fun _ => h.rg _ _ _).trans (((h.rg _ _ _).trans (s _ _ _ _ _)).trans (h.strV V x w))
theorem Inv.other (h : Inv p) (hp : (x.i.op == 40 || x.i.op == 41) = true ∨ InvS p) : p (otherX V x) = p x :=
  pif (fun _ => h.wr _ _ _ _) fun e0 => pif (fun _ => h.wr _ _ _ _) fun e1 => hp.elim (fun f => by rw [e0, e1] at f; cases f) fun s => h.strings V x s _
end
theorem decT {p : Prop} [Decidable p] (h : decide p = true) : p := of_decide_eq_true h
theorem decF' {p : Prop} [Decidable p] (h : decide p = false) : ¬ p := of_decide_eq_false h
end
end Go.Proofs.YtnipccoenalnkaaGreat
