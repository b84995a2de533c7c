/- The abstract machine, 1: abstract values, heaps, operations, code, in continuation-passing style. -/
import Derived.Orders
namespace Go.Proofs.YtnipccoenalnkaaGreat.Ab
open Go
set_option linter.unusedVariables false
set_option linter.unusedSimpArgs false

/-- A slice that is not nil: its block, where it begins there, its length, the capacity that is known, an element's cells. -/
structure Sl where
  id : Nat
  off : Nat
  len : Nat
  cap : Nat
  esz : Nat

/-- The value of one cell. -/
inductive Cell where
  | bool (b : Bool)
  | int (k : IntKind) (n : Int)
  | str (s : ByteArray)
  | ptr (p : Option (Nat × Nat))
  | slice (s : Option Sl)
  | map (m : Option Nat)
  | fn (f : FuncId) (first captured : List Cell)
  | nilFn
  deriving Inhabited

/-- A value that may leave a frame. -/
inductive TV where
  | c (x : Cell)
  | agg (cs : List Cell)
  deriving Inhabited

/-- A temporary's value. 'lp k off': the address of a cell of the frame's own block k. -/
inductive AV where
  | c (x : Cell)
  | agg (cs : List Cell)
  | tup (vs : List TV)
  | lp (k off : Nat)
  deriving Inhabited

def TV.av : TV → AV
  | .c x => .c x
  | .agg cs => .agg cs

inductive Blk where
  | row (cs : List Cell) (ro : Bool)
  | map (es : List (Cell × TV × Nat)) (clock : Nat)
  | dead
  | hole

abbrev Heap := List Blk

def Cell.toInt (k : IntKind) : Cell → Option Int
  | .int k' n => bif k == k' then some n else none
  | _ => none
def Cell.anyInt : Cell → Option Int
  | .int _ n => some n
  | _ => none
def Cell.toBool : Cell → Option Bool
  | .bool b => some b
  | _ => none
def Cell.toStr : Cell → Option ByteArray
  | .str s => some s
  | _ => none
def Cell.toPtr : Cell → Option (Option (Nat × Nat))
  | .ptr p => some p
  | _ => none
def Cell.toSlice : Cell → Option (Option Sl)
  | .slice s => some s
  | _ => none
def Cell.toMap : Cell → Option (Option Nat)
  | .map m => some m
  | _ => none
def TV.aggs : TV → Option (List Cell)
  | .agg l => some l
  | _ => none
def TV.cell : TV → Option Cell
  | .c x => some x
  | _ => none
def AV.cell : AV → Option Cell
  | .c x => some x
  | _ => none

def slen (s : Option Sl) : Int :=
  match s with
  | none => 0
  | some s => s.len

/-! heaps -/
def splice (cs : List Cell) (off : Nat) (vs : List Cell) : List Cell := cs.take off ++ (vs ++ cs.drop (off + vs.length))
def Heap.get (H : Heap) (id off : Nat) : Option Cell :=
  match H[id]? with
  | some (.row cs _) => cs[off]?
  | _ => none
def Heap.getN (H : Heap) (id off n : Nat) : Option (List Cell) :=
  match H[id]? with
  | some (.row cs _) => if off + n ≤ cs.length then some ((cs.drop off).take n) else none
  | _ => none
def Heap.put (H : Heap) (id off : Nat) (vs : List Cell) : Option Heap :=
  match H[id]? with
  | some (.row cs false) => if off + vs.length ≤ cs.length then some (H.set id (.row (splice cs off vs) false)) else none
  | _ => none
/-- Is it a row that may be written? -/
def ownRow (H : Heap) (id : Nat) : Bool :=
  match H[id]? with
  | some (.row _ false) => true
  | _ => false
/-- The most bytes that a row may come to. -/
def most : Nat := 2 ^ 44
/-- Cells behind a slice: in its place, as far as its known capacity goes; else a new block (the elder one is given up). -/
def Heap.app (H : Heap) (esz bytes : Nat) (s : Option Sl) (n : Nat) (xs : List Cell) : Option (Option Sl × Heap) :=
  if n = 0 then some (s, H) else
  match s with
  | none => if n * bytes ≤ most then some (some ⟨H.length, 0, n, n, esz⟩, H ++ [.row xs false]) else none
  | some s =>
    if s.esz ≠ esz then none else
    if s.len + n ≤ s.cap then (H.put s.id (s.off + s.len * esz) xs).map fun H' => (some { s with len := s.len + n }, H')
    else if (s.len + n) * bytes ≤ most then
      match H[s.id]? with
      | some (.row cs false) =>
        if s.off + s.len * esz ≤ cs.length then
          some (some ⟨H.length, 0, s.len + n, s.len + n, esz⟩, H.set s.id .dead ++ [.row ((cs.drop s.off).take (s.len * esz) ++ xs) false])
        else none
      | _ => none
    else none
def Heap.cellsOf (H : Heap) (esz : Nat) (x : Option Sl) : Option (List Cell) :=
  match x with
  | none => some []
  | some x => if x.esz = esz then (if x.len = 0 then some [] else H.getN x.id x.off (x.len * esz)) else none
def Heap.append (H : Heap) (esz bytes : Nat) (s x : Option Sl) : Option (Option Sl × Heap) :=
  (H.cellsOf esz x).bind fun xs => H.app esz bytes s (slen x).toNat xs
def bytesCells (s : ByteArray) : List Cell := s.data.toList.map fun b => .int .u8 b.toNat
def Heap.appendStr (H : Heap) (s : Option Sl) (x : ByteArray) : Option (Option Sl × Heap) := H.app 1 1 s x.size (bytesCells x)
def Heap.appendZ (H : Heap) (esz bytes : Nat) (s : Option Sl) (zero : List Cell) (n : Int) : Option (Option Sl × Heap) :=
  if 0 ≤ n ∧ n * bytes ≤ most ∧ n ≤ most then H.app esz bytes s n.toNat (List.replicate n.toNat zero).flatten else none
def Heap.make (H : Heap) (esz bytes : Nat) (zero : List Cell) (l c : Int) : Option (Option Sl × Heap) :=
  if 0 ≤ l ∧ l ≤ c ∧ c * bytes ≤ most ∧ c ≤ most then some (some ⟨H.length, 0, l.toNat, c.toNat, esz⟩, H ++ [.row (List.replicate c.toNat zero).flatten false]) else none
/-- May so many elements be made? -/
def makeOk (bytes : Nat) (l c : Int) : Bool := decide (0 ≤ l ∧ l ≤ c ∧ c * bytes ≤ most ∧ c ≤ most)
def Heap.copy (H : Heap) (esz : Nat) (d x : Option Sl) : Option (Int × Heap) :=
  match d, x with
  | none, _ => some (0, H)
  | some _, none => some (0, H)
  | some d, some x =>
    if d.esz = esz ∧ x.esz = esz then
      if d.len = 0 ∨ x.len = 0 then some (0, H) else
      (H.getN x.id x.off (min x.len d.len * esz)).bind fun xs => (H.put d.id d.off xs).map fun H' => ((min x.len d.len : Nat), H')
    else none
def toBytes : List Cell → Option (List UInt8)
  | [] => some []
  | .int .u8 n :: r => (toBytes r).map fun l => UInt8.ofNat n.toNat :: l
  | _ :: _ => none
/-- A slice's elements are zeros. -/
def Heap.clear (H : Heap) (esz : Nat) (zero : List Cell) (s : Option Sl) : Option Heap :=
  match s with
  | none => some H
  | some s => if s.esz = esz then (if s.len = 0 then some H else H.put s.id s.off (List.replicate s.len zero).flatten) else none
/-- A nil slice's capacity; no other one's is known. -/
def capNil (s : Option Sl) : Option Int :=
  match s with
  | none => some 0
  | some _ => none
/-- The string of a slice's bytes. -/
def Heap.str (H : Heap) (s : Option Sl) : Option ByteArray :=
  match s with
  | none => some ByteArray.empty
  | some s => if s.esz = 1 then (if s.len = 0 then some ByteArray.empty else (H.getN s.id s.off s.len).bind fun cs => (toBytes cs).map fun l => ⟨l.toArray⟩) else none
def Sl.sub (s : Option Sl) (lo : Int) (hi : Option Int) : Option (Option Sl) :=
  match s with
  | none => if lo = 0 ∧ hi.getD 0 = 0 then some none else none
  | some s => if 0 ≤ lo ∧ lo ≤ hi.getD s.len ∧ hi.getD s.len ≤ s.cap then some (some ⟨s.id, s.off + lo.toNat * s.esz, (hi.getD s.len - lo).toNat, s.cap - lo.toNat, s.esz⟩) else none
def strSub (s : ByteArray) (lo : Int) (hi : Option Int) : Option ByteArray :=
  if 0 ≤ lo ∧ lo ≤ hi.getD s.size ∧ hi.getD s.size ≤ s.size then some (s.extract lo.toNat (hi.getD s.size).toNat) else none
/-- Are two strings the same? -/
def strEq (a b : ByteArray) : Bool := a.data.toList == b.data.toList
def Cell.same : Cell → Cell → Option Bool
  | .int k a, .int k' b => bif k == k' then some (a == b) else none
  | .str a, .str b => some (strEq a b)
  | _, _ => none
def findKey (k : Cell) : List (Cell × TV × Nat) → Nat → Option (Option (Nat × TV))
  | [], _ => some none
  | e :: es, i =>
    match k.same e.1 with
    | some true => some (some (i, e.2.1))
    | some false => findKey k es (i + 1)
    | none => none
def Heap.findAt (H : Heap) (m : Option Nat) (k : Cell) : Option (Option (Nat × TV)) :=
  match m with
  | none => some none
  | some r => match H[r]? with
    | some (.map es _) => findKey k es 0
    | _ => none
def Heap.mapLen (H : Heap) (m : Option Nat) : Option Int :=
  match m with
  | none => some 0
  | some r => match H[r]? with
    | some (.map es _) => some es.length
    | _ => none
/-- What a map has under a key, or else the zero; and whether it has the key. -/
def Heap.find (H : Heap) (m : Option Nat) (k : Cell) (z : TV) : Option (TV × Bool) :=
  (H.findAt m k).map fun r => match r with | some p => (p.2, true) | none => (z, false)
def Heap.mapPut (H : Heap) (m : Option Nat) (k : Cell) (v : TV) : Option Heap :=
  match m with
  | none => none
  | some r => match H[r]? with
    | some (.map es clock) =>
      match findKey k es 0 with
      | some (some (i, _)) => some (H.set r (.map (es.modify i fun e => (k, v, e.2.2)) clock))
      | some none => some (H.set r (.map (es ++ [(k, v, clock)]) (clock + 1)))
      | none => none
    | _ => none

/-! numbers -/
def band (k : IntKind) (a b : Int) : Int := k.wrap (BitVec.ofInt k.bits a &&& BitVec.ofInt k.bits b).toNat
def bor (k : IntKind) (a b : Int) : Int := k.wrap (BitVec.ofInt k.bits a ||| BitVec.ofInt k.bits b).toNat
def bxor (k : IntKind) (a b : Int) : Int := k.wrap (BitVec.ofInt k.bits a ^^^ BitVec.ofInt k.bits b).toNat
def bandn (k : IntKind) (a b : Int) : Int := k.wrap (BitVec.ofInt k.bits a &&& ~~~ BitVec.ofInt k.bits b).toNat
def ishl (k : IntKind) (a b : Int) : Int := k.wrap (a * 2 ^ (min b.toNat k.bits))
def ishr (k : IntKind) (a b : Int) : Int := a.fdiv (2 ^ (min b.toNat k.bits))
def inb (i : Int) (n : Nat) : Bool := decide (0 ≤ i ∧ i < (n : Int))

/-! a frame's state -/
structure St where
  env : List (Nat × AV)
  loc : List (Nat × List Cell)
  heap : Heap

def look.{u} {α : Type u} : List (Nat × α) → Nat → Option α
  | [], _ => none
  | (s, v) :: r, t => bif s == t then some v else look r t
/-- Does no temporary hold an address of the frame's block k? -/
def clean (k : Nat) : List (Nat × AV) → Bool
  | [] => true
  | (_, .lp j _) :: r => !(j == k) && clean k r
  | (_, .c _) :: r => clean k r
  | (_, .agg _) :: r => clean k r
  | (_, .tup _) :: r => clean k r
def St.set (st : St) (dst : Option Nat) (v : AV) : St :=
  match dst with
  | some d => { st with env := (d, v) :: st.env }
  | none => st

/-- A callee's meaning. -/
abbrev FnSem := (R : Type) → List TV → Heap → (AV → Heap → Option R) → Option R

def constCell : Value → Option Cell
  | .bool b => some (.bool b)
  | .int k n => some (.int k n)
  | .string s => some (.str s)
  | .pointer none => some (.ptr none)
  | .slice none 0 0 => some (.slice none)
  | .map none => some (.map none)
  | .nilFunc => some .nilFn
  | _ => none
def constCells : List Value → Option (List Cell)
  | [] => some []
  | v :: r => match constCell v, constCells r with
    | some c, some cs => some (c :: cs)
    | _, _ => none
def constAV : Value → Option AV
  | .agg cs => (constCells cs.toList).map .agg
  | v => (constCell v).map .c

/-- What is kept of a frame's state at a loop's head (t1, l1), and behind it (t2, l2). -/
structure Keep where
  t1 : List Nat
  l1 : List Nat
  t2 : List Nat
  l2 : List Nat
/-- A call's and an operation's surroundings: the program, which boxes are the frame's own, the callees. -/
structure Ctx where
  P : Program
  own : List Nat
  fns : List (Nat × FnSem)
  nt : Nat
  pures : List Nat := []   -- callees that leave the heap alone
  nums : List Nat := []    -- and do not look at it
  slices : List Nat := []  -- callees that look at their first slice alone
  iters : List (Nat × TypeId × TypeId) := []  -- closures of slices.Backward: the slice's type, its elements' type
  live : List (Nat × Keep) := []
  base : Option Nat := none              -- where the places begin that a region's new blocks have been given
  ranks : List (Nat × Nat) := []         -- which temporary's block has which place

def nolp : AV → Bool
  | .lp _ _ => false
  | _ => true
/-- What may leave a frame. -/
def AV.out : AV → Option TV
  | .c x => some (.c x)
  | .agg x => some (.agg x)
  | _ => none
def ev (st : St) : Operand → Option AV
  | .tmp t => look st.env t
  | .const v => constAV v
  | .func f => some (.c (.fn f [] []))
  | .global _ => none
def evc (st : St) (x : Operand) : Option Cell := (ev st x).bind AV.cell
def evs (st : St) : List Operand → Option (List TV)
  | [] => some []
  | x :: r => ((ev st x).bind AV.out).bind fun v => (evs st r).bind fun vs => some (v :: vs)
def evcs (st : St) : List Operand → Option (List Cell)
  | [] => some []
  | x :: r => (evc st x).bind fun v => (evcs st r).bind fun vs => some (v :: vs)

def AV.cells : AV → Option (List Cell)
  | .c x => some [x]
  | .agg cs => some cs
  | _ => none

def isAggT (P : Program) (t : TypeId) : Option Bool :=
  match P.underlying t with
  | some (.struct _) => some true
  | some (.array _ _) => some true
  | some _ => some false
  | none => none
def sizeT (P : Program) (t : TypeId) : Option Nat := (P.info? t).map (·.size)
def zeroT (P : Program) (t : TypeId) : Option (List Cell) := ((P.info? t).bind (·.zero)).bind fun v => constCells v.cells.toList
def bytesT (P : Program) (t : TypeId) : Option Nat := (P.info? t).map (·.bytes)

variable {R : Type}

def destr : Nat → List Cell → (List Cell → Option R) → Option R
  | 0, [], K => K []
  | 0, _ :: _, _ => none
  | _ + 1, [], _ => none
  | n + 1, a :: l, K => destr n l fun cs => K (a :: cs)

def fillCells (place : Nat → Option (Nat × Nat)) (cells : List Cell) : List (Nat × AV) → Option (List Cell)
  | [] => some cells
  | (i, v) :: rest =>
    (place i).bind fun p => v.cells.bind fun cs =>
      bif cs.length == p.2 && Nat.ble (p.1 + cs.length) cells.length then fillCells place (splice cells p.1 cs) rest else none
def evParts (st : St) : List (Nat × Operand) → Option (List (Nat × AV))
  | [] => some []
  | (i, x) :: r => (ev st x).bind fun v => (evParts st r).bind fun vs => some ((i, v) :: vs)
def fieldPlaces (P : Program) : List Field → Option (List (Nat × Nat))
  | [] => some []
  | f :: r => (sizeT P f.type).bind fun s => (fieldPlaces P r).bind fun l => some ((f.offset, s) :: l)

def intOp (op : BinOp) (k : IntKind) (a b : Int) (K : Cell → Option R) : Option R :=
  match op with
  | .add => K (.int k (k.wrap (a + b)))
  | .sub => K (.int k (k.wrap (a - b)))
  | .mul => K (.int k (k.wrap (a * b)))
  | .quo => bif b == 0 then none else K (.int k (k.wrap (a.tdiv b)))
  | .rem => bif b == 0 then none else K (.int k (a.tmod b))
  | .and => K (.int k (band k a b))
  | .or => K (.int k (bor k a b))
  | .xor => K (.int k (bxor k a b))
  | .andNot => K (.int k (bandn k a b))
  | .eql => K (.bool (a == b))
  | .neq => K (.bool (a != b))
  | .lss => K (.bool (decide (a < b)))
  | .leq => K (.bool (decide (a ≤ b)))
  | .gtr => K (.bool (decide (a > b)))
  | .geq => K (.bool (decide (a ≥ b)))
  | _ => none
def shiftOp (op : BinOp) (k : IntKind) (a b : Int) (K : Cell → Option R) : Option R :=
  match op with
  | .shl => bif decide (b < 0) then none else K (.int k (ishl k a b))
  | .shr => bif decide (b < 0) then none else K (.int k (ishr k a b))
  | _ => none
def strOp (op : BinOp) (a b : ByteArray) (K : Cell → Option R) : Option R :=
  match op with
  | .add => bif decide (a.size + b.size ≤ most) then K (.str (a ++ b)) else none
  | .eql => K (.bool (strEq a b))
  | .neq => K (.bool (!strEq a b))
  | _ => none
def isFn : Cell → Option Bool
  | .nilFn => some true
  | .fn .. => some false
  | _ => none
/-- Which nil is it? -/
inductive Nil where
  | ptr | slice | map | fn | no
def nilOf : Operand → Nil
  | .const (.pointer none) => .ptr
  | .const (.slice none 0 0) => .slice
  | .const (.map none) => .map
  | .const .nilFunc => .fn
  | _ => .no
def asShift : BinOp → Bool
  | .shl => true
  | .shr => true
  | _ => false
def asEql : BinOp → Option Bool
  | .eql => some true
  | .neq => some false
  | _ => none

def partA (P : Program) (t : TypeId) (cs : List Cell) (off : Nat) (K : AV → Option R) : Option R :=
  (isAggT P t).bind fun g => (sizeT P t).bind fun n =>
    bif g then (bif Nat.ble (off + n) cs.length then K (.agg ((cs.drop off).take n)) else none) else (cs[off]?).bind fun c => K (.c c)
def AV.aggC : AV → Option (List Cell)
  | .agg cs => some cs
  | _ => none
/-- Are two structs, two arrays equal? -/
def eqFields (P : Program) (E : TypeId → AV → AV → Option Bool) (xs ys : List Cell) : List Field → Option Bool
  | [] => some true
  | f :: fs => bif f.name == "_" then eqFields P E xs ys fs else
      (partA P f.type xs f.offset some).bind fun a => (partA P f.type ys f.offset some).bind fun b => (E f.type a b).bind fun r => (eqFields P E xs ys fs).bind fun s => some (r && s)
def eqItems (P : Program) (E : TypeId → AV → AV → Option Bool) (e : TypeId) (n : Nat) (xs ys : List Cell) : List Nat → Option Bool
  | [] => some true
  | i :: is => (partA P e xs (i * n) some).bind fun a => (partA P e ys (i * n) some).bind fun b => (E e a b).bind fun r => (eqItems P E e n xs ys is).bind fun s => some (r && s)
def eqAV (P : Program) : Nat → TypeId → AV → AV → Option Bool
  | 0, _, _, _ => none
  | d + 1, t, x, y =>
    match P.underlying t with
    | some (.int k) => x.cell.bind fun cx => y.cell.bind fun cy => (cx.toInt k).bind fun a => (cy.toInt k).bind fun b => some (a == b)
    | some .bool => x.cell.bind fun cx => y.cell.bind fun cy => cx.toBool.bind fun a => cy.toBool.bind fun b => some (a == b)
    | some .string => x.cell.bind fun cx => y.cell.bind fun cy => cx.toStr.bind fun a => cy.toStr.bind fun b => some (strEq a b)
    | some (.struct fs) => bif P.stoodInHeld t then none else x.aggC.bind fun xs => y.aggC.bind fun ys => eqFields P (eqAV P d) xs ys fs.toList
    | some (.array n e) => (sizeT P e).bind fun s => x.aggC.bind fun xs => y.aggC.bind fun ys => eqItems P (eqAV P d) e s xs ys (List.range n)
    | _ => none
def aggEqA (P : Program) (st : St) (op : BinOp) (xt : TypeId) (x y : Operand) (K : Cell → Option R) : Option R :=
  (ev st x).bind fun vx => (ev st y).bind fun vy => vx.aggC.bind fun _ => vy.aggC.bind fun _ => bif P.eqGuardType P.depth xt then none else
    (eqAV P 8 xt vx vy).bind fun b => (asEql op).bind fun e => K (.bool (bif e then b else !b))

def binA (P : Program) (st : St) (op : BinOp) (xt : TypeId) (x y : Operand) (K : Cell → Option R) : Option R :=
  match P.underlying xt with
  | some (.int k) =>
    (evc st x).bind fun cx => (evc st y).bind fun cy => (cx.toInt k).bind fun a =>
      bif asShift op then cy.anyInt.bind fun b => shiftOp op k a b K
      else (cy.toInt k).bind fun b => intOp op k a b K
  | some .string => (evc st x).bind fun cx => (evc st y).bind fun cy => cx.toStr.bind fun a => cy.toStr.bind fun b => strOp op a b K
  | some .bool => (evc st x).bind fun cx => (evc st y).bind fun cy => cx.toBool.bind fun a => cy.toBool.bind fun b =>
      (asEql op).bind fun e => K (.bool (bif e then a == b else !(a == b)))
  | some (.pointer _) => match nilOf y with
    | .ptr => (evc st x).bind fun cx => cx.toPtr.bind fun p => (asEql op).bind fun e => K (.bool (bif e then p.isNone else !p.isNone))
    | _ => none
  | some (.slice _) => match nilOf y with
    | .slice => (evc st x).bind fun cx => cx.toSlice.bind fun p => (asEql op).bind fun e => K (.bool (bif e then p.isNone else !p.isNone))
    | _ => none
  | some (.map _ _) => match nilOf y with
    | .map => (evc st x).bind fun cx => cx.toMap.bind fun p => (asEql op).bind fun e => K (.bool (bif e then p.isNone else !p.isNone))
    | _ => none
  | some (.func ..) => match nilOf y with
    | .fn => (evc st x).bind fun cx => (isFn cx).bind fun p => (asEql op).bind fun e => K (.bool (bif e then p else !p))
    | _ => none
  | some (.struct _) => aggEqA P st op xt x y K
  | some (.array ..) => aggEqA P st op xt x y K
  | _ => none
def unA (op : UnOp) (c : Cell) (k : Option IntKind) (K : Cell → Option R) : Option R :=
  match op, k with
  | .not, none => c.toBool.bind fun b => K (.bool (!b))
  | .neg, some k => (c.toInt k).bind fun n => K (.int k (k.wrap (0 - n)))
  | .xor, some k => (c.toInt k).bind fun n => K (.int k (bxor k (if k.signed then -1 else k.max) n))
  | _, _ => none
def kindT (P : Program) (t : TypeId) : Option IntKind :=
  match P.underlying t with
  | some (.int k) => some k
  | _ => none

/-- A new block of the heap. -/
def St.push (st : St) (b : Blk) : St := { st with heap := st.heap ++ [b] }
def St.withHeap (st : St) (H : Heap) : St := { st with heap := H }
def Heap.fill (H : Heap) (p : Nat) (b : Blk) : Option Heap :=
  match H[p]? with
  | some .hole => some (H.set p b)
  | _ => none
/-- A new block: behind all others, or in its place. -/
def newB (C : Ctx) (st : St) (dst : Option Nat) (b : Blk) (K : Nat → St → Option R) : Option R :=
  match C.base with
  | none => K st.heap.length (st.push b)
  | some n => dst.bind fun d => (look C.ranks d).bind fun j => (st.heap.fill (n + j) b).bind fun H => K (n + j) (st.withHeap H)

/-- Some cells, one by one. -/
def cellsAt (H : Heap) (id : Nat) : Nat → Nat → (List Cell → Option R) → Option R
  | 0, _, _ => none
  | 1, off, K => (H.get id off).bind fun a => K [a]
  | n + 2, off, K => (H.get id off).bind fun a => cellsAt H id (n + 1) (off + 1) fun cs => K (a :: cs)
def loadA (P : Program) (st : St) (t : TypeId) (a : AV) (K : AV → Option R) : Option R :=
  (isAggT P t).bind fun g => (sizeT P t).bind fun n =>
    match a with
    | .lp k off => (look st.loc k).bind fun cs =>
        bif g then (bif Nat.ble (off + n) cs.length then K (.agg ((cs.drop off).take n)) else none) else (cs[off]?).bind fun c => K (.c c)
    | .c (.ptr p) => p.bind fun q =>
        bif g then cellsAt st.heap q.1 n q.2 (fun cs => K (.agg cs)) else (st.heap.get q.1 q.2).bind fun c => K (.c c)
    | .c x => x.toPtr.bind fun p => p.bind fun q =>
        bif g then cellsAt st.heap q.1 n q.2 (fun cs => K (.agg cs)) else (st.heap.get q.1 q.2).bind fun c => K (.c c)
    | _ => none
/-- A cell's kind. -/
inductive CK where
  | bool | int (k : IntKind) | str | ptr | slice | map | other
def ckT (P : Program) : Nat → TypeId → Option (List CK)
  | 0, _ => none
  | n + 1, t => match P.underlying t with
    | some .bool => some [.bool]
    | some (.int k) => some [.int k]
    | some .string => some [.str]
    | some (.pointer _) => some [.ptr]
    | some (.slice _) => some [.slice]
    | some (.map _ _) => some [.map]
    | some (.struct fs) => (fs.toList.mapM fun f => ckT P n f.type).map List.flatten
    | some (.array m e) => (ckT P n e).map fun l => (List.replicate m l).flatten
    | _ => some [.other]
def reCell (k : CK) (c : Cell) (K : Cell → Option R) : Option R :=
  match k with
  | .bool => c.toBool.bind fun b => K (.bool b)
  | .int k => (c.toInt k).bind fun n => K (.int k n)
  | .str => c.toStr.bind fun s => K (.str s)
  | .ptr => c.toPtr.bind fun p => K (.ptr p)
  | .slice => c.toSlice.bind fun s => K (.slice s)
  | .map => c.toMap.bind fun m => K (.map m)
  | .other => K c
def reCells : List CK → List Cell → (List Cell → Option R) → Option R
  | [], [], K => K []
  | k :: ks, c :: cs, K => reCell k c fun c => reCells ks cs fun cs => K (c :: cs)
  | _, _, _ => none
/-- A value that was loaded, with its cells' kinds. -/
def reAV (P : Program) (t : TypeId) (v : AV) (K : AV → Option R) : Option R :=
  match ckT P 8 t with
  | none => K v
  | some ks =>
    match v with
    | .c c => match ks with
      | [k] => reCell k c fun c => K (.c c)
      | _ => K v
    | .agg cs => reCells ks cs fun cs => K (.agg cs)
    | _ => K v
def setLoc (k : Nat) (cs : List Cell) : List (Nat × List Cell) → List (Nat × List Cell)
  | [] => [(k, cs)]
  | (j, ds) :: r => bif j == k then (k, cs) :: r else (j, ds) :: setLoc k cs r
def storeA (P : Program) (st : St) (t : TypeId) (a v : AV) (K : St → Option R) : Option R :=
  (sizeT P t).bind fun n => v.cells.bind fun vs => bif vs.length == n then
    match a with
    | .lp k off => (look st.loc k).bind fun cs => bif Nat.ble (off + n) cs.length then K { st with loc := setLoc k (splice cs off vs) st.loc } else none
    | .c x => x.toPtr.bind fun p => p.bind fun q => (st.heap.put q.1 q.2 vs).bind fun H => K (st.withHeap H)
    | _ => none
  else none
def newLocal (st : St) (d : Nat) (cs : List Cell) : St := { st with env := (d, .lp d 0) :: st.env, loc := setLoc d cs st.loc }
def allocA (C : Ctx) (st : St) (dst : Option Nat) (cs : List Cell) (K : St → Option R) : Option R :=
  match dst with
  | none => none
  | some d => bif C.own.contains d then (bif clean d st.env then K (newLocal st d cs) else none)
    else newB C st (some d) (.row cs false) fun id st => K (st.set (some d) (.c (.ptr (some (id, 0)))))

def evOpt (st : St) : Option Operand → Option (Option Int)
  | none => some none
  | some x => (evc st x).bind fun c => c.anyInt.bind fun n => some (some n)

def indexA (P : Program) (t : TypeId) (x : AV) (i : Int) (K : AV → Option R) : Option R :=
  match P.underlying t with
  | some (.array n e) => (sizeT P e).bind fun s =>
    match x with
    | .lp k off => bif inb i n then K (.lp k (off + i.toNat * s)) else none
    | .c c => c.toPtr.bind fun p => p.bind fun q => bif inb i n then K (.c (.ptr (some (q.1, q.2 + i.toNat * s)))) else none
    | _ => none
  | some (.slice e) => (sizeT P e).bind fun s => x.cell.bind fun c => c.toSlice.bind fun sl => sl.bind fun sl =>
      bif inb i sl.len && sl.esz == s then K (.c (.ptr (some (sl.id, sl.off + i.toNat * s)))) else none
  | _ => none
def fieldOf (P : Program) (s : TypeId) (f : Nat) : Option Field :=
  match P.underlying s with
  | some (.struct fs) => fs[f]?
  | _ => none
def esOk : Option Sl → Nat → Bool
  | none, _ => true
  | some s, n => s.esz == n
def sliceA (P : Program) (t : TypeId) (x : AV) (lo hi : Option Int) (K : AV → Option R) : Option R :=
  match P.underlying t with
  | some .string => x.cell.bind fun c => c.toStr.bind fun s => (strSub s (lo.getD 0) hi).bind fun r => K (.c (.str r))
  | some (.slice e) => (sizeT P e).bind fun n => x.cell.bind fun c => c.toSlice.bind fun s => 
      (Sl.sub s (lo.getD 0) hi).bind fun r => bif esOk s n then K (.c (.slice r)) else none
  | some (.array n e) => (sizeT P e).bind fun s => x.cell.bind fun c => c.toPtr.bind fun p => p.bind fun q =>
      (Sl.sub (some ⟨q.1, q.2, n, n, s⟩) (lo.getD 0) hi).bind fun r => K (.c (.slice r))
  | _ => none
def mm (op : Builtin) (a b : Int) : Int := match op with | .min => if b < a then b else a | _ => if b > a then b else a
def minA (op : Builtin) (k : IntKind) : List Cell → Int → (Int → Option R) → Option R
  | [], a, K => K a
  | c :: r, a, K => (c.toInt k).bind fun b => minA op k r (mm op a b) K
def tvCells : List TV → Option (List Cell)
  | [] => some []
  | v :: r => v.cell.bind fun c => (tvCells r).bind fun cs => some (c :: cs)
def fnOf (fns : List (Nat × FnSem)) (f : Nat) : Option FnSem := look fns f
def builtinA (P : Program) (st : St) (b : Builtin) (ts : List TypeId) (vs : List TV) (K : AV → St → Option R) : Option R :=
  match b, ts, vs with
  | .len, [t], [v] =>
    match P.underlying t with
    | some .string => v.cell.bind fun c => c.toStr.bind fun s => K (.c (.int .i64 s.size)) st
    | some (.array n _) => K (.c (.int .i64 n)) st
    | some (.slice _) => v.cell.bind fun c => c.toSlice.bind fun s => K (.c (.int .i64 (slen s))) st
    | some (.map ..) => v.cell.bind fun c => c.toMap.bind fun m => (st.heap.mapLen m).bind fun n => K (.c (.int .i64 n)) st
    | _ => none
  | .append, [t, u], [v, w] =>
    match P.underlying t with
    | some (.slice e) => (sizeT P e).bind fun n => (bytesT P e).bind fun by' => (zeroT P e).bind fun z => bif z.length == n && Nat.blt 0 by' then
      v.cell.bind fun c => c.toSlice.bind fun s => w.cell.bind fun d =>
      match P.underlying u with
      | some (.slice _) => d.toSlice.bind fun x => (st.heap.append n by' s x).bind fun p => K (.c (.slice p.1)) (st.withHeap p.2)
      | some .string => d.toStr.bind fun x => bif n == 1 && by' == 1 then (st.heap.appendStr s x).bind fun p => K (.c (.slice p.1)) (st.withHeap p.2) else none
      | some (.int .i64) => (d.toInt .i64).bind fun x => (st.heap.appendZ n by' s z x).bind fun p => K (.c (.slice p.1)) (st.withHeap p.2)
      | _ => none
      else none
    | _ => none
  | .copy, [t, u], [v, w] =>
    match P.underlying t, P.underlying u with
    | some (.slice e), some (.slice _) => (sizeT P e).bind fun n => v.cell.bind fun c => c.toSlice.bind fun d => w.cell.bind fun c => c.toSlice.bind fun x =>
      (st.heap.copy n d x).bind fun p => K (.c (.int .i64 p.1)) (st.withHeap p.2)
    | _, _ => none
  | .clear, [t], [v] =>
    match P.underlying t with
    | some (.slice e) => (sizeT P e).bind fun n => (zeroT P e).bind fun z => bif z.length == n && Nat.blt 0 n then
        v.cell.bind fun c => c.toSlice.bind fun s => (st.heap.clear n z s).bind fun H => K (.tup []) (st.withHeap H) else none
    | _ => none
  | .cap, [t], [v] =>
    match P.underlying t with
    | some (.slice _) => v.cell.bind fun c => c.toSlice.bind fun s => (capNil s).bind fun n => K (.c (.int .i64 n)) (st.withHeap st.heap)
    | _ => none
  | .min, t :: _, v :: vs => (kindT P t).bind fun k => v.cell.bind fun c => (c.toInt k).bind fun a => (tvCells vs).bind fun cs => minA .min k cs a fun r => K (.c (.int k r)) st
  | .max, t :: _, v :: vs => (kindT P t).bind fun k => v.cell.bind fun c => (c.toInt k).bind fun a => (tvCells vs).bind fun cs => minA .max k cs a fun r => K (.c (.int k r)) st
  | _, _, _ => none

/-- A key of a map, as its type has it. -/
def keyOf (P : Program) (kt : TypeId) (k : Cell) (K : Cell → Option R) : Option R :=
  match P.underlying kt with
  | some (.int kk) => (k.toInt kk).bind fun n => K (.int kk n)
  | some .string => k.toStr.bind fun s => K (.str s)
  | _ => none
def zeroTV (P : Program) (t : TypeId) : Option TV :=
  match (P.info? t).bind (·.zero) with
  | some (.agg cs) => (constCells cs.toList).map .agg
  | some v => (constCell v).map .c
  | none => none
/-- One operation; the continuation gets the state behind it. -/
def astep (C : Ctx) (o : Oper) (st : St) (K : St → Option R) : Option R :=
  let P := C.P
  let v (x : AV) : Option R := K (st.set o.dst x)
  match o.op with
  | .move x | .assign x => (ev st x).bind v
  | .pick c a b => (evc st c).bind fun c => c.toBool.bind fun t => bif t then (ev st a).bind v else (ev st b).bind v
  | .alloc e => (zeroT P e).bind fun z => (sizeT P e).bind fun n => bif z.length == n && Nat.blt 0 n then allocA C st o.dst z K else none
  | .box e x => (ev st x).bind fun a => a.cells.bind fun cs => (sizeT P e).bind fun n => bif cs.length == n && Nat.blt 0 n then allocA C st o.dst cs K else none
  | .build t parts => (evParts st parts.toList).bind fun ps => (zeroT P t).bind fun z =>
    match P.underlying t with
    | some (.struct fs) => (fieldPlaces P fs.toList).bind fun pl => (fillCells (fun i => pl[i]?) z ps).bind fun cs => v (.agg cs)
    | some (.array _ e) => (sizeT P e).bind fun s => (fillCells (fun i => some (i * s, s)) z ps).bind fun cs => v (.agg cs)
    | _ => none
  | .buildSlice t len parts => (evParts st parts.toList).bind fun ps =>
    match P.underlying t with
    | some (.slice e) => (sizeT P e).bind fun s => (zeroT P e).bind fun z => bif Nat.ble (len * s) 16777216 && (z.length == s) && Nat.blt 0 s then
      (fillCells (fun i => some (i * s, s)) (List.replicate len z).flatten ps).bind fun cs =>
        newB C st o.dst (.row cs false) fun id st => K (st.set o.dst (.c (.slice (some ⟨id, 0, len, len, s⟩)))) else none
    | _ => none
  | .load t a => (ev st a).bind fun a => loadA P st t a fun x => reAV P t x v
  | .store t a x => (ev st a).bind fun a => (ev st x).bind fun x => storeA P st t a x fun st => K (st.set o.dst (.tup []))
  | .nilCheck x => (ev st x).bind fun a =>
    match a with
    | .lp k off => v (.lp k off)
    | .c (.fn f fs cs) => v (.c (.fn f fs cs))
    | .c c => c.toPtr.bind fun p => p.bind fun q => v (.c (.ptr (some q)))
    | _ => none
  | .binOp op xt x y _ => binA P st op xt x y fun c => v (.c c)
  | .unOp op xt x => (evc st x).bind fun c => unA op c (kindT P xt) fun c => v (.c c)
  | .convert s d x => (evc st x).bind fun c =>
    match P.underlying s, P.underlying d with
    | some (.int k), some (.int k') => (c.toInt k).bind fun n => v (.c (.int k' (k'.wrap n)))
    | some .string, some .string => c.toStr.bind fun b => v (.c (.str b))
    | some .string, some (.slice e) =>
      match P.underlying e with
      | some (.int .u8) => c.toStr.bind fun b => bif decide (b.size ≤ most) then
          newB C st o.dst (.row (bytesCells b) false) fun id st => K (st.set o.dst (.c (.slice (some ⟨id, 0, b.size, b.size, 1⟩)))) else none
      | _ => none
    | some (.slice e), some .string =>
      match P.underlying e with
      | some (.int .u8) => c.toSlice.bind fun s => (st.heap.str s).bind fun b => v (.c (.str b))
      | _ => none
    | some (.slice _), some (.slice e) =>
      match P.underlying e with
      | some (.int .u8) => bif s == d then c.toSlice.bind fun x => x.bind fun sl => bif decide (0 < sl.cap) && ownRow st.heap sl.id then v (.c (.slice (some sl))) else none else none
      | _ => none
    | _, _ => none
  | .makeFunc (.func f) first captured => (evcs st first.toList).bind fun fs => (evcs st captured.toList).bind fun cs => v (.c (.fn f fs cs))
  | .makeMap t r => (evOpt st r).bind fun _ =>
    match P.underlying t with
    | some (.map ..) => newB C st o.dst (.map [] 0) fun id st => K (st.set o.dst (.c (.map (some id))))
    | _ => none
  | .makeSlice t l c => (evc st l).bind fun l => l.anyInt.bind fun l => (evc st c).bind fun c => c.anyInt.bind fun c =>
    match P.underlying t with
    | some (.slice e) => (sizeT P e).bind fun n => (bytesT P e).bind fun by' => (zeroT P e).bind fun z => bif z.length == n && Nat.blt 0 n then
        (match C.base with
        | none => (st.heap.make n by' z l c).bind fun p => K ((st.withHeap p.2).set o.dst (.c (.slice p.1)))
        | some _ => bif makeOk by' l c then newB C st o.dst (.row (List.replicate c.toNat z).flatten false) fun id st => K (st.set o.dst (.c (.slice (some ⟨id, 0, l.toNat, c.toNat, n⟩)))) else none) else none
    | _ => none
  | .slice t x lo hi none => (ev st x).bind fun x => (evOpt st lo).bind fun lo => (evOpt st hi).bind fun hi => sliceA P t x lo hi v
  | .fieldAddr s x f => (ev st x).bind fun a => (fieldOf P s f).bind fun fd => (sizeT P fd.type).bind fun n => bif n == 0 then none else
    match a with
    | .lp k off => v (.lp k (off + fd.offset))
    | .c c => c.toPtr.bind fun p => p.bind fun q => v (.c (.ptr (some (q.1, q.2 + fd.offset))))
    | _ => none
  | .field s x f => (ev st x).bind fun a => (fieldOf P s f).bind fun fd =>
    match a with
    | .agg cs => partA P fd.type cs fd.offset v
    | _ => none
  | .indexAddr t x ix => (ev st x).bind fun x => (evc st ix).bind fun i => i.anyInt.bind fun i => indexA P t x i v
  | .index t x ix => (ev st x).bind fun x => (evc st ix).bind fun i => i.anyInt.bind fun i =>
    match P.underlying t with
    | some .string => x.cell.bind fun c => c.toStr.bind fun s => bif inb i s.size then (s.data.toList[i.toNat]?).bind fun b => v (.c (.int .u8 b.toNat)) else none
    | some (.array n e) => (sizeT P e).bind fun s =>
      match x with
      | .agg cs => bif inb i n then partA P e cs (i.toNat * s) v else none
      | _ => none
    | _ => none
  | .lookup t x k ok => (evc st x).bind fun c => c.toMap.bind fun m => (evc st k).bind fun k =>
    match P.underlying t with
    | some (.map kt e) => keyOf P kt k fun k => (isAggT P e).bind fun g => (sizeT P e).bind fun n => (zeroTV P e).bind fun z => (st.heap.find m k z).bind fun r =>
        let w (x : TV) : Option R := bif ok then v (.tup [x, .c (.bool r.2)]) else v x.av
        bif g then r.1.aggs.bind fun l => destr n l fun cs => w (.agg cs) else r.1.cell.bind fun c => w (.c c)
    | _ => none
  | .mapUpdate t m k x | .insert t m k x => (evc st m).bind fun c => c.toMap.bind fun m => (evc st k).bind fun k => ((ev st x).bind AV.out).bind fun x =>
    match P.underlying t with
    | some (.map kt _) => keyOf P kt k fun k => (st.heap.mapPut m k x).bind fun H => K ((st.withHeap H).set o.dst (.tup []))
    | _ => none
  | .extract t i => (ev st t).bind fun a =>
    match a with
    | .tup vs => (vs[i]?).bind fun x => v x.av
    | _ => none
  | .call c =>
    match c.callee with
    | .builtin b => (evs st c.args.toList).bind fun vs => builtinA P st b c.argTypes.toList vs fun x st => K (st.set o.dst x)
    | .value f => (evc st f).bind fun f => (evs st c.args.toList).bind fun vs =>
      match f with
      | .fn g first cap => (fnOf C.fns g).bind fun F => F R (first.map .c ++ vs ++ cap.map .c) st.heap fun x H => K ((st.withHeap H).set o.dst x)
      | _ => none
    | _ => none
  | _ => none

/-! regions, code -/
def undefA : AV := .tup []
/-- An operation under its guard; a test that is not decided parts the ways, and is known behind. -/
def inRange (n : Nat) : Option Nat → Bool
  | some d => Nat.blt d n
  | none => true
def agop (C : Ctx) (ops : Array Oper) (o : Oper) (st : St) (K : St → Option R) : Option R :=
  bif inRange C.nt o.dst then
  match o.guard with
  | none => astep C o st K
  | some (j, want) =>
    match (ops[j]?).bind (·.dst) with
    | none => none
    | some t => (look st.env t).bind fun a =>
      match a with
      | .tup [] => K (st.set o.dst undefA)
      | .c x => x.toBool.bind fun b =>
        bif b then
          let st' := st.set (some t) (.c (.bool true))
          bif want then astep C o st' K else K (st'.set o.dst undefA)
        else
          let st' := st.set (some t) (.c (.bool false))
          bif want then K (st'.set o.dst undefA) else astep C o st' K
      | _ => none
  else none
def runOps (C : Ctx) (ops : Array Oper) : List Oper → St → (St → Option R) → Option R
  | [], st, K => K st
  | o :: r, st, K => agop C ops o st fun st => runOps C ops r st K

/-- What an operation reads and writes. Of the heap: a load (hl), another look (hq), a new block (ha), a change (hw); of the frame's own blocks: lr, lw; a new one: la. -/
inductive Foot where
  | no | hq | ha | hw | bad
  | hp (p j : Nat)
  | hl (k : Nat) | hs (s : Option Sl) | wx (H H' : Heap)
  | lr (k : Nat) | lw (k : Nat) | la (k : Nat)
open Classical in
/-- Has a block stayed as it was? -/
def slEq : Option Sl → Option Sl → Bool
  | none, none => true
  | some a, some b => a.id == b.id && (a.off == b.off && (a.len == b.len && (a.cap == b.cap && a.esz == b.esz)))
  | _, _ => false
mutual
def Cell.eqb : Cell → Cell → Bool
  | .bool a, y => match y with | .bool b => a == b | _ => false
  | .int k a, y => match y with | .int l b => decide (k = l) && a == b | _ => false
  | .str a, y => match y with | .str b => strEq a b | _ => false
  | .ptr a, y => match y with | .ptr b => decide (a = b) | _ => false
  | .slice a, y => match y with | .slice b => slEq a b | _ => false
  | .map a, y => match y with | .map b => decide (a = b) | _ => false
  | .fn f a c, y => match y with | .fn g b d => Nat.beq f g && (eqbs a b && eqbs c d) | _ => false
  | .nilFn, y => match y with | .nilFn => true | _ => false
def eqbs : List Cell → List Cell → Bool
  | [], y => match y with | [] => true | _ => false
  | a :: l, y => match y with | b :: m => a.eqb b && eqbs l m | _ => false
end
def TV.eqb : TV → TV → Bool
  | .c a, .c b => a.eqb b
  | .agg a, .agg b => eqbs a b
  | _, _ => false
def entsEq : List (Cell × TV × Nat) → List (Cell × TV × Nat) → Bool
  | [], [] => true
  | (a, b, c) :: l, (d, e, f) :: m => a.eqb d && (b.eqb e && (c == f && entsEq l m))
  | _, _ => false
def Blk.eqb : Blk → Blk → Bool
  | .row a r, .row b s => r == s && eqbs a b
  | .map a n, .map b m => n == m && entsEq a b
  | .dead, .dead => true
  | .hole, .hole => true
  | _, _ => false
def same (k : Nat) (H H' : Heap) : Bool :=
  match H[k]?, H'[k]? with
  | some a, some b => a.eqb b
  | none, none => true
  | _, _ => false
/-- Has a slice's block stayed as it was? -/
noncomputable def sameS (s : Option Sl) (H H' : Heap) : Bool := match s with | none => true | some sl => same sl.id H H'
/-- A foot, behind the run: a change with the heaps ahead and behind. -/
def tagF (f : Foot) (H H' : Heap) : Foot := match f with | .hw => .wx H H' | f => f
def operandFoot (st : St) (x : Operand) (h : Foot) (l : Nat → Foot) : Foot :=
  match ev st x with
  | some (.lp k _) => l k
  | _ => h
def lenFoot (P : Program) : List TypeId → Foot
  | [t] => match P.underlying t with | some (.map ..) => .hq | _ => .no
  | _ => .hq
def newFoot (C : Ctx) (dst : Option Nat) : Foot :=
  match C.base with
  | none => .ha
  | some n => match dst.bind (look C.ranks) with | some j => .hp (n + j) j | none => .bad
def allocFoot (C : Ctx) : Option Nat → Foot
  | some d => bif C.own.contains d then .la d else newFoot C (some d)
  | none => newFoot C none
/-- The first slice among some arguments. -/
def firstSl : List TV → Option Sl
  | [] => none
  | .c (.slice s) :: _ => s
  | _ :: r => firstSl r
def foot (C : Ctx) (st : St) (o : Oper) : Foot :=
  match o.op with
  | .load _ a => match ev st a with | some (.lp k _) => .lr k | some (.c (.ptr (some (id, _)))) => .hl id | some (.tup []) => .no | _ => .hq
  | .store _ a _ => operandFoot st a .hw .lw
  | .alloc _ | .box _ _ => allocFoot C o.dst
  | .buildSlice .. | .makeSlice .. | .makeMap .. => newFoot C o.dst
  | .convert s d x => match C.P.underlying s, C.P.underlying d with | some (.int _), _ => .no | some .string, some .string => .no | some .string, _ => newFoot C o.dst | _, some .string => (match evc st x with | some (.slice s) => .hs s | _ => .hq) | _, _ => .hq
  | .lookup .. => .hq
  | .fieldAddr _ x _ | .indexAddr _ x _ | .nilCheck x | .move x | .assign x => operandFoot st x .no .lr
  | .pick _ a b => match ev st a, ev st b with | some (.lp _ _), _ => .bad | _, some (.lp _ _) => .bad | _, _ => .no
  | .build .. | .binOp .. | .unOp .. | .makeFunc .. | .slice .. | .field .. | .index .. | .extract .. => .no
  | .call c =>
    match c.callee with
    | .builtin .len => lenFoot C.P c.argTypes.toList
    | .builtin .min | .builtin .max => .no
    | .value f => match ev st f with
      | some (.c (.fn g first cap)) => bif C.nums.contains g then .no else bif C.slices.contains g then (match evs st c.args.toList with | some vs => .hs (firstSl (first.map .c ++ vs ++ cap.map .c)) | none => .bad) else bif C.pures.contains g then .hq else .hw
      | _ => .hw
    | _ => .hw
  | _ => .hw
def slOff (p : Nat) : Option Sl → Bool
  | none => true
  | some sl => !(sl.id == p)
noncomputable def Foot.compat : Foot → Foot → Bool
  | .bad, _ | _, .bad => false
  | .no, _ | _, .no => true
  | .hl _, .hl _ | .hl _, .hq | .hq, .hl _ | .hq, .hq | .hl _, .ha | .ha, .hl _ | .hs _, .hs _ | .hs _, .hl _ | .hl _, .hs _ | .hs _, .hq | .hq, .hs _ => true
  | .hl k, .wx H H' | .wx H H', .hl k => same k H H'
  | .hs s, .wx H H' | .wx H H', .hs s => sameS s H H'
  | .hp _ i, .hp _ j => !(i == j)
  | .hp _ _, .hl _ | .hl _, .hp _ _ => true
  | .hp p _, .hs s | .hs s, .hp p _ => slOff p s
  | .lr _, .lr _ => true
  | .lr j, .lw k | .lw j, .lr k | .lw j, .lw k | .lr j, .la k | .la j, .lr k | .lw j, .la k | .la j, .lw k | .la j, .la k => !(j == k)
  | .lr _, _ | .lw _, _ | .la _, _ | _, .lr _ | _, .lw _ | _, .la _ => true
  | _, _ => false
/-- All operations that one waits for; 'ms': those of the operations ahead of it. -/
def maskOf (o : Oper) (ms : List Nat) : Nat := o.after.toList.foldl (fun m e => bif Region.binds .any e then m ||| 2 ^ e.on ||| ms.getD e.on 0 else m) 0
/-- Is an operation's foot one with those of all that are ahead of it, and for which it need not wait? -/
noncomputable def fits (ops : Array Oper) (b : Nat) (o : Oper) (f : Foot) : List (Foot × Oper) → Nat → Bool
  | [], _ => true
  | (g, p) :: r, i => (b.testBit i || (g.compat f && Oper.apart ops o p)) && fits ops b o f r (i + 1)
def edgesOk (o : Oper) (n : Nat) : Bool := o.after.toList.all fun e => !Region.binds .any e || Nat.blt e.on n
/-- The same, test by test. -/
noncomputable def fitsK {α : Type} (ops : Array Oper) (b : Nat) (o : Oper) (f : Foot) : List (Foot × Oper) → Nat → Option α → Option α
  | [], _, K => K
  | (g, p) :: r, i, K => bif b.testBit i then fitsK ops b o f r (i + 1) K else bif Oper.apart ops o p then (bif g.compat f then fitsK ops b o f r (i + 1) K else none) else none
theorem fitsK_eq {α : Type} (ops : Array Oper) (b : Nat) (o : Oper) (f : Foot) : ∀ (l : List (Foot × Oper)) (i : Nat) (K : Option α), fitsK ops b o f l i K = bif fits ops b o f l i then K else none
  | [], i, K => rfl
  | (g, p) :: r, i, K => by
    simp only [fitsK, fits, fitsK_eq ops b o f r (i + 1) K]
    cases b.testBit i <;> cases Oper.apart ops o p <;> cases g.compat f <;> simp
/-- A region that draws its order: in the text's order; operations that need not wait for each other must not meet. -/
noncomputable def runAny (C : Ctx) (ops : Array Oper) : List Oper → (done : List (Foot × Oper)) → (ms : List Nat) → St → (St → Option R) → Option R
  | [], _, _, st, K => K st
  | o :: r, done, ms, st, K => bif edgesOk o done.length then
      agop C ops o st fun st' => fitsK ops (maskOf o ms) o (tagF (foot C st o) st.heap st'.heap) done 0 (runAny C ops r (done ++ [(tagF (foot C st o) st.heap st'.heap, o)]) (ms ++ [maskOf o ms]) st' K) else none

inductive AExit where
  | normal
  | exit (id : Nat)
  | ret

def pickL.{u} {α : Type u} (l : List (Nat × α)) : List Nat → List (Nat × α)
  | [] => []
  | t :: r => match look l t with
    | some v => (t, v) :: pickL l r
    | none => pickL l r
def St.keep (s : St) (ts ls : List Nat) : St := ⟨pickL s.env ts, pickL s.loc ls, s.heap⟩
def tidy1 (k : Option Keep) (s : St) : St := match k with | some k => s.keep k.t1 k.l1 | none => s
def tidy2 (k : Option Keep) (s : St) : St := match k with | some k => s.keep k.t2 k.l2 | none => s
/-- A code's first region. -/
def headId : Code → Option Nat
  | .region id _ _ => some id
  | .seq a b => match headId a with | some n => some n | none => headId b
  | .cond _ a b => match headId a with | some n => some n | none => headId b
  | .block _ a => headId a
  | .loop a => (headId a).map (· + 10000)
  | .rangeFunc _ _ a _ => headId a
  | _ => none
def keepOf (live : List (Nat × Keep)) (c : Code) : Option Keep := (headId c).bind (look live)

def loopK (k : Option Keep) (f : St → (AExit → St → Option R) → Option R) (K : AExit → St → Option R) : AExit → St → Option R
  | .normal, st => f (tidy1 k st) K
  | .exit id, st => K (.exit id) (tidy2 k st)
  | .ret, st => K .ret (tidy2 k st)
def loopN (f : St → (AExit → St → Option R) → Option R) (k : Option Keep) : Nat → St → (AExit → St → Option R) → Option R
  | 0, _, _ => none
  | n + 1, st, K => f st (loopK k (loopN f k n) K)
def big : Nat := 18446744073709551616
def seqK (f : St → (AExit → St → Option R) → Option R) (K : AExit → St → Option R) : AExit → St → Option R
  | .normal, st => f st K
  | .exit id, st => K (.exit id) st
  | .ret, st => K .ret st
def blockK (id : Nat) (K : AExit → St → Option R) : AExit → St → Option R
  | .normal, st => K .normal st
  | .exit j, st => bif j == id then K .normal st else K (.exit j) st
  | .ret, st => K .ret st

/-- Does an operation make a block of the heap? -/
def newOp (C : Ctx) (o : Oper) : Bool :=
  match o.op with
  | .alloc _ | .box _ _ => (match o.dst with | some d => !C.own.contains d | none => false)
  | .buildSlice .. | .makeSlice .. | .makeMap .. => true
  | .convert s d _ => (match C.P.underlying s, C.P.underlying d with | some .string, some .string => false | some .string, _ => true | _, _ => false)
  | _ => false
/-- Do two operations make blocks that need not wait for each other? -/
def newPair (C : Ctx) : List Oper → (i : Nat) → (news : List Nat) → (ms : List Nat) → Bool
  | [], _, _, _ => false
  | o :: r, i, news, ms => bif newOp C o && news.any (fun j => !(maskOf o ms).testBit j) then true else newPair C r (i + 1) (bif newOp C o then i :: news else news) (ms ++ [maskOf o ms])
def ranksOf (C : Ctx) : List Oper → Nat → List (Nat × Nat)
  | [], _ => []
  | o :: r, j => bif newOp C o then (match o.dst with | some d => (d, j) :: ranksOf C r (j + 1) | none => ranksOf C r j) else ranksOf C r j
def placed (C : Ctx) (ops : Array Oper) (st : St) : Ctx := bif newPair C ops.toList 0 [] [] then { C with base := some st.heap.length, ranks := ranksOf C ops.toList 0 } else C
def reserve (C : Ctx) (ops : Array Oper) (st : St) : St := bif newPair C ops.toList 0 [] [] then st.withHeap (st.heap ++ List.replicate (ranksOf C ops.toList 0).length .hole) else st
/-! a range over a function -/
def noRF : Code → Bool
  | .rangeFunc .. => false
  | .seq a b => noRF a && noRF b
  | .cond _ a b => noRF a && noRF b
  | .block _ a => noRF a
  | .loop a => noRF a
  | _ => true
def isRF : Code → Bool
  | .rangeFunc .. => true
  | _ => false
/-- What a round sees of its frame. -/
def envOf (k : Option Keep) (env : List (Nat × AV)) : List (Nat × AV) := match k with | some k => (pickL env k.t1).filter (fun p => nolp p.2) | none => []
def roundA (fb : St → (AExit → St → Option R) → Option R) (K : AExit → St → Option R) : AExit → St → Option R
  | .normal, st => fb st K
  | _, _ => none
def roundB (f : Heap → Option R) (K : AExit → Heap → Option R) : AExit → St → Option R
  | .normal, st => f st.heap
  | .exit id, st => K (.exit id) st.heap
  | .ret, st => K .ret st.heap
/-- The slice that the closure has caught. -/
def caught (P : Program) (ts : TypeId) (id off : Nat) (H : Heap) (K : Option Sl → Option R) : Option R :=
  loadA P ⟨[], [], H⟩ ts (.c (.ptr (some (id, off)))) fun v => reAV P ts v fun v => v.cell.bind fun c => c.toSlice.bind K
noncomputable def rangeN (C : Ctx) (ts te id off t1 t2 : Nat) (fa fb : St → (AExit → St → Option R) → Option R) (env : List (Nat × AV)) : Nat → Heap → (AExit → Heap → Option R) → Option R
  | 0, H, K => K .normal H
  | n + 1, H, K => caught C.P ts id off H fun x => indexA C.P ts (.c (.slice x)) ((n : Nat) : Int) fun y => loadA C.P ⟨[], [], H⟩ te y fun v => reAV C.P te v fun v => v.out.bind fun tv =>
      fa ((St.set ⟨env, [], H⟩ (some t1) (.c (.int .i64 ((n : Nat) : Int)))).set (some t2) tv.av) (roundA fb (roundB (fun H => rangeN C ts te id off t1 t2 fa fb env n H K) K))
noncomputable def rangeX (C : Ctx) (g : Operand) (ps : Array Tmp) (kp : Option Keep) (fa fb : St → (AExit → St → Option R) → Option R) (s : St) (K : AExit → St → Option R) : Option R :=
  match ps.toList with
  | [t1, t2] => (evc s g).bind fun c => match c with
    | .fn gf [] [.ptr (some (id, off))] => (look C.iters gf).bind fun ty => bif Nat.blt t1 C.nt && Nat.blt t2 C.nt then
        caught C.P ty.1 id off s.heap fun x => bif decide (slen x ≤ 9223372036854775807) then rangeN C ty.1 ty.2 id off t1 t2 fa fb (envOf kp s.env) (slen x).toNat s.heap fun e H => K e (tidy2 kp (s.withHeap H)) else none else none
    | _ => none
  | _ => none
noncomputable def exec (C : Ctx) : Code → St → (AExit → St → Option R) → Option R
  | .skip, st, K => K .normal st
  | .ret, st, K => K .ret st
  | .exit id, st, K => K (.exit id) st
  | .region _ ops false, st, K => runOps C ops ops.toList st (K .normal)
  | .region _ ops true, st, K => runAny (placed C ops st) ops ops.toList [] [] (reserve C ops st) (K .normal)
  | .seq a b, st, K => exec C a st (seqK (exec C b) K)
  | .cond c a b, st, K => (evc st c).bind fun x => x.toBool.bind fun t => bif t then exec C a st K else exec C b st K
  | .block id c, st, K => exec C c st (blockK id K)
  | .loop c, st, K => bif isRF c then none else loopN (exec C c) (keepOf C.live c) big (tidy1 (keepOf C.live c) st) K
  | .rangeFunc g ps a b, st, K => bif noRF a && noRF b then rangeX C g ps (keepOf C.live a) (exec C a) (exec C b) (tidy1 (keepOf C.live a) st) K else none
  | _, _, _ => none
/-- The same, loops being named by 'lp'. -/
noncomputable def execL (C : Ctx) (lp : Code → St → (AExit → St → Option R) → Option R) : Code → St → (AExit → St → Option R) → Option R
  | .skip, st, K => K .normal st
  | .ret, st, K => K .ret st
  | .exit id, st, K => K (.exit id) st
  | .region _ ops false, st, K => runOps C ops ops.toList st (K .normal)
  | .region _ ops true, st, K => runAny (placed C ops st) ops ops.toList [] [] (reserve C ops st) (K .normal)
  | .seq a b, st, K => execL C lp a st (seqK (execL C lp b) K)
  | .cond c a b, st, K => (evc st c).bind fun x => x.toBool.bind fun t => bif t then execL C lp a st K else execL C lp b st K
  | .block id c, st, K => execL C lp c st (blockK id K)
  | .loop c, st, K => bif isRF c then none else lp c (tidy1 (keepOf C.live c) st) K
  | .rangeFunc g ps a b, st, K => lp (.rangeFunc g ps a b) (tidy1 (keepOf C.live a) st) K
  | _, _, _ => none
noncomputable def loops (C : Ctx) (c : Code) (st : St) (K : AExit → St → Option R) : Option R :=
  match c with
  | .rangeFunc g ps a b => bif noRF a && noRF b then rangeX C g ps (keepOf C.live a) (exec C a) (exec C b) st K else none
  | c => loopN (exec C c) (keepOf C.live c) big st K

def resultsA (P : Program) (st : St) : List ResultVar → (List TV → Option R) → Option R
  | [], K => K []
  | .tmp t :: r, K => ((look st.env t).bind AV.out).bind fun v => resultsA P st r fun vs => K (v :: vs)
  | .cell a t :: r, K => (look st.env a).bind fun a => loadA P st t a fun v => reAV P t v fun v => v.out.bind fun v => resultsA P st r fun vs => K (v :: vs)
def initEnv : Nat → List TV → List (Nat × AV)
  | _, [] => []
  | i, v :: r => (i, v.av) :: initEnv (i + 1) r
def oneOf : List TV → AV
  | [v] => v.av
  | vs => .tup vs
/-- How a frame ends. -/
def retA (C : Ctx) (rs : List ResultVar) (K : AV → Heap → Option R) : AExit → St → Option R
  | .exit _, _ => none
  | .normal, st => resultsA C.P st rs fun vs => K (oneOf vs) st.heap
  | .ret, st => resultsA C.P st rs fun vs => K (oneOf vs) st.heap
noncomputable def fnL (C : Ctx) (lp : Code → St → (AExit → St → Option R) → Option R) (rs : List ResultVar) (c : Code) (args : List TV) (H : Heap) (K : AV → Heap → Option R) : Option R :=
  execL C lp c ⟨initEnv 0 args, [], H⟩ (retA C rs K)
noncomputable def fnA (C : Ctx) (rs : List ResultVar) (c : Code) (R : Type) (args : List TV) (H : Heap) (K : AV → Heap → Option R) : Option R :=
  exec C c ⟨initEnv 0 args, [], H⟩ (retA C rs K)

/-! paths into code -/
def Code.l : Code → Code | .seq a _ => a | .cond _ a _ => a | .block _ a => a | .loop a => a | .rangeFunc _ _ a _ => a | c => c
def Code.r : Code → Code | .seq _ b => b | .cond _ _ b => b | .rangeFunc _ _ _ b => b | c => c
def bodyOf (f : Func) : Code := f.body.getD .skip

end Go.Proofs.YtnipccoenalnkaaGreat.Ab
