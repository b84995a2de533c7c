/- The program's structs as structures. -/
import Derived.Test.YtnipccoenalnkaaGreatAb34
namespace Go.Proofs.YtnipccoenalnkaaGreat
open Go Go.Proofs.YtnipccoenalnkaaGreat.Ab
set_option linter.unusedVariables false
set_option maxRecDepth 100000
/-! [16]uint64 -/
structure TA16u64 where
  a0 : Int
  a1 : Int
  a2 : Int
  a3 : Int
  a4 : Int
  a5 : Int
  a6 : Int
  a7 : Int
  a8 : Int
  a9 : Int
  a10 : Int
  a11 : Int
  a12 : Int
  a13 : Int
  a14 : Int
  a15 : Int
def TA16u64.row (x : TA16u64) : List Cell := [Cell.int .u64 x.a0, Cell.int .u64 x.a1, Cell.int .u64 x.a2, Cell.int .u64 x.a3, Cell.int .u64 x.a4, Cell.int .u64 x.a5, Cell.int .u64 x.a6, Cell.int .u64 x.a7, Cell.int .u64 x.a8, Cell.int .u64 x.a9, Cell.int .u64 x.a10, Cell.int .u64 x.a11, Cell.int .u64 x.a12, Cell.int .u64 x.a13, Cell.int .u64 x.a14, Cell.int .u64 x.a15]
def ldA16u64 {R : Type} (H : Heap) (i o : Nat) (k : TA16u64 → Option R) : Option R := (H.get i (o)).bind fun c0 => (H.get i (o + 1)).bind fun c1 => (H.get i (o + 1 + 1)).bind fun c2 => (H.get i (o + 1 + 1 + 1)).bind fun c3 => (H.get i (o + 1 + 1 + 1 + 1)).bind fun c4 => (H.get i (o + 1 + 1 + 1 + 1 + 1)).bind fun c5 => (H.get i (o + 1 + 1 + 1 + 1 + 1 + 1)).bind fun c6 => (H.get i (o + 1 + 1 + 1 + 1 + 1 + 1 + 1)).bind fun c7 => (H.get i (o + 1 + 1 + 1 + 1 + 1 + 1 + 1 + 1)).bind fun c8 => (H.get i (o + 1 + 1 + 1 + 1 + 1 + 1 + 1 + 1 + 1)).bind fun c9 => (H.get i (o + 1 + 1 + 1 + 1 + 1 + 1 + 1 + 1 + 1 + 1)).bind fun c10 => (H.get i (o + 1 + 1 + 1 + 1 + 1 + 1 + 1 + 1 + 1 + 1 + 1)).bind fun c11 => (H.get i (o + 1 + 1 + 1 + 1 + 1 + 1 + 1 + 1 + 1 + 1 + 1 + 1)).bind fun c12 => (H.get i (o + 1 + 1 + 1 + 1 + 1 + 1 + 1 + 1 + 1 + 1 + 1 + 1 + 1)).bind fun c13 => (H.get i (o + 1 + 1 + 1 + 1 + 1 + 1 + 1 + 1 + 1 + 1 + 1 + 1 + 1 + 1)).bind fun c14 => (H.get i (o + 1 + 1 + 1 + 1 + 1 + 1 + 1 + 1 + 1 + 1 + 1 + 1 + 1 + 1 + 1)).bind fun c15 => (Cell.toInt .u64 c0).bind fun a0 => (Cell.toInt .u64 c1).bind fun a1 => (Cell.toInt .u64 c2).bind fun a2 => (Cell.toInt .u64 c3).bind fun a3 => (Cell.toInt .u64 c4).bind fun a4 => (Cell.toInt .u64 c5).bind fun a5 => (Cell.toInt .u64 c6).bind fun a6 => (Cell.toInt .u64 c7).bind fun a7 => (Cell.toInt .u64 c8).bind fun a8 => (Cell.toInt .u64 c9).bind fun a9 => (Cell.toInt .u64 c10).bind fun a10 => (Cell.toInt .u64 c11).bind fun a11 => (Cell.toInt .u64 c12).bind fun a12 => (Cell.toInt .u64 c13).bind fun a13 => (Cell.toInt .u64 c14).bind fun a14 => (Cell.toInt .u64 c15).bind fun a15 => k ⟨a0, a1, a2, a3, a4, a5, a6, a7, a8, a9, a10, a11, a12, a13, a14, a15⟩
theorem ldA16u64_of {R : Type} {H : Heap} {i o : Nat} {x : TA16u64} (h : HasAt H i o x.row) (k : TA16u64 → Option R) : ldA16u64 H i o k = k x := by
  unfold ldA16u64
  exact bnd (h 0 _ rfl) <| bnd (h 1 _ rfl) <| bnd (h 2 _ rfl) <| bnd (h 3 _ rfl) <| bnd (h 4 _ rfl) <| bnd (h 5 _ rfl) <| bnd (h 6 _ rfl) <| bnd (h 7 _ rfl) <| bnd (h 8 _ rfl) <| bnd (h 9 _ rfl) <| bnd (h 10 _ rfl) <| bnd (h 11 _ rfl) <| bnd (h 12 _ rfl) <| bnd (h 13 _ rfl) <| bnd (h 14 _ rfl) <| bnd (h 15 _ rfl) <| bnd rfl <| bnd rfl <| bnd rfl <| bnd rfl <| bnd rfl <| bnd rfl <| bnd rfl <| bnd rfl <| bnd rfl <| bnd rfl <| bnd rfl <| bnd rfl <| bnd rfl <| bnd rfl <| bnd rfl <| bnd rfl <| rfl
/-! xflag.Thunk -/
structure TThunk where
  C : Bool
  O : Bool
  res : Int
def TThunk.row (x : TThunk) : List Cell := [Cell.bool x.C, Cell.bool x.O, Cell.int .u64 x.res]
def cThunk : Ag TThunk := ⟨TThunk.row, fun l => match l with
  | Cell.bool a0 :: Cell.bool a1 :: Cell.int .u64 a2 :: [] => some ⟨a0, a1, a2⟩
  | _ => none, by
  intro l a h
  split at h
  · cases h; rfl
  · cases h⟩
def ldThunk {R : Type} (H : Heap) (i o : Nat) (k : TThunk → Option R) : Option R := (H.get i (o)).bind fun c0 => (H.get i (o + 1)).bind fun c1 => (H.get i (o + 1 + 1)).bind fun c2 => c0.toBool.bind fun a0 => c1.toBool.bind fun a1 => (Cell.toInt .u64 c2).bind fun a2 => k ⟨a0, a1, a2⟩
theorem ldThunk_of {R : Type} {H : Heap} {i o : Nat} {x : TThunk} (h : HasAt H i o x.row) (k : TThunk → Option R) : ldThunk H i o k = k x := by
  unfold ldThunk
  exact bnd (h 0 _ rfl) <| bnd (h 1 _ rfl) <| bnd (h 2 _ rfl) <| bnd rfl <| bnd rfl <| bnd rfl <| rfl
/-! xsem.Cpu -/
structure TCpu where
  reg : TA16u64
  thunk : TThunk
  ip : Int
def TCpu.row (x : TCpu) : List Cell := [Cell.int .u64 x.reg.a0, Cell.int .u64 x.reg.a1, Cell.int .u64 x.reg.a2, Cell.int .u64 x.reg.a3, Cell.int .u64 x.reg.a4, Cell.int .u64 x.reg.a5, Cell.int .u64 x.reg.a6, Cell.int .u64 x.reg.a7, Cell.int .u64 x.reg.a8, Cell.int .u64 x.reg.a9, Cell.int .u64 x.reg.a10, Cell.int .u64 x.reg.a11, Cell.int .u64 x.reg.a12, Cell.int .u64 x.reg.a13, Cell.int .u64 x.reg.a14, Cell.int .u64 x.reg.a15, Cell.bool x.thunk.C, Cell.bool x.thunk.O, Cell.int .u64 x.thunk.res, Cell.int .u64 x.ip]
def cCpu : Ag TCpu := ⟨TCpu.row, fun l => match l with
  | Cell.int .u64 a0 :: Cell.int .u64 a1 :: Cell.int .u64 a2 :: Cell.int .u64 a3 :: Cell.int .u64 a4 :: Cell.int .u64 a5 :: Cell.int .u64 a6 :: Cell.int .u64 a7 :: Cell.int .u64 a8 :: Cell.int .u64 a9 :: Cell.int .u64 a10 :: Cell.int .u64 a11 :: Cell.int .u64 a12 :: Cell.int .u64 a13 :: Cell.int .u64 a14 :: Cell.int .u64 a15 :: Cell.bool a16 :: Cell.bool a17 :: Cell.int .u64 a18 :: Cell.int .u64 a19 :: [] => some ⟨⟨a0, a1, a2, a3, a4, a5, a6, a7, a8, a9, a10, a11, a12, a13, a14, a15⟩, ⟨a16, a17, a18⟩, a19⟩
  | _ => none, by
  intro l a h
  split at h
  · cases h; rfl
  · cases h⟩
def ldCpu {R : Type} (H : Heap) (i o : Nat) (k : TCpu → Option R) : Option R := (H.get i (o)).bind fun c0 => (H.get i (o + 1)).bind fun c1 => (H.get i (o + 1 + 1)).bind fun c2 => (H.get i (o + 1 + 1 + 1)).bind fun c3 => (H.get i (o + 1 + 1 + 1 + 1)).bind fun c4 => (H.get i (o + 1 + 1 + 1 + 1 + 1)).bind fun c5 => (H.get i (o + 1 + 1 + 1 + 1 + 1 + 1)).bind fun c6 => (H.get i (o + 1 + 1 + 1 + 1 + 1 + 1 + 1)).bind fun c7 => (H.get i (o + 1 + 1 + 1 + 1 + 1 + 1 + 1 + 1)).bind fun c8 => (H.get i (o + 1 + 1 + 1 + 1 + 1 + 1 + 1 + 1 + 1)).bind fun c9 => (H.get i (o + 1 + 1 + 1 + 1 + 1 + 1 + 1 + 1 + 1 + 1)).bind fun c10 => (H.get i (o + 1 + 1 + 1 + 1 + 1 + 1 + 1 + 1 + 1 + 1 + 1)).bind fun c11 => (H.get i (o + 1 + 1 + 1 + 1 + 1 + 1 + 1 + 1 + 1 + 1 + 1 + 1)).bind fun c12 => (H.get i (o + 1 + 1 + 1 + 1 + 1 + 1 + 1 + 1 + 1 + 1 + 1 + 1 + 1)).bind fun c13 => (H.get i (o + 1 + 1 + 1 + 1 + 1 + 1 + 1 + 1 + 1 + 1 + 1 + 1 + 1 + 1)).bind fun c14 => (H.get i (o + 1 + 1 + 1 + 1 + 1 + 1 + 1 + 1 + 1 + 1 + 1 + 1 + 1 + 1 + 1)).bind fun c15 => (H.get i (o + 1 + 1 + 1 + 1 + 1 + 1 + 1 + 1 + 1 + 1 + 1 + 1 + 1 + 1 + 1 + 1)).bind fun c16 => (H.get i (o + 1 + 1 + 1 + 1 + 1 + 1 + 1 + 1 + 1 + 1 + 1 + 1 + 1 + 1 + 1 + 1 + 1)).bind fun c17 => (H.get i (o + 1 + 1 + 1 + 1 + 1 + 1 + 1 + 1 + 1 + 1 + 1 + 1 + 1 + 1 + 1 + 1 + 1 + 1)).bind fun c18 => (H.get i (o + 1 + 1 + 1 + 1 + 1 + 1 + 1 + 1 + 1 + 1 + 1 + 1 + 1 + 1 + 1 + 1 + 1 + 1 + 1)).bind fun c19 => (Cell.toInt .u64 c0).bind fun a0 => (Cell.toInt .u64 c1).bind fun a1 => (Cell.toInt .u64 c2).bind fun a2 => (Cell.toInt .u64 c3).bind fun a3 => (Cell.toInt .u64 c4).bind fun a4 => (Cell.toInt .u64 c5).bind fun a5 => (Cell.toInt .u64 c6).bind fun a6 => (Cell.toInt .u64 c7).bind fun a7 => (Cell.toInt .u64 c8).bind fun a8 => (Cell.toInt .u64 c9).bind fun a9 => (Cell.toInt .u64 c10).bind fun a10 => (Cell.toInt .u64 c11).bind fun a11 => (Cell.toInt .u64 c12).bind fun a12 => (Cell.toInt .u64 c13).bind fun a13 => (Cell.toInt .u64 c14).bind fun a14 => (Cell.toInt .u64 c15).bind fun a15 => c16.toBool.bind fun a16 => c17.toBool.bind fun a17 => (Cell.toInt .u64 c18).bind fun a18 => (Cell.toInt .u64 c19).bind fun a19 => k ⟨⟨a0, a1, a2, a3, a4, a5, a6, a7, a8, a9, a10, a11, a12, a13, a14, a15⟩, ⟨a16, a17, a18⟩, a19⟩
theorem ldCpu_of {R : Type} {H : Heap} {i o : Nat} {x : TCpu} (h : HasAt H i o x.row) (k : TCpu → Option R) : ldCpu H i o k = k x := by
  unfold ldCpu
  exact bnd (h 0 _ rfl) <| bnd (h 1 _ rfl) <| bnd (h 2 _ rfl) <| bnd (h 3 _ rfl) <| bnd (h 4 _ rfl) <| bnd (h 5 _ rfl) <| bnd (h 6 _ rfl) <| bnd (h 7 _ rfl) <| bnd (h 8 _ rfl) <| bnd (h 9 _ rfl) <| bnd (h 10 _ rfl) <| bnd (h 11 _ rfl) <| bnd (h 12 _ rfl) <| bnd (h 13 _ rfl) <| bnd (h 14 _ rfl) <| bnd (h 15 _ rfl) <| bnd (h 16 _ rfl) <| bnd (h 17 _ rfl) <| bnd (h 18 _ rfl) <| bnd (h 19 _ rfl) <| bnd rfl <| bnd rfl <| bnd rfl <| bnd rfl <| bnd rfl <| bnd rfl <| bnd rfl <| bnd rfl <| bnd rfl <| bnd rfl <| bnd rfl <| bnd rfl <| bnd rfl <| bnd rfl <| bnd rfl <| bnd rfl <| bnd rfl <| bnd rfl <| bnd rfl <| bnd rfl <| rfl
/-! xinst.Addr -/
structure TAddr where
  base : Int
  index : Int
  scale : Int
  disp : Int
def TAddr.row (x : TAddr) : List Cell := [Cell.int .i64 x.base, Cell.int .i64 x.index, Cell.int .i64 x.scale, Cell.int .i64 x.disp]
def cAddr : Ag TAddr := ⟨TAddr.row, fun l => match l with
  | Cell.int .i64 a0 :: Cell.int .i64 a1 :: Cell.int .i64 a2 :: Cell.int .i64 a3 :: [] => some ⟨a0, a1, a2, a3⟩
  | _ => none, by
  intro l a h
  split at h
  · cases h; rfl
  · cases h⟩
/-! xinst.Opd -/
structure TOpd where
  kind : Int
  reg : Int
  addr : TAddr
def TOpd.row (x : TOpd) : List Cell := [Cell.int .i64 x.kind, Cell.int .i64 x.reg, Cell.int .i64 x.addr.base, Cell.int .i64 x.addr.index, Cell.int .i64 x.addr.scale, Cell.int .i64 x.addr.disp]
def cOpd : Ag TOpd := ⟨TOpd.row, fun l => match l with
  | Cell.int .i64 a0 :: Cell.int .i64 a1 :: Cell.int .i64 a2 :: Cell.int .i64 a3 :: Cell.int .i64 a4 :: Cell.int .i64 a5 :: [] => some ⟨a0, a1, ⟨a2, a3, a4, a5⟩⟩
  | _ => none, by
  intro l a h
  split at h
  · cases h; rfl
  · cases h⟩
def ldOpd {R : Type} (H : Heap) (i o : Nat) (k : TOpd → Option R) : Option R := (H.get i (o)).bind fun c0 => (H.get i (o + 1)).bind fun c1 => (H.get i (o + 1 + 1)).bind fun c2 => (H.get i (o + 1 + 1 + 1)).bind fun c3 => (H.get i (o + 1 + 1 + 1 + 1)).bind fun c4 => (H.get i (o + 1 + 1 + 1 + 1 + 1)).bind fun c5 => (Cell.toInt .i64 c0).bind fun a0 => (Cell.toInt .i64 c1).bind fun a1 => (Cell.toInt .i64 c2).bind fun a2 => (Cell.toInt .i64 c3).bind fun a3 => (Cell.toInt .i64 c4).bind fun a4 => (Cell.toInt .i64 c5).bind fun a5 => k ⟨a0, a1, ⟨a2, a3, a4, a5⟩⟩
theorem ldOpd_of {R : Type} {H : Heap} {i o : Nat} {x : TOpd} (h : HasAt H i o x.row) (k : TOpd → Option R) : ldOpd H i o k = k x := by
  unfold ldOpd
  exact bnd (h 0 _ rfl) <| bnd (h 1 _ rfl) <| bnd (h 2 _ rfl) <| bnd (h 3 _ rfl) <| bnd (h 4 _ rfl) <| bnd (h 5 _ rfl) <| bnd rfl <| bnd rfl <| bnd rfl <| bnd rfl <| bnd rfl <| bnd rfl <| rfl
/-! xinst.Inst -/
structure TInst where
  op : Int
  W : Int
  w2 : Int
  A : TOpd
  B : TOpd
  imm : Int
  cc : Int
  lock : Bool
  rep : Bool
  len : Int
def TInst.row (x : TInst) : List Cell := [Cell.int .i64 x.op, Cell.int .i64 x.W, Cell.int .i64 x.w2, Cell.int .i64 x.A.kind, Cell.int .i64 x.A.reg, Cell.int .i64 x.A.addr.base, Cell.int .i64 x.A.addr.index, Cell.int .i64 x.A.addr.scale, Cell.int .i64 x.A.addr.disp, Cell.int .i64 x.B.kind, Cell.int .i64 x.B.reg, Cell.int .i64 x.B.addr.base, Cell.int .i64 x.B.addr.index, Cell.int .i64 x.B.addr.scale, Cell.int .i64 x.B.addr.disp, Cell.int .i64 x.imm, Cell.int .i64 x.cc, Cell.bool x.lock, Cell.bool x.rep, Cell.int .i64 x.len]
def cInst : Ag TInst := ⟨TInst.row, fun l => match l with
  | Cell.int .i64 a0 :: Cell.int .i64 a1 :: Cell.int .i64 a2 :: Cell.int .i64 a3 :: Cell.int .i64 a4 :: Cell.int .i64 a5 :: Cell.int .i64 a6 :: Cell.int .i64 a7 :: Cell.int .i64 a8 :: Cell.int .i64 a9 :: Cell.int .i64 a10 :: Cell.int .i64 a11 :: Cell.int .i64 a12 :: Cell.int .i64 a13 :: Cell.int .i64 a14 :: Cell.int .i64 a15 :: Cell.int .i64 a16 :: Cell.bool a17 :: Cell.bool a18 :: Cell.int .i64 a19 :: [] => some ⟨a0, a1, a2, ⟨a3, a4, ⟨a5, a6, a7, a8⟩⟩, ⟨a9, a10, ⟨a11, a12, a13, a14⟩⟩, a15, a16, a17, a18, a19⟩
  | _ => none, by
  intro l a h
  split at h
  · cases h; rfl
  · cases h⟩
def ldInst {R : Type} (H : Heap) (i o : Nat) (k : TInst → Option R) : Option R := (H.get i (o)).bind fun c0 => (H.get i (o + 1)).bind fun c1 => (H.get i (o + 1 + 1)).bind fun c2 => (H.get i (o + 1 + 1 + 1)).bind fun c3 => (H.get i (o + 1 + 1 + 1 + 1)).bind fun c4 => (H.get i (o + 1 + 1 + 1 + 1 + 1)).bind fun c5 => (H.get i (o + 1 + 1 + 1 + 1 + 1 + 1)).bind fun c6 => (H.get i (o + 1 + 1 + 1 + 1 + 1 + 1 + 1)).bind fun c7 => (H.get i (o + 1 + 1 + 1 + 1 + 1 + 1 + 1 + 1)).bind fun c8 => (H.get i (o + 1 + 1 + 1 + 1 + 1 + 1 + 1 + 1 + 1)).bind fun c9 => (H.get i (o + 1 + 1 + 1 + 1 + 1 + 1 + 1 + 1 + 1 + 1)).bind fun c10 => (H.get i (o + 1 + 1 + 1 + 1 + 1 + 1 + 1 + 1 + 1 + 1 + 1)).bind fun c11 => (H.get i (o + 1 + 1 + 1 + 1 + 1 + 1 + 1 + 1 + 1 + 1 + 1 + 1)).bind fun c12 => (H.get i (o + 1 + 1 + 1 + 1 + 1 + 1 + 1 + 1 + 1 + 1 + 1 + 1 + 1)).bind fun c13 => (H.get i (o + 1 + 1 + 1 + 1 + 1 + 1 + 1 + 1 + 1 + 1 + 1 + 1 + 1 + 1)).bind fun c14 => (H.get i (o + 1 + 1 + 1 + 1 + 1 + 1 + 1 + 1 + 1 + 1 + 1 + 1 + 1 + 1 + 1)).bind fun c15 => (H.get i (o + 1 + 1 + 1 + 1 + 1 + 1 + 1 + 1 + 1 + 1 + 1 + 1 + 1 + 1 + 1 + 1)).bind fun c16 => (H.get i (o + 1 + 1 + 1 + 1 + 1 + 1 + 1 + 1 + 1 + 1 + 1 + 1 + 1 + 1 + 1 + 1 + 1)).bind fun c17 => (H.get i (o + 1 + 1 + 1 + 1 + 1 + 1 + 1 + 1 + 1 + 1 + 1 + 1 + 1 + 1 + 1 + 1 + 1 + 1)).bind fun c18 => (H.get i (o + 1 + 1 + 1 + 1 + 1 + 1 + 1 + 1 + 1 + 1 + 1 + 1 + 1 + 1 + 1 + 1 + 1 + 1 + 1)).bind fun c19 => (Cell.toInt .i64 c0).bind fun a0 => (Cell.toInt .i64 c1).bind fun a1 => (Cell.toInt .i64 c2).bind fun a2 => (Cell.toInt .i64 c3).bind fun a3 => (Cell.toInt .i64 c4).bind fun a4 => (Cell.toInt .i64 c5).bind fun a5 => (Cell.toInt .i64 c6).bind fun a6 => (Cell.toInt .i64 c7).bind fun a7 => (Cell.toInt .i64 c8).bind fun a8 => (Cell.toInt .i64 c9).bind fun a9 => (Cell.toInt .i64 c10).bind fun a10 => (Cell.toInt .i64 c11).bind fun a11 => (Cell.toInt .i64 c12).bind fun a12 => (Cell.toInt .i64 c13).bind fun a13 => (Cell.toInt .i64 c14).bind fun a14 => (Cell.toInt .i64 c15).bind fun a15 => (Cell.toInt .i64 c16).bind fun a16 => c17.toBool.bind fun a17 => c18.toBool.bind fun a18 => (Cell.toInt .i64 c19).bind fun a19 => k ⟨a0, a1, a2, ⟨a3, a4, ⟨a5, a6, a7, a8⟩⟩, ⟨a9, a10, ⟨a11, a12, a13, a14⟩⟩, a15, a16, a17, a18, a19⟩
theorem ldInst_of {R : Type} {H : Heap} {i o : Nat} {x : TInst} (h : HasAt H i o x.row) (k : TInst → Option R) : ldInst H i o k = k x := by
  unfold ldInst
  exact bnd (h 0 _ rfl) <| bnd (h 1 _ rfl) <| bnd (h 2 _ rfl) <| bnd (h 3 _ rfl) <| bnd (h 4 _ rfl) <| bnd (h 5 _ rfl) <| bnd (h 6 _ rfl) <| bnd (h 7 _ rfl) <| bnd (h 8 _ rfl) <| bnd (h 9 _ rfl) <| bnd (h 10 _ rfl) <| bnd (h 11 _ rfl) <| bnd (h 12 _ rfl) <| bnd (h 13 _ rfl) <| bnd (h 14 _ rfl) <| bnd (h 15 _ rfl) <| bnd (h 16 _ rfl) <| bnd (h 17 _ rfl) <| bnd (h 18 _ rfl) <| bnd (h 19 _ rfl) <| bnd rfl <| bnd rfl <| bnd rfl <| bnd rfl <| bnd rfl <| bnd rfl <| bnd rfl <| bnd rfl <| bnd rfl <| bnd rfl <| bnd rfl <| bnd rfl <| bnd rfl <| bnd rfl <| bnd rfl <| bnd rfl <| bnd rfl <| bnd rfl <| bnd rfl <| bnd rfl <| rfl
/-! mem.store -/
structure TStore115 where
  at0 : Int
  w : Int
  v : Int
def TStore115.row (x : TStore115) : List Cell := [Cell.int .u64 x.at0, Cell.int .i64 x.w, Cell.int .u64 x.v]
/-! struct { is bool; bit uint64 } -/
structure TStructisboolbituint64 where
  is : Bool
  bit : Int
def TStructisboolbituint64.row (x : TStructisboolbituint64) : List Cell := [Cell.bool x.is, Cell.int .u64 x.bit]
def ldStructisboolbituint64 {R : Type} (H : Heap) (i o : Nat) (k : TStructisboolbituint64 → Option R) : Option R := (H.get i (o)).bind fun c0 => (H.get i (o + 1)).bind fun c1 => c0.toBool.bind fun a0 => (Cell.toInt .u64 c1).bind fun a1 => k ⟨a0, a1⟩
theorem ldStructisboolbituint64_of {R : Type} {H : Heap} {i o : Nat} {x : TStructisboolbituint64} (h : HasAt H i o x.row) (k : TStructisboolbituint64 → Option R) : ldStructisboolbituint64 H i o k = k x := by
  unfold ldStructisboolbituint64
  exact bnd (h 0 _ rfl) <| bnd (h 1 _ rfl) <| bnd rfl <| bnd rfl <| rfl
/-! xsem.run -/
structure TRun where
  cpu : TCpu
  t : Int
  i : TInst
  m : (Option (Nat × Nat))
  here : Int
  next0 : Int
  end0 : Int
  stores : Bool
  at0 : Int
  v : Int
def TRun.row (x : TRun) : List Cell := [Cell.int .u64 x.cpu.reg.a0, Cell.int .u64 x.cpu.reg.a1, Cell.int .u64 x.cpu.reg.a2, Cell.int .u64 x.cpu.reg.a3, Cell.int .u64 x.cpu.reg.a4, Cell.int .u64 x.cpu.reg.a5, Cell.int .u64 x.cpu.reg.a6, Cell.int .u64 x.cpu.reg.a7, Cell.int .u64 x.cpu.reg.a8, Cell.int .u64 x.cpu.reg.a9, Cell.int .u64 x.cpu.reg.a10, Cell.int .u64 x.cpu.reg.a11, Cell.int .u64 x.cpu.reg.a12, Cell.int .u64 x.cpu.reg.a13, Cell.int .u64 x.cpu.reg.a14, Cell.int .u64 x.cpu.reg.a15, Cell.bool x.cpu.thunk.C, Cell.bool x.cpu.thunk.O, Cell.int .u64 x.cpu.thunk.res, Cell.int .u64 x.cpu.ip, Cell.int .i64 x.t, Cell.int .i64 x.i.op, Cell.int .i64 x.i.W, Cell.int .i64 x.i.w2, Cell.int .i64 x.i.A.kind, Cell.int .i64 x.i.A.reg, Cell.int .i64 x.i.A.addr.base, Cell.int .i64 x.i.A.addr.index, Cell.int .i64 x.i.A.addr.scale, Cell.int .i64 x.i.A.addr.disp, Cell.int .i64 x.i.B.kind, Cell.int .i64 x.i.B.reg, Cell.int .i64 x.i.B.addr.base, Cell.int .i64 x.i.B.addr.index, Cell.int .i64 x.i.B.addr.scale, Cell.int .i64 x.i.B.addr.disp, Cell.int .i64 x.i.imm, Cell.int .i64 x.i.cc, Cell.bool x.i.lock, Cell.bool x.i.rep, Cell.int .i64 x.i.len, Cell.ptr x.m, Cell.int .u64 x.here, Cell.int .u64 x.next0, Cell.int .i64 x.end0, Cell.bool x.stores, Cell.int .u64 x.at0, Cell.int .u64 x.v]
/-! calquelaw10.Start -/
structure TStart where
  C : TCpu
  L : (Option Sl)
  ops : (Option Sl)
  mine : Bool
def TStart.row (x : TStart) : List Cell := [Cell.int .u64 x.C.reg.a0, Cell.int .u64 x.C.reg.a1, Cell.int .u64 x.C.reg.a2, Cell.int .u64 x.C.reg.a3, Cell.int .u64 x.C.reg.a4, Cell.int .u64 x.C.reg.a5, Cell.int .u64 x.C.reg.a6, Cell.int .u64 x.C.reg.a7, Cell.int .u64 x.C.reg.a8, Cell.int .u64 x.C.reg.a9, Cell.int .u64 x.C.reg.a10, Cell.int .u64 x.C.reg.a11, Cell.int .u64 x.C.reg.a12, Cell.int .u64 x.C.reg.a13, Cell.int .u64 x.C.reg.a14, Cell.int .u64 x.C.reg.a15, Cell.bool x.C.thunk.C, Cell.bool x.C.thunk.O, Cell.int .u64 x.C.thunk.res, Cell.int .u64 x.C.ip, Cell.slice x.L, Cell.slice x.ops, Cell.bool x.mine]
def cStart : Ag TStart := ⟨TStart.row, fun l => match l with
  | Cell.int .u64 a0 :: Cell.int .u64 a1 :: Cell.int .u64 a2 :: Cell.int .u64 a3 :: Cell.int .u64 a4 :: Cell.int .u64 a5 :: Cell.int .u64 a6 :: Cell.int .u64 a7 :: Cell.int .u64 a8 :: Cell.int .u64 a9 :: Cell.int .u64 a10 :: Cell.int .u64 a11 :: Cell.int .u64 a12 :: Cell.int .u64 a13 :: Cell.int .u64 a14 :: Cell.int .u64 a15 :: Cell.bool a16 :: Cell.bool a17 :: Cell.int .u64 a18 :: Cell.int .u64 a19 :: Cell.slice a20 :: Cell.slice a21 :: Cell.bool a22 :: [] => some ⟨⟨⟨a0, a1, a2, a3, a4, a5, a6, a7, a8, a9, a10, a11, a12, a13, a14, a15⟩, ⟨a16, a17, a18⟩, a19⟩, a20, a21, a22⟩
  | _ => none, by
  intro l a h
  split at h
  · cases h; rfl
  · cases h⟩
/-! calqueref10.Step -/
structure TStep where
  C : TCpu
  I : TInst
  N : TCpu
  T : Int
  M : (Option (Nat × Nat))
  next0 : Int
  end0 : Int
  has : Bool
  at0 : Int
  V : Int
def TStep.row (x : TStep) : List Cell := [Cell.int .u64 x.C.reg.a0, Cell.int .u64 x.C.reg.a1, Cell.int .u64 x.C.reg.a2, Cell.int .u64 x.C.reg.a3, Cell.int .u64 x.C.reg.a4, Cell.int .u64 x.C.reg.a5, Cell.int .u64 x.C.reg.a6, Cell.int .u64 x.C.reg.a7, Cell.int .u64 x.C.reg.a8, Cell.int .u64 x.C.reg.a9, Cell.int .u64 x.C.reg.a10, Cell.int .u64 x.C.reg.a11, Cell.int .u64 x.C.reg.a12, Cell.int .u64 x.C.reg.a13, Cell.int .u64 x.C.reg.a14, Cell.int .u64 x.C.reg.a15, Cell.bool x.C.thunk.C, Cell.bool x.C.thunk.O, Cell.int .u64 x.C.thunk.res, Cell.int .u64 x.C.ip, Cell.int .i64 x.I.op, Cell.int .i64 x.I.W, Cell.int .i64 x.I.w2, Cell.int .i64 x.I.A.kind, Cell.int .i64 x.I.A.reg, Cell.int .i64 x.I.A.addr.base, Cell.int .i64 x.I.A.addr.index, Cell.int .i64 x.I.A.addr.scale, Cell.int .i64 x.I.A.addr.disp, Cell.int .i64 x.I.B.kind, Cell.int .i64 x.I.B.reg, Cell.int .i64 x.I.B.addr.base, Cell.int .i64 x.I.B.addr.index, Cell.int .i64 x.I.B.addr.scale, Cell.int .i64 x.I.B.addr.disp, Cell.int .i64 x.I.imm, Cell.int .i64 x.I.cc, Cell.bool x.I.lock, Cell.bool x.I.rep, Cell.int .i64 x.I.len, Cell.int .u64 x.N.reg.a0, Cell.int .u64 x.N.reg.a1, Cell.int .u64 x.N.reg.a2, Cell.int .u64 x.N.reg.a3, Cell.int .u64 x.N.reg.a4, Cell.int .u64 x.N.reg.a5, Cell.int .u64 x.N.reg.a6, Cell.int .u64 x.N.reg.a7, Cell.int .u64 x.N.reg.a8, Cell.int .u64 x.N.reg.a9, Cell.int .u64 x.N.reg.a10, Cell.int .u64 x.N.reg.a11, Cell.int .u64 x.N.reg.a12, Cell.int .u64 x.N.reg.a13, Cell.int .u64 x.N.reg.a14, Cell.int .u64 x.N.reg.a15, Cell.bool x.N.thunk.C, Cell.bool x.N.thunk.O, Cell.int .u64 x.N.thunk.res, Cell.int .u64 x.N.ip, Cell.int .i64 x.T, Cell.ptr x.M, Cell.int .u64 x.next0, Cell.int .i64 x.end0, Cell.bool x.has, Cell.int .u64 x.at0, Cell.int .u64 x.V]
end Go.Proofs.YtnipccoenalnkaaGreat
