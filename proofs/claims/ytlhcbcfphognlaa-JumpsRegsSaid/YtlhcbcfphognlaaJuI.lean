/- Layer 11: which registers an instruction reads and changes: the program's own functions. -/
import Derived.Test.YtlhcbcfphognlaaJu3b
namespace Go.Proofs.Ytlhcbcfphognlaa
open Go Go.Proofs.Ytlhcbcfphognlaa.Ab
open Go.Proofs.Ytlhcbcfphognlaa.Half (withL half wide strR strW EI hwith hwith_rs rsI)
set_option linter.unusedVariables false
set_option linter.unusedSimpArgs false
set_option maxRecDepth 100000
noncomputable section
theorem g36_rs (s : Int) (sl : Option Sl) (ks : List Int) (hk : ks.length ≤ 3) (H : Heap) (h : RS 1 EI H sl ks) : g36 s sl H = some (withL s ks) := by
  rw [g36_eq, hwith_rs s sl ks hk H h]
theorem g36_1 (s a : Int) (H : Heap) : g36 s (some { id := H.length, off := 0, len := 1, cap := 1, esz := 1 }) (H ++ [Blk.row [Cell.int .i64 a] false]) = some (withL s [a]) := g36_rs s _ [a] (by simp) _ (rsI _ false [a] _ (push_get _ _))
theorem g36_2 (s a b : Int) (H : Heap) : g36 s (some { id := H.length, off := 0, len := 2, cap := 2, esz := 1 }) (H ++ [Blk.row [Cell.int .i64 a, Cell.int .i64 b] false]) = some (withL s [a, b]) := g36_rs s _ [a, b] (by simp) _ (rsI _ false [a, b] _ (push_get _ _))
theorem g36_3 (s a b c : Int) (H : Heap) : g36 s (some { id := H.length, off := 0, len := 3, cap := 3, esz := 1 }) (H ++ [Blk.row [Cell.int .i64 a, Cell.int .i64 b, Cell.int .i64 c] false]) = some (withL s [a, b, c]) := g36_rs s _ [a, b, c] (by simp) _ (rsI _ false [a, b, c] _ (push_get _ _))
theorem fill0 (H : Heap) (b : Blk) : (H ++ [Blk.hole, Blk.hole]).fill (H.length + 0) b = some (H ++ [b, Blk.hole]) := by
  unfold Heap.fill
  have : (H ++ [Blk.hole, Blk.hole])[H.length + 0]? = some Blk.hole := by simp
  rw [this]
  simp
theorem fill1 (H : Heap) (a b : Blk) : (H ++ [a, Blk.hole]).fill (H.length + 1) b = some (H ++ [a, b]) := by
  unfold Heap.fill
  have : (H ++ [a, Blk.hole])[H.length + 1]? = some Blk.hole := by simp
  rw [this]
  simp
theorem g36_h0 (s a : Int) (H : Heap) (b : Blk) : g36 s (some { id := H.length + 0, off := 0, len := 1, cap := 1, esz := 1 }) (H ++ [Blk.row [Cell.int .i64 a] false, b]) = some (withL s [a]) := g36_rs s _ [a] (by simp) _ (rsI _ false [a] _ (by simp))
theorem g36_h1 (s a : Int) (H : Heap) (b : Blk) : g36 s (some { id := H.length + 1, off := 0, len := 1, cap := 1, esz := 1 }) (H ++ [b, Blk.row [Cell.int .i64 a] false]) = some (withL s [a]) := g36_rs s _ [a] (by simp) _ (rsI _ false [a] _ (by simp))
theorem off01 (n : Nat) : slOff (n + 1) (some { id := n + 0, off := 0, len := 1, cap := 1, esz := 1 }) = true := by simp [slOff]
theorem says_app {α : Type} {q : Option (α × Heap)} {H X : Heap} {v : α} (h : Says q (H ++ X) v) : Says q H v := by
  obtain ⟨H', e, k⟩ := h
  refine ⟨H', e, Kx.trans (fun i c hi => ?_) k⟩
  rw [List.getElem?_append_left (lt_of hi)]; exact hi
def ownR (x : Ins) : Int :=
  bif x.op == 14 || (x.op == 15 || (x.op == 38 || x.op == 39)) then withL 0 [4]
  else bif x.op == 20 || x.op == 21 then bor .u32 (withL 0 [0]) (half x.w)
  else bif x.op == 22 || x.op == 23 then withL 0 [0, 2]
  else bif x.op == 32 || x.op == 40 then withL 0 [0]
  else bif x.op == 41 then bor .u32 (withL 0 [0]) (half x.w)
  else bif x.op == 42 || x.op == 43 then strR x.op x.rep
  else bif x.op == 46 then withL 0 [0, 6, 7] else 0
def ownW (x : Ins) : Int :=
  bif x.op == 14 || (x.op == 15 || (x.op == 38 || x.op == 39)) then withL 0 [4]
  else bif x.op == 20 || x.op == 21 then wide x.w
  else bif x.op == 22 || x.op == 23 then wide x.w
  else bif x.op == 32 || x.op == 40 then withL 0 [0]
  else bif x.op == 41 then withL 0 [2]
  else bif x.op == 42 || x.op == 43 then strW x.op x.rep
  else bif x.op == 46 then withL 0 [0, 1, 11] else 0
theorem f16_x (x : Ins) (H : Heap) : Says (f16 x.op x.w x.w2 x.a.k x.a.r x.a.b x.a.i x.a.s x.a.d x.b.k x.b.r x.b.b x.b.i x.b.s x.b.d x.imm x.cc x.lock x.rep x.len H) H (ownR x, ownW x) := by
  rw [q16]
  simp only [g36_1, g36_2, g36_3, fill0, g36_h0, fill1, g36_h1, off01, ct, Ab.bs]
  unfold ownR ownW
  repeat' (first
    | exact says_ret rfl
    | exact says_app (says_ret rfl)
    | exact says_push (says_ret rfl)
    | exact says_push (says_push (says_ret rfl))
    | (refine says_if (fun hc => ?_) (fun hc => ?_) <;> simp only [hc, cond_true, cond_false, Bool.true_and, Bool.false_and, Bool.and_false, Bool.and_true, Bool.true_or, Bool.false_or, Bool.or_false, Bool.or_true, Bool.not_true, Bool.not_false]))
def changesB (op : Int) : Bool := !(op == 8 || (op == 9 || (op == 14 || (op == 20 || (op == 21 || (op == 22 || (op == 23 || (op == 37 || op == 38))))))))
theorem g17_v (op : Int) (H : Heap) : g17 op H = some (changesB op) := by
  rw [g17_eq]
  refine readOf_eq ?_
  rw [q17]
  unfold changesB
  cases op == 8 <;> cases op == 9 <;> cases op == 14 <;> cases op == 20 <;> cases op == 21 <;> cases op == 22 <;> cases op == 23 <;> cases op == 37 <;> cases op == 38 <;> rfl
def regS (o : Od) : Int := bif o.k == 1 then withL 0 [o.r] else 0
theorem f18_x (o : Od) (H : Heap) : Says (f18 o.k o.r o.b o.i o.s o.d H) H (regS o) := by
  rw [q18]
  simp only [g36_1, Ab.bs]
  unfold regS bne
  cases o.k == 1
  · exact says_ret rfl
  · exact says_push (says_ret rfl)
def adrS (o : Od) : Int := bif o.k == 2 then withL 0 [o.b, o.i] else 0
theorem f20_x (o : Od) (H : Heap) : Says (f20 o.k o.r o.b o.i o.s o.d H) H (adrS o) := by
  rw [q20]
  simp only [g36_2, Ab.bs]
  unfold adrS bne
  cases o.k == 2
  · exact says_ret rfl
  · exact says_push (says_ret rfl)
def Ins.fresh (x : Ins) : Bool := bif x.op == 10 || (x.op == 11 || (x.op == 12 || (x.op == 13 || x.op == 25))) then decide (x.w ≥ 4) else x.op == 15
theorem g21_x (x : Ins) (H : Heap) : g21 x.op x.w x.w2 x.a.k x.a.r x.a.b x.a.i x.a.s x.a.d x.b.k x.b.r x.b.b x.b.i x.b.s x.b.d x.imm x.cc x.lock x.rep x.len H = some x.fresh := by
  rw [g21_eq]
  refine readOf_eq ?_
  rw [q21]
  unfold Ins.fresh
  cases x.op == 10 <;> cases x.op == 11 <;> cases x.op == 12 <;> cases x.op == 13 <;> cases x.op == 25 <;> cases x.op == 15 <;> rfl
def Ins.pw (x : Ins) : Int :=
  bif !x.may then 0 else
    bif x.op == 31 || x.op == 33 then bor .u32 (bif changesB x.op then bor .u32 (ownW x) (regS x.a) else ownW x) (regS x.b)
    else bif changesB x.op then bor .u32 (ownW x) (regS x.a) else ownW x
theorem f5_x (x : Ins) (h : x.Wf) (H : Heap) : Says (f5 x.op x.w x.w2 x.a.k x.a.r x.a.b x.a.i x.a.s x.a.d x.b.k x.b.r x.b.b x.b.i x.b.s x.b.d x.imm x.cc x.lock x.rep x.len H) H x.pw := by
  rw [q5]
  refine says_bind (f15_x x h H) fun H1 _ => ?_
  unfold Ins.pw
  cases x.may
  · exact says_ret rfl
  refine says_bind (f16_x x H1) fun H2 _ => ?_
  simp only [g17_v, Ab.bs]
  cases changesB x.op
  · simp only [cf, ct, Bool.not_true]
    refine says_if (fun hc => ?_) (fun hc => ?_)
    · simp only [hc, Bool.true_or, ct]
      exact says_bind (f18_x x.b H2) fun H3 _ => says_ret rfl
    · refine says_if (fun hd => ?_) (fun hd => ?_)
      · simp only [hc, hd, Bool.or_true, ct]
        exact says_bind (f18_x x.b H2) fun H3 _ => says_ret rfl
      · simp only [hc, hd, Bool.or_false, cf]
        exact says_ret rfl
  · simp only [cf, ct, Bool.not_true]
    refine says_bind (f18_x x.a H2) fun H3 _ => ?_
    refine says_if (fun hc => ?_) (fun hc => ?_)
    · simp only [hc, Bool.true_or, ct]
      exact says_bind (f18_x x.b H3) fun H4 _ => says_ret rfl
    · refine says_if (fun hd => ?_) (fun hd => ?_)
      · simp only [hc, hd, Bool.or_true, ct]
        exact says_bind (f18_x x.b H3) fun H4 _ => says_ret rfl
      · simp only [hc, hd, Bool.or_false, cf]
        exact says_ret rfl
def Ins.pr (x : Ins) : Int :=
  bif !x.may then 0 else
    bif !x.fresh then bor .u32 (bor .u32 (ownR x) (bor .u32 (bor .u32 (adrS x.a) (adrS x.b)) (regS x.b))) (regS x.a)
    else bor .u32 (ownR x) (bor .u32 (bor .u32 (adrS x.a) (adrS x.b)) (regS x.b))
theorem f7_x (x : Ins) (h : x.Wf) (H : Heap) : Says (f7 x.op x.w x.w2 x.a.k x.a.r x.a.b x.a.i x.a.s x.a.d x.b.k x.b.r x.b.b x.b.i x.b.s x.b.d x.imm x.cc x.lock x.rep x.len H) H x.pr := by
  rw [q7]
  refine says_bind (f15_x x h H) fun H1 _ => ?_
  unfold Ins.pr
  cases x.may
  · exact says_ret rfl
  refine says_bind (f16_x x H1) fun H2 _ => says_bind (f20_x x.a H2) fun H3 _ => says_bind (f20_x x.b H3) fun H4 _ => says_bind (f18_x x.b H4) fun H5 _ => ?_
  simp only [g21_x, Ab.bs]
  cases x.fresh
  · exact says_bind (f18_x x.a H5) fun H6 _ => says_ret rfl
  · exact says_ret rfl
end
end Go.Proofs.Ytlhcbcfphognlaa
