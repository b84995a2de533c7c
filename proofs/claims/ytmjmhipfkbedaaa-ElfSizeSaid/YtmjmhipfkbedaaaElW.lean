/- Layer 3: the document writes its sections' headers. -/
import Derived.Test.YtmjmhipfkbedaaaElV
namespace Go.Proofs.Ytmjmhipfkbedaaa
open Go Go.Proofs.Ytmjmhipfkbedaaa.Ab
set_option linter.unusedVariables false
set_option linter.unusedSimpArgs false
set_option maxRecDepth 100000
noncomputable section
theorem nums_at {H G : Heap} {b : Option Sl} {l : List UInt8} (ho : OS 1 E8 H b l) (kG : Kp No H G) (hl : l.length ≤ 1099511627776) (w : Nat) (hw : w ≤ 8) (vs : List Nat) (hv : ∀ v ∈ vs, v < 18446744073709551616) (hvl : vs.length ≤ 1000) (wi : Int) (id k : Nat) (hid : H.length ≤ id) (hrow : G[id]? = some (.row (vs.flatMap EU) false)) (hwi : wi = (w : Int)) (hk : k = vs.length) :
    ∃ b' H', f57 b wi (some ⟨id, 0, k, k, 1⟩) G = some (b', H') ∧ OS 1 E8 H' b' (l ++ vs.flatMap (leB w)) ∧ Ap H b H' b' := by
  subst hwi hk
  obtain ⟨b', H', r1, r2, r3⟩ := f57_x w hw hv (ho.no kG) (rs_new (E := EU) vs hrow rfl) (fun q sl e1 e2 => by cases e2; subst e1; have := ho.lt; simp only; omega) (fun sl e => by cases e; exact lt_of hrow) hvl hl
  exact ⟨b', H', r1, r2, (Ap.no b kG).tr r3⟩
def EI (v : Nat) : List Cell := [.int .i64 (v : Int)]
theorem EI_len (v : Nat) : (EI v).length = 1 := rfl
theorem tabU {G : Heap} {id : Nat} {l : List Nat} (h : G[id]? = some (.row (l.flatMap EU) false)) {i v : Nat} (hv : l[i]? = some v) : G.get id (0 + ((i : Nat) : Int).toNat * 1) = some (.int .u64 (v : Int)) := by
  obtain ⟨sl, e, _, h2⟩ := (rs_new (E := EU) l h rfl).idx EU_len hv
  cases e
  simpa using h2 0 _ rfl
theorem tabI {G : Heap} {id : Nat} {l : List Nat} (h : G[id]? = some (.row (l.flatMap EI) false)) {i v : Nat} (hv : l[i]? = some v) : G.get id (0 + ((i : Nat) : Int).toNat * 1) = some (.int .i64 (v : Int)) := by
  obtain ⟨sl, e, _, h2⟩ := (rs_new (E := EI) l h rfl).idx EI_len hv
  cases e
  simpa using h2 0 _ rfl
theorem round29 (n i : Nat) (hi : i < 4) {H : Heap} {b w : Option Sl} {B : List UInt8} (ho : OS 1 E8 H b B) (hB : B.length ≤ 1000000000000) (sy tx rl la en nl : Nat) (hw : slen w = (nl : Int)) (hbig : tx + nl + la + en ≤ 9000000000000) (at' : Int) (k1 k2 fr to k3 k5 k4' : Nat)
    (g1 : ([1, 9, 17, 23] : List Nat)[i]? = some k1) (g2 : ([2, 3, 4, 3] : List Nat)[i]? = some k2) (g3 : [sy, tx, rl, la][i]? = some fr) (g4 : [tx, tx + nl, la, en][i]? = some to) (g5 : ([2, 0, 1, 0] : List Nat)[i]? = some k3) (g6 : ([1, 0, 0, 0] : List Nat)[i]? = some k5) (g7 : ([24, 0, 24, 0] : List Nat)[i]? = some k4') (hft : fr ≤ to) (hto : to ≤ 9000000000000) (hks : k1 ≤ 24 ∧ k2 ≤ 24 ∧ k3 ≤ 24 ∧ k5 ≤ 24 ∧ k4' ≤ 24) :
    ∃ b' H', D27_29 (n + 1) b (sy : Int) w (tx : Int) (rl : Int) (la : Int) (en : Int) at' (i : Int) H = D27_29 n b' (sy : Int) w (tx : Int) (rl : Int) (la : Int) (en : Int) at' ((i + 1 : Nat) : Int) H' ∧ OS 1 E8 H' b' (B ++ secB k1 k2 k3 k5 k4' ((fr : Int), ((to - fr : Nat) : Int))) ∧ Ap H b H' b' := by
  have hin : (inb (i : Int) 4 && true) = true := by
    have : i = 0 ∨ i = 1 ∨ i = 2 ∨ i = 3 := by omega
    rcases this with rfl | rfl | rfl | rfl <;> rfl
  have g : decide ((i : Int) < 4) = true := by simp; omega
  have kp3 : ∀ (G : Heap) (x : List Blk), Kp No G (G ++ x) := fun G x => Kp.push _ _ _
  -- kinds
  have c1 : Heap.get (H ++ [Blk.row [Cell.int IntKind.u64 1, Cell.int IntKind.u64 9, Cell.int IntKind.u64 17, Cell.int IntKind.u64 23] false, Blk.hole, Blk.hole]) (List.length H + 0) (0 + ((i : Nat) : Int).toNat * 1) = some (.int .u64 (k1 : Int)) := tabU (l := [1, 9, 17, 23]) (by simp [EU]) g1
  have c2 : Heap.get (H ++ [Blk.row [Cell.int IntKind.u64 1, Cell.int IntKind.u64 9, Cell.int IntKind.u64 17, Cell.int IntKind.u64 23] false, Blk.row [Cell.int IntKind.u64 2, Cell.int IntKind.u64 3, Cell.int IntKind.u64 4, Cell.int IntKind.u64 3] false, Blk.hole]) (List.length H + 1) (0 + ((i : Nat) : Int).toNat * 1) = some (.int .u64 (k2 : Int)) := tabU (l := [2, 3, 4, 3]) (by simp [EU]) g2
  obtain ⟨b1, H1, r1, o1, p1⟩ := nums_at ho (kp3 H [Blk.row [Cell.int IntKind.u64 1, Cell.int IntKind.u64 9, Cell.int IntKind.u64 17, Cell.int IntKind.u64 23] false, Blk.row [Cell.int IntKind.u64 2, Cell.int IntKind.u64 3, Cell.int IntKind.u64 4, Cell.int IntKind.u64 3] false, Blk.row [Cell.int IntKind.u64 (k1 : Int), Cell.int IntKind.u64 (k2 : Int)] false]) (by omega) 4 (by omega) [k1, k2] (by intro v hv; simp at hv; omega) (by simp) 4 (H.length + 2) 2 (by omega) (by simp [EU]) rfl rfl
  have d1 : Heap.get (H1 ++ [Blk.row [Cell.int IntKind.i64 (sy : Int), Cell.int IntKind.i64 (tx : Int), Cell.int IntKind.i64 (rl : Int), Cell.int IntKind.i64 (la : Int)] false]) (List.length H1) (0 + ((i : Nat) : Int).toNat * 1) = some (.int .i64 (fr : Int)) := tabI (l := [sy, tx, rl, la]) (by simp [EI]) g3
  have hnl : IntKind.i64.wrap ((tx : Int) + slen w) = ((tx + nl : Nat) : Int) := by rw [hw, wrap_i64 (by omega) (by omega)]; omega
  have d2 : Heap.get (H1 ++ [Blk.row [Cell.int IntKind.i64 (sy : Int), Cell.int IntKind.i64 (tx : Int), Cell.int IntKind.i64 (rl : Int), Cell.int IntKind.i64 (la : Int)] false] ++ [Blk.row [Cell.int IntKind.i64 (tx : Int), Cell.int IntKind.i64 (IntKind.i64.wrap ((tx : Int) + slen w)), Cell.int IntKind.i64 (la : Int), Cell.int IntKind.i64 (en : Int)] false]) (List.length (H1 ++ [Blk.row [Cell.int IntKind.i64 (sy : Int), Cell.int IntKind.i64 (tx : Int), Cell.int IntKind.i64 (rl : Int), Cell.int IntKind.i64 (la : Int)] false])) (0 + ((i : Nat) : Int).toNat * 1) = some (.int .i64 (to : Int)) := tabI (l := [tx, tx + nl, la, en]) (by rw [push_get, hnl]; rfl) g4
  have l1 : ([k1, k2].flatMap (leB 4)).length = 8 := by simp [leB_length]
  have hfd : IntKind.u64.wrap (fr : Int) = ((fr : Nat) : Int) := u64_nat fr (by omega)
  have hdd : IntKind.u64.wrap (IntKind.i64.wrap ((to : Int) - (fr : Int))) = ((to - fr : Nat) : Int) := by rw [wrap_i64 (by omega) (by omega), wrap_u64]; omega
  have kq : Kp No H1 (H1 ++ [Blk.row [Cell.int IntKind.i64 (sy : Int), Cell.int IntKind.i64 (tx : Int), Cell.int IntKind.i64 (rl : Int), Cell.int IntKind.i64 (la : Int)] false] ++ [Blk.row [Cell.int IntKind.i64 (tx : Int), Cell.int IntKind.i64 (IntKind.i64.wrap ((tx : Int) + slen w)), Cell.int IntKind.i64 (la : Int), Cell.int IntKind.i64 (en : Int)] false] ++ [Blk.row [Cell.int IntKind.u64 0, Cell.int IntKind.u64 0, Cell.int IntKind.u64 (IntKind.u64.wrap (fr : Int)), Cell.int IntKind.u64 (IntKind.u64.wrap (IntKind.i64.wrap ((to : Int) - (fr : Int))))] false]) := ((kp3 _ _).tr (kp3 _ _)).tr (kp3 _ _)
  obtain ⟨b2, H2, r2, o2, p2⟩ := nums_at o1 kq (by rw [List.length_append, l1]; omega) 8 (by omega) [0, 0, fr, to - fr] (by intro v hv; simp at hv; omega) (by simp) 8 (List.length (H1 ++ [Blk.row [Cell.int IntKind.i64 (sy : Int), Cell.int IntKind.i64 (tx : Int), Cell.int IntKind.i64 (rl : Int), Cell.int IntKind.i64 (la : Int)] false] ++ [Blk.row [Cell.int IntKind.i64 (tx : Int), Cell.int IntKind.i64 (IntKind.i64.wrap ((tx : Int) + slen w)), Cell.int IntKind.i64 (la : Int), Cell.int IntKind.i64 (en : Int)] false])) 4 (by simp) (by rw [push_get, hfd, hdd]; rfl) rfl rfl
  have l2 : ([0, 0, fr, to - fr].flatMap (leB 8)).length = 32 := by simp [leB_length]
  have e1 : Heap.get (H2 ++ [Blk.row [Cell.int IntKind.u64 2, Cell.int IntKind.u64 0, Cell.int IntKind.u64 1, Cell.int IntKind.u64 0] false, Blk.hole, Blk.hole]) (List.length H2 + 0) (0 + ((i : Nat) : Int).toNat * 1) = some (.int .u64 (k3 : Int)) := tabU (l := [2, 0, 1, 0]) (by simp [EU]) g5
  have e2 : Heap.get (H2 ++ [Blk.row [Cell.int IntKind.u64 2, Cell.int IntKind.u64 0, Cell.int IntKind.u64 1, Cell.int IntKind.u64 0] false, Blk.row [Cell.int IntKind.u64 1, Cell.int IntKind.u64 0, Cell.int IntKind.u64 0, Cell.int IntKind.u64 0] false, Blk.hole]) (List.length H2 + 1) (0 + ((i : Nat) : Int).toNat * 1) = some (.int .u64 (k5 : Int)) := tabU (l := [1, 0, 0, 0]) (by simp [EU]) g6
  obtain ⟨b3, H3, r3, o3, p3⟩ := nums_at o2 (kp3 H2 [Blk.row [Cell.int IntKind.u64 2, Cell.int IntKind.u64 0, Cell.int IntKind.u64 1, Cell.int IntKind.u64 0] false, Blk.row [Cell.int IntKind.u64 1, Cell.int IntKind.u64 0, Cell.int IntKind.u64 0, Cell.int IntKind.u64 0] false, Blk.row [Cell.int IntKind.u64 (k3 : Int), Cell.int IntKind.u64 (k5 : Int)] false]) (by rw [List.length_append, List.length_append, l1, l2]; omega) 4 (by omega) [k3, k5] (by intro v hv; simp at hv; omega) (by simp) 4 (H2.length + 2) 2 (by omega) (by simp [EU]) rfl rfl
  have l3 : ([k3, k5].flatMap (leB 4)).length = 8 := by simp [leB_length]
  have q1 : Heap.get (H3 ++ [Blk.row [Cell.int IntKind.u64 24, Cell.int IntKind.u64 0, Cell.int IntKind.u64 24, Cell.int IntKind.u64 0] false]) (List.length H3) (0 + ((i : Nat) : Int).toNat * 1) = some (.int .u64 (k4' : Int)) := tabU (l := [24, 0, 24, 0]) (by rw [push_get]; rfl) g7
  obtain ⟨b4, H4, r4, o4, p4⟩ := nums_at o3 ((kp3 H3 [Blk.row [Cell.int IntKind.u64 24, Cell.int IntKind.u64 0, Cell.int IntKind.u64 24, Cell.int IntKind.u64 0] false]).tr (kp3 _ [Blk.row [Cell.int IntKind.u64 8, Cell.int IntKind.u64 (k4' : Int)] false])) (by rw [List.length_append, List.length_append, List.length_append, l1, l2, l3]; omega) 8 (by omega) [8, k4'] (by intro v hv; simp at hv; omega) (by simp) 8 (List.length (H3 ++ [Blk.row [Cell.int IntKind.u64 24, Cell.int IntKind.u64 0, Cell.int IntKind.u64 24, Cell.int IntKind.u64 0] false])) 2 (by simp) (by rw [push_get]; rfl) rfl rfl
  refine ⟨b4, H4, ?_, ?_, ((p1.tr p2).tr p3).tr p4⟩
  · rw [D27_29_s, g, ct, fill30, Ab.bs, hin, ct, c1, Ab.bs, tInt, Ab.bs, fill31, Ab.bs, ct, c2, Ab.bs, tInt, Ab.bs, fill32, Ab.bs, r1, Ab.bs]
    dsimp only
    rw [ct, d1, Ab.bs, tInt, Ab.bs, ct, d2, Ab.bs, tInt, Ab.bs, r2, Ab.bs]
    dsimp only
    rw [fill30, Ab.bs, ct, e1, Ab.bs, tInt, Ab.bs, fill31, Ab.bs, ct, e2, Ab.bs, tInt, Ab.bs, fill32, Ab.bs, r3, Ab.bs]
    dsimp only
    rw [ct, q1, Ab.bs, tInt, Ab.bs, r4, Ab.bs, i64_succ i (by omega)]
  · have : B ++ [k1, k2].flatMap (leB 4) ++ [0, 0, fr, to - fr].flatMap (leB 8) ++ [k3, k5].flatMap (leB 4) ++ [8, k4'].flatMap (leB 8) = B ++ secB k1 k2 k3 k5 k4' ((fr : Int), ((to - fr : Nat) : Int)) := by
      unfold secB
      simp only [Int.toNat_natCast, List.append_assoc]
    rw [← this]; exact o4
end
end Go.Proofs.Ytmjmhipfkbedaaa
