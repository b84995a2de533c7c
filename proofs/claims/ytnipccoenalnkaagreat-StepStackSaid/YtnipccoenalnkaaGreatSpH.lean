/- Layer 10: StepStack holds. -/
import Derived.Test.YtnipccoenalnkaaGreatSpG
namespace Go.Proofs.YtnipccoenalnkaaGreat
open Go Go.Proofs.YtnipccoenalnkaaGreat.Ab
set_option linter.unusedVariables false
set_option linter.unusedSimpArgs false
set_option maxRecDepth 100000
noncomputable section
theorem band15 (n : Int) : ∃ k : Nat, k < 16 ∧ band .i64 n 15 = (k : Int) := by
  refine ⟨(band .i64 n 15).toNat, ?_⟩
  have e : band .i64 n 15 = (n % 18446744073709551616) % 16 := by
    unfold band
    rw [BitVec.toNat_and]
    simp only [BitVec.toNat_ofInt, IntKind.bits]
    have e64 : ((2 ^ 64 : Nat) : Int) = 18446744073709551616 := rfl
    rw [e64]
    have h1 : ((15 : Int) % 18446744073709551616).toNat = 2 ^ 4 - 1 := by decide
    rw [h1, Nat.and_two_pow_sub_one_eq_mod]
    have h2 : (n % 18446744073709551616).toNat % 2 ^ 4 < 2 ^ 4 := Nat.mod_lt _ (by decide)
    rw [wrap_i64 (by omega) (by omega)]
    omega
  rw [e]; omega
theorem upd_back {r : Nat → Int} (h : u64p (r 4)) : upd (upd r 4 (IntKind.u64.wrap (r 4 - 8))) 4 (IntKind.u64.wrap (IntKind.u64.wrap (r 4 - 8) + 8)) = r := by
  have e : IntKind.u64.wrap (IntKind.u64.wrap (r 4 - 8) + 8) = r 4 := by unfold u64p at h; rw [wrap_u64, wrap_u64]; omega
  rw [e]
  funext j
  unfold upd
  split
  · rename_i h; rw [h]
  · rfl
theorem u5 : IntKind.u64.wrap 5 = 5 := by decide
theorem cp_reg (x : Cp) : ∀ k, k < 16 → x.row[k]? = some (.int .u64 (x.r k))
  | 0, _ => rfl
  | 1, _ => rfl
  | 2, _ => rfl
  | 3, _ => rfl
  | 4, _ => rfl
  | 5, _ => rfl
  | 6, _ => rfl
  | 7, _ => rfl
  | 8, _ => rfl
  | 9, _ => rfl
  | 10, _ => rfl
  | 11, _ => rfl
  | 12, _ => rfl
  | 13, _ => rfl
  | 14, _ => rfl
  | 15, _ => rfl
  | k + 16, h => by omega
theorem f3_x (l : Option Sl) (zs : List Ar) (hz : zs.length ≤ 9223372036854775807) (ops : Option Sl) (xs : List Cal) (hx : xs.length ≤ 9223372036854775807) (hxw : ∀ x, x ∈ xs → x.Wf) (x : Cp) (hu : ∀ k, u64p (x.r k)) (mine : Bool) (r q off : Int) (H : Heap) (hR : RS 5 E5 H l zs) (hX : ∀ x, x ∈ zs → RS 1 E8 H x.sl x.data) (hS : RS 7 E7 H ops xs) :
    ∃ H', f3 (x.r 0) (x.r 1) (x.r 2) (x.r 3) (x.r 4) (x.r 5) (x.r 6) (x.r 7) (x.r 8) (x.r 9) (x.r 10) (x.r 11) (x.r 12) (x.r 13) (x.r 14) (x.r 15) x.C x.O x.res x.ip l ops mine r q off H = some (true, H') := by
  obtain ⟨M, qq, c, N, L, H1, e8, hM, hf, hN⟩ := f8_x l zs hz ops xs hx hxw (x.r 0) (x.r 1) (x.r 2) (x.r 3) (x.r 4) (x.r 5) (x.r 6) (x.r 7) (x.r 8) (x.r 9) (x.r 10) (x.r 11) (x.r 12) (x.r 13) (x.r 14) (x.r 15) x.C x.O x.res x.ip mine H hR hX hS
  obtain ⟨k, hk, hkr⟩ := band15 r
  obtain ⟨j, hj, hjq⟩ := band15 q
  have hoff : -1000 < off.tmod 1000 ∧ off.tmod 1000 < 1000 := by
    have h1 := Int.tmod_lt_of_pos off (show (0 : Int) < 1000 by decide)
    have h2 := Int.lt_tmod_of_pos off (show (0 : Int) < 1000 by decide)
    omega
  have kP : Kp No H1 (H1 ++ [Blk.row x.row false]) := Kp.push1 _ _
  have C2 : CAt (H1 ++ [Blk.row x.row false]) M.b L N H1.length x M c := ⟨push_get _ _, hM.no kP, hf, fun g => by have := hM.lt g; omega, hu, rfl⟩
  have e9 : f9 (x.r 0) (x.r 1) (x.r 2) (x.r 3) (x.r 4) (x.r 5) (x.r 6) (x.r 7) (x.r 8) (x.r 9) (x.r 10) (x.r 11) (x.r 12) (x.r 13) (x.r 14) (x.r 15) x.C x.O x.res x.ip H1 = some (some (H1.length, 0), H1 ++ [Blk.row x.row false]) := by rw [q9]; rfl
  have e11 : ∀ (n : Int) (G : Heap), f11 n G = some ((1, n, 0, 0, 0, 0), G) := fun n G => q11 n G
  generalize H1 ++ [Blk.row x.row false] = H2 at *
  generalize hcid : H1.length = cid at *
  have hk1 : inb (k : Int) 16 = true := inb16 hk
  have hj1 : inb (j : Int) 16 = true := inb16 hj
  cases hm : mayA c.ars 0 (IntKind.u64.wrap (x.r 4 - 8)) 8 true with
  | false =>
    obtain ⟨M3, H3, p1, C3⟩ := (push_x C2 (by omega) k hk).1 hm
    refine ⟨H3, ?_⟩
    rw [q3, hkr, hjq]
    refine bnd e8 ?_
    refine bnd e9 ?_
    refine bnd (f10_x C2) ?_
    refine bnd (e11 _ _) ?_
    refine bnd (e11 _ _) ?_
    refine bnd p1 ?_
    refine cdt rfl ?_
    refine bnd (f10_x C3) ?_
    refine cdt (by simp only [Cp.tup, beq_self_eq_true, Bool.and_self, Bool.and_true]) ?_
    rfl
  | true =>
    obtain ⟨M3, H3, p1, C3⟩ := (push_x C2 (by omega) k hk).2 hm
    have lb := load_back C2.fit (u64w (x.r 4 - 8)) (hu k) hm
    obtain ⟨M4, H4, p2, C4⟩ := pop_x C3 (by omega) j hj (hu k) lb
    dsimp only at C4
    rw [show upd x.r 4 (IntKind.u64.wrap (x.r 4 - 8)) 4 = IntKind.u64.wrap (x.r 4 - 8) from rfl, upd_back (hu 4)] at C4
    obtain ⟨x2, hx2⟩ : ∃ x2 : Cp, x2 = ⟨upd x.r j (x.r k), x.C, x.O, x.res, IntKind.u64.wrap (IntKind.u64.wrap (x.ip + IntKind.u64.wrap 1) + IntKind.u64.wrap 1)⟩ := ⟨_, rfl⟩
    rw [← hx2] at C4
    generalize hc1 : (storeC c 0 (IntKind.u64.wrap (x.r 4 - 8)) 8 (x.r k)).2 = c1 at *
    have gj : H4.get cid (0 + 0 + (j : Int).toNat * 1) = some (.int .u64 (x2.r j)) := by
      rw [get_of C4.cpu, show 0 + 0 + (j : Int).toNat * 1 = j by simp]; exact cp_reg x2 j hj
    have gk : x.row[0 + (k : Int).toNat * 1]? = some (.int .u64 (x.r k)) := by
      rw [show 0 + (k : Int).toNat * 1 = k by simp]; exact cp_reg x k hk
    have ej : (x2.r j != x.r k) = false := by rw [hx2]; simp [upd]
    have i2 : H4.get cid (0 + 19) = some (.int .u64 x2.ip) := (get_of C4.cpu _).trans rfl
    have hip : (x2.ip != IntKind.u64.wrap (x.ip + 2)) = false := by
      have : x2.ip = IntKind.u64.wrap (x.ip + 2) := by rw [hx2]; simp only [wrap_u64]; omega
      rw [this]; exact bne_self_eq_false _
    have h4 : j ≠ 4 → (x2.r 4 != x.r 4) = false := fun h => by rw [hx2]; simp [upd]; intro e; exact absurd e.symm h
    have g4 : H4.get cid (0 + 0 + 4) = some (.int .u64 (x2.r 4)) := (get_of C4.cpu _).trans rfl
    have n4 : ((j : Int) != 4) = !decide (j = 4) := by
      by_cases h : j = 4
      · subst h; rfl
      · simp [h]; omega
    cases hm2 : mayA c1.ars 0 (IntKind.u64.wrap (x2.r 4 - 8)) 8 true with
    | false =>
      obtain ⟨M5, H5, p3, C5⟩ := (call_x C4 (by omega) (off.tmod 1000) hoff).1 hm2
      refine ⟨H5, ?_⟩
      rw [q3, hkr, hjq]
      by_cases e4 : j = 4
      · have n4 : ((j : Int) != 4) = false := by rw [n4]; simp [e4]
        refine bnd e8 ?_
        refine bnd e9 ?_
        refine bnd (f10_x C2) ?_
        refine bnd (e11 _ _) ?_
        refine bnd (e11 _ _) ?_
        refine bnd p1 ?_
        refine cdf rfl ?_
        refine bnd p2 ?_
        refine cdf rfl ?_
        refine bnd rfl ?_
        refine cdt hj1 ?_
        refine bnd gj ?_
        refine bnd (tInt _ _) ?_
        refine cdt hk1 ?_
        refine bnd gk ?_
        refine bnd (tInt _ _) ?_
        refine cdf ej ?_
        refine cdf n4 ?_
        refine bnd rfl ?_
        refine bnd i2 ?_
        refine bnd (tInt _ _) ?_
        refine cdf hip ?_
        refine bnd (f10_x C4) ?_
        refine bnd p3 ?_
        refine cdt rfl ?_
        refine bnd (f10_x C5) ?_
        refine cdt (by simp only [Cp.tup, beq_self_eq_true, Bool.and_self, Bool.and_true]) ?_
        rfl
      · have n4 : ((j : Int) != 4) = true := by rw [n4]; simp [e4]
        have h4 := h4 e4
        refine bnd e8 ?_
        refine bnd e9 ?_
        refine bnd (f10_x C2) ?_
        refine bnd (e11 _ _) ?_
        refine bnd (e11 _ _) ?_
        refine bnd p1 ?_
        refine cdf rfl ?_
        refine bnd p2 ?_
        refine cdf rfl ?_
        refine bnd rfl ?_
        refine cdt hj1 ?_
        refine bnd gj ?_
        refine bnd (tInt _ _) ?_
        refine cdt hk1 ?_
        refine bnd gk ?_
        refine bnd (tInt _ _) ?_
        refine cdf ej ?_
        refine cdt n4 ?_
        refine bnd rfl ?_
        refine bnd g4 ?_
        refine bnd (tInt _ _) ?_
        refine cdf h4 ?_
        refine bnd rfl ?_
        refine bnd i2 ?_
        refine bnd (tInt _ _) ?_
        refine cdf hip ?_
        refine bnd (f10_x C4) ?_
        refine bnd p3 ?_
        refine cdt rfl ?_
        refine bnd (f10_x C5) ?_
        refine cdt (by simp only [Cp.tup, beq_self_eq_true, Bool.and_self, Bool.and_true]) ?_
        rfl
    | true =>
      obtain ⟨M5, H5, p3, C5⟩ := (call_x C4 (by omega) (off.tmod 1000) hoff).2 hm2
      have lb2 := load_back C4.fit (u64w (x2.r 4 - 8)) (u64w (x2.ip + IntKind.u64.wrap 5)) hm2
      obtain ⟨M6, H6, p4, C6⟩ := ret_x C5 (by omega) lb2
      dsimp only at C6
      rw [show upd x2.r 4 (IntKind.u64.wrap (x2.r 4 - 8)) 4 = IntKind.u64.wrap (x2.r 4 - 8) from rfl, upd_back (C4.u 4)] at C6
      have j5 : H5.get cid (0 + 19) = some (.int .u64 (IntKind.u64.wrap (IntKind.u64.wrap (x2.ip + IntKind.u64.wrap 5) + IntKind.u64.wrap (off.tmod 1000)))) := (get_of C5.cpu _).trans rfl
      have j6 : H6.get cid (0 + 19) = some (.int .u64 (IntKind.u64.wrap (x2.ip + IntKind.u64.wrap 5))) := (get_of C6.cpu _).trans rfl
      have k0 : H6.get cid (0 + 0) = some (.int .u64 (x2.r 0)) := (get_of C6.cpu _).trans rfl
      have k1 : H6.get cid (0 + 0 + 1) = some (.int .u64 (x2.r 1)) := (get_of C6.cpu _).trans rfl
      have k2 : H6.get cid (0 + 0 + 1 + 1) = some (.int .u64 (x2.r 2)) := (get_of C6.cpu _).trans rfl
      have k3 : H6.get cid (0 + 0 + 1 + 1 + 1) = some (.int .u64 (x2.r 3)) := (get_of C6.cpu _).trans rfl
      have k4 : H6.get cid (0 + 0 + 1 + 1 + 1 + 1) = some (.int .u64 (x2.r 4)) := (get_of C6.cpu _).trans rfl
      have k5 : H6.get cid (0 + 0 + 1 + 1 + 1 + 1 + 1) = some (.int .u64 (x2.r 5)) := (get_of C6.cpu _).trans rfl
      have k6 : H6.get cid (0 + 0 + 1 + 1 + 1 + 1 + 1 + 1) = some (.int .u64 (x2.r 6)) := (get_of C6.cpu _).trans rfl
      have k7 : H6.get cid (0 + 0 + 1 + 1 + 1 + 1 + 1 + 1 + 1) = some (.int .u64 (x2.r 7)) := (get_of C6.cpu _).trans rfl
      have k8 : H6.get cid (0 + 0 + 1 + 1 + 1 + 1 + 1 + 1 + 1 + 1) = some (.int .u64 (x2.r 8)) := (get_of C6.cpu _).trans rfl
      have k9 : H6.get cid (0 + 0 + 1 + 1 + 1 + 1 + 1 + 1 + 1 + 1 + 1) = some (.int .u64 (x2.r 9)) := (get_of C6.cpu _).trans rfl
      have k10 : H6.get cid (0 + 0 + 1 + 1 + 1 + 1 + 1 + 1 + 1 + 1 + 1 + 1) = some (.int .u64 (x2.r 10)) := (get_of C6.cpu _).trans rfl
      have k11 : H6.get cid (0 + 0 + 1 + 1 + 1 + 1 + 1 + 1 + 1 + 1 + 1 + 1 + 1) = some (.int .u64 (x2.r 11)) := (get_of C6.cpu _).trans rfl
      have k12 : H6.get cid (0 + 0 + 1 + 1 + 1 + 1 + 1 + 1 + 1 + 1 + 1 + 1 + 1 + 1) = some (.int .u64 (x2.r 12)) := (get_of C6.cpu _).trans rfl
      have k13 : H6.get cid (0 + 0 + 1 + 1 + 1 + 1 + 1 + 1 + 1 + 1 + 1 + 1 + 1 + 1 + 1) = some (.int .u64 (x2.r 13)) := (get_of C6.cpu _).trans rfl
      have k14 : H6.get cid (0 + 0 + 1 + 1 + 1 + 1 + 1 + 1 + 1 + 1 + 1 + 1 + 1 + 1 + 1 + 1) = some (.int .u64 (x2.r 14)) := (get_of C6.cpu _).trans rfl
      have k15 : H6.get cid (0 + 0 + 1 + 1 + 1 + 1 + 1 + 1 + 1 + 1 + 1 + 1 + 1 + 1 + 1 + 1 + 1) = some (.int .u64 (x2.r 15)) := (get_of C6.cpu _).trans rfl
      refine ⟨H6, ?_⟩
      rw [q3, hkr, hjq]
      by_cases e4 : j = 4
      · have n4 : ((j : Int) != 4) = false := by rw [n4]; simp [e4]
        refine bnd e8 ?_
        refine bnd e9 ?_
        refine bnd (f10_x C2) ?_
        refine bnd (e11 _ _) ?_
        refine bnd (e11 _ _) ?_
        refine bnd p1 ?_
        refine cdf rfl ?_
        refine bnd p2 ?_
        refine cdf rfl ?_
        refine bnd rfl ?_
        refine cdt hj1 ?_
        refine bnd gj ?_
        refine bnd (tInt _ _) ?_
        refine cdt hk1 ?_
        refine bnd gk ?_
        refine bnd (tInt _ _) ?_
        refine cdf ej ?_
        refine cdf n4 ?_
        refine bnd rfl ?_
        refine bnd i2 ?_
        refine bnd (tInt _ _) ?_
        refine cdf hip ?_
        refine bnd (f10_x C4) ?_
        refine bnd p3 ?_
        refine cdf rfl ?_
        refine bnd rfl ?_
        refine bnd j5 ?_
        refine bnd (tInt _ _) ?_
        refine cdf (by rw [u5]; exact bne_self_eq_false _) ?_
        refine bnd p4 ?_
        refine cdt rfl ?_
        refine bnd rfl ?_
        refine bnd j6 ?_
        refine bnd (tInt _ _) ?_
        refine cdt (by rw [u5]; exact beq_self_eq_true _) ?_
        refine bnd rfl ?_
        refine bnd k0 ?_
        refine bnd k1 ?_
        refine bnd k2 ?_
        refine bnd k3 ?_
        refine bnd k4 ?_
        refine bnd k5 ?_
        refine bnd k6 ?_
        refine bnd k7 ?_
        refine bnd k8 ?_
        refine bnd k9 ?_
        refine bnd k10 ?_
        refine bnd k11 ?_
        refine bnd k12 ?_
        refine bnd k13 ?_
        refine bnd k14 ?_
        refine bnd k15 ?_
        refine bnd (tInt _ _) ?_
        refine bnd (tInt _ _) ?_
        refine bnd (tInt _ _) ?_
        refine bnd (tInt _ _) ?_
        refine bnd (tInt _ _) ?_
        refine bnd (tInt _ _) ?_
        refine bnd (tInt _ _) ?_
        refine bnd (tInt _ _) ?_
        refine bnd (tInt _ _) ?_
        refine bnd (tInt _ _) ?_
        refine bnd (tInt _ _) ?_
        refine bnd (tInt _ _) ?_
        refine bnd (tInt _ _) ?_
        refine bnd (tInt _ _) ?_
        refine bnd (tInt _ _) ?_
        refine bnd (tInt _ _) ?_
        refine cdt (by simp only [Cp.tup, beq_self_eq_true, Bool.and_self, Bool.and_true]) ?_
        rfl
      · have n4 : ((j : Int) != 4) = true := by rw [n4]; simp [e4]
        have h4 := h4 e4
        refine bnd e8 ?_
        refine bnd e9 ?_
        refine bnd (f10_x C2) ?_
        refine bnd (e11 _ _) ?_
        refine bnd (e11 _ _) ?_
        refine bnd p1 ?_
        refine cdf rfl ?_
        refine bnd p2 ?_
        refine cdf rfl ?_
        refine bnd rfl ?_
        refine cdt hj1 ?_
        refine bnd gj ?_
        refine bnd (tInt _ _) ?_
        refine cdt hk1 ?_
        refine bnd gk ?_
        refine bnd (tInt _ _) ?_
        refine cdf ej ?_
        refine cdt n4 ?_
        refine bnd rfl ?_
        refine bnd g4 ?_
        refine bnd (tInt _ _) ?_
        refine cdf h4 ?_
        refine bnd rfl ?_
        refine bnd i2 ?_
        refine bnd (tInt _ _) ?_
        refine cdf hip ?_
        refine bnd (f10_x C4) ?_
        refine bnd p3 ?_
        refine cdf rfl ?_
        refine bnd rfl ?_
        refine bnd j5 ?_
        refine bnd (tInt _ _) ?_
        refine cdf (by rw [u5]; exact bne_self_eq_false _) ?_
        refine bnd p4 ?_
        refine cdt rfl ?_
        refine bnd rfl ?_
        refine bnd j6 ?_
        refine bnd (tInt _ _) ?_
        refine cdt (by rw [u5]; exact beq_self_eq_true _) ?_
        refine bnd rfl ?_
        refine bnd k0 ?_
        refine bnd k1 ?_
        refine bnd k2 ?_
        refine bnd k3 ?_
        refine bnd k4 ?_
        refine bnd k5 ?_
        refine bnd k6 ?_
        refine bnd k7 ?_
        refine bnd k8 ?_
        refine bnd k9 ?_
        refine bnd k10 ?_
        refine bnd k11 ?_
        refine bnd k12 ?_
        refine bnd k13 ?_
        refine bnd k14 ?_
        refine bnd k15 ?_
        refine bnd (tInt _ _) ?_
        refine bnd (tInt _ _) ?_
        refine bnd (tInt _ _) ?_
        refine bnd (tInt _ _) ?_
        refine bnd (tInt _ _) ?_
        refine bnd (tInt _ _) ?_
        refine bnd (tInt _ _) ?_
        refine bnd (tInt _ _) ?_
        refine bnd (tInt _ _) ?_
        refine bnd (tInt _ _) ?_
        refine bnd (tInt _ _) ?_
        refine bnd (tInt _ _) ?_
        refine bnd (tInt _ _) ?_
        refine bnd (tInt _ _) ?_
        refine bnd (tInt _ _) ?_
        refine bnd (tInt _ _) ?_
        refine cdt (by simp only [Cp.tup, beq_self_eq_true, Bool.and_self, Bool.and_true]) ?_
        rfl
end
end Go.Proofs.YtnipccoenalnkaaGreat
