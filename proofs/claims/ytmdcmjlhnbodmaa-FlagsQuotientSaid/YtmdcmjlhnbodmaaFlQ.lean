/- Plain: the reference's Quotient is the program's. -/
import Derived.Test.YtmdcmjlhnbodmaaFlR4
namespace Go.Proofs.Ytmdcmjlhnbodmaa
open Go Go.Proofs.Ytmdcmjlhnbodmaa.Ab
set_option maxRecDepth 100000

/-- A width of half a word at most: its size. -/
structure Wid (w : Int) (n M : Nat) : Prop where
  is : bits_Is w = true
  is2 : bits_Is (2 * w) = true
  n8 : 8 * w.toNat = n
  n16 : 8 * (2 * w).toNat = 2 * n
  pow : 2 ^ n = M
  w8 : 8 * w = (n : Int)
  cases' : (n = 8 ∧ M = 256) ∨ (n = 16 ∧ M = 65536) ∨ (n = 32 ∧ M = 4294967296)
theorem wid_of {w : Int} (h : bits_Is w = true) (h8 : (w == 8) = false) : ∃ n M, Wid w n M := by
  rcases is_w h with rfl | rfl | rfl | rfl
  · exact ⟨8, 256, rfl, rfl, rfl, rfl, rfl, rfl, .inl ⟨rfl, rfl⟩⟩
  · exact ⟨16, 65536, rfl, rfl, rfl, rfl, rfl, rfl, .inr (.inl ⟨rfl, rfl⟩)⟩
  · exact ⟨32, 4294967296, rfl, rfl, rfl, rfl, rfl, rfl, .inr (.inr ⟨rfl, rfl⟩)⟩
  · cases h8
theorem Wid.zx {w : Int} {n M : Nat} (h : Wid w n M) (v : Nat) : bits_Zx (v : Int) w = ((v % M : Nat) : Int) := by
  rw [zx_is h.is, h.n8]
  have := h.pow
  rw [show ((2 : Int) ^ n) = ((2 ^ n : Nat) : Int) by simp, this]; omega
theorem Wid.zx2 {w : Int} {n M : Nat} (h : Wid w n M) (v : Nat) : bits_Zx (v : Int) (2 * w) = ((v % (M * M) : Nat) : Int) := by
  rw [zx_is h.is2, h.n16, show 2 * n = n + n by omega]
  have := h.pow
  rw [show ((2 : Int) ^ (n + n)) = ((2 ^ n * 2 ^ n : Nat) : Int) by rw [← Nat.pow_add]; simp, this]; omega
theorem Wid.wide {w : Int} {n M : Nat} (h : Wid w n M) (a b : Nat) (ha : a < M) (hb : b < M) : ishl .u64 (a : Int) (8 * w) = ((a * M : Nat) : Int) ∧ bor .u64 ((a * M : Nat) : Int) (b : Int) = ((a * M + b : Nat) : Int) ∧ a * M + b < M * M ∧ M * M ≤ 18446744073709551616 := by
  have hp := h.pow
  have hmm : a * M + b < M * M := by
    have : a * M + M ≤ M * M := by
      rw [← Nat.succ_mul]; exact Nat.mul_le_mul_right M ha
    omega
  have h64 : M * M ≤ 18446744073709551616 := by rcases h.cases' with ⟨_, rfl⟩ | ⟨_, rfl⟩ | ⟨_, rfl⟩ <;> decide
  have hn : n ≤ 64 := by rcases h.cases' with ⟨rfl, _⟩ | ⟨rfl, _⟩ | ⟨rfl, _⟩ <;> decide
  refine ⟨?_, ?_, hmm, h64⟩
  · rw [h.w8, ishl_nat a n hn, hp, Nat.mod_eq_of_lt (by omega)]
  · rw [bor_nat (by show _ < 18446744073709551616; omega) (by show _ < 18446744073709551616; have : M ≤ M * M := Nat.le_mul_of_pos_left M (by omega); omega)]
    rw [← hp, Nat.mul_comm, Nat.two_pow_add_eq_or_of_lt (by rw [hp]; exact hb)]
theorem fits_nat {n : Nat} (hn : n = 8 ∨ n = 16 ∨ n = 32) (q : Int) (h1 : -9223372036854775808 ≤ q) (h2 : q < 9223372036854775808) : bits_Fits q (n : Int) = decide (-(2 ^ (n - 1) : Int) ≤ q ∧ q < 2 ^ (n - 1)) := by
  unfold bits_Fits ishr ishl
  rcases hn with rfl | rfl | rfl
  all_goals
    rw [Bool.eq_iff_iff]
    simp [IntKind.wrap, IntKind.bits, IntKind.signed, Int.fdiv_eq_ediv_of_nonneg]
    omega
theorem Wid.neg {w : Int} {n M : Nat} (h : Wid w n M) (v : Nat) : R1_Neg (v : Int) w = decide (M / 2 ≤ v % M) := by
  have hp := h.pow
  have hn : 0 < n := by rcases h.cases' with ⟨rfl, _⟩ | ⟨rfl, _⟩ | ⟨rfl, _⟩ <;> decide
  have h2 : M / 2 = 2 ^ (n - 1) := by
    rw [← hp, show n = n - 1 + 1 by omega, Nat.pow_succ]; simp
  rw [neg_ref _ _ (by omega), neg_nat h.is, h.n8, h2, ← hp]
  have e : v.testBit (n - 1) = (v % 2 ^ n).testBit (n - 1) := by rw [Nat.testBit_mod_two_pow]; simp; omega
  rw [e, testBit_top (by rw [show n - 1 + 1 = n by omega]; exact Nat.mod_lt _ (Nat.two_pow_pos n))]
/-- A number with a sign. -/
def sv (n : Nat) (x : Int) : Int := bif decide (x < 2 ^ (n - 1)) then x else x - 2 ^ n
theorem sx_sv {w : Int} (h : bits_Is w = true) (v : Int) : IntKind.i64.wrap (bits_Sx v w) = sv (8 * w.toNat) (v % 2 ^ (8 * w.toNat)) := by
  rw [sx_eq h]
  unfold sv
  rcases is_w h with rfl | rfl | rfl | rfl <;> simp only [IntKind.wrap, IntKind.bits, IntKind.signed, cond_eq_ite, decide_eq_true_eq] <;> simp <;> split <;> (try split) <;> omega
theorem signed_div (V D : Nat) (nv nd : Bool) : (bif nv then -(V : Int) else V).tdiv (bif nd then -(D : Int) else D) = (bif !(nv == nd) then -((V / D : Nat) : Int) else ((V / D : Nat) : Int)) ∧
    (bif nv then -(V : Int) else V).tmod (bif nd then -(D : Int) else D) = (bif nv then -((V % D : Nat) : Int) else ((V % D : Nat) : Int)) := by
  have hq : ((V : Int)).tdiv (D : Int) = ((V / D : Nat) : Int) := rfl
  have hr : ((V : Int)).tmod (D : Int) = ((V % D : Nat) : Int) := rfl
  cases nv <;> cases nd <;> simp only [ct, cf, Int.neg_tdiv, Int.tdiv_neg, Int.neg_tmod, Int.tmod_neg, hq, hr, Int.neg_neg] <;> (constructor <;> first | rfl | trivial)
theorem zx_int {w : Int} {n M : Nat} (h : Wid w n M) (v : Int) : bits_Zx v w = v % (M : Int) := by
  rw [zx_is h.is, h.n8]
  have := h.pow
  rw [show ((2 : Int) ^ n) = ((2 ^ n : Nat) : Int) by simp, this]
theorem core {w : Int} {n M : Nat} (W : Wid w n M) (V D : Nat) (hV : V ≤ M * M / 2) (hD : 0 < D) (hDM : D ≤ M / 2 ∨ V % D < M / 2) (nv nd : Bool) :
    quoB V D true nv nd w = xflag_divided (bif nv then -(V : Int) else V) (bif nd then -(D : Int) else D) w := by
  obtain ⟨e1, e2⟩ := signed_div V D nv nd
  have hw8 : IntKind.i64.wrap (8 * w) = (n : Int) := by rw [(is_8w W.is).1, W.w8]
  have hmax : R1_Zx 18446744073709551615 w = ((M - 1 : Nat) : Int) := by
    rw [zx_ref _ w (by decide), show (18446744073709551615 : Int) = ((18446744073709551615 : Nat) : Int) from rfl, W.zx]
    rcases W.cases' with ⟨_, rfl⟩ | ⟨_, rfl⟩ | ⟨_, rfl⟩ <;> rfl
  have hq : ((V : Int)).tdiv (D : Int) = ((V / D : Nat) : Int) := rfl
  have hr : ((V : Int)).tmod (D : Int) = ((V % D : Nat) : Int) := rfl
  have hvq : V / D ≤ V := Nat.div_le_self V D
  have hrD := Nat.mod_lt V hD
  have hVD : V = 9223372036854775808 → D = 1 → V / D = 9223372036854775808 := fun a b => by subst b; rw [a]
  unfold quoB qEnd qMost xflag_divided
  rw [e1, e2, hw8, hmax, hq, hr]
  have hrM : V % D < M / 2 := by rcases hDM with h | h <;> omega
  generalize V / D = q at *
  generalize V % D = r at *
  have hb : M * M / 2 ≤ 9223372036854775808 := by rcases W.cases' with ⟨_, rfl⟩ | ⟨_, rfl⟩ | ⟨_, rfl⟩ <;> decide
  have hz : ∀ x : Int, 0 ≤ x → R1_Zx x w = x % (M : Int) := fun x hx => by rw [zx_ref x w hx, zx_int W]
  have hu : IntKind.u64.wrap (q : Int) = (q : Int) := wrapU_nat q (by omega)
  have hm : (((M - 1 : Nat) : Int)).tdiv 2 = ((M / 2 - 1 : Nat) : Int) := by
    show (((M - 1) / 2 : Nat) : Int) = _
    rcases W.cases' with ⟨_, rfl⟩ | ⟨_, rfl⟩ | ⟨_, rfl⟩ <;> rfl
  have hm1 : IntKind.u64.wrap ((M / 2 - 1 : Nat) : Int) = ((M / 2 - 1 : Nat) : Int) := wrapU_nat _ (by rcases W.cases' with ⟨_, rfl⟩ | ⟨_, rfl⟩ | ⟨_, rfl⟩ <;> decide)
  have hm2 : IntKind.u64.wrap (((M / 2 - 1 : Nat) : Int) + 1) = ((M / 2 : Nat) : Int) := by
    rw [wrap_u64]; rcases W.cases' with ⟨_, rfl⟩ | ⟨_, rfl⟩ | ⟨_, rfl⟩ <;> rfl
  rw [hu, hm, hm1, hm2]
  have hzx : ∀ x : Int, bits_Zx x w = x % (M : Int) := zx_int W
  have hn : n = 8 ∨ n = 16 ∨ n = 32 := by rcases W.cases' with ⟨h, _⟩ | ⟨h, _⟩ | ⟨h, _⟩ <;> simp [h]
  have hpn : ((2 : Int) ^ (n - 1)) = ((M / 2 : Nat) : Int) := by rcases W.cases' with ⟨rfl, rfl⟩ | ⟨rfl, rfl⟩ | ⟨rfl, rfl⟩ <;> rfl
  have hdvd : ((M : Nat) : Int) ∣ 18446744073709551616 := by rcases W.cases' with ⟨_, rfl⟩ | ⟨_, rfl⟩ | ⟨_, rfl⟩ <;> decide
  have hneg : ∀ k : Nat, R1_Zx (IntKind.u64.wrap (0 - (k : Int))) w = bits_Zx (IntKind.u64.wrap (-(k : Int))) w := fun k => by
    rw [hz _ (by rw [wrap_u64]; omega), hzx, Int.zero_sub]
  have hzr : ∀ x : Int, bits_Zx (IntKind.u64.wrap x) w = bits_Zx x w := fun x => by
    rw [hzx, hzx, wrap_u64, Int.emod_emod_of_dvd x hdvd]
  have hzi : ∀ x : Int, bits_Zx (IntKind.i64.wrap x) w = bits_Zx x w := fun x => by
    rw [hzx, hzx]
    have hk : ∃ k : Int, IntKind.i64.wrap x = x + k * 18446744073709551616 := by
      refine ⟨(IntKind.i64.wrap x - x) / 18446744073709551616, ?_⟩
      simp only [IntKind.wrap, IntKind.bits, IntKind.signed]
      simp
      split <;> omega
    obtain ⟨k, hk⟩ := hk
    obtain ⟨c, hc⟩ := hdvd
    rw [hk, hc, ← Int.mul_assoc, Int.mul_comm k, Int.mul_assoc, Int.add_mul_emod_self_left]
  cases hx : (nv == nd)
  · simp only [Bool.not_false, ct]
    by_cases hle : q ≤ M / 2
    · have t1 : decide ((q : Int) > ((M / 2 : Nat) : Int)) = false := by simp; omega
      have t2 : IntKind.i64.wrap (-(q : Int)) = -(q : Int) := wrap_i64 (by omega) (by omega)
      have t3 : bits_Fits (-(q : Int)) (n : Int) = true := by rw [fits_nat hn _ (by omega) (by omega), hpn]; simp; omega
      have t4 : ((bif nv then -(V : Int) else V) == -9223372036854775808 && (bif nd then -(D : Int) else D) == -1) = false := by
        have hM4 : M / 2 < 9223372036854775808 := by rcases W.cases' with ⟨_, rfl⟩ | ⟨_, rfl⟩ | ⟨_, rfl⟩ <;> decide
        rw [Bool.and_eq_false_iff]
        cases nv <;> cases nd <;> simp at hx ⊢ <;> omega
      rw [t1, t2, t3, t4, hneg, hzr, hzr]
      simp only [cf, Bool.not_true]
      cases nv
      · simp only [cf]; rw [hz _ (by omega), hzx (r : Int)]
      · simp only [ct]; rw [hneg, hzr]
    · have t1 : decide ((q : Int) > ((M / 2 : Nat) : Int)) = true := by simp; omega
      have t3 : bits_Fits (IntKind.i64.wrap (-(q : Int))) (n : Int) = false := by
        rw [wrap_i64 (by omega) (by omega), fits_nat hn _ (by omega) (by omega), hpn]; simp; omega
      rw [t1, t3]; rfl
  · simp only [Bool.not_true, cf, ct]
    by_cases hle : q ≤ M / 2 - 1
    · have hM2 : 0 < M / 2 := by rcases W.cases' with ⟨_, rfl⟩ | ⟨_, rfl⟩ | ⟨_, rfl⟩ <;> decide
      have hM4 : M / 2 < 9223372036854775808 := by rcases W.cases' with ⟨_, rfl⟩ | ⟨_, rfl⟩ | ⟨_, rfl⟩ <;> decide
      have t1 : decide ((q : Int) > ((M / 2 - 1 : Nat) : Int)) = false := by simp; omega
      have t2 : IntKind.i64.wrap (q : Int) = (q : Int) := wrap_i64 (by omega) (by omega)
      have t3 : bits_Fits (q : Int) (n : Int) = true := by rw [fits_nat hn _ (by omega) (by omega), hpn]; simp; omega
      have t4 : ((bif nv then -(V : Int) else V) == -9223372036854775808 && (bif nd then -(D : Int) else D) == -1) = false := by
        rw [Bool.and_eq_false_iff]
        cases nv <;> cases nd <;> simp at hx ⊢ <;> omega
      rw [t1, t2, t3, t4, hz _ (by omega), hzr, hzr, hzx]
      simp only [cf, Bool.not_true]
      cases nv
      · simp only [cf]; rw [hz _ (by omega), hzx (r : Int)]
      · simp only [ct]; rw [hneg, hzr]
    · have hM4 : M / 2 < 9223372036854775808 := by rcases W.cases' with ⟨_, rfl⟩ | ⟨_, rfl⟩ | ⟨_, rfl⟩ <;> decide
      have t1 : decide ((q : Int) > ((M / 2 - 1 : Nat) : Int)) = true := by simp; omega
      have t3 : bits_Fits (IntKind.i64.wrap (q : Int)) (n : Int) = false := by
        by_cases hb2 : q < 9223372036854775808
        · rw [wrap_i64 (by omega) (by omega), fits_nat hn _ (by omega) (by omega), hpn]; simp; omega
        · obtain rfl : q = 9223372036854775808 := by omega
          have : IntKind.i64.wrap ((9223372036854775808 : Nat) : Int) = -9223372036854775808 := by decide
          rw [this, fits_nat hn _ (by omega) (by omega), hpn]; simp; omega
      rw [t1, t3]; rfl
theorem quot_ref {hi lo d : Int} (hh : 0 ≤ hi ∧ hi < 18446744073709551616) (hl : 0 ≤ lo ∧ lo < 18446744073709551616) (hd : 0 ≤ d ∧ d < 18446744073709551616) (signed : Bool) (w : Int) :
    R8_Quotient hi lo d signed w = xflag_Quotient hi lo d signed w := by
  unfold R8_Quotient xflag_Quotient
  cases h : bits_Is w
  · rw [show R1_Is w = false from h]; rfl
  · rw [show R1_Is w = true from h]
    cases h8 : (w == 8)
    · obtain ⟨n, M, W⟩ := wid_of h h8
      rw [zx_ref d w hd.1]
      cases h0 : (bits_Zx d w == 0)
      · simp only [ct, cf, Bool.not_false, Bool.and_true]
        obtain ⟨hi, rfl⟩ := Int.eq_ofNat_of_zero_le hh.1
        obtain ⟨lo, rfl⟩ := Int.eq_ofNat_of_zero_le hl.1
        obtain ⟨d, rfl⟩ := Int.eq_ofNat_of_zero_le hd.1
        have hM : 0 < M := by rcases W.cases' with ⟨_, rfl⟩ | ⟨_, rfl⟩ | ⟨_, rfl⟩ <;> decide
        have hA := Nat.mod_lt hi hM
        have hB := Nat.mod_lt lo hM
        have hD := Nat.mod_lt d hM
        obtain ⟨e1, e2, e3, e4⟩ := W.wide (hi % M) (lo % M) hA hB
        have hD0 : 0 < d % M := by
          rw [W.zx d] at h0
          simp at h0; omega
        have hqV : qV (hi : Int) (lo : Int) w = ((hi % M * M + lo % M : Nat) : Int) := by
          unfold qV
          rw [zx_ref _ w (by omega), zx_ref _ w (by omega), W.zx, W.zx, e1, ← Int.natCast_add, wrapU_nat _ (by omega)]
        have hw8 : IntKind.i64.wrap (8 * w) = 8 * w := (is_8w h).1
        rw [hqV, W.zx d, W.zx hi, W.zx lo, hw8, e1, e2]
        have hn1 : R1_Neg (hi : Int) w = decide (M * M / 2 ≤ hi % M * M + lo % M) := by
          rw [W.neg hi, decide_eq_decide]
          rcases W.cases' with ⟨_, rfl⟩ | ⟨_, rfl⟩ | ⟨_, rfl⟩ <;> omega
        have hn2 : R1_Neg ((d % M : Nat) : Int) w = decide (M / 2 ≤ d % M) := by
          rw [W.neg, Nat.mod_mod]
        rw [hn1, hn2]
        generalize hi % M * M + lo % M = v at *
        generalize d % M = D at *
        have hmax : R1_Zx 18446744073709551615 w = ((M - 1 : Nat) : Int) := by
          rw [zx_ref _ w (by decide), show (18446744073709551615 : Int) = ((18446744073709551615 : Nat) : Int) from rfl, W.zx]
          rcases W.cases' with ⟨_, rfl⟩ | ⟨_, rfl⟩ | ⟨_, rfl⟩ <;> rfl
        have hw2 : IntKind.i64.wrap (2 * w) = 2 * w := by
          have := W.w8
          apply wrap_i64
          · rcases W.cases' with ⟨rfl, _⟩ | ⟨rfl, _⟩ | ⟨rfl, _⟩ <;> omega
          · rcases W.cases' with ⟨rfl, _⟩ | ⟨rfl, _⟩ | ⟨rfl, _⟩ <;> omega
        cases signed
        · simp only [Bool.false_and, cf]
          unfold quoB qEnd qMost qVs qDs
          simp only [cf, show (!(false == false)) = false from rfl]
          rw [mask_zx h, ← zx_ref _ w (show (0 : Int) ≤ 18446744073709551615 by decide), hmax]
          have hq : ((v : Int)).tdiv (D : Int) = ((v / D : Nat) : Int) := rfl
          have hr : ((v : Int)).tmod (D : Int) = ((v % D : Nat) : Int) := rfl
          have hvq : v / D ≤ v := Nat.div_le_self v D
          have hrD := Nat.mod_lt v hD0
          rw [hq, hr, wrapU_nat _ (by omega)]
          by_cases hm : v / D ≤ M - 1
          · have : decide (((v / D : Nat) : Int) > ((M - 1 : Nat) : Int)) = false := by simp; omega
            rw [this, cf, cf, zx_ref _ w (Int.natCast_nonneg _), zx_ref _ w (Int.natCast_nonneg _), W.zx, W.zx, Nat.mod_eq_of_lt (by omega), Nat.mod_eq_of_lt (by omega)]
          · have : decide (((v / D : Nat) : Int) > ((M - 1 : Nat) : Int)) = true := by simp; omega
            rw [this, ct, ct]
        · simp only [Bool.true_and, ct]
          have hs1 : IntKind.i64.wrap (bits_Sx (v : Int) (2 * w)) = bif decide (M * M / 2 ≤ v) then -((M * M - v : Nat) : Int) else (v : Int) := by
            rw [sx_sv W.is2, W.n16]
            unfold sv
            rcases W.cases' with ⟨rfl, rfl⟩ | ⟨rfl, rfl⟩ | ⟨rfl, rfl⟩ <;> simp only [cond_eq_ite, decide_eq_true_eq] <;> simp <;> split <;> split <;> omega
          have hs2 : IntKind.i64.wrap (bits_Sx (D : Int) w) = bif decide (M / 2 ≤ D) then -((M - D : Nat) : Int) else (D : Int) := by
            rw [sx_sv W.is, W.n8]
            unfold sv
            rcases W.cases' with ⟨rfl, rfl⟩ | ⟨rfl, rfl⟩ | ⟨rfl, rfl⟩ <;> simp only [cond_eq_ite, decide_eq_true_eq] <;> simp <;> split <;> split <;> omega
          have hv1 : qVs (decide (M * M / 2 ≤ v)) (v : Int) w = ((bif decide (M * M / 2 ≤ v) then M * M - v else v : Nat) : Int) := by
            unfold qVs
            rw [hw2]
            by_cases hc : M * M / 2 ≤ v
            · have h0 : 0 < M * M / 2 := by rcases W.cases' with ⟨rfl, rfl⟩ | ⟨rfl, rfl⟩ | ⟨rfl, rfl⟩ <;> decide
              simp only [hc, decide_true, ct]
              have e : IntKind.u64.wrap (0 - (v : Int)) = ((18446744073709551616 - v : Nat) : Int) := by rw [wrap_u64]; omega
              rw [e, zx_ref _ _ (Int.natCast_nonneg _), W.zx2]
              rcases W.cases' with ⟨rfl, rfl⟩ | ⟨rfl, rfl⟩ | ⟨rfl, rfl⟩ <;> omega
            · simp only [hc, decide_false, cf]
          have hd1 : qDs (decide (M / 2 ≤ D)) (D : Int) w = ((bif decide (M / 2 ≤ D) then M - D else D : Nat) : Int) := by
            unfold qDs
            by_cases hc : M / 2 ≤ D
            · simp only [hc, decide_true, ct]
              have e : IntKind.u64.wrap (0 - (D : Int)) = ((18446744073709551616 - D : Nat) : Int) := by
                rw [wrap_u64]
                rcases W.cases' with ⟨rfl, rfl⟩ | ⟨rfl, rfl⟩ | ⟨rfl, rfl⟩ <;> omega
              rw [e, zx_ref _ _ (Int.natCast_nonneg _), W.zx]
              rcases W.cases' with ⟨rfl, rfl⟩ | ⟨rfl, rfl⟩ | ⟨rfl, rfl⟩ <;> omega
            · simp only [hc, decide_false, cf]
          rw [hw2, hs1, hs2, hv1, hd1]
          have hev : M * M = 2 * (M * M / 2) := by rcases W.cases' with ⟨_, rfl⟩ | ⟨_, rfl⟩ | ⟨_, rfl⟩ <;> decide
          have hev2 : M = 2 * (M / 2) := by rcases W.cases' with ⟨_, rfl⟩ | ⟨_, rfl⟩ | ⟨_, rfl⟩ <;> decide
          have hcore := core W (bif decide (M * M / 2 ≤ v) then M * M - v else v) (bif decide (M / 2 ≤ D) then M - D else D) (by by_cases hc : M * M / 2 ≤ v <;> simp only [hc, decide_true, decide_false, ct, cf] <;> omega)
            (by by_cases hc : M / 2 ≤ D <;> simp only [hc, decide_true, decide_false, ct, cf] <;> omega) (.inl (by by_cases hc : M / 2 ≤ D <;> simp only [hc, decide_true, decide_false, ct, cf] <;> omega)) (decide (M * M / 2 ≤ v)) (decide (M / 2 ≤ D))
          rw [hcore]
          by_cases hc : M * M / 2 ≤ v <;> by_cases hc2 : M / 2 ≤ D <;> simp only [hc, hc2, decide_true, decide_false, ct, cf]
      · rfl
    · rfl
theorem i64_mod (x : Int) : IntKind.i64.wrap x % 18446744073709551616 = x % 18446744073709551616 := by
  simp only [IntKind.wrap, IntKind.bits, IntKind.signed]
  simp
  split <;> omega
theorem Wid.sx {w : Int} {n M : Nat} (W : Wid w n M) (Q : Int) (h1 : -((M / 2 : Nat) : Int) ≤ Q) (h2 : Q < ((M / 2 : Nat) : Int)) : bits_Sx (bits_Zx Q w) w % 18446744073709551616 = Q % 18446744073709551616 := by
  rw [← i64_mod, sx_sv W.is, W.n8, zx_int W]
  unfold sv
  rcases W.cases' with ⟨rfl, rfl⟩ | ⟨rfl, rfl⟩ | ⟨rfl, rfl⟩ <;> simp only [cond_eq_ite, decide_eq_true_eq] <;> simp <;> split <;> omega
theorem mul_mod64 (a b c x y z : Int) (ha : a % 18446744073709551616 = x % 18446744073709551616) (hb : b % 18446744073709551616 = y % 18446744073709551616) (hc : c % 18446744073709551616 = z % 18446744073709551616) :
    IntKind.u64.wrap (IntKind.u64.wrap (a * b) + c) = (x * y + z) % 18446744073709551616 := by
  rw [wrap_u64, wrap_u64, Int.emod_add_emod, Int.add_emod, Int.mul_emod, ha, hb, hc, ← Int.mul_emod, ← Int.add_emod]
theorem div_ok {w : Int} {n M : Nat} (W : Wid w n M) (s t : Int) (hs : -9223372036854775808 ≤ s ∧ s < 9223372036854775808) (ht : t ≠ 0) (htM : -((M / 2 : Nat) : Int) ≤ t ∧ t < ((M / 2 : Nat) : Int)) (hok : (xflag_divided s t w).2.2 = true) :
    ∃ Q r : Int, xflag_divided s t w = (bits_Zx Q w, bits_Zx r w, true) ∧ Q * t + r = s ∧ (-((M / 2 : Nat) : Int) ≤ Q ∧ Q < ((M / 2 : Nat) : Int)) ∧ (-((M / 2 : Nat) : Int) ≤ r ∧ r < ((M / 2 : Nat) : Int)) := by
  have hw8 : IntKind.i64.wrap (8 * w) = (n : Int) := by rw [(is_8w W.is).1, W.w8]
  have hn : n = 8 ∨ n = 16 ∨ n = 32 := by rcases W.cases' with ⟨h, _⟩ | ⟨h, _⟩ | ⟨h, _⟩ <;> simp [h]
  have hpn : ((2 : Int) ^ (n - 1)) = ((M / 2 : Nat) : Int) := by rcases W.cases' with ⟨rfl, rfl⟩ | ⟨rfl, rfl⟩ | ⟨rfl, rfl⟩ <;> rfl
  have hdvd : ((M : Nat) : Int) ∣ 18446744073709551616 := by rcases W.cases' with ⟨_, rfl⟩ | ⟨_, rfl⟩ | ⟨_, rfl⟩ <;> decide
  have hzr : ∀ x : Int, bits_Zx (IntKind.u64.wrap x) w = bits_Zx x w := fun x => by
    rw [zx_int W, zx_int W, wrap_u64, Int.emod_emod_of_dvd x hdvd]
  unfold xflag_divided at hok ⊢
  rw [hw8] at hok ⊢
  cases hf : bits_Fits (IntKind.i64.wrap (s.tdiv t)) (n : Int) with
  | false => rw [hf] at hok; cases hok
  | true =>
    rw [hf] at hok
    cases hx : (s == -9223372036854775808 && t == -1) with
    | true => rw [hx] at hok; cases hok
    | false =>
      simp only [Bool.not_true, cf]
      have hq1 : (s.tdiv t).natAbs = s.natAbs / t.natAbs := Int.natAbs_tdiv s t
      have hq2 : s.natAbs / t.natAbs ≤ s.natAbs := Nat.div_le_self _ _
      have hr1 : (s.tmod t).natAbs = s.natAbs % t.natAbs := Int.natAbs_tmod s t
      have hr2 : s.natAbs % t.natAbs < t.natAbs := Nat.mod_lt _ (by omega)
      have hsum := Int.mul_tdiv_add_tmod s t
      have hne : s.tdiv t ≠ 9223372036854775808 := by
        intro he
        have h1 : s = -9223372036854775808 := by omega
        have h2 : t = 1 ∨ t = -1 := by
          have h3 : s.natAbs / t.natAbs = 9223372036854775808 := by omega
          have h4 : s.natAbs = 9223372036854775808 := by omega
          rw [h4] at h3
          have h5 : t.natAbs = 1 := by
            have h6 : 0 < t.natAbs := by omega
            have := (Nat.div_eq_iff h6).1 h3
            have h7 : t.natAbs < 2 := by
              rcases Nat.lt_or_ge t.natAbs 2 with h | h
              · exact h
              · have := Nat.mul_le_mul_left 9223372036854775808 h
                omega
            omega
          omega
        subst h1
        rcases h2 with rfl | rfl
        · revert he; decide
        · revert hx; decide
      have hQ : IntKind.i64.wrap (s.tdiv t) = s.tdiv t := wrap_i64 (by omega) (by omega)
      rw [hQ] at hf ⊢
      rw [fits_nat hn _ (by omega) (by omega), hpn] at hf
      refine ⟨s.tdiv t, s.tmod t, ?_, ?_, by simpa using hf, ?_⟩
      · rw [hzr, hzr]
      · rw [Int.mul_comm]; exact hsum
      · omega
theorem Wid.back {w : Int} {n M : Nat} (W : Wid w n M) (v : Nat) (hv : v < M * M) : bits_Zx (bits_Sx (v : Int) (2 * w)) (2 * w) = (v : Int) := by
  rw [zx_is W.is2, sx_eq W.is2, W.n16]
  have h0 : (0 : Int) ≤ (v : Int) := Int.natCast_nonneg v
  rcases W.cases' with ⟨rfl, rfl⟩ | ⟨rfl, rfl⟩ | ⟨rfl, rfl⟩
  · have h : (v : Int) < 65536 := by have : v < 65536 := hv; omega
    clear hv W
    generalize (v : Int) = x at *
    have e : ((2 : Int) ^ (2 * 8)) = 65536 := rfl
    have e1 : ((2 : Int) ^ (2 * 8 - 1)) = 32768 := rfl
    rw [e, e1]
    cases decide (x % 65536 < 32768) <;> simp only [cf, ct] <;> omega
  · have h : (v : Int) < 4294967296 := by have : v < 4294967296 := hv; omega
    clear hv W
    generalize (v : Int) = x at *
    have e : ((2 : Int) ^ (2 * 16)) = 4294967296 := rfl
    have e1 : ((2 : Int) ^ (2 * 16 - 1)) = 2147483648 := rfl
    rw [e, e1]
    cases decide (x % 4294967296 < 2147483648) <;> simp only [cf, ct] <;> omega
  · have h : (v : Int) < 18446744073709551616 := by have : v < 18446744073709551616 := hv; omega
    clear hv W
    generalize (v : Int) = x at *
    have e : ((2 : Int) ^ (2 * 32)) = 18446744073709551616 := rfl
    have e1 : ((2 : Int) ^ (2 * 32 - 1)) = 9223372036854775808 := rfl
    rw [e, e1]
    cases decide (x % 18446744073709551616 < 9223372036854775808) <;> simp only [cf, ct] <;> omega
theorem quot_back {hi lo d : Int} (hh : 0 ≤ hi ∧ hi < 18446744073709551616) (hl : 0 ≤ lo ∧ lo < 18446744073709551616) (hd : 0 ≤ d ∧ d < 18446744073709551616) (signed : Bool) (w : Int)
    (hok : (xflag_Quotient hi lo d signed w).2.2 = true) : bits_Is w = true ∧
      (signed = true → (bits_Zx (IntKind.u64.wrap (IntKind.u64.wrap (bits_Sx (xflag_Quotient hi lo d signed w).1 w * bits_Sx d w) + bits_Sx (xflag_Quotient hi lo d signed w).2.1 w)) (IntKind.i64.wrap (2 * w)) == bor .u64 (ishl .u64 (bits_Zx hi w) (8 * w)) (bits_Zx lo w)) = true) ∧
      (signed = false → (IntKind.u64.wrap (IntKind.u64.wrap ((xflag_Quotient hi lo d signed w).1 * bits_Zx d w) + (xflag_Quotient hi lo d signed w).2.1) == bor .u64 (ishl .u64 (bits_Zx hi w) (8 * w)) (bits_Zx lo w)) = true ∧ decide ((xflag_Quotient hi lo d signed w).2.1 < bits_Zx d w) = true) := by
  unfold xflag_Quotient at hok ⊢
  cases h : bits_Is w
  · rw [h] at hok; cases hok
  · rw [h] at hok
    cases h8 : (w == 8)
    · obtain ⟨n, M, W⟩ := wid_of h h8
      rw [h8] at hok
      cases h0 : (bits_Zx d w == 0)
      · rw [h0] at hok
        simp only [ct, Bool.not_false, Bool.and_true] at hok ⊢
        refine ⟨trivial, ?_⟩
        obtain ⟨hi, rfl⟩ := Int.eq_ofNat_of_zero_le hh.1
        obtain ⟨lo, rfl⟩ := Int.eq_ofNat_of_zero_le hl.1
        obtain ⟨d, rfl⟩ := Int.eq_ofNat_of_zero_le hd.1
        have hM : 0 < M := by rcases W.cases' with ⟨_, rfl⟩ | ⟨_, rfl⟩ | ⟨_, rfl⟩ <;> decide
        obtain ⟨e1, e2, e3, e4⟩ := W.wide (hi % M) (lo % M) (Nat.mod_lt hi hM) (Nat.mod_lt lo hM)
        have hw8 : IntKind.i64.wrap (8 * w) = 8 * w := (is_8w h).1
        have hD0 : 0 < d % M := by
          rw [W.zx d] at h0
          simp at h0; omega
        have hDM := Nat.mod_lt d hM
        have hsd : bits_Sx (d : Int) w % 18446744073709551616 = IntKind.i64.wrap (bits_Sx (bits_Zx (d : Int) w) w) % 18446744073709551616 := by
          rw [i64_mod, ← i64_mod, sx_sv h, ← i64_mod (bits_Sx (bits_Zx _ w) w), sx_sv h, ← zx_is h, ← zx_is h, zx_zx]
        rw [hw8, W.zx hi, W.zx lo, e1, e2] at hok ⊢
        rw [W.zx d] at hsd hok ⊢
        generalize hi % M * M + lo % M = v at *
        generalize hdd : d % M = D at *
        have hw2 : IntKind.i64.wrap (2 * w) = 2 * w := by
          have := W.w8
          apply wrap_i64
          · rcases W.cases' with ⟨rfl, _⟩ | ⟨rfl, _⟩ | ⟨rfl, _⟩ <;> omega
          · rcases W.cases' with ⟨rfl, _⟩ | ⟨rfl, _⟩ | ⟨rfl, _⟩ <;> omega
        rw [hw2] at hok ⊢
        cases signed
        · refine ⟨fun h => (nomatch h), fun _ => ?_⟩
          simp only [cf] at hok ⊢
          have hq : ((v : Int)).tdiv (D : Int) = ((v / D : Nat) : Int) := rfl
          have hr : ((v : Int)).tmod (D : Int) = ((v % D : Nat) : Int) := rfl
          have hvq : v / D ≤ v := Nat.div_le_self v D
          have hrD := Nat.mod_lt v hD0
          have hsum := Nat.div_add_mod v D
          rw [hq, hr, wrapU_nat _ (by omega)] at hok ⊢
          cases hm : decide (((v / D : Nat) : Int) > bits_Mask w)
          · simp only [cf]
            rw [← Int.natCast_mul, Nat.mul_comm (v / D) D, wrapU_nat _ (by omega), ← Int.natCast_add, hsum, wrapU_nat _ (by omega)]
            constructor
            · simp
            · simp; omega
          · rw [hm] at hok; cases hok
        · refine ⟨fun _ => ?_, fun h => (nomatch h)⟩
          simp only [ct] at hok ⊢
          have hsv : -9223372036854775808 ≤ IntKind.i64.wrap (bits_Sx (v : Int) (2 * w)) ∧ IntKind.i64.wrap (bits_Sx (v : Int) (2 * w)) < 9223372036854775808 := wrap_i64_range _
          have hst : IntKind.i64.wrap (bits_Sx (D : Int) w) ≠ 0 ∧ -((M / 2 : Nat) : Int) ≤ IntKind.i64.wrap (bits_Sx (D : Int) w) ∧ IntKind.i64.wrap (bits_Sx (D : Int) w) < ((M / 2 : Nat) : Int) := by
            rw [sx_sv h, W.n8]
            unfold sv
            rcases W.cases' with ⟨rfl, rfl⟩ | ⟨rfl, rfl⟩ | ⟨rfl, rfl⟩ <;> simp only [cond_eq_ite, decide_eq_true_eq] <;> simp <;> split <;> omega
          obtain ⟨Q, r, g1, g2, g3, g4⟩ := div_ok W _ _ hsv hst.1 hst.2 hok
          rw [g1]
          have h1 := W.sx Q g3.1 g3.2
          have h2 := W.sx r g4.1 g4.2
          rw [mul_mod64 _ _ _ Q _ r h1 hsd h2, g2, i64_mod]
          have hv64 : bits_Sx (v : Int) (2 * w) % 18446744073709551616 = bits_Sx (v : Int) (2 * w) := by have := sx_range (v : Int) (2 * w); omega
          rw [hv64]
          have hz := W.back v e3
          rw [hz]
          simp
      · rw [h0] at hok; cases hok
    · rw [h8] at hok; cases hok
end Go.Proofs.Ytmdcmjlhnbodmaa
