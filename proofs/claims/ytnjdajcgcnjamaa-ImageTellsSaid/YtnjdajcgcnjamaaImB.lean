/- Layer 4: sorting numbers, 2: lengths of numbers, random swaps, pivots, partitions. -/
import Derived.Test.YtnjdajcgcnjamaaImA
namespace Go.Proofs.Ytnjdajcgcnjamaa
open Go Go.Proofs.Ytnjdajcgcnjamaa.Ab
set_option linter.unusedVariables false
set_option linter.unusedSimpArgs false
set_option maxRecDepth 100000
noncomputable section
/-! bits.Len -/
theorem tab8_get : ∀ k, k < 256 → tab8[k]? = some (UInt8.ofNat (Sort.bitsLen k)) := by decide +kernel
theorem bitsLen_256 (n : Nat) (h : 256 ≤ n) : Sort.bitsLen n = 8 + Sort.bitsLen (n / 256) := by
  have h1 := (Sort.bitsLen_le_iff (n / 256) _).1 (Nat.le_refl _)
  have h2 : Sort.bitsLen n ≤ 8 + Sort.bitsLen (n / 256) := (Sort.bitsLen_le_iff n _).2 (by rw [Nat.pow_add]; omega)
  have h3 := (Sort.bitsLen_le_iff n _).1 (Nat.le_refl _)
  have h4 : ¬ Sort.bitsLen n ≤ 8 := fun e => by
    have := (Sort.bitsLen_le_iff n 8).1 e
    omega
  have h5 : Sort.bitsLen (n / 256) ≤ Sort.bitsLen n - 8 := (Sort.bitsLen_le_iff _ _).2 (by
    have e : 2 ^ Sort.bitsLen n = 2 ^ 8 * 2 ^ (Sort.bitsLen n - 8) := by rw [← Nat.pow_add]; congr 1; omega
    rw [e] at h3
    omega)
  omega
theorem bitsLen16 (n : Nat) (h : n < 65536) : Sort.bitsLen n ≤ 16 := (Sort.bitsLen_le_iff n 16).2 (by omega)
theorem bitsLen8 (n : Nat) (h : n < 256) : Sort.bitsLen n ≤ 8 := (Sort.bitsLen_le_iff n 8).2 (by omega)
theorem f93_x (n : Nat) (h : n < 65536) (H : Heap) : f93 (n : Int) H = some ((Sort.bitsLen n : Int), H) := by
  rw [q93, dF (by omega), cf, dF (by omega), cf]
  by_cases g : n < 256
  · have w : IntKind.u8.wrap (n : Int) = (n : Int) := by rw [wrap_u8]; omega
    have i : inb (n : Int) 256 = true := by simp [inb]; omega
    have b := bitsLen8 n g
    have v : ((UInt8.ofNat (Sort.bitsLen n)).toNat : Int) = (Sort.bitsLen n : Int) := by simp; omega
    rw [dF (by omega), cf, w, i, ct, Int.toNat_natCast, tab8_get n g, bs, v, wrap_i64 (n := (Sort.bitsLen n : Int)) (by omega) (by omega), wrap_i64 (by omega) (by omega)]
    simp
  · have e8 : ishr IntKind.u64 (n : Int) 8 = ((n / 256 : Nat) : Int) := by
      unfold ishr
      have : min ((8 : Int).toNat) IntKind.u64.bits = 8 := rfl
      rw [this, Int.fdiv_eq_ediv_of_nonneg _ (by omega)]
      simp
    have w : IntKind.u8.wrap ((n / 256 : Nat) : Int) = ((n / 256 : Nat) : Int) := by rw [wrap_u8]; omega
    have i : inb ((n / 256 : Nat) : Int) 256 = true := by simp [inb]; omega
    have b := bitsLen8 (n / 256) (by omega)
    have v : ((UInt8.ofNat (Sort.bitsLen (n / 256))).toNat : Int) = (Sort.bitsLen (n / 256) : Int) := by simp; omega
    rw [dT (by omega), ct, e8, w, i, ct, Int.toNat_natCast, tab8_get (n / 256) (by omega), bs, v, wrap_i64 (n := (Sort.bitsLen (n / 256) : Int)) (by omega) (by omega), wrap_i64 (by omega) (by omega), bitsLen_256 n (by omega)]
    simp
theorem f77_x (n : Nat) (h : n < 65536) (H : Heap) : f77 (n : Int) H = some ((Sort.bitsLen n : Int), H) := by rw [q77, f93_x n h, bs]
theorem f97_x (n : Nat) (h : n < 65536) (H : Heap) : f97 (n : Int) H = some (((1 <<< Sort.bitsLen n : Nat) : Int), H) := by
  have b := bitsLen16 n h
  have w : IntKind.u64.wrap (n : Int) = (n : Int) := by rw [wrap_u64]; omega
  have p : 2 ^ Sort.bitsLen n ≤ 2 ^ 16 := Nat.pow_le_pow_right (by decide) b
  have p0 : 0 < 2 ^ Sort.bitsLen n := Nat.two_pow_pos _
  rw [q97, w, f77_x n h, bs, dF (by omega), cf]
  congr 2
  unfold ishl
  have : min ((Sort.bitsLen n : Int).toNat) IntKind.u64.bits = Sort.bitsLen n := by simp [IntKind.bits]; omega
  rw [this, wrap_u64, Nat.one_shiftLeft]
  have : (1 : Int) * 2 ^ Sort.bitsLen n = ((2 ^ Sort.bitsLen n : Nat) : Int) := by simp
  rw [this]
  omega
/-! random swaps -/
theorem xor_n {x y : Nat} (hx : x < 18446744073709551616) (hy : y < 18446744073709551616) : bxor .u64 (x : Int) (y : Int) = ((x ^^^ y : Nat) : Int) := by
  rw [bxor_u64]
  have e1 : ((x : Int) % 18446744073709551616).toNat = x := by omega
  have e2 : ((y : Int) % 18446744073709551616).toNat = y := by omega
  rw [e1, e2]
theorem and_n {x y : Nat} (hx : x < 18446744073709551616) (hy : y < 18446744073709551616) : band .u64 (x : Int) (y : Int) = ((x &&& y : Nat) : Int) := by
  rw [band_u64]
  have e1 : ((x : Int) % 18446744073709551616).toNat = x := by omega
  have e2 : ((y : Int) % 18446744073709551616).toNat = y := by omega
  rw [e1, e2]
theorem shl_n (x k m : Nat) (hk : k < 64) (hm : 2 ^ k = m) : ishl .u64 (x : Int) (k : Int) = ((x * m % 18446744073709551616 : Nat) : Int) := by
  unfold ishl
  have : min ((k : Int).toNat) IntKind.u64.bits = k := by simp [IntKind.bits]; omega
  rw [this, wrap_u64]
  have : (x : Int) * 2 ^ k = ((x * m : Nat) : Int) := by rw [← hm]; simp
  rw [this]
  omega
theorem shr_n (x k m : Nat) (hk : k < 64) (hm : 2 ^ k = m) : ishr .u64 (x : Int) (k : Int) = ((x / m : Nat) : Int) := by
  unfold ishr
  have : min ((k : Int).toNat) IntKind.u64.bits = k := by simp [IntKind.bits]; omega
  have p0 : (0 : Int) ≤ (m : Int) := by omega
  have e : (2 : Int) ^ k = (m : Int) := by rw [← hm]; simp
  rw [this, e, Int.fdiv_eq_ediv_of_nonneg _ p0]
  simp
theorem cell1 {H : Heap} {id : Nat} {c : Cell} (h : H[id]? = some (.row [c] false)) : H.get id 0 = some c := by rw [get_of h]; rfl
theorem put1 {H : Heap} {id : Nat} {c v : Cell} (h : H[id]? = some (.row [c] false)) : H.put id 0 [v] = some (H.set id (.row [v] false)) := by
  rw [put_of h (by simp)]; rfl
theorem set1 {H : Heap} {id : Nat} {c v : Cell} (h : H[id]? = some (.row [c] false)) : (H.set id (.row [v] false))[id]? = some (.row [v] false) := set_get' (lt_of h)
theorem f98_x {H : Heap} {id : Nat} {r : UInt64} (h : H[id]? = some (.row [.int .u64 (r.toNat : Int)] false)) :
    ∃ H', f98 (some (id, 0)) H = some (((Sort.xorNext r).toNat : Int), H') ∧ H'[id]? = some (.row [.int .u64 ((Sort.xorNext r).toNat : Int)] false) ∧ Kp (One id) H H' := by
  have hr : r.toNat < 18446744073709551616 := r.toNat_lt
  have t0 : r.toNat * 8192 % 18446744073709551616 < 18446744073709551616 := Nat.mod_lt _ (by decide)
  have e1 : ishl IntKind.u64 (r.toNat : Int) 13 = ((r.toNat * 8192 % 18446744073709551616 : Nat) : Int) := shl_n _ 13 8192 (by decide) rfl
  obtain ⟨A, hA⟩ : ∃ A, A = r.toNat ^^^ (r.toNat * 8192 % 18446744073709551616) := ⟨_, rfl⟩
  have a0 : A < 18446744073709551616 := by rw [hA]; exact Nat.xor_lt_two_pow (n := 64) hr t0
  have e2 : ishr IntKind.u64 (A : Int) 7 = ((A / 128 : Nat) : Int) := shr_n _ 7 128 (by decide) rfl
  obtain ⟨B, hB⟩ : ∃ B, B = A ^^^ (A / 128) := ⟨_, rfl⟩
  have b0 : B < 18446744073709551616 := by rw [hB]; exact Nat.xor_lt_two_pow (n := 64) a0 (by omega)
  have t1 : B * 131072 % 18446744073709551616 < 18446744073709551616 := Nat.mod_lt _ (by decide)
  have e3 : ishl IntKind.u64 (B : Int) 17 = ((B * 131072 % 18446744073709551616 : Nat) : Int) := shl_n _ 17 131072 (by decide) rfl
  have fin : (Sort.xorNext r).toNat = B ^^^ (B * 131072 % 18446744073709551616) := by rw [Sort.xorNext_toNat, hB, hA]; rfl
  have p1 := put1 (v := .int .u64 (A : Int)) h
  have s1 := set1 (v := .int .u64 (A : Int)) h
  have p2 := put1 (v := .int .u64 (B : Int)) s1
  have s2 := set1 (v := .int .u64 (B : Int)) s1
  have p3 := put1 (v := .int .u64 ((Sort.xorNext r).toNat : Int)) s2
  have s3 := set1 (v := .int .u64 ((Sort.xorNext r).toNat : Int)) s2
  refine ⟨_, ?_, s3, ((Kp.set _ _ _).one (Kp.set _ _ _)).one (Kp.set _ _ _)⟩
  rw [q98]
  simp only [bs, cell1 h, tInt, e1, xor_n hr t0, ← hA, p1, cell1 s1, e2, xor_n a0 (show A / 128 < 18446744073709551616 by omega), ← hB, p2, cell1 s2, e3, xor_n b0 t1, ← fin, p3, cell1 s3]
theorem mask_lt (x n m : Nat) (h : m = 2 ^ n) : x &&& (m - 1) < m := by
  subst h
  rw [Nat.and_two_pow_sub_one_eq_mod]
  exact Nat.mod_lt _ (Nat.two_pow_pos n)
/-- Some rounds. -/
def brk (a len mo : Nat) : Nat → Nat → UInt64 × Array Int → UInt64 × Array Int
  | 0, _, st => st
  | m + 1, idx, st => brk a len mo m (idx + 1) (Sort.breakStep a len mo st idx)
theorem loop85 (sl : Sl) (a len id : Nat) (hl8 : 8 ≤ len) (hne : id ≠ sl.id) (hid : ∀ i, i = id → True) : ∀ (m n idx : Nat) (r : UInt64) (d : Array Int) (H : Heap), SA H sl d → H[id]? = some (.row [.int .u64 (r.toNat : Int)] false) → a + len ≤ d.size →
    idx + m = a + len / 4 * 2 + 2 → ∃ H', D85_5 (n + m + 1) (some sl) a len id ((1 <<< Sort.bitsLen len : Nat) : Int) idx H = some (.exit 0, X85_5 H') ∧ SA H' sl (brk a len (1 <<< Sort.bitsLen len) m idx (r, d)).2 ∧ Kp (fun i => i = sl.id ∨ i = id) H H'
  | 0, n, idx, r, d, H, h, hr, hs, hm => by
    have hl := h.lt'
    have w1 : IntKind.i64.wrap ((len : Int).tdiv 4) = ((len / 4 : Nat) : Int) := by rw [show (4 : Int) = ((4 : Nat) : Int) from rfl, tdivN, wrap_i64 (by omega) (by omega)]
    have w2 : IntKind.i64.wrap (((len / 4 : Nat) : Int) * 2) = ((len / 4 * 2 : Nat) : Int) := by rw [wrap_i64 (by omega) (by omega)]; omega
    refine ⟨H, ?_, h, Kp.refl _ _⟩
    rw [show n + 0 + 1 = n + 1 from rfl, D85_5_s, w1, w2, wpp a (len / 4 * 2) (by omega) (by omega), wp1 _ (by omega), dF (by omega), cf]
  | m + 1, n, idx, r, d, H, h, hr, hs, hm => by
    have hl := h.lt'
    have w1 : IntKind.i64.wrap ((len : Int).tdiv 4) = ((len / 4 : Nat) : Int) := by rw [show (4 : Int) = ((4 : Nat) : Int) from rfl, tdivN, wrap_i64 (by omega) (by omega)]
    have w2 : IntKind.i64.wrap (((len / 4 : Nat) : Int) * 2) = ((len / 4 * 2 : Nat) : Int) := by rw [wrap_i64 (by omega) (by omega)]; omega
    have w3 := wpp a (len / 4 * 2) (by omega) (by omega)
    have w4 := wp1 (a + len / 4 * 2) (by omega)
    have g1 : decide ((idx : Int) ≤ ((a + len / 4 * 2 + 1 : Nat) : Int)) = true := dT (by omega)
    obtain ⟨H1, e1, r1, k1⟩ := f98_x hr
    have h1 : SA H1 sl d := h.kp k1 (fun e => hne e.symm)
    obtain ⟨R, hR⟩ : ∃ R, R = Sort.xorNext r := ⟨_, rfl⟩
    rw [← hR] at e1 r1
    have hRl : R.toNat < 18446744073709551616 := R.toNat_lt
    have b := bitsLen16 len (by omega)
    have p : 2 ^ Sort.bitsLen len ≤ 2 ^ 16 := Nat.pow_le_pow_right (by decide) b
    have p0 : 0 < 2 ^ Sort.bitsLen len := Nat.two_pow_pos _
    have p2 := Sort.two_pow_bitsLen_le (n := len) (by omega)
    obtain ⟨mo, hmo⟩ : ∃ mo, mo = 1 <<< Sort.bitsLen len := ⟨_, rfl⟩
    have hmo2 : mo = 2 ^ Sort.bitsLen len := by rw [hmo, Nat.one_shiftLeft]
    rw [← hmo]
    have w5 : IntKind.u64.wrap ((mo : Int) - 1) = ((mo - 1 : Nat) : Int) := by rw [wrap_u64]; omega
    have ml := mask_lt R.toNat (Sort.bitsLen len) mo hmo2
    have w6 : band IntKind.u64 (R.toNat : Int) ((mo - 1 : Nat) : Int) = ((R.toNat &&& (mo - 1) : Nat) : Int) := and_n hRl (by omega)
    obtain ⟨o, ho⟩ : ∃ o, o = R.toNat &&& (mo - 1) := ⟨_, rfl⟩
    rw [← ho] at w6 ml
    have w7 : IntKind.i64.wrap (o : Int) = (o : Int) := wrap_i64 (by omega) (by omega)
    have fin : ∀ q : Nat, q < len → (q = if o ≥ len then o - len else o) → ∀ e : Option (AExit × St),
        (∀ H2 H3, H1.put sl.id (sl.off + (idx : Int).toNat * 1) [.int .u64 d[a + q]!] = some H2 → H2.put sl.id (sl.off + ((a + q : Nat) : Int).toNat * 1) [.int .u64 d[idx]!] = some H3 → e = D85_5 (n + m + 1) (some sl) a len id (mo : Int) ((idx + 1 : Nat) : Int) H3) →
        ∃ H', e = some (.exit 0, X85_5 H') ∧ SA H' sl (brk a len mo (m + 1) idx (r, d)).2 ∧ Kp (fun i => i = sl.id ∨ i = id) H H' := by
      intro q hq hq2 e he
      obtain ⟨H2, H3, q1, q2, h3, k3⟩ := h1.swp idx (a + q) (by omega) (by omega)
      have r3 : H3[id]? = some (.row [.int .u64 (R.toNat : Int)] false) := k3.at r1 hne
      obtain ⟨H', e', h', k'⟩ := loop85 sl a len id hl8 hne hid m n (idx + 1) R _ H3 h3 r3 (by rw [sz_swp]; omega) (by omega)
      rw [← hmo] at e' h'
      refine ⟨H', by rw [he H2 H3 q1 q2, e'], ?_, ?_⟩
      · have : Sort.breakStep a len mo (r, d) idx = (R, Sort.swp d idx (a + q)) := by
          unfold Sort.breakStep
          simp only [← hR, ← ho, ← hq2]
        rw [brk, this]
        exact h'
      · exact ((k1.mono fun i _ hi => .inr hi).trans (k3.mono fun i _ hi => .inl hi) (D := fun i => i = sl.id ∨ i = id) (fun i hi => hi) (fun i _ hi => hi)).trans k' (fun i hi => hi) fun i _ hi => hi
    have si := h1.inb idx (by omega)
    have gi := h1.get idx (by omega)
    rw [show n + (m + 1) + 1 = (n + m + 1) + 1 by omega, D85_5_s]
    by_cases g : o ≥ len
    · have sq := h1.inb (a + (o - len)) (by omega)
      have gq := h1.get (a + (o - len)) (by omega)
      refine fin (o - len) (by omega) (by rw [if_pos g]) _ fun H2 H3 q1 q2 => ?_
      simp only [w1, w2, w3, w4, g1, ct, cf, bs, e1, w5, w6, w7, dT (show (o : Int) ≥ (len : Int) by omega), wmm o len (by omega) g, wpp a (o - len) (by omega) (by omega), sq, gq, si, gi, tInt, q1, q2, wp1 idx (by omega)]
    · have sq := h1.inb (a + o) (by omega)
      have gq := h1.get (a + o) (by omega)
      refine fin o (by omega) (by rw [if_neg g]) _ fun H2 H3 q1 q2 => ?_
      simp only [w1, w2, w3, w4, g1, ct, cf, bs, e1, w5, w6, w7, dF (show ¬ (o : Int) ≥ (len : Int) by omega), wpp a o (by omega) (by omega), sq, gq, si, gi, tInt, q1, q2, wp1 idx (by omega)]
theorem f85_x {H : Heap} {sl : Sl} {d : Array Int} (h : SA H sl d) (a b : Nat) (hab : a ≤ b) (hb : b ≤ d.size) :
    ∃ H', f85 (some sl) a b H = some ((), H') ∧ SA H' sl (Sort.breakPatterns d a b) ∧ Kp (One sl.id) H H' := by
  have hl := h.lt'
  rw [q85, wmm b a (by omega) hab]
  unfold Sort.breakPatterns
  by_cases g : b - a ≥ 8
  · have w : IntKind.u64.wrap ((b - a : Nat) : Int) = ((b - a : Nat) : Int) := by rw [wrap_u64]; omega
    have e0 : (UInt64.ofNat (b - a)).toNat = b - a := by simp; omega
    have p0 : (H ++ [Blk.row [Cell.int IntKind.u64 0] false])[H.length]? = some (.row [Cell.int IntKind.u64 0] false) := push_get _ _
    have p1 := put1 (v := .int .u64 ((b - a : Nat) : Int)) p0
    have s1 := set1 (v := .int .u64 ((b - a : Nat) : Int)) p0
    have k1 : Kp No H ((H ++ [Blk.row [Cell.int IntKind.u64 0] false]).set H.length (.row [Cell.int IntKind.u64 ((b - a : Nat) : Int)] false)) := (Kp.push1 _ _).trSet (Kp.set _ _ _) (Nat.le_refl _)
    generalize (H ++ [Blk.row [Cell.int IntKind.u64 0] false]).set H.length (.row [Cell.int IntKind.u64 ((b - a : Nat) : Int)] false) = H1 at *
    have hne : H.length ≠ sl.id := fun e => by have := h.os.lt; omega
    have h1 : SA H1 sl d := h.kp k1 (fun e => e)
    have w1 : IntKind.i64.wrap (((b - a : Nat) : Int).tdiv 4) = (((b - a) / 4 : Nat) : Int) := by rw [show (4 : Int) = ((4 : Nat) : Int) from rfl, tdivN, wrap_i64 (by omega) (by omega)]
    have w2 : IntKind.i64.wrap ((((b - a) / 4 : Nat) : Int) * 2) = (((b - a) / 4 * 2 : Nat) : Int) := by rw [wrap_i64 (by omega) (by omega)]; omega
    have w3 := wpp a ((b - a) / 4 * 2) (by omega) (by omega)
    have w4 := wm1 (a + (b - a) / 4 * 2) (by omega) (by omega)
    obtain ⟨n, hn⟩ := LL85_5_of 3 (by omega) (some sl) a ((b - a : Nat) : Int) H.length ((1 <<< Sort.bitsLen (b - a) : Nat) : Int) ((a + (b - a) / 4 * 2 - 1 : Nat) : Int) H1
    obtain ⟨H2, e2, h2, k2⟩ := loop85 sl a (b - a) H.length g hne (fun _ _ => trivial) 3 n (a + (b - a) / 4 * 2 - 1) (UInt64.ofNat (b - a)) d H1 h1 (by rw [e0]; exact s1) (by omega) (by omega)
    refine ⟨H2, ?_, ?_, ?_⟩
    · simp only [dT (show ((b - a : Nat) : Int) ≥ 8 by omega), ct, w, p1, bs, f97_x (b - a) (by omega), w1, w2, w3, w4]
      rw [hn, e2, bs, J85_5_0]
    · rw [if_pos g]
      simp only [brk] at h2
      exact h2
    · exact k1.trans k2 (fun i hi => hi.elim) fun i hi hf => by
        rcases hf with hf | hf
        · exact hf
        · omega
  · refine ⟨H, ?_, by rw [if_neg g]; exact h, Kp.refl _ _⟩
    rw [dF (by omega), cf]
/-! pivots -/
def Sw (H : Heap) (id s : Nat) : Prop := H[id]? = some (.row [.int .i64 (s : Int)] false)
theorem f101_x {H : Heap} {sl : Sl} {d : Array Int} (h : SA H sl d) {id s : Nat} (hs : Sw H id s) (hne : id ≠ sl.id) (hs2 : s < 1000) (a b : Nat) (ha : a < d.size) (hb : b < d.size) :
    ∃ H', f101 (some sl) a b (some (id, 0)) H = some ((((Sort.order2 Sort.ltInt d a b s).1 : Int), ((Sort.order2 Sort.ltInt d a b s).2.1 : Int)), H') ∧ Sw H' id (Sort.order2 Sort.ltInt d a b s).2.2 ∧ Kp (One id) H H' := by
  rw [q101]
  unfold Sort.order2
  cases g : Sort.ltInt d[b]! d[a]! with
  | true =>
    refine ⟨_, ?_, set1 (v := .int .i64 ((s + 1 : Nat) : Int)) hs, Kp.set _ _ _⟩
    simp only [bs, ct, h.inb b hb, h.get b hb, h.inb a ha, h.get a ha, tInt, lt_eq, g, cell1 hs, wp1 s (by omega), put1 hs, if_true]
  | false =>
    refine ⟨H, ?_, by simpa using hs, Kp.refl _ _⟩
    simp only [bs, ct, cf, h.inb b hb, h.get b hb, h.inb a ha, h.get a ha, tInt, lt_eq, g, if_neg Bool.false_ne_true]
theorem order2_lt (d : Array Int) (a b s : Nat) (ha : a < d.size) (hb : b < d.size) : (Sort.order2 Sort.ltInt d a b s).1 < d.size ∧ (Sort.order2 Sort.ltInt d a b s).2.1 < d.size := by
  rcases Sort.order2_mem Sort.ltInt d a b s with ⟨h1, h2⟩ | ⟨h1, h2⟩ <;> rw [h1, h2] <;> exact ⟨by assumption, by assumption⟩
theorem f100_x {H : Heap} {sl : Sl} {d : Array Int} (h : SA H sl d) {id s : Nat} (hs : Sw H id s) (hne : id ≠ sl.id) (hs2 : s < 900) (a b c : Nat) (ha : a < d.size) (hb : b < d.size) (hc : c < d.size) :
    ∃ H', f100 (some sl) a b c (some (id, 0)) H = some (((Sort.median Sort.ltInt d a b c s).1 : Int), H') ∧ Sw H' id (Sort.median Sort.ltInt d a b c s).2 ∧ Kp (One id) H H' := by
  rw [q100]
  unfold Sort.median
  simp only []
  obtain ⟨H1, e1, s1, k1⟩ := f101_x h hs hne (by omega) a b ha hb
  have l1 := order2_lt d a b s ha hb
  have c1 := Sort.order2_count Sort.ltInt d a b s
  generalize Sort.order2 Sort.ltInt d a b s = r1 at *
  have h1 := h.kp k1 fun e => hne e.symm
  obtain ⟨H2, e2, s2, k2⟩ := f101_x h1 s1 hne (by omega) r1.2.1 c l1.2 hc
  have l2 := order2_lt d r1.2.1 c r1.2.2 l1.2 hc
  have c2 := Sort.order2_count Sort.ltInt d r1.2.1 c r1.2.2
  generalize Sort.order2 Sort.ltInt d r1.2.1 c r1.2.2 = r2 at *
  have h2 := h1.kp k2 fun e => hne e.symm
  obtain ⟨H3, e3, s3, k3⟩ := f101_x h2 s2 hne (by omega) r1.1 r2.1 l1.1 l2.1
  refine ⟨H3, ?_, s3, (k1.one k2).one k3⟩
  simp only [e1, bs, e2, e3]
theorem f99_x {H : Heap} {sl : Sl} {d : Array Int} (h : SA H sl d) {id s : Nat} (hs : Sw H id s) (hne : id ≠ sl.id) (hs2 : s < 900) (a : Nat) (ha1 : 1 ≤ a) (ha : a + 1 < d.size) :
    ∃ H', f99 (some sl) a (some (id, 0)) H = some (((Sort.medianAdjacent Sort.ltInt d a s).1 : Int), H') ∧ Sw H' id (Sort.medianAdjacent Sort.ltInt d a s).2 ∧ Kp (One id) H H' := by
  have hl := h.lt'
  obtain ⟨H1, e1, s1, k1⟩ := f100_x h hs hne hs2 (a - 1) a (a + 1) (by omega) (by omega) ha
  refine ⟨H1, ?_, s1, k1⟩
  rw [q99, wm1 a (by omega) ha1, wp1 a (by omega), e1, bs]
  rfl
theorem hint_of (s : Nat) (p : Int) (H : Heap) : (bif (s : Int) == 0 then some ((p, (1 : Int)), H) else bif (s : Int) == 12 then some ((p, 2), H) else some ((p, 0), H)) = some ((p, Sort.hintCode (Sort.hintOf s)), H) := by
  unfold Sort.hintOf
  by_cases g : s = 0
  · subst g; rfl
  · rw [if_neg g]
    have : ((s : Int) == 0) = false := by simp; omega
    rw [this, cf]
    by_cases g2 : s = 12
    · subst g2; rfl
    · rw [if_neg g2]
      have : ((s : Int) == 12) = false := by simp; omega
      rw [this, cf]; rfl
theorem f86_x {H : Heap} {sl : Sl} {d : Array Int} (h : SA H sl d) (a b : Nat) (hab : a < b) (hb : b ≤ d.size) :
    ∃ H', f86 (some sl) a b H = some ((((Sort.choosePivot Sort.ltInt d a b).1 : Int), Sort.hintCode (Sort.choosePivot Sort.ltInt d a b).2), H') ∧ Kp No H H' := by
  have hl := h.lt'
  rw [Sort.choosePivot_eq]
  have w0 := wmm b a (by omega) (by omega)
  have w1 : IntKind.i64.wrap (((b - a : Nat) : Int).tdiv 4) = (((b - a) / 4 : Nat) : Int) := by rw [show (4 : Int) = ((4 : Nat) : Int) from rfl, tdivN, wrap_i64 (by omega) (by omega)]
  have wk : ∀ k : Nat, k ≤ 3 → IntKind.i64.wrap ((((b - a) / 4 : Nat) : Int) * (k : Int)) = (((b - a) / 4 * k : Nat) : Int) := fun k hk => by
    have : (b - a) / 4 * k ≤ (b - a) / 4 * 3 := Nat.mul_le_mul_left _ hk
    have e : (((b - a) / 4 : Nat) : Int) * (k : Int) = (((b - a) / 4 * k : Nat) : Int) := by simp
    rw [e, wrap_i64 (by omega) (by omega)]
  have k1 : IntKind.i64.wrap ((((b - a) / 4 : Nat) : Int) * 1) = (((b - a) / 4 * 1 : Nat) : Int) := wk 1 (by omega)
  have k2 : IntKind.i64.wrap ((((b - a) / 4 : Nat) : Int) * 2) = (((b - a) / 4 * 2 : Nat) : Int) := wk 2 (by omega)
  have k3 : IntKind.i64.wrap ((((b - a) / 4 : Nat) : Int) * 3) = (((b - a) / 4 * 3 : Nat) : Int) := wk 3 (by omega)
  have v1 := wpp a ((b - a) / 4 * 1) (by omega) (by omega)
  have v2 := wpp a ((b - a) / 4 * 2) (by omega) (by omega)
  have v3 := wpp a ((b - a) / 4 * 3) (by omega) (by omega)
  have hne : H.length ≠ sl.id := fun e => by have := h.os.lt; omega
  have z0 : Sw (H ++ [Blk.row [Cell.int IntKind.i64 0] false]) H.length 0 := push_get _ _
  have kz : Kp No H (H ++ [Blk.row [Cell.int IntKind.i64 0] false]) := Kp.push1 _ _
  have h0 := h.kp kz fun e => e
  rw [q86]
  simp only [w0, w1, k1, k2, k3, v1, v2, v3]
  unfold Sort.rawPivot
  generalize H ++ [Blk.row [Cell.int IntKind.i64 0] false] = Z at *
  by_cases g8 : b - a ≥ 8
  · rw [dT (show ((b - a : Nat) : Int) ≥ 8 by omega), ct, if_pos g8]
    by_cases g50 : b - a ≥ 50
    · rw [dT (show ((b - a : Nat) : Int) ≥ 50 by omega), ct, if_pos g50]
      have m1 : ∀ x s, 1 ≤ x → x + 1 < d.size → (Sort.medianAdjacent Sort.ltInt d x s).1 < d.size := fun x s h1 h2 => by
        rcases Sort.medianAdjacent_mem Sort.ltInt d x s with e | e | e <;> rw [e] <;> omega
      obtain ⟨H1, e1, s1, q1⟩ := f99_x h0 z0 hne (by omega) (a + (b - a) / 4 * 1) (by omega) (by omega)
      have c1 := Sort.medianAdjacent_count Sort.ltInt d (a + (b - a) / 4 * 1) 0
      have y1 := m1 (a + (b - a) / 4 * 1) 0 (by omega) (by omega)
      generalize Sort.medianAdjacent Sort.ltInt d (a + (b - a) / 4 * 1) 0 = r1 at *
      have h1 := h0.kp q1 fun e => hne e.symm
      obtain ⟨H2, e2, s2, q2⟩ := f99_x h1 s1 hne (by omega) (a + (b - a) / 4 * 2) (by omega) (by omega)
      have c2 := Sort.medianAdjacent_count Sort.ltInt d (a + (b - a) / 4 * 2) r1.2
      have y2 := m1 (a + (b - a) / 4 * 2) r1.2 (by omega) (by omega)
      generalize Sort.medianAdjacent Sort.ltInt d (a + (b - a) / 4 * 2) r1.2 = r2 at *
      have h2 := h1.kp q2 fun e => hne e.symm
      obtain ⟨H3, e3, s3, q3⟩ := f99_x h2 s2 hne (by omega) (a + (b - a) / 4 * 3) (by omega) (by omega)
      have c3 := Sort.medianAdjacent_count Sort.ltInt d (a + (b - a) / 4 * 3) r2.2
      have y3 := m1 (a + (b - a) / 4 * 3) r2.2 (by omega) (by omega)
      generalize Sort.medianAdjacent Sort.ltInt d (a + (b - a) / 4 * 3) r2.2 = r3 at *
      have h3 := h2.kp q3 fun e => hne e.symm
      obtain ⟨H4, e4, s4, q4⟩ := f100_x h3 s3 hne (by omega) r1.1 r2.1 r3.1 y1 y2 y3
      refine ⟨H4, ?_, kz.trSet (((q1.one q2).one q3).one q4) (Nat.le_refl _)⟩
      simp only [e1, e2, e3, e4, bs, cell1 s4, tInt, hint_of]
    · rw [dF (show ¬ ((b - a : Nat) : Int) ≥ 50 by omega), cf, if_neg g50]
      obtain ⟨H4, e4, s4, q4⟩ := f100_x h0 z0 hne (by omega) (a + (b - a) / 4 * 1) (a + (b - a) / 4 * 2) (a + (b - a) / 4 * 3) (by omega) (by omega) (by omega)
      refine ⟨H4, ?_, kz.trSet q4 (Nat.le_refl _)⟩
      simp only [e4, bs, cell1 s4, tInt, hint_of]
  · rw [dF (show ¬ ((b - a : Nat) : Int) ≥ 8 by omega), cf, if_neg g8]
    refine ⟨Z, ?_, kz⟩
    have t := hint_of 0 ((a + (b - a) / 4 * 2 : Nat) : Int) Z
    simp only [cell1 z0, bs, tInt]
    exact t
/-! reversal -/
theorem loop87 (sl : Sl) : ∀ (m n i j : Nat) (d : Array Int) (H : Heap), SA H sl d → j < d.size → j - i ≤ m →
    ∃ H', D87_2 (n + m + 1) (some sl) i j H = some (.exit 0, X87_2 H') ∧ SA H' sl (Sort.reverseLoop i j d) ∧ Kp (One sl.id) H H'
  | 0, n, i, j, d, H, h, hj, hm => ⟨H, by rw [show n + 0 + 1 = n + 1 from rfl, D87_2_s, dF (by omega), cf], by rw [Sort.reverseLoop, if_neg (by omega)]; exact h, Kp.refl _ _⟩
  | m + 1, n, i, j, d, H, h, hj, hm => by
    have hl := h.lt'
    rw [show n + (m + 1) + 1 = (n + m + 1) + 1 by omega, D87_2_s, Sort.reverseLoop]
    by_cases g : i < j
    · obtain ⟨H1, H2, p1, p2, h2, k⟩ := h.swp i j (by omega) hj
      obtain ⟨H', e, h', k'⟩ := loop87 sl m n (i + 1) (j - 1) _ H2 h2 (by rw [sz_swp]; omega) (by omega)
      refine ⟨H', ?_, by rw [if_pos g]; exact h', k.one k'⟩
      simp only [dT (show (i : Int) < (j : Int) by omega), ct, bs, h.inb i (by omega), h.get i (by omega), h.inb j hj, h.get j hj, tInt, p1, p2, wp1 i (by omega), wm1 j (by omega) (by omega)]
      exact e
    · exact ⟨H, by rw [dF (by omega), cf], by rw [if_neg g]; exact h, Kp.refl _ _⟩
theorem f87_x {H : Heap} {sl : Sl} {d : Array Int} (h : SA H sl d) (a b : Nat) (hab : a < b) (hb : b ≤ d.size) :
    ∃ H', f87 (some sl) a b H = some ((), H') ∧ SA H' sl (Sort.reverseRange d a b) ∧ Kp (One sl.id) H H' := by
  have hl := h.lt'
  obtain ⟨n, hn⟩ := LL87_2_of (b - 1 - a) (by omega) (some sl) a ((b - 1 : Nat) : Int) H
  obtain ⟨H', e, h', k'⟩ := loop87 sl (b - 1 - a) n a (b - 1) d H h (by omega) (Nat.le_refl _)
  exact ⟨H', by rw [q87, wm1 b (by omega) (by omega), hn, e, bs, J87_2_0], h', k'⟩
/-! partitions -/
theorem loop91_3 (sl : Sl) (a j : Nat) (d : Array Int) (H : Heap) (h : SA H sl d) (ha : a < d.size) (hj : j < d.size) : ∀ (m n i : Nat), j + 1 - i = m →
    D91_3 (n + m + 1) (some sl) a i j H = some (.exit 0, X91_3 (some sl) a (Sort.scanUp (fun x => Sort.ltInt x d[a]!) d j i : Nat) j H)
  | 0, n, i, hm => by
    rw [show n + 0 + 1 = n + 1 from rfl, D91_3_s, dF (by omega), cf, Sort.scanUp, if_neg (by simp; omega)]
  | m + 1, n, i, hm => by
    have hl := h.lt'
    have hij : i ≤ j := by omega
    have dij : decide (i ≤ j) = true := dT hij
    rw [show n + (m + 1) + 1 = (n + m + 1) + 1 by omega, D91_3_s, Sort.scanUp]
    cases g : Sort.ltInt d[i]! d[a]! with
    | true =>
      rw [if_pos (by simp [hij, g])]
      simp only [dT (show (i : Int) ≤ (j : Int) by omega), ct, cf, bs, h.inb i (by omega), h.get i (by omega), h.inb a ha, h.get a ha, tInt, lt_eq, g, Bool.not_true, Bool.not_false, wp1 i (by omega)]
      exact loop91_3 sl a j d H h ha hj m n (i + 1) (by omega)
    | false =>
      rw [if_neg (by simp [g])]
      simp only [dT (show (i : Int) ≤ (j : Int) by omega), ct, cf, bs, h.inb i (by omega), h.get i (by omega), h.inb a ha, h.get a ha, tInt, lt_eq, g, Bool.not_true, Bool.not_false]
theorem loop91_13 (sl : Sl) (a j : Nat) (d : Array Int) (H : Heap) (h : SA H sl d) (ha : a < d.size) (hj : j < d.size) : ∀ (m n i : Nat), j + 1 - i = m →
    D91_13 (n + m + 1) (some sl) a i j H = some (.exit 6, X91_13 (some sl) a (Sort.scanUp (fun x => Sort.ltInt x d[a]!) d j i : Nat) j H)
  | 0, n, i, hm => by
    rw [show n + 0 + 1 = n + 1 from rfl, D91_13_s, dF (by omega), cf, Sort.scanUp, if_neg (by simp; omega)]
  | m + 1, n, i, hm => by
    have hl := h.lt'
    have hij : i ≤ j := by omega
    have dij : decide (i ≤ j) = true := dT hij
    rw [show n + (m + 1) + 1 = (n + m + 1) + 1 by omega, D91_13_s, Sort.scanUp]
    cases g : Sort.ltInt d[i]! d[a]! with
    | true =>
      rw [if_pos (by simp [hij, g])]
      simp only [dT (show (i : Int) ≤ (j : Int) by omega), ct, cf, bs, h.inb i (by omega), h.get i (by omega), h.inb a ha, h.get a ha, tInt, lt_eq, g, Bool.not_true, Bool.not_false, wp1 i (by omega)]
      exact loop91_13 sl a j d H h ha hj m n (i + 1) (by omega)
    | false =>
      rw [if_neg (by simp [g])]
      simp only [dT (show (i : Int) ≤ (j : Int) by omega), ct, cf, bs, h.inb i (by omega), h.get i (by omega), h.inb a ha, h.get a ha, tInt, lt_eq, g, Bool.not_true, Bool.not_false]
theorem loop91_5 (sl : Sl) (a i : Nat) (d : Array Int) (H : Heap) (h : SA H sl d) (ha : a < d.size) (hi : 1 ≤ i) : ∀ (j n : Nat), j < d.size →
    D91_5 (n + j + 1) (some sl) a i j H = some (.exit 2, X91_5 (some sl) a i (Sort.scanDown (fun x => !Sort.ltInt x d[a]!) d i j : Nat) H)
  | 0, n, hj => by
    rw [show n + 0 + 1 = n + 1 from rfl, D91_5_s, dF (by omega), cf, Sort.scanDown]
  | j + 1, n, hj => by
    have hl := h.lt'
    rw [show n + (j + 1) + 1 = (n + j + 1) + 1 by omega, D91_5_s, Sort.scanDown]
    by_cases hij : i ≤ j + 1
    · cases g : Sort.ltInt d[j + 1]! d[a]! with
      | false =>
        rw [if_pos (by simp [hij, g])]
        simp only [dT (show (i : Int) ≤ ((j + 1 : Nat) : Int) by omega), ct, cf, bs, h.inb (j + 1) hj, h.get (j + 1) hj, h.inb a ha, h.get a ha, tInt, lt_eq, g, Bool.not_true, Bool.not_false, ws1 j (by omega)]
        exact loop91_5 sl a i d H h ha hi j n (by omega)
      | true =>
        rw [if_neg (by simp [g])]
        simp only [dT (show (i : Int) ≤ ((j + 1 : Nat) : Int) by omega), ct, cf, bs, h.inb (j + 1) hj, h.get (j + 1) hj, h.inb a ha, h.get a ha, tInt, lt_eq, g, Bool.not_true, Bool.not_false]
    · rw [if_neg (by simp; omega), dF (by omega), cf]
theorem loop91_15 (sl : Sl) (a i : Nat) (d : Array Int) (H : Heap) (h : SA H sl d) (ha : a < d.size) (hi : 1 ≤ i) : ∀ (j n : Nat), j < d.size →
    D91_15 (n + j + 1) (some sl) a i j H = some (.exit 8, X91_15 (some sl) a i (Sort.scanDown (fun x => !Sort.ltInt x d[a]!) d i j : Nat) H)
  | 0, n, hj => by
    rw [show n + 0 + 1 = n + 1 from rfl, D91_15_s, dF (by omega), cf, Sort.scanDown]
  | j + 1, n, hj => by
    have hl := h.lt'
    rw [show n + (j + 1) + 1 = (n + j + 1) + 1 by omega, D91_15_s, Sort.scanDown]
    by_cases hij : i ≤ j + 1
    · cases g : Sort.ltInt d[j + 1]! d[a]! with
      | false =>
        rw [if_pos (by simp [hij, g])]
        simp only [dT (show (i : Int) ≤ ((j + 1 : Nat) : Int) by omega), ct, cf, bs, h.inb (j + 1) hj, h.get (j + 1) hj, h.inb a ha, h.get a ha, tInt, lt_eq, g, Bool.not_true, Bool.not_false, ws1 j (by omega)]
        exact loop91_15 sl a i d H h ha hi j n (by omega)
      | true =>
        rw [if_neg (by simp [g])]
        simp only [dT (show (i : Int) ≤ ((j + 1 : Nat) : Int) by omega), ct, cf, bs, h.inb (j + 1) hj, h.get (j + 1) hj, h.inb a ha, h.get a ha, tInt, lt_eq, g, Bool.not_true, Bool.not_false]
    · rw [if_neg (by simp; omega), dF (by omega), cf]
theorem loop90_3 (sl : Sl) (a j : Nat) (d : Array Int) (H : Heap) (h : SA H sl d) (ha : a < d.size) (hj : j < d.size) : ∀ (m n i : Nat), j + 1 - i = m →
    D90_3 (n + m + 1) (some sl) a i j H = some (.exit 2, X90_3 (some sl) a (Sort.scanUp (fun x => !Sort.ltInt d[a]! x) d j i : Nat) j H)
  | 0, n, i, hm => by
    rw [show n + 0 + 1 = n + 1 from rfl, D90_3_s, dF (by omega), cf, Sort.scanUp, if_neg (by simp; omega)]
  | m + 1, n, i, hm => by
    have hl := h.lt'
    have hij : i ≤ j := by omega
    have dij : decide (i ≤ j) = true := dT hij
    rw [show n + (m + 1) + 1 = (n + m + 1) + 1 by omega, D90_3_s, Sort.scanUp]
    cases g : Sort.ltInt d[a]! d[i]! with
    | false =>
      rw [if_pos (by simp [hij, g])]
      simp only [dT (show (i : Int) ≤ (j : Int) by omega), ct, cf, bs, h.inb i (by omega), h.get i (by omega), h.inb a ha, h.get a ha, tInt, lt_eq, g, Bool.not_true, Bool.not_false, wp1 i (by omega)]
      exact loop90_3 sl a j d H h ha hj m n (i + 1) (by omega)
    | true =>
      rw [if_neg (by simp [g])]
      simp only [dT (show (i : Int) ≤ (j : Int) by omega), ct, cf, bs, h.inb i (by omega), h.get i (by omega), h.inb a ha, h.get a ha, tInt, lt_eq, g, Bool.not_true, Bool.not_false]
theorem loop90_5 (sl : Sl) (a i : Nat) (d : Array Int) (H : Heap) (h : SA H sl d) (ha : a < d.size) (hi : 1 ≤ i) : ∀ (j n : Nat), j < d.size →
    D90_5 (n + j + 1) (some sl) a i j H = some (.exit 4, X90_5 (some sl) a i (Sort.scanDown (fun x => Sort.ltInt d[a]! x) d i j : Nat) H)
  | 0, n, hj => by
    rw [show n + 0 + 1 = n + 1 from rfl, D90_5_s, dF (by omega), cf, Sort.scanDown]
  | j + 1, n, hj => by
    have hl := h.lt'
    rw [show n + (j + 1) + 1 = (n + j + 1) + 1 by omega, D90_5_s, Sort.scanDown]
    by_cases hij : i ≤ j + 1
    · cases g : Sort.ltInt d[a]! d[j + 1]! with
      | true =>
        rw [if_pos (by simp [hij, g])]
        simp only [dT (show (i : Int) ≤ ((j + 1 : Nat) : Int) by omega), ct, cf, bs, h.inb (j + 1) hj, h.get (j + 1) hj, h.inb a ha, h.get a ha, tInt, lt_eq, g, Bool.not_true, Bool.not_false, ws1 j (by omega)]
        exact loop90_5 sl a i d H h ha hi j n (by omega)
      | false =>
        rw [if_neg (by simp [g])]
        simp only [dT (show (i : Int) ≤ ((j + 1 : Nat) : Int) by omega), ct, cf, bs, h.inb (j + 1) hj, h.get (j + 1) hj, h.inb a ha, h.get a ha, tInt, lt_eq, g, Bool.not_true, Bool.not_false]
    · rw [if_neg (by simp; omega), dF (by omega), cf]
theorem loop91 (sl : Sl) (a : Nat) : ∀ (m n i j : Nat) (d : Array Int) (H : Heap), SA H sl d → a < d.size → j < d.size → 1 ≤ i → j + 1 - i ≤ m →
    ∃ H', D91_10013 (n + m + 1) (some sl) a i j H = some (.exit 4, X91_10013 (some sl) a ((Sort.partLoop Sort.ltInt a i j d).1 : Int) H') ∧ SA H' sl (Sort.partLoop Sort.ltInt a i j d).2 ∧ (Sort.partLoop Sort.ltInt a i j d).1 < d.size ∧ Kp (One sl.id) H H' := by
  intro m
  induction m with
  | zero =>
    intro n i j d H h ha hj hi hm
    have hl := h.lt'
    obtain ⟨n1, hn1⟩ := LL91_13_of (j + 1 - i) (by omega) (some sl) a i j H
    have e1 := loop91_13 sl a j d H h ha hj (j + 1 - i) n1 i rfl
    have u := Sort.scanUp_ge (fun x => Sort.ltInt x d[a]!) d j i
    rw [Sort.partLoop_eq]
    generalize Sort.scanUp (fun x => Sort.ltInt x d[a]!) d j i = i2 at *
    obtain ⟨n2, hn2⟩ := LL91_15_of j (by omega) (some sl) a i2 j H
    have e2 := loop91_15 sl a i2 d H h ha (by omega) j n2 hj
    have v := Sort.scanDown_le (fun x => !Sort.ltInt x d[a]!) d i2 j
    generalize Sort.scanDown (fun x => !Sort.ltInt x d[a]!) d i2 j = j2 at *
    have g : i2 > j2 := by omega
    rw [if_pos g]
    refine ⟨H, ?_, h, by show j2 < _; omega, Kp.refl _ _⟩
    rw [show n + 0 + 1 = n + 1 from rfl, D91_10013_s, hn1, e1, bs, J91_13_0, hn2, e2, bs, J91_15_0, dT (by omega), ct]
  | succ m ih =>
    intro n i j d H h ha hj hi hm
    have hl := h.lt'
    obtain ⟨n1, hn1⟩ := LL91_13_of (j + 1 - i) (by omega) (some sl) a i j H
    have e1 := loop91_13 sl a j d H h ha hj (j + 1 - i) n1 i rfl
    have u := Sort.scanUp_ge (fun x => Sort.ltInt x d[a]!) d j i
    rw [Sort.partLoop_eq]
    generalize Sort.scanUp (fun x => Sort.ltInt x d[a]!) d j i = i2 at *
    obtain ⟨n2, hn2⟩ := LL91_15_of j (by omega) (some sl) a i2 j H
    have e2 := loop91_15 sl a i2 d H h ha (by omega) j n2 hj
    have v := Sort.scanDown_le (fun x => !Sort.ltInt x d[a]!) d i2 j
    generalize Sort.scanDown (fun x => !Sort.ltInt x d[a]!) d i2 j = j2 at *
    rw [show n + (m + 1) + 1 = (n + m + 1) + 1 by omega, D91_10013_s, hn1, e1, bs, J91_13_0, hn2, e2, bs, J91_15_0]
    by_cases g : i2 > j2
    · rw [if_pos g]
      refine ⟨H, ?_, h, by show j2 < _; omega, Kp.refl _ _⟩
      rw [dT (by omega), ct]
    · rw [if_neg g]
      obtain ⟨H1, H2, p1, p2, h2, k⟩ := h.swp i2 j2 (by omega) (by omega)
      obtain ⟨H', e, h', lt', k'⟩ := ih n (i2 + 1) (j2 - 1) _ H2 h2 (by rw [sz_swp]; exact ha) (by rw [sz_swp]; omega) (by omega) (by omega)
      refine ⟨H', ?_, h', by rw [sz_swp] at lt'; exact lt', k.one k'⟩
      simp only [dF (show ¬ (i2 : Int) > (j2 : Int) by omega), cf, ct, bs, h.inb i2 (by omega), h.get i2 (by omega), h.inb j2 (by omega), h.get j2 (by omega), tInt, p1, p2, wp1 i2 (by omega), wm1 j2 (by omega) (by omega)]
      exact e
theorem f91_x {H : Heap} {sl : Sl} {d : Array Int} (h : SA H sl d) (a b p : Nat) (hab : a < b) (hb : b ≤ d.size) (hp : p < d.size) :
    ∃ H', f91 (some sl) a b p H = some ((((Sort.partition Sort.ltInt d a b p).1 : Int), (Sort.partition Sort.ltInt d a b p).2.1), H') ∧ SA H' sl (Sort.partition Sort.ltInt d a b p).2.2 ∧ Kp (One sl.id) H H' := by
  have hl := h.lt'
  obtain ⟨H1, H2, p1, p2, h2, k2⟩ := h.swp a p (by omega) hp
  have z2 : (Sort.swp d a p).size = d.size := sz_swp d a p
  unfold Sort.partition
  simp only []
  have e0 : f91 (some sl) a b p H = (LL91_3 (some sl) a ((a + 1 : Nat) : Int) ((b - 1 : Nat) : Int) H2).bind J91_3 := by
    rw [q91]
    simp only [bs, ct, h.inb p hp, h.get p hp, h.inb a (by omega), h.get a (by omega), tInt, p1, p2, wp1 a (by omega), wm1 b (by omega) (by omega)]
  rw [e0]
  generalize Sort.swp d a p = d2 at *
  obtain ⟨n1, hn1⟩ := LL91_3_of (b - 1 + 1 - (a + 1)) (by omega) (some sl) a ((a + 1 : Nat) : Int) ((b - 1 : Nat) : Int) H2
  have e1 := loop91_3 sl a (b - 1) d2 H2 h2 (by omega) (by omega) (b - 1 + 1 - (a + 1)) n1 (a + 1) rfl
  have u := Sort.scanUp_ge (fun x => Sort.ltInt x d2[a]!) d2 (b - 1) (a + 1)
  rw [hn1, e1, bs, J91_3_0]
  generalize Sort.scanUp (fun x => Sort.ltInt x d2[a]!) d2 (b - 1) (a + 1) = i2 at *
  obtain ⟨n2, hn2⟩ := LL91_5_of (b - 1) (by omega) (some sl) a i2 ((b - 1 : Nat) : Int) H2
  have e2 := loop91_5 sl a i2 d2 H2 h2 (by omega) (by omega) (b - 1) n2 (by omega)
  have v := Sort.scanDown_le (fun x => !Sort.ltInt x d2[a]!) d2 i2 (b - 1)
  rw [hn2, e2, bs, J91_5_0]
  generalize Sort.scanDown (fun x => !Sort.ltInt x d2[a]!) d2 i2 (b - 1) = j2 at *
  by_cases g : i2 > j2
  · rw [if_pos g]
    obtain ⟨H3, H4, p3, p4, h4, k4⟩ := h2.swp j2 a (by omega) (by omega)
    refine ⟨H4, ?_, h4, k2.one k4⟩
    simp only [dT (show (i2 : Int) > (j2 : Int) by omega), ct, bs, h2.inb a (by omega), h2.get a (by omega), h2.inb j2 (by omega), h2.get j2 (by omega), tInt, p3, p4]
  · rw [if_neg g]
    obtain ⟨H3, H4, p3, p4, h4, k4⟩ := h2.swp i2 j2 (by omega) (by omega)
    have z4 : (Sort.swp d2 i2 j2).size = d2.size := sz_swp d2 i2 j2
    obtain ⟨n3, hn3⟩ := LL91_10013_of (j2 - 1 + 1 - (i2 + 1)) (by omega) (some sl) a ((i2 + 1 : Nat) : Int) ((j2 - 1 : Nat) : Int) H4
    obtain ⟨H5, e5, h5, l5, k5⟩ := loop91 sl a (j2 - 1 + 1 - (i2 + 1)) n3 (i2 + 1) (j2 - 1) _ H4 h4 (by rw [z4]; omega) (by rw [z4]; omega) (by omega) (Nat.le_refl _)
    simp only []
    generalize Sort.partLoop Sort.ltInt a (i2 + 1) (j2 - 1) (Sort.swp d2 i2 j2) = r at *
    have z5 : r.2.size = d2.size := by rw [h5.size, ← h2.size]
    obtain ⟨H6, H7, p6, p7, h7, k7⟩ := h5.swp r.1 a (by omega) (by omega)
    refine ⟨H7, ?_, h7, ((k2.one k4).one k5).one k7⟩
    simp only [dF (show ¬ (i2 : Int) > (j2 : Int) by omega), cf, ct, bs, h2.inb i2 (by omega), h2.get i2 (by omega), h2.inb j2 (by omega), h2.get j2 (by omega), tInt, p3, p4, wp1 i2 (by omega), wm1 j2 (by omega) (by omega), hn3, e5, J91_10013_0, h5.inb a (by omega), h5.get a (by omega), h5.inb r.1 (by omega), h5.get r.1 (by omega), p6, p7]
theorem loop90 (sl : Sl) (a : Nat) : ∀ (m n i j : Nat) (d : Array Int) (H : Heap), SA H sl d → a < d.size → j < d.size → 1 ≤ i → j + 1 - i ≤ m →
    ∃ H', D90_10003 (n + m + 1) (some sl) a i j H = some (.exit 0, X90_10003 ((Sort.partEqLoop Sort.ltInt a i j d).1 : Int) H') ∧ SA H' sl (Sort.partEqLoop Sort.ltInt a i j d).2 ∧ Kp (One sl.id) H H' := by
  intro m
  induction m with
  | zero =>
    intro n i j d H h ha hj hi hm
    have hl := h.lt'
    obtain ⟨n1, hn1⟩ := LL90_3_of (j + 1 - i) (by omega) (some sl) a i j H
    have e1 := loop90_3 sl a j d H h ha hj (j + 1 - i) n1 i rfl
    have u := Sort.scanUp_ge (fun x => !Sort.ltInt d[a]! x) d j i
    rw [Sort.partEqLoop_eq]
    generalize Sort.scanUp (fun x => !Sort.ltInt d[a]! x) d j i = i2 at *
    obtain ⟨n2, hn2⟩ := LL90_5_of j (by omega) (some sl) a i2 j H
    have e2 := loop90_5 sl a i2 d H h ha (by omega) j n2 hj
    have v := Sort.scanDown_le (fun x => Sort.ltInt d[a]! x) d i2 j
    generalize Sort.scanDown (fun x => Sort.ltInt d[a]! x) d i2 j = j2 at *
    have g : i2 > j2 := by omega
    rw [if_pos g]
    refine ⟨H, ?_, h, Kp.refl _ _⟩
    rw [show n + 0 + 1 = n + 1 from rfl, D90_10003_s, hn1, e1, bs, J90_3_0, hn2, e2, bs, J90_5_0, dT (by omega), ct]
  | succ m ih =>
    intro n i j d H h ha hj hi hm
    have hl := h.lt'
    obtain ⟨n1, hn1⟩ := LL90_3_of (j + 1 - i) (by omega) (some sl) a i j H
    have e1 := loop90_3 sl a j d H h ha hj (j + 1 - i) n1 i rfl
    have u := Sort.scanUp_ge (fun x => !Sort.ltInt d[a]! x) d j i
    rw [Sort.partEqLoop_eq]
    generalize Sort.scanUp (fun x => !Sort.ltInt d[a]! x) d j i = i2 at *
    obtain ⟨n2, hn2⟩ := LL90_5_of j (by omega) (some sl) a i2 j H
    have e2 := loop90_5 sl a i2 d H h ha (by omega) j n2 hj
    have v := Sort.scanDown_le (fun x => Sort.ltInt d[a]! x) d i2 j
    generalize Sort.scanDown (fun x => Sort.ltInt d[a]! x) d i2 j = j2 at *
    rw [show n + (m + 1) + 1 = (n + m + 1) + 1 by omega, D90_10003_s, hn1, e1, bs, J90_3_0, hn2, e2, bs, J90_5_0]
    by_cases g : i2 > j2
    · rw [if_pos g]
      refine ⟨H, ?_, h, Kp.refl _ _⟩
      rw [dT (by omega), ct]
    · rw [if_neg g]
      obtain ⟨H1, H2, p1, p2, h2, k⟩ := h.swp i2 j2 (by omega) (by omega)
      obtain ⟨H', e, h', k'⟩ := ih n (i2 + 1) (j2 - 1) _ H2 h2 (by rw [sz_swp]; exact ha) (by rw [sz_swp]; omega) (by omega) (by omega)
      refine ⟨H', ?_, h', k.one k'⟩
      simp only [dF (show ¬ (i2 : Int) > (j2 : Int) by omega), cf, ct, bs, h.inb i2 (by omega), h.get i2 (by omega), h.inb j2 (by omega), h.get j2 (by omega), tInt, p1, p2, wp1 i2 (by omega), wm1 j2 (by omega) (by omega)]
      exact e
theorem f90_x {H : Heap} {sl : Sl} {d : Array Int} (h : SA H sl d) (a b p : Nat) (hab : a < b) (hb : b ≤ d.size) (hp : p < d.size) :
    ∃ H', f90 (some sl) a b p H = some (((Sort.partitionEqual Sort.ltInt d a b p).1 : Int), H') ∧ SA H' sl (Sort.partitionEqual Sort.ltInt d a b p).2 ∧ Kp (One sl.id) H H' := by
  have hl := h.lt'
  obtain ⟨H1, H2, p1, p2, h2, k2⟩ := h.swp a p (by omega) hp
  have z2 : (Sort.swp d a p).size = d.size := sz_swp d a p
  unfold Sort.partitionEqual
  have e0 : f90 (some sl) a b p H = (LL90_10003 (some sl) a ((a + 1 : Nat) : Int) ((b - 1 : Nat) : Int) H2).bind J90_10003 := by
    rw [q90]
    simp only [bs, ct, h.inb p hp, h.get p hp, h.inb a (by omega), h.get a (by omega), tInt, p1, p2, wp1 a (by omega), wm1 b (by omega) (by omega)]
  rw [e0]
  obtain ⟨n3, hn3⟩ := LL90_10003_of (b - 1 + 1 - (a + 1)) (by omega) (some sl) a ((a + 1 : Nat) : Int) ((b - 1 : Nat) : Int) H2
  obtain ⟨H5, e5, h5, k5⟩ := loop90 sl a (b - 1 + 1 - (a + 1)) n3 (a + 1) (b - 1) _ H2 h2 (by omega) (by omega) (by omega) (Nat.le_refl _)
  refine ⟨H5, ?_, h5, k2.one k5⟩
  rw [hn3, e5, bs, J90_10003_0]
/-! sorted already? -/
theorem loop88_5 (sl : Sl) (a b t : Int) (bn : Nat) (hbn : b = (bn : Int)) (d : Array Int) (H : Heap) (h : SA H sl d) (hb : bn ≤ d.size) : ∀ (m n i : Nat), bn - i = m → 1 ≤ i → i ≤ bn →
    D88_5 (n + m + 1) (some sl) a b i t H = some (.exit 2, X88_5 (some sl) a b (Sort.scanSorted Sort.ltInt d bn i : Nat) t H) ∧ i ≤ Sort.scanSorted Sort.ltInt d bn i ∧ Sort.scanSorted Sort.ltInt d bn i ≤ bn
  | 0, n, i, hm, hi, hib => by
    rw [show n + 0 + 1 = n + 1 from rfl, D88_5_s, hbn, dF (by omega), cf, Sort.scanSorted, if_neg (by simp; omega)]
    exact ⟨rfl, Nat.le_refl _, hib⟩
  | m + 1, n, i, hm, hi, hib => by
    have hl := h.lt'
    rw [show n + (m + 1) + 1 = (n + m + 1) + 1 by omega, D88_5_s, Sort.scanSorted]
    cases g : Sort.ltInt d[i]! d[i - 1]! with
    | false =>
      rw [if_pos (by simp; omega)]
      obtain ⟨e, l1, l2⟩ := loop88_5 sl a b t bn hbn d H h hb m n (i + 1) (by omega) (by omega) (by omega)
      refine ⟨?_, by omega, l2⟩
      simp only [hbn, dT (show (i : Int) < (bn : Int) by omega), ct, cf, bs, h.inb i (by omega), h.get i (by omega), wm1 i (by omega) hi, h.inb (i - 1) (by omega), h.get (i - 1) (by omega), tInt, lt_eq, g, Bool.not_false, wp1 i (by omega)]
      rw [hbn] at e
      exact e
    | true =>
      rw [if_neg (by simp)]
      refine ⟨?_, Nat.le_refl _, hib⟩
      simp only [hbn, dT (show (i : Int) < (bn : Int) by omega), ct, cf, bs, h.inb i (by omega), h.get i (by omega), wm1 i (by omega) hi, h.inb (i - 1) (by omega), h.get (i - 1) (by omega), tInt, lt_eq, g, Bool.not_true]
theorem loop88_14 (sl : Sl) (a b i t : Int) : ∀ (j n : Nat) (d : Array Int) (H : Heap), SA H sl d → j < d.size →
    ∃ H', D88_14 (n + j + 1) (some sl) a b i t j H = some (.exit 4, X88_14 (some sl) a b i t H') ∧ SA H' sl (Sort.shiftDown Sort.ltInt j d) ∧ Kp (One sl.id) H H'
  | 0, n, d, H, h, hj => ⟨H, by rw [show n + 0 + 1 = n + 1 from rfl, D88_14_s, dF (by omega), cf], by rw [Sort.shiftDown]; exact h, Kp.refl _ _⟩
  | j + 1, n, d, H, h, hj => by
    have hl := h.lt'
    rw [show n + (j + 1) + 1 = (n + j + 1) + 1 by omega, D88_14_s, Sort.shiftDown]
    cases g : Sort.ltInt d[j + 1]! d[j]! with
    | true =>
      obtain ⟨H1, H2, p1, p2, h2, k⟩ := h.swp (j + 1) j hj (by omega)
      obtain ⟨H', e, h', k'⟩ := loop88_14 sl a b i t j n _ H2 h2 (by rw [sz_swp]; omega)
      refine ⟨H', ?_, by rw [if_neg (by simp)]; exact h', k.one k'⟩
      simp only [dT (show ((j + 1 : Nat) : Int) ≥ 1 by omega), ct, cf, bs, h.inb (j + 1) hj, h.get (j + 1) hj, ws1 j (by omega), h.inb j (by omega), h.get j (by omega), tInt, lt_eq, g, Bool.not_true, p1, p2]
      exact e
    | false =>
      refine ⟨H, ?_, by rw [if_pos (by simp)]; exact h, Kp.refl _ _⟩
      simp only [dT (show ((j + 1 : Nat) : Int) ≥ 1 by omega), ct, cf, bs, h.inb (j + 1) hj, h.get (j + 1) hj, ws1 j (by omega), h.inb j (by omega), h.get j (by omega), tInt, lt_eq, g, Bool.not_false]
theorem loop88_20 (sl : Sl) (a b i t : Int) (bn : Nat) (hbn : b = (bn : Int)) : ∀ (m n j : Nat) (d : Array Int) (H : Heap), SA H sl d → bn ≤ d.size → 1 ≤ j → bn - j = m →
    ∃ H', D88_20 (n + m + 1) (some sl) a b i t j H = some (.exit 6, X88_20 (some sl) a b i t H') ∧ SA H' sl (Sort.shiftUp Sort.ltInt bn j d) ∧ Kp (One sl.id) H H'
  | 0, n, j, d, H, h, hb, hj, hm => ⟨H, by rw [show n + 0 + 1 = n + 1 from rfl, D88_20_s, hbn, dF (by omega), cf], by rw [Sort.shiftUp, if_neg (by omega)]; exact h, Kp.refl _ _⟩
  | m + 1, n, j, d, H, h, hb, hj, hm => by
    have hl := h.lt'
    rw [show n + (m + 1) + 1 = (n + m + 1) + 1 by omega, D88_20_s, Sort.shiftUp, if_pos (by omega)]
    cases g : Sort.ltInt d[j]! d[j - 1]! with
    | true =>
      obtain ⟨H1, H2, p1, p2, h2, k⟩ := h.swp j (j - 1) (by omega) (by omega)
      obtain ⟨H', e, h', k'⟩ := loop88_20 sl a b i t bn hbn m n (j + 1) _ H2 h2 (by rw [sz_swp]; omega) (by omega) (by omega)
      refine ⟨H', ?_, by rw [if_neg (by simp)]; exact h', k.one k'⟩
      simp only [hbn, dT (show (j : Int) < (bn : Int) by omega), ct, cf, bs, h.inb j (by omega), h.get j (by omega), wm1 j (by omega) hj, h.inb (j - 1) (by omega), h.get (j - 1) (by omega), tInt, lt_eq, g, Bool.not_true, p1, p2, wp1 j (by omega)]
      rw [hbn] at e
      exact e
    | false =>
      refine ⟨H, ?_, by rw [if_pos (by simp)]; exact h, Kp.refl _ _⟩
      simp only [hbn, dT (show (j : Int) < (bn : Int) by omega), ct, cf, bs, h.inb j (by omega), h.get j (by omega), wm1 j (by omega) hj, h.inb (j - 1) (by omega), h.get (j - 1) (by omega), tInt, lt_eq, g, Bool.not_false]
theorem loop88 (sl : Sl) (a b : Nat) (hab : a < b) : ∀ (s n i : Nat) (d : Array Int) (H : Heap), SA H sl d → b ≤ d.size → a < i → i ≤ b → s ≤ 5 →
    ∃ H', (D88_3 (n + s + 1) (some sl) a b i (5 - (s : Int)) H).bind J88_3 = some ((Sort.partialIns Sort.ltInt a b s i d).2, H') ∧ SA H' sl (Sort.partialIns Sort.ltInt a b s i d).1 ∧ Kp (One sl.id) H H'
  | 0, n, i, d, H, h, hb, hi, hib, hs => by
    refine ⟨H, ?_, by rw [Sort.partialIns]; exact h, Kp.refl _ _⟩
    rw [show n + 0 + 1 = n + 1 from rfl, D88_3_s, dF (by omega), cf, bs, J88_3_0, Sort.partialIns]
  | s + 1, n, i, d, H, h, hb, hi, hib, hs => by
    have hl := h.lt'
    obtain ⟨n1, hn1⟩ := LL88_5_of (b - i) (by omega) (some sl) a b i (5 - ((s + 1 : Nat) : Int)) H
    obtain ⟨e1, l1, l2⟩ := loop88_5 sl a b (5 - ((s + 1 : Nat) : Int)) b rfl d H h hb (b - i) n1 i rfl (by omega) hib
    rw [show n + (s + 1) + 1 = (n + s + 1) + 1 by omega, D88_3_s, dT (by omega), ct, hn1, e1, bs, J88_5_0, Sort.partialIns]
    simp only []
    generalize Sort.scanSorted Sort.ltInt d b i = q at *
    by_cases g1 : q = b
    · rw [if_pos g1]
      refine ⟨H, ?_, h, Kp.refl _ _⟩
      have : ((q : Int) == (b : Int)) = true := by simp [g1]
      rw [this, ct, bs, J88_3_1]
    · rw [if_neg g1]
      have g1' : ((q : Int) == (b : Int)) = false := by simp; omega
      by_cases g2 : b - a < 50
      · rw [if_pos g2]
        refine ⟨H, ?_, h, Kp.refl _ _⟩
        rw [g1', cf, wmm b a (by omega) (by omega), dT (by omega), ct, bs, J88_3_1]
      · rw [if_neg g2]
        obtain ⟨H1, H2, p1, p2, h2, k2⟩ := h.swp q (q - 1) (by omega) (by omega)
        have z2 := sz_swp d q (q - 1)
        have t5 : IntKind.i64.wrap (5 - ((s + 1 : Nat) : Int) + 1) = 5 - (s : Int) := by rw [wrap_i64 (by omega) (by omega)]; omega
        have w1 := wmm q a (by omega) (by omega)
        have w2 := wmm b q (by omega) (by omega)
        simp only [g1', cf, ct, bs, wmm b a (by omega) (by omega), dF (show ¬ ((b - a : Nat) : Int) < 50 by omega), wm1 q (by omega) (by omega), h.inb q (by omega), h.get q (by omega), h.inb (q - 1) (by omega), h.get (q - 1) (by omega), tInt, p1, p2, w1, w2, wp1 q (by omega), t5]
        generalize Sort.swp d q (q - 1) = d2 at *
        -- from behind the shift downward
        have up : ∀ (d3 : Array Int) (H3 : Heap), SA H3 sl d3 → d3.size = d.size → ∀ e : Option (AExit × St),
            (e = bif decide (((b - q : Nat) : Int) ≥ 2) then (LL88_20 (some sl) a b q (5 - ((s + 1 : Nat) : Int)) ((q + 1 : Nat) : Int) H3).bind (J88_20 (n + s + 1)) else D88_3 (n + s + 1) (some sl) a b q (5 - (s : Int)) H3) →
            ∃ H', e.bind J88_3 = some ((Sort.partialIns Sort.ltInt a b s q (if b - q ≥ 2 then Sort.shiftUp Sort.ltInt b (q + 1) d3 else d3)).2, H') ∧ SA H' sl (Sort.partialIns Sort.ltInt a b s q (if b - q ≥ 2 then Sort.shiftUp Sort.ltInt b (q + 1) d3 else d3)).1 ∧ Kp (One sl.id) H3 H' := by
          intro d3 H3 h3 z3 e he
          by_cases g4 : b - q ≥ 2
          · obtain ⟨n4, hn4⟩ := LL88_20_of (b - (q + 1)) (by omega) (some sl) a b q (5 - ((s + 1 : Nat) : Int)) ((q + 1 : Nat) : Int) H3
            obtain ⟨H4, e4, h4, k4⟩ := loop88_20 sl a b q (5 - ((s + 1 : Nat) : Int)) b rfl (b - (q + 1)) n4 (q + 1) d3 H3 h3 (by omega) (by omega) rfl
            rw [if_pos g4]
            obtain ⟨H5, e5, h5, k5⟩ := loop88 sl a b hab s n q _ H4 h4 (by rw [h4.size, ← h.size]; omega) (by omega) (by omega) (by omega)
            refine ⟨H5, ?_, h5, k4.one k5⟩
            rw [he, dT (by omega), ct, hn4, e4, bs, J88_20_0, t5, e5]
          · rw [if_neg g4]
            obtain ⟨H5, e5, h5, k5⟩ := loop88 sl a b hab s n q _ H3 h3 (by omega) (by omega) (by omega) (by omega)
            refine ⟨H5, ?_, h5, k5⟩
            rw [he, dF (by omega), cf, e5]
        by_cases g3 : q - a ≥ 2
        · obtain ⟨n3, hn3⟩ := LL88_14_of (q - 1) (by omega) (some sl) a b q (5 - ((s + 1 : Nat) : Int)) ((q - 1 : Nat) : Int) H2
          obtain ⟨H3, e3, h3, k3⟩ := loop88_14 sl a b q (5 - ((s + 1 : Nat) : Int)) (q - 1) n3 d2 H2 h2 (by omega)
          rw [if_pos g3]
          obtain ⟨H4, e4, h4, k4⟩ := up _ H3 h3 (by rw [h3.size, ← h.size]) _ rfl
          refine ⟨H4, ?_, h4, (k2.one k3).one k4⟩
          rw [← e4, dT (show ((q - a : Nat) : Int) ≥ 2 by omega), ct, hn3, e3, bs, J88_14_0, w2, wp1 q (by omega), t5]
        · rw [if_neg g3]
          obtain ⟨H4, e4, h4, k4⟩ := up _ H2 h2 z2 _ rfl
          refine ⟨H4, ?_, h4, k2.one k4⟩
          rw [← e4, dF (show ¬ ((q - a : Nat) : Int) ≥ 2 by omega), cf]
theorem f88_x {H : Heap} {sl : Sl} {d : Array Int} (h : SA H sl d) (a b : Nat) (hab : a < b) (hb : b ≤ d.size) :
    ∃ H', f88 (some sl) a b H = some ((Sort.partialInsertionSort Sort.ltInt d a b).2, H') ∧ SA H' sl (Sort.partialInsertionSort Sort.ltInt d a b).1 ∧ Kp (One sl.id) H H' := by
  have hl := h.lt'
  obtain ⟨n, hn⟩ := LL88_3_of 5 (by omega) (some sl) a b ((a + 1 : Nat) : Int) 0 H
  obtain ⟨H', e, h', k'⟩ := loop88 sl a b hab 5 n (a + 1) d H h hb (by omega) (by omega) (by omega)
  exact ⟨H', by rw [q88, wp1 a (by omega), hn]; exact e, h', k'⟩
end
end Go.Proofs.Ytnjdajcgcnjamaa
