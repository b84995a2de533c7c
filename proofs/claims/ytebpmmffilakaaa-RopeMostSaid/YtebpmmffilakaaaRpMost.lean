/- RopeMost: the law holds for every input. -/
import Derived.Test.YtebpmmffilakaaaRp3
namespace Go.Proofs.Ytebpmmffilakaaa
open Go Go.Proofs.Ytebpmmffilakaaa.Ab
set_option linter.unusedVariables false
set_option linter.unusedSimpArgs false
set_option maxRecDepth 100000
noncomputable section
theorem rss2 {H : Heap} {a b : Option Sl} {la lb : List UInt8} (ha : RS 1 E8 H a la) (hb : RS 1 E8 H b lb) : RSS (H ++ [Blk.row [Cell.slice a, Cell.slice b] false]) (some { id := List.length H, off := 0, len := 2, cap := 2, esz := 1 }) [la, lb] := by
  have k1 : Kp No H (H ++ [Blk.row [Cell.slice a, Cell.slice b] false]) := Kp.push _ _ _
  refine ⟨[a, b], ⟨rfl, rfl, Nat.le_refl _, fun i c e => ?_⟩, rfl, fun j p l e1 e2 => ?_⟩
  · show Heap.get _ H.length (0 + i) = some c
    rw [za, get_of (push_get _ _)]; exact e
  · match j, e1, e2 with
    | 0, e1, e2 => cases e1; cases e2; exact ha.new E8_len (by decide) k1 fun _ _ h => h
    | 1, e1, e2 => cases e1; cases e2; exact hb.new E8_len (by decide) k1 fun _ _ h => h
    | j + 2, e1, e2 => simp at e1
theorem rs1 {α : Type} {E : α → List Cell} (x : α) (hE : (E x).length = 1) (H : Heap) : RS 1 E (H ++ [Blk.row (E x) false]) (some { id := List.length H, off := 0, len := 1, cap := 1, esz := 1 }) [x] := ⟨rfl, rfl, Nat.le_refl _, fun i c e => by
    show Heap.get _ H.length (0 + i) = some c
    rw [za, get_of (push_get _ _)]; simpa using e⟩
theorem zeros_cat (n : Nat) (h : 100 ≤ n) : catCut [] [(List.replicate n (0 : UInt8)).take 100, (List.replicate n (0 : UInt8)).drop 100] = List.replicate (min n 1048576) 0 := by
  simp only [catCut, List.take_replicate, List.drop_replicate, List.nil_append, List.length_nil, List.length_replicate, List.replicate_append_replicate]
  congr 1; omega
theorem padN_most (k : Nat) (h : k < 20) : padN (1048576 - k) 65536 = k := by unfold padN; omega
theorem f5_true (o w : Int) (H : Heap) : ∃ H', f5 o w H = some (true, H') := by
  have ho : -20 < o.tmod 20 ∧ o.tmod 20 < 20 := by
    rcases Int.le_total 0 o with h | h
    · have := Int.tmod_nonneg 20 h; have := Int.tmod_lt_of_pos o (show (0 : Int) < 20 by decide); omega
    · have h1 : o.tmod 20 = -((-o).tmod 20) := by rw [Int.neg_tmod]; omega
      have := Int.tmod_nonneg 20 (show 0 ≤ -o by omega); have := Int.tmod_lt_of_pos (-o) (show (0 : Int) < 20 by decide); omega
  rw [q5]
  generalize o.tmod 20 = x at ho ⊢
  obtain ⟨n, hn⟩ : ∃ n : Nat, 1048576 + x = (n : Int) := ⟨(1048576 + x).toNat, by omega⟩
  have gn : IntKind.i64.wrap (1048576 + x) = (n : Int) := by rw [wrap_i64 (by omega) (by omega)]; exact hn
  obtain ⟨H1, m1, m2, m3, m4⟩ := make_OS E8_len H 0 n 1 (by unfold most; omega) (by unfold most; omega)
  obtain ⟨sa, a1, a2, _⟩ := m2.rs.sub0 E8_len 100 (by simp; omega)
  obtain ⟨sb, b1, b2, _⟩ := m2.rs.subE E8_len 100 (by simp; omega)
  have hrs := rss2 a2 b2
  obtain ⟨H2, d1, d2, d3⟩ := f10_spec _ _ _ hrs (by simp) (by simp; omega)
  rw [zeros_cat n (by omega)] at d2
  have l1 : (H1 ++ [Blk.row [Cell.slice sa, Cell.slice sb] false]).length = H1.length + 1 := by simp
  rw [l1] at d1 d2
  have hF : ∀ i, H2.length ≤ i → Up (H1.length + 1) i := fun i hi => by have := d3.len; unfold Up; omega
  have z4 : ((4 : Int) == 4) = true := by decide
  have z0 : ((0 : Int) == 0) = true := by decide
  have m1' : H.make 1 1 [Cell.int IntKind.u8 0] (n : Int) (n : Int) = some (some ⟨H.length, 0, n, n, 1⟩, H1) := m1
  have e1 : esOk (some ⟨H.length, 0, n, n, 1⟩) 1 = true := rfl
  have b1' : Sl.sub (some ⟨H.length, 0, n, n, 1⟩) 100 none = some sb := b1
  have a1' : Sl.sub (some ⟨H.length, 0, n, n, 1⟩) 0 (some 100) = some sa := a1
  have is1 : bits_Is ((1 : Nat) : Int) = true := by decide
  -- a full rope takes no number more
  have full : ∀ (G : Nat → Prop) (X : Heap) (b : List UInt8), RP G X (H1.length + 1) b → b.length = 1048576 → f11 (some (H1.length + 1, 0)) 1 (some { id := List.length X, off := 0, len := 1, cap := 1, esz := 1 }) (X ++ [Blk.row [Cell.int IntKind.u64 5] false]) = some (4, X ++ [Blk.row [Cell.int IntKind.u64 5] false]) := fun G X b hr hb =>
    f11_full (w := 1) _ [5] _ (rp_kp hr (Kp.push _ _ _)) (by omega) (rs1 (E := EU) 5 rfl X) is1 (by simp) (by simp; omega)
  rw [gn]
  by_cases hx : 0 ≤ x
  · have g1 : decide (x ≥ 0) = true := by simp; omega
    obtain ⟨N, hN⟩ : ∃ N : Nat, N = 1048576 := ⟨_, rfl⟩
    have hmin : min n 1048576 = N := by omega
    rw [hmin] at d2
    have hlen := g12_spec H2 d2
    rw [List.length_replicate] at hlen
    have zl : (((N : Nat) : Int) == 1048576) = true := by rw [hN]; decide
    have hfull := full _ H2 _ d2 (by rw [List.length_replicate]; exact hN)
    have hr2 : RP (Up (H1.length + 1)) (H2 ++ [Blk.row [Cell.int IntKind.u64 5] false] ++ [Blk.row [Cell.str { data := #[] }] false]) (H1.length + 1) (List.replicate N 0) := rp_kp (rp_kp d2 (Kp.push _ _ _)) (Kp.push _ _ _)
    obtain ⟨_, t2, _⟩ := f25_spec hr2 (by rw [List.length_replicate]; omega) (fun i hi => hF i (by rw [List.length_append, List.length_append] at hi; omega)) (rs1 (E := EStr) { data := #[] } rfl (H2 ++ [Blk.row [Cell.int IntKind.u64 5] false])) (by simp) (fun s hs => by rw [List.mem_singleton.1 hs]; exact Nat.zero_le _)
    obtain ⟨H3, t3, _⟩ := t2 (fun s hs => by rw [List.mem_singleton.1 hs]; rfl) (by rw [List.length_replicate, hN]; have : total (tparts [{ data := #[] }]) = 1 := rfl; omega)
    exact ⟨H3, bnd m1' (bnd a1' (cdt e1 (bnd b1' (cdt e1 (bnd d1 (cdt g1 (bnd hlen (cdt zl (bnd hfull (cdt z4 (bnd t3 (cdt z4 rfl))))))))))))⟩
  · have g1 : decide (x ≥ 0) = false := by simp; omega
    obtain ⟨k, hk⟩ : ∃ k : Nat, 0 - x = (k : Int) := ⟨(0 - x).toNat, by omega⟩
    have gk : IntKind.i64.wrap (0 - x) = (k : Int) := by rw [wrap_i64 (by omega) (by omega)]; exact hk
    have hmin : min n 1048576 = 1048576 - k := by omega
    rw [hmin] at d2
    rw [gk]
    have zl : (((1048576 : Nat) : Int) == 1048576) = true := by decide
    by_cases w0 : w.tmod 3 = 0
    · have gw : (w.tmod 3 == 0) = true := by simp [w0]
      obtain ⟨H3, p1, p2, p3, p4⟩ := make_OS E8_len H2 0 k 1 (by unfold most; omega) (by unfold most; omega)
      have p1' : H2.make 1 1 [Cell.int IntKind.u8 0] (k : Int) (k : Int) = some (some ⟨H2.length, 0, k, k, 1⟩, H3) := p1
      have r3 : RS 1 E8 (H3 ++ [Blk.row [Cell.int IntKind.u8 1] false]) (some ⟨H2.length, 0, k, k, 1⟩) (List.replicate k 0) := p2.rs.new E8_len (by decide) (Kp.push _ _ _) (fun _ _ h => h)
      have r4 := rs1 (E := E8) 1 rfl H3
      have r5 := rss2 r3 r4
      have hr2 := rp_kp (rp_kp (rp_kp d2 p3) (Kp.push No H3 [Blk.row (E8 1) false])) (Kp.push No _ [Blk.row [Cell.slice (some ⟨H2.length, 0, k, k, 1⟩), Cell.slice (some { id := List.length H3, off := 0, len := 1, cap := 1, esz := 1 })] false])
      have h26 := f26_full hr2 (by rw [List.length_replicate]; omega) r5 (by simp) (by rw [List.length_replicate]; simp [total]; omega)
      have hlen := g12_spec _ hr2
      rw [List.length_replicate] at hlen
      have zl2 : (((1048576 - k : Nat) : Int) == slen (some ⟨H.length, 0, n, n, 1⟩)) = true := by simp [slen]; omega
      exact ⟨_, bnd m1' (bnd a1' (cdt e1 (bnd b1' (cdt e1 (bnd d1 (cdf g1 (cdt gw (bnd p1' (bnd h26 (bnd hlen (cdt zl2 rfl)))))))))))⟩
    · have gw : (w.tmod 3 == 0) = false := by simp [w0]
      by_cases w1 : w.tmod 3 = 1
      · have gw1 : (w.tmod 3 == 1) = true := by simp [w1]
        obtain ⟨H3, p1, p2, p3, p4⟩ := make_OS EU_len H2 0 k 8 (by unfold most; omega) (by unfold most; omega)
        have p1' : H2.make 1 8 [Cell.int IntKind.u64 0] (k : Int) (k : Int) = some (some ⟨H2.length, 0, k, k, 1⟩, H3) := p1
        have hl2 := d3.len
        rw [l1] at hl2
        have hr3 : RP (fun i => i < H2.length ∧ Up (H1.length + 1) i ∨ H3.length ≤ i) H3 (H1.length + 1) (List.replicate (1048576 - k) 0) := rp_mono (rp_kp (rp_mono d2 (G := fun i => i < H2.length ∧ Up (H1.length + 1) i) fun i hi h => ⟨hi, h⟩) p3) fun i _ h => .inl h
        obtain ⟨H4, c1, c2, c3⟩ := f11_spec (some ⟨H2.length, 0, k, k, 1⟩) (List.replicate k 0) 1 H3 hr3 (fun i hi => .inr hi) p2.rs (fun sl e _ h => by cases e; rcases h with h | h <;> simp at h; omega) is1 (by simp; omega)
        have hb4 : (List.replicate (1048576 - k) (0 : UInt8) ++ (List.replicate k 0).flatMap (leB 1)).length = 1048576 := by
          have : ((List.replicate k 0).flatMap (leB 1)).length = k := by
            rw [List.length_flatMap]
            simp [leB_length]
          rw [List.length_append, this, List.length_replicate]; omega
        have hlen := g12_spec H4 c2
        rw [hb4] at hlen
        have hfull := full _ H4 _ c2 hb4
        exact ⟨_, bnd m1' (bnd a1' (cdt e1 (bnd b1' (cdt e1 (bnd d1 (cdf g1 (cdf gw (cdt gw1 (bnd p1' (bnd c1 (cdt z0 (bnd hlen (cdt zl (bnd hfull (cdt z4 rfl)))))))))))))))⟩
      · have gw1 : (w.tmod 3 == 1) = false := by simp [w1]
        obtain ⟨_, t2⟩ := f27_spec d2 (by rw [List.length_replicate]; omega) hF 65536 (by omega) (by omega)
        rw [List.length_replicate, padN_most k (by omega)] at t2
        obtain ⟨H4, c1, c2, c3⟩ := t2 (by omega)
        have hb4 : (List.replicate (1048576 - k) (0 : UInt8) ++ List.replicate k 0).length = 1048576 := by rw [List.length_append, List.length_replicate, List.length_replicate]; omega
        have hlen := g12_spec H4 c2
        rw [hb4] at hlen
        have hfull := full _ H4 _ c2 hb4
        exact ⟨_, bnd m1' (bnd a1' (cdt e1 (bnd b1' (cdt e1 (bnd d1 (cdf g1 (cdf gw (cdf gw1 (bnd c1 (cdt z0 (bnd hlen (cdt zl (bnd hfull (cdt z4 rfl))))))))))))))⟩
theorem holds5 (Hp : Heap) (xs : List TV) (_hn : NoOwn Hp) (hxs : TShAll Try.prog Hp 12 Try.f5.params.toList xs) : fnA CC5 Try.f5.results.toList (bodyOf Try.f5) Bool xs Hp (fun x _ => x.cell.bind Cell.toBool) = some true := by
  have hp : Try.f5.params.toList = [3, 3] := by kernel_rfl
  rw [hp] at hxs
  obtain ⟨x0, xr, rfl, t0, x1, xr1, rfl, t1, hnil⟩ := hxs
  subst hnil
  obtain ⟨c0, rfl, s0⟩ := tsh_c t0 (by simp [Try.underlying3]) (by simp [Try.underlying3])
  obtain ⟨c1, rfl, s1⟩ := tsh_c t1 (by simp [Try.underlying3]) (by simp [Try.underlying3])
  obtain ⟨x, e0, _⟩ := sh_int s0 Try.underlying3
  obtain ⟨y, e1, _⟩ := sh_int s1 Try.underlying3
  cases e0; cases e1
  obtain ⟨H', h⟩ := f5_true x y Hp
  rw [f5_eq] at h
  exact law_of hN5 (fun v hv => by
    unfold dec5 at hv
    split at hv
    · cases hv; rfl
    · cases hv) h
end
end Go.Proofs.Ytebpmmffilakaaa
