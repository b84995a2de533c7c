/- Layer 3: ElfSize. -/
import Derived.Test.YtmjmhipfkbedaaaElZ
namespace Go.Proofs.Ytmjmhipfkbedaaa
open Go Go.Proofs.Ytmjmhipfkbedaaa.Ab
set_option linter.unusedVariables false
set_option linter.unusedSimpArgs false
set_option maxRecDepth 100000
noncomputable section
theorem over_eq (over : Int) : ∃ n : Nat, IntKind.i64.wrap (1048000 + over.tmod 40) = (n : Int) ∧ 1047960 ≤ n ∧ n ≤ 1048040 := by
  have h := Int.natAbs_tmod over 40
  have h1 : (over.tmod 40).natAbs < 40 := by rw [h]; exact Nat.mod_lt _ (by decide)
  refine ⟨(1048000 + over.tmod 40).toNat, ?_, by omega, by omega⟩
  rw [wrap_i64 (by omega) (by omega)]; omega
theorem f3_x (H : Heap) (over : Int) : ∃ H', f3 over H = some (true, H') := by
  obtain ⟨n, hn, n1, n2⟩ := over_eq over
  obtain ⟨H1, y1, y2, y3, y4⟩ := make_OS E8_len H (0 : UInt8) n 1 (by unfold most; omega) (by unfold most; omega)
  have y1' : H.make 1 1 [Cell.int IntKind.u8 0] (n : Int) (n : Int) = some (some ⟨H.length, 0, n, n, 1⟩, H1) := y1
  have hu : IntKind.u64.wrap (n : Int) = (n : Int) := u64_nat n (by omega)
  have kP : Kp No H1 (H1 ++ [Blk.row (ESg ⟨1, 0, 0, (n : Int), some ⟨H.length, 0, n, n, 1⟩, zs n⟩) false]) := Kp.push1 _ _
  have hR : FR (H1 ++ [Blk.row (ESg ⟨1, 0, 0, (n : Int), some ⟨H.length, 0, n, n, 1⟩, zs n⟩) false]) ⟨62, 0, some ⟨H1.length, 0, 1, 1, 5⟩, none, none⟩ ⟨62, 0, [⟨1, 0, 0, (n : Int), some ⟨H.length, 0, n, n, 1⟩, zs n⟩], [], []⟩ := by
    refine ⟨rfl, rfl, rs_new (E := ESg) [_] (ro := false) (by rw [push_get]; rfl) rfl, rfl, rfl, fun x hx => ?_⟩
    simp only [List.mem_singleton] at hx
    subst hx
    exact (y2.no kP).rs
  generalize hf : (⟨62, 0, [⟨1, 0, 0, (n : Int), some ⟨H.length, 0, n, n, 1⟩, zs n⟩], [], []⟩ : Fl) = f at hR
  have ok : FOk f := by
    subst hf
    refine ⟨by unfold u64r; dsimp only; omega, fun x hx => ?_, fun x hx => (by cases hx), fun x hx => (by cases hx)⟩
    simp only [List.mem_singleton] at hx
    subst hx
    unfold u64r
    dsimp only
    omega
  have hm : mayF f = true := by
    subst hf
    unfold mayF
    simp only [List.all_cons, List.all_nil, Bool.and_true, List.length_cons, List.length_nil]
    unfold sgMay
    dsimp only
    rw [zs_len, hu, show decide ((n : Int) > 4294967296) = false by simp; omega, show decide ((n : Int) ≤ (n : Int)) = true by simp]
    rfl
  have hlen : f.sg.length ≤ 1000 ∧ f.sy.length ≤ 1000 ∧ f.rl.length ≤ 1000 := by subst hf; simp
  obtain ⟨_, w2, w3⟩ := f6_x hR ok
  by_cases hL : lenF f ≤ 1048576
  · obtain ⟨p, H3, e3, k3, o3, n3, l3⟩ := w3 hm hL
    obtain ⟨s8, H4, e4, k4, r4⟩ := f8_x (hR.no k3) hlen.1 hlen.2.1 hlen.2.2
    obtain ⟨b, H5, e5, k5, c5, d5⟩ := f7_x r4 ok
    have rb := c5 hm hL
    obtain ⟨H6, e6, _⟩ := f9_x H5
    have sp : slen p = ((lenF f : Nat) : Int) := by rw [o3.rs.slenEq, l3]
    have sb : slen b = ((lenF f : Nat) : Int) := by rw [rb.slenEq, l3]
    have hpos : lenF f = hpos f + 320 := rfl
    have e3' : f6 62 0 (some ⟨List.length H1, 0, 1, 1, 5⟩) none none (H1 ++ [Blk.row [Cell.int IntKind.i64 1, Cell.int IntKind.i64 0, Cell.int IntKind.u64 0, Cell.int IntKind.u64 (n : Int), Cell.slice (some ⟨H.length, 0, n, n, 1⟩)] false]) = some ((p, 0), H3) := e3
    have e4' : f8 62 0 (some ⟨List.length H1, 0, 1, 1, 5⟩) none none H3 = some ((s8.M, s8.E, s8.sg, s8.sy, s8.rl), H4) := e4
    refine ⟨H6, ?_⟩
    rw [q3, hn, y1', Ab.bs]
    dsimp only
    rw [hu, e3', Ab.bs]
    dsimp only
    rw [e4', Ab.bs]
    dsimp only
    rw [e5, Ab.bs]
    dsimp only
    rw [sb, sp, show (((lenF f : Nat) : Int) == 0) = false by simp; omega, cf, show ((0 : Int) == 0) = true from rfl, ct, show (((lenF f : Nat) : Int) == ((lenF f : Nat) : Int)) = true by simp, ct, show decide (((lenF f : Nat) : Int) ≤ 1048576) = true by simp; omega, ct, e6, Ab.bs]
  · obtain ⟨H3, e3, k3⟩ := w2 hm (by omega)
    obtain ⟨s8, H4, e4, k4, r4⟩ := f8_x (hR.no k3) hlen.1 hlen.2.1 hlen.2.2
    obtain ⟨b, H5, e5, k5, c5, d5⟩ := f7_x r4 ok
    have hb : b = none := by
      rcases d5 with ⟨_, x⟩ | x
      · exact absurd x hL
      · exact x
    subst hb
    obtain ⟨H6, e6, _⟩ := f9_x H5
    have e3' : f6 62 0 (some ⟨List.length H1, 0, 1, 1, 5⟩) none none (H1 ++ [Blk.row [Cell.int IntKind.i64 1, Cell.int IntKind.i64 0, Cell.int IntKind.u64 0, Cell.int IntKind.u64 (n : Int), Cell.slice (some ⟨H.length, 0, n, n, 1⟩)] false]) = some ((none, 23), H3) := e3
    have e4' : f8 62 0 (some ⟨List.length H1, 0, 1, 1, 5⟩) none none H3 = some ((s8.M, s8.E, s8.sg, s8.sy, s8.rl), H4) := e4
    refine ⟨H6, ?_⟩
    rw [q3, hn, y1', Ab.bs]
    dsimp only
    rw [hu, e3', Ab.bs]
    dsimp only
    rw [e4', Ab.bs]
    dsimp only
    rw [e5, Ab.bs]
    dsimp only
    rw [show (slen none == 0) = true from rfl, ct, show ((23 : Int) == 23) = true from rfl, ct, ct, e6, Ab.bs]
theorem holds3 (Hp : Heap) (xs : List TV) (_hn : NoOwn Hp) (hxs : TShAll Try.prog Hp 12 Try.f3.params.toList xs) : fnA CC3 Try.f3.results.toList (bodyOf Try.f3) Bool xs Hp (fun x _ => x.cell.bind Cell.toBool) = some true := by
  have hp : Try.f3.params.toList = [3] := by kernel_rfl
  rw [hp] at hxs
  obtain ⟨x0, xr0, rfl, t0, hnil⟩ := hxs
  subst hnil
  obtain ⟨c, rfl, s0⟩ := tsh_c t0 (by rw [Try.underlying3]; intro _ h; cases h) (by rw [Try.underlying3]; intro _ _ h; cases h)
  obtain ⟨over, hc, _⟩ := sh_int s0 Try.underlying3
  cases hc
  obtain ⟨H', h⟩ := f3_x Hp over
  rw [f3_eq] at h
  exact law_of hN3 (fun v hv => by
    unfold dec3 at hv
    split at hv
    · cases hv; rfl
    · cases hv) h
end
end Go.Proofs.Ytmjmhipfkbedaaa
