/- Layer 3: wakefulness, copies, Same. -/
import Derived.Test.YtmjmhipfkbedaaaEuB
import Derived.Test.YtmjmhipfkbedaaaEl3d
import Derived.Test.YtmjmhipfkbedaaaEl3b
namespace Go.Proofs.Ytmjmhipfkbedaaa
open Go Go.Proofs.Ytmjmhipfkbedaaa.Ab
set_option linter.unusedVariables false
set_option linter.unusedSimpArgs false
set_option maxRecDepth 100000
noncomputable section
def fAw : Fl := ⟨62, 7, [], [], []⟩
theorem aw40 : (outB fAw)[40]? = some 144 := by rfl
theorem f9_x (H : Heap) : Says (f9 H) H true := by
  have hR : FR H ⟨62, 7, none, none, none⟩ fAw := ⟨rfl, rfl, rfl, rfl, rfl, fun x hx => by cases hx⟩
  have hO : FOk fAw := ⟨by unfold u64r; decide, fun x hx => (by cases hx), fun x hx => (by cases hx), fun x hx => (by cases hx)⟩
  obtain ⟨_, _, h3⟩ := f6_x hR hO
  have hl : lenF fAw = 464 := rfl
  obtain ⟨b, H1, e1, k1, o1, n1, l1⟩ := h3 rfl (by rw [hl]; decide)
  obtain ⟨sg', sy', rl', l'', H2, e2, k2, _, _⟩ := f14_x o1.rs rfl hO (fun r hr => by cases hr) (by rw [hl]; decide) l1
  have e1' : f6 62 7 none none none H = some ((b, 0), H1) := e1
  have e2' : f14 b H1 = some ((62, 7, sg', sy', rl', 0), H2) := e2
  have ob := (o1.no k2).rs
  obtain ⟨sl, x0, x1, x2⟩ := ob.idx E8_len aw40
  have x3 : H2.get sl.id (sl.off + 40) = some (.int .u8 144) := by simpa using x2 0 _ rfl
  have hsl : slen b = 464 := by rw [ob.slenEq, l1, hl]; rfl
  have x1' : (inb 40 sl.len && sl.esz == 1) = true := x1
  refine ⟨H2, ?_, k1.tr k2⟩
  have q29' : f29 0 0 5 3 none 6 2 H2 = some (true, H2) := by
    rw [q29]; rfl
  rw [q9, e1', Ab.bs]
  dsimp only
  rw [e2', Ab.bs]
  dsimp only
  rw [hsl, x0]
  simp only [show ((0 : Int) == 0) = true from rfl, show ((464 : Int) == 464) = true from rfl, ct, Ab.bs, x1', x3, tInt, show ((144 : Int) == 144) = true from rfl, show ((62 : Int) == 62) = true from rfl, show ((7 : Int) == 7) = true from rfl, q29']
/-! an element more -/
theorem grow {α : Type} {n by' : Nat} {Ec : α → List Cell} (hE : ∀ x, (Ec x).length = n) (hn : 0 < n) {H0 H : Heap} (k : Kp No H0 H) (t : Option Sl) (l : List α) (ho : OS n Ec H t l) (hnw : New H0.length t) (x : α) (hb : (l.length + 1) * by' ≤ most) :
    ∃ t' H2, (H ++ [Blk.row (Ec x) false]).append n by' t (some ⟨H.length, 0, 1, 1, n⟩) = some (t', H2) ∧ Kp No H0 H2 ∧ OS n Ec H2 t' (l ++ [x]) ∧ New H0.length t' := by
  have kP : Kp No H (H ++ [Blk.row (Ec x) false]) := Kp.push1 _ _
  have xr : RS n Ec (H ++ [Blk.row (Ec x) false]) (some ⟨H.length, 0, 1, 1, n⟩) [x] := rs_new [x] (ro := false) (by rw [push_get]; simp) rfl
  obtain ⟨t', H2, a1, a2, a3, a4⟩ := append_OS hE hn (by' := by') (ho.no kP) xr (by simpa using hb)
  refine ⟨t', H2, a1, (k.tr kP).trans a3 (fun _ h => h) fun i hi ⟨q, e5, e6⟩ => by have := hnw q e5; omega, a2, fun q e => ?_⟩
  rcases a4 q e with ⟨q', e1, e2⟩ | h
  · have := hnw q' e1; omega
  · have := k.len; have := kP.len; omega
/-! a file cut -/
def cutSg (s : Sg) : Sg := bif decide (s.data.length > 60) then { s with sl := (Sl.sub s.sl 0 (some 60)).getD none, data := s.data.take 60 } else s
def cutSy (s : Sy) : Sy := bif decide (s.name.size > 40) then { s with name := s.name.extract 0 40 } else s
def cutF (f : Fl) : Fl := ⟨f.M, f.E, (f.sg.take 26).map cutSg, (f.sy.take 66).map cutSy, f.rl.take 66⟩
theorem cutSg_rs {H : Heap} {s : Sg} (h : RS 1 E8 H s.sl s.data) : RS 1 E8 H (cutSg s).sl (cutSg s).data := by
  unfold cutSg
  cases hd : decide (s.data.length > 60) with
  | false => exact h
  | true =>
    obtain ⟨s', e1, e2, _⟩ := h.sub0 E8_len 60 (by simp at hd; omega)
    have e1' : Sl.sub s.sl 0 (some 60) = some s' := e1
    simp only [cond_true, e1', Option.getD_some]
    exact e2
theorem loop10a {H0 : Heap} {s : FS} {f : Fl} (h : FR H0 s f) (a0 a1 : Int) (a2 a3 a4 : Option Sl) (b0 b1 : Int) (b2 b3 b4 : Option Sl) (c0 c1 : Int) (c3 c4 : Option Sl) :
    ∀ (m n i : Nat) (t : Option Sl) (H : Heap), i + m = 26 → i ≤ f.sg.length → Kp No H0 H → OS 5 ESg H t ((f.sg.take i).map cutSg) → New H0.length t →
    ∃ t' H', D10_3 (n + m + 1) s.sg (f.sg.length : Int) (i : Int) a0 a1 a2 a3 a4 b0 b1 b2 b3 b4 c0 c1 t c3 c4 H = some (.exit 0, X10_3 a0 a1 a2 a3 a4 b0 b1 b2 b3 b4 c0 c1 t' c3 c4 H') ∧ Kp No H0 H' ∧ OS 5 ESg H' t' ((f.sg.take 26).map cutSg) ∧ New H0.length t'
  | 0, n, i, t, H, hm, hi, k, ho, hn => by
    by_cases hlt : i < f.sg.length
    · have g : decide ((i : Int) < (f.sg.length : Int)) = true := by simp; omega
      obtain ⟨sl, e0, g1, c0', c1', c2', c3', c4'⟩ := getsSg (h.no k).sg (List.getElem?_eq_getElem hlt)
      have hst : D10_3 (n + 0 + 1) s.sg (f.sg.length : Int) (i : Int) a0 a1 a2 a3 a4 b0 b1 b2 b3 b4 c0 c1 t c3 c4 H = _ := D10_3_s (n + 0) s.sg (f.sg.length : Int) (i : Int) a0 a1 a2 a3 a4 b0 b1 b2 b3 b4 c0 c1 t c3 c4 H
      rw [g, ct] at hst
      rw [show s.sg.bind = (some sl).bind (β := AExit × St) by rw [e0]] at hst
      simp only [Ab.bs, g1, ct, c0', c1', c2', c3', c4', tInt, tSlice] at hst
      have : i = 26 := by omega
      subst this
      rw [show decide (((26 : Nat) : Int) ≥ 26) = true from rfl, ct] at hst
      exact ⟨t, H, hst, k, ho, hn⟩
    · have g : decide ((i : Int) < (f.sg.length : Int)) = false := by simp; omega
      have hst := D10_3_s (n + 0) s.sg (f.sg.length : Int) (i : Int) a0 a1 a2 a3 a4 b0 b1 b2 b3 b4 c0 c1 t c3 c4 H
      rw [g, cf] at hst
      have ht : f.sg.take i = f.sg.take 26 := by
        rw [List.take_of_length_le (by omega), List.take_of_length_le (by omega)]
      rw [ht] at ho
      exact ⟨t, H, hst, k, ho, hn⟩
  | m + 1, n, i, t, H, hm, hi, k, ho, hn => by
    by_cases hlt : i < f.sg.length
    · have g : decide ((i : Int) < (f.sg.length : Int)) = true := by simp; omega
      obtain ⟨sl, e0, g1, c0', c1', c2', c3', c4'⟩ := getsSg (h.no k).sg (List.getElem?_eq_getElem hlt)
      have hst : D10_3 (n + (m + 1) + 1) s.sg (f.sg.length : Int) (i : Int) a0 a1 a2 a3 a4 b0 b1 b2 b3 b4 c0 c1 t c3 c4 H = _ := D10_3_s (n + m + 1) s.sg (f.sg.length : Int) (i : Int) a0 a1 a2 a3 a4 b0 b1 b2 b3 b4 c0 c1 t c3 c4 H
      rw [g, ct] at hst
      rw [show s.sg.bind = (some sl).bind (β := AExit × St) by rw [e0]] at hst
      simp only [Ab.bs, g1, ct, c0', c1', c2', c3', c4', tInt, tSlice] at hst
      have hx := (h.no k).sd f.sg[i] (List.getElem_mem hlt)
      rw [show decide ((i : Int) ≥ 26) = false by simp; omega, cf, hx.slenEq] at hst
      obtain ⟨t2, H2, r1, r2, r3, r4⟩ := grow (by' := 56) ESg_len (by omega) k t ((f.sg.take i).map cutSg) ho hn (cutSg f.sg[i]) (by rw [List.length_map, List.length_take]; simp [most]; omega)
      have hmap : (f.sg.take i).map cutSg ++ [cutSg f.sg[i]] = (f.sg.take (i + 1)).map cutSg := by
        rw [List.take_succ_eq_append_getElem hlt, List.map_append]; rfl
      rw [hmap] at r3
      obtain ⟨t', H', q1, q2⟩ := loop10a h a0 a1 a2 a3 a4 b0 b1 b2 b3 b4 c0 c1 c3 c4 m n (i + 1) t2 H2 (by omega) (by omega) r2 r3 r4
      refine ⟨t', H', ?_, q2⟩
      rw [hst, ← q1]
      by_cases hd : f.sg[i].data.length > 60
      · obtain ⟨s', e1, e2, _⟩ := hx.sub0 E8_len 60 (by omega)
        have e1' : Sl.sub f.sg[i].sl 0 (some 60) = some s' := e1
        have hcut : cutSg f.sg[i] = { f.sg[i] with sl := s', data := f.sg[i].data.take 60 } := by
          unfold cutSg
          rw [show decide (f.sg[i].data.length > 60) = true by simpa using hd, cond_true, e1']; rfl
        rw [hcut] at r1
        have r1' : (H ++ [Blk.row [Cell.int IntKind.i64 f.sg[i].kind, Cell.int IntKind.i64 f.sg[i].flags, Cell.int IntKind.u64 f.sg[i].addr, Cell.int IntKind.u64 f.sg[i].size, Cell.slice s'] false]).append 5 56 t (some ⟨List.length H, 0, 1, 1, 5⟩) = some (t2, H2) := r1
        rw [show decide ((f.sg[i].data.length : Int) > 60) = true by simp; omega, ct, e1', Ab.bs, hx.esOkT, ct, r1', Ab.bs, i64_succ i (by omega)]
      · have hcut : cutSg f.sg[i] = f.sg[i] := by
          unfold cutSg
          rw [show decide (f.sg[i].data.length > 60) = false by simp; omega, cond_false]
        rw [hcut] at r1
        have r1' : (H ++ [Blk.row [Cell.int IntKind.i64 f.sg[i].kind, Cell.int IntKind.i64 f.sg[i].flags, Cell.int IntKind.u64 f.sg[i].addr, Cell.int IntKind.u64 f.sg[i].size, Cell.slice f.sg[i].sl] false]).append 5 56 t (some ⟨List.length H, 0, 1, 1, 5⟩) = some (t2, H2) := r1
        rw [show decide ((f.sg[i].data.length : Int) > 60) = false by simp; omega, cf, r1', Ab.bs, i64_succ i (by omega)]
    · have g : decide ((i : Int) < (f.sg.length : Int)) = false := by simp; omega
      have hst := D10_3_s (n + m + 1) s.sg (f.sg.length : Int) (i : Int) a0 a1 a2 a3 a4 b0 b1 b2 b3 b4 c0 c1 t c3 c4 H
      rw [g, cf] at hst
      have ht : f.sg.take i = f.sg.take 26 := by
        rw [List.take_of_length_le (by omega), List.take_of_length_le (by omega)]
      rw [ht] at ho
      exact ⟨t, H, hst, k, ho, hn⟩
theorem loop10b {H0 : Heap} {s : FS} {f : Fl} (h : FR H0 s f) (a0 a1 : Int) (a2 a3 a4 : Option Sl) (b0 b1 : Int) (b2 b3 b4 : Option Sl) (c0 c1 : Int) (c2 c4 : Option Sl) :
    ∀ (m n i : Nat) (t : Option Sl) (H : Heap), i + m = 66 → i ≤ f.sy.length → Kp No H0 H → OS 4 ESy H t ((f.sy.take i).map cutSy) → New H0.length t →
    ∃ t' H', D10_11 (n + m + 1) s.sy (f.sy.length : Int) (i : Int) a0 a1 a2 a3 a4 b0 b1 b2 b3 b4 c0 c1 c2 t c4 H = some (.exit 2, X10_11 a0 a1 a2 a3 a4 b0 b1 b2 b3 b4 c0 c1 c2 t' c4 H') ∧ Kp No H0 H' ∧ OS 4 ESy H' t' ((f.sy.take 66).map cutSy) ∧ New H0.length t'
  | 0, n, i, t, H, hm, hi, k, ho, hn => by
    by_cases hlt : i < f.sy.length
    · have g : decide ((i : Int) < (f.sy.length : Int)) = true := by simp; omega
      obtain ⟨sl, e0, g1, c0', c1', c2', c3'⟩ := getsSy (h.no k).sy (List.getElem?_eq_getElem hlt)
      have hst : D10_11 (n + 0 + 1) s.sy (f.sy.length : Int) (i : Int) a0 a1 a2 a3 a4 b0 b1 b2 b3 b4 c0 c1 c2 t c4 H = _ := D10_11_s (n + 0) s.sy (f.sy.length : Int) (i : Int) a0 a1 a2 a3 a4 b0 b1 b2 b3 b4 c0 c1 c2 t c4 H
      rw [g, ct] at hst
      rw [show s.sy.bind = (some sl).bind (β := AExit × St) by rw [e0]] at hst
      simp only [Ab.bs, g1, ct, c0', c1', c2', c3', tInt, tStr] at hst
      have : i = 66 := by omega
      subst this
      rw [show decide (((66 : Nat) : Int) ≥ 66) = true from rfl, ct] at hst
      exact ⟨t, H, hst, k, ho, hn⟩
    · have g : decide ((i : Int) < (f.sy.length : Int)) = false := by simp; omega
      have hst := D10_11_s (n + 0) s.sy (f.sy.length : Int) (i : Int) a0 a1 a2 a3 a4 b0 b1 b2 b3 b4 c0 c1 c2 t c4 H
      rw [g, cf] at hst
      have ht : f.sy.take i = f.sy.take 66 := by
        rw [List.take_of_length_le (by omega), List.take_of_length_le (by omega)]
      rw [ht] at ho
      exact ⟨t, H, hst, k, ho, hn⟩
  | m + 1, n, i, t, H, hm, hi, k, ho, hn => by
    by_cases hlt : i < f.sy.length
    · have g : decide ((i : Int) < (f.sy.length : Int)) = true := by simp; omega
      obtain ⟨sl, e0, g1, c0', c1', c2', c3'⟩ := getsSy (h.no k).sy (List.getElem?_eq_getElem hlt)
      have hst : D10_11 (n + (m + 1) + 1) s.sy (f.sy.length : Int) (i : Int) a0 a1 a2 a3 a4 b0 b1 b2 b3 b4 c0 c1 c2 t c4 H = _ := D10_11_s (n + m + 1) s.sy (f.sy.length : Int) (i : Int) a0 a1 a2 a3 a4 b0 b1 b2 b3 b4 c0 c1 c2 t c4 H
      rw [g, ct] at hst
      rw [show s.sy.bind = (some sl).bind (β := AExit × St) by rw [e0]] at hst
      simp only [Ab.bs, g1, ct, c0', c1', c2', c3', tInt, tStr] at hst
      rw [show decide ((i : Int) ≥ 66) = false by simp; omega, cf] at hst
      obtain ⟨t2, H2, r1, r2, r3, r4⟩ := grow (by' := 40) ESy_len (by omega) k t ((f.sy.take i).map cutSy) ho hn (cutSy f.sy[i]) (by rw [List.length_map, List.length_take]; simp [most]; omega)
      have hmap : (f.sy.take i).map cutSy ++ [cutSy f.sy[i]] = (f.sy.take (i + 1)).map cutSy := by
        rw [List.take_succ_eq_append_getElem hlt, List.map_append]; rfl
      rw [hmap] at r3
      obtain ⟨t', H', q1, q2⟩ := loop10b h a0 a1 a2 a3 a4 b0 b1 b2 b3 b4 c0 c1 c2 c4 m n (i + 1) t2 H2 (by omega) (by omega) r2 r3 r4
      refine ⟨t', H', ?_, q2⟩
      rw [hst, ← q1]
      by_cases hd : f.sy[i].name.size > 40
      · have e1' : strSub f.sy[i].name 0 (some 40) = some (f.sy[i].name.extract 0 40) := by
          unfold strSub
          rw [if_pos (by simp only [Option.getD_some]; omega)]; rfl
        have hcut : cutSy f.sy[i] = { f.sy[i] with name := f.sy[i].name.extract 0 40 } := by
          unfold cutSy
          rw [show decide (f.sy[i].name.size > 40) = true by simpa using hd, cond_true]
        rw [hcut] at r1
        have r1' : (H ++ [Blk.row [Cell.str (f.sy[i].name.extract 0 40), Cell.int IntKind.i64 f.sy[i].kind, Cell.int IntKind.u64 f.sy[i].addr, Cell.int IntKind.u64 f.sy[i].size] false]).append 4 40 t (some ⟨List.length H, 0, 1, 1, 4⟩) = some (t2, H2) := r1
        rw [show decide ((f.sy[i].name.size : Int) > 40) = true by simp; omega, ct, e1', Ab.bs, r1', Ab.bs, i64_succ i (by omega)]
      · have hcut : cutSy f.sy[i] = f.sy[i] := by
          unfold cutSy
          rw [show decide (f.sy[i].name.size > 40) = false by simp; omega, cond_false]
        rw [hcut] at r1
        have r1' : (H ++ [Blk.row [Cell.str f.sy[i].name, Cell.int IntKind.i64 f.sy[i].kind, Cell.int IntKind.u64 f.sy[i].addr, Cell.int IntKind.u64 f.sy[i].size] false]).append 4 40 t (some ⟨List.length H, 0, 1, 1, 4⟩) = some (t2, H2) := r1
        rw [show decide ((f.sy[i].name.size : Int) > 40) = false by simp; omega, cf, r1', Ab.bs, i64_succ i (by omega)]
    · have g : decide ((i : Int) < (f.sy.length : Int)) = false := by simp; omega
      have hst := D10_11_s (n + m + 1) s.sy (f.sy.length : Int) (i : Int) a0 a1 a2 a3 a4 b0 b1 b2 b3 b4 c0 c1 c2 t c4 H
      rw [g, cf] at hst
      have ht : f.sy.take i = f.sy.take 66 := by
        rw [List.take_of_length_le (by omega), List.take_of_length_le (by omega)]
      rw [ht] at ho
      exact ⟨t, H, hst, k, ho, hn⟩
theorem loop10c {H0 : Heap} {s : FS} {f : Fl} (h : FR H0 s f) (hl : f.rl.length ≤ 9223372036854775807) (b0 b1 : Int) (b2 b3 b4 : Option Sl) (c0 c1 : Int) (c2 c3 : Option Sl) :
    ∀ (m n i : Nat) (t : Option Sl) (H : Heap), i + m = f.rl.length → Kp No H0 H → OS 3 ERl H t ((f.rl.take i).take 66) → New H0.length t →
    ∃ t' H', D10_19 (n + m + 1) s.rl (f.rl.length : Int) (i : Int) b0 b1 b2 b3 b4 c0 c1 c2 c3 t H = some (.exit 4, X10_19 b0 b1 b2 b3 b4 c0 c1 c2 c3 t' H') ∧ Kp No H0 H' ∧ OS 3 ERl H' t' (f.rl.take 66) ∧ New H0.length t'
  | 0, n, i, t, H, hm, k, ho, hn => by
    have g : decide ((i : Int) < (f.rl.length : Int)) = false := by simp; omega
    rw [List.take_of_length_le (l := f.rl) (by omega)] at ho
    exact ⟨t, H, by rw [D10_19_s, g, cf], k, ho, hn⟩
  | m + 1, n, i, t, H, hm, k, ho, hn => by
    have hlt : i < f.rl.length := by omega
    have g : decide ((i : Int) < (f.rl.length : Int)) = true := by simp; omega
    obtain ⟨sl, e0, g1, c0', c1', c2'⟩ := getsRl (h.no k).rl (List.getElem?_eq_getElem hlt)
    have hw : IntKind.i64.wrap ((i : Int) + 1) = ((i + 1 : Nat) : Int) := by rw [wrap_i64 (by omega) (by omega)]; omega
    have hst : D10_19 (n + (m + 1) + 1) s.rl (f.rl.length : Int) (i : Int) b0 b1 b2 b3 b4 c0 c1 c2 c3 t H = _ := D10_19_s (n + m + 1) s.rl (f.rl.length : Int) (i : Int) b0 b1 b2 b3 b4 c0 c1 c2 c3 t H
    rw [g, ct] at hst
    rw [show s.rl.bind = (some sl).bind (β := AExit × St) by rw [e0]] at hst
    simp only [Ab.bs, g1, ct, c0', c1', c2', tInt, hw] at hst
    by_cases h66 : i < 66
    · have e1 : (f.rl.take i).take 66 = f.rl.take i := List.take_of_length_le (by rw [List.length_take]; omega)
      have e2 : (f.rl.take (i + 1)).take 66 = f.rl.take (i + 1) := List.take_of_length_le (by rw [List.length_take]; omega)
      rw [e1] at ho
      obtain ⟨t2, H2, r1, r2, r3, r4⟩ := grow (by' := 24) ERl_len (by omega) k t (f.rl.take i) ho hn f.rl[i] (by rw [List.length_take]; simp [most]; omega)
      rw [← List.take_succ_eq_append_getElem hlt, ← e2] at r3
      obtain ⟨t', H', q1, q2⟩ := loop10c h hl b0 b1 b2 b3 b4 c0 c1 c2 c3 m n (i + 1) t2 H2 (by omega) r2 r3 r4
      have r1' : (H ++ [Blk.row [Cell.int IntKind.u64 f.rl[i].at', Cell.int IntKind.i64 f.rl[i].sym, Cell.int IntKind.i64 f.rl[i].add] false]).append 3 24 t (some ⟨List.length H, 0, 1, 1, 3⟩) = some (t2, H2) := r1
      refine ⟨t', H', ?_, q2⟩
      rw [show decide ((i : Int) < 66) = true by simp; omega, ct, r1', Ab.bs] at hst
      exact hst.trans q1
    · have e2 : (f.rl.take (i + 1)).take 66 = (f.rl.take i).take 66 := by
        rw [List.take_take, List.take_take]; congr 1; omega
      rw [← e2] at ho
      obtain ⟨t', H', q1, q2⟩ := loop10c h hl b0 b1 b2 b3 b4 c0 c1 c2 c3 m n (i + 1) t H (by omega) k ho hn
      refine ⟨t', H', ?_, q2⟩
      rw [show decide ((i : Int) < 66) = false by simp; omega, cf] at hst
      exact hst.trans q1
/-- Cut. -/
theorem f10_x {H : Heap} {s : FS} {f : Fl} (h : FR H s f) (hl : f.rl.length ≤ 9223372036854775807) :
    ∃ s' H', f10 s.M s.E s.sg s.sy s.rl H = some ((s'.M, s'.E, s'.sg, s'.sy, s'.rl), H') ∧ Kp No H H' ∧ FR H' s' (cutF f) := by
  obtain ⟨n1, e1⟩ := LL10_3_of 26 (by omega) s.sg (slen s.sg) 0 s.M s.E s.sg s.sy s.rl 0 0 none none none s.M s.E none none none H
  obtain ⟨t1, H1, r1, k1, o1, _⟩ := loop10a h s.M s.E s.sg s.sy s.rl 0 0 none none none s.M s.E none none 26 n1 0 none H (by omega) (by omega) (Kp.refl _ _) rfl (fun _ e => nomatch e)
  have h1 := h.no k1
  obtain ⟨n2, e2⟩ := LL10_11_of 66 (by omega) s.sy (slen s.sy) 0 s.M s.E s.sg s.sy s.rl 0 0 none none none s.M s.E t1 none none H1
  obtain ⟨t2, H2, r2, k2, o2, _⟩ := loop10b h1 s.M s.E s.sg s.sy s.rl 0 0 none none none s.M s.E t1 none 66 n2 0 none H1 (by omega) (by omega) (Kp.refl _ _) rfl (fun _ e => nomatch e)
  have h2 := h1.no k2
  obtain ⟨n3, e3⟩ := LL10_19_of f.rl.length (by omega) s.rl (slen s.rl) 0 0 0 none none none s.M s.E t1 t2 none H2
  obtain ⟨t3, H3, r3, k3, o3, _⟩ := loop10c h2 hl 0 0 none none none s.M s.E t1 t2 f.rl.length n3 0 none H2 (by omega) (Kp.refl _ _) rfl (fun _ e => nomatch e)
  refine ⟨⟨s.M, s.E, t1, t2, t3⟩, H3, ?_, (k1.tr k2).tr k3, h.m, h.e, ((o1.no k2).no k3).rs, (o2.no k3).rs, o3.rs, fun x hx => ?_⟩
  · rw [h.sg.slenEq] at e1
    rw [h.sy.slenEq] at e2
    rw [h.rl.slenEq] at e3
    rw [q10, h.sg.slenEq, e1.trans r1, Ab.bs, J10_3_0, h.sy.slenEq]
    rw [e2.trans r2, Ab.bs, J10_11_0, h.rl.slenEq]
    rw [e3.trans r3, Ab.bs, J10_19_0]
  · obtain ⟨y, y1, y2⟩ := List.mem_map.1 hx
    subst y2
    exact cutSg_rs ((h2.no k3).sd y (List.mem_of_mem_take y1))
theorem loop11a {H0 : Heap} {s : FS} {f : Fl} (h : FR H0 s f) (hl : f.sg.length ≤ 1000) (a0 a1 : Int) (a2 a3 a4 : Option Sl) (b0 b1 : Int) (b2 b3 b4 : Option Sl) (c0 c1 : Int) (c3 c4 : Option Sl) :
    ∀ (m n i : Nat) (t : Option Sl) (H : Heap), i + m = f.sg.length → Kp No H0 H → OS 5 ESg H t (f.sg.take i) → New H0.length t →
    ∃ t' H', D11_3 (n + m + 1) s.sg (f.sg.length : Int) (i : Int) a0 a1 a2 a3 a4 b0 b1 b2 b3 b4 c0 c1 t c3 c4 H = some (.exit 0, X11_3 a0 a1 a2 a3 a4 b0 b1 b2 b3 b4 c0 c1 t' c3 c4 H') ∧ Kp No H0 H' ∧ OS 5 ESg H' t' f.sg ∧ New H0.length t'
  | 0, n, i, t, H, hm, k, ho, hn => by
    have g : decide ((i : Int) < (f.sg.length : Int)) = false := by simp; omega
    rw [List.take_of_length_le (by omega)] at ho
    exact ⟨t, H, by rw [D11_3_s, g, cf], k, ho, hn⟩
  | m + 1, n, i, t, H, hm, k, ho, hn => by
    have hlt : i < f.sg.length := by omega
    have g : decide ((i : Int) < (f.sg.length : Int)) = true := by simp; omega
    obtain ⟨sl, e0, g1, c0', c1', c2', c3', c4'⟩ := getsSg (h.no k).sg (List.getElem?_eq_getElem hlt)
    have hst : D11_3 (n + (m + 1) + 1) s.sg (f.sg.length : Int) (i : Int) a0 a1 a2 a3 a4 b0 b1 b2 b3 b4 c0 c1 t c3 c4 H = _ := D11_3_s (n + m + 1) s.sg (f.sg.length : Int) (i : Int) a0 a1 a2 a3 a4 b0 b1 b2 b3 b4 c0 c1 t c3 c4 H
    rw [g, ct] at hst
    rw [show s.sg.bind = (some sl).bind (β := AExit × St) by rw [e0]] at hst
    simp only [Ab.bs, g1, ct, c0', c1', c2', c3', c4', tInt, tSlice, i64_succ i (show i < 9223372036854775807 by omega)] at hst
    obtain ⟨t2, H2, r1, r2, r3, r4⟩ := grow (by' := 56) ESg_len (by omega) k t (f.sg.take i) ho hn f.sg[i] (by rw [List.length_take]; simp [most]; omega)
    rw [← List.take_succ_eq_append_getElem hlt] at r3
    obtain ⟨t', H', q1, q2⟩ := loop11a h hl a0 a1 a2 a3 a4 b0 b1 b2 b3 b4 c0 c1 c3 c4 m n (i + 1) t2 H2 (by omega) r2 r3 r4
    have r1' : (H ++ [Blk.row [Cell.int IntKind.i64 f.sg[i].kind, Cell.int IntKind.i64 f.sg[i].flags, Cell.int IntKind.u64 f.sg[i].addr, Cell.int IntKind.u64 f.sg[i].size, Cell.slice f.sg[i].sl] false]).append 5 56 t (some ⟨List.length H, 0, 1, 1, 5⟩) = some (t2, H2) := r1
    refine ⟨t', H', ?_, q2⟩
    rw [r1', Ab.bs] at hst
    exact hst.trans q1
theorem loop11b {H0 : Heap} {s : FS} {f : Fl} (h : FR H0 s f) (hl : f.sy.length ≤ 1000) (a0 a1 : Int) (a2 a3 a4 : Option Sl) (b0 b1 : Int) (b2 b3 b4 : Option Sl) (c0 c1 : Int) (c2 c4 : Option Sl) :
    ∀ (m n i : Nat) (t : Option Sl) (H : Heap), i + m = f.sy.length → Kp No H0 H → OS 4 ESy H t (f.sy.take i) → New H0.length t →
    ∃ t' H', D11_8 (n + m + 1) s.sy (f.sy.length : Int) (i : Int) a0 a1 a2 a3 a4 b0 b1 b2 b3 b4 c0 c1 c2 t c4 H = some (.exit 2, X11_8 a0 a1 a2 a3 a4 b0 b1 b2 b3 b4 c0 c1 c2 t' c4 H') ∧ Kp No H0 H' ∧ OS 4 ESy H' t' f.sy ∧ New H0.length t'
  | 0, n, i, t, H, hm, k, ho, hn => by
    have g : decide ((i : Int) < (f.sy.length : Int)) = false := by simp; omega
    rw [List.take_of_length_le (by omega)] at ho
    exact ⟨t, H, by rw [D11_8_s, g, cf], k, ho, hn⟩
  | m + 1, n, i, t, H, hm, k, ho, hn => by
    have hlt : i < f.sy.length := by omega
    have g : decide ((i : Int) < (f.sy.length : Int)) = true := by simp; omega
    obtain ⟨sl, e0, g1, c0', c1', c2', c3'⟩ := getsSy (h.no k).sy (List.getElem?_eq_getElem hlt)
    have hst : D11_8 (n + (m + 1) + 1) s.sy (f.sy.length : Int) (i : Int) a0 a1 a2 a3 a4 b0 b1 b2 b3 b4 c0 c1 c2 t c4 H = _ := D11_8_s (n + m + 1) s.sy (f.sy.length : Int) (i : Int) a0 a1 a2 a3 a4 b0 b1 b2 b3 b4 c0 c1 c2 t c4 H
    rw [g, ct] at hst
    rw [show s.sy.bind = (some sl).bind (β := AExit × St) by rw [e0]] at hst
    simp only [Ab.bs, g1, ct, c0', c1', c2', c3', tInt, tStr, i64_succ i (show i < 9223372036854775807 by omega)] at hst
    obtain ⟨t2, H2, r1, r2, r3, r4⟩ := grow (by' := 40) ESy_len (by omega) k t (f.sy.take i) ho hn f.sy[i] (by rw [List.length_take]; simp [most]; omega)
    rw [← List.take_succ_eq_append_getElem hlt] at r3
    obtain ⟨t', H', q1, q2⟩ := loop11b h hl a0 a1 a2 a3 a4 b0 b1 b2 b3 b4 c0 c1 c2 c4 m n (i + 1) t2 H2 (by omega) r2 r3 r4
    have r1' : (H ++ [Blk.row [Cell.str f.sy[i].name, Cell.int IntKind.i64 f.sy[i].kind, Cell.int IntKind.u64 f.sy[i].addr, Cell.int IntKind.u64 f.sy[i].size] false]).append 4 40 t (some ⟨List.length H, 0, 1, 1, 4⟩) = some (t2, H2) := r1
    refine ⟨t', H', ?_, q2⟩
    rw [r1', Ab.bs] at hst
    exact hst.trans q1
theorem loop11c {H0 : Heap} {s : FS} {f : Fl} (h : FR H0 s f) (hl : f.rl.length ≤ 1000) (b0 b1 : Int) (b2 b3 b4 : Option Sl) (c0 c1 : Int) (c2 c3 : Option Sl) :
    ∀ (m n i : Nat) (t : Option Sl) (H : Heap), i + m = f.rl.length → Kp No H0 H → OS 3 ERl H t (f.rl.take i) → New H0.length t →
    ∃ t' H', D11_13 (n + m + 1) s.rl (f.rl.length : Int) (i : Int) b0 b1 b2 b3 b4 c0 c1 c2 c3 t H = some (.exit 4, X11_13 b0 b1 b2 b3 b4 c0 c1 c2 c3 t' H') ∧ Kp No H0 H' ∧ OS 3 ERl H' t' f.rl ∧ New H0.length t'
  | 0, n, i, t, H, hm, k, ho, hn => by
    have g : decide ((i : Int) < (f.rl.length : Int)) = false := by simp; omega
    rw [List.take_of_length_le (by omega)] at ho
    exact ⟨t, H, by rw [D11_13_s, g, cf], k, ho, hn⟩
  | m + 1, n, i, t, H, hm, k, ho, hn => by
    have hlt : i < f.rl.length := by omega
    have g : decide ((i : Int) < (f.rl.length : Int)) = true := by simp; omega
    obtain ⟨sl, e0, g1, c0', c1', c2'⟩ := getsRl (h.no k).rl (List.getElem?_eq_getElem hlt)
    have hst : D11_13 (n + (m + 1) + 1) s.rl (f.rl.length : Int) (i : Int) b0 b1 b2 b3 b4 c0 c1 c2 c3 t H = _ := D11_13_s (n + m + 1) s.rl (f.rl.length : Int) (i : Int) b0 b1 b2 b3 b4 c0 c1 c2 c3 t H
    rw [g, ct] at hst
    rw [show s.rl.bind = (some sl).bind (β := AExit × St) by rw [e0]] at hst
    simp only [Ab.bs, g1, ct, c0', c1', c2', tInt, i64_succ i (show i < 9223372036854775807 by omega)] at hst
    obtain ⟨t2, H2, r1, r2, r3, r4⟩ := grow (by' := 24) ERl_len (by omega) k t (f.rl.take i) ho hn f.rl[i] (by rw [List.length_take]; simp [most]; omega)
    rw [← List.take_succ_eq_append_getElem hlt] at r3
    obtain ⟨t', H', q1, q2⟩ := loop11c h hl b0 b1 b2 b3 b4 c0 c1 c2 c3 m n (i + 1) t2 H2 (by omega) r2 r3 r4
    have r1' : (H ++ [Blk.row [Cell.int IntKind.u64 f.rl[i].at', Cell.int IntKind.i64 f.rl[i].sym, Cell.int IntKind.i64 f.rl[i].add] false]).append 3 24 t (some ⟨List.length H, 0, 1, 1, 3⟩) = some (t2, H2) := r1
    refine ⟨t', H', ?_, q2⟩
    rw [r1', Ab.bs] at hst
    exact hst.trans q1
/-- A copy. -/
theorem f11_x {H : Heap} {s : FS} {f : Fl} (h : FR H s f) (h1 : f.sg.length ≤ 1000) (h2 : f.sy.length ≤ 1000) (h3 : f.rl.length ≤ 1000) :
    ∃ s' H', f11 s.M s.E s.sg s.sy s.rl H = some ((s'.M, s'.E, s'.sg, s'.sy, s'.rl), H') ∧ Kp No H H' ∧ FR H' s' f := by
  obtain ⟨n1, e1⟩ := LL11_3_of f.sg.length (by omega) s.sg (slen s.sg) 0 s.M s.E s.sg s.sy s.rl 0 0 none none none s.M s.E none none none H
  obtain ⟨t1, H1, r1, k1, o1, _⟩ := loop11a h h1 s.M s.E s.sg s.sy s.rl 0 0 none none none s.M s.E none none f.sg.length n1 0 none H (by omega) (Kp.refl _ _) rfl (fun _ e => nomatch e)
  have g1 := h.no k1
  obtain ⟨n2, e2⟩ := LL11_8_of f.sy.length (by omega) s.sy (slen s.sy) 0 s.M s.E s.sg s.sy s.rl 0 0 none none none s.M s.E t1 none none H1
  obtain ⟨t2, H2, r2, k2, o2, _⟩ := loop11b g1 h2 s.M s.E s.sg s.sy s.rl 0 0 none none none s.M s.E t1 none f.sy.length n2 0 none H1 (by omega) (Kp.refl _ _) rfl (fun _ e => nomatch e)
  have g2 := g1.no k2
  obtain ⟨n3, e3⟩ := LL11_13_of f.rl.length (by omega) s.rl (slen s.rl) 0 0 0 none none none s.M s.E t1 t2 none H2
  obtain ⟨t3, H3, r3, k3, o3, _⟩ := loop11c g2 h3 0 0 none none none s.M s.E t1 t2 f.rl.length n3 0 none H2 (by omega) (Kp.refl _ _) rfl (fun _ e => nomatch e)
  refine ⟨⟨s.M, s.E, t1, t2, t3⟩, H3, ?_, (k1.tr k2).tr k3, h.m, h.e, ((o1.no k2).no k3).rs, (o2.no k3).rs, o3.rs, (g2.no k3).sd⟩
  rw [h.sg.slenEq] at e1
  rw [h.sy.slenEq] at e2
  rw [h.rl.slenEq] at e3
  rw [q11, h.sg.slenEq, e1.trans r1, Ab.bs, J11_3_0, h.sy.slenEq]
  rw [e2.trans r2, Ab.bs, J11_8_0, h.rl.slenEq]
  rw [e3.trans r3, Ab.bs, J11_13_0]
theorem loop8a {H0 : Heap} {s : FS} {f : Fl} (h : FR H0 s f) (hl : f.sg.length ≤ 1000) (a0 a1 : Int) (a2 a3 a4 : Option Sl) (b0 b1 : Int) (b2 b3 b4 : Option Sl) (c0 c1 : Int) (c3 c4 : Option Sl) :
    ∀ (m n i : Nat) (t : Option Sl) (H : Heap), i + m = f.sg.length → Kp No H0 H → OS 5 ESg H t (f.sg.take i) → New H0.length t →
    ∃ t' H', D8_3 (n + m + 1) s.sg (f.sg.length : Int) (i : Int) a0 a1 a2 a3 a4 b0 b1 b2 b3 b4 c0 c1 t c3 c4 H = some (.exit 0, X8_3 a0 a1 a2 a3 a4 b0 b1 b2 b3 b4 c0 c1 t' c3 c4 H') ∧ Kp No H0 H' ∧ OS 5 ESg H' t' f.sg ∧ New H0.length t'
  | 0, n, i, t, H, hm, k, ho, hn => by
    have g : decide ((i : Int) < (f.sg.length : Int)) = false := by simp; omega
    rw [List.take_of_length_le (by omega)] at ho
    exact ⟨t, H, by rw [D8_3_s, g, cf], k, ho, hn⟩
  | m + 1, n, i, t, H, hm, k, ho, hn => by
    have hlt : i < f.sg.length := by omega
    have g : decide ((i : Int) < (f.sg.length : Int)) = true := by simp; omega
    obtain ⟨sl, e0, g1, c0', c1', c2', c3', c4'⟩ := getsSg (h.no k).sg (List.getElem?_eq_getElem hlt)
    have hst : D8_3 (n + (m + 1) + 1) s.sg (f.sg.length : Int) (i : Int) a0 a1 a2 a3 a4 b0 b1 b2 b3 b4 c0 c1 t c3 c4 H = _ := D8_3_s (n + m + 1) s.sg (f.sg.length : Int) (i : Int) a0 a1 a2 a3 a4 b0 b1 b2 b3 b4 c0 c1 t c3 c4 H
    rw [g, ct] at hst
    rw [show s.sg.bind = (some sl).bind (β := AExit × St) by rw [e0]] at hst
    simp only [Ab.bs, g1, ct, c0', c1', c2', c3', c4', tInt, tSlice, i64_succ i (show i < 9223372036854775807 by omega)] at hst
    obtain ⟨t2, H2, r1, r2, r3, r4⟩ := grow (by' := 56) ESg_len (by omega) k t (f.sg.take i) ho hn f.sg[i] (by rw [List.length_take]; simp [most]; omega)
    rw [← List.take_succ_eq_append_getElem hlt] at r3
    obtain ⟨t', H', q1, q2⟩ := loop8a h hl a0 a1 a2 a3 a4 b0 b1 b2 b3 b4 c0 c1 c3 c4 m n (i + 1) t2 H2 (by omega) r2 r3 r4
    have r1' : (H ++ [Blk.row [Cell.int IntKind.i64 f.sg[i].kind, Cell.int IntKind.i64 f.sg[i].flags, Cell.int IntKind.u64 f.sg[i].addr, Cell.int IntKind.u64 f.sg[i].size, Cell.slice f.sg[i].sl] false]).append 5 56 t (some ⟨List.length H, 0, 1, 1, 5⟩) = some (t2, H2) := r1
    refine ⟨t', H', ?_, q2⟩
    rw [r1', Ab.bs] at hst
    exact hst.trans q1
theorem loop8b {H0 : Heap} {s : FS} {f : Fl} (h : FR H0 s f) (hl : f.sy.length ≤ 1000) (a0 a1 : Int) (a2 a3 a4 : Option Sl) (b0 b1 : Int) (b2 b3 b4 : Option Sl) (c0 c1 : Int) (c2 c4 : Option Sl) :
    ∀ (m n i : Nat) (t : Option Sl) (H : Heap), i + m = f.sy.length → Kp No H0 H → OS 4 ESy H t (f.sy.take i) → New H0.length t →
    ∃ t' H', D8_8 (n + m + 1) s.sy (f.sy.length : Int) (i : Int) a0 a1 a2 a3 a4 b0 b1 b2 b3 b4 c0 c1 c2 t c4 H = some (.exit 2, X8_8 a0 a1 a2 a3 a4 b0 b1 b2 b3 b4 c0 c1 c2 t' c4 H') ∧ Kp No H0 H' ∧ OS 4 ESy H' t' f.sy ∧ New H0.length t'
  | 0, n, i, t, H, hm, k, ho, hn => by
    have g : decide ((i : Int) < (f.sy.length : Int)) = false := by simp; omega
    rw [List.take_of_length_le (by omega)] at ho
    exact ⟨t, H, by rw [D8_8_s, g, cf], k, ho, hn⟩
  | m + 1, n, i, t, H, hm, k, ho, hn => by
    have hlt : i < f.sy.length := by omega
    have g : decide ((i : Int) < (f.sy.length : Int)) = true := by simp; omega
    obtain ⟨sl, e0, g1, c0', c1', c2', c3'⟩ := getsSy (h.no k).sy (List.getElem?_eq_getElem hlt)
    have hst : D8_8 (n + (m + 1) + 1) s.sy (f.sy.length : Int) (i : Int) a0 a1 a2 a3 a4 b0 b1 b2 b3 b4 c0 c1 c2 t c4 H = _ := D8_8_s (n + m + 1) s.sy (f.sy.length : Int) (i : Int) a0 a1 a2 a3 a4 b0 b1 b2 b3 b4 c0 c1 c2 t c4 H
    rw [g, ct] at hst
    rw [show s.sy.bind = (some sl).bind (β := AExit × St) by rw [e0]] at hst
    simp only [Ab.bs, g1, ct, c0', c1', c2', c3', tInt, tStr, i64_succ i (show i < 9223372036854775807 by omega)] at hst
    obtain ⟨t2, H2, r1, r2, r3, r4⟩ := grow (by' := 40) ESy_len (by omega) k t (f.sy.take i) ho hn f.sy[i] (by rw [List.length_take]; simp [most]; omega)
    rw [← List.take_succ_eq_append_getElem hlt] at r3
    obtain ⟨t', H', q1, q2⟩ := loop8b h hl a0 a1 a2 a3 a4 b0 b1 b2 b3 b4 c0 c1 c2 c4 m n (i + 1) t2 H2 (by omega) r2 r3 r4
    have r1' : (H ++ [Blk.row [Cell.str f.sy[i].name, Cell.int IntKind.i64 f.sy[i].kind, Cell.int IntKind.u64 f.sy[i].addr, Cell.int IntKind.u64 f.sy[i].size] false]).append 4 40 t (some ⟨List.length H, 0, 1, 1, 4⟩) = some (t2, H2) := r1
    refine ⟨t', H', ?_, q2⟩
    rw [r1', Ab.bs] at hst
    exact hst.trans q1
theorem loop8c {H0 : Heap} {s : FS} {f : Fl} (h : FR H0 s f) (hl : f.rl.length ≤ 1000) (b0 b1 : Int) (b2 b3 b4 : Option Sl) (c0 c1 : Int) (c2 c3 : Option Sl) :
    ∀ (m n i : Nat) (t : Option Sl) (H : Heap), i + m = f.rl.length → Kp No H0 H → OS 3 ERl H t (f.rl.take i) → New H0.length t →
    ∃ t' H', D8_13 (n + m + 1) s.rl (f.rl.length : Int) (i : Int) b0 b1 b2 b3 b4 c0 c1 c2 c3 t H = some (.exit 4, X8_13 b0 b1 b2 b3 b4 c0 c1 c2 c3 t' H') ∧ Kp No H0 H' ∧ OS 3 ERl H' t' f.rl ∧ New H0.length t'
  | 0, n, i, t, H, hm, k, ho, hn => by
    have g : decide ((i : Int) < (f.rl.length : Int)) = false := by simp; omega
    rw [List.take_of_length_le (by omega)] at ho
    exact ⟨t, H, by rw [D8_13_s, g, cf], k, ho, hn⟩
  | m + 1, n, i, t, H, hm, k, ho, hn => by
    have hlt : i < f.rl.length := by omega
    have g : decide ((i : Int) < (f.rl.length : Int)) = true := by simp; omega
    obtain ⟨sl, e0, g1, c0', c1', c2'⟩ := getsRl (h.no k).rl (List.getElem?_eq_getElem hlt)
    have hst : D8_13 (n + (m + 1) + 1) s.rl (f.rl.length : Int) (i : Int) b0 b1 b2 b3 b4 c0 c1 c2 c3 t H = _ := D8_13_s (n + m + 1) s.rl (f.rl.length : Int) (i : Int) b0 b1 b2 b3 b4 c0 c1 c2 c3 t H
    rw [g, ct] at hst
    rw [show s.rl.bind = (some sl).bind (β := AExit × St) by rw [e0]] at hst
    simp only [Ab.bs, g1, ct, c0', c1', c2', tInt, i64_succ i (show i < 9223372036854775807 by omega)] at hst
    obtain ⟨t2, H2, r1, r2, r3, r4⟩ := grow (by' := 24) ERl_len (by omega) k t (f.rl.take i) ho hn f.rl[i] (by rw [List.length_take]; simp [most]; omega)
    rw [← List.take_succ_eq_append_getElem hlt] at r3
    obtain ⟨t', H', q1, q2⟩ := loop8c h hl b0 b1 b2 b3 b4 c0 c1 c2 c3 m n (i + 1) t2 H2 (by omega) r2 r3 r4
    have r1' : (H ++ [Blk.row [Cell.int IntKind.u64 f.rl[i].at', Cell.int IntKind.i64 f.rl[i].sym, Cell.int IntKind.i64 f.rl[i].add] false]).append 3 24 t (some ⟨List.length H, 0, 1, 1, 3⟩) = some (t2, H2) := r1
    refine ⟨t', H', ?_, q2⟩
    rw [r1', Ab.bs] at hst
    exact hst.trans q1
/-- A copy. -/
theorem f8_x {H : Heap} {s : FS} {f : Fl} (h : FR H s f) (h1 : f.sg.length ≤ 1000) (h2 : f.sy.length ≤ 1000) (h3 : f.rl.length ≤ 1000) :
    ∃ s' H', f8 s.M s.E s.sg s.sy s.rl H = some ((s'.M, s'.E, s'.sg, s'.sy, s'.rl), H') ∧ Kp No H H' ∧ FR H' s' f := by
  obtain ⟨n1, e1⟩ := LL8_3_of f.sg.length (by omega) s.sg (slen s.sg) 0 s.M s.E s.sg s.sy s.rl 0 0 none none none s.M s.E none none none H
  obtain ⟨t1, H1, r1, k1, o1, _⟩ := loop8a h h1 s.M s.E s.sg s.sy s.rl 0 0 none none none s.M s.E none none f.sg.length n1 0 none H (by omega) (Kp.refl _ _) rfl (fun _ e => nomatch e)
  have g1 := h.no k1
  obtain ⟨n2, e2⟩ := LL8_8_of f.sy.length (by omega) s.sy (slen s.sy) 0 s.M s.E s.sg s.sy s.rl 0 0 none none none s.M s.E t1 none none H1
  obtain ⟨t2, H2, r2, k2, o2, _⟩ := loop8b g1 h2 s.M s.E s.sg s.sy s.rl 0 0 none none none s.M s.E t1 none f.sy.length n2 0 none H1 (by omega) (Kp.refl _ _) rfl (fun _ e => nomatch e)
  have g2 := g1.no k2
  obtain ⟨n3, e3⟩ := LL8_13_of f.rl.length (by omega) s.rl (slen s.rl) 0 0 0 none none none s.M s.E t1 t2 none H2
  obtain ⟨t3, H3, r3, k3, o3, _⟩ := loop8c g2 h3 0 0 none none none s.M s.E t1 t2 f.rl.length n3 0 none H2 (by omega) (Kp.refl _ _) rfl (fun _ e => nomatch e)
  refine ⟨⟨s.M, s.E, t1, t2, t3⟩, H3, ?_, (k1.tr k2).tr k3, h.m, h.e, ((o1.no k2).no k3).rs, (o2.no k3).rs, o3.rs, (g2.no k3).sd⟩
  rw [h.sg.slenEq] at e1
  rw [h.sy.slenEq] at e2
  rw [h.rl.slenEq] at e3
  rw [q8, h.sg.slenEq, e1.trans r1, Ab.bs, J8_3_0, h.sy.slenEq]
  rw [e2.trans r2, Ab.bs, J8_8_0, h.rl.slenEq]
  rw [e3.trans r3, Ab.bs, J8_13_0]
def sgEq (a b : Sg) : Bool := a.kind == b.kind && (a.flags == b.flags && (a.addr == b.addr && (a.size == b.size && a.data == b.data)))
def syEq (a b : Sy) : Bool := strEq a.name b.name && (a.kind == b.kind && (a.addr == b.addr && (a.size == b.size && true)))
def rlEq (a b : Rl) : Bool := a.at' == b.at' && (a.sym == b.sym && (a.add == b.add && true))
def all2 {α : Type} (p : α → α → Bool) : List α → List α → Bool
  | a :: l, b :: m => p a b && all2 p l m
  | _, _ => true
def lenEq {α : Type} (l m : List α) : Bool := decide (l.length = m.length)
def sameF (f g : Fl) : Bool := f.M == g.M && (f.E == g.E && (lenEq f.sg g.sg && (lenEq f.sy g.sy && (lenEq f.rl g.rl && (all2 sgEq f.sg g.sg && (all2 syEq f.sy g.sy && all2 rlEq f.rl g.rl))))))
theorem slen_ne {α β : Type} {n m : Nat} {E : α → List Cell} {G : β → List Cell} {H : Heap} {s t : Option Sl} {l : List α} {k : List β} (h : RS n E H s l) (h' : RS m G H t k) : (slen s != slen t) = !decide (l.length = k.length) := by
  rw [h.slenEq, h'.slenEq]
  cases hd : decide (l.length = k.length) with
  | true => simp at hd; simp [hd]
  | false => simp at hd; simp; omega
theorem f45_x {H : Heap} {a b : Sg} (ha : RS 1 E8 H a.sl a.data) (hb : RS 1 E8 H b.sl b.data) : f45 a.kind a.flags a.addr a.size a.sl b.kind b.flags b.addr b.size b.sl H = some (sgEq a b, H) := by
  have e : f62 a.sl b.sl H = some (a.data == b.data, H) := by rw [q62, ha.str, Ab.bs, hb.str, Ab.bs, strEq_iff]
  rw [q45, e]
  unfold sgEq
  cases a.kind == b.kind <;> cases a.flags == b.flags <;> cases a.addr == b.addr <;> cases a.size == b.size <;> rfl
theorem loop44 {H : Heap} {s t : Option Sl} {l k : List Sg} (hs : RS 5 ESg H s l) (ht : RS 5 ESg H t k) (hl : l.length ≤ 1000) (hk : l.length = k.length) (dl : ∀ x ∈ l, RS 1 E8 H x.sl x.data) (dk : ∀ x ∈ k, RS 1 E8 H x.sl x.data) :
    ∀ (m n i : Nat), i + m = l.length → (D44a_4 (n + m + 1) t s (l.length : Int) (i : Int) H).bind J44a_4 = some (all2 sgEq (l.drop i) (k.drop i), H)
  | 0, n, i, hm => by
    have g : decide ((i : Int) < (l.length : Int)) = false := by simp; omega
    rw [D44a_4_s, g, cf, Ab.bs, J44a_4_1, List.drop_eq_nil_of_le (by omega), List.drop_eq_nil_of_le (by omega)]; rfl
  | m + 1, n, i, hm => by
    have hlt : i < l.length := by omega
    have hlk : i < k.length := by omega
    have g : decide ((i : Int) < (l.length : Int)) = true := by simp; omega
    obtain ⟨sl, e0, g1, c0, c1, c2, c3, c4⟩ := getsSg hs (List.getElem?_eq_getElem hlt)
    obtain ⟨sk, f0, f1, d0, d1, d2, d3, d4⟩ := getsSg ht (List.getElem?_eq_getElem hlk)
    have e45 := f45_x (dl _ (List.getElem_mem hlt)) (dk _ (List.getElem_mem hlk))
    have ih := loop44 hs ht hl hk dl dk m n (i + 1) (by omega)
    rw [show n + (m + 1) + 1 = (n + m + 1) + 1 by omega, D44a_4_s, g, ct]
    rw [show s.bind = (some sl).bind (β := AExit × St) by rw [e0], show t.bind = (some sk).bind (β := AExit × St) by rw [f0]]
    simp only [Ab.bs, g1, f1, ct, c0, c1, c2, c3, c4, d0, d1, d2, d3, d4, tInt, tSlice, e45, i64_succ i (show i < 9223372036854775807 by omega)]
    rw [List.drop_eq_getElem_cons hlt, List.drop_eq_getElem_cons hlk]
    unfold all2
    cases sgEq l[i] k[i] with
    | false => simp only [Bool.not_false, ct, Ab.bs, J44a_4_0, Bool.false_and]
    | true => simp only [Bool.not_true, cf, Bool.true_and]; exact ih
theorem loop46 {H : Heap} {s t : Option Sl} {l k : List Sy} (hs : RS 4 ESy H s l) (ht : RS 4 ESy H t k) (hl : l.length ≤ 1000) (hk : l.length = k.length) :
    ∀ (m n i : Nat), i + m = l.length → (D46_4 (n + m + 1) s t (l.length : Int) (i : Int) H).bind J46_4 = some (all2 syEq (l.drop i) (k.drop i), H)
  | 0, n, i, hm => by
    have g : decide ((i : Int) < (l.length : Int)) = false := by simp; omega
    rw [D46_4_s, g, cf, Ab.bs, J46_4_1, List.drop_eq_nil_of_le (by omega), List.drop_eq_nil_of_le (by omega)]; rfl
  | m + 1, n, i, hm => by
    have hlt : i < l.length := by omega
    have hlk : i < k.length := by omega
    have g : decide ((i : Int) < (l.length : Int)) = true := by simp; omega
    obtain ⟨sl, e0, g1, c0, c1, c2, c3⟩ := getsSy hs (List.getElem?_eq_getElem hlt)
    obtain ⟨sk, f0, f1, d0, d1, d2, d3⟩ := getsSy ht (List.getElem?_eq_getElem hlk)
    have ih := loop46 hs ht hl hk m n (i + 1) (by omega)
    rw [show n + (m + 1) + 1 = (n + m + 1) + 1 by omega, D46_4_s, g, ct]
    rw [show s.bind = (some sl).bind (β := AExit × St) by rw [e0], show t.bind = (some sk).bind (β := AExit × St) by rw [f0]]
    simp only [Ab.bs, g1, f1, ct, c0, c1, c2, c3, d0, d1, d2, d3, tInt, tStr, i64_succ i (show i < 9223372036854775807 by omega)]
    rw [List.drop_eq_getElem_cons hlt, List.drop_eq_getElem_cons hlk]
    unfold all2
    rw [show (strEq l[i].name k[i].name && (l[i].kind == k[i].kind && (l[i].addr == k[i].addr && (l[i].size == k[i].size && true)))) = syEq l[i] k[i] from rfl]
    cases syEq l[i] k[i] with
    | false => simp only [Bool.not_false, ct, Ab.bs, J46_4_0, Bool.false_and]
    | true => simp only [Bool.not_true, cf, Bool.true_and]; exact ih
theorem loop47 {H : Heap} {s t : Option Sl} {l k : List Rl} (hs : RS 3 ERl H s l) (ht : RS 3 ERl H t k) (hl : l.length ≤ 1000) (hk : l.length = k.length) :
    ∀ (m n i : Nat), i + m = l.length → (D47_4 (n + m + 1) s t (l.length : Int) (i : Int) H).bind J47_4 = some (all2 rlEq (l.drop i) (k.drop i), H)
  | 0, n, i, hm => by
    have g : decide ((i : Int) < (l.length : Int)) = false := by simp; omega
    rw [D47_4_s, g, cf, Ab.bs, J47_4_1, List.drop_eq_nil_of_le (by omega), List.drop_eq_nil_of_le (by omega)]; rfl
  | m + 1, n, i, hm => by
    have hlt : i < l.length := by omega
    have hlk : i < k.length := by omega
    have g : decide ((i : Int) < (l.length : Int)) = true := by simp; omega
    obtain ⟨sl, e0, g1, c0, c1, c2⟩ := getsRl hs (List.getElem?_eq_getElem hlt)
    obtain ⟨sk, f0, f1, d0, d1, d2⟩ := getsRl ht (List.getElem?_eq_getElem hlk)
    have ih := loop47 hs ht hl hk m n (i + 1) (by omega)
    rw [show n + (m + 1) + 1 = (n + m + 1) + 1 by omega, D47_4_s, g, ct]
    rw [show s.bind = (some sl).bind (β := AExit × St) by rw [e0], show t.bind = (some sk).bind (β := AExit × St) by rw [f0]]
    simp only [Ab.bs, g1, f1, ct, c0, c1, c2, d0, d1, d2, tInt, i64_succ i (show i < 9223372036854775807 by omega)]
    rw [List.drop_eq_getElem_cons hlt, List.drop_eq_getElem_cons hlk]
    unfold all2
    rw [show (l[i].at' == k[i].at' && (l[i].sym == k[i].sym && (l[i].add == k[i].add && true))) = rlEq l[i] k[i] from rfl]
    cases rlEq l[i] k[i] with
    | false => simp only [Bool.not_false, ct, Ab.bs, J47_4_0, Bool.false_and]
    | true => simp only [Bool.not_true, cf, Bool.true_and]; exact ih
theorem f44_x {H : Heap} {s t : Option Sl} {l k : List Sg} (hs : RS 5 ESg H s l) (ht : RS 5 ESg H t k) (hl : l.length ≤ 1000) (dl : ∀ x ∈ l, RS 1 E8 H x.sl x.data) (dk : ∀ x ∈ k, RS 1 E8 H x.sl x.data) : f44a s t H = some (lenEq l k && all2 sgEq l k, H) := by
  rw [q44a, slen_ne hs ht]
  unfold lenEq
  cases hd : decide (l.length = k.length) with
  | false => rfl
  | true =>
    obtain ⟨n, e⟩ := LL44a_4_of l.length (by omega) t s (slen s) 0 H
    rw [Bool.not_true, cf, e, hs.slenEq]
    exact loop44 hs ht hl (of_decide_eq_true hd) dl dk l.length n 0 (by omega)
theorem f46_x {H : Heap} {s t : Option Sl} {l k : List Sy} (hs : RS 4 ESy H s l) (ht : RS 4 ESy H t k) (hl : l.length ≤ 1000) : f46 s t H = some (lenEq l k && all2 syEq l k, H) := by
  rw [q46, slen_ne hs ht]
  unfold lenEq
  cases hd : decide (l.length = k.length) with
  | false => rfl
  | true =>
    obtain ⟨n, e⟩ := LL46_4_of l.length (by omega) s t (slen s) 0 H
    rw [Bool.not_true, cf, e, hs.slenEq]
    exact loop46 hs ht hl (of_decide_eq_true hd) l.length n 0 (by omega)
theorem f47_x {H : Heap} {s t : Option Sl} {l k : List Rl} (hs : RS 3 ERl H s l) (ht : RS 3 ERl H t k) (hl : l.length ≤ 1000) : f47 s t H = some (lenEq l k && all2 rlEq l k, H) := by
  rw [q47, slen_ne hs ht]
  unfold lenEq
  cases hd : decide (l.length = k.length) with
  | false => rfl
  | true =>
    obtain ⟨n, e⟩ := LL47_4_of l.length (by omega) s t (slen s) 0 H
    rw [Bool.not_true, cf, e, hs.slenEq]
    exact loop47 hs ht hl (of_decide_eq_true hd) l.length n 0 (by omega)
/-- elf.Same. -/
theorem f16_x {H : Heap} {s t : FS} {f g : Fl} (hs : FR H s f) (ht : FR H t g) (h1 : f.sg.length ≤ 1000) (h2 : f.sy.length ≤ 1000) (h3 : f.rl.length ≤ 1000) : f16 s.M s.E s.sg s.sy s.rl t.M t.E t.sg t.sy t.rl H = some (sameF f g, H) := by
  rw [q16, f44_x hs.sg ht.sg h1 hs.sd ht.sd, hs.m, hs.e, ht.m, ht.e]
  simp only [Ab.bs, f46_x hs.sy ht.sy h2, f47_x hs.rl ht.rl h3]
  unfold sameF
  cases f.M == g.M <;> cases f.E == g.E <;> cases lenEq f.sg g.sg <;> cases lenEq f.sy g.sy <;> cases lenEq f.rl g.rl <;> cases all2 sgEq f.sg g.sg <;> cases all2 syEq f.sy g.sy <;> rfl
/-! the document's -/
theorem loop15c {H : Heap} {s t : Option Sl} {l k : List Rl} (hs : RS 3 ERl H s l) (ht : RS 3 ERl H t k) (hl : l.length ≤ 1000) (hk : l.length = k.length) (b0 b1 : Int) (b2 b3 : Option Sl) :
    ∀ (m n i : Nat), i + m = l.length → (D15_17 (n + m + 1) s (l.length : Int) (i : Int) b0 b1 b2 b3 t H).bind J15_17 = some (all2 rlEq (l.drop i) (k.drop i), H)
  | 0, n, i, hm => by
    have g : decide ((i : Int) < (l.length : Int)) = false := by simp; omega
    rw [D15_17_s, g, cf, Ab.bs, J15_17_1, List.drop_eq_nil_of_le (by omega), List.drop_eq_nil_of_le (by omega)]; rfl
  | m + 1, n, i, hm => by
    have hlt : i < l.length := by omega
    have hlk : i < k.length := by omega
    have g : decide ((i : Int) < (l.length : Int)) = true := by simp; omega
    obtain ⟨sl, e0, g1, c0, c1, c2⟩ := getsRl hs (List.getElem?_eq_getElem hlt)
    obtain ⟨sk, f0, f1, d0, d1, d2⟩ := getsRl ht (List.getElem?_eq_getElem hlk)
    have ih := loop15c hs ht hl hk b0 b1 b2 b3 m n (i + 1) (by omega)
    rw [show n + (m + 1) + 1 = (n + m + 1) + 1 by omega, D15_17_s, g, ct]
    rw [show s.bind = (some sl).bind (β := AExit × St) by rw [e0], show t.bind = (some sk).bind (β := AExit × St) by rw [f0]]
    simp only [Ab.bs, g1, f1, ct, c0, c1, c2, d0, d1, d2, tInt, i64_succ i (show i < 9223372036854775807 by omega)]
    rw [List.drop_eq_getElem_cons hlt, List.drop_eq_getElem_cons hlk]
    unfold all2
    rw [show (l[i].at' == k[i].at' && (l[i].sym == k[i].sym && (l[i].add == k[i].add && true))) = rlEq l[i] k[i] from rfl]
    cases rlEq l[i] k[i] with
    | false => simp only [Bool.not_false, ct, Ab.bs, J15_17_0, Bool.false_and]
    | true => simp only [Bool.not_true, cf, Bool.true_and]; exact ih
theorem loop15b {H : Heap} {s t r3 : Option Sl} {l k : List Sy} (R : Bool) (hs : RS 4 ESy H s l) (ht : RS 4 ESy H t k) (hl : l.length ≤ 1000) (hk : l.length = k.length) (a0 a1 : Int) (a2 a3 a4 : Option Sl) (b0 b1 : Int) (b2 b4 : Option Sl) (hR : (LL15_17 a4 (slen a4) 0 b0 b1 b2 t b4 H).bind J15_17 = some (R, H)) :
    ∀ (m n i : Nat), i + m = l.length → (D15_11 (n + m + 1) s (l.length : Int) (i : Int) a0 a1 a2 a3 a4 b0 b1 b2 t b4 H).bind J15_11 = some (all2 syEq (l.drop i) (k.drop i) && R, H)
  | 0, n, i, hm => by
    have g : decide ((i : Int) < (l.length : Int)) = false := by simp; omega
    rw [D15_11_s, g, cf, Ab.bs, J15_11_1, List.drop_eq_nil_of_le (by omega), List.drop_eq_nil_of_le (by omega), hR]; rfl
  | m + 1, n, i, hm => by
    have hlt : i < l.length := by omega
    have hlk : i < k.length := by omega
    have g : decide ((i : Int) < (l.length : Int)) = true := by simp; omega
    obtain ⟨sl, e0, g1, c0, c1, c2, c3⟩ := getsSy hs (List.getElem?_eq_getElem hlt)
    obtain ⟨sk, f0, f1, d0, d1, d2, d3⟩ := getsSy ht (List.getElem?_eq_getElem hlk)
    have ih := loop15b (r3 := r3) R hs ht hl hk a0 a1 a2 a3 a4 b0 b1 b2 b4 hR m n (i + 1) (by omega)
    rw [show n + (m + 1) + 1 = (n + m + 1) + 1 by omega, D15_11_s, g, ct]
    rw [show s.bind = (some sl).bind (β := AExit × St) by rw [e0], show t.bind = (some sk).bind (β := AExit × St) by rw [f0]]
    simp only [Ab.bs, g1, f1, ct, c0, c1, c2, c3, d0, d1, d2, d3, tInt, tStr, i64_succ i (show i < 9223372036854775807 by omega)]
    rw [List.drop_eq_getElem_cons hlt, List.drop_eq_getElem_cons hlk]
    unfold all2
    rw [show (strEq l[i].name k[i].name && (l[i].kind == k[i].kind && (l[i].addr == k[i].addr && (l[i].size == k[i].size && true)))) = syEq l[i] k[i] from rfl]
    cases syEq l[i] k[i] with
    | false => simp only [Bool.not_false, ct, Ab.bs, J15_11_0, Bool.false_and]
    | true => simp only [Bool.not_true, cf, Bool.true_and]; exact ih
theorem loop15a {H : Heap} {s t : Option Sl} {l k : List Sg} (R : Bool) (hs : RS 5 ESg H s l) (ht : RS 5 ESg H t k) (hl : l.length ≤ 1000) (hk : l.length = k.length) (dl : ∀ x ∈ l, RS 1 E8 H x.sl x.data) (dk : ∀ x ∈ k, RS 1 E8 H x.sl x.data) (a0 a1 : Int) (a2 a3 a4 : Option Sl) (b0 b1 : Int) (b3 b4 : Option Sl) (hR : (LL15_11 a3 (slen a3) 0 a0 a1 a2 a3 a4 b0 b1 t b3 b4 H).bind J15_11 = some (R, H)) :
    ∀ (m n i : Nat), i + m = l.length → (D15_4 (n + m + 1) s (l.length : Int) (i : Int) a0 a1 a2 a3 a4 b0 b1 t b3 b4 H).bind J15_4 = some (all2 sgEq (l.drop i) (k.drop i) && R, H)
  | 0, n, i, hm => by
    have g : decide ((i : Int) < (l.length : Int)) = false := by simp; omega
    rw [D15_4_s, g, cf, Ab.bs, J15_4_1, List.drop_eq_nil_of_le (by omega), List.drop_eq_nil_of_le (by omega), hR]; rfl
  | m + 1, n, i, hm => by
    have hlt : i < l.length := by omega
    have hlk : i < k.length := by omega
    have g : decide ((i : Int) < (l.length : Int)) = true := by simp; omega
    obtain ⟨sl, e0, g1, c0, c1, c2, c3, c4⟩ := getsSg hs (List.getElem?_eq_getElem hlt)
    obtain ⟨sk, f0, f1, d0, d1, d2, d3, d4⟩ := getsSg ht (List.getElem?_eq_getElem hlk)
    have w1 := (dl _ (List.getElem_mem hlt)).str
    have w2 := (dk _ (List.getElem_mem hlk)).str
    have ih := loop15a R hs ht hl hk dl dk a0 a1 a2 a3 a4 b0 b1 b3 b4 hR m n (i + 1) (by omega)
    rw [show n + (m + 1) + 1 = (n + m + 1) + 1 by omega, D15_4_s, g, ct]
    rw [show s.bind = (some sl).bind (β := AExit × St) by rw [e0], show t.bind = (some sk).bind (β := AExit × St) by rw [f0]]
    simp only [Ab.bs, g1, f1, ct, c0, c1, c2, c3, c4, d0, d1, d2, d3, d4, tInt, tSlice, w1, w2, strEq_iff, i64_succ i (show i < 9223372036854775807 by omega)]
    rw [List.drop_eq_getElem_cons hlt, List.drop_eq_getElem_cons hlk]
    unfold all2 sgEq bne
    cases l[i].kind == k[i].kind with
    | false => simp only [Bool.not_false, ct, Ab.bs, J15_4_0, Bool.false_and]
    | true =>
    cases l[i].flags == k[i].flags with
    | false => simp only [Bool.not_false, Bool.not_true, cf, ct, Ab.bs, J15_4_0, Bool.false_and, Bool.true_and]
    | true =>
    cases l[i].addr == k[i].addr with
    | false => simp only [Bool.not_false, Bool.not_true, cf, ct, Ab.bs, J15_4_0, Bool.false_and, Bool.true_and]
    | true =>
    cases l[i].size == k[i].size with
    | false => simp only [Bool.not_false, Bool.not_true, cf, ct, Ab.bs, J15_4_0, Bool.false_and, Bool.true_and]
    | true =>
    cases l[i].data == k[i].data with
    | false => simp only [Bool.not_false, Bool.not_true, cf, ct, Ab.bs, J15_4_0, Bool.false_and, Bool.true_and]
    | true =>
      simp only [Bool.not_true, cf, Bool.true_and]
      exact ih
theorem f15_x {H : Heap} {s t : FS} {f g : Fl} (hs : FR H s f) (ht : FR H t g) (h1 : f.sg.length ≤ 1000) (h2 : f.sy.length ≤ 1000) (h3 : f.rl.length ≤ 1000) : f15 s.M s.E s.sg s.sy s.rl t.M t.E t.sg t.sy t.rl H = some (sameF f g, H) := by
  rw [q15, slen_ne hs.sg ht.sg, slen_ne hs.sy ht.sy, slen_ne hs.rl ht.rl]
  rw [show (s.M != t.M) = !(f.M == g.M) by rw [hs.m, ht.m]; rfl, show (s.E != t.E) = !(f.E == g.E) by rw [hs.e, ht.e]; rfl]
  unfold sameF lenEq
  cases f.M == g.M with
  | false => rfl
  | true =>
  cases f.E == g.E with
  | false => rfl
  | true =>
  cases e1 : decide (f.sg.length = g.sg.length) with
  | false => rfl
  | true =>
  cases e2 : decide (f.sy.length = g.sy.length) with
  | false => rfl
  | true =>
  cases e3 : decide (f.rl.length = g.rl.length) with
  | false => rfl
  | true =>
    simp only [Bool.not_true, cf, Bool.true_and]
    obtain ⟨n3, x3⟩ := LL15_17_of f.rl.length (by omega) s.rl (slen s.rl) 0 t.M t.E t.sg t.sy t.rl H
    have r3 := loop15c hs.rl ht.rl h3 (of_decide_eq_true e3) t.M t.E t.sg t.sy f.rl.length n3 0 (by omega)
    rw [← hs.rl.slenEq] at r3
    have r3' : (LL15_17 s.rl (slen s.rl) 0 t.M t.E t.sg t.sy t.rl H).bind J15_17 = some (all2 rlEq f.rl g.rl, H) := by rw [x3]; exact r3
    obtain ⟨n2, x2⟩ := LL15_11_of f.sy.length (by omega) s.sy (slen s.sy) 0 s.M s.E s.sg s.sy s.rl t.M t.E t.sg t.sy t.rl H
    have r2 := loop15b (r3 := none) _ hs.sy ht.sy h2 (of_decide_eq_true e2) s.M s.E s.sg s.sy s.rl t.M t.E t.sg t.rl r3' f.sy.length n2 0 (by omega)
    rw [← hs.sy.slenEq] at r2
    have r2' : (LL15_11 s.sy (slen s.sy) 0 s.M s.E s.sg s.sy s.rl t.M t.E t.sg t.sy t.rl H).bind J15_11 = some (all2 syEq f.sy g.sy && all2 rlEq f.rl g.rl, H) := by rw [x2]; exact r2
    obtain ⟨n1, x1⟩ := LL15_4_of f.sg.length (by omega) s.sg (slen s.sg) 0 s.M s.E s.sg s.sy s.rl t.M t.E t.sg t.sy t.rl H
    have r1 := loop15a _ hs.sg ht.sg h1 (of_decide_eq_true e1) hs.sd ht.sd s.M s.E s.sg s.sy s.rl t.M t.E t.sy t.rl r2' f.sg.length n1 0 (by omega)
    rw [← hs.sg.slenEq] at r1
    rw [x1]
    exact r1
end
end Go.Proofs.Ytmjmhipfkbedaaa
