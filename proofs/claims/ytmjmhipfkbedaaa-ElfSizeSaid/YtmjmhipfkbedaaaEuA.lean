/- Layer 3: a file is written. -/
import Derived.Test.YtmjmhipfkbedaaaEl3
import Derived.Test.YtmjmhipfkbedaaaEl3b
namespace Go.Proofs.Ytmjmhipfkbedaaa
open Go Go.Proofs.Ytmjmhipfkbedaaa.Ab
set_option linter.unusedVariables false
set_option linter.unusedSimpArgs false
set_option maxRecDepth 100000
noncomputable section
theorem i64_succ (i : Nat) (h : i < 9223372036854775807) : IntKind.i64.wrap ((i : Int) + 1) = ((i + 1 : Nat) : Int) := by
  rw [wrap_i64 (by omega) (by omega)]; rfl
theorem u64_nat (n : Nat) (h : n < 18446744073709551616) : IntKind.u64.wrap (n : Int) = (n : Int) := by rw [wrap_u64]; omega
/-- What a rope's call may change. -/
def FF (H : Heap) (id : Nat) (i : Nat) : Prop := i = id ∨ (∃ sl, H[id]? = some (.row [.slice (some sl)] false) ∧ i = sl.id) ∨ H.length ≤ i
/-- A rope. -/
def Rq (H : Heap) (id : Nat) (b : List UInt8) : Prop := RP (FF H id) H id b
/-- A block that is not the rope's. -/
def Aw (H : Heap) (id i : Nat) : Prop := i < H.length ∧ ¬ FF H id i
theorem Rq.of {F : Nat → Prop} {H : Heap} {id : Nat} {b : List UInt8} (h : RP F H id b) : Rq H id b := by
  obtain ⟨s, h1, h2, h3, h4, h5⟩ := h
  exact ⟨s, h1, h2, h3, .inl rfl, fun sl e => by subst e; exact .inr (.inl ⟨sl, h1, rfl⟩)⟩
theorem Aw.step {H H' : Heap} {id i : Nat} {b : List UInt8} (h : Aw H id i) (hr : RP (FF H id) H' id b) (k : Kp (FF H id) H H') : Aw H' id i := by
  obtain ⟨s, h1, h2, h3, h4, h5⟩ := hr
  refine ⟨Nat.lt_of_lt_of_le h.1 k.len, ?_⟩
  rintro (e | ⟨sl, e1, e2⟩ | e)
  · exact h.2 (.inl e)
  · rw [h1] at e1; cases e1
    exact h.2 (e2 ▸ h5 sl rfl)
  · have := h.1; have := k.len; omega
/-- A step of a rope. -/
structure Stp (id : Nat) (H H' : Heap) (b' : List UInt8) : Prop where
  r : RP (FF H id) H' id b'
  k : Kp (FF H id) H H'
theorem Stp.q {id : Nat} {H H' : Heap} {b' : List UInt8} (h : Stp id H H' b') : Rq H' id b' := Rq.of h.r
theorem Stp.aw {id i : Nat} {H H' : Heap} {b' : List UInt8} (h : Stp id H H' b') (a : Aw H id i) : Aw H' id i := a.step h.r h.k
theorem Stp.trans {id : Nat} {H H' H'' : Heap} {b b' : List UInt8} (h : Stp id H H' b) (g : Stp id H' H'' b') : Stp id H H'' b' := by
  have hb : ∀ i, FF H' id i → FF H id i := by
    obtain ⟨s, h1, h2, h3, h4, h5⟩ := h.r
    rintro i (e | ⟨sl, e1, e2⟩ | e)
    · exact .inl e
    · rw [h1] at e1; cases e1
      exact e2 ▸ h5 sl rfl
    · exact .inr (.inr (Nat.le_trans h.k.len e))
  exact ⟨rp_mono g.r fun i _ hf => hb i hf, h.k.trans g.k (fun _ h => h) fun i _ hf => hb i hf⟩
/-- A rope in a heap that has grown, its calls leaving what is new alone. -/
def Fn (F : Nat → Prop) (n n' i : Nat) : Prop := (F i ∧ i < n) ∨ n' ≤ i
theorem rp_new {F : Nat → Prop} {H H' : Heap} {id : Nat} {b : List UInt8} (h : RP F H id b) (hk : Kp No H H') : RP (Fn F H.length H'.length) H' id b :=
  rp_mono (rp_kp (rp_mono h fun i hi hf => (⟨hf, hi⟩ : F i ∧ i < H.length)) hk) fun i _ h => .inl h
/-- A step behind new blocks. -/
theorem go_new {id : Nat} {H G H' : Heap} {b' : List UInt8} (kG : Kp No H G) (hr : RP (Fn (FF H id) H.length G.length) H' id b') (k : Kp (Fn (FF H id) H.length G.length) G H') : Stp id H H' b' := by
  have hb : ∀ i, Fn (FF H id) H.length G.length i → FF H id i := fun i h => by
    rcases h with h | h
    · exact h.1
    · exact .inr (.inr (Nat.le_trans kG.len h))
  exact ⟨rp_mono hr fun i _ hf => hb i hf, kG.trans k (fun _ h => absurd h (fun x => x)) fun i _ hf => hb i hf⟩
theorem fn_up (F : Nat → Prop) (n m : Nat) : ∀ i, m ≤ i → Fn F n m i := fun i h => .inr h
/-- New blocks are not the rope's. -/
theorem fn_not {H G : Heap} {id i : Nat} (h1 : H.length ≤ i) (h2 : i < G.length) : ¬ Fn (FF H id) H.length G.length i := fun h => by
  rcases h with h | h <;> omega
theorem fn_aw {H G : Heap} {id i : Nat} (h : Aw H id i) (k : Kp No H G) : ¬ Fn (FF H id) H.length G.length i := fun e => by
  rcases e with e | e
  · exact h.2 e.1
  · have := h.1; have := k.len; omega
theorem rs_new {α : Type} {n : Nat} {E : α → List Cell} {H : Heap} {id k : Nat} (l : List α) {ro : Bool} (h : H[id]? = some (.row (l.flatMap E) ro)) (hl : k = l.length) : RS n E H (some ⟨id, 0, k, k, n⟩) l := by
  subst hl
  exact ⟨rfl, rfl, Nat.le_refl _, fun i c e => by rw [get_of h]; simpa using e⟩
/-- Numbers, from a new row. -/
theorem num_go {id : Nat} {H : Heap} {b : List UInt8} (hr : Rq H id b) (vs : List Nat) (w k : Nat) (hk : k = vs.length) (hw : bits_Is (w : Int) = true) (hf : b.length + w * vs.length ≤ 1048576) (row : List Cell) (hrow : row = vs.flatMap EU) :
    ∃ H', f50 (some (id, 0)) (w : Int) (some ⟨H.length, 0, k, k, 1⟩) (H ++ [.row row false]) = some (0, H') ∧ Stp id H H' (b ++ vs.flatMap (leB w)) := by
  subst hrow
  have kG : Kp No H (H ++ [.row (vs.flatMap EU) false]) := Kp.push1 _ _
  have hl : (H ++ [Blk.row (vs.flatMap EU) false]).length = H.length + 1 := by simp
  obtain ⟨H', e1, e2, e3⟩ := f50_spec (some ⟨H.length, 0, k, k, 1⟩) vs w _ (rp_new hr kG) (fn_up _ _ _) (rs_new vs (push_get _ _) hk) (fun sl e _ => by cases e; exact fn_not (Nat.le_refl _) (by show H.length < _; omega)) hw hf
  exact ⟨H', e1, go_new kG e2 e3⟩
/-- One part, from a new row. -/
theorem raw_go {id : Nat} {H G : Heap} {b l : List UInt8} (hr : Rq H id b) (kG : Kp No H G) (s : Option Sl) (hs : RS 1 E8 G s l) (ha : ∀ sl, s = some sl → l ≠ [] → ¬ Fn (FF H id) H.length (G ++ [Blk.row [Cell.slice s] false]).length sl.id) (hf : l.length + b.length ≤ 1048576) :
    ∃ H', f49 (some (id, 0)) (some ⟨G.length, 0, 1, 1, 1⟩) (G ++ [Blk.row [Cell.slice s] false]) = some ((), H') ∧ Stp id H H' (b ++ l) := by
  have kP : Kp No G (G ++ [Blk.row [Cell.slice s] false]) := Kp.push1 _ _
  have kk := kG.tr kP
  have hl : (G ++ [Blk.row [Cell.slice s] false]).length = G.length + 1 := by simp
  have hg := kG.len
  have rss : ∀ H', Kp (Fn (FF H id) H.length (G ++ [Blk.row [Cell.slice s] false]).length) (G ++ [Blk.row [Cell.slice s] false]) H' → RSS H' (some ⟨G.length, 0, 1, 1, 1⟩) [l] := fun H' k' => by
    refine ⟨[s], ?_, rfl, fun j p m e1 e2 => ?_⟩
    · exact (rs_new (E := ES) [s] (H := G ++ [Blk.row [Cell.slice s] false]) (id := G.length) (push_get _ _) rfl).kp k' fun sl e _ => by cases e; exact fn_not hg (by show G.length < _; omega)
    · match j, e1, e2 with
      | 0, e1, e2 =>
        cases e1; cases e2
        exact (hs.no kP).kp k' fun sl e h0 => ha sl e h0
      | j + 1, e1, e2 => simp at e1
  obtain ⟨H', e1, e2, e3⟩ := f49_spec (t := some ⟨G.length, 0, 1, 1, 1⟩) (ls := [l]) (rp_new hr kk) (rss _ (Kp.refl _ _)) (fn_up _ _ _) rss (by simp) (by simpa [total] using hf)
  exact ⟨H', e1, go_new kk (by simpa using e2) e3⟩
theorem pad_go {id : Nat} {H : Heap} {b : List UInt8} (hr : Rq H id b) (hf : padN b.length 16 + b.length ≤ 1048576) : ∃ H', f52 (some (id, 0)) 16 H = some (0, H') ∧ Stp id H H' (b ++ List.replicate (padN b.length 16) 0) := by
  obtain ⟨H', e1, e2, e3⟩ := (f52_spec hr (by omega) (fun i hi => .inr (.inr hi)) 16 (by omega) (by omega)).2 hf
  exact ⟨H', e1, ⟨e2, e3⟩⟩
theorem set_go {id : Nat} {H : Heap} {A Q P : List UInt8} (hr : Rq H id (A ++ Q ++ P)) (hb : (A ++ Q ++ P).length ≤ 1048576) (w v : Nat) (hw : bits_Is (w : Int) = true) (hQ : w ≤ Q.length) :
    ∃ H', f53 (some (id, 0)) ((A.length : Nat) : Int) (w : Int) (v : Int) H = some (0, H') ∧ Stp id H H' (A ++ leB w v ++ Q.drop w ++ P) := by
  obtain ⟨H', e1, e2, e3⟩ := f53_spec hr hb A.length w v hw (by simp; omega)
  refine ⟨H', e1, ?_, e3⟩
  have h1 : (A ++ Q ++ P).take A.length = A := by rw [List.append_assoc, List.take_left]
  have h2 : (A ++ Q ++ P).drop (A.length + w) = Q.drop w ++ P := by
    rw [List.append_assoc, ← List.drop_drop, List.drop_left, List.drop_append_of_le_length hQ]
  rw [h1, h2] at e2
  simpa using e2
theorem len_go {id : Nat} {H : Heap} {b : List UInt8} (hr : Rq H id b) : g51 (some (id, 0)) H = some (b.length : Int) := by
  rw [g51_eq]
  exact readOf_eq (g51_spec H hr)
/-- The writer: its rope, the file's slices, its sections. -/
def ESec (p : Int × Int) : List Cell := [.int .i64 p.1, .int .i64 p.2]
theorem ESec_len (p : Int × Int) : (ESec p).length = 2 := rfl
structure FS where
  M : Int
  E : Int
  sg : Option Sl
  sy : Option Sl
  rl : Option Sl
def wrow (f : FS) (r : Nat) (sc : Option Sl) : Blk := .row [.ptr (some (r, 0)), .int .i64 f.M, .int .u64 f.E, .slice f.sg, .slice f.sy, .slice f.rl, .slice sc] false
structure WS (H0 H : Heap) (f : FS) (wid rid : Nat) (b : List UInt8) (secs : List (Int × Int)) (sc : Option Sl) : Prop where
  hd : H[wid]? = some (wrow f rid sc)
  r : Rq H rid b
  o : OS 2 ESec H sc secs
  aw : Aw H rid wid
  av : ∀ q, sc = some q → Aw H rid q.id ∧ q.id ≠ wid
  k : Kp No H0 H
  w0 : H0.length ≤ wid
  r0 : ∀ i, FF H rid i → H0.length ≤ i
  s0 : ∀ q, sc = some q → H0.length ≤ q.id
theorem WS.go {H0 H H' : Heap} {f : FS} {wid rid : Nat} {b b' : List UInt8} {secs : List (Int × Int)} {sc : Option Sl} (h : WS H0 H f wid rid b secs sc) (g : Stp rid H H' b') : WS H0 H' f wid rid b' secs sc where
  hd := g.k.at h.hd h.aw.2
  r := g.q
  o := h.o.kp g.k fun q e => (h.av q e).1.2
  aw := g.aw h.aw
  av q e := ⟨g.aw (h.av q e).1, (h.av q e).2⟩
  k := h.k.trans g.k (fun _ h => h) fun i hi hf => by have := h.r0 i hf; omega
  w0 := h.w0
  r0 := by
    obtain ⟨s, h1, h2, h3, h4, h5⟩ := g.r
    rintro i (e | ⟨sl, e1, e2⟩ | e)
    · exact h.r0 i (.inl e)
    · rw [h1] at e1; cases e1
      exact h.r0 i (e2 ▸ h5 sl rfl)
    · have := h.k.len; have := g.k.len; omega
  s0 := h.s0
/-- Blocks of the law's arguments are not the rope's. -/
theorem WS.old {H0 H : Heap} {f : FS} {wid rid : Nat} {b : List UInt8} {secs : List (Int × Int)} {sc : Option Sl} (h : WS H0 H f wid rid b secs sc) {i : Nat} (hi : i < H0.length) : Aw H rid i :=
  ⟨Nat.lt_of_lt_of_le hi h.k.len, fun hf => by have := h.r0 i hf; omega⟩
theorem WS.g {H0 H : Heap} {f : FS} {wid rid : Nat} {b : List UInt8} {secs : List (Int × Int)} {sc : Option Sl} (h : WS H0 H f wid rid b secs sc) :
    H.get wid 0 = some (.ptr (some (rid, 0))) ∧ H.get wid 1 = some (.int .i64 f.M) ∧ H.get wid 2 = some (.int .u64 f.E) ∧ H.get wid 3 = some (.slice f.sg) ∧ H.get wid 4 = some (.slice f.sy) ∧ H.get wid 5 = some (.slice f.rl) ∧ H.get wid 6 = some (.slice sc) := by
  refine ⟨?_, ?_, ?_, ?_, ?_, ?_, ?_⟩ <;> (rw [get_of h.hd]; rfl)
/-- A section ends. -/
theorem f54_x {H0 H : Heap} {f : FS} {wid rid : Nat} {b : List UInt8} {secs : List (Int × Int)} {sc : Option Sl} (h : WS H0 H f wid rid b secs sc) (at' : Nat) (ha : at' ≤ b.length) (hb : b.length ≤ 1048576) (hs : secs.length < 100) :
    ∃ sc' H', f54 (some (wid, 0)) (at' : Int) H = some ((), H') ∧ WS H0 H' f wid rid b (secs ++ [((at' : Int), ((b.length - at' : Nat) : Int))]) sc' := by
  obtain ⟨w0, w1, w2, w3, w4, w5, w6⟩ := h.g
  have kP : Kp No H (H ++ [Blk.row (ESec ((at' : Int), ((b.length - at' : Nat) : Int))) false]) := Kp.push1 _ _
  have xr : RS 2 ESec (H ++ [Blk.row (ESec ((at' : Int), ((b.length - at' : Nat) : Int))) false]) (some ⟨H.length, 0, 1, 1, 2⟩) [((at' : Int), ((b.length - at' : Nat) : Int))] := rs_new [((at' : Int), ((b.length - at' : Nat) : Int))] (ro := false) (by rw [push_get]; simp) rfl
  obtain ⟨s', H1, a1, a2, a3, a4⟩ := append_OS ESec_len (by omega) (by' := 16) (h.o.no kP) xr (by simp [most]; omega)
  have a1' : (H ++ [Blk.row [Cell.int IntKind.i64 (at' : Int), Cell.int IntKind.i64 ((b.length - at' : Nat) : Int)] false]).append 2 16 sc (some { id := List.length H, off := 0, len := 1, cap := 1, esz := 2 }) = some (s', H1) := a1
  have hg : IntKind.i64.wrap ((b.length : Int) - (at' : Int)) = ((b.length - at' : Nat) : Int) := by rw [wrap_i64 (by omega) (by omega)]; omega
  have hlen : (H ++ [Blk.row (ESec ((at' : Int), ((b.length - at' : Nat) : Int))) false]).length = H.length + 1 := by simp
  have hw1 : H1[wid]? = some (wrow f rid sc) := (a3.at (kP.bk h.hd)) fun ⟨q, e1, e2⟩ => (h.av q e1).2 e2.symm
  have hput : H1.put wid (0 + 6) [.slice s'] = some (H1.set wid (wrow f rid s')) := by
    rw [put_of (row := [.ptr (some (rid, 0)), .int .i64 f.M, .int .u64 f.E, .slice f.sg, .slice f.sy, .slice f.rl, .slice sc]) hw1 (by simp)]
    rfl
  have kH1 : Kp (fun i => ∃ q, sc = some q ∧ i = q.id) H H1 := kP.trans a3 (fun _ h => absurd h (fun x => x)) fun i _ hf => hf
  have hrr : ∀ F : Nat → Prop, RP F H rid b → RP F H1 rid b := fun F hF => by
    obtain ⟨s, h1, h2, h3, h4, h5⟩ := hF
    refine ⟨s, kH1.at h1 ?_, h2.kp kH1 ?_, h3, h4, h5⟩
    · rintro ⟨q, e1, e2⟩; exact (h.av q e1).1.2 (.inl e2.symm)
    · rintro sl e ⟨q, e1, e2⟩
      subst e
      exact (h.av q e1).1.2 (.inr (.inl ⟨sl, h1, e2.symm⟩))
  have hff : ∀ i, FF (H1.set wid (wrow f rid s')) rid i → FF H rid i := by
    obtain ⟨s, h1, h2, h3, h4, h5⟩ := h.r
    rintro i (e | ⟨sl, e1, e2⟩ | e)
    · exact .inl e
    · rw [set_ne' (fun x => h.aw.2 (.inl x.symm))] at e1
      obtain ⟨s2, g1, _⟩ := hrr _ h.r
      rw [g1] at e1; cases e1
      refine .inr (.inl ⟨sl, ?_, e2⟩)
      by_cases hx : H[rid]? = some (.row [.slice (some sl)] false)
      · exact hx
      · have := kH1.same rid (lt_of h1) (by rintro ⟨q, e1, e2⟩; exact (h.av q e1).1.2 (.inl e2.symm))
        rw [g1] at this; exact this.symm
    · rw [List.length_set] at e
      exact .inr (.inr (Nat.le_trans kH1.len e))
  have hs' : ∀ q, s' = some q → ((∃ q', sc = some q' ∧ q.id = q'.id) ∨ H.length < q.id) := fun q e => by
    rcases a4 q e with ⟨q', e1, e2⟩ | e1
    · exact .inl ⟨q', e1, e2⟩
    · exact .inr (by omega)
  have hwl := lt_of h.hd
  refine ⟨s', H1.set wid (wrow f rid s'), ?_, ?_⟩
  · rw [q54]
    rw [za] at hput
    simp only [Ab.bs, za, w6, tSlice, w0, tPtr, len_go h.r, hg, a1', hput]
  · have kW : Kp (Ab.One wid) H1 (H1.set wid (wrow f rid s')) := Kp.set _ _ _
    refine ⟨set_get' (lt_of hw1), ?_, ?_, ?_, ?_, ?_, h.w0, fun i hf => h.r0 i (hff i hf), fun q e => ?_⟩
    · refine Rq.of (F := FF H rid) ?_
      obtain ⟨s, h1, h2, h3, h4, h5⟩ := hrr _ h.r
      refine ⟨s, kW.at h1 (fun x => h.aw.2 (.inl x.symm)), h2.kp kW (fun sl e x => ?_), h3, h4, h5⟩
      subst e
      have hx : sl.id = wid := x
      exact h.aw.2 (hx ▸ h5 sl rfl)
    · refine a2.kp kW fun q e x => ?_
      have hx : q.id = wid := x
      rcases hs' q e with ⟨q', e1, e2⟩ | e1
      · exact (h.av q' e1).2 (by omega)
      · omega
    · refine ⟨by rw [List.length_set]; have := kH1.len; have := h.aw.1; omega, fun hf => h.aw.2 (hff _ hf)⟩
    · intro q e
      have hql : q.id < H1.length := by subst e; exact a2.lt
      rcases hs' q e with ⟨q', e1, e2⟩ | e1
      · refine ⟨⟨by rw [List.length_set]; exact hql, fun hf => (h.av q' e1).1.2 (e2 ▸ hff _ hf)⟩, by rw [e2]; exact (h.av q' e1).2⟩
      · refine ⟨⟨by rw [List.length_set]; exact hql, ?_⟩, by omega⟩
        obtain ⟨s, h1, h2, h3, h4, h5⟩ := hrr _ h.r
        rintro (e | ⟨sl, e1, e2⟩ | e)
        · have := lt_of h.r.choose_spec.1; omega
        · rw [set_ne' (fun x => h.aw.2 (.inl x.symm)), h1] at e1
          cases e1
          have h6 := h.r
          obtain ⟨s2, g1, g2, _⟩ := h6
          have := kH1.same rid (lt_of g1) (by rintro ⟨q, e1, e2⟩; exact (h.av q e1).1.2 (.inl e2.symm))
          rw [g1, h1] at this
          cases this
          have := g2.lt; omega
        · rw [List.length_set] at e; omega
    · exact (h.k.trans kH1 (D := No) (fun _ h => h) fun i hi ⟨q, e1, e2⟩ => by have := h.s0 q e1; omega).trSet kW h.w0
    · rcases hs' q e with ⟨q', e1, e2⟩ | e1
      · have := h.s0 q' e1; omega
      · have := h.k.len; omega
/-- Segments, symbols, relocations. -/
structure Sg where
  kind : Int
  flags : Int
  addr : Int
  size : Int
  sl : Option Sl
  data : List UInt8
def ESg (s : Sg) : List Cell := [.int .i64 s.kind, .int .i64 s.flags, .int .u64 s.addr, .int .u64 s.size, .slice s.sl]
theorem ESg_len (s : Sg) : (ESg s).length = 5 := rfl
structure Sy where
  name : ByteArray
  kind : Int
  addr : Int
  size : Int
def ESy (s : Sy) : List Cell := [.str s.name, .int .i64 s.kind, .int .u64 s.addr, .int .u64 s.size]
theorem ESy_len (s : Sy) : (ESy s).length = 4 := rfl
structure Rl where
  at' : Int
  sym : Int
  add : Int
def ERl (r : Rl) : List Cell := [.int .u64 r.at', .int .i64 r.sym, .int .i64 r.add]
theorem ERl_len (r : Rl) : (ERl r).length = 3 := rfl
def u64r (n : Int) : Prop := 0 ≤ n ∧ n < 18446744073709551616
theorem getsSg {H : Heap} {s : Option Sl} {l : List Sg} (h : RS 5 ESg H s l) {i : Nat} {e : Sg} (hi : l[i]? = some e) :
    ∃ sl, s = some sl ∧ (inb (i : Int) sl.len && sl.esz == 5) = true ∧ H.get sl.id (sl.off + ((i : Nat) : Int).toNat * 5) = some (.int .i64 e.kind) ∧ H.get sl.id (sl.off + ((i : Nat) : Int).toNat * 5 + 1) = some (.int .i64 e.flags) ∧
      H.get sl.id (sl.off + ((i : Nat) : Int).toNat * 5 + 1 + 1) = some (.int .u64 e.addr) ∧ H.get sl.id (sl.off + ((i : Nat) : Int).toNat * 5 + 1 + 1 + 1) = some (.int .u64 e.size) ∧ H.get sl.id (sl.off + ((i : Nat) : Int).toNat * 5 + 1 + 1 + 1 + 1) = some (.slice e.sl) := by
  obtain ⟨sl, e, h1, h2⟩ := h.idx ESg_len hi
  exact ⟨sl, e, h1, by simpa using h2 0 _ rfl, by simpa using h2 1 _ rfl, by simpa using h2 2 _ rfl, by simpa using h2 3 _ rfl, by simpa using h2 4 _ rfl⟩
theorem getsSy {H : Heap} {s : Option Sl} {l : List Sy} (h : RS 4 ESy H s l) {i : Nat} {e : Sy} (hi : l[i]? = some e) :
    ∃ sl, s = some sl ∧ (inb (i : Int) sl.len && sl.esz == 4) = true ∧ H.get sl.id (sl.off + ((i : Nat) : Int).toNat * 4) = some (.str e.name) ∧ H.get sl.id (sl.off + ((i : Nat) : Int).toNat * 4 + 1) = some (.int .i64 e.kind) ∧
      H.get sl.id (sl.off + ((i : Nat) : Int).toNat * 4 + 1 + 1) = some (.int .u64 e.addr) ∧ H.get sl.id (sl.off + ((i : Nat) : Int).toNat * 4 + 1 + 1 + 1) = some (.int .u64 e.size) := by
  obtain ⟨sl, e, h1, h2⟩ := h.idx ESy_len hi
  exact ⟨sl, e, h1, by simpa using h2 0 _ rfl, by simpa using h2 1 _ rfl, by simpa using h2 2 _ rfl, by simpa using h2 3 _ rfl⟩
theorem getsRl {H : Heap} {s : Option Sl} {l : List Rl} (h : RS 3 ERl H s l) {i : Nat} {e : Rl} (hi : l[i]? = some e) :
    ∃ sl, s = some sl ∧ (inb (i : Int) sl.len && sl.esz == 3) = true ∧ H.get sl.id (sl.off + ((i : Nat) : Int).toNat * 3) = some (.int .u64 e.at') ∧ H.get sl.id (sl.off + ((i : Nat) : Int).toNat * 3 + 1) = some (.int .i64 e.sym) ∧
      H.get sl.id (sl.off + ((i : Nat) : Int).toNat * 3 + 1 + 1) = some (.int .i64 e.add) := by
  obtain ⟨sl, e, h1, h2⟩ := h.idx ERl_len hi
  exact ⟨sl, e, h1, by simpa using h2 0 _ rfl, by simpa using h2 1 _ rfl, by simpa using h2 2 _ rfl⟩
theorem getsU {H : Heap} {s : Option Sl} {l : List Nat} (h : RS 1 EU H s l) {i : Nat} {e : Nat} (hi : l[i]? = some e) :
    ∃ sl, s = some sl ∧ (inb (i : Int) sl.len && sl.esz == 1) = true ∧ H.get sl.id (sl.off + ((i : Nat) : Int).toNat * 1) = some (.int .u64 (e : Int)) := by
  obtain ⟨sl, e, h1, h2⟩ := h.idx EU_len hi
  exact ⟨sl, e, h1, by simpa using h2 0 _ rfl⟩
theorem num_go' {id : Nat} {H : Heap} {b : List UInt8} (hr : Rq H id b) (vs : List Nat) (w k : Nat) (wi : Int) (row : List Cell) (hwi : wi = (w : Int)) (hk : k = vs.length) (hw : bits_Is (w : Int) = true) (hf : b.length + w * vs.length ≤ 1048576) (hrow : row = vs.flatMap EU) :
    ∃ H', f50 (some (id, 0)) wi (some ⟨H.length, 0, k, k, 1⟩) (H ++ [.row row false]) = some (0, H') ∧ Stp id H H' (b ++ vs.flatMap (leB w)) := by
  subst hwi; exact num_go hr vs w k hk hw hf row hrow
/-- Parts, from new rows. -/
theorem raws_go {id : Nat} {H G : Heap} {b : List UInt8} (hr : Rq H id b) (kG : Kp No H G) (t : Option Sl) (ls : List (List UInt8)) (hk : ∀ H', Kp (Fn (FF H id) H.length G.length) G H' → RSS H' t ls) (hl : ls.length ≤ 100) (hf : total ls + b.length ≤ 1048576) :
    ∃ H', f49 (some (id, 0)) t G = some ((), H') ∧ Stp id H H' (b ++ ls.flatten) := by
  obtain ⟨H', e1, e2, e3⟩ := f49_spec (t := t) (ls := ls) (rp_new hr kG) (hk _ (Kp.refl _ _)) (fn_up _ _ _) hk (by omega) hf
  exact ⟨H', e1, go_new kG e2 e3⟩
theorem fill30 (H : Heap) (a : Blk) : (H ++ [Blk.hole, Blk.hole, Blk.hole]).fill (H.length + 0) a = some (H ++ [a, Blk.hole, Blk.hole]) := by
  unfold Heap.fill
  have : (H ++ [Blk.hole, Blk.hole, Blk.hole])[H.length + 0]? = some Blk.hole := by simp
  rw [this]; simp
theorem fill31 (H : Heap) (a b : Blk) : (H ++ [a, Blk.hole, Blk.hole]).fill (H.length + 1) b = some (H ++ [a, b, Blk.hole]) := by
  unfold Heap.fill
  have : (H ++ [a, Blk.hole, Blk.hole])[H.length + 1]? = some Blk.hole := by simp
  rw [this]; simp
theorem fill32 (H : Heap) (a b c : Blk) : (H ++ [a, b, Blk.hole]).fill (H.length + 2) c = some (H ++ [a, b, c]) := by
  unfold Heap.fill
  have : (H ++ [a, b, Blk.hole])[H.length + 2]? = some Blk.hole := by simp
  rw [this]; simp
def zs (n : Nat) : List UInt8 := List.replicate n 0
theorem zs_len (n : Nat) : (zs n).length = n := by simp [zs]
def magic : List UInt8 := [127, 69, 76, 70, 2, 1, 1]
/-- The first 40 bytes; the last 16 of the first 64. -/
def hdA (M E : Nat) : List UInt8 := magic ++ zs 9 ++ [2, M].flatMap (leB 2) ++ [1].flatMap (leB 4) ++ [E, 64].flatMap (leB 8)
def hdB (n : Nat) : List UInt8 := [0].flatMap (leB 4) ++ [64, 56, n, 64, 5, 4].flatMap (leB 2)
theorem hdA_len (M E : Nat) : (hdA M E).length = 40 := by simp [hdA, magic, zs, leB_length]
theorem hdB_len (n : Nat) : (hdB n).length = 16 := by simp [hdB, leB_length]
theorem nat_of {n : Int} (h : 0 ≤ n) : ((n.toNat : Nat) : Int) = n := Int.toNat_of_nonneg h
theorem f19_x {H0 H : Heap} {f : FS} {wid rid : Nat} (h : WS H0 H f wid rid [] [] none) (hM : f.M = 62 ∨ f.M = 183) (hE : u64r f.E) (n : Nat) (hn : slen f.sg = (n : Int)) (hn2 : n ≤ 24) :
    ∃ H', f19 (some (wid, 0)) H = some ((), H') ∧ WS H0 H' f wid rid (hdA f.M.toNat f.E.toNat ++ leB 8 0 ++ hdB n) [] none := by
  obtain ⟨w0, w1, w2, w3, w4, w5, w6⟩ := h.g
  have kh : Kp No H (H ++ [Blk.hole, Blk.hole, Blk.hole]) := Kp.push _ _ _
  have kG : Kp No H (H ++ [Blk.row (magic.flatMap E8) false, Blk.row ((zs 9).flatMap E8) false, Blk.row [Cell.slice (some ⟨H.length + 0, 0, 7, 7, 1⟩), Cell.slice (some ⟨H.length + 1, 0, 9, 9, 1⟩)] false]) := Kp.push _ _ _
  have hl : (H ++ [Blk.row (magic.flatMap E8) false, Blk.row ((zs 9).flatMap E8) false, Blk.row [Cell.slice (some ⟨H.length + 0, 0, 7, 7, 1⟩), Cell.slice (some ⟨H.length + 1, 0, 9, 9, 1⟩)] false]).length = H.length + 3 := by simp
  obtain ⟨H1, e1, g1⟩ := raws_go h.r kG (some ⟨H.length + 2, 0, 2, 2, 1⟩) [magic, zs 9] (fun H' k => by
    refine ⟨[some ⟨H.length + 0, 0, 7, 7, 1⟩, some ⟨H.length + 1, 0, 9, 9, 1⟩], ?_, rfl, fun j p m e1 e2 => ?_⟩
    · exact (rs_new (E := ES) [some ⟨H.length + 0, 0, 7, 7, 1⟩, some ⟨H.length + 1, 0, 9, 9, 1⟩] (ro := false) (by simp [ES]) rfl).kp k fun sl e _ => by cases e; exact fn_not (by show H.length ≤ H.length + 2; omega) (by show H.length + 2 < _; omega)
    · match j, e1, e2 with
      | 0, e1, e2 =>
        cases e1; cases e2
        exact (rs_new (E := E8) magic (ro := false) (by simp) rfl).kp k fun sl e _ => by cases e; exact fn_not (by show H.length ≤ H.length + 0; omega) (by show H.length + 0 < _; omega)
      | 1, e1, e2 =>
        cases e1; cases e2
        exact (rs_new (E := E8) (zs 9) (ro := false) (by simp) rfl).kp k fun sl e _ => by cases e; exact fn_not (by show H.length ≤ H.length + 1; omega) (by show H.length + 1 < _; omega)
      | j + 2, e1, e2 => simp at e1) (by simp) (by simp [total, magic, zs])
  rw [List.nil_append] at g1
  have h1 := h.go g1
  obtain ⟨a0, a1, a2, a3, a4, a5, a6⟩ := h1.g
  have l1 : [magic, zs 9].flatten.length = 16 := rfl
  have hMn : IntKind.u64.wrap f.M = ((f.M.toNat : Nat) : Int) := by rw [wrap_u64]; omega
  obtain ⟨H2, e2, g2⟩ := num_go' h1.r [2, f.M.toNat] 2 2 2 [Cell.int .u64 2, Cell.int .u64 (IntKind.u64.wrap f.M)] rfl rfl rfl (by rw [l1]; simp) (by rw [hMn]; rfl)
  have h2 := h1.go g2
  obtain ⟨b0, b1, b2, b3, b4, b5, b6⟩ := h2.g
  obtain ⟨H3, e3, g3⟩ := num_go' h2.r [1] 4 1 4 [Cell.int .u64 1] rfl rfl rfl (by simp [magic, zs, leB_length]) rfl
  have h3 := h2.go g3
  obtain ⟨c0, c1, c2, c3, c4, c5, c6⟩ := h3.g
  obtain ⟨H4, e4, g4⟩ := num_go' h3.r [f.E.toNat, 64, 0] 8 3 8 [Cell.int .u64 f.E, Cell.int .u64 64, Cell.int .u64 0] rfl rfl rfl (by simp [magic, zs, leB_length]) (by simp [EU, nat_of hE.1])
  have h4 := h3.go g4
  obtain ⟨d0, d1, d2, d3, d4, d5, d6⟩ := h4.g
  obtain ⟨H5, e5, g5⟩ := num_go' h4.r [0] 4 1 4 [Cell.int .u64 0] rfl rfl rfl (by simp [magic, zs, leB_length]) rfl
  have h5 := h4.go g5
  obtain ⟨p0, p1, p2, p3, p4, p5, p6⟩ := h5.g
  obtain ⟨H6, e6, g6⟩ := num_go' h5.r [64, 56, n, 64, 5, 4] 2 6 2 [Cell.int .u64 64, Cell.int .u64 56, Cell.int .u64 (IntKind.u64.wrap (slen f.sg)), Cell.int .u64 64, Cell.int .u64 5, Cell.int .u64 4] rfl rfl rfl (by simp [magic, zs, leB_length]) (by rw [hn, u64_nat n (by omega)]; rfl)
  have h6 := h5.go g6
  refine ⟨H6, ?_, ?_⟩
  · have e1' : f49 (some (rid, 0)) (some ⟨H.length + 2, 0, 2, 2, 1⟩) (H ++ [Blk.row [Cell.int IntKind.u8 127, Cell.int IntKind.u8 69, Cell.int IntKind.u8 76, Cell.int IntKind.u8 70, Cell.int IntKind.u8 2, Cell.int IntKind.u8 1, Cell.int IntKind.u8 1] false, Blk.row [Cell.int IntKind.u8 0, Cell.int IntKind.u8 0, Cell.int IntKind.u8 0, Cell.int IntKind.u8 0, Cell.int IntKind.u8 0, Cell.int IntKind.u8 0, Cell.int IntKind.u8 0, Cell.int IntKind.u8 0, Cell.int IntKind.u8 0] false, Blk.row [Cell.slice (some ⟨H.length + 0, 0, 7, 7, 1⟩), Cell.slice (some ⟨H.length + 1, 0, 9, 9, 1⟩)] false]) = some ((), H1) := e1
    rw [q19]
    simp only [Ab.bs, fill30, fill31, fill32]
    simp only [az, za, Ab.bs, kh.gt w0, tPtr]
    have e1'' : f49 (some (rid, 0)) (some ⟨H.length + 2, 0, 2, 2, 1⟩) (H ++ [Blk.row [Cell.int IntKind.u8 127, Cell.int IntKind.u8 69, Cell.int IntKind.u8 76, Cell.int IntKind.u8 70, Cell.int IntKind.u8 2, Cell.int IntKind.u8 1, Cell.int IntKind.u8 1] false, Blk.row [Cell.int IntKind.u8 0, Cell.int IntKind.u8 0, Cell.int IntKind.u8 0, Cell.int IntKind.u8 0, Cell.int IntKind.u8 0, Cell.int IntKind.u8 0, Cell.int IntKind.u8 0, Cell.int IntKind.u8 0, Cell.int IntKind.u8 0] false, Blk.row [Cell.slice (some ⟨H.length, 0, 7, 7, 1⟩), Cell.slice (some ⟨H.length + 1, 0, 9, 9, 1⟩)] false]) = some ((), H1) := e1'
    simp only [e1'', Ab.bs, a0, a1, tPtr, tInt, e2, b0, e3, c0, c2, e4, d0, e5, p0, p3, tSlice, show (1 : Nat) + 1 = 2 from rfl, show (1 : Nat) + 2 = 3 from rfl, e6]
  · have : hdA f.M.toNat f.E.toNat ++ leB 8 0 ++ hdB n = [magic, zs 9].flatten ++ List.flatMap (leB 2) [2, f.M.toNat] ++ List.flatMap (leB 4) [1] ++ List.flatMap (leB 8) [f.E.toNat, 64, 0] ++ List.flatMap (leB 4) [0] ++ List.flatMap (leB 2) [64, 56, n, 64, 5, 4] := by
      simp [hdA, hdB]
    rw [this]; exact h6
def up16 (n : Nat) : Nat := n + padN n 16
def rowB (s : Sg) (at' : Nat) : List UInt8 := leB 4 s.kind.toNat ++ leB 4 s.flags.toNat ++ [at', s.addr.toNat, s.addr.toNat, s.data.length, s.size.toNat, 16].flatMap (leB 8)
theorem rowB_len (s : Sg) (a : Nat) : (rowB s a).length = 56 := by simp [rowB, leB_length]
/-- The segments' headers; what stands behind them. -/
def segR (n : Nat) : List Sg → List UInt8
  | [] => []
  | s :: r => rowB s (up16 n) ++ segR (up16 n + s.data.length) r
def segT (n : Nat) : List Sg → List UInt8
  | [] => []
  | s :: r => zs (padN n 16) ++ s.data ++ segT (up16 n + s.data.length) r
def segN (n : Nat) : List Sg → Nat
  | [] => n
  | s :: r => segN (up16 n + s.data.length) r
theorem segR_len (n : Nat) : ∀ l : List Sg, (segR n l).length = 56 * l.length := by
  intro l
  induction l generalizing n with
  | nil => rfl
  | cons s r ih => unfold segR; rw [List.length_append, rowB_len, ih, List.length_cons]; omega
theorem segT_len : ∀ (l : List Sg) (n : Nat), n + (segT n l).length = segN n l
  | [], n => rfl
  | s :: r, n => by
    unfold segT segN
    rw [← segT_len r, List.length_append, List.length_append, zs_len]
    unfold up16; omega
theorem segN_ge : ∀ (l : List Sg) (n : Nat), n ≤ segN n l
  | [], n => Nat.le_refl _
  | s :: r, n => by
    unfold segN
    have := segN_ge r (up16 n + s.data.length)
    unfold up16 at *; omega
/-- Six numbers of a segment's header. -/
theorem loop20b {H0 : Heap} {f : FS} {wid rid : Nat} {secs : List (Int × Int)} {sc : Option Sl} (t2 t5 : Int) (t31 : Option Sl) (t32 t33 : Int) (tsl : Sl) (vs : List Nat) (P : List UInt8) (b40 b41 b42 b43 : Int) (b44 : Option Sl) (hv : vs.length = 6) : ∀ (m n j : Nat) (A Q : List UInt8) (H : Heap), j + m = 6 → WS H0 H f wid rid (A ++ Q ++ P) secs sc →
    (A ++ Q ++ P).length ≤ 1048576 → 8 * m ≤ Q.length → (t5 + 8 + 8 * j = (A.length : Int)) → RS 1 EU H (some tsl) vs → Aw H rid tsl.id →
    ∃ H', D20_10 (n + m + 1) (some (wid, 0)) t2 t5 t31 t32 t33 (some tsl) 6 (j : Int) b40 b41 b42 b43 b44 H = some (.exit 2, X20_10 (some (wid, 0)) t2 t31 t32 t33 b40 b41 b42 b43 b44 H') ∧
      WS H0 H' f wid rid (A ++ (vs.drop j).flatMap (leB 8) ++ Q.drop (8 * m) ++ P) secs sc
  | 0, n, j, A, Q, H, hm, h, hb, hQ, ht, hR, ha => by
    have g : decide ((j : Int) < 6) = false := by simp; omega
    refine ⟨H, by rw [D20_10_s, g, cf], ?_⟩
    rw [List.drop_eq_nil_of_le (by omega)]
    simpa using h
  | m + 1, n, j, A, Q, H, hm, h, hb, hQ, ht, hR, ha => by
    have g : decide ((j : Int) < 6) = true := by simp; omega
    have hj : j < vs.length := by omega
    obtain ⟨w0, _⟩ := h.g
    obtain ⟨sl, e0, g1, c0⟩ := getsU hR (List.getElem?_eq_getElem hj)
    cases e0
    have hAl : A.length ≤ 1048576 := by simp at hb; omega
    have hat : IntKind.i64.wrap (IntKind.i64.wrap (t5 + 8) + IntKind.i64.wrap (8 * (j : Int))) = (A.length : Int) := by
      rw [wrap_i64 (n := t5 + 8) (by omega) (by omega), wrap_i64 (n := 8 * (j : Int)) (by omega) (by omega), wrap_i64 (by omega) (by omega)]; omega
    obtain ⟨H1, e1, g1'⟩ := set_go h.r hb 8 vs[j] rfl (by omega)
    have h1 := h.go g1'
    have hQd : (Q.drop 8).length = Q.length - 8 := by simp
    rw [List.append_assoc, List.append_assoc] at g1'
    have h1' : WS H0 H1 f wid rid ((A ++ leB 8 vs[j]) ++ Q.drop 8 ++ P) secs sc := by simpa using h1
    have hlen : ((A ++ leB 8 vs[j]) ++ Q.drop 8 ++ P).length = (A ++ Q ++ P).length := by
      simp only [List.length_append, leB_length, List.length_drop]; omega
    have kk := g1'.k
    obtain ⟨H', r1, r2⟩ := loop20b t2 t5 t31 t32 t33 tsl vs P b40 b41 b42 b43 b44 hv m n (j + 1) (A ++ leB 8 vs[j]) (Q.drop 8) H1 (by omega) h1' (by rw [hlen]; exact hb) (by rw [hQd]; omega) (by rw [List.length_append, leB_length]; omega)
      (hR.kp kk fun q e _ => by cases e; exact ha.2) (ha.step g1'.r kk)
    refine ⟨H', ?_, ?_⟩
    · have e1' : f53 (some (rid, 0)) (A.length : Int) 8 ((vs[j] : Nat) : Int) H = some (0, H1) := e1
      rw [show n + (m + 1) + 1 = (n + m + 1) + 1 by omega, D20_10_s, g, ct]
      simp only [Ab.bs, g1, ct, c0, tInt, za, w0, tPtr, hat, e1', i64_succ j (by omega)]
      exact r1
    · rw [List.drop_drop] at r2
      rw [List.drop_eq_getElem_cons hj, List.flatMap_cons, show 8 * (m + 1) = 8 + 8 * m by omega]
      simpa using r2
structure SgOk (s : Sg) : Prop where
  k : 0 ≤ s.kind ∧ s.kind < 4294967296
  f : 0 ≤ s.flags ∧ s.flags ≤ 7
  a : u64r s.addr
  n : u64r s.size
theorem loop20a {H0 : Heap} {f : FS} {wid rid : Nat} {secs : List (Int × Int)} {sc : Option Sl} (l : List Sg) (hR : RS 5 ESg H0 f.sg l) (hl : l.length ≤ 24) (hd : ∀ s ∈ l, RS 1 E8 H0 s.sl s.data) (hlt : ∀ s ∈ l, ∀ sl, s.sl = some sl → s.data ≠ [] → sl.id < H0.length) (hok : ∀ s ∈ l, SgOk s) (hd0 : List UInt8) (h64 : hd0.length = 64) :
    ∀ (r : List Sg) (n i : Nat) (R T : List UInt8) (H : Heap), l.drop i = r → R.length = 56 * i → WS H0 H f wid rid (hd0 ++ R ++ zs (56 * r.length) ++ T) secs sc → segN (hd0 ++ R ++ zs (56 * r.length) ++ T).length r ≤ 1048576 →
    ∃ H', (D20_3 (n + r.length + 1) (some (wid, 0)) 64 f.sg (l.length : Int) (i : Int) H).bind J20_3 = some ((), H') ∧ WS H0 H' f wid rid (hd0 ++ R ++ segR (hd0 ++ R ++ zs (56 * r.length) ++ T).length r ++ (T ++ segT (hd0 ++ R ++ zs (56 * r.length) ++ T).length r)) secs sc
  | [], n, i, R, T, H, hr, hRl, h, hN => by
    have hi : l.length ≤ i := by
      rcases Nat.lt_or_ge i l.length with h1 | h1
      · rw [List.drop_eq_getElem_cons h1] at hr; cases hr
      · exact h1
    have g : decide ((i : Int) < (l.length : Int)) = false := by simp; omega
    refine ⟨H, ?_, ?_⟩
    · rw [List.length_nil, Nat.add_zero, D20_3_s, g, cf, Ab.bs, J20_3_0]
    · simpa [segR, segT, zs] using h
  | s :: r, n, i, R, T, H, hr, hRl, h, hN => by
    have hi : i < l.length := by
      rcases Nat.lt_or_ge i l.length with h1 | h1
      · exact h1
      · rw [List.drop_eq_nil_of_le h1] at hr; cases hr
    rw [List.drop_eq_getElem_cons hi, List.cons.injEq] at hr
    obtain ⟨hs, hr⟩ := hr
    have hsi : l[i]? = some s := by rw [List.getElem?_eq_getElem hi, hs]
    have hmem : s ∈ l := by rw [← hs]; exact List.getElem_mem hi
    have ok := hok s hmem
    have g : decide ((i : Int) < (l.length : Int)) = true := by simp; omega
    have hHk := h.k
    obtain ⟨sl, e0, g1, c0, c1, c2, c3, c4⟩ := getsSg (hR.no hHk) hsi
    obtain ⟨w0, _⟩ := h.g
    -- numbers of bytes
    have hL : (hd0 ++ R ++ zs (56 * (s :: r).length) ++ T).length = 64 + 56 * i + 56 * (r.length + 1) + T.length := by
      simp only [List.length_append, h64, hRl, zs_len, List.length_cons]
    generalize hLL : (hd0 ++ R ++ zs (56 * (s :: r).length) ++ T).length = L at hN hL
    unfold segN at hN
    have hge := segN_ge r (up16 L + s.data.length)
    have hup : up16 L = L + padN L 16 := rfl
    -- Pad
    obtain ⟨H1, e1, q1⟩ := pad_go h.r (by rw [hLL]; omega)
    have h1 := h.go q1
    rw [hLL] at h1
    obtain ⟨a0, _⟩ := h1.g
    have hZ : zs (56 * (s :: r).length) = zs 56 ++ zs (56 * r.length) := by
      unfold zs; rw [List.replicate_append_replicate, List.length_cons]; congr 1; omega
    have hb1 : hd0 ++ R ++ zs (56 * (s :: r).length) ++ T ++ List.replicate (padN L 16) 0 = (hd0 ++ R) ++ zs 56 ++ (zs (56 * r.length) ++ T ++ zs (padN L 16)) := by
      rw [hZ]; simp [zs]
    rw [hb1] at h1
    have hA : (hd0 ++ R).length = 64 + 56 * i := by rw [List.length_append, h64, hRl]
    have hlen1 : ((hd0 ++ R) ++ zs 56 ++ (zs (56 * r.length) ++ T ++ zs (padN L 16))).length = up16 L := by
      rw [← hb1, List.length_append, hLL, List.length_replicate]; rfl
    -- kind, flags
    obtain ⟨H2, e2, q2⟩ := set_go h1.r (by rw [hlen1]; omega) 4 s.kind.toNat rfl (by rw [zs_len]; omega)
    have h2 := h1.go q2
    obtain ⟨b0, _⟩ := h2.g
    have hb2 : hd0 ++ R ++ leB 4 s.kind.toNat ++ (zs 56).drop 4 ++ (zs (56 * r.length) ++ T ++ zs (padN L 16)) = (hd0 ++ R ++ leB 4 s.kind.toNat) ++ zs 52 ++ (zs (56 * r.length) ++ T ++ zs (padN L 16)) := by simp [zs]
    rw [hb2] at h2
    have hlen2 : ((hd0 ++ R ++ leB 4 s.kind.toNat) ++ zs 52 ++ (zs (56 * r.length) ++ T ++ zs (padN L 16))).length = up16 L := by
      rw [← hlen1]; simp only [List.length_append, leB_length, zs_len] <;> omega
    obtain ⟨H3, e3, q3⟩ := set_go h2.r (by rw [hlen2]; omega) 4 s.flags.toNat rfl (by rw [zs_len]; omega)
    have h3 := h2.go q3
    obtain ⟨d0, _⟩ := h3.g
    have hb3 : hd0 ++ R ++ leB 4 s.kind.toNat ++ leB 4 s.flags.toNat ++ (zs 52).drop 4 ++ (zs (56 * r.length) ++ T ++ zs (padN L 16)) = (hd0 ++ R ++ leB 4 s.kind.toNat ++ leB 4 s.flags.toNat) ++ zs 48 ++ (zs (56 * r.length) ++ T ++ zs (padN L 16)) := by simp [zs]
    rw [hb3] at h3
    have hlen3 : ((hd0 ++ R ++ leB 4 s.kind.toNat ++ leB 4 s.flags.toNat) ++ zs 48 ++ (zs (56 * r.length) ++ T ++ zs (padN L 16))).length = up16 L := by
      rw [← hlen1]; simp only [List.length_append, leB_length, zs_len] <;> omega
    -- six numbers
    have kN : Kp No H3 (H3 ++ [Blk.row ([up16 L, s.addr.toNat, s.addr.toNat, s.data.length, s.size.toNat, 16].flatMap EU) false]) := Kp.push1 _ _
    have hN3 : WS H0 (H3 ++ [Blk.row ([up16 L, s.addr.toNat, s.addr.toNat, s.data.length, s.size.toNat, 16].flatMap EU) false]) f wid rid ((hd0 ++ R ++ leB 4 s.kind.toNat ++ leB 4 s.flags.toNat) ++ zs 48 ++ (zs (56 * r.length) ++ T ++ zs (padN L 16))) secs sc :=
      h3.go ⟨rp_kp h3.r kN, kN.mono fun _ _ h => absurd h (fun x => x)⟩
    have hawN : Aw (H3 ++ [Blk.row ([up16 L, s.addr.toNat, s.addr.toNat, s.data.length, s.size.toNat, 16].flatMap EU) false]) rid H3.length := by
      refine ⟨by simp, ?_⟩
      obtain ⟨sx, x1, x2, x3, x4, x5⟩ := h3.r
      rintro (e | ⟨sl, e1, e2⟩ | e)
      · have := lt_of x1; omega
      · rw [kN.bk x1] at e1
        cases e1
        have := x2.lt; omega
      · simp at e; omega
    obtain ⟨n2, l2⟩ := LL20_10_of 6 (by omega) (some (wid, 0)) 64 ((64 + 56 * i : Nat) : Int) f.sg (l.length : Int) (i : Int) (some ⟨H3.length, 0, 6, 6, 1⟩) 6 0 s.kind s.flags s.addr s.size s.sl (H3 ++ [Blk.row ([up16 L, s.addr.toNat, s.addr.toNat, s.data.length, s.size.toNat, 16].flatMap EU) false])
    obtain ⟨H4, e4, h4⟩ := loop20b (H0 := H0) (f := f) (wid := wid) (rid := rid) (secs := secs) (sc := sc) 64 ((64 + 56 * i : Nat) : Int) f.sg (l.length : Int) (i : Int) ⟨H3.length, 0, 6, 6, 1⟩ [up16 L, s.addr.toNat, s.addr.toNat, s.data.length, s.size.toNat, 16] (zs (56 * r.length) ++ T ++ zs (padN L 16)) s.kind s.flags s.addr s.size s.sl rfl 6 n2 0 _ _ _ (by omega) hN3 (by rw [hlen3]; omega) (by rw [zs_len]; omega)
      (by simp only [List.length_append, leB_length, h64, hRl]; omega) (rs_new (E := EU) [up16 L, s.addr.toNat, s.addr.toNat, s.data.length, s.size.toNat, 16] (push_get _ _) rfl) hawN
    have l2' := l2.trans e4
    -- the data
    obtain ⟨f0, _⟩ := h4.g
    have hb4 : hd0 ++ R ++ leB 4 s.kind.toNat ++ leB 4 s.flags.toNat ++ ([up16 L, s.addr.toNat, s.addr.toNat, s.data.length, s.size.toNat, 16].drop 0).flatMap (leB 8) ++ (zs 48).drop (8 * 6) ++ (zs (56 * r.length) ++ T ++ zs (padN L 16)) = hd0 ++ (R ++ rowB s (up16 L)) ++ zs (56 * r.length) ++ (T ++ zs (padN L 16)) := by
      simp [zs, rowB]
    rw [hb4] at h4
    have hlen4 : (hd0 ++ (R ++ rowB s (up16 L)) ++ zs (56 * r.length) ++ (T ++ zs (padN L 16))).length = up16 L := by
      rw [← hlen1]; simp only [List.length_append, rowB_len, zs_len]; omega
    have hds := hd s hmem
    obtain ⟨H5, e5, q5⟩ := raw_go h4.r (Kp.refl No H4) s.sl (hds.no h4.k) (fun sl' e hne => fn_aw (h4.old (hlt s hmem sl' e hne)) (Kp.push1 _ _)) (by rw [hlen4]; omega)
    have h5 := h4.go q5
    have hb5 : hd0 ++ (R ++ rowB s (up16 L)) ++ zs (56 * r.length) ++ (T ++ zs (padN L 16)) ++ s.data = hd0 ++ (R ++ rowB s (up16 L)) ++ zs (56 * r.length) ++ (T ++ zs (padN L 16) ++ s.data) := by simp
    have hlen5 : (hd0 ++ (R ++ rowB s (up16 L)) ++ zs (56 * r.length) ++ (T ++ zs (padN L 16) ++ s.data)).length = up16 L + s.data.length := by
      rw [← hb5, List.length_append, hlen4]
    rw [hb5] at h5
    obtain ⟨H6, r1, r2⟩ := loop20a l hR hl hd hlt hok hd0 h64 r n (i + 1) (R ++ rowB s (up16 L)) (T ++ zs (padN L 16) ++ s.data) H5 hr (by rw [List.length_append, rowB_len, hRl]; omega) h5 (by rw [hlen5]; exact hN)
    rw [hlen5] at r2
    refine ⟨H6, ?_, ?_⟩
    · have gA : IntKind.i64.wrap (64 + IntKind.i64.wrap (56 * (i : Int))) = ((64 + 56 * i : Nat) : Int) := by
        rw [wrap_i64 (n := 56 * (i : Int)) (by omega) (by omega), wrap_i64 (by omega) (by omega)]; omega
      have gB : IntKind.i64.wrap (((64 + 56 * i : Nat) : Int) + 4) = ((64 + 56 * i + 4 : Nat) : Int) := by
        rw [wrap_i64 (by omega) (by omega)]; omega
      have gk : IntKind.u64.wrap s.kind = ((s.kind.toNat : Nat) : Int) := by have := ok.k; rw [wrap_u64]; omega
      have gf : IntKind.u64.wrap s.flags = ((s.flags.toNat : Nat) : Int) := by have := ok.f; rw [wrap_u64]; omega
      have e2' : f53 (some (rid, 0)) ((64 + 56 * i : Nat) : Int) 4 ((s.kind.toNat : Nat) : Int) H1 = some (0, H2) := by rw [← hA]; exact e2
      have e3' : f53 (some (rid, 0)) ((64 + 56 * i + 4 : Nat) : Int) 4 ((s.flags.toNat : Nat) : Int) H2 = some (0, H3) := by
        have : 64 + 56 * i + 4 = (hd0 ++ R ++ leB 4 s.kind.toNat).length := by rw [List.length_append, hA, leB_length]
        rw [this]; exact e3
      have hlg : g51 (some (rid, 0)) H3 = some ((up16 L : Nat) : Int) := by rw [len_go h3.r, hlen3]
      have hrow : [Cell.int IntKind.u64 (IntKind.u64.wrap ((up16 L : Nat) : Int)), Cell.int IntKind.u64 s.addr, Cell.int IntKind.u64 s.addr, Cell.int IntKind.u64 (IntKind.u64.wrap (slen s.sl)), Cell.int IntKind.u64 s.size, Cell.int IntKind.u64 16] = [up16 L, s.addr.toNat, s.addr.toNat, s.data.length, s.size.toNat, 16].flatMap EU := by
        rw [u64_nat _ (by omega), hds.slenEq, u64_nat _ (by omega)]
        simp [EU, nat_of ok.a.1, nat_of ok.n.1]
      rw [show n + (s :: r).length + 1 = (n + r.length + 1) + 1 by simp; omega, D20_3_s, g, ct]
      rw [show f.sg.bind = (some sl).bind (β := AExit × St) by rw [e0]]
      simp only [Ab.bs, g1, ct, c0, c1, c2, c3, c4, tInt, tSlice, za, w0, tPtr, e1, a0, gA, gk, e2', b0, gB, gf, e3', d0, hlg, hrow]
      rw [show slen (some (⟨H3.length, 0, 6, 6, 1⟩ : Sl)) = 6 from rfl, l2', Ab.bs, J20_10_0]
      simp only [Ab.bs, za, f0, tPtr, e5, i64_succ i (by omega)]
      exact r1
    · unfold segR segT
      have : hd0 ++ (R ++ rowB s (up16 L)) ++ segR (up16 L + s.data.length) r ++ (T ++ zs (padN L 16) ++ s.data ++ segT (up16 L + s.data.length) r) = hd0 ++ R ++ (rowB s (up16 L) ++ segR (up16 L + s.data.length) r) ++ (T ++ (zs (padN L 16) ++ s.data ++ segT (up16 L + s.data.length) r)) := by simp
      rw [← this]; exact r2
theorem f20_x {H0 H : Heap} {f : FS} {wid rid : Nat} {secs : List (Int × Int)} {sc : Option Sl} (l : List Sg) (hR : RS 5 ESg H0 f.sg l) (hl : l.length ≤ 24) (hd : ∀ s ∈ l, RS 1 E8 H0 s.sl s.data) (hlt : ∀ s ∈ l, ∀ sl, s.sl = some sl → s.data ≠ [] → sl.id < H0.length) (hok : ∀ s ∈ l, SgOk s) (hd0 : List UInt8) (h64 : hd0.length = 64)
    (h : WS H0 H f wid rid hd0 secs sc) (hN : segN (64 + 56 * l.length) l ≤ 1048576) :
    ∃ H', f20 (some (wid, 0)) H = some ((), H') ∧ WS H0 H' f wid rid (hd0 ++ segR (64 + 56 * l.length) l ++ segT (64 + 56 * l.length) l) secs sc := by
  obtain ⟨w0, w1, w2, w3, _⟩ := h.g
  have hsl : slen f.sg = (l.length : Int) := hR.slenEq
  have hw : IntKind.i64.wrap (56 * (l.length : Int)) = ((56 * l.length : Nat) : Int) := by rw [wrap_i64 (by omega) (by omega)]; omega
  obtain ⟨H1, m1, o1, k1, n1⟩ := make_OS (E := E8) E8_len H (0 : UInt8) (56 * l.length) 1 (by unfold most; omega) (by unfold most; omega)
  have m1' : H.make 1 1 [Cell.int IntKind.u8 0] ((56 * l.length : Nat) : Int) ((56 * l.length : Nat) : Int) = some (some ⟨H.length, 0, 56 * l.length, 56 * l.length, 1⟩, H1) := m1
  have hge := segN_ge l (64 + 56 * l.length)
  obtain ⟨H2, e2, q2⟩ := raw_go h.r k1 (some ⟨H.length, 0, 56 * l.length, 56 * l.length, 1⟩) o1.rs (fun sl e _ => by
    cases e
    exact fn_not (Nat.le_refl _) (by show H.length < _; simp; omega)) (by rw [List.length_replicate, h64]; omega)
  have h2 := h.go q2
  obtain ⟨a0, a1, a2, a3, _⟩ := h2.g
  obtain ⟨n, le⟩ := LL20_3_of l.length (by omega) (some (wid, 0)) 64 f.sg (l.length : Int) 0 H2
  have hb : hd0 ++ List.replicate (56 * l.length) 0 = hd0 ++ [] ++ zs (56 * l.length) ++ [] := by simp [zs]
  rw [hb] at h2
  have hlen : (hd0 ++ [] ++ zs (56 * l.length) ++ []).length = 64 + 56 * l.length := by simp [zs, h64]
  obtain ⟨H3, r1, r2⟩ := loop20a l hR hl hd hlt hok hd0 h64 l n 0 [] [] H2 rfl rfl h2 (by rw [hlen]; exact hN)
  rw [hlen] at r2
  refine ⟨H3, ?_, by simpa using r2⟩
  rw [q20]
  simp only [Ab.bs, za, az, w0, tPtr, len_go h.r, h64, show (1 : Nat) + 2 = 3 from rfl, w3, tSlice, hsl, hw, m1', e2, a3]
  rw [show ((64 : Nat) : Int) = 64 from rfl, le]
  exact r1
def symB (name : Nat) (s : Sy) : List UInt8 := [name].flatMap (leB 4) ++ [s.kind.toNat + 16, 0].flatMap (leB 1) ++ [1].flatMap (leB 2) ++ [s.addr.toNat, s.size.toNat].flatMap (leB 8)
theorem symB_len (n : Nat) (s : Sy) : (symB n s).length = 24 := by simp [symB, leB_length]
def symsB (name : Nat) : List Sy → List UInt8
  | [] => []
  | s :: r => symB name s ++ symsB (name + (s.name.size + 1)) r
theorem symsB_len : ∀ (l : List Sy) (n : Nat), (symsB n l).length = 24 * l.length
  | [], _ => rfl
  | s :: r, n => by unfold symsB; rw [List.length_append, symB_len, symsB_len r, List.length_cons]; omega
def namesB : List Sy → List UInt8
  | [] => []
  | s :: r => s.name.data.toList ++ [0] ++ namesB r
def namesN : List Sy → Nat
  | [] => 0
  | s :: r => (s.name.size + 1) + namesN r
theorem namesB_len : ∀ l : List Sy, (namesB l).length = namesN l
  | [] => rfl
  | s :: r => by
    unfold namesB namesN
    have : s.name.data.toList.length = s.name.size := by simp
    rw [List.length_append, List.length_append, namesB_len r, this]; rfl
structure SyOk (s : Sy) : Prop where
  n : s.name.size ≤ 32
  z : fi s.name.data.toList = none
  k : 0 ≤ s.kind ∧ s.kind ≤ 2
  a : u64r s.addr
  s : u64r s.size
theorem kind16 {k : Int} (h : 0 ≤ k ∧ k ≤ 2) : IntKind.u64.wrap (bor IntKind.i64 k 16) = ((k.toNat + 16 : Nat) : Int) := by
  have : k = 0 ∨ k = 1 ∨ k = 2 := by omega
  rcases this with rfl | rfl | rfl <;> decide
/-- Texts, from a new row. -/
theorem text_go {id : Nat} {H : Heap} {b : List UInt8} (hr : Rq H id b) (ss : List ByteArray) (k : Nat) (row : List Cell) (hk : k = ss.length) (hk2 : ss.length ≤ 10) (hz : ∀ s ∈ ss, fi s.data.toList = none) (hsz : ∀ s ∈ ss, s.size ≤ 100) (hf : total (tparts ss) + b.length ≤ 1048576) (hrow : row = ss.flatMap EStr) :
    ∃ H', f55 (some (id, 0)) (some ⟨H.length, 0, k, k, 1⟩) (H ++ [.row row false]) = some (0, H') ∧ Stp id H H' (b ++ (tparts ss).flatten) := by
  subst hrow
  have kG : Kp No H (H ++ [.row (ss.flatMap EStr) false]) := Kp.push1 _ _
  obtain ⟨H', e1, e2, e3⟩ := (f55_spec (x := some ⟨H.length, 0, k, k, 1⟩) (ss := ss) (rp_new hr kG) (by omega) (fn_up _ _ _) (rs_new ss (push_get _ _) hk) (by omega) (fun s hs => by have := hsz s hs; unfold most; omega)).2.2 hz hf
  exact ⟨H', e1, go_new kG e2 e3⟩
theorem loop21a {H0 : Heap} {f : FS} {wid rid : Nat} {secs : List (Int × Int)} {sc : Option Sl} (t2 : Int) (l : List Sy) (hR : RS 4 ESy H0 f.sy l) (hl : l.length ≤ 64) (hok : ∀ s ∈ l, SyOk s) :
    ∀ (r : List Sy) (n i nm : Nat) (b : List UInt8) (H : Heap), l.drop i = r → nm ≤ 33 * i + 1 → WS H0 H f wid rid b secs sc → b.length + 24 * r.length ≤ 1048576 →
    ∃ H', D21_4 (n + r.length + 1) (some (wid, 0)) t2 (nm : Int) f.sy (l.length : Int) (i : Int) H = some (.exit 0, X21_4 (some (wid, 0)) t2 H') ∧ WS H0 H' f wid rid (b ++ symsB nm r) secs sc
  | [], n, i, nm, b, H, hr, hnm, h, hN => by
    have hi : l.length ≤ i := by
      rcases Nat.lt_or_ge i l.length with h1 | h1
      · rw [List.drop_eq_getElem_cons h1] at hr; cases hr
      · exact h1
    have g : decide ((i : Int) < (l.length : Int)) = false := by simp; omega
    exact ⟨H, by rw [List.length_nil, Nat.add_zero, D21_4_s, g, cf], by simpa [symsB] using h⟩
  | s :: r, n, i, nm, b, H, hr, hnm, h, hN => by
    have hi : i < l.length := by
      rcases Nat.lt_or_ge i l.length with h1 | h1
      · exact h1
      · rw [List.drop_eq_nil_of_le h1] at hr; cases hr
    rw [List.drop_eq_getElem_cons hi, List.cons.injEq] at hr
    obtain ⟨hs, hr⟩ := hr
    have hsi : l[i]? = some s := by rw [List.getElem?_eq_getElem hi, hs]
    have ok := hok s (by rw [← hs]; exact List.getElem_mem hi)
    have hsz := ok.n
    have g : decide ((i : Int) < (l.length : Int)) = true := by simp; omega
    obtain ⟨sl, e0, g1, c0, c1, c2, c3⟩ := getsSy (hR.no h.k) hsi
    simp only [List.length_cons] at hN
    obtain ⟨w0, _⟩ := h.g
    obtain ⟨H1, e1, q1⟩ := num_go' h.r [nm] 4 1 4 [Cell.int .u64 (IntKind.u64.wrap (nm : Int))] rfl rfl rfl (by simp; omega) (by rw [u64_nat nm (by omega)]; rfl)
    have h1 := h.go q1
    obtain ⟨a0, _⟩ := h1.g
    obtain ⟨H2, e2, q2⟩ := num_go' h1.r [s.kind.toNat + 16, 0] 1 2 1 [Cell.int .u64 (IntKind.u64.wrap (bor IntKind.i64 s.kind 16)), Cell.int .u64 0] rfl rfl rfl (by simp [leB_length]; omega) (by rw [kind16 ok.k]; rfl)
    have h2 := h1.go q2
    obtain ⟨b0, _⟩ := h2.g
    obtain ⟨H3, e3, q3⟩ := num_go' h2.r [1] 2 1 2 [Cell.int .u64 1] rfl rfl rfl (by simp [leB_length]; omega) rfl
    have h3 := h2.go q3
    obtain ⟨d0, _⟩ := h3.g
    obtain ⟨H4, e4, q4⟩ := num_go' h3.r [s.addr.toNat, s.size.toNat] 8 2 8 [Cell.int .u64 s.addr, Cell.int .u64 s.size] rfl rfl rfl (by simp [leB_length]; omega) (by simp [EU, nat_of ok.a.1, nat_of ok.s.1])
    have h4 := h3.go q4
    have hb : b ++ [nm].flatMap (leB 4) ++ [s.kind.toNat + 16, 0].flatMap (leB 1) ++ [1].flatMap (leB 2) ++ [s.addr.toNat, s.size.toNat].flatMap (leB 8) = b ++ symB nm s := by simp [symB]
    rw [hb] at h4
    obtain ⟨H', r1, r2⟩ := loop21a t2 l hR hl hok r n (i + 1) (nm + (s.name.size + 1)) (b ++ symB nm s) H4 hr (by omega) h4 (by rw [List.length_append, symB_len]; omega)
    refine ⟨H', ?_, ?_⟩
    · have gn : IntKind.i64.wrap ((nm : Int) + IntKind.i64.wrap ((s.name.size : Int) + 1)) = ((nm + (s.name.size + 1) : Nat) : Int) := by
        rw [wrap_i64 (n := (s.name.size : Int) + 1) (by omega) (by omega), wrap_i64 (by omega) (by omega)]; omega
      rw [show n + (s :: r).length + 1 = (n + r.length + 1) + 1 by simp; omega, D21_4_s, g, ct]
      rw [show f.sy.bind = (some sl).bind (β := AExit × St) by rw [e0]]
      simp only [Ab.bs, g1, ct, c0, c1, c2, c3, tInt, tStr, za, w0, tPtr, e1, a0, e2, b0, e3, d0, e4, gn, i64_succ i (by omega)]
      exact r1
    · unfold symsB
      rw [← List.append_assoc]; exact r2
theorem loop21b {H0 : Heap} {f : FS} {wid rid : Nat} {secs : List (Int × Int)} {sc : Option Sl} (t2 : Int) (l : List Sy) (hR : RS 4 ESy H0 f.sy l) (hl : l.length ≤ 64) (hok : ∀ s ∈ l, SyOk s) :
    ∀ (r : List Sy) (n i : Nat) (b : List UInt8) (H : Heap), l.drop i = r → WS H0 H f wid rid b secs sc → b.length + namesN r ≤ 1048576 →
    ∃ H', D21_16 (n + r.length + 1) (some (wid, 0)) t2 f.sy (l.length : Int) (i : Int) H = some (.exit 2, X21_16 (some (wid, 0)) t2 H') ∧ WS H0 H' f wid rid (b ++ namesB r) secs sc
  | [], n, i, b, H, hr, h, hN => by
    have hi : l.length ≤ i := by
      rcases Nat.lt_or_ge i l.length with h1 | h1
      · rw [List.drop_eq_getElem_cons h1] at hr; cases hr
      · exact h1
    have g : decide ((i : Int) < (l.length : Int)) = false := by simp; omega
    exact ⟨H, by rw [List.length_nil, Nat.add_zero, D21_16_s, g, cf], by simpa [namesB] using h⟩
  | s :: r, n, i, b, H, hr, h, hN => by
    have hi : i < l.length := by
      rcases Nat.lt_or_ge i l.length with h1 | h1
      · exact h1
      · rw [List.drop_eq_nil_of_le h1] at hr; cases hr
    rw [List.drop_eq_getElem_cons hi, List.cons.injEq] at hr
    obtain ⟨hs, hr⟩ := hr
    have hsi : l[i]? = some s := by rw [List.getElem?_eq_getElem hi, hs]
    have ok := hok s (by rw [← hs]; exact List.getElem_mem hi)
    have hsz := ok.n
    have g : decide ((i : Int) < (l.length : Int)) = true := by simp; omega
    obtain ⟨sl, e0, g1, c0, c1, c2, c3⟩ := getsSy (hR.no h.k) hsi
    unfold namesN at hN
    obtain ⟨w0, _⟩ := h.g
    have hsl : s.name.data.toList.length = s.name.size := by simp
    obtain ⟨H1, e1, q1⟩ := text_go h.r [s.name] 1 [Cell.str s.name] rfl (by simp) (by simpa using ok.z) (by simp; omega) (by simp [total, tparts]; omega) rfl
    have h1 := h.go q1
    have hb : b ++ (tparts [s.name]).flatten = b ++ (s.name.data.toList ++ [0]) := by simp [tparts]
    rw [hb] at h1
    obtain ⟨H', r1, r2⟩ := loop21b t2 l hR hl hok r n (i + 1) (b ++ (s.name.data.toList ++ [0])) H1 hr h1 (by rw [List.length_append, List.length_append, hsl, List.length_singleton]; omega)
    refine ⟨H', ?_, ?_⟩
    · rw [show n + (s :: r).length + 1 = (n + r.length + 1) + 1 by simp; omega, D21_16_s, g, ct]
      rw [show f.sy.bind = (some sl).bind (β := AExit × St) by rw [e0]]
      simp only [Ab.bs, g1, ct, c0, c1, c2, c3, tInt, tStr, za, w0, tPtr, e1, i64_succ i (by omega)]
      exact r1
    · unfold namesB
      rw [List.append_assoc] at r2
      exact r2
def symsAll (L : Nat) (l : List Sy) : List UInt8 := zs (padN L 16) ++ zs 24 ++ symsB 1 l ++ [0] ++ namesB l
theorem symsAll_len (L : Nat) (l : List Sy) : (symsAll L l).length = padN L 16 + 24 * (l.length + 1) + (1 + namesN l) := by
  unfold symsAll
  simp only [List.length_append, zs_len, symsB_len, namesB_len, List.length_singleton]; omega
theorem f21_x {H0 H : Heap} {f : FS} {wid rid : Nat} {b : List UInt8} {secs : List (Int × Int)} {sc : Option Sl} (l : List Sy) (hR : RS 4 ESy H0 f.sy l) (hl : l.length ≤ 64) (hok : ∀ s ∈ l, SyOk s) (h : WS H0 H f wid rid b secs sc) (hs : secs.length ≤ 10)
    (hN : up16 b.length + 24 * (l.length + 1) + (1 + namesN l) ≤ 1048576) :
    ∃ H' sc', f21 (some (wid, 0)) H = some ((), H') ∧ WS H0 H' f wid rid (b ++ symsAll b.length l) (secs ++ [(((up16 b.length : Nat) : Int), ((24 * (l.length + 1) : Nat) : Int)), (((up16 b.length + 24 * (l.length + 1) : Nat) : Int), ((1 + namesN l : Nat) : Int))]) sc' := by
  unfold up16 at *
  have hsl : slen f.sy = (l.length : Int) := hR.slenEq
  obtain ⟨w0, _⟩ := h.g
  obtain ⟨H1, e1, q1⟩ := pad_go h.r (by omega)
  have h1 := h.go q1
  obtain ⟨a0, _⟩ := h1.g
  have hl1 : (b ++ List.replicate (padN b.length 16) 0).length = b.length + padN b.length 16 := by simp
  have kG : Kp No H1 (H1 ++ [Blk.row ((zs 24).flatMap E8) false]) := Kp.push1 _ _
  obtain ⟨H2, e2, q2⟩ := raw_go h1.r kG (some ⟨H1.length, 0, 24, 24, 1⟩) (rs_new (E := E8) (zs 24) (push_get _ _) rfl) (fun sl e _ => by cases e; exact fn_not (Nat.le_refl _) (by show H1.length < _; simp <;> omega)) (by rw [zs_len, hl1]; omega)
  have h2 := h1.go q2
  obtain ⟨b0, _, _, _, b4, _⟩ := h2.g
  obtain ⟨n3, l3⟩ := LL21_4_of l.length (by omega) (some (wid, 0)) ((b.length + padN b.length 16 : Nat) : Int) 1 f.sy (l.length : Int) 0 H2
  obtain ⟨H3, r3, h3⟩ := loop21a ((b.length + padN b.length 16 : Nat) : Int) l hR hl hok l n3 0 1 _ H2 rfl (by omega) h2 (by simp only [List.length_append, zs_len, List.length_replicate]; omega)
  have l3' := l3.trans r3
  have hl3 : (b ++ List.replicate (padN b.length 16) 0 ++ zs 24 ++ symsB 1 l).length = b.length + padN b.length 16 + 24 * (l.length + 1) := by
    simp only [List.length_append, zs_len, List.length_replicate, symsB_len]; omega
  obtain ⟨s4, H4, e4, h4⟩ := f54_x h3 (b.length + padN b.length 16) (by rw [hl3]; omega) (by rw [hl3]; omega) (by omega)
  obtain ⟨d0, _⟩ := h4.g
  obtain ⟨H5, e5, q5⟩ := text_go h4.r [⟨#[]⟩] 1 [Cell.str ⟨#[]⟩] rfl (by simp) (fun s hs => by rw [List.mem_singleton.1 hs]; rfl) (fun s hs => by rw [List.mem_singleton.1 hs]; decide) (by rw [hl3, show total (tparts [(⟨#[]⟩ : ByteArray)]) = 1 from rfl]; omega) rfl
  have h5 := h4.go q5
  obtain ⟨f0, _, _, _, f4, _⟩ := h5.g
  have hb5 : (tparts [(⟨#[]⟩ : ByteArray)]).flatten = [0] := rfl
  rw [hb5] at h5
  obtain ⟨n6, l6⟩ := LL21_16_of l.length (by omega) (some (wid, 0)) ((b.length + padN b.length 16 + 24 * (l.length + 1) : Nat) : Int) f.sy (l.length : Int) 0 H5
  obtain ⟨H6, r6, h6⟩ := loop21b ((b.length + padN b.length 16 + 24 * (l.length + 1) : Nat) : Int) l hR hl hok l n6 0 _ H5 rfl h5 (by rw [List.length_append, hl3, List.length_singleton]; omega)
  have l6' := l6.trans r6
  have hl6 : (b ++ List.replicate (padN b.length 16) 0 ++ zs 24 ++ symsB 1 l ++ [0] ++ namesB l).length = b.length + padN b.length 16 + 24 * (l.length + 1) + (1 + namesN l) := by
    rw [List.length_append, List.length_append, hl3, namesB_len, List.length_singleton]; omega
  obtain ⟨s7, H7, e7, h7⟩ := f54_x h6 (b.length + padN b.length 16 + 24 * (l.length + 1)) (by rw [hl6]; omega) (by rw [hl6]; omega) (by simp; omega)
  refine ⟨H7, s7, ?_, ?_⟩
  · have hlen2 : (H1 ++ [Blk.row ((zs 24).flatMap E8) false]).length = H1.length + 1 := by simp
    have e2' : f49 (some (rid, 0)) (some ⟨List.length (H1 ++ [Blk.row [Cell.int IntKind.u8 0, Cell.int IntKind.u8 0, Cell.int IntKind.u8 0, Cell.int IntKind.u8 0, Cell.int IntKind.u8 0, Cell.int IntKind.u8 0, Cell.int IntKind.u8 0, Cell.int IntKind.u8 0, Cell.int IntKind.u8 0, Cell.int IntKind.u8 0, Cell.int IntKind.u8 0, Cell.int IntKind.u8 0, Cell.int IntKind.u8 0, Cell.int IntKind.u8 0, Cell.int IntKind.u8 0, Cell.int IntKind.u8 0, Cell.int IntKind.u8 0, Cell.int IntKind.u8 0, Cell.int IntKind.u8 0, Cell.int IntKind.u8 0, Cell.int IntKind.u8 0, Cell.int IntKind.u8 0, Cell.int IntKind.u8 0, Cell.int IntKind.u8 0] false]), 0, 1, 1, 1⟩)
        (H1 ++ [Blk.row [Cell.int IntKind.u8 0, Cell.int IntKind.u8 0, Cell.int IntKind.u8 0, Cell.int IntKind.u8 0, Cell.int IntKind.u8 0, Cell.int IntKind.u8 0, Cell.int IntKind.u8 0, Cell.int IntKind.u8 0, Cell.int IntKind.u8 0, Cell.int IntKind.u8 0, Cell.int IntKind.u8 0, Cell.int IntKind.u8 0, Cell.int IntKind.u8 0, Cell.int IntKind.u8 0, Cell.int IntKind.u8 0, Cell.int IntKind.u8 0, Cell.int IntKind.u8 0, Cell.int IntKind.u8 0, Cell.int IntKind.u8 0, Cell.int IntKind.u8 0, Cell.int IntKind.u8 0, Cell.int IntKind.u8 0, Cell.int IntKind.u8 0, Cell.int IntKind.u8 0] false] ++ [Blk.row [Cell.slice (some { id := List.length H1, off := 0, len := 24, cap := 24, esz := 1 })] false]) = some ((), H2) := e2
    rw [q21]
    simp only [Ab.bs, za, w0, tPtr, e1, a0, len_go h1.r, hl1, e2', b4, show (1 : Nat) + 3 = 4 from rfl, tSlice, hsl]
    rw [show (1 : Int) = ((1 : Nat) : Int) from rfl] at l3'
    rw [show LL21_4 (some (wid, 0)) ((b.length + padN b.length 16 : Nat) : Int) 1 f.sy (l.length : Int) 0 H2 = _ from l3', Ab.bs, J21_4_0, e4, Ab.bs]
    simp only [Ab.bs, za, d0, tPtr, len_go h4.r, hl3]
    rw [e5, Ab.bs]
    simp only [Ab.bs, za, f4, show (1 : Nat) + 3 = 4 from rfl, tSlice, hsl]
    rw [l6', Ab.bs, J21_16_0, e7, Ab.bs]
  · have hx : b.length + padN b.length 16 + 24 * (l.length + 1) - (b.length + padN b.length 16) = 24 * (l.length + 1) := by omega
    have hy : b.length + padN b.length 16 + 24 * (l.length + 1) + (1 + namesN l) - (b.length + padN b.length 16 + 24 * (l.length + 1)) = 1 + namesN l := by omega
    rw [hl3, hl6, hx, hy] at h7
    have hbb : b ++ List.replicate (padN b.length 16) 0 ++ zs 24 ++ symsB 1 l ++ [0] ++ namesB l = b ++ symsAll b.length l := by simp [symsAll, zs]
    rw [hbb] at h7
    simpa using h7
def relN (r : Rl) : List Nat := [r.at'.toNat, 1 + 4294967296 * (r.sym.toNat + 1), (IntKind.u64.wrap r.add).toNat]
def relsB : List Rl → List UInt8
  | [] => []
  | r :: l => (relN r).flatMap (leB 8) ++ relsB l
theorem relsB_len : ∀ l : List Rl, (relsB l).length = 24 * l.length
  | [] => rfl
  | r :: l => by unfold relsB relN; rw [List.length_append, relsB_len l]; simp [leB_length]; omega
structure RlOk (r : Rl) (n : Nat) : Prop where
  a : u64r r.at'
  s : 0 ≤ r.sym ∧ r.sym < (n : Int)
theorem sym32 {k : Nat} (h : k ≤ 100) : bor IntKind.u64 1 (ishl IntKind.u64 ((k : Nat) : Int) 32) = ((1 + 4294967296 * k : Nat) : Int) := by
  have e1 : ishl IntKind.u64 ((k : Nat) : Int) 32 = ((2 ^ 32 * k : Nat) : Int) := by
    unfold ishl
    have : min ((32 : Int).toNat) IntKind.u64.bits = 32 := rfl
    rw [this, wrap_u64]; omega
  rw [e1, bor_u64]
  have h1 : ((1 : Int) % 18446744073709551616).toNat = 1 := by decide
  have h2 : (((2 ^ 32 * k : Nat) : Int) % 18446744073709551616).toNat = 2 ^ 32 * k := by omega
  rw [h1, h2, Nat.or_comm, ← Nat.two_pow_add_eq_or_of_lt (by omega)]
  congr 1; omega
theorem loop22 {H0 : Heap} {f : FS} {wid rid : Nat} {secs : List (Int × Int)} {sc : Option Sl} (t2 : Int) (l : List Rl) (hR : RS 3 ERl H0 f.rl l) (hl : l.length ≤ 64) (ns : Nat) (hns : ns ≤ 64) (hok : ∀ s ∈ l, RlOk s ns) :
    ∀ (r : List Rl) (n i : Nat) (b : List UInt8) (H : Heap), l.drop i = r → WS H0 H f wid rid b secs sc → b.length + 24 * r.length ≤ 1048576 →
    ∃ H', D22_3 (n + r.length + 1) (some (wid, 0)) t2 f.rl (l.length : Int) (i : Int) H = some (.exit 0, X22_3 (some (wid, 0)) t2 H') ∧ WS H0 H' f wid rid (b ++ relsB r) secs sc
  | [], n, i, b, H, hr, h, hN => by
    have hi : l.length ≤ i := by
      rcases Nat.lt_or_ge i l.length with h1 | h1
      · rw [List.drop_eq_getElem_cons h1] at hr; cases hr
      · exact h1
    have g : decide ((i : Int) < (l.length : Int)) = false := by simp; omega
    exact ⟨H, by rw [List.length_nil, Nat.add_zero, D22_3_s, g, cf], by simpa [relsB] using h⟩
  | s :: r, n, i, b, H, hr, h, hN => by
    have hi : i < l.length := by
      rcases Nat.lt_or_ge i l.length with h1 | h1
      · exact h1
      · rw [List.drop_eq_nil_of_le h1] at hr; cases hr
    rw [List.drop_eq_getElem_cons hi, List.cons.injEq] at hr
    obtain ⟨hs, hr⟩ := hr
    have hsi : l[i]? = some s := by rw [List.getElem?_eq_getElem hi, hs]
    have ok := hok s (by rw [← hs]; exact List.getElem_mem hi)
    have g : decide ((i : Int) < (l.length : Int)) = true := by simp; omega
    obtain ⟨sl, e0, g1, c0, c1, c2⟩ := getsRl (hR.no h.k) hsi
    simp only [List.length_cons] at hN
    obtain ⟨w0, _⟩ := h.g
    have hsy : IntKind.u64.wrap (IntKind.i64.wrap (s.sym + 1)) = ((s.sym.toNat + 1 : Nat) : Int) := by
      have := ok.s
      rw [wrap_i64 (by omega) (by omega), wrap_u64]; omega
    have had : (((IntKind.u64.wrap s.add).toNat : Nat) : Int) = IntKind.u64.wrap s.add := Int.toNat_of_nonneg (by rw [wrap_u64]; omega)
    have hs32 := sym32 (k := s.sym.toNat + 1) (by have := ok.s; omega)
    obtain ⟨H1, e1, q1⟩ := num_go' h.r (relN s) 8 3 8 [Cell.int .u64 s.at', Cell.int .u64 (bor IntKind.u64 1 (ishl IntKind.u64 (IntKind.u64.wrap (IntKind.i64.wrap (s.sym + 1))) 32)), Cell.int .u64 (IntKind.u64.wrap s.add)] rfl rfl rfl (by simp [relN]; omega) (by rw [hsy, hs32]; simp [relN, EU, nat_of ok.a.1, had])
    have h1 := h.go q1
    obtain ⟨H', r1, r2⟩ := loop22 t2 l hR hl ns hns hok r n (i + 1) (b ++ (relN s).flatMap (leB 8)) H1 hr h1 (by rw [List.length_append]; simp [relN, leB_length]; omega)
    refine ⟨H', ?_, ?_⟩
    · rw [show n + (s :: r).length + 1 = (n + r.length + 1) + 1 by simp; omega, D22_3_s, g, ct]
      rw [show f.rl.bind = (some sl).bind (β := AExit × St) by rw [e0]]
      simp only [Ab.bs, g1, ct, c0, c1, c2, tInt, za, w0, tPtr, e1, i64_succ i (by omega)]
      exact r1
    · unfold relsB
      rw [← List.append_assoc]; exact r2
/-- The sections' names. -/
def strs : List ByteArray := [⟨#[]⟩, ⟨#[UInt8.ofNat 46, UInt8.ofNat 115, UInt8.ofNat 121, UInt8.ofNat 109, UInt8.ofNat 116, UInt8.ofNat 97, UInt8.ofNat 98]⟩, ⟨#[UInt8.ofNat 46, UInt8.ofNat 115, UInt8.ofNat 116, UInt8.ofNat 114, UInt8.ofNat 116, UInt8.ofNat 97, UInt8.ofNat 98]⟩, ⟨#[UInt8.ofNat 46, UInt8.ofNat 114, UInt8.ofNat 101, UInt8.ofNat 108, UInt8.ofNat 97]⟩, ⟨#[UInt8.ofNat 46, UInt8.ofNat 115, UInt8.ofNat 104, UInt8.ofNat 115, UInt8.ofNat 116, UInt8.ofNat 114, UInt8.ofNat 116, UInt8.ofNat 97, UInt8.ofNat 98]⟩]
def textsB : List UInt8 := (tparts strs).flatten
theorem textsB_len : textsB.length = 33 := rfl
def relsAll (L : Nat) (l : List Rl) : List UInt8 := zs (padN L 16) ++ relsB l ++ textsB
theorem relsAll_len (L : Nat) (l : List Rl) : (relsAll L l).length = padN L 16 + 24 * l.length + 33 := by
  unfold relsAll
  simp only [List.length_append, zs_len, relsB_len, textsB_len]
theorem f22_x {H0 H : Heap} {f : FS} {wid rid : Nat} {b : List UInt8} {secs : List (Int × Int)} {sc : Option Sl} (l : List Rl) (hR : RS 3 ERl H0 f.rl l) (hl : l.length ≤ 64) (ns : Nat) (hns : ns ≤ 64) (hok : ∀ s ∈ l, RlOk s ns) (h : WS H0 H f wid rid b secs sc) (hs : secs.length ≤ 10)
    (hN : up16 b.length + 24 * l.length + 33 ≤ 1048576) :
    ∃ H' sc', f22 (some (wid, 0)) H = some ((), H') ∧ WS H0 H' f wid rid (b ++ relsAll b.length l) (secs ++ [(((up16 b.length : Nat) : Int), ((24 * l.length : Nat) : Int)), (((up16 b.length + 24 * l.length : Nat) : Int), ((33 : Nat) : Int))]) sc' := by
  unfold up16 at *
  have hsl : slen f.rl = (l.length : Int) := hR.slenEq
  obtain ⟨w0, _⟩ := h.g
  obtain ⟨H1, e1, q1⟩ := pad_go h.r (by omega)
  have h1 := h.go q1
  obtain ⟨a0, _, _, _, _, a5, _⟩ := h1.g
  have hl1 : (b ++ List.replicate (padN b.length 16) 0).length = b.length + padN b.length 16 := by simp
  obtain ⟨n3, l3⟩ := LL22_3_of l.length (by omega) (some (wid, 0)) ((b.length + padN b.length 16 : Nat) : Int) f.rl (l.length : Int) 0 H1
  obtain ⟨H3, r3, h3⟩ := loop22 ((b.length + padN b.length 16 : Nat) : Int) l hR hl ns hns hok l n3 0 _ H1 rfl h1 (by rw [hl1]; omega)
  have l3' := l3.trans r3
  have hl3 : (b ++ List.replicate (padN b.length 16) 0 ++ relsB l).length = b.length + padN b.length 16 + 24 * l.length := by
    rw [List.length_append, hl1, relsB_len]
  obtain ⟨s4, H4, e4, h4⟩ := f54_x h3 (b.length + padN b.length 16) (by rw [hl3]; omega) (by rw [hl3]; omega) (by omega)
  obtain ⟨d0, _⟩ := h4.g
  obtain ⟨H5, e5, q5⟩ := text_go h4.r strs 5 (strs.flatMap EStr) rfl (by decide) (fun s hs => by
      simp only [strs, List.mem_cons, List.not_mem_nil, or_false] at hs
      rcases hs with rfl | rfl | rfl | rfl | rfl <;> rfl) (fun s hs => by
      simp only [strs, List.mem_cons, List.not_mem_nil, or_false] at hs
      rcases hs with rfl | rfl | rfl | rfl | rfl <;> decide) (by rw [hl3, show total (tparts strs) = 33 from rfl]; omega) rfl
  have h5 := h4.go q5
  have hl5 : (b ++ List.replicate (padN b.length 16) 0 ++ relsB l ++ (tparts strs).flatten).length = b.length + padN b.length 16 + 24 * l.length + 33 := by
    rw [List.length_append, hl3]; rfl
  obtain ⟨s7, H7, e7, h7⟩ := f54_x h5 (b.length + padN b.length 16 + 24 * l.length) (by rw [hl5]; omega) (by rw [hl5]; omega) (by simp; omega)
  refine ⟨H7, s7, ?_, ?_⟩
  · rw [q22]
    simp only [Ab.bs, za, w0, tPtr, e1, a0, len_go h1.r, hl1, a5, show (1 : Nat) + 4 = 5 from rfl, tSlice, hsl]
    rw [l3', Ab.bs, J22_3_0, e4, Ab.bs]
    simp only [Ab.bs, za, d0, tPtr, len_go h4.r, hl3]
    have e5' : f55 (some (rid, 0)) (some { id := List.length H4, off := 0, len := 5, cap := 5, esz := 1 }) (H4 ++ [Blk.row [Cell.str ⟨#[]⟩, Cell.str ⟨#[UInt8.ofNat 46, UInt8.ofNat 115, UInt8.ofNat 121, UInt8.ofNat 109, UInt8.ofNat 116, UInt8.ofNat 97, UInt8.ofNat 98]⟩, Cell.str ⟨#[UInt8.ofNat 46, UInt8.ofNat 115, UInt8.ofNat 116, UInt8.ofNat 114, UInt8.ofNat 116, UInt8.ofNat 97, UInt8.ofNat 98]⟩, Cell.str ⟨#[UInt8.ofNat 46, UInt8.ofNat 114, UInt8.ofNat 101, UInt8.ofNat 108, UInt8.ofNat 97]⟩, Cell.str ⟨#[UInt8.ofNat 46, UInt8.ofNat 115, UInt8.ofNat 104, UInt8.ofNat 115, UInt8.ofNat 116, UInt8.ofNat 114, UInt8.ofNat 116, UInt8.ofNat 97, UInt8.ofNat 98]⟩] false]) = some (0, H5) := e5
    rw [e5', Ab.bs]
    simp only
    rw [e7, Ab.bs]
  · have hx : b.length + padN b.length 16 + 24 * l.length - (b.length + padN b.length 16) = 24 * l.length := by omega
    have hy : b.length + padN b.length 16 + 24 * l.length + 33 - (b.length + padN b.length 16 + 24 * l.length) = 33 := by omega
    rw [hl3, hl5, hx, hy] at h7
    have hbb : b ++ List.replicate (padN b.length 16) 0 ++ relsB l ++ (tparts strs).flatten = b ++ relsAll b.length l := by simp [relsAll, zs, textsB]
    rw [hbb] at h7
    simpa using h7
/-! the sections' headers -/
def secB (nm kd lk info rw' : Nat) (p : Int × Int) : List UInt8 := [nm, kd].flatMap (leB 4) ++ [0, 0, p.1.toNat, p.2.toNat].flatMap (leB 8) ++ [lk, info].flatMap (leB 4) ++ [8, rw'].flatMap (leB 8)
theorem secB_len (a b c d e : Nat) (p : Int × Int) : (secB a b c d e p).length = 64 := by simp [secB, leB_length]
def secsB (i : Nat) : List (Int × Int) → List UInt8
  | [] => []
  | p :: r => secB ((([1, 9, 17, 23] : List Nat)[i]?).getD 0) ((([2, 3, 4, 3] : List Nat)[i]?).getD 0) ((([2, 0, 1, 0] : List Nat)[i]?).getD 0) (if i = 0 then 1 else 0) ((([24, 0, 24, 0] : List Nat)[i]?).getD 0) p ++ secsB (i + 1) r
theorem secsB_len : ∀ (l : List (Int × Int)) (i : Nat), (secsB i l).length = 64 * l.length
  | [], _ => rfl
  | p :: r, i => by unfold secsB; rw [List.length_append, secB_len, secsB_len r, List.length_cons]; omega
theorem getsSec {H : Heap} {s : Option Sl} {l : List (Int × Int)} (h : RS 2 ESec H s l) {i : Nat} {p : Int × Int} (hi : l[i]? = some p) :
    ∃ sl, s = some sl ∧ (inb (i : Int) sl.len && sl.esz == 2) = true ∧ H.get sl.id (sl.off + ((i : Nat) : Int).toNat * 2) = some (.int .i64 p.1) ∧ H.get sl.id (sl.off + ((i : Nat) : Int).toNat * 2 + 1) = some (.int .i64 p.2) := by
  obtain ⟨sl, e, h1, h2⟩ := h.idx ESec_len hi
  exact ⟨sl, e, h1, by simpa using h2 0 _ rfl, by simpa using h2 1 _ rfl⟩
/-- A table beside the rope. -/
def Tab (H : Heap) (rid : Nat) (s : Sl) (l : List Nat) : Prop := RS 1 EU H (some s) l ∧ Aw H rid s.id
theorem Tab.go {H H' : Heap} {rid : Nat} {s : Sl} {l : List Nat} {b : List UInt8} (h : Tab H rid s l) (g : Stp rid H H' b) : Tab H' rid s l :=
  ⟨h.1.kp g.k fun q e _ => by cases e; exact h.2.2, g.aw h.2⟩
theorem loop23 {H0 : Heap} {f : FS} {wid rid : Nat} {secs : List (Int × Int)} {sc : Option Sl} (hsl : secs.length = 4) (hsr : ∀ p ∈ secs, (0 ≤ p.1 ∧ p.1 ≤ 2000000) ∧ (0 ≤ p.2 ∧ p.2 ≤ 2000000)) (s1 s2 s3 s4 : Sl) :
    ∀ (r : List (Int × Int)) (n i : Nat) (b : List UInt8) (H : Heap), secs.drop i = r → WS H0 H f wid rid b secs sc → b.length + 64 * r.length ≤ 1048576 →
    Tab H rid s1 [1, 9, 17, 23] → Tab H rid s2 [2, 3, 4, 3] → Tab H rid s3 [2, 0, 1, 0] → Tab H rid s4 [24, 0, 24, 0] →
    ∃ H', D23_8 (n + r.length + 1) (some (wid, 0)) (some s1) (some s2) (some s3) (some s4) sc 4 (i : Int) H = some (.exit 0, X23_8 H') ∧ WS H0 H' f wid rid (b ++ secsB i r) secs sc
  | [], n, i, b, H, hr, h, hN, t1, t2, t3, t4 => by
    have hi : secs.length ≤ i := by
      rcases Nat.lt_or_ge i secs.length with h1 | h1
      · rw [List.drop_eq_getElem_cons h1] at hr; cases hr
      · exact h1
    have g : decide ((i : Int) < 4) = false := by simp; omega
    exact ⟨H, by rw [List.length_nil, Nat.add_zero, D23_8_s, g, cf], by simpa [secsB] using h⟩
  | p :: r, n, i, b, H, hr, h, hN, t1, t2, t3, t4 => by
    have hi : i < secs.length := by
      rcases Nat.lt_or_ge i secs.length with h1 | h1
      · exact h1
      · rw [List.drop_eq_nil_of_le h1] at hr; cases hr
    rw [List.drop_eq_getElem_cons hi, List.cons.injEq] at hr
    obtain ⟨hs, hr⟩ := hr
    have hsi : secs[i]? = some p := by rw [List.getElem?_eq_getElem hi, hs]
    have hp := hsr p (by rw [← hs]; exact List.getElem_mem hi)
    have g : decide ((i : Int) < 4) = true := by simp; omega
    obtain ⟨sl, e0, g1, c0, c1⟩ := getsSec h.o.rs hsi
    simp only [List.length_cons] at hN
    have hi4 : i < 4 := by omega
    have get4 : ∀ l : List Nat, l.length = 4 → l[i]? = some ((l[i]?).getD 0) := fun l hl => by rw [List.getElem?_eq_getElem (by omega)]; rfl
    have hp1 : IntKind.u64.wrap p.1 = ((p.1.toNat : Nat) : Int) := by rw [wrap_u64]; omega
    have hp2 : IntKind.u64.wrap p.2 = ((p.2.toNat : Nat) : Int) := by rw [wrap_u64]; omega
    obtain ⟨w0, _⟩ := h.g
    obtain ⟨x1, y1, u1, v1⟩ := getsU t1.1 (get4 [1, 9, 17, 23] rfl)
    obtain ⟨x2, y2, u2, v2⟩ := getsU t2.1 (get4 [2, 3, 4, 3] rfl)
    cases y1; cases y2
    generalize hq1 : (([1, 9, 17, 23] : List Nat)[i]?).getD 0 = k1 at v1
    generalize hq2 : (([2, 3, 4, 3] : List Nat)[i]?).getD 0 = k2 at v2
    obtain ⟨H1, e1, q1⟩ := num_go' h.r [k1, k2] 4 2 4 [Cell.int .u64 (k1 : Int), Cell.int .u64 (k2 : Int)] rfl rfl rfl (by simp; omega) rfl
    have h1 := h.go q1
    obtain ⟨a0, _⟩ := h1.g
    obtain ⟨H2, e2, q2⟩ := num_go' h1.r [0, 0, p.1.toNat, p.2.toNat] 8 4 8 [Cell.int .u64 0, Cell.int .u64 0, Cell.int .u64 (IntKind.u64.wrap p.1), Cell.int .u64 (IntKind.u64.wrap p.2)] rfl rfl rfl (by simp [leB_length]; omega) (by rw [hp1, hp2]; rfl)
    have h2 := h1.go q2
    obtain ⟨b0, _⟩ := h2.g
    have t3' := (t3.go q1).go q2
    obtain ⟨x3, y3, u3, v3⟩ := getsU t3'.1 (get4 [2, 0, 1, 0] rfl)
    cases y3
    generalize hq3 : (([2, 0, 1, 0] : List Nat)[i]?).getD 0 = k3 at v3
    obtain ⟨H3, e3, q3⟩ := num_go' h2.r [k3, if i = 0 then 1 else 0] 4 2 4 [Cell.int .u64 (k3 : Int), Cell.int .u64 (((if i = 0 then 1 else 0 : Nat)) : Int)] rfl rfl rfl (by simp [leB_length]; omega) rfl
    have h3 := h2.go q3
    obtain ⟨d0, _⟩ := h3.g
    have t4' := ((t4.go q1).go q2).go q3
    obtain ⟨x4, y4, u4, v4⟩ := getsU t4'.1 (get4 [24, 0, 24, 0] rfl)
    cases y4
    generalize hq4 : (([24, 0, 24, 0] : List Nat)[i]?).getD 0 = k4 at v4
    obtain ⟨H4, e4, q4⟩ := num_go' h3.r [8, k4] 8 2 8 [Cell.int .u64 8, Cell.int .u64 (k4 : Int)] rfl rfl rfl (by simp [leB_length]; omega) rfl
    have h4 := h3.go q4
    have hb : b ++ [k1, k2].flatMap (leB 4) ++ [0, 0, p.1.toNat, p.2.toNat].flatMap (leB 8) ++ [k3, if i = 0 then 1 else 0].flatMap (leB 4) ++ [8, k4].flatMap (leB 8) = b ++ secB k1 k2 k3 (if i = 0 then 1 else 0) k4 p := by simp [secB]
    rw [hb] at h4
    obtain ⟨H', r1, r2⟩ := loop23 hsl hsr s1 s2 s3 s4 r n (i + 1) _ H4 hr h4 (by rw [List.length_append, secB_len]; omega) ((((t1.go q1).go q2).go q3).go q4) ((((t2.go q1).go q2).go q3).go q4) (((t3'.go q3)).go q4) (t4'.go q4)
    refine ⟨H', ?_, ?_⟩
    · rw [show n + (p :: r).length + 1 = (n + r.length + 1) + 1 by simp; omega, D23_8_s, g, ct]
      rw [e0] at r1 ⊢
      by_cases h0 : i = 0
      · rw [if_pos h0] at e3
        have hz : ((i : Int) == 0) = true := by simp [h0]
        simp only [Ab.bs, g1, ct, hz, c0, c1, tInt, za, w0, tPtr, u1, v1, u2, v2, e1, a0, e2, b0, u3, v3]
        have e3' : f50 (some (rid, 0)) 4 (some ⟨List.length H2, 0, 2, 2, 1⟩) (H2 ++ [Blk.row [Cell.int IntKind.u64 (k3 : Int), Cell.int IntKind.u64 1] false]) = some (0, H3) := e3
        simp only [e3', Ab.bs, d0, tPtr, u4, ct, v4, tInt, e4, i64_succ i (by omega)]
        exact r1
      · rw [if_neg h0] at e3
        have hz : ((i : Int) == 0) = false := by simp [h0]
        simp only [Ab.bs, g1, ct, cf, hz, c0, c1, tInt, za, w0, tPtr, u1, v1, u2, v2, e1, a0, e2, b0, u3, v3]
        have e3' : f50 (some (rid, 0)) 4 (some ⟨List.length H2, 0, 2, 2, 1⟩) (H2 ++ [Blk.row [Cell.int IntKind.u64 (k3 : Int), Cell.int IntKind.u64 0] false]) = some (0, H3) := e3
        simp only [e3', Ab.bs, d0, tPtr, u4, ct, v4, tInt, e4, i64_succ i (by omega)]
        exact r1
    · unfold secsB
      rw [hq1, hq2, hq3, hq4, ← List.append_assoc]
      exact r2
theorem WS.push {H0 H : Heap} {f : FS} {wid rid : Nat} {b : List UInt8} {secs : List (Int × Int)} {sc : Option Sl} (h : WS H0 H f wid rid b secs sc) (X : List Blk) : WS H0 (H ++ X) f wid rid b secs sc :=
  h.go ⟨rp_kp h.r (Kp.push No H X), (Kp.push No H X).mono fun _ _ h => absurd h (fun x => x)⟩
theorem aw_push {H : Heap} {rid : Nat} {b : List UInt8} (h : Rq H rid b) (X : List Blk) {i : Nat} (h1 : H.length ≤ i) (h2 : i < (H ++ X).length) : Aw (H ++ X) rid i := by
  refine ⟨h2, ?_⟩
  obtain ⟨sx, x1, x2, x3, x4, x5⟩ := h
  rintro (e | ⟨sl, e1, e2⟩ | e)
  · have := lt_of x1; omega
  · rw [(Kp.push No H X).bk x1] at e1
    cases e1
    have := x2.lt; omega
  · omega
theorem f23_x {H0 H : Heap} {f : FS} {wid rid : Nat} {A P : List UInt8} {secs : List (Int × Int)} {sc : Option Sl} (hA : A.length = 40) (h : WS H0 H f wid rid (A ++ leB 8 0 ++ P) secs sc) (hsl : secs.length = 4) (hsr : ∀ p ∈ secs, (0 ≤ p.1 ∧ p.1 ≤ 2000000) ∧ (0 ≤ p.2 ∧ p.2 ≤ 2000000)) (L : Nat) (hL : (A ++ leB 8 0 ++ P).length = L) (hN : up16 L + 320 ≤ 1048576) :
    ∃ H', f23 (some (wid, 0)) H = some ((), H') ∧ WS H0 H' f wid rid (A ++ leB 8 (up16 L) ++ P ++ zs (padN L 16) ++ zs 64 ++ secsB 0 secs) secs sc := by
  unfold up16 at *
  obtain ⟨w0, _⟩ := h.g
  obtain ⟨H1, e1, q1⟩ := pad_go h.r (by rw [hL]; omega)
  have h1 := h.go q1
  rw [hL] at h1
  obtain ⟨a0, _⟩ := h1.g
  have hb1 : A ++ leB 8 0 ++ P ++ List.replicate (padN L 16) 0 = A ++ leB 8 0 ++ (P ++ zs (padN L 16)) := by simp [zs]
  rw [hb1] at h1
  have hl1 : (A ++ leB 8 0 ++ (P ++ zs (padN L 16))).length = L + padN L 16 := by rw [← hb1, List.length_append, hL, List.length_replicate]
  obtain ⟨H2, e2, q2⟩ := set_go h1.r (by rw [hl1]; omega) 8 (L + padN L 16) rfl (by rw [leB_length]; omega)
  have h2 := h1.go q2
  obtain ⟨b0, _⟩ := h2.g
  have hb2 : A ++ leB 8 (L + padN L 16) ++ (leB 8 0).drop 8 ++ (P ++ zs (padN L 16)) = A ++ leB 8 (L + padN L 16) ++ (P ++ zs (padN L 16)) := by
    rw [List.drop_eq_nil_of_le (by rw [leB_length]; omega)]; simp
  rw [hb2] at h2
  have hl2 : (A ++ leB 8 (L + padN L 16) ++ (P ++ zs (padN L 16))).length = L + padN L 16 := by
    rw [← hl1]; simp only [List.length_append, leB_length]
  have kG : Kp No H2 (H2 ++ [Blk.row ((zs 64).flatMap E8) false]) := Kp.push1 _ _
  obtain ⟨H3, e3, q3⟩ := raw_go h2.r kG (some ⟨H2.length, 0, 64, 64, 1⟩) (rs_new (E := E8) (zs 64) (push_get _ _) rfl) (fun sl e _ => by cases e; exact fn_not (Nat.le_refl _) (by show H2.length < _; simp <;> omega)) (by rw [zs_len, hl2]; omega)
  have h3 := h2.go q3
  obtain ⟨d0, _⟩ := h3.g
  have h4 := h3.push ([Blk.row ([1, 9, 17, 23].flatMap EU) false] ++ [Blk.row ([2, 3, 4, 3].flatMap EU) false] ++ [Blk.row ([2, 0, 1, 0].flatMap EU) false] ++ [Blk.row ([24, 0, 24, 0].flatMap EU) false])
  have t : ∀ (i : Nat) (l : List Nat), ([[1, 9, 17, 23], [2, 3, 4, 3], [2, 0, 1, 0], [24, 0, 24, 0]] : List (List Nat))[i]? = some l → l.length = 4 → Tab (H3 ++ ([Blk.row ([1, 9, 17, 23].flatMap EU) false] ++ [Blk.row ([2, 3, 4, 3].flatMap EU) false] ++ [Blk.row ([2, 0, 1, 0].flatMap EU) false] ++ [Blk.row ([24, 0, 24, 0].flatMap EU) false])) rid ⟨H3.length + i, 0, 4, 4, 1⟩ l := fun i l hl h4' => by
    have hi := (List.getElem?_eq_some_iff.1 hl).1
    refine ⟨rs_new (E := EU) l (ro := false) ?_ h4'.symm, aw_push h3.r _ (by show H3.length ≤ H3.length + i; omega) (by show H3.length + i < _; simp at hi ⊢; omega)⟩
    match i, hl with
    | 0, hl => cases hl; simp
    | 1, hl => cases hl; simp
    | 2, hl => cases hl; simp
    | 3, hl => cases hl; simp
    | i + 4, hl => simp at hi; omega
  obtain ⟨_, _, _, _, _, _, f6⟩ := h4.g
  obtain ⟨n5, l5⟩ := LL23_8_of secs.length (by omega) (some (wid, 0)) (some ⟨H3.length + 0, 0, 4, 4, 1⟩) (some ⟨H3.length + 1, 0, 4, 4, 1⟩) (some ⟨H3.length + 2, 0, 4, 4, 1⟩) (some ⟨H3.length + 3, 0, 4, 4, 1⟩) sc 4 0 (H3 ++ ([Blk.row ([1, 9, 17, 23].flatMap EU) false] ++ [Blk.row ([2, 3, 4, 3].flatMap EU) false] ++ [Blk.row ([2, 0, 1, 0].flatMap EU) false] ++ [Blk.row ([24, 0, 24, 0].flatMap EU) false]))
  obtain ⟨H5, r5, h5⟩ := loop23 hsl hsr ⟨H3.length + 0, 0, 4, 4, 1⟩ ⟨H3.length + 1, 0, 4, 4, 1⟩ ⟨H3.length + 2, 0, 4, 4, 1⟩ ⟨H3.length + 3, 0, 4, 4, 1⟩ secs n5 0 _ _ rfl h4 (by rw [List.length_append, hl2, zs_len, hsl]; omega) (t 0 _ rfl rfl) (t 1 _ rfl rfl) (t 2 _ rfl rfl) (t 3 _ rfl rfl)
  have l5' := l5.trans r5
  refine ⟨H5, ?_, ?_⟩
  · have hc8 : IntKind.u64.wrap ((L + padN L 16 : Nat) : Int) = ((L + padN L 16 : Nat) : Int) := u64_nat _ (by omega)
    have e2' : f53 (some (rid, 0)) 40 8 ((L + padN L 16 : Nat) : Int) H1 = some (0, H2) := by
      rw [hA] at e2; exact e2
    have z64 : Blk.row [Cell.int IntKind.u8 0, Cell.int IntKind.u8 0, Cell.int IntKind.u8 0, Cell.int IntKind.u8 0, Cell.int IntKind.u8 0, Cell.int IntKind.u8 0, Cell.int IntKind.u8 0, Cell.int IntKind.u8 0, Cell.int IntKind.u8 0, Cell.int IntKind.u8 0, Cell.int IntKind.u8 0, Cell.int IntKind.u8 0, Cell.int IntKind.u8 0, Cell.int IntKind.u8 0, Cell.int IntKind.u8 0, Cell.int IntKind.u8 0, Cell.int IntKind.u8 0, Cell.int IntKind.u8 0, Cell.int IntKind.u8 0, Cell.int IntKind.u8 0, Cell.int IntKind.u8 0, Cell.int IntKind.u8 0, Cell.int IntKind.u8 0, Cell.int IntKind.u8 0, Cell.int IntKind.u8 0, Cell.int IntKind.u8 0, Cell.int IntKind.u8 0, Cell.int IntKind.u8 0, Cell.int IntKind.u8 0, Cell.int IntKind.u8 0, Cell.int IntKind.u8 0, Cell.int IntKind.u8 0, Cell.int IntKind.u8 0, Cell.int IntKind.u8 0, Cell.int IntKind.u8 0, Cell.int IntKind.u8 0, Cell.int IntKind.u8 0, Cell.int IntKind.u8 0, Cell.int IntKind.u8 0, Cell.int IntKind.u8 0, Cell.int IntKind.u8 0, Cell.int IntKind.u8 0, Cell.int IntKind.u8 0, Cell.int IntKind.u8 0, Cell.int IntKind.u8 0, Cell.int IntKind.u8 0, Cell.int IntKind.u8 0, Cell.int IntKind.u8 0, Cell.int IntKind.u8 0, Cell.int IntKind.u8 0, Cell.int IntKind.u8 0, Cell.int IntKind.u8 0, Cell.int IntKind.u8 0, Cell.int IntKind.u8 0, Cell.int IntKind.u8 0, Cell.int IntKind.u8 0, Cell.int IntKind.u8 0, Cell.int IntKind.u8 0, Cell.int IntKind.u8 0, Cell.int IntKind.u8 0, Cell.int IntKind.u8 0, Cell.int IntKind.u8 0, Cell.int IntKind.u8 0, Cell.int IntKind.u8 0] false = Blk.row ((zs 64).flatMap E8) false := rfl
    have z1 : Blk.row [Cell.int IntKind.u64 1, Cell.int IntKind.u64 9, Cell.int IntKind.u64 17, Cell.int IntKind.u64 23] false = Blk.row ([1, 9, 17, 23].flatMap EU) false := rfl
    have z2 : Blk.row [Cell.int IntKind.u64 2, Cell.int IntKind.u64 3, Cell.int IntKind.u64 4, Cell.int IntKind.u64 3] false = Blk.row ([2, 3, 4, 3].flatMap EU) false := rfl
    have z3 : Blk.row [Cell.int IntKind.u64 2, Cell.int IntKind.u64 0, Cell.int IntKind.u64 1, Cell.int IntKind.u64 0] false = Blk.row ([2, 0, 1, 0].flatMap EU) false := rfl
    have z4 : Blk.row [Cell.int IntKind.u64 24, Cell.int IntKind.u64 0, Cell.int IntKind.u64 24, Cell.int IntKind.u64 0] false = Blk.row ([24, 0, 24, 0].flatMap EU) false := rfl
    have hl4 : slen sc = 4 := by rw [h.o.rs.slenEq, hsl]; rfl
    have n1' : ∀ a : Blk, (H3 ++ [a]).length = H3.length + 1 := fun a => by simp
    have n2' : ∀ a b : Blk, (H3 ++ [a] ++ [b]).length = H3.length + 2 := fun a b => by simp
    have n3' : ∀ a b c : Blk, (H3 ++ [a] ++ [b] ++ [c]).length = H3.length + 3 := fun a b c => by simp
    have n4' : ∀ a b c d : Blk, H3 ++ [a] ++ [b] ++ [c] ++ [d] = H3 ++ ([a] ++ [b] ++ [c] ++ [d]) := fun a b c d => by simp
    rw [q23]
    simp only [z64, z1, z2, z3, z4]
    simp only [Ab.bs, za, w0, tPtr, e1, a0, len_go h1.r, hl1, hc8, e2', b0, e3, n1', n2', n3', n4', f6, tSlice, hl4]
    rw [az] at l5'
    rw [l5', Ab.bs, J23_8_0]
  · have hbb : A ++ leB 8 (L + padN L 16) ++ (P ++ zs (padN L 16)) ++ zs 64 ++ secsB 0 secs = A ++ leB 8 (L + padN L 16) ++ P ++ zs (padN L 16) ++ zs 64 ++ secsB 0 secs := by simp
    rw [← hbb]; exact h5
/-! which files may be -/
def sgMay (s : Sg) : Bool := (s.kind == 1 || s.kind == 1610612737) && (!decide (s.flags < 0) && (!decide (s.flags > 7) && (!decide (s.size > 4294967296) && (!decide (s.addr > 9223372036854775808) && (decide (IntKind.u64.wrap (s.data.length : Int) ≤ s.size) && (s.kind == 1 || ((s.data.length : Int) == 0)))))))
def syMay (s : Sy) : Bool := decide ((s.name.size : Int) ≤ 32) && (decide (strings_IndexByte s.name 0 < 0) && (decide (s.kind ≥ 0) && decide (s.kind ≤ 2)))
def rlMay (n : Nat) (r : Rl) : Bool := !decide (r.sym < 0) && !decide (r.sym ≥ (n : Int))
theorem f32_x (s : Sg) (H : Heap) (h : slen s.sl = (s.data.length : Int)) : f32 s.kind s.flags s.addr s.size s.sl H = some (sgMay s, H) := by
  rw [q32, h]; unfold sgMay bne
  cases s.kind == 1 <;> cases s.kind == 1610612737 <;> cases decide (s.flags < 0) <;> cases decide (s.flags > 7) <;> cases decide (s.size > 4294967296) <;> cases decide (s.addr > 9223372036854775808) <;> cases decide (IntKind.u64.wrap (s.data.length : Int) ≤ s.size) <;> rfl
theorem loop58 {H : Heap} {t : Option Sl} {l : List Sg} (hR : RS 5 ESg H t l) (hl : l.length < 1000) (hs : ∀ s ∈ l, slen s.sl = (s.data.length : Int)) : ∀ (m n i : Nat), i + m = l.length →
    ((l.drop i).all sgMay = true → (D58a_2 (n + m + 1) t (l.length : Int) (i : Int) H).bind J58a_2 = some (-1, H)) ∧ ((l.drop i).all sgMay = false → ∃ k : Nat, (D58a_2 (n + m + 1) t (l.length : Int) (i : Int) H).bind J58a_2 = some ((k : Int), H))
  | 0, n, i, hm => by
    have g : decide ((i : Int) < (l.length : Int)) = false := by simp; omega
    rw [List.drop_eq_nil_of_le (by omega), D58a_2_s, g, cf, Ab.bs, J58a_2_1]
    exact ⟨fun _ => rfl, fun h => by cases h⟩
  | m + 1, n, i, hm => by
    have g : decide ((i : Int) < (l.length : Int)) = true := by simp; omega
    have hi : i < l.length := by omega
    obtain ⟨sl, e0, g1, c0, c1, c2, c3, c4⟩ := getsSg hR (List.getElem?_eq_getElem hi)
    have ih := loop58 hR hl hs m n (i + 1) (by omega)
    have h31 : f31 l[i].kind l[i].flags l[i].addr l[i].size l[i].sl H = some (!sgMay l[i], H) := by
      rw [q31, f32_x _ _ (hs _ (List.getElem_mem hi)), Ab.bs]
    rw [show n + (m + 1) + 1 = (n + m + 1) + 1 by omega, D58a_2_s, g, ct, List.drop_eq_getElem_cons hi, List.all_cons]
    rw [show t.bind = (some sl).bind (β := AExit × St) by rw [e0]]
    simp only [Ab.bs, g1, ct, c0, c1, c2, c3, c4, tInt, tSlice, h31, i64_succ i (by omega)]
    cases sgMay l[i] with
    | true => simpa only [Bool.not_true, cf, Bool.true_and] using ih
    | false =>
      simp only [Bool.not_false, ct, Ab.bs, J58a_2_0, Bool.false_and]
      exact ⟨fun h => (by cases h), fun _ => ⟨i, rfl⟩⟩
theorem f30_x {H : Heap} {t : Option Sl} {l : List Sg} (hR : RS 5 ESg H t l) (hl : l.length < 1000) (hs : ∀ s ∈ l, slen s.sl = (s.data.length : Int)) : f30a t H = some (!l.all sgMay, H) := by
  obtain ⟨n, e⟩ := LL58a_2_of l.length (by omega) t (l.length : Int) 0 H
  have h := loop58 hR hl hs l.length n 0 (by omega)
  rw [List.drop_zero] at h
  rw [q30a, q58a, hR.slenEq, e]
  cases ha : l.all sgMay with
  | true =>
    have := h.1 ha
    rw [show (0 : Int) = ((0 : Nat) : Int) from rfl, this]; rfl
  | false =>
    obtain ⟨k, hk⟩ := h.2 ha
    rw [show (0 : Int) = ((0 : Nat) : Int) from rfl, hk, Ab.bs]
    have : decide ((k : Int) ≥ 0) = true := by simp
    simp only [this]; rfl
theorem f35_x (s : Sy) (H : Heap) : f35 s.name s.kind s.addr s.size H = some (syMay s, H) := by
  rw [q35]; unfold syMay
  cases decide ((s.name.size : Int) ≤ 32) <;> cases decide (strings_IndexByte s.name 0 < 0) <;> cases decide (s.kind ≥ 0) <;> rfl
theorem loop59 {H : Heap} {t : Option Sl} {l : List Sy} (hR : RS 4 ESy H t l) (hl : l.length < 1000) : ∀ (m n i : Nat), i + m = l.length →
    ((l.drop i).all syMay = true → (D59a_2 (n + m + 1) t (l.length : Int) (i : Int) H).bind J59a_2 = some (-1, H)) ∧ ((l.drop i).all syMay = false → ∃ k : Nat, (D59a_2 (n + m + 1) t (l.length : Int) (i : Int) H).bind J59a_2 = some ((k : Int), H))
  | 0, n, i, hm => by
    have g : decide ((i : Int) < (l.length : Int)) = false := by simp; omega
    rw [List.drop_eq_nil_of_le (by omega), D59a_2_s, g, cf, Ab.bs, J59a_2_1]
    exact ⟨fun _ => rfl, fun h => by cases h⟩
  | m + 1, n, i, hm => by
    have g : decide ((i : Int) < (l.length : Int)) = true := by simp; omega
    have hi : i < l.length := by omega
    obtain ⟨sl, e0, g1, c0, c1, c2, c3⟩ := getsSy hR (List.getElem?_eq_getElem hi)
    have ih := loop59 hR hl m n (i + 1) (by omega)
    have h34 : f34 l[i].name l[i].kind l[i].addr l[i].size H = some (!syMay l[i], H) := by
      rw [q34, f35_x, Ab.bs]
    rw [show n + (m + 1) + 1 = (n + m + 1) + 1 by omega, D59a_2_s, g, ct, List.drop_eq_getElem_cons hi, List.all_cons]
    rw [show t.bind = (some sl).bind (β := AExit × St) by rw [e0]]
    simp only [Ab.bs, g1, ct, c0, c1, c2, c3, tInt, tStr, h34, i64_succ i (by omega)]
    cases syMay l[i] with
    | true => simpa only [Bool.not_true, cf, Bool.true_and] using ih
    | false =>
      simp only [Bool.not_false, ct, Ab.bs, J59a_2_0, Bool.false_and]
      exact ⟨fun h => (by cases h), fun _ => ⟨i, rfl⟩⟩
theorem f33_x {H : Heap} {t : Option Sl} {l : List Sy} (hR : RS 4 ESy H t l) (hl : l.length < 1000) : f33a t H = some (!l.all syMay, H) := by
  obtain ⟨n, e⟩ := LL59a_2_of l.length (by omega) t (l.length : Int) 0 H
  have h := loop59 hR hl l.length n 0 (by omega)
  rw [List.drop_zero] at h
  rw [q33a, q59a, hR.slenEq, e]
  cases ha : l.all syMay with
  | true =>
    have := h.1 ha
    rw [show (0 : Int) = ((0 : Nat) : Int) from rfl, this]; rfl
  | false =>
    obtain ⟨k, hk⟩ := h.2 ha
    rw [show (0 : Int) = ((0 : Nat) : Int) from rfl, hk, Ab.bs]
    have : decide ((k : Int) ≥ 0) = true := by simp
    simp only [this]; rfl
theorem f37_x (r : Rl) (c : Nat) (H : Heap) (s : Option Sl) (n : Nat) (hc : H.get c 3 = some (.slice s)) (hn : slen s = (n : Int)) : f37 r.at' r.sym r.add (some (c, 0)) H = some (!rlMay n r, H) := by
  rw [q37]; unfold rlMay
  simp only [Ab.bs, za, hc, tSlice, hn]
  cases decide (r.sym < 0) <;> cases decide (r.sym ≥ (n : Int)) <;> rfl
theorem loop61 {H : Heap} {t : Option Sl} {l : List Rl} (hR : RS 3 ERl H t l) (hl : l.length < 1000) (c : Nat) (s : Option Sl) (ns : Nat) (hc : H.get c 3 = some (.slice s)) (hn : slen s = (ns : Int)) : ∀ (m n i : Nat), i + m = l.length →
    ((l.drop i).all (rlMay ns) = true → (D61a_2 (n + m + 1) t (some (c, 0)) (l.length : Int) (i : Int) H).bind J61a_2 = some (-1, H)) ∧ ((l.drop i).all (rlMay ns) = false → ∃ k : Nat, (D61a_2 (n + m + 1) t (some (c, 0)) (l.length : Int) (i : Int) H).bind J61a_2 = some ((k : Int), H))
  | 0, n, i, hm => by
    have g : decide ((i : Int) < (l.length : Int)) = false := by simp; omega
    rw [List.drop_eq_nil_of_le (by omega), D61a_2_s, g, cf, Ab.bs, J61a_2_1]
    exact ⟨fun _ => rfl, fun h => by cases h⟩
  | m + 1, n, i, hm => by
    have g : decide ((i : Int) < (l.length : Int)) = true := by simp; omega
    have hi : i < l.length := by omega
    obtain ⟨sl, e0, g1, c0, c1, c2⟩ := getsRl hR (List.getElem?_eq_getElem hi)
    have ih := loop61 hR hl c s ns hc hn m n (i + 1) (by omega)
    rw [show n + (m + 1) + 1 = (n + m + 1) + 1 by omega, D61a_2_s, g, ct, List.drop_eq_getElem_cons hi, List.all_cons]
    rw [show t.bind = (some sl).bind (β := AExit × St) by rw [e0]]
    simp only [Ab.bs, g1, ct, c0, c1, c2, tInt, f37_x _ c H s ns hc hn, i64_succ i (by omega)]
    cases rlMay ns l[i] with
    | true => simpa only [Bool.not_true, cf, Bool.true_and] using ih
    | false =>
      simp only [Bool.not_false, ct, Ab.bs, J61a_2_0, Bool.false_and]
      exact ⟨fun h => (by cases h), fun _ => ⟨i, rfl⟩⟩
theorem f36_x {H : Heap} {t : Option Sl} {l : List Rl} (hR : RS 3 ERl H t l) (hl : l.length < 1000) (c : Nat) (s : Option Sl) (ns : Nat) (hc : H.get c 3 = some (.slice s)) (hn : slen s = (ns : Int)) : f36a t (some (c, 0)) H = some (!l.all (rlMay ns), H) := by
  obtain ⟨n, e⟩ := LL61a_2_of l.length (by omega) t (some (c, 0)) (l.length : Int) 0 H
  have h := loop61 hR hl c s ns hc hn l.length n 0 (by omega)
  rw [List.drop_zero] at h
  rw [q36a, q61a, hR.slenEq, e]
  cases ha : l.all (rlMay ns) with
  | true =>
    have := h.1 ha
    rw [show (0 : Int) = ((0 : Nat) : Int) from rfl, this]; rfl
  | false =>
    obtain ⟨k, hk⟩ := h.2 ha
    rw [show (0 : Int) = ((0 : Nat) : Int) from rfl, hk, Ab.bs]
    have : decide ((k : Int) ≥ 0) = true := by simp
    simp only [this]; rfl
/-- A file, and how it lies. -/
structure Fl where
  M : Int
  E : Int
  sg : List Sg
  sy : List Sy
  rl : List Rl
structure FR (H : Heap) (s : FS) (f : Fl) : Prop where
  m : s.M = f.M
  e : s.E = f.E
  sg : RS 5 ESg H s.sg f.sg
  sy : RS 4 ESy H s.sy f.sy
  rl : RS 3 ERl H s.rl f.rl
  sd : ∀ x ∈ f.sg, RS 1 E8 H x.sl x.data
theorem FR.no {H H' : Heap} {s : FS} {f : Fl} (h : FR H s f) (k : Kp No H H') : FR H' s f := ⟨h.m, h.e, h.sg.no k, h.sy.no k, h.rl.no k, fun x hx => (h.sd x hx).no k⟩
def mayF (f : Fl) : Bool := (f.M == 62 || f.M == 183) && (decide (f.sg.length ≤ 24) && (decide (f.sy.length ≤ 64) && (decide (f.rl.length ≤ 64) && (f.sg.all sgMay && (f.sy.all syMay && f.rl.all (rlMay f.sy.length))))))
theorem f12_x {H : Heap} {s : FS} {f : Fl} (h : FR H s f) : Says (f12 s.M s.E s.sg s.sy s.rl H) H (mayF f) := by
  rw [q12]
  have kP : Kp No H (H ++ [Blk.row [Cell.int IntKind.i64 s.M, Cell.int IntKind.u64 s.E, Cell.slice s.sg, Cell.slice s.sy, Cell.slice s.rl] false]) := Kp.push1 _ _
  have h1 := h.no kP
  have hb : (H ++ [Blk.row [Cell.int IntKind.i64 s.M, Cell.int IntKind.u64 s.E, Cell.slice s.sg, Cell.slice s.sy, Cell.slice s.rl] false])[H.length]? = _ := push_get _ _
  generalize H ++ [Blk.row [Cell.int IntKind.i64 s.M, Cell.int IntKind.u64 s.E, Cell.slice s.sg, Cell.slice s.sy, Cell.slice s.rl] false] = G at h1 hb kP
  have g0 : G.get H.length 0 = some (.int .i64 s.M) := by rw [get_of hb]; rfl
  have g2 : G.get H.length 2 = some (.slice s.sg) := by rw [get_of hb]; rfl
  have g3 : G.get H.length 3 = some (.slice s.sy) := by rw [get_of hb]; rfl
  have g4 : G.get H.length 4 = some (.slice s.rl) := by rw [get_of hb]; rfl
  refine says_kp kP ?_
  unfold mayF
  rw [← h.m]
  simp only [Ab.bs, g0, g2, g3, g4, tInt, tSlice, h.sg.slenEq, h.sy.slenEq, h.rl.slenEq, bne]
  by_cases l1 : f.sg.length ≤ 24
  · rw [show decide ((f.sg.length : Int) > 24) = false by simp; omega, show decide (f.sg.length ≤ 24) = true by simp [l1]]
    by_cases l2 : f.sy.length ≤ 64
    · rw [show decide ((f.sy.length : Int) > 64) = false by simp; omega, show decide (f.sy.length ≤ 64) = true by simp [l2]]
      by_cases l3 : f.rl.length ≤ 64
      · rw [show decide ((f.rl.length : Int) > 64) = false by simp; omega, show decide (f.rl.length ≤ 64) = true by simp [l3]]
        simp only [cf, f30_x h1.sg (by omega) (fun x hx => (h1.sd x hx).slenEq), f33_x h1.sy (by omega), f36_x h1.rl (by omega) H.length s.sy f.sy.length g3 h.sy.slenEq, Ab.bs, g3, g4, tSlice]
        cases s.M == 62 <;> cases s.M == 183 <;> cases f.sg.all sgMay <;> cases f.sy.all syMay <;> cases f.rl.all (rlMay f.sy.length) <;> exact says_ret rfl
      · rw [show decide ((f.rl.length : Int) > 64) = true by simp; omega, show decide (f.rl.length ≤ 64) = false by simp [l3]]
        cases s.M == 62 <;> cases s.M == 183 <;> exact says_ret rfl
    · rw [show decide ((f.sy.length : Int) > 64) = true by simp; omega, show decide (f.sy.length ≤ 64) = false by simp [l2]]
      cases s.M == 62 <;> cases s.M == 183 <;> exact says_ret rfl
  · rw [show decide ((f.sg.length : Int) > 24) = true by simp; omega, show decide (f.sg.length ≤ 24) = false by simp [l1]]
    cases s.M == 62 <;> cases s.M == 183 <;> exact says_ret rfl
theorem up16_eq (n : Nat) : up16 n = (n + 15) / 16 * 16 := by unfold up16 padN; omega
theorem up16_ge (n : Nat) : n ≤ up16 n := by unfold up16; omega
theorem f48_x (n : Nat) (h : n ≤ 4611686018427387904) (H : Heap) : f48 (n : Int) H = some (((up16 n : Nat) : Int), H) := by
  rw [q48, up16_eq]
  have e1 : IntKind.i64.wrap ((n : Int) + 16) = ((n + 16 : Nat) : Int) := by rw [wrap_i64 (by omega) (by omega)]; omega
  have e2 : IntKind.i64.wrap (((n + 16 : Nat) : Int) - 1) = ((n + 15 : Nat) : Int) := by rw [wrap_i64 (by omega) (by omega)]; omega
  have e3 : (((n + 15 : Nat) : Int)).tdiv 16 = (((n + 15) / 16 : Nat) : Int) := by
    rw [show (16 : Int) = ((16 : Nat) : Int) from rfl]; rfl
  rw [e1, e2, e3, wrap_i64 (n := (((n + 15) / 16 : Nat) : Int)) (by omega) (by omega), wrap_i64 (by omega) (by omega)]
  rfl
def len1 (sg : List Sg) : Nat := segN (64 + 56 * sg.length) sg
def len2 (n : Nat) (sy : List Sy) : Nat := up16 n + 24 * (sy.length + 1) + (1 + namesN sy)
def len3 (n : Nat) (rl : List Rl) : Nat := up16 n + 24 * rl.length + 33
def lenF (f : Fl) : Nat := up16 (len3 (len2 (len1 f.sg) f.sy) f.rl) + 320
def satN (n : Nat) : Nat := min n 1048577
theorem sat_step (n d : Nat) : satN (up16 (satN n) + d) = satN (up16 n + d) := by
  unfold satN
  rcases Nat.le_total n 1048577 with h | h
  · rw [Nat.min_eq_left h]
  · rw [Nat.min_eq_right h]
    have := up16_ge n
    have := up16_ge 1048577
    omega
theorem loop17a {H : Heap} {s : FS} {f : Fl} (h : FR H s f) (hl : f.sg.length ≤ 24) : ∀ (r : List Sg) (n i N : Nat), f.sg.drop i = r →
    (∃ x, D17_3 (n + r.length + 1) ((satN N : Nat) : Int) s.sg (f.sg.length : Int) (i : Int) s.M s.E s.sg s.sy s.rl H = some (.ret, X17_3 1048577 x s.M s.E s.sg s.sy s.rl H) ∧ 1048576 < segN N r) ∨
    D17_3 (n + r.length + 1) ((satN N : Nat) : Int) s.sg (f.sg.length : Int) (i : Int) s.M s.E s.sg s.sy s.rl H = some (.exit 0, X17_3a ((satN (segN N r) : Nat) : Int) s.M s.E s.sg s.sy s.rl H)
  | [], n, i, N, hr => by
    have hi : f.sg.length ≤ i := by
      rcases Nat.lt_or_ge i f.sg.length with h1 | h1
      · rw [List.drop_eq_getElem_cons h1] at hr; cases hr
      · exact h1
    have g : decide ((i : Int) < (f.sg.length : Int)) = false := by simp; omega
    exact .inr (by rw [List.length_nil, Nat.add_zero, D17_3_s, g, cf]; rfl)
  | x :: r, n, i, N, hr => by
    have hi : i < f.sg.length := by
      rcases Nat.lt_or_ge i f.sg.length with h1 | h1
      · exact h1
      · rw [List.drop_eq_nil_of_le h1] at hr; cases hr
    rw [List.drop_eq_getElem_cons hi, List.cons.injEq] at hr
    obtain ⟨hs, hr⟩ := hr
    have hsi : f.sg[i]? = some x := by rw [List.getElem?_eq_getElem hi, hs]
    have hx := h.sd x (by rw [← hs]; exact List.getElem_mem hi)
    have g : decide ((i : Int) < (f.sg.length : Int)) = true := by simp; omega
    obtain ⟨sl, e0, g1, c0, c1, c2, c3, c4⟩ := getsSg h.sg hsi
    have hst : D17_3 (n + (x :: r).length + 1) ((satN N : Nat) : Int) s.sg (f.sg.length : Int) (i : Int) s.M s.E s.sg s.sy s.rl H =
        bif decide (slen x.sl > 1048576) then some (AExit.ret, X17_3 1048577 ((satN N : Nat) : Int) s.M s.E s.sg s.sy s.rl H) else (f48 ((satN N : Nat) : Int) H).bind fun v9 => D17_3 (n + r.length + 1) (mm Builtin.min (IntKind.i64.wrap (v9.fst + slen x.sl)) 1048577) s.sg (f.sg.length : Int) (IntKind.i64.wrap ((i : Int) + 1)) s.M s.E s.sg s.sy s.rl v9.snd := by
      rw [show n + (x :: r).length + 1 = (n + r.length + 1) + 1 by simp; omega, D17_3_s, g, ct]
      rw [show s.sg.bind = (some sl).bind (β := AExit × St) by rw [e0]]
      simp only [Ab.bs, g1, ct, c0, c1, c2, c3, c4, tInt, tSlice]
    rw [hst, hx.slenEq]
    unfold segN
    by_cases hd : x.data.length ≤ 1048576
    · rw [show decide ((x.data.length : Int) > 1048576) = false by simp; omega, cf]
      have hsat : satN N ≤ 1048577 := by unfold satN; omega
      have hup : up16 (satN N) ≤ 1048592 := by rw [up16_eq]; omega
      rw [f48_x _ (by omega), Ab.bs]
      dsimp only
      have hm : mm Builtin.min (IntKind.i64.wrap (((up16 (satN N) : Nat) : Int) + (x.data.length : Int))) 1048577 = ((satN (up16 N + x.data.length) : Nat) : Int) := by
        rw [wrap_i64 (by omega) (by omega), ← sat_step]
        unfold mm satN
        dsimp only
        split <;> omega
      rw [hm, i64_succ i (by omega)]
      exact loop17a h hl r n (i + 1) (up16 N + x.data.length) hr
    · rw [show decide ((x.data.length : Int) > 1048576) = true by simp; omega, ct]
      refine .inl ⟨_, rfl, ?_⟩
      have := segN_ge r (up16 N + x.data.length)
      omega
theorem loop17b {H : Heap} {s : FS} {f : Fl} (h : FR H s f) (hl : f.sy.length ≤ 64) (hsz : ∀ x ∈ f.sy, x.name.size ≤ 32) : ∀ (r : List Sy) (n i N : Nat), f.sy.drop i = r → N ≤ 2000000 + 33 * i →
    D17_11 (n + r.length + 1) (N : Int) s.sy (f.sy.length : Int) (i : Int) s.M s.E s.sg s.sy s.rl H = some (.exit 2, X17_11 ((N + namesN r : Nat) : Int) s.M s.E s.sg s.sy s.rl H)
  | [], n, i, N, hr, hN => by
    have hi : f.sy.length ≤ i := by
      rcases Nat.lt_or_ge i f.sy.length with h1 | h1
      · rw [List.drop_eq_getElem_cons h1] at hr; cases hr
      · exact h1
    have g : decide ((i : Int) < (f.sy.length : Int)) = false := by simp; omega
    rw [List.length_nil, Nat.add_zero, D17_11_s, g, cf]; rfl
  | x :: r, n, i, N, hr, hN => by
    have hi : i < f.sy.length := by
      rcases Nat.lt_or_ge i f.sy.length with h1 | h1
      · exact h1
      · rw [List.drop_eq_nil_of_le h1] at hr; cases hr
    rw [List.drop_eq_getElem_cons hi, List.cons.injEq] at hr
    obtain ⟨hs, hr⟩ := hr
    have hsi : f.sy[i]? = some x := by rw [List.getElem?_eq_getElem hi, hs]
    have hx := hsz x (by rw [← hs]; exact List.getElem_mem hi)
    have g : decide ((i : Int) < (f.sy.length : Int)) = true := by simp; omega
    obtain ⟨sl, e0, g1, c0, c1, c2, c3⟩ := getsSy h.sy hsi
    have gn : IntKind.i64.wrap ((N : Int) + IntKind.i64.wrap ((x.name.size : Int) + 1)) = ((N + (x.name.size + 1) : Nat) : Int) := by
      rw [wrap_i64 (n := (x.name.size : Int) + 1) (by omega) (by omega), wrap_i64 (by omega) (by omega)]; omega
    have ih := loop17b h hl hsz r n (i + 1) (N + (x.name.size + 1)) hr (by omega)
    rw [show n + (x :: r).length + 1 = (n + r.length + 1) + 1 by simp; omega, D17_11_s, g, ct]
    rw [show s.sy.bind = (some sl).bind (β := AExit × St) by rw [e0]]
    simp only [Ab.bs, g1, ct, c0, c1, c2, c3, tInt, tStr, gn, i64_succ i (by omega)]
    rw [ih, show namesN (x :: r) = x.name.size + 1 + namesN r from rfl, show N + (x.name.size + 1) + namesN r = N + (x.name.size + 1 + namesN r) by omega]
theorem namesN_le : ∀ l : List Sy, (∀ x ∈ l, x.name.size ≤ 32) → namesN l ≤ 33 * l.length
  | [], _ => Nat.le_refl _
  | x :: l, h => by
    unfold namesN
    have := namesN_le l fun y hy => h y (by simp [hy])
    have := h x (by simp)
    simp only [List.length_cons]; omega
/-- A file's size: too great, or told. -/
theorem f17_x {H : Heap} {s : FS} {f : Fl} (h : FR H s f) (h1 : f.sg.length ≤ 24) (h2 : f.sy.length ≤ 64) (h3 : f.rl.length ≤ 64) (hsz : ∀ x ∈ f.sy, x.name.size ≤ 32) :
    ∃ n : Int, f17 s.M s.E s.sg s.sy s.rl H = some (n, H) ∧ decide (n > 1048576) = decide (lenF f > 1048576) := by
  have hge3 : len1 f.sg ≤ lenF f := by
    unfold lenF len3 len2
    have := up16_ge (len1 f.sg)
    have := up16_ge (up16 (len1 f.sg) + 24 * (f.sy.length + 1) + (1 + namesN f.sy))
    have := up16_ge (up16 (up16 (len1 f.sg) + 24 * (f.sy.length + 1) + (1 + namesN f.sy)) + 24 * f.rl.length + 33)
    omega
  have hi : IntKind.i64.wrap (64 + IntKind.i64.wrap (56 * (f.sg.length : Int))) = ((satN (64 + 56 * f.sg.length) : Nat) : Int) := by
    unfold satN
    rw [wrap_i64 (n := 56 * (f.sg.length : Int)) (by omega) (by omega), wrap_i64 (by omega) (by omega)]; omega
  obtain ⟨n1, e1⟩ := LL17_3_of f.sg.length (by omega) ((satN (64 + 56 * f.sg.length) : Nat) : Int) s.sg (f.sg.length : Int) 0 s.M s.E s.sg s.sy s.rl H
  rw [q17, h.sg.slenEq, hi, e1]
  rcases loop17a h h1 f.sg n1 0 (64 + 56 * f.sg.length) rfl with ⟨x, r1, r2⟩ | r1
  · rw [show (0 : Int) = ((0 : Nat) : Int) from rfl, r1, Ab.bs, J17_3_0]
    refine ⟨_, rfl, ?_⟩
    have : len1 f.sg > 1048576 := r2
    rw [show decide ((1048577 : Int) > 1048576) = true from rfl]
    exact (decide_eq_true (show lenF f > 1048576 by omega)).symm
  · rw [show (0 : Int) = ((0 : Nat) : Int) from rfl, r1, Ab.bs, J17_3_1]
    have hs1 : segN (64 + 56 * f.sg.length) f.sg = len1 f.sg := rfl
    rw [hs1]
    have hsat : satN (len1 f.sg) ≤ 1048577 := by unfold satN; omega
    have hup : up16 (satN (len1 f.sg)) ≤ 1048592 := by rw [up16_eq]; omega
    rw [f48_x _ (by omega), Ab.bs]
    dsimp only
    have hnn := namesN_le f.sy hsz
    have h24 : IntKind.i64.wrap (IntKind.i64.wrap (((up16 (satN (len1 f.sg)) : Nat) : Int) + IntKind.i64.wrap (24 * IntKind.i64.wrap ((f.sy.length : Int) + 1))) + 1) = ((up16 (satN (len1 f.sg)) + 24 * (f.sy.length + 1) + 1 : Nat) : Int) := by
      rw [wrap_i64 (n := (f.sy.length : Int) + 1) (by omega) (by omega), wrap_i64 (n := 24 * ((f.sy.length : Int) + 1)) (by omega) (by omega), wrap_i64 (n := ((up16 (satN (len1 f.sg)) : Nat) : Int) + 24 * ((f.sy.length : Int) + 1)) (by omega) (by omega), wrap_i64 (by omega) (by omega)]
      omega
    obtain ⟨n2, e2⟩ := LL17_11_of f.sy.length (by omega) ((up16 (satN (len1 f.sg)) + 24 * (f.sy.length + 1) + 1 : Nat) : Int) s.sy (f.sy.length : Int) 0 s.M s.E s.sg s.sy s.rl H
    have r2 := loop17b h h2 hsz f.sy n2 0 (up16 (satN (len1 f.sg)) + 24 * (f.sy.length + 1) + 1) rfl (by omega)
    have e2' := e2.trans r2
    rw [h.sy.slenEq, h24, e2', Ab.bs, J17_11_0]
    generalize hU : up16 (satN (len1 f.sg)) = U at *
    have hV : up16 (U + 24 * (f.sy.length + 1) + 1 + namesN f.sy) ≤ U + 24 * (f.sy.length + 1) + 1 + namesN f.sy + 15 := by rw [up16_eq]; omega
    rw [f48_x _ (by omega), Ab.bs]
    dsimp only
    generalize hW : up16 (U + 24 * (f.sy.length + 1) + 1 + namesN f.sy) = W at *
    have h33 : IntKind.i64.wrap (IntKind.i64.wrap ((W : Int) + IntKind.i64.wrap (24 * slen s.rl)) + 33) = ((W + 24 * f.rl.length + 33 : Nat) : Int) := by
      rw [h.rl.slenEq, wrap_i64 (n := 24 * (f.rl.length : Int)) (by omega) (by omega), wrap_i64 (n := (W : Int) + 24 * (f.rl.length : Int)) (by omega) (by omega), wrap_i64 (by omega) (by omega)]
      omega
    have hX : up16 (W + 24 * f.rl.length + 33) ≤ W + 24 * f.rl.length + 33 + 15 := by rw [up16_eq]; omega
    rw [h33, f48_x _ (by omega), Ab.bs]
    dsimp only
    rw [wrap_i64 (by omega) (by omega)]
    refine ⟨_, rfl, ?_⟩
    rcases Nat.lt_or_ge (len1 f.sg) 1048577 with hlt | hle
    · have hss : satN (len1 f.sg) = len1 f.sg := by unfold satN; omega
      rw [hss] at hU
      have : lenF f = up16 (W + 24 * f.rl.length + 33) + 320 := by
        unfold lenF len3 len2
        rw [hU, show U + 24 * (f.sy.length + 1) + (1 + namesN f.sy) = U + 24 * (f.sy.length + 1) + 1 + namesN f.sy by omega, hW]
      rw [this, Bool.eq_iff_iff, decide_eq_true_eq, decide_eq_true_eq]; omega
    · have hss : satN (len1 f.sg) = 1048577 := by unfold satN; omega
      have h1u := up16_ge (satN (len1 f.sg))
      have h2u := up16_ge (U + 24 * (f.sy.length + 1) + 1 + namesN f.sy)
      have h3u := up16_ge (W + 24 * f.rl.length + 33)
      rw [hU, hss] at h1u
      rw [hW] at h2u
      rw [Bool.eq_iff_iff, decide_eq_true_eq, decide_eq_true_eq]
      constructor
      · intro _; omega
      · intro _; omega
/-! what is written -/
def secsOf (f : Fl) : List (Int × Int) :=
  [(((up16 (len1 f.sg) : Nat) : Int), ((24 * (f.sy.length + 1) : Nat) : Int)), (((up16 (len1 f.sg) + 24 * (f.sy.length + 1) : Nat) : Int), ((1 + namesN f.sy : Nat) : Int)),
   (((up16 (len2 (len1 f.sg) f.sy) : Nat) : Int), ((24 * f.rl.length : Nat) : Int)), (((up16 (len2 (len1 f.sg) f.sy) + 24 * f.rl.length : Nat) : Int), ((33 : Nat) : Int))]
def outB (f : Fl) : List UInt8 :=
  hdA f.M.toNat f.E.toNat ++ leB 8 (up16 (len3 (len2 (len1 f.sg) f.sy) f.rl)) ++ (hdB f.sg.length ++ segR (64 + 56 * f.sg.length) f.sg ++ segT (64 + 56 * f.sg.length) f.sg ++ symsAll (len1 f.sg) f.sy ++ relsAll (len2 (len1 f.sg) f.sy) f.rl) ++
    zs (padN (len3 (len2 (len1 f.sg) f.sy) f.rl) 16) ++ zs 64 ++ secsB 0 (secsOf f)
/-- What the cells of a law's arguments hold. -/
structure FOk (f : Fl) : Prop where
  e : u64r f.E
  sg : ∀ s ∈ f.sg, u64r s.addr ∧ u64r s.size
  sy : ∀ s ∈ f.sy, u64r s.addr ∧ u64r s.size
  rl : ∀ r ∈ f.rl, u64r r.at'
theorem fi_of {s : Sy} (h : decide (strings_IndexByte s.name 0 < 0) = true) : fi s.name.data.toList = none := by
  have := ixs_ge s.name
  cases hf : fi s.name.data.toList with
  | none => rfl
  | some i =>
    rw [hf] at this
    simp at this h
    omega
theorem may_ok {f : Fl} (h : mayF f = true) (hf : FOk f) : (f.M = 62 ∨ f.M = 183) ∧ f.sg.length ≤ 24 ∧ f.sy.length ≤ 64 ∧ f.rl.length ≤ 64 ∧ (∀ s ∈ f.sg, SgOk s) ∧ (∀ s ∈ f.sy, SyOk s) ∧ (∀ r ∈ f.rl, RlOk r f.sy.length) := by
  unfold mayF at h
  simp only [Bool.and_eq_true, Bool.or_eq_true, beq_iff_eq, decide_eq_true_eq, List.all_eq_true] at h
  obtain ⟨h1, h2, h3, h4, h5, h6, h7⟩ := h
  refine ⟨h1, h2, h3, h4, fun s hs => ?_, fun s hs => ?_, fun r hr => ?_⟩
  · have := h5 s hs
    unfold sgMay at this
    simp only [Bool.and_eq_true, Bool.or_eq_true, beq_iff_eq, Bool.not_eq_true', decide_eq_false_iff_not, decide_eq_true_eq] at this
    obtain ⟨a1, a2, a3, _⟩ := this
    exact ⟨by omega, by omega, (hf.sg s hs).1, (hf.sg s hs).2⟩
  · have := h6 s hs
    unfold syMay at this
    rw [Bool.and_eq_true, Bool.and_eq_true, Bool.and_eq_true] at this
    obtain ⟨a1, a2, a3, a4⟩ := this
    simp only [decide_eq_true_eq] at a1 a3 a4
    exact ⟨by omega, fi_of a2, ⟨by omega, by omega⟩, (hf.sy s hs).1, (hf.sy s hs).2⟩
  · have := h7 r hr
    unfold rlMay at this
    simp only [Bool.and_eq_true, Bool.not_eq_true', decide_eq_false_iff_not] at this
    exact ⟨hf.rl r hr, by omega⟩
theorem f6_x {H : Heap} {s : FS} {f : Fl} (h : FR H s f) (hf : FOk f) :
    (mayF f = false → ∃ H', f6 s.M s.E s.sg s.sy s.rl H = some ((none, 20), H') ∧ Kp No H H') ∧
    (mayF f = true → lenF f > 1048576 → ∃ H', f6 s.M s.E s.sg s.sy s.rl H = some ((none, 23), H') ∧ Kp No H H') ∧
    (mayF f = true → lenF f ≤ 1048576 → ∃ b H', f6 s.M s.E s.sg s.sy s.rl H = some ((b, 0), H') ∧ Kp No H H' ∧ OS 1 E8 H' b (outB f) ∧ New H.length b ∧ (outB f).length = lenF f) := by
  obtain ⟨H1, e1, k1⟩ := f12_x h
  rw [q6, e1, Ab.bs]
  dsimp only
  refine ⟨fun hm => ⟨H1, by rw [hm]; rfl, k1⟩, fun hm hL => ?_, fun hm hL => ?_⟩
  · obtain ⟨m1, m2, m3, m4, m5, m6, m7⟩ := may_ok hm hf
    obtain ⟨n, e2, e3⟩ := f17_x (h.no k1) m2 m3 m4 fun x hx => (m6 x hx).n
    refine ⟨H1, ?_, k1⟩
    rw [hm, Bool.not_true, cf, e2, Ab.bs]
    dsimp only
    rw [e3, show decide (lenF f > 1048576) = true by simpa using hL, ct]
  · obtain ⟨m1, m2, m3, m4, m5, m6, m7⟩ := may_ok hm hf
    have h1 := h.no k1
    obtain ⟨n, e2, e3⟩ := f17_x h1 m2 m3 m4 fun x hx => (m6 x hx).n
    obtain ⟨H2, e4, r4, k4⟩ := f18_spec H1 none [] ⟨[], rfl, rfl, fun j p l e => by simp at e⟩ (by simp) (by simp)
    have k2 := k1.tr k4
    have h2 := h.no k2
    have hrl : H1.length < H2.length := lt_of r4.choose_spec.1
    -- the writer
    have kw : Kp No H2 (H2 ++ [wrow s H1.length none]) := Kp.push1 _ _
    have r4' : Rq (H2 ++ [wrow s H1.length none]) H1.length [] := Rq.of (rp_kp r4 kw)
    have w : WS H1 (H2 ++ [wrow s H1.length none]) s H2.length H1.length [] [] none := by
      refine ⟨push_get _ _, r4', rfl, aw_push (Rq.of r4) _ (Nat.le_refl _) (by simp), (fun q e => by cases e), k4.tr kw, by omega, fun i hi => ?_, (fun q e => by cases e)⟩
      obtain ⟨sx, x1, x2, x3, x4, x5⟩ := r4
      rcases hi with e | ⟨sl, y1, y2⟩ | e
      · omega
      · rw [kw.bk x1] at y1
        cases y1
        have : H1.length ≤ sl.id := x5 sl rfl
        omega
      · have := kw.len; omega
    have hlen1 : len1 f.sg ≤ len2 (len1 f.sg) f.sy := by unfold len2; have := up16_ge (len1 f.sg); omega
    have hlen2 : len2 (len1 f.sg) f.sy ≤ len3 (len2 (len1 f.sg) f.sy) f.rl := by unfold len3; have := up16_ge (len2 (len1 f.sg) f.sy); omega
    have hlen3 : len3 (len2 (len1 f.sg) f.sy) f.rl + 320 ≤ lenF f := by unfold lenF; have := up16_ge (len3 (len2 (len1 f.sg) f.sy) f.rl); omega
    have hFR : ∀ x ∈ f.sg, ∀ sl, x.sl = some sl → x.data ≠ [] → sl.id < H1.length := fun x hx sl e hne => by
      have := h1.sd x hx
      rw [e] at this
      exact this.lt E8_len (by decide) hne
    obtain ⟨G1, f1, w1⟩ := f19_x w (by rw [h.m]; exact m1) (by rw [h.e]; exact hf.e) f.sg.length h.sg.slenEq m2
    have hh64 : (hdA s.M.toNat s.E.toNat ++ leB 8 0 ++ hdB f.sg.length).length = 64 := by
      simp only [List.length_append, hdA_len, hdB_len, leB_length]
    obtain ⟨G2, f2, w2⟩ := f20_x f.sg h1.sg m2 h1.sd hFR m5 _ hh64 w1 (by show len1 f.sg ≤ _; omega)
    have hl2 : (hdA s.M.toNat s.E.toNat ++ leB 8 0 ++ hdB f.sg.length ++ segR (64 + 56 * f.sg.length) f.sg ++ segT (64 + 56 * f.sg.length) f.sg).length = len1 f.sg := by
      rw [List.length_append, List.length_append, hh64, segR_len]; exact segT_len _ _
    obtain ⟨G3, s3, f3, w3⟩ := f21_x f.sy h1.sy m3 m6 w2 (by simp) (by rw [hl2]; show len2 (len1 f.sg) f.sy ≤ _; omega)
    rw [hl2] at w3
    have hl3 : (hdA s.M.toNat s.E.toNat ++ leB 8 0 ++ hdB f.sg.length ++ segR (64 + 56 * f.sg.length) f.sg ++ segT (64 + 56 * f.sg.length) f.sg ++ symsAll (len1 f.sg) f.sy).length = len2 (len1 f.sg) f.sy := by
      rw [List.length_append, hl2, symsAll_len]; unfold len2 up16; omega
    obtain ⟨G4, s4, f4, w4⟩ := f22_x f.rl h1.rl m4 f.sy.length m3 m7 w3 (by simp) (by rw [hl3]; show len3 (len2 (len1 f.sg) f.sy) f.rl ≤ _; omega)
    rw [hl3] at w4
    have hl4 : (hdA s.M.toNat s.E.toNat ++ leB 8 0 ++ hdB f.sg.length ++ segR (64 + 56 * f.sg.length) f.sg ++ segT (64 + 56 * f.sg.length) f.sg ++ symsAll (len1 f.sg) f.sy ++ relsAll (len2 (len1 f.sg) f.sy) f.rl).length = len3 (len2 (len1 f.sg) f.sy) f.rl := by
      rw [List.length_append, hl3, relsAll_len]; unfold len3 up16; omega
    have hb5 : hdA s.M.toNat s.E.toNat ++ leB 8 0 ++ hdB f.sg.length ++ segR (64 + 56 * f.sg.length) f.sg ++ segT (64 + 56 * f.sg.length) f.sg ++ symsAll (len1 f.sg) f.sy ++ relsAll (len2 (len1 f.sg) f.sy) f.rl = hdA s.M.toNat s.E.toNat ++ leB 8 0 ++ (hdB f.sg.length ++ segR (64 + 56 * f.sg.length) f.sg ++ segT (64 + 56 * f.sg.length) f.sg ++ symsAll (len1 f.sg) f.sy ++ relsAll (len2 (len1 f.sg) f.sy) f.rl) := by simp
    rw [hb5] at w4 hl4
    have hsec : ([] ++ [(((up16 (len1 f.sg) : Nat) : Int), ((24 * (f.sy.length + 1) : Nat) : Int)), (((up16 (len1 f.sg) + 24 * (f.sy.length + 1) : Nat) : Int), ((1 + namesN f.sy : Nat) : Int))] ++ [(((up16 (len2 (len1 f.sg) f.sy) : Nat) : Int), ((24 * f.rl.length : Nat) : Int)), (((up16 (len2 (len1 f.sg) f.sy) + 24 * f.rl.length : Nat) : Int), ((33 : Nat) : Int))] : List (Int × Int)) = secsOf f := rfl
    rw [hsec] at w4
    have hu1 : up16 (len1 f.sg) + 24 * (f.sy.length + 1) + (1 + namesN f.sy) = len2 (len1 f.sg) f.sy := rfl
    have hu2 : up16 (len2 (len1 f.sg) f.sy) + 24 * f.rl.length + 33 = len3 (len2 (len1 f.sg) f.sy) f.rl := rfl
    obtain ⟨G5, f5, w5⟩ := f23_x (hdA_len _ _) w4 rfl (fun p hp => by
      simp only [secsOf, List.mem_cons, List.not_mem_nil, or_false] at hp
      rcases hp with rfl | rfl | rfl | rfl <;> (dsimp only; omega)) _ hl4 (by show lenF f ≤ _; omega)
    have hout : hdA s.M.toNat s.E.toNat ++ leB 8 (up16 (len3 (len2 (len1 f.sg) f.sy) f.rl)) ++ (hdB f.sg.length ++ segR (64 + 56 * f.sg.length) f.sg ++ segT (64 + 56 * f.sg.length) f.sg ++ symsAll (len1 f.sg) f.sy ++ relsAll (len2 (len1 f.sg) f.sy) f.rl) ++ zs (padN (len3 (len2 (len1 f.sg) f.sy) f.rl) 16) ++ zs 64 ++ secsB 0 (secsOf f) = outB f := by
      unfold outB; rw [h.m, h.e]
    rw [hout] at w5
    have hol : (outB f).length = lenF f := by
      rw [← hout]
      have : (hdA s.M.toNat s.E.toNat ++ leB 8 (up16 (len3 (len2 (len1 f.sg) f.sy) f.rl)) ++ (hdB f.sg.length ++ segR (64 + 56 * f.sg.length) f.sg ++ segT (64 + 56 * f.sg.length) f.sg ++ symsAll (len1 f.sg) f.sy ++ relsAll (len2 (len1 f.sg) f.sy) f.rl)).length = len3 (len2 (len1 f.sg) f.sy) f.rl := by
        rw [← hl4]; simp only [List.length_append, leB_length]
      rw [List.length_append, List.length_append, List.length_append, this, zs_len, zs_len, secsB_len]
      show _ + _ + _ + 64 * 4 = _
      unfold lenF up16; omega
    obtain ⟨b, G6, f6', o6, k6, n6⟩ := f24_spec w5.r (by rw [hol]; exact hL)
    obtain ⟨z0, _⟩ := w5.g
    have kall : Kp No H G6 := (k1.tr w5.k).tr k6
    refine ⟨b, G6, ?_, kall, o6, fun sl e => ?_, hol⟩
    · rw [hm, Bool.not_true, cf, e2, Ab.bs]
      dsimp only
      rw [e3, show decide (lenF f > 1048576) = false by simp; omega, cf, e4, Ab.bs]
      dsimp only
      have f1' : f19 (some (H2.length, 0)) (H2 ++ [Blk.row [Cell.ptr (some (H1.length, 0)), Cell.int IntKind.i64 s.M, Cell.int IntKind.u64 s.E, Cell.slice s.sg, Cell.slice s.sy, Cell.slice s.rl, Cell.slice none] false]) = some ((), G1) := f1
      rw [f1', Ab.bs, f2, Ab.bs, f3, Ab.bs, f4, Ab.bs, f5, Ab.bs]
      simp only [z0, Ab.bs, tPtr, f6']
    · have := n6 sl e
      have := w5.k.len
      have := k1.len
      omega
end
end Go.Proofs.Ytmjmhipfkbedaaa
