/- Layer 4: the program's image of a file, put together. -/
import Derived.Test.YtnjdajcgcnjamaaImI
namespace Go.Proofs.Ytnjdajcgcnjamaa
open Go Go.Proofs.Ytnjdajcgcnjamaa.Ab
set_option linter.unusedVariables false
set_option linter.unusedSimpArgs false
set_option maxRecDepth 100000
noncomputable section
/-- An image. -/
structure Im where
  o : Sg
  dt : List Sg
  st : List (Int × Int × Bool)
  en : Int
  fu : List Int
  tk : List Int
def im0 : Im := ⟨z0, [], [], 0, [], []⟩
/-- A segment but for where its bytes lie. -/
def er (s : Sg) : Sg := { s with sl := none }
/-- An image in the heap. -/
structure IR (H : Heap) (k fl ad sz : Int) (sd dt st : Option Sl) (en : Int) (fu tk : Option Sl) (m : Im) : Prop where
  hk : k = m.o.kind
  hf : fl = m.o.flags
  ha : ad = m.o.addr
  hs : sz = m.o.size
  hd : RS 1 E8 H sd m.o.data
  hdt : ∃ l, RS 5 ESg H dt l ∧ l.map er = m.dt.map er ∧ ∀ x ∈ l, RS 1 E8 H x.sl x.data
  hst : RS 3 EAr H st m.st
  hen : en = m.en
  hfu : RS 1 E64 H fu m.fu
  htk : RS 1 E64 H tk m.tk
theorem IR.no {H H' : Heap} {k fl ad sz : Int} {sd dt st : Option Sl} {en : Int} {fu tk : Option Sl} {m : Im} (h : IR H k fl ad sz sd dt st en fu tk m) (g : Kp No H H') : IR H' k fl ad sz sd dt st en fu tk m := by
  obtain ⟨l, h1, h2, h3⟩ := h.hdt
  exact ⟨h.hk, h.hf, h.ha, h.hs, h.hd.no g, ⟨l, h1.no g, h2, fun x hx => (h3 x hx).no g⟩, h.hst.no g, h.hen, h.hfu.no g, h.htk.no g⟩
def loadsP (f : Fl) : List Sg := f.sg.filter fun s => s.kind == 1
def ofP (f : Fl) : Int × Im :=
  bif !mayF f then (20, im0) else bif f.M != 62 then (20, im0) else bif !sizedP f then (23, im0) else bif !(textP (loadsP f)).2 then (21, im0) else
  match stP f.sg 0 f.sg with
  | none => (25, im0)
  | some ar => bif !hasP (textP (loadsP f)).1 f.E 1 then (7, im0) else
    match takenP f (textP (loadsP f)).1 f.rl with
    | none => (20, im0)
    | some l => (0, ⟨(textP (loadsP f)).1, sortP ((loadsP f).filter fun s => !isX s), ar, f.E, risingP (funcsP (textP (loadsP f)).1 f.sy), risingP l⟩)
theorem ib_getL {H : Heap} {id : Nat} {c : Sg} {dt st : Option Sl} {en : Int} {fu tk : Option Sl} (h : H[id]? = some (ibRow c dt st en fu tk)) :
    H.get id 0 = some (.int .i64 c.kind) ∧ H.get id 1 = some (.int .i64 c.flags) ∧ H.get id 2 = some (.int .u64 c.addr) ∧ H.get id 3 = some (.int .u64 c.size) ∧ H.get id 4 = some (.slice c.sl) ∧
    H.get id 5 = some (.slice dt) ∧ H.get id 6 = some (.slice st) ∧ H.get id 7 = some (.int .u64 en) ∧ H.get id 8 = some (.slice fu) ∧ H.get id 9 = some (.slice tk) := ib_get h
theorem ib_put4 {H : Heap} {id : Nat} {c : Sg} {dt st : Option Sl} {en : Int} {fu tk : Option Sl} (h : H[id]? = some (ibRow c dt st en fu tk)) (x : Option Sl) : H.put id 4 [.slice x] = some (H.set id (ibRow { c with sl := x } dt st en fu tk)) := by
  unfold ibRow at h
  rw [put_of h (by simp)]; rfl
theorem ib_put5 {H : Heap} {id : Nat} {c : Sg} {dt st : Option Sl} {en : Int} {fu tk : Option Sl} (h : H[id]? = some (ibRow c dt st en fu tk)) (x : Option Sl) : H.put id 5 [.slice x] = some (H.set id (ibRow c x st en fu tk)) := by
  unfold ibRow at h
  rw [put_of h (by simp)]; rfl
theorem ib_put6 {H : Heap} {id : Nat} {c : Sg} {dt st : Option Sl} {en : Int} {fu tk : Option Sl} (h : H[id]? = some (ibRow c dt st en fu tk)) (x : Option Sl) : H.put id 6 [.slice x] = some (H.set id (ibRow c dt x en fu tk)) := by
  unfold ibRow at h
  rw [put_of h (by simp)]; rfl
/-- The data's segments, each with a copy of its bytes. -/
theorem loop7 {H0 : Heap} {id : Nat} {c : Sg} {st : Option Sl} {en : Int} {fu tk : Option Sl} (dt : Option Sl) (hid0 : H0.length ≤ id) (hdt : ∀ q, dt = some q → q.id ≠ id ∧ H0.length ≤ q.id) (b0 b1 : Int) (b2 b3 b4 : Option Sl) (c0 c1 c2 c3 : Int) (c4 c5 c6 : Option Sl) (c7 : Int) (c8 c9 : Option Sl) :
    ∀ (x : List Sg) (n : Nat) (A : List Sg) (H : Heap), Kp No H0 H → H[id]? = some (ibRow c dt st en fu tk) → OS 5 ESg H dt (A ++ x) → (A ++ x).length < 1000 → (∀ s ∈ A, OS 1 E8 H s.sl s.data ∧ ∀ q, s.sl = some q → q.id ≠ id ∧ H0.length ≤ q.id ∧ ∀ p, dt = some p → q.id ≠ p.id) → (∀ s ∈ x, RS 1 E8 H0 s.sl s.data ∧ s.data.length ≤ 1000) →
    ∃ A' H', D7_18 (n + x.length + 1) id ((A ++ x).length : Int) (A.length : Int) b0 b1 b2 b3 b4 c0 c1 c2 c3 c4 c5 c6 c7 c8 c9 H = some (.exit 1, X7_18 id b0 b1 b2 b3 b4 c0 c1 c2 c3 c4 c5 c6 c7 c8 c9 H') ∧
      Kp No H0 H' ∧ H'[id]? = some (ibRow c dt st en fu tk) ∧ OS 5 ESg H' dt A' ∧ A'.map er = (A ++ x).map er ∧ (∀ s ∈ A', OS 1 E8 H' s.sl s.data ∧ ∀ q, s.sl = some q → q.id ≠ id ∧ H0.length ≤ q.id ∧ ∀ p, dt = some p → q.id ≠ p.id) ∧
      (∀ i, i < H.length → (∀ p, dt = some p → i ≠ p.id) → H'[i]? = H[i]?) ∧ H.length ≤ H'.length
  | [], n, A, H, hk, hr, ho, hl, hA, hx => by
    refine ⟨A, H, ?_, hk, hr, by simpa using ho, by simp, hA, fun _ _ _ => rfl, Nat.le_refl _⟩
    rw [show n + [].length + 1 = n + 1 from rfl, D7_18_s, dF (by simp), cf]
  | s :: x, n, A, H, hk, hr, ho, hl, hA, hx => by
    have hL : (A ++ s :: x).length = A.length + x.length + 1 := by simp; omega
    have hi : (A ++ s :: x)[A.length]? = some s := by rw [List.getElem?_append_right (Nat.le_refl _)]; simp
    obtain ⟨sl, e0, g1, d0, d1, d2, d3, d4⟩ := getsSg ho.rs hi
    subst e0
    have d4' : H.get sl.id (sl.off + ((A.length : Nat) : Int).toNat * 5 + 4) = some (.slice s.sl) := d4
    obtain ⟨r0, r1, r2, r3, r4, r5, r6, r7, r8, r9⟩ := ib_getL hr
    obtain ⟨hs1, hs2⟩ := hx s (by simp)
    obtain ⟨t, H1, e1, o1, k1, n1⟩ := f32_x' (hs1.no hk) (by omega)
    have hsame : same id H H1 = true := k1.same1 (lt_of hr)
    have ho1 := ho.no k1
    have hr1 := k1.bk hr
    have hsl := hdt sl rfl
    obtain ⟨H2, p2, o2, k2, l2⟩ := ho1.put (i := A.length) (j := 4) (y := { s with sl := t }) (vs := [.slice t]) ESg_len hi (by simp) (by simp [ESg, splice])
    have o2' : OS 5 ESg H2 (some sl) ((A ++ [{ s with sl := t }]) ++ x) := by simpa using o2
    have hr2 : H2[id]? = some (ibRow c (some sl) st en fu tk) := k2.at hr1 (fun e => hsl.1 e.symm)
    have hkk : Kp No H0 H2 := (hk.tr k1).trans k2 (fun _ h => h) fun i hi h => by have : i = sl.id := h; omega
    have hlen := hk.len
    obtain ⟨A', H', e', k', r', o', m', a', f', l'⟩ := loop7 (some sl) hid0 hdt b0 b1 b2 b3 b4 c0 c1 c2 c3 c4 c5 c6 c7 c8 c9 x n (A ++ [{ s with sl := t }]) H2 hkk hr2 o2' (by simp at hl ⊢; omega)
      (fun y hy => by
        rcases List.mem_append.1 hy with hy | hy
        · obtain ⟨y1, y2⟩ := hA y hy
          exact ⟨(y1.no k1).kp k2 fun q e g => (y2 q e).2.2 sl rfl g, y2⟩
        · simp at hy
          subst hy
          refine ⟨o1.kp k2 fun q e g => ?_, fun q e => ?_⟩
          · have := n1 q e; have := ho.lt; have g' : q.id = sl.id := g; omega
          · have := n1 q e; have := ho.lt; have := lt_of hr
            exact ⟨by omega, by omega, fun p e2 => by cases e2; omega⟩)
      (fun y hy => hx y (by simp [hy]))
    refine ⟨A', H', ?_, k', r', o', by rw [m']; simp [er], a', fun i hi hne => ?_, by have := k1.len; have := k2.len; omega⟩
    · rw [show n + (s :: x).length + 1 = (n + x.length + 1) + 1 by simp; omega, D7_18_s, dT (by omega), ct]
      have p2' : H1.put sl.id (sl.off + ((A.length : Nat) : Int).toNat * 5 + 4) [Cell.slice t] = some H2 := by rw [Int.toNat_natCast]; exact p2
      simp only [Ab.bs, r5, tSlice, g1, ct, d4', e1, hsame, p2', i64_succ _ (show A.length < 9223372036854775807 by omega)]
      rw [show ((A.length + 1 : Nat) : Int) = ((A ++ [{ s with sl := t }]).length : Int) by simp, show ((A ++ s :: x).length : Int) = (((A ++ [{ s with sl := t }]) ++ x).length : Int) by simp]
      exact e'
    · rw [f' i (by have := k1.len; have := k2.len; omega) hne, k2.same i (by have := k1.len; omega) (hne sl rfl), k1.same i hi fun h => h]
def cutOk (f : Fl) : Prop := ∀ s ∈ f.sg, s.data.length ≤ 1000
theorem tx_mem : ∀ (l pre : List Sg) (many : Nat) (o : Sg), (tx pre many o l).1 = o ∨ (tx pre many o l).1 ∈ l
  | [], _, _, _ => .inl rfl
  | s :: r, pre, many, o => by
    unfold tx
    cases pre.any (mt s) <;> cases isX s <;> simp only [cond_true, cond_false]
    · rcases tx_mem r (pre ++ [s]) many o with h | h
      · exact .inl h
      · exact .inr (by simp [h])
    · rcases tx_mem r (pre ++ [s]) (many + 1) s with h | h
      · exact .inr (by simp [h])
      · exact .inr (by simp [h])
    · simp
    · simp
theorem mem_ins_fold {z : Sg} : ∀ (l m : List Sg), z ∈ l.foldl (fun m s => ins s m) m → z ∈ m ∨ z ∈ l
  | [], m, h => .inl h
  | s :: l, m, h => by
    rcases mem_ins_fold l (ins s m) h with h | h
    · rcases mem_ins.1 h with rfl | h
      · exact .inr (by simp)
      · exact .inl h
    · exact .inr (by simp [h])
theorem f7_x {H : Heap} {s : FS} {f : Fl} (h : FR H s f) (hf : FOk f) (hcut : cutOk f) :
    ∃ k fl ad sz sd dt st en fu tk H', f7 s.M s.E s.sg s.sy s.rl H = some ((k, fl, ad, sz, sd, dt, st, en, fu, tk, (ofP f).1), H') ∧ Kp No H H' ∧ ((ofP f).1 = 0 → IR H' k fl ad sz sd dt st en fu tk (ofP f).2) ∧ ((ofP f).1 ≠ 0 → k = 0 ∧ fl = 0 ∧ ad = 0 ∧ sz = 0 ∧ sd = none ∧ dt = none ∧ st = none ∧ en = 0 ∧ fu = none ∧ tk = none) := by
  obtain ⟨H1, e1, k1⟩ := f22_x h
  have bad : ∀ {e : Int} {G : Heap} (he : e ≠ 0) (q : f7 s.M s.E s.sg s.sy s.rl H = some ((0, 0, 0, 0, none, none, none, 0, none, none, e), G)) (g : Kp No H G) (ho : (ofP f).1 = e),
      ∃ k fl ad sz sd dt st en fu tk H', f7 s.M s.E s.sg s.sy s.rl H = some ((k, fl, ad, sz, sd, dt, st, en, fu, tk, (ofP f).1), H') ∧ Kp No H H' ∧ ((ofP f).1 = 0 → IR H' k fl ad sz sd dt st en fu tk (ofP f).2) ∧ ((ofP f).1 ≠ 0 → k = 0 ∧ fl = 0 ∧ ad = 0 ∧ sz = 0 ∧ sd = none ∧ dt = none ∧ st = none ∧ en = 0 ∧ fu = none ∧ tk = none) := by
    intro e G he q g ho
    exact ⟨_, _, _, _, _, _, _, _, _, _, G, by rw [q, ho], g, fun h0 => absurd (ho.symm.trans h0) he, fun _ => ⟨rfl, rfl, rfl, rfl, rfl, rfl, rfl, rfl, rfl, rfl⟩⟩
  cases hm : mayF f with
  | false =>
    refine bad (e := 20) (by decide) (by rw [q7, e1, Ab.bs]; simp only [hm, Bool.not_false, ct]) k1 (by unfold ofP; rw [hm]; rfl)
  | true =>
  cases hM : s.M != 62 with
  | true =>
    refine bad (e := 20) (by decide) (by rw [q7, e1, Ab.bs]; simp only [hm, hM, Bool.not_true, cf, ct]) k1 (by unfold ofP; rw [hm, ← h.m, hM]; rfl)
  | false =>
  obtain ⟨_, l1, l2, l3, _, _, hrl⟩ := may_ok hm hf
  have h1 := h.no k1
  obtain ⟨H2, e2, k2⟩ := f23_x h1 (by omega) hf.sg
  have k12 := k1.tr k2
  cases hz : sizedP f with
  | false =>
    refine bad (e := 23) (by decide) (by rw [q7, e1, Ab.bs]; simp only [hm, hM, Bool.not_true, cf, e2, hz, Ab.bs, Bool.not_false, ct]) k12 (by unfold ofP; rw [hm, ← h.m, hM, hz]; rfl)
  | true =>
  have hszs : ∀ x ∈ f.sg, szOk x = true := by
    unfold sizedP at hz
    simp only [Bool.and_eq_true, List.all_eq_true] at hz
    exact hz.2.2.2.1
  have h2 := h1.no k2
  obtain ⟨t1, H3, e3, o3, k3, n3⟩ := f24_x h2 (by omega) 1
  have hlo : loadsP f = f.sg.filter fun s => s.kind == 1 := rfl
  have hll : (loadsP f).length ≤ 24 := Nat.le_trans (List.length_filter_le _ _) l1
  have hlm : ∀ x ∈ loadsP f, x ∈ f.sg := fun x hx => (List.mem_filter.1 hx).1
  have h3 := h2.no k3
  have e4 := f25_x o3.rs (by rw [← hlo]; omega) (fun x hx => hf.sg x (hlm x hx)) (fun x hx => ⟨(h3.sd x (hlm x hx)).slenEq, hcut x (hlm x hx)⟩)
  rw [← hlo] at e4 o3
  have k13 := k12.tr k3
  obtain ⟨c, hc⟩ : ∃ c, c = (textP (loadsP f)).1 := ⟨_, rfl⟩
  have hcm : c = z0 ∨ c ∈ loadsP f := by rw [hc]; exact tx_mem _ _ _ _
  have hcu : SgU c := by
    rcases hcm with e | e
    · rw [e]; unfold SgU u64r z0; simp
    · exact hf.sg c (hlm c e)
  have hcd : RS 1 E8 H c.sl c.data ∧ c.data.length ≤ 1000 := by
    rcases hcm with e | e
    · rw [e]; exact ⟨rfl, by simp [z0]⟩
    · exact ⟨h.sd c (hlm c e), hcut c (hlm c e)⟩
  rw [← hc] at e4
  cases ht : (textP (loadsP f)).2 with
  | false =>
    refine bad (e := 21) (by decide) (by rw [q7, e1, Ab.bs]; simp only [hm, hM, Bool.not_true, cf, e2, hz, Ab.bs, e3, e4, ht, Bool.not_false, ct]) k13 (by unfold ofP; rw [hm, ← h.m, hM, hz, ht]; rfl)
  | true =>
  rw [ht] at e4
  -- the block
  have b0 : (H3 ++ [Blk.row [Cell.int IntKind.i64 0, Cell.int IntKind.i64 0, Cell.int IntKind.u64 0, Cell.int IntKind.u64 0, Cell.slice none, Cell.slice none, Cell.slice none, Cell.int IntKind.u64 0, Cell.slice none, Cell.slice none] false])[H3.length]? = _ := push_get _ _
  have p4 : (H3 ++ [Blk.row [Cell.int IntKind.i64 0, Cell.int IntKind.i64 0, Cell.int IntKind.u64 0, Cell.int IntKind.u64 0, Cell.slice none, Cell.slice none, Cell.slice none, Cell.int IntKind.u64 0, Cell.slice none, Cell.slice none] false]).put H3.length 0 [Cell.int IntKind.i64 c.kind, Cell.int IntKind.i64 c.flags, Cell.int IntKind.u64 c.addr, Cell.int IntKind.u64 c.size, Cell.slice c.sl, Cell.slice none, Cell.slice none, Cell.int IntKind.u64 s.E, Cell.slice none, Cell.slice none] = some ((H3 ++ [Blk.row [Cell.int IntKind.i64 0, Cell.int IntKind.i64 0, Cell.int IntKind.u64 0, Cell.int IntKind.u64 0, Cell.slice none, Cell.slice none, Cell.slice none, Cell.int IntKind.u64 0, Cell.slice none, Cell.slice none] false]).set H3.length (ibRow c none none s.E none none)) := by
    rw [put_of b0 (by simp)]; rfl
  have r4 : ((H3 ++ [Blk.row [Cell.int IntKind.i64 0, Cell.int IntKind.i64 0, Cell.int IntKind.u64 0, Cell.int IntKind.u64 0, Cell.slice none, Cell.slice none, Cell.slice none, Cell.int IntKind.u64 0, Cell.slice none, Cell.slice none] false]).set H3.length (ibRow c none none s.E none none))[H3.length]? = some (ibRow c none none s.E none none) := set_get' (lt_of b0)
  have k4 : Kp No H3 ((H3 ++ [Blk.row [Cell.int IntKind.i64 0, Cell.int IntKind.i64 0, Cell.int IntKind.u64 0, Cell.int IntKind.u64 0, Cell.slice none, Cell.slice none, Cell.slice none, Cell.int IntKind.u64 0, Cell.slice none, Cell.slice none] false]).set H3.length (ibRow c none none s.E none none)) := (Kp.push1 _ _).trSet (Kp.set _ _ _) (Nat.le_refl _)
  obtain ⟨id, hid⟩ : ∃ id, id = H3.length := ⟨_, rfl⟩
  rw [← hid] at p4 r4 k4
  generalize hH4 : (H3 ++ [Blk.row [Cell.int IntKind.i64 0, Cell.int IntKind.i64 0, Cell.int IntKind.u64 0, Cell.int IntKind.u64 0, Cell.slice none, Cell.slice none, Cell.slice none, Cell.int IntKind.u64 0, Cell.slice none, Cell.slice none] false]).set id (ibRow c none none s.E none none) = H4 at p4 r4 k4
  have k14 := k13.tr k4
  have hid0 : H.length ≤ id := by have := k13.len; omega
  obtain ⟨st, H5, k5, rst⟩ := f26_x (h3.no k4) (by omega) hf.sg hszs
  have r5 := k5.bk r4
  have k15 := k14.tr k5
  have pre : ∀ {R : Option ((Int × Int × Int × Int × Option Sl × Option Sl × Option Sl × Int × Option Sl × Option Sl × Int) × Heap)}, True := fun {_} => trivial
  cases hst : stP f.sg 0 f.sg with
  | none =>
    rw [hst] at rst
    have p6 := ib_put6 r5 none
    refine bad (e := 25) (by decide) (G := H5.set id (ibRow c none none s.E none none)) ?_ (k15.trSet (Kp.set _ _ _) hid0) (by unfold ofP; rw [hm, ← h.m, hM, hz, ht, hst]; rfl)
    rw [q7, e1, Ab.bs]
    simp only [hm, hM, Bool.not_true, cf, e2, hz, Ab.bs, e3, e4, Bool.not_false, ct, ← hid, p4, rst, p6]
  | some ar =>
  rw [hst] at rst
  obtain ⟨e5, o5, n5⟩ := rst
  have p6 := ib_put6 r5 st
  have r6 : (H5.set id (ibRow c none st s.E none none))[id]? = some (ibRow c none st s.E none none) := set_get' (lt_of r5)
  have kq6 : Kp (One id) H5 (H5.set id (ibRow c none st s.E none none)) := Kp.set _ _ _
  generalize H5.set id (ibRow c none st s.E none none) = H6 at p6 r6 kq6
  have k16 : Kp No H H6 := k15.trSet kq6 hid0
  obtain ⟨d0, d1, d2, d3, d4, d5, d6, d7, d8, d9⟩ := ib_getL r6
  have hEu : u64r s.E := by rw [h.e]; exact hf.e
  have e7 := f19_x hcu hEu none st s.E none none H6
  cases hh : hasP c f.E 1 with
  | false =>
    refine bad (e := 7) (by decide) (G := H6) ?_ k16 (by unfold ofP; rw [hm, ← h.m, hM, hz, ht, hst]; simp only [← hc, hh]; rfl)
    have e7' : f19 c.kind c.flags c.addr c.size c.sl none st s.E none none s.E H6 = some (false, H6) := by rw [e7, h.e, hh]
    rw [q7, e1, Ab.bs]
    simp only [hm, hM, Bool.not_true, cf, e2, hz, Ab.bs, e3, e4, Bool.not_false, ct, ← hid, p4, e5, p6, d0, d1, d2, d3, d4, d5, d6, d7, d8, d9, tInt, tSlice, e7']
  | true =>
  have ht1 : ∀ q, t1 = some q → q.id ≠ id ∧ H.length ≤ q.id ∧ q.id < H3.length := fun q e => by
    have := n3 q e; subst e; have := o3.lt; have := k12.len
    exact ⟨by omega, by omega, by omega⟩
  have o6 : OS 5 ESg H6 t1 (loadsP f) := ((o3.no k4).no k5).kp kq6 fun q e g => (ht1 q e).1 g
  obtain ⟨t2, H7, e8, o7, k7, i7⟩ := f27b_x o6 (by omega)
  have ht2 : ∀ q, t2 = some q → q.id ≠ id ∧ H.length ≤ q.id ∧ q.id < H3.length := fun q e => by
    obtain ⟨p, e1, e2⟩ := i7 q e
    rw [e2]; exact ht1 p e1
  have r7 := k7.at r6 (by rintro ⟨q, e, e2⟩; exact (ht1 q e).1 e2.symm)
  have p8 := ib_put5 r7 t2
  have r8 : (H7.set id (ibRow c t2 st s.E none none))[id]? = some (ibRow c t2 st s.E none none) := set_get' (lt_of r7)
  have kq8 : Kp (One id) H7 (H7.set id (ibRow c t2 st s.E none none)) := Kp.set _ _ _
  generalize H7.set id (ibRow c t2 st s.E none none) = H8 at p8 r8 kq8
  have o8 := o7.kp kq8 fun q e g => (ht2 q e).1 g
  obtain ⟨H9, e9, o9, k9⟩ := f29_x o8 (by have := List.length_filter_le (fun s => !isX s) (loadsP f)
                                          have hz' := hz
                                          unfold sizedP at hz'
                                          simp only [Bool.and_eq_true, decide_eq_true_eq] at hz'
                                          have := hz'.1
                                          rw [← hlo] at this; omega)
  have r9 := k9.at r8 (by rintro ⟨q, e, e2⟩; exact (ht2 q e).1 e2.symm)
  have K79 : Kp (fun i => H.length ≤ i) H6 H9 := ((k7.mono (D := fun i => H.length ≤ i) fun i _ ⟨q, e, e2⟩ => by show H.length ≤ i; rw [e2]; exact (ht1 q e).2.1).trans (kq8.mono (D := fun i => H.length ≤ i) fun i _ e => by have : i = id := e; show H.length ≤ i; omega) (fun _ h => h) fun _ _ h => h).trans (k9.mono (D := fun i => H.length ≤ i) fun i _ ⟨q, e, e2⟩ => by show H.length ≤ i; rw [e2]; exact (ht2 q e).2.1) (fun _ h => h) fun _ _ h => h
  have k19 : Kp No H H9 := k16.tr' K79
  have hmd : ∀ x ∈ sortP ((loadsP f).filter fun s => !isX s), x ∈ f.sg := fun x hx => by
    rcases mem_ins_fold _ _ hx with h | h
    · cases h
    · exact hlm x (List.mem_filter.1 h).1
  have hsl9 : (sortP ((loadsP f).filter fun s => !isX s)).length < 1000 := by
    have : ∀ (l m : List Sg), (l.foldl (fun m s => ins s m) m).length = m.length + l.length := fun l => by
      induction l with
      | nil => intro m; rfl
      | cons s l ih =>
        intro m
        rw [List.foldl_cons, ih]
        have : ∀ m : List Sg, (ins s m).length = m.length + 1 := fun m => by
          induction m with
          | nil => rfl
          | cons y l ih => unfold ins; split <;> simp [ih]
        rw [this]; simp; omega
    unfold sortP
    rw [this]
    have := List.length_filter_le (fun s => !isX s) (loadsP f)
    simp; omega
  obtain ⟨n10, hn10⟩ := LL7_18_of (sortP ((loadsP f).filter fun s => !isX s)).length (by omega) id ((sortP ((loadsP f).filter fun s => !isX s)).length : Int) 0 s.M s.E s.sg s.sy s.rl 0 0 0 0 none none none 0 none none H9
  obtain ⟨A, H10, e10, k10, r10, o10, m10, a10, f10', l10⟩ := loop7 t2 hid0 (fun q e => ⟨(ht2 q e).1, (ht2 q e).2.1⟩) s.M s.E s.sg s.sy s.rl 0 0 0 0 none none none 0 none none (sortP ((loadsP f).filter fun s => !isX s)) n10 [] H9 k19 r9 o9 hsl9 (fun _ h => by cases h) (fun x hx => ⟨h.sd x (hmd x hx), hcut x (hmd x hx)⟩)
  obtain ⟨t11, H11, e11, o11, k11, n11⟩ := f32_x' (hcd.1.no k10) (by omega)
  have r11 := k11.bk r10
  have p12 := ib_put4 r11 t11
  have r12 : (H11.set id (ibRow { c with sl := t11 } t2 st s.E none none))[id]? = some (ibRow { c with sl := t11 } t2 st s.E none none) := set_get' (lt_of r11)
  have kq12 : Kp (One id) H11 (H11.set id (ibRow { c with sl := t11 } t2 st s.E none none)) := Kp.set _ _ _
  generalize H11.set id (ibRow { c with sl := t11 } t2 st s.E none none) = H12 at p12 r12 kq12
  have k1_12 : Kp No H H12 := (k10.tr k11).trSet kq12 hid0
  have hcu' : SgU { c with sl := t11 } := hcu
  have mk : MK H H12 id { c with sl := t11 } t2 st s.E none none [] [] := ⟨k1_12, hid0, r12, rfl, rfl, (fun _ e => nomatch e), (fun _ e => nomatch e), (fun _ _ e => nomatch e)⟩
  obtain ⟨fu, tk, H13, k13', k113, r13⟩ := f33_x h hcu' (by omega) (by omega) (by omega) hf.sg (fun x hx => (hf.sy x hx).1) hcut (fun r hr => ⟨(hrl r hr).s, hf.rl r hr⟩) mk
  have htp : takenP f { c with sl := t11 } f.rl = takenP f c f.rl := by
    have : ∀ l : List Rl, takenP f { c with sl := t11 } l = takenP f c l := fun l => by
      induction l with
      | nil => rfl
      | cons r l ih => unfold takenP; rw [ih]; rfl
    exact this _
  have hfp : funcsP { c with sl := t11 } f.sy = funcsP c f.sy := by
    have : ∀ l : List Sy, funcsP { c with sl := t11 } l = funcsP c l := fun l => by
      induction l with
      | nil => rfl
      | cons r l ih => unfold funcsP; rw [ih]; rfl
    exact this _
  have q0 : f7 s.M s.E s.sg s.sy s.rl H = (f33 (some (id, 0)) s.M s.E s.sg s.sy s.rl H12).bind fun v67 => bif !v67.fst then some ((0, 0, 0, 0, none, none, none, 0, none, none, 20), v67.snd) else (v67.snd.get id 0).bind fun v66 => (v67.snd.get id 1).bind fun v65 => (v67.snd.get id 2).bind fun v64 => (v67.snd.get id 3).bind fun v63 => (v67.snd.get id 4).bind fun v62 => (v67.snd.get id 5).bind fun v61 => (v67.snd.get id 6).bind fun v60 => (v67.snd.get id 7).bind fun v59 => (v67.snd.get id 8).bind fun v58 => (v67.snd.get id 9).bind fun v57 => (Cell.toInt IntKind.i64 v66).bind fun v56 => (Cell.toInt IntKind.i64 v65).bind fun v55 => (Cell.toInt IntKind.u64 v64).bind fun v54 => (Cell.toInt IntKind.u64 v63).bind fun v53 => v62.toSlice.bind fun v52 => v61.toSlice.bind fun v51 => v60.toSlice.bind fun v50 => (Cell.toInt IntKind.u64 v59).bind fun v49 => v58.toSlice.bind fun v48 => v57.toSlice.bind fun v47 => some ((v56, v55, v54, v53, v52, v51, v50, v49, v48, v47, 0), v67.snd) := by
    obtain ⟨g0, g1, g2, g3, g4, g5, g6, g7, g8, g9⟩ := ib_getL r8
    obtain ⟨j0, j1, j2, j3, j4, j5, j6, j7, j8, j9⟩ := ib_getL r9
    obtain ⟨w0, w1, w2, w3, w4, w5, w6, w7, w8, w9⟩ := ib_getL r10
    have e7' : f19 c.kind c.flags c.addr c.size c.sl none st s.E none none s.E H6 = some (true, H6) := by rw [e7, h.e, hh]
    have e10' : D7_18 (n10 + (sortP ((loadsP f).filter fun s => !isX s)).length + 1) id ((sortP ((loadsP f).filter fun s => !isX s)).length : Int) 0 s.M s.E s.sg s.sy s.rl 0 0 0 0 none none none 0 none none H9 = _ := e10
    rw [q7, e1, Ab.bs]
    simp only [hm, hM, Bool.not_true, cf, e2, hz, Ab.bs, e3, e4, Bool.not_false, ct, ← hid, p4, e5, p6, d0, d1, d2, d3, d4, d5, d6, d7, d8, d9, tInt, tSlice, e7', e8, p8, g5, e9, j5, o9.rs.slenEq, hn10, e10', J7_18_0, w4, e11, p12]
  cases hta : takenP f c f.rl with
  | none =>
    rw [htp, hta] at r13
    refine bad (e := 20) (by decide) (G := H13) ?_ k113 (by unfold ofP; rw [hm, ← h.m, hM, hz, ht, hst]; simp only [← hc, hh, hta]; rfl)
    rw [q0, r13, Ab.bs]; rfl
  | some l =>
    rw [htp, hta] at r13
    obtain ⟨e13, m13⟩ := r13
    rw [hfp] at m13
    obtain ⟨g0, g1, g2, g3, g4, g5, g6, g7, g8, g9⟩ := ib_getL m13.row
    have ho : ofP f = (0, ⟨c, sortP ((loadsP f).filter fun s => !isX s), ar, f.E, risingP (funcsP c f.sy), risingP l⟩) := by
      unfold ofP; rw [hm, ← h.m, hM, hz, ht, hst]; simp only [← hc, hh, hta]; rfl
    refine ⟨c.kind, c.flags, c.addr, c.size, t11, t2, st, s.E, fu, tk, H13, ?_, k113, fun _ => ?_, fun h0 => absurd (by rw [ho]) h0⟩
    · rw [q0, e13, Ab.bs]
      simp only [Bool.not_true, cf, Ab.bs, g0, g1, g2, g3, g4, g5, g6, g7, g8, g9, tInt, tSlice, ho]
    · rw [ho]
      have kl : ∀ i, i < H10.length → i ≠ id → H13[i]? = H10[i]? := fun i hi hne => by
        rw [k13'.same i (by have := k11.len; have := kq12.len; omega) hne, kq12.same i (by have := k11.len; omega) hne, k11.same i hi fun h => h]
      have K10 : Kp (One id) H10 H13 := ⟨by have := k11.len; have := kq12.len; have := k13'.len; omega, fun i hi hne => kl i hi hne⟩
      have o5' : OS 3 EAr H6 st ar := o5.kp kq6 fun q e g => by have := n5 q e; have := k4.len; have g' : q.id = id := g; have := lt_of r4; omega
      have hsti : ∀ q, st = some q → q.id ≠ id ∧ ¬ q.id < H3.length := fun q e => by have := n5 q e; have := k4.len; have := lt_of r4; exact ⟨by omega, by omega⟩
      have o9' : OS 3 EAr H9 st ar := ((o5'.kp k7 fun q e ⟨p, e1, e2⟩ => (hsti q e).2 (by rw [e2]; exact (ht1 p e1).2.2)).kp kq8 fun q e g => (hsti q e).1 g).kp k9 fun q e ⟨p, e1, e2⟩ => (hsti q e).2 (by rw [e2]; exact (ht2 p e1).2.2)
      have o10' : OS 3 EAr H10 st ar := by
        have K : Kp (Of t2) H9 H10 := ⟨l10, fun i hi hne => f10' i hi fun p e g => hne ⟨p, e, g⟩⟩
        exact o9'.kp K fun q e ⟨p, e1, e2⟩ => (hsti q e).2 (by rw [e2]; exact (ht2 p e1).2.2)
      refine ⟨rfl, rfl, rfl, rfl, ?_, ⟨A, ?_, ?_, ?_⟩, ?_, h.e, m13.ofu.rs, m13.otk.rs⟩
      · have : OS 1 E8 H13 t11 c.data := (o11.kp kq12 fun q e g => by have := n11 q e; have g' : q.id = id := g; have := lt_of r10; omega).kp k13' fun q e g => by have := n11 q e; have g' : q.id = id := g; have := lt_of r10; omega
        exact this.rs
      · exact (o10.kp K10 fun q e g => (ht2 q e).1 g).rs
      · simpa using m10
      · intro x hx
        obtain ⟨x1, x2⟩ := a10 x hx
        exact (x1.kp K10 fun q e g => (x2 q e).1 g).rs
      · exact (o10'.kp K10 fun q e g => (hsti q e).1 g).rs
end
end Go.Proofs.Ytnjdajcgcnjamaa
