/- Layer 3: a file is read. -/
import Derived.Test.YtmjmhipfkbedaaaEuA
import Derived.Test.YtmjmhipfkbedaaaEl3c
namespace Go.Proofs.Ytmjmhipfkbedaaa
open Go Go.Proofs.Ytmjmhipfkbedaaa.Ab
set_option linter.unusedVariables false
set_option linter.unusedSimpArgs false
set_option maxRecDepth 100000
noncomputable section
/-- A number stands in its place; some bytes do. -/
def Rdn (b : List UInt8) (off w v : Nat) : Prop := off + w ≤ b.length ∧ numB ((b.drop off).take w) = v
def Cutn (b : List UInt8) (off : Nat) (l : List UInt8) : Prop := off + l.length ≤ b.length ∧ (b.drop off).take l.length = l
theorem cutn_of {b : List UInt8} (pre l post : List UInt8) (h : b = pre ++ (l ++ post)) : Cutn b pre.length l := by
  subst h
  refine ⟨by simp, ?_⟩
  rw [List.drop_left, List.take_left]
theorem Cutn.at {b : List UInt8} {off : Nat} {l : List UInt8} (h : Cutn b off l) (pre m post : List UInt8) (e : l = pre ++ (m ++ post)) : Cutn b (off + pre.length) m := by
  subst e
  obtain ⟨h1, h2⟩ := h
  simp only [List.length_append] at h1 h2
  refine ⟨by omega, ?_⟩
  have := congrArg (fun x => (x.drop pre.length).take m.length) h2
  simp only [List.drop_left, List.take_left] at this
  rw [List.drop_take, List.drop_drop, List.take_take] at this
  rw [Nat.min_eq_left (by omega)] at this
  exact this
theorem Cutn.num {b : List UInt8} {off w v : Nat} (h : Cutn b off (leB w v)) (hv : v < 256 ^ w) : Rdn b off w v := by
  obtain ⟨h1, h2⟩ := h
  rw [leB_length] at h1 h2
  exact ⟨h1, by rw [h2, num_leB, Nat.mod_eq_of_lt hv]⟩
theorem flat_split (w : Nat) : ∀ (vs : List Nat) (i : Nat) (v : Nat), vs[i]? = some v → ∃ pre post, vs.flatMap (leB w) = pre ++ (leB w v ++ post) ∧ pre.length = w * i
  | [], i, v, h => by simp at h
  | x :: vs, 0, v, h => by simp at h; subst h; exact ⟨[], vs.flatMap (leB w), by simp, by simp⟩
  | x :: vs, i + 1, v, h => by
    obtain ⟨pre, post, h1, h2⟩ := flat_split w vs i v (by simpa using h)
    refine ⟨leB w x ++ pre, post, by rw [List.flatMap_cons, h1, List.append_assoc], ?_⟩
    rw [List.length_append, leB_length, h2, Nat.mul_succ]; omega
theorem Cutn.list {b : List UInt8} {off w : Nat} {vs : List Nat} (h : Cutn b off (vs.flatMap (leB w))) {i v : Nat} (hi : vs[i]? = some v) (hv : v < 256 ^ w) : Rdn b (off + w * i) w v := by
  obtain ⟨pre, post, h1, h2⟩ := flat_split w vs i v hi
  rw [← h2]
  exact (h.at pre _ post h1).num hv
/-- The reader. -/
def rrow (r : Nat) (M E : Int) (sg sy rl : Option Sl) (sc : Option Sl) : Blk := .row [.ptr (some (r, 0)), .int .i64 M, .int .u64 E, .slice sg, .slice sy, .slice rl, .bool true, .slice sc] false
def AnyB : Nat → Prop := fun _ => True
structure RW (H0 H : Heap) (rd rid : Nat) (b : List UInt8) (M E : Int) (sg sy rl sc : Option Sl) : Prop where
  hd : H[rd]? = some (rrow rid M E sg sy rl sc)
  rp : RP AnyB H rid b
  ne : ∀ sl, H[rid]? = some (.row [.slice (some sl)] false) → sl.id ≠ rd
  nr : rid ≠ rd
  k : Kp No H0 H
  r0 : H0.length ≤ rd
  bl : b.length ≤ 1048576
theorem RW.no {H0 H H' : Heap} {rd rid : Nat} {b : List UInt8} {M E : Int} {sg sy rl sc : Option Sl} (h : RW H0 H rd rid b M E sg sy rl sc) (k : Kp No H H') : RW H0 H' rd rid b M E sg sy rl sc := by
  refine ⟨k.bk h.hd, rp_kp h.rp k, fun sl e => ?_, h.nr, h.k.tr k, h.r0, h.bl⟩
  obtain ⟨s, h1, _⟩ := h.rp
  rw [k.bk h1] at e
  cases e
  exact h.ne sl h1
section
variable {H0 H : Heap} {rd rid : Nat} {b : List UInt8} {M E : Int} {sg sy rl sc : Option Sl}
theorem RW.g (h : RW H0 H rd rid b M E sg sy rl sc) :
    H.get rd 0 = some (.ptr (some (rid, 0))) ∧ H.get rd 1 = some (.int .i64 M) ∧ H.get rd 2 = some (.int .u64 E) ∧ H.get rd 3 = some (.slice sg) ∧ H.get rd 4 = some (.slice sy) ∧ H.get rd 5 = some (.slice rl) ∧ H.get rd 6 = some (.bool true) ∧ H.get rd 7 = some (.slice sc) := by
  refine ⟨?_, ?_, ?_, ?_, ?_, ?_, ?_, ?_⟩ <;> (rw [get_of h.hd]; rfl)
/-- A field of the reader is written. -/
theorem RW.put (h : RW H0 H rd rid b M E sg sy rl sc) (j : Nat) (c : Cell) (M' E' : Int) (sg' sy' rl' sc' : Option Sl) (hj : j < 8)
    (hs : splice [.ptr (some (rid, 0)), .int .i64 M, .int .u64 E, .slice sg, .slice sy, .slice rl, .bool true, .slice sc] j [c] = [.ptr (some (rid, 0)), .int .i64 M', .int .u64 E', .slice sg', .slice sy', .slice rl', .bool true, .slice sc']) :
    ∃ H', H.put rd j [c] = some H' ∧ RW H0 H' rd rid b M' E' sg' sy' rl' sc' ∧ Kp (Ab.One rd) H H' ∧ H'.length = H.length := by
  refine ⟨_, put_of h.hd (by simp; omega), ?_, Kp.set _ _ _, by simp⟩
  have kW : Kp (Ab.One rd) H (H.set rd (rrow rid M' E' sg' sy' rl' sc')) := Kp.set _ _ _
  rw [hs]
  have hne := h.ne
  obtain ⟨s, h1, h2, h3, h4, h5⟩ := h.rp
  have h1' : (H.set rd (rrow rid M' E' sg' sy' rl' sc'))[rid]? = some (.row [.slice s] false) := kW.at h1 h.nr
  refine ⟨set_get' (lt_of h.hd), ⟨s, h1', h2.kp kW (fun sl e x => ?_), h3, h4, h5⟩, fun sl e => ?_, h.nr, h.k.trSet kW h.r0, h.r0, h.bl⟩
  · subst e; exact hne sl h1 x
  · rw [show (H.set rd (Blk.row [.ptr (some (rid, 0)), .int .i64 M', .int .u64 E', .slice sg', .slice sy', .slice rl', .bool true, .slice sc'] false))[rid]? = some (.row [.slice s] false) from h1'] at e
    cases e; exact hne sl h1
theorem f66_x (h : RW H0 H rd rid b M E sg sy rl sc) (off w v : Nat) (x1 wi : Int) (hx : x1 = (off : Int)) (hwi : wi = (w : Int)) (hw : bits_Is (w : Int) = true) (hr : Rdn b off w v) : f66 (some (rd, 0)) x1 wi H = some ((v : Int), H) := by
  subst hx; subst hwi
  obtain ⟨r1, r2⟩ := hr
  obtain ⟨g0, _⟩ := h.g
  have hb := h.bl
  have hx : IntKind.i64.wrap (off : Int) = (off : Int) := wrap_i64 (by omega) (by omega)
  rw [q66, show decide ((off : Int) > 1048576) = false by simp; omega, cf]
  have e := f81_spec h.rp hb off w hw r1
  rw [r2] at e
  simp only [Ab.bs, za, g0, tPtr, hx, e, show ((0 : Int) != 0) = false from rfl, cf]
theorem f65_x (h : RW H0 H rd rid b M E sg sy rl sc) (off w v : Nat) (x1 wi vi : Int) (hx : x1 = (off : Int)) (hwi : wi = (w : Int)) (hvi : vi = (v : Int)) (hw : bits_Is (w : Int) = true) (hr : Rdn b off w v) : f65 (some (rd, 0)) x1 wi vi H = some ((), H) := by
  subst hvi
  rw [q65, f66_x h off w v x1 wi hx hwi hw hr, Ab.bs]
  simp only [bne_self_eq_false, cf]
theorem f63_x (h : RW H0 H rd rid b M E sg sy rl sc) (off : Nat) (l : List UInt8) (x1 ni : Int) (hx : x1 = (off : Int)) (hn : ni = (l.length : Int)) (hr : Cutn b off l) :
    ∃ s' H', f63 (some (rd, 0)) x1 ni H = some (s', H') ∧ OS 1 E8 H' s' l ∧ Kp No H H' ∧ New H.length s' := by
  subst hx; subst hn
  obtain ⟨r1, r2⟩ := hr
  obtain ⟨g0, _⟩ := h.g
  have hb := h.bl
  have hx : IntKind.i64.wrap (off : Int) = (off : Int) := wrap_i64 (by omega) (by omega)
  have hy : IntKind.i64.wrap (l.length : Int) = (l.length : Int) := wrap_i64 (by omega) (by omega)
  obtain ⟨s', H', e1, e2, e3, e4⟩ := f80_spec h.rp hb off l.length r1
  rw [r2] at e2
  refine ⟨s', H', ?_, e2, e3, e4⟩
  rw [q63, show decide ((off : Int) > 1048576) = false by simp; omega, cf, show decide ((l.length : Int) > 1048576) = false by simp; omega, cf]
  simp only [Ab.bs, za, g0, tPtr, hx, hy, e1, show ((0 : Int) != 0) = false from rfl, cf]
theorem f67_x (h : RW H0 H rd rid b M E sg sy rl sc) (off many row most' : Nat) (x1 mi ri li : Int) (l : List UInt8) (hx : x1 = (off : Int)) (hm : mi = (many : Int)) (hri : ri = (row : Int)) (hli : li = (most' : Int)) (hle : many ≤ most') (hl : l.length = many * row) (hbig : many * row ≤ 1048576) (hmb : many ≤ 1048576) (hr : Cutn b off l) :
    ∃ H', f67 (some (rd, 0)) x1 mi ri li H = some (((off : Int), (many : Int)), H') ∧ Kp No H H' := by
  subst hx; subst hm; subst hri; subst hli
  have hb := h.bl
  have hw : IntKind.u64.wrap ((many : Int) * (row : Int)) = (l.length : Int) := by
    rw [wrap_u64, ← Int.natCast_mul, hl]; omega
  obtain ⟨s', H', e1, e2, e3, e4⟩ := f63_x h off l (off : Int) (l.length : Int) rfl rfl hr
  obtain ⟨_, _, _, _, _, _, g6, _⟩ := (h.no e3).g
  refine ⟨H', ?_, e3⟩
  rw [q67, show decide ((many : Int) > (most' : Int)) = false by simp; omega, cf, hw, e1, Ab.bs]
  have hm2 : IntKind.i64.wrap (many : Int) = (many : Int) := wrap_i64 (by omega) (by omega)
  simp only [Ab.bs, za, g6, tBool, Bool.not_true, cf, hm2]
/-- The head. -/
theorem f39_x (h : RW H0 H rd rid b 0 0 none none none none) (Mn En : Nat) (hM : Mn < 65536) (hE : En < 18446744073709551616) (c0 : Cutn b 0 (magic ++ zs 9)) (c16 : Rdn b 16 2 2) (c18 : Rdn b 18 2 Mn) (c20 : Rdn b 20 4 1) (c24 : Rdn b 24 8 En) (c52 : Rdn b 52 2 64) (c54 : Rdn b 54 2 56) (c58 : Rdn b 58 2 64) :
    ∃ H', f39 (some (rd, 0)) H = some ((), H') ∧ RW H0 H' rd rid b (Mn : Int) (En : Int) none none none none ∧ Kp (Ab.One rd) H H' := by
  obtain ⟨s1, H1, e1, o1, k1, n1⟩ := f63_x h 0 (magic ++ zs 9) 0 16 rfl rfl c0
  have kP : Kp No H1 (H1 ++ [Blk.row ((magic ++ zs 9).flatMap E8) false]) := Kp.push1 _ _
  have h2 := h.no (k1.tr kP)
  have hs2 : RS 1 E8 (H1 ++ [Blk.row ((magic ++ zs 9).flatMap E8) false]) (some ⟨H1.length, 0, 16, 16, 1⟩) (magic ++ zs 9) := rs_new (E := E8) (magic ++ zs 9) (push_get _ _) rfl
  have hs1 := (o1.no kP).rs
  have he : f62 s1 (some ⟨H1.length, 0, 16, 16, 1⟩) (H1 ++ [Blk.row ((magic ++ zs 9).flatMap E8) false]) = some (true, H1 ++ [Blk.row ((magic ++ zs 9).flatMap E8) false]) := by
    rw [q62, hs1.str, Ab.bs, hs2.str, Ab.bs, strEq_iff]
    simp
  have he' : f62 s1 (some ⟨List.length H1, 0, 16, 16, 1⟩) (H1 ++ [Blk.row [Cell.int IntKind.u8 127, Cell.int IntKind.u8 69, Cell.int IntKind.u8 76, Cell.int IntKind.u8 70, Cell.int IntKind.u8 2, Cell.int IntKind.u8 1, Cell.int IntKind.u8 1, Cell.int IntKind.u8 0, Cell.int IntKind.u8 0, Cell.int IntKind.u8 0, Cell.int IntKind.u8 0, Cell.int IntKind.u8 0, Cell.int IntKind.u8 0, Cell.int IntKind.u8 0, Cell.int IntKind.u8 0, Cell.int IntKind.u8 0] false]) = some (true, H1 ++ [Blk.row ((magic ++ zs 9).flatMap E8) false]) := he
  have hMw : IntKind.i64.wrap (Mn : Int) = (Mn : Int) := wrap_i64 (by omega) (by omega)
  obtain ⟨H3, p3, h3, k3, _⟩ := h2.put 1 (.int .i64 (Mn : Int)) (Mn : Int) 0 none none none none (by omega) rfl
  obtain ⟨H4, p4, h4, k4, _⟩ := h3.put 2 (.int .u64 (En : Int)) (Mn : Int) (En : Int) none none none none (by omega) rfl
  refine ⟨H4, ?_, h4, ?_⟩
  · have a16 := f65_x h2 16 2 2 16 2 2 rfl rfl rfl rfl c16
    have a18 := f66_x h2 18 2 Mn 18 2 rfl rfl rfl c18
    have a20 := f65_x h3 20 4 1 20 4 1 rfl rfl rfl rfl c20
    have a24 := f66_x h3 24 8 En 24 8 rfl rfl rfl c24
    have a52 := f65_x h4 52 2 64 52 2 64 rfl rfl rfl rfl c52
    have a54 := f65_x h4 54 2 56 54 2 56 rfl rfl rfl rfl c54
    have a58 := f65_x h4 58 2 64 58 2 64 rfl rfl rfl rfl c58
    rw [q39, e1, Ab.bs]
    dsimp only
    rw [he', Ab.bs]
    simp only [Bool.not_true, cf, a16, Ab.bs, a18, az, za, show (1 : Nat) + 1 = 2 from rfl, hMw, p3, a20, a24, p4, a52, a54, a58]
  · exact ((k1.tr kP).trans k3 (fun _ h => absurd h (fun x => x)) (fun _ _ h => h)).trans k4 (fun _ h => h) fun _ _ h => h
end
structure RowRd (b : List UInt8) (off : Nat) (s : Sg) (a : Nat) : Prop where
  k : Rdn b off 4 s.kind.toNat
  f : Rdn b (off + 4) 4 s.flags.toNat
  p : Rdn b (off + 8) 8 a
  ad : Rdn b (off + 16) 8 s.addr.toNat
  n : Rdn b (off + 32) 8 s.data.length
  z : Rdn b (off + 40) 8 s.size.toNat
theorem row_rd {b : List UInt8} {off : Nat} {s : Sg} {a : Nat} (h : Cutn b off (rowB s a)) (ok : SgOk s) (ha : a < 18446744073709551616) (hd : s.data.length < 18446744073709551616) : RowRd b off s a := by
  have h8 : Cutn b (off + 8) ([a, s.addr.toNat, s.addr.toNat, s.data.length, s.size.toNat, 16].flatMap (leB 8)) := by
    have := h.at (leB 4 s.kind.toNat ++ leB 4 s.flags.toNat) ([a, s.addr.toNat, s.addr.toNat, s.data.length, s.size.toNat, 16].flatMap (leB 8)) [] (by simp [rowB])
    rwa [List.length_append, leB_length, leB_length] at this
  have hk := ok.k
  have hf := ok.f
  have ha' := ok.a
  have hn' := ok.n
  unfold u64r at ha' hn'
  refine ⟨?_, ?_, ?_, ?_, ?_, ?_⟩
  · have := h.at [] (leB 4 s.kind.toNat) (leB 4 s.flags.toNat ++ [a, s.addr.toNat, s.addr.toNat, s.data.length, s.size.toNat, 16].flatMap (leB 8)) (by simp [rowB])
    exact this.num (by show _ < 4294967296; omega)
  · have := h.at (leB 4 s.kind.toNat) (leB 4 s.flags.toNat) ([a, s.addr.toNat, s.addr.toNat, s.data.length, s.size.toNat, 16].flatMap (leB 8)) (by simp [rowB])
    rw [leB_length] at this
    exact this.num (by show _ < 4294967296; omega)
  · exact h8.list (i := 0) rfl (by show _ < 18446744073709551616; omega)
  · exact h8.list (i := 1) rfl (by show _ < 18446744073709551616; omega)
  · exact h8.list (i := 3) rfl (by show _ < 18446744073709551616; omega)
  · exact h8.list (i := 4) rfl (by show _ < 18446744073709551616; omega)
/-- A segment, wherever its bytes lie. -/
def sgCore (s : Sg) : Sg := { s with sl := none }
theorem off64 (i c : Nat) (hi : i ≤ 100) (hc : c ≤ 100) : IntKind.u64.wrap (IntKind.u64.wrap (64 + IntKind.u64.wrap (IntKind.i64.wrap (56 * (i : Int)))) + (c : Int)) = ((64 + 56 * i + c : Nat) : Int) ∧ IntKind.u64.wrap (64 + IntKind.u64.wrap (IntKind.i64.wrap (56 * (i : Int)))) = ((64 + 56 * i : Nat) : Int) := by
  have e1 : IntKind.i64.wrap (56 * (i : Int)) = 56 * (i : Int) := wrap_i64 (by omega) (by omega)
  rw [e1, wrap_u64, wrap_u64, wrap_u64]
  constructor <;> omega
theorem RW.later {H0 H1 H : Heap} {rd rid : Nat} {b : List UInt8} {M E M' E' : Int} {sg sy rl sc sg' sy' rl' sc' : Option Sl} (h : RW H0 H1 rd rid b M E sg sy rl sc) (k : Kp (Ab.One rd) H1 H) (hd : H[rd]? = some (rrow rid M' E' sg' sy' rl' sc')) : RW H0 H rd rid b M' E' sg' sy' rl' sc' := by
  have hne := h.ne
  obtain ⟨s, h1, h2, h3, h4, h5⟩ := h.rp
  have h1' : H[rid]? = some (.row [.slice s] false) := k.at h1 h.nr
  refine ⟨hd, ⟨s, h1', h2.kp k (fun sl e x => ?_), h3, h4, h5⟩, fun sl e => ?_, h.nr, h.k.trSet k h.r0, h.r0, h.bl⟩
  · subst e; exact hne sl h1 x
  · rw [h1'] at e; cases e; exact hne sl h1
/-- An element more, in a field of the reader; other old blocks stay. -/
theorem RW.add {H0 H1 H : Heap} {rd rid : Nat} {b : List UInt8} {M E : Int} {sg sy rl sc : Option Sl} {α : Type} {n by' : Nat} {Ec : α → List Cell} (hE : ∀ x, (Ec x).length = n) (hn : 0 < n) (h1 : RW H0 H1 rd rid b M E sg sy rl sc) {M' E' : Int} {sg1 sy1 rl1 sc1 : Option Sl} (hd : H[rd]? = some (rrow rid M' E' sg1 sy1 rl1 sc1)) (k : Kp (Ab.One rd) H1 H)
    (t : Option Sl) (l : List α) (ho : OS n Ec H t l) (hnw : New H1.length t) (x : α) (hb : (l.length + 1) * by' ≤ most) (j : Nat) (hj : j < 8) (sg2 sy2 rl2 sc2 : Option Sl → Option Sl)
    (hs : ∀ t', splice [.ptr (some (rid, 0)), .int .i64 M', .int .u64 E', .slice sg1, .slice sy1, .slice rl1, .bool true, .slice sc1] j [.slice t'] = [.ptr (some (rid, 0)), .int .i64 M', .int .u64 E', .slice (sg2 t'), .slice (sy2 t'), .slice (rl2 t'), .bool true, .slice (sc2 t')]) :
    ∃ t' H2 H3, (H ++ [Blk.row (Ec x) false]).append n by' t (some ⟨H.length, 0, 1, 1, n⟩) = some (t', H2) ∧ H2.put rd j [.slice t'] = some H3 ∧ H3[rd]? = some (rrow rid M' E' (sg2 t') (sy2 t') (rl2 t') (sc2 t')) ∧ Kp (Ab.One rd) H1 H3 ∧
      OS n Ec H3 t' (l ++ [x]) ∧ New H1.length t' ∧ Kp (fun i => i = rd ∨ ∃ q, t = some q ∧ i = q.id) H H3 ∧ (∀ q, t' = some q → (∃ q', t = some q' ∧ q.id = q'.id) ∨ H.length < q.id) := by
  have hrd : rd < H1.length := lt_of h1.hd
  have kP : Kp No H (H ++ [Blk.row (Ec x) false]) := Kp.push1 _ _
  have xr : RS n Ec (H ++ [Blk.row (Ec x) false]) (some ⟨H.length, 0, 1, 1, n⟩) [x] := rs_new [x] (ro := false) (by rw [push_get]; simp) rfl
  obtain ⟨t', H2, a1, a2, a3, a4⟩ := append_OS hE hn (by' := by') (ho.no kP) xr (by simpa using hb)
  have hlen : (H ++ [Blk.row (Ec x) false]).length = H.length + 1 := by simp
  have k2 : Kp (Of t) H H2 := kP.trans a3 (fun _ h => absurd h (fun x => x)) fun _ _ h => h
  have hofr : ∀ i, Of t i → H1.length ≤ i := fun i ⟨q, e5, e6⟩ => by have := hnw q e5; omega
  have hd2 := k2.at hd (fun hf => by have := hofr _ hf; omega)
  have hput := put_of (off := j) (vs := [.slice t']) hd2 (by simp; omega)
  rw [hs] at hput
  have kW : Kp (Ab.One rd) H2 (H2.set rd (rrow rid M' E' (sg2 t') (sy2 t') (rl2 t') (sc2 t'))) := Kp.set _ _ _
  have ht' : ∀ q, t' = some q → (∃ q', t = some q' ∧ q.id = q'.id) ∨ H.length < q.id := fun q e => by
    rcases a4 q e with h | h
    · exact .inl h
    · exact .inr (by omega)
  have hnew : New H1.length t' := fun q e => by
    rcases ht' q e with ⟨q', e1, e2⟩ | e1
    · have := hnw q' e1; omega
    · have := k.len; omega
  refine ⟨t', H2, _, a1, hput, set_get' (lt_of hd2), ?_, a2.kp kW (fun q e y => ?_), hnew, ?_, ht'⟩
  · exact (k.trans k2 (D := Ab.One rd) (fun _ h => h) fun i hi hf => by have := hofr i hf; omega).trans kW (fun _ h => h) fun _ _ h => h
  · have hy : q.id = rd := y
    have := hnew q e; omega
  · exact k2.trans kW (fun i ⟨q, e1, e2⟩ => .inr ⟨q, e1, e2⟩) fun i _ h => .inl h
theorem loop40 {H0 H1 : Heap} {rd rid : Nat} {b : List UInt8} {M E : Int} {sy rl sc : Option Sl} (h1 : RW H0 H1 rd rid b M E none sy rl sc) (l : List Sg) (hl : l.length ≤ 24) (hok : ∀ s ∈ l, SgOk s) (hkd : ∀ s ∈ l, s.kind = 1 ∨ s.kind = 1610612737) (hR : ∀ (i : Nat) s, l[i]? = some s → ∃ a, Cutn b (64 + 56 * i) (rowB s a) ∧ Cutn b a s.data) :
    ∀ (m n i : Nat) (l' : List Sg) (sg : Option Sl) (H : Heap), i + m = l.length → H[rd]? = some (rrow rid M E sg sy rl sc) → Kp (Ab.One rd) H1 H → OS 5 ESg H sg l' → New H1.length sg → l'.map sgCore = (l.take i).map sgCore →
    (∀ x ∈ l', RS 1 E8 H x.sl x.data ∧ ∀ sl, x.sl = some sl → (H1.length ≤ sl.id ∧ sl.id < H.length) ∧ ∀ q, sg = some q → sl.id ≠ q.id) →
    ∃ l'' sg' H', (D40_2 (n + m + 1) (some (rd, 0)) 64 (l.length : Int) (i : Int) H).bind J40_2 = some ((), H') ∧ H'[rd]? = some (rrow rid M E sg' sy rl sc) ∧ Kp (Ab.One rd) H1 H' ∧ OS 5 ESg H' sg' l'' ∧ New H1.length sg' ∧ l''.map sgCore = l.map sgCore ∧ (∀ x ∈ l'', RS 1 E8 H' x.sl x.data ∧ ∀ sl, x.sl = some sl → H1.length ≤ sl.id)
  | 0, n, i, l', sg, H, hm, h, k, ho, hn, hc, hd => by
    have g : decide ((i : Int) < (l.length : Int)) = false := by simp; omega
    rw [List.take_of_length_le (by omega)] at hc
    exact ⟨l', sg, H, by rw [D40_2_s, g, cf, Ab.bs, J40_2_0], h, k, ho, hn, hc, fun x hx => ⟨(hd x hx).1, fun sl e => ((hd x hx).2 sl e).1.1⟩⟩
  | m + 1, n, i, l', sg, H, hm, hrow, k, ho, hn, hc, hd => by
    have g : decide ((i : Int) < (l.length : Int)) = true := by simp; omega
    have hi : i < l.length := by omega
    have h := h1.later k hrow
    have hmem := List.getElem_mem hi
    have hii := List.getElem?_eq_getElem hi
    generalize hs : l[i] = s at hmem hii
    have ok := hok _ hmem
    obtain ⟨a, r1, r2⟩ := hR i _ hii
    have hkk := hkd s hmem
    have hb := h.bl
    have rr := row_rd r1 ok (by have := r2.1; omega) (by have := r2.1; omega)
    have o0 := (off64 i 0 (by omega) (by omega)).2
    have o4 : IntKind.u64.wrap (IntKind.u64.wrap (64 + IntKind.u64.wrap (IntKind.i64.wrap (56 * (i : Int)))) + 4) = ((64 + 56 * i + 4 : Nat) : Int) := (off64 i 4 (by omega) (by omega)).1
    have o8 : IntKind.u64.wrap (IntKind.u64.wrap (64 + IntKind.u64.wrap (IntKind.i64.wrap (56 * (i : Int)))) + 8) = ((64 + 56 * i + 8 : Nat) : Int) := (off64 i 8 (by omega) (by omega)).1
    have o16 : IntKind.u64.wrap (IntKind.u64.wrap (64 + IntKind.u64.wrap (IntKind.i64.wrap (56 * (i : Int)))) + 16) = ((64 + 56 * i + 16 : Nat) : Int) := (off64 i 16 (by omega) (by omega)).1
    have o32 : IntKind.u64.wrap (IntKind.u64.wrap (64 + IntKind.u64.wrap (IntKind.i64.wrap (56 * (i : Int)))) + 32) = ((64 + 56 * i + 32 : Nat) : Int) := (off64 i 32 (by omega) (by omega)).1
    have o40 : IntKind.u64.wrap (IntKind.u64.wrap (64 + IntKind.u64.wrap (IntKind.i64.wrap (56 * (i : Int)))) + 40) = ((64 + 56 * i + 40 : Nat) : Int) := (off64 i 40 (by omega) (by omega)).1
    have n0 := f66_x h _ 4 _ _ 4 o0 rfl rfl rr.k
    have n4 := f66_x h _ 4 _ _ 4 o4 rfl rfl rr.f
    have n8 := f66_x h _ 8 _ _ 8 o8 rfl rfl rr.p
    have n16 := f66_x h _ 8 _ _ 8 o16 rfl rfl rr.ad
    have n32 := f66_x h _ 8 _ _ 8 o32 rfl rfl rr.n
    have n40 := f66_x h _ 8 _ _ 8 o40 rfl rfl rr.z
    obtain ⟨d, H2, e1, e2, e3, e4⟩ := f63_x h a s.data (a : Int) (s.data.length : Int) rfl rfl r2
    obtain ⟨_, _, _, g3, _⟩ := (h.no e3).g
    have hkw : IntKind.i64.wrap ((s.kind.toNat : Nat) : Int) = s.kind := by have := ok.k; rw [wrap_i64 (by omega) (by omega)]; omega
    have hfw : IntKind.i64.wrap ((s.flags.toNat : Nat) : Int) = s.flags := by have := ok.f; rw [wrap_i64 (by omega) (by omega)]; omega
    have hll : l'.length = i := by
      have := congrArg List.length hc
      simp only [List.length_map, List.length_take] at this; omega
    obtain ⟨sg2, H3, H4, a1, a2, a3, a4, a5, a6, a7, a8⟩ := RW.add (by' := 56) ESg_len (by omega) h1 (e3.bk hrow) (k.trans e3 (fun _ h => h) fun _ _ h => absurd h (fun x => x)) sg l' (ho.no e3) hn { s with sl := d } (by simp [most]; omega) 3 (by omega) (fun t => t) (fun _ => sy) (fun _ => rl) (fun _ => sc) (fun t => rfl)
    have hsgl : ∀ q, sg = some q → q.id < H.length := fun q e => by subst e; exact ho.lt
    have hrd : rd < H1.length := lt_of h1.hd
    have hk2 := e3.len
    have hdl : ∀ sl, d = some sl → sl.id < H2.length := fun sl e => by subst e; exact e2.lt
    have hd3 : ∀ x ∈ l' ++ [{ s with sl := d }], RS 1 E8 H4 x.sl x.data ∧ ∀ sl, x.sl = some sl → (H1.length ≤ sl.id ∧ sl.id < H4.length) ∧ ∀ q, sg2 = some q → sl.id ≠ q.id := by
      intro x hx
      have key : ∃ G, RS 1 E8 G x.sl x.data ∧ Kp No G H2 ∧ ∀ sl, x.sl = some sl → H1.length ≤ sl.id ∧ sl.id < H2.length ∧ ∀ q, sg = some q → sl.id ≠ q.id := by
        rcases List.mem_append.1 hx with hx | hx
        · refine ⟨H, (hd x hx).1, e3, fun sl e => ?_⟩
          obtain ⟨⟨y1, y2⟩, y3⟩ := (hd x hx).2 sl e
          exact ⟨y1, by omega, y3⟩
        · simp only [List.mem_singleton] at hx
          subst hx
          refine ⟨H2, e2.rs, Kp.refl _ _, fun sl e => ?_⟩
          have y1 := e4 sl e
          have := k.len
          exact ⟨by omega, hdl sl e, fun q e5 => by have := hsgl q e5; omega⟩
      obtain ⟨G, y1, y2, y3⟩ := key
      refine ⟨(y1.no y2).kp a7 (fun sl e _ hf => ?_), fun sl e => ?_⟩
      · obtain ⟨z1, z2, z3⟩ := y3 sl e
        rcases hf with hf | ⟨q, e5, e6⟩
        · omega
        · exact z3 q e5 e6
      · obtain ⟨z1, z2, z3⟩ := y3 sl e
        refine ⟨⟨z1, by have := a7.len; omega⟩, fun q e5 => ?_⟩
        rcases a8 q e5 with ⟨q', e6, e7⟩ | e6
        · have := z3 q' e6; omega
        · omega
    have hc2 : (l' ++ [{ s with sl := d }]).map sgCore = (l.take (i + 1)).map sgCore := by
      rw [List.map_append, hc, List.take_succ_eq_append_getElem hi, List.map_append, hs]; rfl
    obtain ⟨l'', sg', H', r3, r4⟩ := loop40 h1 l hl hok hkd hR m n (i + 1) (l' ++ [{ s with sl := d }]) sg2 H4 (by omega) a3 a4 a5 a6 hc2 hd3
    refine ⟨l'', sg', H', ?_, r4⟩
    have a1' : (H2 ++ [Blk.row [Cell.int IntKind.i64 s.kind, Cell.int IntKind.i64 s.flags, Cell.int IntKind.u64 ((s.addr.toNat : Nat) : Int), Cell.int IntKind.u64 ((s.size.toNat : Nat) : Int), Cell.slice d] false]).append 5 56 sg (some ⟨List.length H2, 0, 1, 1, 5⟩) = some (sg2, H3) := by
      rw [nat_of ok.a.1, nat_of ok.n.1]; exact a1
    rw [show n + (m + 1) + 1 = (n + m + 1) + 1 by omega, D40_2_s, g, ct]
    simp only [n0, n4, n16, n40, Ab.bs, hkw, hfw]
    rcases hkk with e | e
    · rw [show (s.kind != 1) = false by simp [e]]
      simp only [cf, n8, n32, e1, Ab.bs, za, show (1 : Nat) + 2 = 3 from rfl, g3, tSlice, a1', a2, i64_succ i (by omega)]
      exact r3
    · rw [show (s.kind != 1) = true by simp [e], show (s.kind != 1610612737) = false by simp [e]]
      simp only [ct, cf, n8, n32, e1, Ab.bs, za, show (1 : Nat) + 2 = 3 from rfl, g3, tSlice, a1', a2, i64_succ i (by omega)]
      exact r3
theorem f40_x {H0 H1 : Heap} {rd rid : Nat} {b : List UInt8} {M E : Int} {sy rl sc : Option Sl} (h1 : RW H0 H1 rd rid b M E none sy rl sc) (l : List Sg) (hl : l.length ≤ 24) (hok : ∀ s ∈ l, SgOk s) (hkd : ∀ s ∈ l, s.kind = 1 ∨ s.kind = 1610612737) (hR : ∀ (i : Nat) s, l[i]? = some s → ∃ a, Cutn b (64 + 56 * i) (rowB s a) ∧ Cutn b a s.data)
    (c32 : Rdn b 32 8 64) (c56 : Rdn b 56 2 l.length) (ct' : ∃ x, x.length = l.length * 56 ∧ Cutn b 64 x) :
    ∃ l'' sg' H', f40 (some (rd, 0)) H1 = some ((), H') ∧ H'[rd]? = some (rrow rid M E sg' sy rl sc) ∧ Kp (Ab.One rd) H1 H' ∧ OS 5 ESg H' sg' l'' ∧ New H1.length sg' ∧ l''.map sgCore = l.map sgCore ∧ (∀ x ∈ l'', RS 1 E8 H' x.sl x.data ∧ ∀ sl, x.sl = some sl → H1.length ≤ sl.id) := by
  obtain ⟨x, x1, x2⟩ := ct'
  have a32 := f66_x h1 32 8 64 32 8 rfl rfl rfl c32
  have a56 := f66_x h1 56 2 l.length 56 2 rfl rfl rfl c56
  obtain ⟨H2, e1, e2⟩ := f67_x h1 64 l.length 56 24 64 (l.length : Int) 56 24 x rfl rfl rfl rfl hl x1 (by omega) (by omega) x2
  obtain ⟨n, le⟩ := LL40_2_of l.length (by omega) (some (rd, 0)) 64 (l.length : Int) 0 H2
  obtain ⟨l'', sg', H', r1, r2⟩ := loop40 h1 l hl hok hkd hR l.length n 0 [] none H2 (by omega) (e2.bk h1.hd) (e2.mono fun _ _ h => absurd h (fun x => x)) rfl (fun _ e => nomatch e) rfl (by simp)
  refine ⟨l'', sg', H', ?_, r2⟩
  rw [q40, a32, Ab.bs]
  dsimp only
  rw [a56, Ab.bs]
  dsimp only
  rw [show ((64 : Nat) : Int) = 64 from rfl, e1, Ab.bs]
  dsimp only
  rw [show ((64 : Nat) : Int) = 64 from rfl, le]
  exact r1
/-- A section's header, as it is read. -/
structure Pt where
  kind : Nat
  link : Nat
  at' : Nat
  n : Nat
def EPt (p : Pt) : List Cell := [.int .u64 (p.kind : Int), .int .u64 (p.link : Int), .int .u64 (p.at' : Int), .int .u64 (p.n : Int)]
theorem EPt_len (p : Pt) : (EPt p).length = 4 := rfl
theorem getsPt {H : Heap} {s : Option Sl} {l : List Pt} (h : RS 4 EPt H s l) {i : Nat} {p : Pt} (hi : l[i]? = some p) :
    ∃ sl, s = some sl ∧ (inb (i : Int) sl.len && sl.esz == 4) = true ∧ H.get sl.id (sl.off + ((i : Nat) : Int).toNat * 4) = some (.int .u64 (p.kind : Int)) ∧ H.get sl.id (sl.off + ((i : Nat) : Int).toNat * 4 + 1) = some (.int .u64 (p.link : Int)) ∧
      H.get sl.id (sl.off + ((i : Nat) : Int).toNat * 4 + 1 + 1) = some (.int .u64 (p.at' : Int)) ∧ H.get sl.id (sl.off + ((i : Nat) : Int).toNat * 4 + 1 + 1 + 1) = some (.int .u64 (p.n : Int)) := by
  obtain ⟨sl, e, h1, h2⟩ := h.idx EPt_len hi
  exact ⟨sl, e, h1, by simpa using h2 0 _ rfl, by simpa using h2 1 _ rfl, by simpa using h2 2 _ rfl, by simpa using h2 3 _ rfl⟩
structure PtRd (b : List UInt8) (off : Nat) (p : Pt) : Prop where
  k : Rdn b (off + 4) 4 p.kind
  l : Rdn b (off + 40) 4 p.link
  a : Rdn b (off + 24) 8 p.at'
  n : Rdn b (off + 32) 8 p.n
theorem offH (o i c : Nat) (ho : o ≤ 2000000) (hi : i ≤ 100) (hc : c ≤ 100) : IntKind.u64.wrap (IntKind.u64.wrap ((o : Int) + IntKind.u64.wrap (IntKind.i64.wrap (64 * (i : Int)))) + (c : Int)) = ((o + 64 * i + c : Nat) : Int) := by
  have e1 : IntKind.i64.wrap (64 * (i : Int)) = 64 * (i : Int) := wrap_i64 (by omega) (by omega)
  rw [e1, wrap_u64, wrap_u64, wrap_u64]
  omega
theorem loop41 {H0 H1 : Heap} {rd rid : Nat} {b : List UInt8} {M E : Int} {sg sy rl : Option Sl} (h1 : RW H0 H1 rd rid b M E sg sy rl none) (o : Nat) (ho : o ≤ 2000000) (ps : List Pt) (hp : ps.length ≤ 16) (hR : ∀ (i : Nat) p, ps[i]? = some p → PtRd b (o + 64 * i) p) :
    ∀ (m n i : Nat) (sc : Option Sl) (H : Heap), i + m = ps.length → H[rd]? = some (rrow rid M E sg sy rl sc) → Kp (Ab.One rd) H1 H → OS 4 EPt H sc (ps.take i) → New H1.length sc →
    ∃ sc' H', (D41_2 (n + m + 1) (some (rd, 0)) (o : Int) (ps.length : Int) (i : Int) H).bind J41_2 = some ((), H') ∧ H'[rd]? = some (rrow rid M E sg sy rl sc') ∧ Kp (Ab.One rd) H1 H' ∧ OS 4 EPt H' sc' ps ∧ New H1.length sc'
  | 0, n, i, sc, H, hm, h, k, hos, hn => by
    have g : decide ((i : Int) < (ps.length : Int)) = false := by simp; omega
    rw [List.take_of_length_le (by omega)] at hos
    exact ⟨sc, H, by rw [D41_2_s, g, cf, Ab.bs, J41_2_0], h, k, hos, hn⟩
  | m + 1, n, i, sc, H, hm, hrow, k, hos, hn => by
    have g : decide ((i : Int) < (ps.length : Int)) = true := by simp; omega
    have hi : i < ps.length := by omega
    have h := h1.later k hrow
    have pr := hR i _ (List.getElem?_eq_getElem hi)
    have o4 : IntKind.u64.wrap (IntKind.u64.wrap ((o : Int) + IntKind.u64.wrap (IntKind.i64.wrap (64 * (i : Int)))) + 4) = ((o + 64 * i + 4 : Nat) : Int) := offH o i 4 ho (by omega) (by omega)
    have o40 : IntKind.u64.wrap (IntKind.u64.wrap ((o : Int) + IntKind.u64.wrap (IntKind.i64.wrap (64 * (i : Int)))) + 40) = ((o + 64 * i + 40 : Nat) : Int) := offH o i 40 ho (by omega) (by omega)
    have o24 : IntKind.u64.wrap (IntKind.u64.wrap ((o : Int) + IntKind.u64.wrap (IntKind.i64.wrap (64 * (i : Int)))) + 24) = ((o + 64 * i + 24 : Nat) : Int) := offH o i 24 ho (by omega) (by omega)
    have o32 : IntKind.u64.wrap (IntKind.u64.wrap ((o : Int) + IntKind.u64.wrap (IntKind.i64.wrap (64 * (i : Int)))) + 32) = ((o + 64 * i + 32 : Nat) : Int) := offH o i 32 ho (by omega) (by omega)
    have n4 := f66_x h _ 4 _ _ 4 o4 rfl rfl pr.k
    have n40 := f66_x h _ 4 _ _ 4 o40 rfl rfl pr.l
    have n24 := f66_x h _ 8 _ _ 8 o24 rfl rfl pr.a
    have n32 := f66_x h _ 8 _ _ 8 o32 rfl rfl pr.n
    obtain ⟨_, _, _, _, _, _, _, g7⟩ := h.g
    have hsame : Ab.same rd H H = true := (Kp.refl No H).same1 (lt_of h.hd)
    obtain ⟨sc2, H3, H4, a1, a2, a3, a4, a5, a6, a7, a8⟩ := RW.add (by' := 32) EPt_len (by omega) h1 hrow k sc (ps.take i) hos hn ps[i] (by rw [List.length_take]; simp [most]; omega) 7 (by omega) (fun _ => sg) (fun _ => sy) (fun _ => rl) (fun t => t) (fun t => rfl)
    rw [← List.take_succ_eq_append_getElem hi] at a5
    obtain ⟨sc', H', r1, r2⟩ := loop41 h1 o ho ps hp hR m n (i + 1) sc2 H4 (by omega) a3 a4 a5 a6
    refine ⟨sc', H', ?_, r2⟩
    have a1' : (H ++ [Blk.row [Cell.int IntKind.u64 (ps[i].kind : Int), Cell.int IntKind.u64 (ps[i].link : Int), Cell.int IntKind.u64 (ps[i].at' : Int), Cell.int IntKind.u64 (ps[i].n : Int)] false]).append 4 32 sc (some ⟨List.length H, 0, 1, 1, 4⟩) = some (sc2, H3) := a1
    rw [show n + (m + 1) + 1 = (n + m + 1) + 1 by omega, D41_2_s, g, ct]
    simp only [Ab.bs, za, g7, tSlice, n4, hsame, ct, n40, n24, n32, a1', a2, i64_succ i (by omega)]
    exact r1
theorem f41_x {H0 H1 : Heap} {rd rid : Nat} {b : List UInt8} {M E : Int} {sg sy rl : Option Sl} (h1 : RW H0 H1 rd rid b M E sg sy rl none) (o : Nat) (ho : o ≤ 2000000) (ps : List Pt) (hp : ps.length ≤ 16) (hR : ∀ (i : Nat) p, ps[i]? = some p → PtRd b (o + 64 * i) p)
    (c40 : Rdn b 40 8 o) (c60 : Rdn b 60 2 ps.length) (ct' : ∃ x, x.length = ps.length * 64 ∧ Cutn b o x) :
    ∃ sc' H', f41 (some (rd, 0)) H1 = some ((), H') ∧ H'[rd]? = some (rrow rid M E sg sy rl sc') ∧ Kp (Ab.One rd) H1 H' ∧ OS 4 EPt H' sc' ps ∧ New H1.length sc' := by
  obtain ⟨x, x1, x2⟩ := ct'
  have a40 := f66_x h1 40 8 o 40 8 rfl rfl rfl c40
  have a60 := f66_x h1 60 2 ps.length 60 2 rfl rfl rfl c60
  obtain ⟨H2, e1, e2⟩ := f67_x h1 o ps.length 64 16 (o : Int) (ps.length : Int) 64 16 x rfl rfl rfl rfl hp x1 (by omega) (by omega) x2
  obtain ⟨n, le⟩ := LL41_2_of ps.length (by omega) (some (rd, 0)) (o : Int) (ps.length : Int) 0 H2
  obtain ⟨sc', H', r1, r2⟩ := loop41 h1 o ho ps hp hR ps.length n 0 none H2 (by omega) (e2.bk h1.hd) (e2.mono fun _ _ h => absurd h (fun x => x)) rfl (fun _ e => nomatch e)
  refine ⟨sc', H', ?_, r2⟩
  rw [q41, a40, Ab.bs]
  dsimp only
  rw [a60, Ab.bs]
  dsimp only
  rw [e1, Ab.bs]
  dsimp only
  rw [le]
  exact r1
/-! the one section of a type -/
def onlyF (kind : Nat) : List Pt → Nat → Pt → Nat × Pt
  | [], c, p => (c, p)
  | q :: l, c, p => bif ((q.kind : Int) == (kind : Int)) then onlyF kind l (c + 1) q else onlyF kind l c p
def pt0 : Pt := ⟨0, 0, 0, 0⟩
theorem loop68 {H : Heap} {t : Option Sl} {ps : List Pt} (hR : RS 4 EPt H t ps) (hl : ps.length ≤ 16) (r : Option (Nat × Nat)) (kind : Nat) : ∀ (m n i c : Nat) (x0 x1 x2 x3 : Int) (p : Pt), i + m = ps.length → c ≤ i →
    D68_4 (n + m + 1) r (kind : Int) (c : Int) t (ps.length : Int) (i : Int) x0 x1 x2 x3 (p.kind : Int) (p.link : Int) (p.at' : Int) (p.n : Int) H =
      some (.exit 0, X68_4 r ((onlyF kind (ps.drop i) c p).1 : Int) x0 x1 x2 x3 ((onlyF kind (ps.drop i) c p).2.kind : Int) ((onlyF kind (ps.drop i) c p).2.link : Int) ((onlyF kind (ps.drop i) c p).2.at' : Int) ((onlyF kind (ps.drop i) c p).2.n : Int) H)
  | 0, n, i, c, x0, x1, x2, x3, p, hm, hc => by
    have g : decide ((i : Int) < (ps.length : Int)) = false := by simp; omega
    rw [D68_4_s, g, cf, List.drop_eq_nil_of_le (by omega)]; rfl
  | m + 1, n, i, c, x0, x1, x2, x3, p, hm, hc => by
    have g : decide ((i : Int) < (ps.length : Int)) = true := by simp; omega
    have hi : i < ps.length := by omega
    obtain ⟨sl, e0, g1, c0, c1, c2, c3⟩ := getsPt hR (List.getElem?_eq_getElem hi)
    rw [show n + (m + 1) + 1 = (n + m + 1) + 1 by omega, D68_4_s, g, ct, List.drop_eq_getElem_cons hi]
    rw [show t.bind = (some sl).bind (β := AExit × St) by rw [e0]]
    unfold onlyF
    simp only [Ab.bs, g1, ct, c0, c1, c2, c3, tInt, i64_succ i (by omega)]
    cases (ps[i].kind : Int) == (kind : Int) with
    | true =>
      simp only [ct, i64_succ c (by omega)]
      exact loop68 hR hl r kind m n (i + 1) (c + 1) x0 x1 x2 x3 ps[i] (by omega) (by omega)
    | false =>
      simp only [cf]
      exact loop68 hR hl r kind m n (i + 1) c x0 x1 x2 x3 p (by omega) (by omega)
theorem f68_x {H0 H : Heap} {rd rid : Nat} {b : List UInt8} {M E : Int} {sg sy rl sc : Option Sl} (h : RW H0 H rd rid b M E sg sy rl sc) {ps : List Pt} (hR : RS 4 EPt H sc ps) (hl : ps.length ≤ 16) (kind : Nat) (p : Pt) (ho : onlyF kind ps 0 pt0 = (1, p)) :
    f68 (some (rd, 0)) (kind : Int) H = some (((p.kind : Int), (p.link : Int), (p.at' : Int), (p.n : Int), true), H) := by
  obtain ⟨_, _, _, _, _, _, _, g7⟩ := h.g
  obtain ⟨n, le⟩ := LL68_4_of ps.length (by omega) (some (rd, 0)) (kind : Int) 0 sc (ps.length : Int) 0 0 0 0 0 0 0 0 0 H
  have r := loop68 hR hl (some (rd, 0)) kind ps.length n 0 0 0 0 0 0 pt0 (by omega) (Nat.le_refl _)
  rw [List.drop_zero, ho] at r
  have le' := le.trans r
  rw [q68]
  simp only [Ab.bs, za, g7, tSlice, hR.slenEq]
  rw [le', Ab.bs, J68_4_0]
  rfl
theorem set_last (H : Heap) (a b : Blk) : (H ++ [a]).set H.length b = H ++ [b] := by simp
theorem vw_of {H : Heap} {s : Option Sl} {l : List UInt8} (ho : OS 1 E8 H s l) (hl : l.length ≤ 1048576) (a : Nat) (ha : a ≤ l.length) : VW (H ++ [vw s (a : Int) 0]) H.length s l a :=
  ⟨push_get _ _, (ho.no (Kp.push1 _ _)).rs, fun sl e _ => by subst e; have := ho.lt; omega, ha, hl⟩
theorem vnum {H : Heap} {s : Option Sl} {l : List UInt8} (ho : OS 1 E8 H s l) (hl : l.length ≤ 1048576) (a w v : Nat) (wi : Int) (hwi : wi = (w : Int)) (hw : bits_Is (w : Int) = true) (hr : Rdn l a w v) :
    f70 (some (H.length, 0)) wi (H ++ [vw s (a : Int) 0]) = some ((v : Int), H ++ [vw s ((a + w : Nat) : Int) 0]) := by
  subst hwi
  have := f70_yes H.length s l a w _ (vw_of ho hl a (by have := hr.1; omega)) hw hr.1
  rw [set_last, hr.2] at this
  exact this
theorem vskip {H : Heap} {s : Option Sl} {l : List UInt8} (ho : OS 1 E8 H s l) (hl : l.length ≤ 1048576) (a n : Nat) (ni : Int) (hn : ni = (n : Int)) (hr : a + n ≤ l.length) :
    f71 (some (H.length, 0)) ni (H ++ [vw s (a : Int) 0]) = some ((), H ++ [vw s ((a + n : Nat) : Int) 0]) := by
  subst hn
  have hh : rope_store_has s (a : Int) (n : Int) = true := by rw [has_eq ho.rs (by omega)]; simp [hasI]; omega
  have hg : IntKind.i64.wrap ((a : Int) + (n : Int)) = ((a + n : Nat) : Int) := by rw [wrap_i64 (by omega) (by omega)]; omega
  have := f82_yes H.length s (a : Int) (n : Int) (H ++ [vw s (a : Int) 0]) (push_get _ _) hh
  rw [set_last, hg] at this
  rw [q71, this]; rfl
theorem rp_one {n rd : Nat} {H H' : Heap} {id : Nat} {b : List UInt8} (h : RP (Up n) H id b) (k : Kp (Ab.One rd) H H') (hrd : rd < n) : RP (Up n) H' id b := by
  obtain ⟨s, h1, h2, h3, h4, h5⟩ := h
  have hid : n ≤ id := h4
  refine ⟨s, k.at h1 (fun x => ?_), h2.kp k (fun sl e x => ?_), h3, h4, h5⟩
  · have : id = rd := x
    omega
  · have : sl.id = rd := x
    have h6 : n ≤ sl.id := h5 sl e
    omega
theorem catCut1 (l : List UInt8) (h : l.length ≤ 1048576) : catCut [] [l] = l := by
  show [] ++ l.take (1048576 - 0) = l
  rw [List.nil_append, List.take_of_length_le (by omega)]
/-- A rope of bytes that have been cut. -/
theorem new_go {G : Heap} (s : Option Sl) (l : List UInt8) (hs : RS 1 E8 G s l) (hl : l.length ≤ 1048576) :
    ∃ id H', f18 (some ⟨G.length, 0, 1, 1, 1⟩) (G ++ [Blk.row [Cell.slice s] false]) = some (some (id, 0), H') ∧ RP (Up G.length) H' id l ∧ Kp No G H' := by
  have kP : Kp No G (G ++ [Blk.row [Cell.slice s] false]) := Kp.push1 _ _
  obtain ⟨H', e1, e2, e3⟩ := f18_spec (G ++ [Blk.row [Cell.slice s] false]) (some ⟨G.length, 0, 1, 1, 1⟩) [l] ⟨[s], rs_new (E := ES) [s] (push_get _ _) rfl, rfl, fun j p m e1 e2 => by
    match j, e1, e2 with
    | 0, e1, e2 => cases e1; cases e2; exact hs.no kP
    | j + 1, e1, e2 => simp at e1⟩ (by simp) (by simpa using (by omega : l.length ≤ 4611686018427387904))
  rw [catCut1 l hl] at e2
  refine ⟨_, H', e1, rp_mono e2 fun i _ h => ?_, kP.tr e3⟩
  have h' : (G ++ [Blk.row [Cell.slice s] false]).length ≤ i := h
  simp at h'
  show G.length ≤ i
  omega
/-! texts -/
theorem fi_text : ∀ (l r : List UInt8), fi l = none → fi (l ++ 0 :: r) = some l.length
  | [], r, _ => rfl
  | a :: l, r, h => by
    unfold fi at h
    cases ha : a == 0 with
    | true => rw [ha] at h; cases h
    | false =>
      rw [ha, cond_false, Option.map_eq_none_iff] at h
      show (bif a == 0 then some 0 else (fi (l ++ 0 :: r)).map (· + 1)) = _
      rw [ha, cond_false, fi_text l r h]; rfl
theorem str_text (pre r : List UInt8) (x : ByteArray) (h : fi x.data.toList = none) (hx : x.size ≤ 32) : strR (pre ++ (x.data.toList ++ 0 :: r)) ((pre.length : Nat) : Int) 32 = (x, 0) := by
  have hl : x.data.toList.length = x.size := by simp
  unfold strR
  have hh : hasI (pre ++ (x.data.toList ++ 0 :: r)).length ((pre.length : Nat) : Int) 0 = true := by simp [hasI]; omega
  rw [hh, cond_true, Int.toNat_natCast, List.drop_left, fi_text _ _ h]
  have : decide (((x.data.toList.length : Nat) : Int) > mm Builtin.max 32 0) = false := by
    have : mm Builtin.max 32 0 = 32 := rfl
    rw [this, hl]; simp; omega
  simp only [this, cond_false]
  rw [List.take_left]
theorem kind15 {k : Int} (h : 0 ≤ k ∧ k ≤ 2) : IntKind.i64.wrap (band IntKind.u64 ((k.toNat + 16 : Nat) : Int) 15) = k := by
  have : k = 0 ∨ k = 1 ∨ k = 2 := by omega
  rcases this with rfl | rfl | rfl <;> decide
structure SymRd (b : List UInt8) (off : Nat) (s : Sy) (nm : Nat) : Prop where
  n : Rdn b off 4 nm
  k : Rdn b (off + 4) 1 (s.kind.toNat + 16)
  a : Rdn b (off + 8) 8 s.addr.toNat
  z : Rdn b (off + 16) 8 s.size.toNat
theorem sym_rd {b : List UInt8} {off nm : Nat} {s : Sy} (h : Cutn b off (symB nm s)) (ok : SyOk s) (hn : nm < 4294967296) : SymRd b off s nm := by
  have hk := ok.k
  have ha := ok.a
  have hz := ok.s
  unfold u64r at ha hz
  have h1 := h.at [] ([nm].flatMap (leB 4)) ([s.kind.toNat + 16, 0].flatMap (leB 1) ++ [1].flatMap (leB 2) ++ [s.addr.toNat, s.size.toNat].flatMap (leB 8)) (by simp [symB])
  have h2 := h.at ([nm].flatMap (leB 4)) ([s.kind.toNat + 16, 0].flatMap (leB 1)) ([1].flatMap (leB 2) ++ [s.addr.toNat, s.size.toNat].flatMap (leB 8)) (by simp [symB])
  have h3 := h.at ([nm].flatMap (leB 4) ++ [s.kind.toNat + 16, 0].flatMap (leB 1) ++ [1].flatMap (leB 2)) ([s.addr.toNat, s.size.toNat].flatMap (leB 8)) [] (by simp [symB])
  have l2 : ([nm].flatMap (leB 4)).length = 4 := by simp [leB_length]
  have l3 : ([nm].flatMap (leB 4) ++ [s.kind.toNat + 16, 0].flatMap (leB 1) ++ [1].flatMap (leB 2)).length = 8 := by simp [leB_length]
  rw [l2] at h2
  rw [l3] at h3
  exact ⟨h1.list (i := 0) rfl hn, h2.list (i := 0) rfl (by show _ < 256; omega), h3.list (i := 0) rfl (by show _ < 18446744073709551616; omega), h3.list (i := 1) rfl (by show _ < 18446744073709551616; omega)⟩
theorem loop42 {H0 H1 : Heap} {rd rid t4 t5 n0 : Nat} {b T R : List UInt8} {M E : Int} {sg rl sc : Option Sl} (h1 : RW H0 H1 rd rid b M E sg none rl sc) (l : List Sy) (hl : l.length ≤ 64) (hok : ∀ s ∈ l, SyOk s) (hn0 : rd < n0) (rT : RP (Up n0) H1 t4 T) (rR : RP (Up n0) H1 t5 R) (hT : T.length ≤ 1048576) (hR : R.length = 24 * (l.length + 1))
    (hrow : ∀ (i : Nat) s, l[i]? = some s → ∃ pre r, T = pre ++ (s.name.data.toList ++ 0 :: r) ∧ pre.length < 4294967296 ∧ Cutn R (24 * (i + 1)) (symB pre.length s)) :
    ∀ (m n i : Nat) (sy : Option Sl) (H : Heap), i + m = l.length → H[rd]? = some (rrow rid M E sg sy rl sc) → Kp (Ab.One rd) H1 H → OS 4 ESy H sy (l.take i) → New H1.length sy →
    ∃ sy' H', (D42_7 (n + m + 1) (some (rd, 0)) (some (t4, 0)) (some (t5, 0)) ((i + 1 : Nat) : Int) H).bind J42_7 = some ((), H') ∧ H'[rd]? = some (rrow rid M E sg sy' rl sc) ∧ Kp (Ab.One rd) H1 H' ∧ OS 4 ESy H' sy' l ∧ New H1.length sy'
  | 0, n, i, sy, H, hm, hd, k, hos, hn => by
    have rR' := rp_one rR k hn0
    have g : decide (((i + 1 : Nat) : Int) < IntKind.i64.wrap ((R.length : Int).tdiv 24)) = false := by
      have : (R.length : Int).tdiv 24 = ((l.length + 1 : Nat) : Int) := by
        rw [hR, show (24 : Int) = ((24 : Nat) : Int) from rfl, ← Int.ofNat_tdiv]; congr 1; omega
      rw [this, wrap_i64 (by omega) (by omega)]; simp; omega
    rw [List.take_of_length_le (by omega)] at hos
    exact ⟨sy, H, by rw [D42_7_s, len_go (Rq.of rR'), Ab.bs, g, cf, Ab.bs, J42_7_0], hd, k, hos, hn⟩
  | m + 1, n, i, sy, H, hm, hd, k, hos, hn => by
    have rR' := rp_one rR k hn0
    have rT' := rp_one rT k hn0
    have h := h1.later k hd
    have hi : i < l.length := by omega
    have hii := List.getElem?_eq_getElem hi
    have ok := hok _ (List.getElem_mem hi)
    obtain ⟨pre, r, p1, p2, p3⟩ := hrow i _ hii
    have sr := sym_rd p3 ok p2
    have g : decide (((i + 1 : Nat) : Int) < IntKind.i64.wrap ((R.length : Int).tdiv 24)) = true := by
      have : (R.length : Int).tdiv 24 = ((l.length + 1 : Nat) : Int) := by
        rw [hR, show (24 : Int) = ((24 : Nat) : Int) from rfl, ← Int.ofNat_tdiv]; congr 1; omega
      rw [this, wrap_i64 (by omega) (by omega)]; simp; omega
    obtain ⟨_, _, _, _, _, _, g6, _⟩ := h.g
    have hRl : R.length ≤ 1048576 := by omega
    have ho24 : IntKind.i64.wrap (24 * ((i + 1 : Nat) : Int)) = ((24 * (i + 1) : Nat) : Int) := by rw [wrap_i64 (by omega) (by omega)]; omega
    obtain ⟨sR, x1, x2, _⟩ := rR'
    obtain ⟨v, H2, e1, e2, e3, e4⟩ := f69_yes t5 sR R ((24 * (i + 1) : Nat) : Int) H x1 x2.rs (by unfold most; omega) (by simp [hasI]; omega)
    have a1 := vnum e2 hRl (24 * (i + 1)) 4 _ 4 rfl rfl sr.n
    have a2 := vnum e2 hRl (24 * (i + 1) + 4) 1 _ 1 rfl rfl sr.k
    have a3 := vskip e2 hRl (24 * (i + 1) + 4 + 1) 3 3 rfl (by omega)
    have a4 := vnum e2 hRl (24 * (i + 1) + 4 + 1 + 3) 8 _ 8 rfl rfl sr.a
    have a5 := vnum e2 hRl (24 * (i + 1) + 4 + 1 + 3 + 8) 8 _ 8 rfl rfl sr.z
    have hrd : rd < H1.length := lt_of h1.hd
    have hH2 := e3.len
    have hHl := k.len
    have hw4 : IntKind.i64.wrap ((pre.length : Nat) : Int) = ((pre.length : Nat) : Int) := wrap_i64 (by omega) (by omega)
    have kv : ∀ a : Int, Kp No H (H2 ++ [vw v a 0]) := fun a => e3.tr (Kp.push1 _ _)
    have hstr : ∀ a : Int, f72 (some (t4, 0)) ((pre.length : Nat) : Int) 32 (H2 ++ [vw v a 0]) = some ((l[i].name, 0), H2 ++ [vw v a 0]) := fun a => by
      rw [f72_spec (rp_kp rT' (kv a)) hT, p1, str_text pre r l[i].name ok.z ok.n]
    have hd4 : ∀ a : Int, (H2 ++ [vw v a 0] : Heap)[rd]? = some (rrow rid M E sg sy rl sc) := fun a => (kv a).bk hd
    have gs : ∀ a : Int, Heap.get (H2 ++ [vw v a 0]) rd 4 = some (.slice sy) := fun a => by rw [get_of (hd4 a)]; rfl
    have hsame : ∀ a c : Int, Ab.same rd (H2 ++ [vw v a 0]) (H2 ++ [vw v c 0]) = true := fun a c => same_iff.2 (by rw [hd4, hd4])
    obtain ⟨sy2, H3, H4, b1, b2, b3, b4, b5, b6, b7, b8⟩ := RW.add (by' := 40) ESy_len (by omega) h1 (hd4 ((24 * (i + 1) + 4 + 1 + 3 + 8 + 8 : Nat) : Int)) (k.trans (kv _) (fun _ h => h) fun _ _ h => absurd h (fun x => x)) sy (l.take i) (hos.no (kv _)) hn l[i] (by rw [List.length_take]; simp [most]; omega) 4 (by omega) (fun _ => sg) (fun t => t) (fun _ => rl) (fun _ => sc) (fun t => rfl)
    rw [← List.take_succ_eq_append_getElem hi] at b5
    obtain ⟨sy', H', r1, r2⟩ := loop42 h1 l hl hok hn0 rT rR hT hR hrow m n (i + 1) sy2 H4 (by omega) b3 b4 b5 b6
    refine ⟨sy', H', ?_, r2⟩
    have b1' : Heap.append (H2 ++ [vw v ((24 * (i + 1) + 4 + 1 + 3 + 8 + 8 : Nat) : Int) 0] ++ [Blk.row [Cell.str l[i].name, Cell.int IntKind.i64 l[i].kind, Cell.int IntKind.u64 ((l[i].addr.toNat : Nat) : Int), Cell.int IntKind.u64 ((l[i].size.toNat : Nat) : Int)] false]) 4 40 sy (some ⟨List.length (H2 ++ [vw v ((24 * (i + 1) + 4 + 1 + 3 + 8 + 8 : Nat) : Int) 0]), 0, 1, 1, 4⟩) = some (sy2, H3) := by
      rw [nat_of ok.a.1, nat_of ok.s.1]; exact b1
    have h64 : decide (((i + 1 : Nat) : Int) > 64) = false := by simp; omega
    rw [show n + (m + 1) + 1 = (n + m + 1) + 1 by omega, D42_7_s, len_go (Rq.of (rp_one rR k hn0)), Ab.bs, g, ct]
    simp only [Ab.bs, za, g6, tBool, ct, ho24, e1]
    rw [a1, Ab.bs]
    simp only
    rw [a2, Ab.bs]
    simp only
    rw [a3, Ab.bs]
    simp only
    rw [hw4, hstr, Ab.bs]
    simp only [show ((0 : Int) != 0) = false from rfl, cf, h64, Ab.bs, za, show (1 : Nat) + 3 = 4 from rfl, gs, tSlice]
    rw [a4, Ab.bs]
    simp only [hsame, ct]
    rw [a5, Ab.bs]
    simp only [hsame, ct, kind15 ok.k]
    rw [b1', Ab.bs]
    simp only [Ab.bs, za, show (1 : Nat) + 3 = 4 from rfl]
    rw [b2, Ab.bs, i64_succ (i + 1) (by omega)]
    exact r1
theorem f42_x {H0 H1 : Heap} {rd rid : Nat} {b : List UInt8} {M E : Int} {sg rl sc : Option Sl} (h1 : RW H0 H1 rd rid b M E sg none rl sc) (l : List Sy) (hl : l.length ≤ 64) (hok : ∀ s ∈ l, SyOk s) (ps : List Pt) (hps : RS 4 EPt H1 sc ps) (hp5 : ps.length = 5) (pS nS pT nT lk : Nat)
    (ho : onlyF 2 ps 0 pt0 = (1, ⟨2, 2, pS, nS⟩)) (h2 : ps[2]? = some ⟨3, lk, pT, nT⟩) (hT : Cutn b pT ([0] ++ namesB l)) (hnT : nT = 1 + namesN l) (hS : Cutn b pS (zs 24 ++ symsB 1 l)) (hnS : nS = 24 * (l.length + 1)) :
    ∃ sy' H', f42 (some (rd, 0)) H1 = some ((), H') ∧ H'[rd]? = some (rrow rid M E sg sy' rl sc) ∧ Kp (Ab.One rd) H1 H' ∧ OS 4 ESy H' sy' l ∧ New H1.length sy' := by
  obtain ⟨_, _, _, _, _, _, g6, g7⟩ := h1.g
  have hlen : slen sc = 5 := by rw [hps.slenEq, hp5]; rfl
  obtain ⟨sl, e0, i1, c0, c1, c2, c3⟩ := getsPt hps h2
  have hTl : ([0] ++ namesB l).length = nT := by rw [List.length_append, namesB_len, hnT]; rfl
  have hSl : (zs 24 ++ symsB 1 l).length = nS := by rw [List.length_append, zs_len, symsB_len, hnS]; omega
  have hTb := hT.1
  have hSb := hS.1
  have hb := h1.bl
  obtain ⟨s2, H2, a1, a2, a3, a4⟩ := f63_x h1 pT ([0] ++ namesB l) (pT : Int) (nT : Int) rfl (by rw [hTl]) hT
  obtain ⟨t4, H3, b1, b2, b3⟩ := new_go s2 _ a2.rs (by omega)
  have h3 := (h1.no a3).no b3
  obtain ⟨s4, H4, d1, d2, d3, d4⟩ := f63_x h3 pS (zs 24 ++ symsB 1 l) (pS : Int) (nS : Int) rfl (by rw [hSl]) hS
  obtain ⟨t5, H5, e1, e2, e3⟩ := new_go s4 _ d2.rs (by omega)
  have k5 : Kp No H1 H5 := ((a3.tr b3).tr d3).tr e3
  have hrd : rd < H1.length := lt_of h1.hd
  have rT : RP (Up H1.length) H5 t4 ([0] ++ namesB l) := rp_mono (rp_kp (rp_kp b2 d3) e3) fun i _ hf => Nat.le_trans a3.len hf
  have rR : RP (Up H1.length) H5 t5 (zs 24 ++ symsB 1 l) := rp_mono e2 fun i _ hf => Nat.le_trans ((a3.tr b3).tr d3).len hf
  have hrow : ∀ (i : Nat) s, l[i]? = some s → ∃ pre r, [0] ++ namesB l = pre ++ (s.name.data.toList ++ 0 :: r) ∧ pre.length < 4294967296 ∧ Cutn (zs 24 ++ symsB 1 l) (24 * (i + 1)) (symB pre.length s) := by
    have key : ∀ (q : List Sy) (i : Nat) (s : Sy) (nm : Nat) (p : List UInt8), (∀ x ∈ q, x.name.size ≤ 32) → q[i]? = some s → p.length = nm → ∃ pre r po qo, p ++ namesB q = pre ++ (s.name.data.toList ++ 0 :: r) ∧ symsB nm q = qo ++ (symB pre.length s ++ po) ∧ qo.length = 24 * i ∧ pre.length ≤ nm + 33 * i := by
      intro q
      induction q with
      | nil => intro i s nm p _ h; simp at h
      | cons x q ih =>
        intro i s nm p hsz h hp
        have hx := hsz x (by simp)
        cases i with
        | zero =>
          simp at h; subst h
          refine ⟨p, namesB q, symsB (nm + (x.name.size + 1)) q, [], by simp [namesB], by rw [hp]; rfl, rfl, by omega⟩
        | succ i =>
          have hxl : x.name.data.toList.length = x.name.size := by simp
          obtain ⟨pre, r, po, qo, y1, y2, y3, y4⟩ := ih i s (nm + (x.name.size + 1)) (p ++ (x.name.data.toList ++ [0])) (fun y hy => hsz y (by simp [hy])) (by simpa using h) (by rw [List.length_append, List.length_append, hxl, hp]; rfl)
          refine ⟨pre, r, po, symB nm x ++ qo, ?_, ?_, ?_, by omega⟩
          · rw [← y1]; simp [namesB]
          · show symB nm x ++ symsB _ q = _
            rw [y2, List.append_assoc]
          · rw [List.length_append, symB_len, y3]; omega
    intro i s hi
    have hil := (List.getElem?_eq_some_iff.1 hi).1
    obtain ⟨pre, r, po, qo, y1, y2, y3, y4⟩ := key l i s 1 [0] (fun x hx => (hok x hx).n) hi rfl
    refine ⟨pre, r, y1, by omega, ?_⟩
    have := cutn_of (b := zs 24 ++ symsB 1 l) (zs 24 ++ qo) (symB pre.length s) po (by rw [y2, List.append_assoc])
    rw [List.length_append, zs_len, y3, show 24 + 24 * i = 24 * (i + 1) by omega] at this
    exact this
  obtain ⟨n, le⟩ := LL42_7_of l.length (by omega) (some (rd, 0)) (some (t4, 0)) (some (t5, 0)) 1 H5
  obtain ⟨sy', H', r1, r2, r3, r4, r5⟩ := loop42 (h1.no k5) l hl hok hrd rT rR (by omega) (by rw [hSl, hnS]) hrow l.length n 0 none H5 (by omega) (k5.bk h1.hd) (Kp.refl _ _) rfl (fun _ e => nomatch e)
  refine ⟨sy', H', ?_, r2, k5.trans r3 (fun _ h => absurd h (fun x => x)) (fun _ _ h => h), r4, fun q e => Nat.le_trans k5.len (r5 q e)⟩
  have f68 := f68_x h1 hps (by omega) 2 ⟨2, 2, pS, nS⟩ ho
  have f68' : Proofs.Ytmjmhipfkbedaaa.f68 (some (rd, 0)) 2 H1 = some ((2, 2, (pS : Int), (nS : Int), true), H1) := f68
  rw [q42, f68', Ab.bs]
  simp only [Bool.not_true, cf, Ab.bs, za, g6, g7, tBool, tSlice, hlen]
  rw [show decide ((2 : Int) ≥ IntKind.u64.wrap 5) = false from by decide, cf, e0]
  have i1' : (inb 2 sl.len && sl.esz == 4) = true := i1
  have c0' : H1.get sl.id (sl.off + Int.toNat 2 * 4) = some (.int .u64 3) := c0
  have c2' : H1.get sl.id (sl.off + Int.toNat 2 * 4 + 2) = some (.int .u64 (pT : Int)) := c2
  have c3' : H1.get sl.id (sl.off + Int.toNat 2 * 4 + 3) = some (.int .u64 (nT : Int)) := c3
  simp only [Ab.bs, i1', ct, az, c0', tInt, show ((3 : Int) != 3) = false from rfl, cf, c2', c3', a1, b1, d1, e1]
  rw [le]
  exact r1
def i64r (n : Int) : Prop := -9223372036854775808 ≤ n ∧ n < 9223372036854775808
theorem leB_split : ∀ (a w v : Nat), leB (a + w) v = leB a v ++ leB w (v / 256 ^ a)
  | 0, w, v => by simp [leB]
  | a + 1, w, v => by
    rw [show a + 1 + w = (a + w) + 1 by omega, leB, leB, leB_split a w, Nat.div_div_eq_div_mul, Nat.pow_succ, Nat.mul_comm (256 ^ a) 256]; rfl
theorem Cutn.numm {b : List UInt8} {off w v : Nat} (h : Cutn b off (leB w v)) : Rdn b off w (v % 256 ^ w) := by
  obtain ⟨h1, h2⟩ := h
  rw [leB_length] at h1 h2
  exact ⟨h1, by rw [h2, num_leB]⟩
theorem div32 (k : Nat) : (1 + 4294967296 * k) / 4294967296 = k := by omega
theorem mod32 (k : Nat) : (1 + 4294967296 * k) % 4294967296 = 1 := by omega
theorem lt64 (k : Nat) (h : k ≤ 64) : 1 + 4294967296 * k < 18446744073709551616 := by omega
theorem u64_lt (a : Int) : (IntKind.u64.wrap a).toNat < 18446744073709551616 := by rw [wrap_u64]; omega
theorem relN_cut (r : Rl) : (relN r).flatMap (leB 8) = leB 8 r.at'.toNat ++ ((leB 4 (1 + 4294967296 * (r.sym.toNat + 1)) ++ leB 4 (r.sym.toNat + 1)) ++ leB 8 (IntKind.u64.wrap r.add).toNat) := by
  have e := leB_split 4 4 (1 + 4294967296 * (r.sym.toNat + 1))
  rw [show (256 : Nat) ^ 4 = 4294967296 from rfl, div32] at e
  rw [← e]
  unfold relN
  rw [List.flatMap_cons, List.flatMap_cons, List.flatMap_cons, List.flatMap_nil, List.append_nil]
structure RelRd (b : List UInt8) (off : Nat) (r : Rl) : Prop where
  a : Rdn b off 8 r.at'.toNat
  k : Rdn b (off + 8) 4 1
  s : Rdn b (off + 8 + 4) 4 (r.sym.toNat + 1)
  d : Rdn b (off + 8 + 4 + 4) 8 (IntKind.u64.wrap r.add).toNat
theorem rel_rd {b : List UInt8} {off ns : Nat} {r : Rl} (h : Cutn b off ((relN r).flatMap (leB 8))) (ok : RlOk r ns) (hns : ns ≤ 64) : RelRd b off r := by
  have ha := ok.a
  have hs := ok.s
  unfold u64r at ha
  rw [relN_cut] at h
  have h1 := h.at [] (leB 8 r.at'.toNat) _ (List.nil_append _).symm
  have h2 := h.at (leB 8 r.at'.toNat) (leB 4 (1 + 4294967296 * (r.sym.toNat + 1)) ++ leB 4 (r.sym.toNat + 1)) _ rfl
  have h3 := h.at (leB 8 r.at'.toNat ++ (leB 4 (1 + 4294967296 * (r.sym.toNat + 1)) ++ leB 4 (r.sym.toNat + 1))) (leB 8 (IntKind.u64.wrap r.add).toNat) [] (by simp only [List.append_assoc, List.append_nil])
  have h4 := h2.at [] (leB 4 (1 + 4294967296 * (r.sym.toNat + 1))) (leB 4 (r.sym.toNat + 1)) (List.nil_append _).symm
  have h5 := h2.at (leB 4 (1 + 4294967296 * (r.sym.toNat + 1))) (leB 4 (r.sym.toNat + 1)) [] (by rw [List.append_nil])
  have h6 := h4.numm
  rw [show (256 : Nat) ^ 4 = 4294967296 from rfl, mod32] at h6
  simp only [List.length_append, leB_length, List.length_nil, Nat.add_zero] at h1 h3 h5 h6
  have hA : r.at'.toNat < 18446744073709551616 := by omega
  have hB : r.sym.toNat + 1 < 4294967296 := by omega
  exact ⟨h1.num hA, h6, h5.num hB, h3.num (u64_lt _)⟩
theorem relsB_cut : ∀ (l : List Rl) (i : Nat) (r : Rl), l[i]? = some r → Cutn (relsB l) (24 * i) ((relN r).flatMap (leB 8))
  | [], i, r, h => by simp at h
  | x :: l, 0, r, h => by
    simp at h; subst h
    exact cutn_of [] _ (relsB l) rfl
  | x :: l, i + 1, r, h => by
    have ih := relsB_cut l i r (by simpa using h)
    obtain ⟨h1, h2⟩ := ih
    have hx : ((relN x).flatMap (leB 8)).length = 24 := by simp [relN, leB_length]
    have e : relsB (x :: l) = (relN x).flatMap (leB 8) ++ relsB l := rfl
    refine ⟨by rw [e, List.length_append, hx]; omega, ?_⟩
    rw [e, show 24 * (i + 1) = ((relN x).flatMap (leB 8)).length + 24 * i by omega, ← List.drop_drop, List.drop_left, h2]
theorem symk {k : Int} {ns : Nat} (h : 0 ≤ k ∧ k < (ns : Int)) (hn : ns ≤ 64) : IntKind.i64.wrap (IntKind.i64.wrap ((k.toNat + 1 : Nat) : Int) - 1) = k := by
  rw [wrap_i64 (n := ((k.toNat + 1 : Nat) : Int)) (by omega) (by omega), wrap_i64 (by omega) (by omega)]; omega
theorem addk {a : Int} (h : i64r a) : IntKind.i64.wrap (((IntKind.u64.wrap a).toNat : Nat) : Int) = a := by
  unfold i64r at h
  have e : (((IntKind.u64.wrap a).toNat : Nat) : Int) = a % 18446744073709551616 := by rw [wrap_u64]; omega
  rw [e]
  unfold IntKind.wrap
  simp only [show IntKind.i64.bits = 64 from rfl, show IntKind.i64.signed = true from rfl, show ((2 : Int) ^ 64) = 18446744073709551616 from rfl, show ((2 : Int) ^ (64 - 1)) = 9223372036854775808 from rfl, Bool.true_and, decide_eq_true_eq]
  split <;> omega
theorem loop43 {H0 H1 : Heap} {rd rid t4 n0 ns : Nat} {b R : List UInt8} {M E : Int} {sg sy sc : Option Sl} (h1 : RW H0 H1 rd rid b M E sg sy none sc) (l : List Rl) (hl : l.length ≤ 64) (hns : ns ≤ 64) (hok : ∀ s ∈ l, RlOk s ns) (had : ∀ s ∈ l, i64r s.add) (hn0 : rd < n0) (rR : RP (Up n0) H1 t4 R) (hR : R.length = 24 * l.length)
    (hrow : ∀ (i : Nat) s, l[i]? = some s → Cutn R (24 * i) ((relN s).flatMap (leB 8))) :
    ∀ (m n i : Nat) (rl : Option Sl) (H : Heap), i + m = l.length → H[rd]? = some (rrow rid M E sg sy rl sc) → Kp (Ab.One rd) H1 H → OS 3 ERl H rl (l.take i) → New H1.length rl →
    ∃ rl' H', (D43_4 (n + m + 1) (some (rd, 0)) (some (t4, 0)) (i : Int) H).bind J43_4 = some ((), H') ∧ H'[rd]? = some (rrow rid M E sg sy rl' sc) ∧ Kp (Ab.One rd) H1 H' ∧ OS 3 ERl H' rl' l ∧ New H1.length rl'
  | 0, n, i, rl, H, hm, hd, k, hos, hn => by
    have rR' := rp_one rR k hn0
    have g : decide ((i : Int) < IntKind.i64.wrap ((R.length : Int).tdiv 24)) = false := by
      have : (R.length : Int).tdiv 24 = ((l.length : Nat) : Int) := by
        rw [hR, show (24 : Int) = ((24 : Nat) : Int) from rfl, ← Int.ofNat_tdiv]; congr 1; omega
      rw [this, wrap_i64 (by omega) (by omega)]; simp; omega
    rw [List.take_of_length_le (by omega)] at hos
    exact ⟨rl, H, by rw [D43_4_s, len_go (Rq.of rR'), Ab.bs, g, cf, Ab.bs, J43_4_0], hd, k, hos, hn⟩
  | m + 1, n, i, rl, H, hm, hd, k, hos, hn => by
    have rR' := rp_one rR k hn0
    have h := h1.later k hd
    have hi : i < l.length := by omega
    have hii := List.getElem?_eq_getElem hi
    have ok := hok _ (List.getElem_mem hi)
    have hadd := had _ (List.getElem_mem hi)
    have sr := rel_rd (hrow i _ hii) ok hns
    have g : decide ((i : Int) < IntKind.i64.wrap ((R.length : Int).tdiv 24)) = true := by
      have : (R.length : Int).tdiv 24 = ((l.length : Nat) : Int) := by
        rw [hR, show (24 : Int) = ((24 : Nat) : Int) from rfl, ← Int.ofNat_tdiv]; congr 1; omega
      rw [this, wrap_i64 (by omega) (by omega)]; simp; omega
    obtain ⟨_, _, _, _, _, _, g6, _⟩ := h.g
    have hRl : R.length ≤ 1048576 := by omega
    have ho24 : IntKind.i64.wrap (24 * (i : Int)) = ((24 * i : Nat) : Int) := by rw [wrap_i64 (by omega) (by omega)]; omega
    obtain ⟨sR, x1, x2, _⟩ := rR'
    obtain ⟨v, H2, e1, e2, e3, e4⟩ := f69_yes t4 sR R ((24 * i : Nat) : Int) H x1 x2.rs (by unfold most; omega) (by simp [hasI]; omega)
    have a1 := vnum e2 hRl (24 * i) 8 _ 8 rfl rfl sr.a
    have a2 := vnum e2 hRl (24 * i + 8) 4 _ 4 rfl rfl sr.k
    have a3 := vnum e2 hRl (24 * i + 8 + 4) 4 _ 4 rfl rfl sr.s
    have a4 := vnum e2 hRl (24 * i + 8 + 4 + 4) 8 _ 8 rfl rfl sr.d
    have hrd : rd < H1.length := lt_of h1.hd
    have hHl := k.len
    have kv : ∀ a : Int, Kp No H (H2 ++ [vw v a 0]) := fun a => e3.tr (Kp.push1 _ _)
    have hd5 : ∀ a : Int, (H2 ++ [vw v a 0] : Heap)[rd]? = some (rrow rid M E sg sy rl sc) := fun a => (kv a).bk hd
    have gs : ∀ a : Int, Heap.get (H2 ++ [vw v a 0]) rd 5 = some (.slice rl) := fun a => by rw [get_of (hd5 a)]; rfl
    obtain ⟨rl2, H3, H4, b1, b2, b3, b4, b5, b6, b7, b8⟩ := RW.add (by' := 24) ERl_len (by omega) h1 (hd5 ((24 * i + 8 + 4 + 4 + 8 : Nat) : Int)) (k.trans (kv _) (fun _ h => h) fun _ _ h => absurd h (fun x => x)) rl (l.take i) (hos.no (kv _)) hn l[i] (by rw [List.length_take]; simp [most]; omega) 5 (by omega) (fun _ => sg) (fun _ => sy) (fun t => t) (fun _ => sc) (fun t => rfl)
    rw [← List.take_succ_eq_append_getElem hi] at b5
    obtain ⟨rl', H', r1, r2⟩ := loop43 h1 l hl hns hok had hn0 rR hR hrow m n (i + 1) rl2 H4 (by omega) b3 b4 b5 b6
    refine ⟨rl', H', ?_, r2⟩
    have b1' : Heap.append (H2 ++ [vw v ((24 * i + 8 + 4 + 4 + 8 : Nat) : Int) 0] ++ [Blk.row [Cell.int IntKind.u64 ((l[i].at'.toNat : Nat) : Int), Cell.int IntKind.i64 l[i].sym, Cell.int IntKind.i64 l[i].add] false]) 3 24 rl (some ⟨List.length (H2 ++ [vw v ((24 * i + 8 + 4 + 4 + 8 : Nat) : Int) 0]), 0, 1, 1, 3⟩) = some (rl2, H3) := by
      rw [nat_of ok.a.1]; exact b1
    have h64 : decide ((i : Int) ≥ 64) = false := by simp; omega
    have hlt1 : decide (((l[i].sym.toNat + 1 : Nat) : Int) < 1) = false := by simp; omega
    rw [show n + (m + 1) + 1 = (n + m + 1) + 1 by omega, D43_4_s, len_go (Rq.of (rp_one rR k hn0)), Ab.bs, g, ct]
    simp only [Ab.bs, za, g6, tBool, ct, ho24, e1]
    rw [a1, Ab.bs]
    simp only
    rw [a2, Ab.bs]
    simp only
    rw [a3, Ab.bs]
    simp only
    rw [a4, Ab.bs]
    simp only [show (((1 : Nat) : Int) != 1) = false from rfl, cf, hlt1, h64, Ab.bs, za, show (1 : Nat) + 4 = 5 from rfl, gs, tSlice, symk ok.s hns, addk hadd]
    rw [b1', Ab.bs]
    simp only [Ab.bs, za, show (1 : Nat) + 4 = 5 from rfl]
    rw [b2, Ab.bs, i64_succ i (by omega)]
    exact r1
theorem f43_x {H0 H1 : Heap} {rd rid ns : Nat} {b : List UInt8} {M E : Int} {sg sy sc : Option Sl} (h1 : RW H0 H1 rd rid b M E sg sy none sc) (l : List Rl) (hl : l.length ≤ 64) (hns : ns ≤ 64) (hok : ∀ s ∈ l, RlOk s ns) (had : ∀ s ∈ l, i64r s.add) (ps : List Pt) (hps : RS 4 EPt H1 sc ps) (hp5 : ps.length = 5) (lk pS nS : Nat)
    (ho : onlyF 4 ps 0 pt0 = (1, ⟨4, lk, pS, nS⟩)) (hS : Cutn b pS (relsB l)) (hnS : nS = 24 * l.length) :
    ∃ rl' H', f43 (some (rd, 0)) H1 = some ((), H') ∧ H'[rd]? = some (rrow rid M E sg sy rl' sc) ∧ Kp (Ab.One rd) H1 H' ∧ OS 3 ERl H' rl' l ∧ New H1.length rl' := by
  obtain ⟨_, _, _, _, _, _, g6, _⟩ := h1.g
  have hSl : (relsB l).length = nS := by rw [relsB_len, hnS]
  have hSb := hS.1
  have hb := h1.bl
  have hrd : rd < H1.length := lt_of h1.hd
  obtain ⟨s2, H2, a1, a2, a3, a4⟩ := f63_x h1 pS (relsB l) (pS : Int) (nS : Int) rfl (by rw [hSl]) hS
  obtain ⟨t4, H3, b1, b2, b3⟩ := new_go s2 _ a2.rs (by omega)
  have k3 : Kp No H1 H3 := a3.tr b3
  have rR : RP (Up H1.length) H3 t4 (relsB l) := rp_mono b2 fun i _ hf => Nat.le_trans a3.len hf
  obtain ⟨n, le⟩ := LL43_4_of l.length (by omega) (some (rd, 0)) (some (t4, 0)) 0 H3
  obtain ⟨rl', H', r1, r2, r3, r4, r5⟩ := loop43 (h1.no k3) l hl hns hok had hrd rR (relsB_len l) (fun i s hi => relsB_cut l i s hi) l.length n 0 none H3 (by omega) (k3.bk h1.hd) (Kp.refl _ _) rfl (fun _ e => nomatch e)
  refine ⟨rl', H', ?_, r2, k3.trans r3 (fun _ h => absurd h (fun x => x)) (fun _ _ h => h), r4, fun q e => Nat.le_trans k3.len (r5 q e)⟩
  have f68 := f68_x h1 hps (by omega) 4 ⟨4, lk, pS, nS⟩ ho
  have f68' : Proofs.Ytmjmhipfkbedaaa.f68 (some (rd, 0)) 4 H1 = some ((4, (lk : Int), (pS : Int), (nS : Int), true), H1) := f68
  rw [q43, f68', Ab.bs]
  simp only [Bool.not_true, cf, Ab.bs, za, g6, tBool, a1, b1]
  rw [show (0 : Int) = ((0 : Nat) : Int) from rfl, show (((0 : Nat) : Int)) = 0 from rfl, le]
  exact r1
def plen : Nat → List (List UInt8) → Nat
  | 0, _ => 0
  | _ + 1, [] => 0
  | i + 1, x :: r => x.length + plen i r
theorem cut_parts : ∀ (ls : List (List UInt8)) (i : Nat) (l : List UInt8), ls[i]? = some l → Cutn ls.flatten (plen i ls) l
  | [], i, l, h => by simp at h
  | x :: r, 0, l, h => by
    simp at h; subst h
    rw [List.flatten_cons]
    exact cutn_of [] _ r.flatten (List.nil_append _).symm
  | x :: r, i + 1, l, h => by
    obtain ⟨h1, h2⟩ := cut_parts r i l (by simpa using h)
    unfold plen
    rw [List.flatten_cons]
    refine ⟨by rw [List.length_append]; omega, ?_⟩
    rw [← List.drop_drop, List.drop_left, h2]
theorem cutn_ex {b : List UInt8} {off n : Nat} (h : off + n ≤ b.length) : ∃ x, x.length = n ∧ Cutn b off x := by
  have e : ((b.drop off).take n).length = n := by rw [List.length_take, List.length_drop]; omega
  exact ⟨_, e, by rw [e]; exact h, by rw [e]⟩
def hpos (f : Fl) : Nat := up16 (len3 (len2 (len1 f.sg) f.sy) f.rl)
def parts (f : Fl) : List (List UInt8) :=
  [magic ++ zs 9, [2, f.M.toNat].flatMap (leB 2), [1].flatMap (leB 4), [f.E.toNat, 64].flatMap (leB 8), leB 8 (hpos f), [0].flatMap (leB 4), [64, 56, f.sg.length, 64, 5, 4].flatMap (leB 2),
   segR (64 + 56 * f.sg.length) f.sg, segT (64 + 56 * f.sg.length) f.sg, zs (padN (len1 f.sg) 16), zs 24 ++ symsB 1 f.sy, [0] ++ namesB f.sy, zs (padN (len2 (len1 f.sg) f.sy) 16), relsB f.rl, textsB, zs (padN (len3 (len2 (len1 f.sg) f.sy) f.rl) 16), zs 64,
   secB 1 2 2 1 24 (((up16 (len1 f.sg) : Nat) : Int), ((24 * (f.sy.length + 1) : Nat) : Int)), secB 9 3 0 0 0 (((up16 (len1 f.sg) + 24 * (f.sy.length + 1) : Nat) : Int), ((1 + namesN f.sy : Nat) : Int)),
   secB 17 4 1 0 24 (((up16 (len2 (len1 f.sg) f.sy) : Nat) : Int), ((24 * f.rl.length : Nat) : Int)), secB 23 3 0 0 0 (((up16 (len2 (len1 f.sg) f.sy) + 24 * f.rl.length : Nat) : Int), ((33 : Nat) : Int))]
theorem secs4 (a b c d : Int × Int) : secsB 0 [a, b, c, d] = secB 1 2 2 1 24 a ++ (secB 9 3 0 0 0 b ++ (secB 17 4 1 0 24 c ++ (secB 23 3 0 0 0 d ++ []))) := by
  unfold secsB secsB secsB secsB secsB
  rfl
theorem parts_flat (f : Fl) : outB f = (parts f).flatten := by
  unfold outB parts secsOf hpos
  rw [secs4]
  unfold symsAll relsAll hdA hdB
  simp only [List.flatten_cons, List.flatten_nil, List.append_assoc]
theorem cut_at {f : Fl} {i off : Nat} {l : List UInt8} (h : (parts f)[i]? = some l) (ho : plen i (parts f) = off) : Cutn (outB f) off l := by
  rw [parts_flat, ← ho]; exact cut_parts _ _ _ h
theorem seg_cut : ∀ (l : List Sg) (n i : Nat) (s : Sg), l[i]? = some s → ∃ a pre post pre' post', segR n l = pre ++ (rowB s a ++ post) ∧ pre.length = 56 * i ∧ segT n l = pre' ++ (s.data ++ post') ∧ n + pre'.length = a
  | [], n, i, s, h => by simp at h
  | x :: r, n, 0, s, h => by
    simp at h; subst h
    refine ⟨up16 n, [], segR (up16 n + x.data.length) r, zs (padN n 16), segT (up16 n + x.data.length) r, rfl, rfl, ?_, ?_⟩
    · show zs (padN n 16) ++ x.data ++ segT _ r = _
      rw [List.append_assoc]
    · rw [zs_len]; rfl
  | x :: r, n, i + 1, s, h => by
    obtain ⟨a, pre, post, pre', post', h1, h2, h3, h4⟩ := seg_cut r (up16 n + x.data.length) i s (by simpa using h)
    refine ⟨a, rowB x (up16 n) ++ pre, post, zs (padN n 16) ++ x.data ++ pre', post', ?_, ?_, ?_, ?_⟩
    · show rowB x (up16 n) ++ segR _ r = _
      rw [h1, List.append_assoc]
    · rw [List.length_append, rowB_len, h2]; omega
    · show zs (padN n 16) ++ x.data ++ segT _ r = _
      rw [h3, List.append_assoc (zs _ ++ _)]
    · rw [List.length_append, List.length_append, zs_len]; unfold up16 at h4; omega
theorem sec_rd {b : List UInt8} {off nm kd lk info rw' a n : Nat} (h : Cutn b off (secB nm kd lk info rw' ((a : Int), (n : Int)))) (hk : kd < 4294967296) (hl : lk < 4294967296) (ha : a < 18446744073709551616) (hn : n < 18446744073709551616) : PtRd b off ⟨kd, lk, a, n⟩ := by
  unfold secB at h
  simp only [Int.toNat_natCast] at h
  have h1 := h.at [] ([nm, kd].flatMap (leB 4)) ([0, 0, a, n].flatMap (leB 8) ++ ([lk, info].flatMap (leB 4) ++ [8, rw'].flatMap (leB 8))) (by simp only [List.append_assoc, List.nil_append])
  have h2 := h.at ([nm, kd].flatMap (leB 4)) ([0, 0, a, n].flatMap (leB 8)) ([lk, info].flatMap (leB 4) ++ [8, rw'].flatMap (leB 8)) (by simp only [List.append_assoc])
  have h3 := h.at ([nm, kd].flatMap (leB 4) ++ [0, 0, a, n].flatMap (leB 8)) ([lk, info].flatMap (leB 4)) ([8, rw'].flatMap (leB 8)) (by simp only [List.append_assoc])
  have e2 : ([nm, kd].flatMap (leB 4)).length = 8 := by simp [leB_length]
  have e3 : ([nm, kd].flatMap (leB 4) ++ [0, 0, a, n].flatMap (leB 8)).length = 40 := by simp [leB_length]
  rw [List.length_nil, Nat.add_zero] at h1
  rw [e2] at h2
  rw [e3] at h3
  exact ⟨h1.list (i := 1) rfl hk, h3.list (i := 0) rfl hl, h2.list (i := 2) rfl ha, h2.list (i := 3) rfl hn⟩
theorem numB_zs : ∀ w, numB (zs w) = 0
  | 0 => rfl
  | w + 1 => by
    show (0 : UInt8).toNat + 256 * numB (zs w) = 0
    rw [numB_zs w]; rfl
theorem zero_rd {b : List UInt8} {off : Nat} (h : Cutn b off (zs 64)) : PtRd b off ⟨0, 0, 0, 0⟩ := by
  have key : ∀ k w, k + w ≤ 64 → Rdn b (off + k) w 0 := fun k w hk => by
    have := h.at (zs k) (zs w) (zs (64 - k - w)) (by unfold zs; rw [List.replicate_append_replicate, List.replicate_append_replicate]; congr 1; omega)
    rw [zs_len] at this
    obtain ⟨t1, t2⟩ := this
    rw [zs_len] at t1 t2
    refine ⟨t1, ?_⟩
    rw [t2]
    exact numB_zs w
  exact ⟨key 4 4 (by omega), key 40 4 (by omega), key 24 8 (by omega), key 32 8 (by omega)⟩
structure Posn (f : Fl) : Prop where
  c0 : Cutn (outB f) 0 (magic ++ zs 9)
  c16 : Rdn (outB f) 16 2 2
  c18 : Rdn (outB f) 18 2 f.M.toNat
  c20 : Rdn (outB f) 20 4 1
  c24 : Rdn (outB f) 24 8 f.E.toNat
  c32 : Rdn (outB f) 32 8 64
  c40 : Rdn (outB f) 40 8 (hpos f)
  c52 : Rdn (outB f) 52 2 64
  c54 : Rdn (outB f) 54 2 56
  c56 : Rdn (outB f) 56 2 f.sg.length
  c58 : Rdn (outB f) 58 2 64
  c60 : Rdn (outB f) 60 2 5
  cR : Cutn (outB f) 64 (segR (64 + 56 * f.sg.length) f.sg)
  cT : Cutn (outB f) (64 + 56 * f.sg.length) (segT (64 + 56 * f.sg.length) f.sg)
  cS : Cutn (outB f) (up16 (len1 f.sg)) (zs 24 ++ symsB 1 f.sy)
  cN : Cutn (outB f) (up16 (len1 f.sg) + 24 * (f.sy.length + 1)) ([0] ++ namesB f.sy)
  cL : Cutn (outB f) (up16 (len2 (len1 f.sg) f.sy)) (relsB f.rl)
  h0 : Cutn (outB f) (hpos f) (zs 64)
  h1 : Cutn (outB f) (hpos f + 64) (secB 1 2 2 1 24 (((up16 (len1 f.sg) : Nat) : Int), ((24 * (f.sy.length + 1) : Nat) : Int)))
  h2 : Cutn (outB f) (hpos f + 128) (secB 9 3 0 0 0 (((up16 (len1 f.sg) + 24 * (f.sy.length + 1) : Nat) : Int), ((1 + namesN f.sy : Nat) : Int)))
  h3 : Cutn (outB f) (hpos f + 192) (secB 17 4 1 0 24 (((up16 (len2 (len1 f.sg) f.sy) : Nat) : Int), ((24 * f.rl.length : Nat) : Int)))
  h4 : Cutn (outB f) (hpos f + 256) (secB 23 3 0 0 0 (((up16 (len2 (len1 f.sg) f.sy) + 24 * f.rl.length : Nat) : Int), ((33 : Nat) : Int)))
theorem lens_eq (f : Fl) : (magic ++ zs 9).length = 16 ∧ ([2, f.M.toNat].flatMap (leB 2)).length = 4 ∧ ([1].flatMap (leB 4)).length = 4 ∧ ([f.E.toNat, 64].flatMap (leB 8)).length = 16 ∧ (leB 8 (hpos f)).length = 8 ∧ ([0].flatMap (leB 4)).length = 4 ∧ ([64, 56, f.sg.length, 64, 5, 4].flatMap (leB 2)).length = 12 := by
  refine ⟨rfl, ?_, ?_, ?_, leB_length _ _, ?_, ?_⟩ <;> simp [leB_length]
theorem and_of {a b : Prop} (x : a) (y : b) : a ∧ b := ⟨x, y⟩
theorem plens (f : Fl) : plen 7 (parts f) = 64 ∧ plen 8 (parts f) = 64 + 56 * f.sg.length ∧ plen 10 (parts f) = up16 (len1 f.sg) ∧ plen 11 (parts f) = up16 (len1 f.sg) + 24 * (f.sy.length + 1) ∧ plen 13 (parts f) = up16 (len2 (len1 f.sg) f.sy) ∧
    plen 16 (parts f) = hpos f ∧ plen 17 (parts f) = hpos f + 64 ∧ plen 18 (parts f) = hpos f + 128 ∧ plen 19 (parts f) = hpos f + 192 ∧ plen 20 (parts f) = hpos f + 256 := by
  obtain ⟨e0, e1, e2, e3, e4, e5, e6⟩ := lens_eq f
  have e7 := segR_len (64 + 56 * f.sg.length) f.sg
  have e8 : (64 + 56 * f.sg.length) + (segT (64 + 56 * f.sg.length) f.sg).length = len1 f.sg := segT_len f.sg (64 + 56 * f.sg.length)
  have e9 := zs_len (padN (len1 f.sg) 16)
  have e10 : (zs 24 ++ symsB 1 f.sy).length = 24 * (f.sy.length + 1) := by rw [List.length_append, zs_len, symsB_len]; omega
  have e11 : ([0] ++ namesB f.sy).length = 1 + namesN f.sy := by rw [List.length_append, namesB_len]; rfl
  have e12 := zs_len (padN (len2 (len1 f.sg) f.sy) 16)
  have e13 := relsB_len f.rl
  have e14 := textsB_len
  have e15 := zs_len (padN (len3 (len2 (len1 f.sg) f.sy) f.rl) 16)
  have e16 := zs_len 64
  have u1 : up16 (len1 f.sg) = len1 f.sg + padN (len1 f.sg) 16 := rfl
  have u2 : up16 (len2 (len1 f.sg) f.sy) = len2 (len1 f.sg) f.sy + padN (len2 (len1 f.sg) f.sy) 16 := rfl
  have u3 : hpos f = len3 (len2 (len1 f.sg) f.sy) f.rl + padN (len3 (len2 (len1 f.sg) f.sy) f.rl) 16 := rfl
  have v2 : len2 (len1 f.sg) f.sy = up16 (len1 f.sg) + 24 * (f.sy.length + 1) + (1 + namesN f.sy) := rfl
  have v3 : len3 (len2 (len1 f.sg) f.sy) f.rl = up16 (len2 (len1 f.sg) f.sy) + 24 * f.rl.length + 33 := rfl
  unfold parts
  refine and_of (by simp only [plen, e0, e1, e2, e3, e4, e5, e6]) ?_
  simp only [plen, secB_len, e0, e1, e2, e3, e4, e5, e6, e7, e9, e10, e11, e12, e13, e14, e15, e16]
  clear e0 e1 e2 e3 e4 e5 e6 e7 e9 e10 e11 e12 e13 e14 e15 e16
  generalize (segT (64 + 56 * f.sg.length) f.sg).length = T at *
  generalize padN (len1 f.sg) 16 = P1 at *
  generalize padN (len2 (len1 f.sg) f.sy) 16 = P2 at *
  generalize padN (len3 (len2 (len1 f.sg) f.sy) f.rl) 16 = P3 at *
  generalize up16 (len2 (len1 f.sg) f.sy) = U2 at *
  generalize len3 (len2 (len1 f.sg) f.sy) f.rl = L3 at *
  generalize len2 (len1 f.sg) f.sy = L2 at *
  generalize up16 (len1 f.sg) = U1 at *
  generalize len1 f.sg = L1 at *
  generalize hpos f = Hp at *
  generalize namesN f.sy = N at *
  generalize f.sg.length = x at *
  generalize f.sy.length = y at *
  generalize f.rl.length = z at *
  subst e8 u1 v2 u2 v3 u3
  refine ⟨?_, ?_, ?_, ?_, ?_, ?_, ?_, ?_, ?_⟩ <;> omega
theorem posn {f : Fl} (hM : f.M = 62 ∨ f.M = 183) (hE : u64r f.E) (h1 : f.sg.length ≤ 24) (hp : hpos f ≤ 1048576) : Posn f := by
  obtain ⟨e0, e1, e2, e3, e4, e5, e6⟩ := lens_eq f
  obtain ⟨q7, q8, q10, q11, q13, q16, q17, q18, q19, q20⟩ := plens f
  have q1 : plen 1 (parts f) = 16 := by unfold parts; simp only [plen, e0]
  have q2 : plen 2 (parts f) = 20 := by unfold parts; simp only [plen, e0, e1]
  have q3 : plen 3 (parts f) = 24 := by unfold parts; simp only [plen, e0, e1, e2]
  have q4 : plen 4 (parts f) = 40 := by unfold parts; simp only [plen, e0, e1, e2, e3]
  have q6 : plen 6 (parts f) = 52 := by unfold parts; simp only [plen, e0, e1, e2, e3, e4, e5]
  have p1 := cut_at (f := f) (i := 1) rfl q1
  have p2 := cut_at (f := f) (i := 2) rfl q2
  have p3 := cut_at (f := f) (i := 3) rfl q3
  have p4 := cut_at (f := f) (i := 4) rfl q4
  have p6 := cut_at (f := f) (i := 6) rfl q6
  have hMn : f.M.toNat < 65536 := by rcases hM with e | e <;> rw [e] <;> decide
  have hEn : f.E.toNat < 18446744073709551616 := by unfold u64r at hE; omega
  have hpn : hpos f < 18446744073709551616 := by omega
  have hsn : f.sg.length < 65536 := by omega
  exact { c0 := cut_at (f := f) (i := 0) rfl rfl, c16 := p1.list (i := 0) rfl (by decide), c18 := p1.list (i := 1) rfl hMn, c20 := p2.list (i := 0) rfl (by decide), c24 := p3.list (i := 0) rfl hEn, c32 := p3.list (i := 1) rfl (by decide), c40 := p4.num hpn,
          c52 := p6.list (i := 0) rfl (by decide), c54 := p6.list (i := 1) rfl (by decide), c56 := p6.list (i := 2) rfl hsn, c58 := p6.list (i := 3) rfl (by decide), c60 := p6.list (i := 4) rfl (by decide),
          cR := cut_at (i := 7) rfl q7, cT := cut_at (i := 8) rfl q8, cS := cut_at (i := 10) rfl q10, cN := cut_at (i := 11) rfl q11, cL := cut_at (i := 13) rfl q13, h0 := cut_at (i := 16) rfl q16, h1 := cut_at (i := 17) rfl q17, h2 := cut_at (i := 18) rfl q18, h3 := cut_at (i := 19) rfl q19, h4 := cut_at (i := 20) rfl q20 }
def secPs (f : Fl) : List Pt :=
  [⟨0, 0, 0, 0⟩, ⟨2, 2, up16 (len1 f.sg), 24 * (f.sy.length + 1)⟩, ⟨3, 0, up16 (len1 f.sg) + 24 * (f.sy.length + 1), 1 + namesN f.sy⟩, ⟨4, 1, up16 (len2 (len1 f.sg) f.sy), 24 * f.rl.length⟩, ⟨3, 0, up16 (len2 (len1 f.sg) f.sy) + 24 * f.rl.length, 33⟩]
theorem hpos_ge (f : Fl) : up16 (len2 (len1 f.sg) f.sy) + 24 * f.rl.length + 33 ≤ hpos f ∧ up16 (len1 f.sg) + 24 * (f.sy.length + 1) + (1 + namesN f.sy) ≤ hpos f ∧ len1 f.sg ≤ hpos f := by
  have a := up16_ge (len1 f.sg)
  have b := up16_ge (len2 (len1 f.sg) f.sy)
  have c := up16_ge (len3 (len2 (len1 f.sg) f.sy) f.rl)
  have v2 : len2 (len1 f.sg) f.sy = up16 (len1 f.sg) + 24 * (f.sy.length + 1) + (1 + namesN f.sy) := rfl
  have v3 : len3 (len2 (len1 f.sg) f.sy) f.rl = up16 (len2 (len1 f.sg) f.sy) + 24 * f.rl.length + 33 := rfl
  have v4 : hpos f = up16 (len3 (len2 (len1 f.sg) f.sy) f.rl) := rfl
  omega
theorem ptRd {f : Fl} (p : Posn f) (hp : hpos f ≤ 1048576) (i : Nat) (q : Pt) (hi : (secPs f)[i]? = some q) : PtRd (outB f) (hpos f + 64 * i) q := by
  obtain ⟨g1, g2, g3⟩ := hpos_ge f
  unfold secPs at hi
  match i, hi with
  | 0, hi => simp at hi; subst hi; exact zero_rd p.h0
  | 1, hi => simp at hi; subst hi; exact sec_rd p.h1 (by omega) (by omega) (by omega) (by omega)
  | 2, hi => simp at hi; subst hi; exact sec_rd p.h2 (by omega) (by omega) (by omega) (by omega)
  | 3, hi => simp at hi; subst hi; exact sec_rd p.h3 (by omega) (by omega) (by omega) (by omega)
  | 4, hi => simp at hi; subst hi; exact sec_rd p.h4 (by omega) (by omega) (by omega) (by omega)
  | i + 5, hi => simp at hi
theorem sgMay_core (s : Sg) : sgMay (sgCore s) = sgMay s := rfl
theorem core_len {l m : List Sg} (h : l.map sgCore = m.map sgCore) : l.length = m.length := by have := congrArg List.length h; simpa using this
theorem core_all (p : Sg → Bool) (hp : ∀ s, p (sgCore s) = p s) {l m : List Sg} (h : l.map sgCore = m.map sgCore) : l.all p = m.all p := by
  have e : ∀ l : List Sg, (l.map sgCore).all p = l.all p := fun l => by
    rw [List.all_map]; congr 1; funext s; exact hp s
  rw [← e l, h, e m]
theorem mayF_core {f : Fl} {l : List Sg} (h : l.map sgCore = f.sg.map sgCore) : mayF ⟨f.M, f.E, l, f.sy, f.rl⟩ = mayF f := by
  unfold mayF
  rw [core_all sgMay sgMay_core h, core_len h]
theorem may_kind {f : Fl} (h : mayF f = true) : ∀ s ∈ f.sg, s.kind = 1 ∨ s.kind = 1610612737 := by
  unfold mayF at h
  simp only [Bool.and_eq_true, List.all_eq_true] at h
  intro s hs
  have := h.2.2.2.2.1 s hs
  unfold sgMay at this
  simp only [Bool.and_eq_true, Bool.or_eq_true, beq_iff_eq] at this
  exact this.1
/-- What is written is read. -/
theorem f14_x {H : Heap} {s : Option Sl} {f : Fl} (hs : RS 1 E8 H s (outB f)) (hm : mayF f = true) (hf : FOk f) (had : ∀ r ∈ f.rl, i64r r.add) (hL : lenF f ≤ 1048576) (hol : (outB f).length = lenF f) :
    ∃ sg' sy' rl' l'' H', f14 s H = some ((f.M, f.E, sg', sy', rl', 0), H') ∧ Kp No H H' ∧ FR H' ⟨f.M, f.E, sg', sy', rl'⟩ ⟨f.M, f.E, l'', f.sy, f.rl⟩ ∧ l''.map sgCore = f.sg.map sgCore := by
  obtain ⟨m1, m2, m3, m4, m5, m6, m7⟩ := may_ok hm hf
  have hpL : hpos f + 320 = lenF f := rfl
  obtain ⟨g1, g2, g3⟩ := hpos_ge f
  have p := posn m1 hf.e m2 (by omega)
  have hMn : f.M.toNat < 65536 := by rcases m1 with e | e <;> rw [e] <;> decide
  have hMi : ((f.M.toNat : Nat) : Int) = f.M := by rcases m1 with e | e <;> rw [e] <;> rfl
  have hEn : f.E.toNat < 18446744073709551616 := by have := hf.e; unfold u64r at this; omega
  have hEi : ((f.E.toNat : Nat) : Int) = f.E := nat_of hf.e.1
  obtain ⟨id, H1, e1, e2, e3⟩ := new_go s _ hs (by omega)
  have kP : Kp No H1 (H1 ++ [rrow id 0 0 none none none none]) := Kp.push1 _ _
  have h2 : RW H (H1 ++ [rrow id 0 0 none none none none]) H1.length id (outB f) 0 0 none none none none := by
    have e4 := e2
    obtain ⟨sx, x1, x2, x3, x4, x5⟩ := e4
    have hid := lt_of x1
    refine ⟨push_get _ _, rp_mono (rp_kp e2 kP) fun _ _ _ => trivial, fun sl e => ?_, by omega, e3.tr kP, e3.len, by omega⟩
    rw [kP.bk x1] at e
    cases e
    have := x2.lt
    omega
  obtain ⟨H3, a1, h3, k3⟩ := f39_x h2 f.M.toNat f.E.toNat hMn hEn p.c0 p.c16 p.c18 p.c20 p.c24 p.c52 p.c54 p.c58
  have hb := h3.bl
  obtain ⟨l'', sg', H4, b1, b2, b3, b4, b5, b6, b7⟩ := f40_x h3 f.sg m2 m5 (may_kind hm) (fun i x hi => by
    obtain ⟨a, pre, post, pre', post', y1, y2, y3, y4⟩ := seg_cut f.sg (64 + 56 * f.sg.length) i x hi
    have z1 := p.cR.at pre _ post y1
    have z2 := p.cT.at pre' _ post' y3
    rw [y2] at z1
    rw [y4] at z2
    exact ⟨a, z1, z2⟩) p.c32 p.c56 (cutn_ex (by have := p.cR.1; rw [segR_len] at this; omega))
  have h4 := h3.later b3 b2
  obtain ⟨sc', H5, c1, c2, c3, c4, c5⟩ := f41_x h4 (hpos f) (by omega) (secPs f) (by simp [secPs]) (ptRd p (by omega)) p.c40 p.c60 (cutn_ex (by show hpos f + 320 ≤ _; omega))
  have h5 := h4.later c3 c2
  have hrd : H1.length < H3.length := lt_of h3.hd
  have l34 := b3.len
  have l45 := c3.len
  obtain ⟨sy', H6, d1, d2, d3, d4, d5⟩ := f42_x h5 f.sy m3 m6 (secPs f) c4.rs rfl _ _ _ _ _ rfl rfl p.cN rfl p.cS rfl
  have h6 := h5.later d3 d2
  have l56 := d3.len
  have c4' := c4.kp d3 (fun sl e hx => by have := c5 sl e; have hx' : sl.id = H1.length := hx; omega)
  obtain ⟨rl', H7, f1, f2, f3, f4, f5⟩ := f43_x h6 f.rl m4 m3 m7 had (secPs f) c4'.rs rfl _ _ _ rfl p.cL rfl
  have h7 := h6.later f3 f2
  have l67 := f3.len
  have k57 : Kp (Ab.One H1.length) H5 H7 := d3.trans f3 (fun _ h => h) fun _ _ h => h
  have k47 : Kp (Ab.One H1.length) H4 H7 := c3.trans k57 (fun _ h => h) fun _ _ h => h
  have hFR : FR H7 ⟨f.M, f.E, sg', sy', rl'⟩ ⟨f.M, f.E, l'', f.sy, f.rl⟩ := by
    refine ⟨rfl, rfl, (b4.kp k47 fun sl e hx => ?_).rs, (d4.kp f3 fun sl e hx => ?_).rs, f4.rs, fun x hx => (b7 x hx).1.kp k47 fun sl e _ hh => ?_⟩
    · have := b5 sl e; have hx' : sl.id = H1.length := hx; omega
    · have := d5 sl e; have hx' : sl.id = H1.length := hx; omega
    · have := (b7 x hx).2 sl e; have hx' : sl.id = H1.length := hh; omega
  obtain ⟨H8, i1, i2⟩ := f12_x hFR
  rw [mayF_core b6, hm] at i1
  have h8 := h7.no i2
  obtain ⟨_, w1, w2, w3, w4, w5, w6, _⟩ := h7.g
  obtain ⟨_, v1, v2, v3, v4, v5, _, _⟩ := h8.g
  refine ⟨sg', sy', rl', l'', H8, ?_, h8.k, hFR.no i2, b6⟩
  have hsl : slen s = ((outB f).length : Int) := hs.slenEq
  have a1' : f39 (some (List.length H1, 0)) (H1 ++ [Blk.row [Cell.ptr (some (id, 0)), Cell.int IntKind.i64 0, Cell.int IntKind.u64 0, Cell.slice none, Cell.slice none, Cell.slice none, Cell.bool true, Cell.slice none] false]) = some ((), H3) := a1
  rw [hMi] at w1 v1
  rw [hEi] at w2 v2
  rw [q14, hsl, show decide (((outB f).length : Int) > 1048576) = false by simp; omega, cf, e1, Ab.bs]
  dsimp only
  rw [a1', Ab.bs, b1, Ab.bs, c1, Ab.bs, d1, Ab.bs, f1, Ab.bs]
  simp only [w1, w2, w3, w4, w5, w6, Ab.bs, tBool, tInt, tSlice, Bool.not_true, cf, i1, v1, v2, v3, v4, v5]
end
end Go.Proofs.Ytmjmhipfkbedaaa
