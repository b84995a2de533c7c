/- Layer 10: memory, of layer 9: what the functions of memory do, told by areas and rows alone. -/
import Derived.Test.YtnipccoenalnkaaGreatSmR
import Derived.Test.YtnipccoenalnkaaGreatSmO
import Derived.Test.YtnipccoenalnkaaGreatSt0
namespace Go.Proofs.YtnipccoenalnkaaGreat
open Go Go.Proofs.YtnipccoenalnkaaGreat.Ab
set_option linter.unusedVariables false
set_option linter.unusedSimpArgs false
set_option maxRecDepth 100000
noncomputable section
/-! ### areas without their places -/
def nfA (a : Ar) : Ar := { a with sl := some ⟨0, 0, a.data.length, a.data.length, 1⟩ }
def nfs (l : List Ar) : List Ar := l.map nfA
def Tru (l : List Ar) : Prop := ∀ a, a ∈ l → slen a.sl = (a.data.length : Int)
theorem MRg.tru {H : Heap} {b L : Nat} {s : Option Sl} {ars : List Ar} {rs : List (Option Sl)} {β : Type} {en : Nat} {eE : β → List Cell} {rows : List (List β)} (h : MRg en eE H b L s ars rs rows) : Tru ars := fun a ha => by
  obtain ⟨k, hk⟩ := List.mem_iff_getElem?.1 ha
  exact (h.dt k a hk).rs.slenEq
theorem has_nf {a : Ar} (h : slen a.sl = (a.data.length : Int)) (x : Int) : (nfA a).has x = a.has x := by
  unfold Ar.has; rw [h]; rfl
theorem find_nf (x : Int) : ∀ (l : List Ar) (i : Nat), Tru l → findFrom x (nfs l) i = findFrom x l i
  | [], i, _ => rfl
  | a :: l, i, h => by
    show findFrom x (nfA a :: nfs l) i = _
    unfold findFrom
    rw [has_nf (h a (by simp)) x, find_nf x l (i + 1) fun c hc => h c (by simp [hc])]
theorem findA_nf {l : List Ar} (h : Tru l) (x : Int) : findA (nfs l) x = findA l x := find_nf x l 0 h
theorem nfs_at (l : List Ar) (k : Nat) : (nfs l)[k]? = (l[k]?).map nfA := List.getElem?_map ..
theorem there_nf {l : List Ar} (h : Tru l) (t x : Int) (w : Bool) : thereA (nfs l) t x w = thereA l t x w := by
  unfold thereA
  rw [findA_nf h x, nfs_at]
  cases l[(findA l x).toNat]? <;> rfl
theorem all_nf {l : List Ar} (h : Tru l) (t x : Int) (w : Bool) : ∀ n i, allThere (nfs l) t x w i n = allThere l t x w i n
  | 0, _ => rfl
  | n + 1, i => by unfold allThere; rw [there_nf h, all_nf h t x w n (i + 1)]
theorem may_nf {l : List Ar} (h : Tru l) (t x w : Int) (wr : Bool) : mayA (nfs l) t x w wr = mayA l t x w wr := by
  unfold mayA; rw [all_nf h]
theorem wr1_nf {l : List Ar} (h : Tru l) (x : Int) (c : UInt8) : nfs (wr1 l x c) = wr1 (nfs l) x c := by
  unfold wr1
  rw [findA_nf h x, nfs_at]
  cases l[(findA l x).toNat]? with
  | none => rfl
  | some a =>
    dsimp only [Option.map_some]
    unfold nfs
    rw [List.map_set]
    congr 1
    unfold nfA
    simp
theorem tru_wr1 {l : List Ar} (h : Tru l) (x : Int) (c : UInt8) : Tru (wr1 l x c) := by
  unfold wr1
  cases hl : l[(findA l x).toNat]? with
  | none => exact h
  | some a =>
    intro d hd
    obtain ⟨k, hk⟩ := List.mem_iff_getElem?.1 hd
    rcases set_at hk with ⟨_, rfl, _⟩ | ⟨_, hk⟩
    · have := h a (List.mem_of_getElem? hl)
      simpa using this
    · exact h d (List.mem_of_getElem? hk)
theorem writeN_nf (x v : Int) : ∀ (n i : Nat) (l : List Ar), Tru l → nfs (writeN l x v i n) = writeN (nfs l) x v i n
  | 0, _, _, _ => rfl
  | n + 1, i, l, h => by
    unfold writeN
    rw [writeN_nf x v n (i + 1) _ (tru_wr1 h _ _), wr1_nf h]
theorem found_nf {l : List Ar} (h : Tru l) {x : Int} {i n : Nat} (hf : Found (nfs l) x i n) : Found l x i n := fun j h1 h2 => by
  obtain ⟨k, a, e1, e2, e3⟩ := hf j h1 h2
  rw [nfs_at] at e1
  cases hk : l[k]? with
  | none => rw [hk] at e1; cases e1
  | some c =>
    rw [hk] at e1; cases e1
    exact ⟨k, c, hk, by rw [← has_nf (h c (List.mem_of_getElem? hk))]; exact e2, by rw [← findA_nf h]; exact e3⟩
theorem same_nf : ∀ l m : List Ar, sameFrom (nfs l) (nfs m) = sameFrom l m
  | a :: l, c :: m => by
    show sameFrom (nfA a :: nfs l) (nfA c :: nfs m) = _
    unfold sameFrom
    rw [same_nf l m]; rfl
  | [], _ => rfl
  | _ :: _, [] => rfl
theorem same_self : ∀ l : List Ar, sameFrom l l = true
  | [] => rfl
  | a :: l => by
    unfold sameFrom
    rw [same_self l]
    simp [sameA]
theorem wr1_len (l : List Ar) (x : Int) (c : UInt8) : (wr1 l x c).length = l.length := len_shape (wr1_shape l x c)
theorem wr1_data {l : List Ar} {N : Nat} (h : ∀ a, a ∈ l → a.data.length ≤ N) (x : Int) (c : UInt8) : ∀ a, a ∈ wr1 l x c → a.data.length ≤ N := by
  unfold wr1
  cases hl : l[(findA l x).toNat]? with
  | none => exact h
  | some a =>
    intro d hd
    obtain ⟨k, hk⟩ := List.mem_iff_getElem?.1 hd
    rcases set_at hk with ⟨_, rfl, _⟩ | ⟨_, hk⟩
    · simpa using h a (List.mem_of_getElem? hl)
    · exact h d (List.mem_of_getElem? hk)
theorem writeN_data {N : Nat} (x v : Int) : ∀ (n i : Nat) (l : List Ar), (∀ a, a ∈ l → a.data.length ≤ N) → ∀ a, a ∈ writeN l x v i n → a.data.length ≤ N
  | 0, _, _, h => h
  | n + 1, i, l, h => writeN_data x v n (i + 1) _ (wr1_data h _ _)
/-! ### memory without its places -/
structure Co where
  ars : List Ar
  rows : List (List Sto)
/-- Memory and its places. -/
structure Mm where
  b : Nat
  s : Option Sl
  ars : List Ar
  rs : List (Option Sl)
  rows : List (List Sto)
def Mm.In (M : Mm) (i : Nat) : Prop := InM M.b M.s M.ars M.rs i
def Mm.p (M : Mm) : Option (Nat × Nat) := some (M.b, 0)
structure Mm.Is (M : Mm) (H : Heap) (L : Nat) (c : Co) : Prop where
  m : MR H M.b L M.s M.ars M.rs M.rows
  a : nfs M.ars = c.ars
  r : M.rows = c.rows
structure Mm.To (M N : Mm) (H H' : Heap) : Prop where
  b : N.b = M.b
  k : Kp M.In H H'
  ids : ∀ i, N.In i → M.In i ∨ H.length ≤ i
theorem Mm.To.trans {M N O : Mm} {A B C : Heap} (p : M.To N A B) (q : N.To O B C) : M.To O A C := by
  refine ⟨q.b.trans p.b, p.k.trans q.k (fun _ h => h) fun i hi hf => ?_, fun i h => ?_⟩
  · rcases p.ids i hf with e | e
    · exact e
    · omega
  · rcases q.ids i h with e | e
    · exact p.ids i e
    · exact .inr (Nat.le_trans p.k.len e)
theorem Mm.To.no {M : Mm} {H H' : Heap} (k : Kp No H H') : M.To M H H' := ⟨rfl, k.mono fun i _ hf => absurd hf (fun h => h), fun i h => .inl h⟩
theorem Mm.Is.no {M : Mm} {H H' : Heap} {L : Nat} {c : Co} (h : M.Is H L c) (k : Kp No H H') : M.Is H' L c := ⟨h.m.no k, h.a, h.r⟩
theorem Mm.Is.other {M : Mm} {F : Nat → Prop} {H H' : Heap} {L : Nat} {c : Co} (h : M.Is H L c) (k : Kp F H H') (hd : ∀ i, M.In i → ¬ F i) : M.Is H' L c := ⟨h.m.other k hd, h.a, h.r⟩
theorem Mm.Is.len {M : Mm} {H : Heap} {L : Nat} {c : Co} (h : M.Is H L c) : M.ars.length = c.ars.length := by rw [← h.a]; simp [nfs]
theorem Mm.Is.tru {M : Mm} {H : Heap} {L : Nat} {c : Co} (h : M.Is H L c) : Tru M.ars := h.m.tru
theorem Mm.Is.may {M : Mm} {H : Heap} {L : Nat} {c : Co} (h : M.Is H L c) (t x w : Int) (wr : Bool) : mayA M.ars t x w wr = mayA c.ars t x w wr := by rw [← h.a, may_nf h.tru]
theorem Mm.Is.ge {M : Mm} {H : Heap} {L : Nat} {c : Co} (h : M.Is H L c) {i : Nat} (hi : M.In i) : L ≤ i := by
  obtain ⟨x, e⟩ := hi; exact h.m.ge x i e
theorem Mm.Is.lt {M : Mm} {H : Heap} {L : Nat} {c : Co} (h : M.Is H L c) {i : Nat} (hi : M.In i) : i < H.length := by
  obtain ⟨x, e⟩ := hi; exact h.m.lt x i e
/-- What holds of memory in the laws. -/
structure Co.Fit (c : Co) (N : Nat) : Prop where
  n : c.ars.length ≤ 1000
  d : ∀ a, a ∈ c.ars → a.data.length ≤ 1048576
  w : c.rows.length = 8
  g : ∀ l, l ∈ c.rows → l.length ≤ N ∧ ∀ st, st ∈ l → st.Good c.ars
theorem Mm.Is.dl {M : Mm} {H : Heap} {L N : Nat} {c : Co} (h : M.Is H L c) (f : c.Fit N) : ∀ a, a ∈ M.ars → a.data.length ≤ 1048576 := fun a ha => f.d (nfA a) (by rw [← h.a]; exact List.mem_map.2 ⟨a, ha, rfl⟩)
theorem Mm.Is.nl {M : Mm} {H : Heap} {L N : Nat} {c : Co} (h : M.Is H L c) (f : c.Fit N) : M.ars.length ≤ 1000 := by rw [h.len]; exact f.n
theorem Sto.Good.sh {st : Sto} {l m : List Ar} (h : st.Good l) (e : shapes l = shapes m) : st.Good m := ⟨h.w, found_shape e h.f⟩
theorem Mm.Is.good {M : Mm} {H : Heap} {L N : Nat} {c : Co} (h : M.Is H L c) {st : Sto} (g : st.Good c.ars) : st.Good M.ars := ⟨g.w, found_nf h.tru (by rw [h.a]; exact g.f)⟩
theorem Co.Fit.row {c : Co} {N : Nat} (f : c.Fit N) {t : Nat} (ht : t < 8) : ∃ l, c.rows[t]? = some l ∧ l.length ≤ N ∧ ∀ st, st ∈ l → st.Good c.ars := by
  have h := List.getElem?_eq_getElem (l := c.rows) (i := t) (by rw [f.w]; exact ht)
  exact ⟨_, h, f.g _ (List.mem_of_getElem? h)⟩
theorem fit_set {c : Co} {N M : Nat} (f : c.Fit N) (hNM : N ≤ M) {ars : List Ar} (hs : shapes ars = shapes c.ars) (hd : ∀ a, a ∈ ars → a.data.length ≤ 1048576) (t : Nat) (l : List Sto) (hl : l.length ≤ M) (hg : ∀ st, st ∈ l → st.Good c.ars) : Co.Fit ⟨ars, c.rows.set t l⟩ M :=
  ⟨by show ars.length ≤ 1000; rw [len_shape hs]; exact f.n, hd, by simp [f.w], fun q hq => by
    obtain ⟨k, hk⟩ := List.mem_iff_getElem?.1 hq
    rcases set_at hk with ⟨_, rfl, _⟩ | ⟨_, hk⟩
    · exact ⟨hl, fun st h => (hg st h).sh hs.symm⟩
    · have := f.g q (List.mem_of_getElem? hk)
      exact ⟨by omega, fun st h => (this.2 st h).sh hs.symm⟩⟩
/-! ### Drain -/
def drainC (c : Co) (t : Int) : Bool × Co :=
  bif thrd t then match c.rows[t.toNat]? with
    | some (st :: l) => (true, ⟨drained c.ars st, c.rows.set t.toNat l⟩)
    | _ => (false, c)
  else (false, c)
theorem drained_nf {l : List Ar} (h : Tru l) (st : Sto) : nfs (drained l st) = drained (nfs l) st := writeN_nf _ _ _ _ _ h
theorem drain_fit {c : Co} {N : Nat} (f : c.Fit N) (t : Int) : (drainC c t).2.Fit N := by
  unfold drainC
  cases ht : thrd t
  · exact f
  · obtain ⟨_, t, rfl, h8⟩ := inb8 ht
    obtain ⟨l, hl, h1, h2⟩ := f.row h8
    have hl' : c.rows[((t : Nat) : Int).toNat]? = some l := hl
    rw [ct, hl']
    cases l with
    | nil => exact f
    | cons st l => exact fit_set f (Nat.le_refl _) (writeN_shape _ _ _ _ _) (writeN_data _ _ _ _ _ f.d) _ _ (by simp at h1; omega) fun q hq => h2 q (by simp [hq])
theorem drain_x {M : Mm} {H : Heap} {L N : Nat} {c : Co} (h : M.Is H L c) (f : c.Fit N) (hN : N ≤ 1000000) (t : Int) :
    ∃ M' H', f58 M.p t H = some ((drainC c t).1, H') ∧ M'.Is H' L (drainC c t).2 ∧ M.To M' H H' := by
  unfold drainC
  cases ht : thrd t
  · refine ⟨M, H, ?_, h, Mm.To.no (Kp.refl _ _)⟩
    show f58 (some (M.b, 0)) t H = _
    rw [q58, f47_x, Ab.bs, ht]; rfl
  · obtain ⟨_, t, rfl, h8⟩ := inb8 ht
    obtain ⟨l, hl, h1, h2⟩ := f.row h8
    have hl' : c.rows[((t : Nat) : Int).toNat]? = some l := hl
    rw [ct, hl']
    have hm : M.rows[t]? = some l := by rw [h.r]; exact hl
    cases l with
    | nil => exact ⟨M, H, f58_nil' h.m _ ht hm, h, Mm.To.no (Kp.refl _ _)⟩
    | cons st l =>
      obtain ⟨r, H', e1, e2, e3⟩ := f58_yes h.m (h.nl f) (h.dl f) t ht hm (h.good (N := N) (h2 st (by simp))) (by simp at h1; omega)
      exact ⟨⟨M.b, M.s, drained M.ars st, M.rs.set t r, M.rows.set t l⟩, H', e1, ⟨e2, by rw [← h.a]; exact drained_nf h.tru st, by show M.rows.set t l = _; rw [h.r]; rfl⟩, ⟨rfl, e3.k, e3.ids⟩⟩
/-! ### Flush -/
def flushC (c : Co) (t : Int) : Int × Co :=
  bif thrd t then match c.rows[t.toNat]? with
    | some l => ((l.length : Int), ⟨l.foldl drained c.ars, c.rows.set t.toNat []⟩)
    | none => (0, c)
  else (0, c)
theorem foldl_shape : ∀ (l : List Sto) (ars : List Ar), shapes (l.foldl drained ars) = shapes ars
  | [], _ => rfl
  | st :: l, ars => (foldl_shape l _).trans (writeN_shape _ _ _ _ _)
theorem foldl_data {N : Nat} : ∀ (l : List Sto) (ars : List Ar), (∀ a, a ∈ ars → a.data.length ≤ N) → ∀ a, a ∈ l.foldl drained ars → a.data.length ≤ N
  | [], _, h => h
  | st :: l, ars, h => foldl_data l _ (writeN_data _ _ _ _ _ h)
theorem flush_fit {c : Co} {N : Nat} (f : c.Fit N) (t : Int) : (flushC c t).2.Fit N := by
  unfold flushC
  cases ht : thrd t
  · exact f
  · obtain ⟨_, t, rfl, h8⟩ := inb8 ht
    obtain ⟨l, hl, h1, h2⟩ := f.row h8
    have hl' : c.rows[((t : Nat) : Int).toNat]? = some l := hl
    rw [ct, hl']
    exact fit_set f (Nat.le_refl _) (foldl_shape _ _) (foldl_data _ _ f.d) _ _ (by simp) fun q hq => by simp at hq
theorem set_self {α : Type} {l : List α} {t : Nat} {x : α} (h : l[t]? = some x) : l.set t x = l := by
  refine List.ext_getElem? fun j => ?_
  by_cases e : t = j
  · subst e; rw [List.getElem?_set_self (List.getElem?_eq_some_iff.1 h).1, h]
  · rw [List.getElem?_set_ne e]
theorem loop27 {L N : Nat} (hN : N ≤ 1000000) (t : Nat) (h8 : t < 8) (b : Nat) : ∀ (l : List Sto) (m k : Nat) (M : Mm) (c : Co) (H : Heap), M.b = b → M.Is H L c → c.Fit N → c.rows[t]? = some l → k + l.length ≤ 2000000 →
    ∃ M' H', (D27_2 (m + l.length + 1) (some (b, 0)) (t : Int) (k : Int) H).bind J27_2 = some (((k + l.length : Nat) : Int), H') ∧ M'.Is H' L ⟨l.foldl drained c.ars, c.rows.set t []⟩ ∧ M.To M' H H'
  | [], m, k, M, c, H, hb, h, f, hl, hk => by
    have ht : thrd (t : Int) = true := by simp [thrd]; omega
    refine ⟨M, H, ?_, ⟨h.m, h.a, ?_⟩, Mm.To.no (Kp.refl _ _)⟩
    · subst hb
      rw [D27_2_s, f58_nil' h.m _ ht (by rw [h.r]; exact hl), Ab.bs, cf, Ab.bs, J27_2_0]; rfl
    · rw [h.r, set_self hl]
  | st :: l, m, k, M, c, H, hb, h, f, hl, hk => by
    have ht : thrd (t : Int) = true := by simp [thrd]; omega
    obtain ⟨M1, H1, e1, e2, e3⟩ := drain_x h f hN (t : Int)
    have f1 := drain_fit f (t : Int)
    have hl' : c.rows[((t : Nat) : Int).toNat]? = some (st :: l) := hl
    have hdr : drainC c (t : Int) = (true, ⟨drained c.ars st, c.rows.set t l⟩) := by
      unfold drainC; rw [ht, ct, hl']; rfl
    rw [hdr] at e1 e2 f1
    have hlt : t < c.rows.length := by rw [f.w]; exact h8
    obtain ⟨M2, H2, r1, r2, r3⟩ := loop27 hN t h8 b l m (k + 1) M1 _ H1 (e3.b.trans hb) e2 f1 (List.getElem?_set_self hlt) (by simp at hk; omega)
    refine ⟨M2, H2, ?_, ?_, e3.trans r3⟩
    · have e1 : f58 (some (b, 0)) (t : Int) H = some (true, H1) := by rw [← hb]; exact e1
      rw [show m + (st :: l).length + 1 = (m + l.length + 1) + 1 by simp; omega, D27_2_s, e1, Ab.bs, ct, i64_succ k (by omega), r1]
      simp; omega
    · have : (c.rows.set t l).set t [] = c.rows.set t [] := List.set_set ..
      rw [← this]; exact r2
theorem flush_x {M : Mm} {H : Heap} {L N : Nat} {c : Co} (h : M.Is H L c) (f : c.Fit N) (hN : N ≤ 1000000) (t : Int) :
    ∃ M' H', f27 M.p t H = some ((flushC c t).1, H') ∧ M'.Is H' L (flushC c t).2 ∧ M.To M' H H' := by
  rw [q27]
  unfold flushC
  cases ht : thrd t
  · refine ⟨M, H, ?_, h, Mm.To.no (Kp.refl _ _)⟩
    obtain ⟨n, e⟩ := LL27_2_of 0 (by omega) M.p t 0 H
    have : f58 M.p t H = some (false, H) := by
      show f58 (some (M.b, 0)) t H = _
      rw [q58, f47_x, Ab.bs, ht]; rfl
    rw [e, D27_2_s, this, Ab.bs, cf, Ab.bs, J27_2_0]; rfl
  · obtain ⟨_, t, rfl, h8⟩ := inb8 ht
    obtain ⟨l, hl, h1, h2⟩ := f.row h8
    have hl' : c.rows[((t : Nat) : Int).toNat]? = some l := hl
    rw [ct, hl']
    obtain ⟨n, e⟩ := LL27_2_of l.length (by omega) M.p (t : Int) 0 H
    obtain ⟨M', H', r1, r2, r3⟩ := loop27 hN t h8 M.b l n 0 M c H rfl h f hl (by omega)
    refine ⟨M', H', ?_, r2, r3⟩
    rw [e]
    have r1 : (D27_2 (n + l.length + 1) M.p (t : Int) 0 H).bind J27_2 = _ := r1
    rw [r1]
    simp
/-! ### Put, Store -/
def putC (c : Co) (t x w v : Int) : Bool × Co :=
  bif mayA c.ars t x w true then (true, ⟨writeN (flushC c t).2.ars x v 0 w.toNat, (flushC c t).2.rows⟩) else (false, c)
theorem may_good {ars : List Ar} {t x w v : Int} (h : mayA ars t x w true = true) : Sto.Good ⟨x, w, v⟩ ars ∧ thrd t = true := by
  unfold mayA at h
  simp only [Bool.and_eq_true] at h
  exact ⟨⟨h.2.1, found_all h.2.2.2⟩, h.1⟩
theorem flush_shape (c : Co) (t : Int) : shapes (flushC c t).2.ars = shapes c.ars := by
  unfold flushC
  cases thrd t
  · rfl
  · rw [ct]
    cases c.rows[t.toNat]? with
    | none => rfl
    | some l => exact foldl_shape l _
theorem put_fit {c : Co} {N : Nat} (f : c.Fit N) (t x w v : Int) : (putC c t x w v).2.Fit N := by
  unfold putC
  cases mayA c.ars t x w true
  · exact f
  · have g := flush_fit f t
    rw [ct]
    have hs : shapes (writeN (flushC c t).2.ars x v 0 w.toNat) = shapes (flushC c t).2.ars := writeN_shape _ _ _ _ _
    exact ⟨by show (writeN _ x v 0 w.toNat).length ≤ 1000; rw [len_shape hs]; exact g.n, writeN_data _ _ _ _ _ g.d, g.w, fun l hl => ⟨(g.g l hl).1, fun st h => ((g.g l hl).2 st h).sh hs.symm⟩⟩
theorem put_x {M : Mm} {H : Heap} {L N : Nat} {c : Co} (h : M.Is H L c) (f : c.Fit N) (hN : N ≤ 1000000) (t x w v : Int) :
    ∃ M' H', f38 M.p t x w v H = some ((putC c t x w v).1, H') ∧ M'.Is H' L (putC c t x w v).2 ∧ M.To M' H H' := by
  obtain ⟨H1, e1, e2⟩ := f59_x (M.b, 0) M.ars t x w true H (h.m.rd (by have := h.nl f; omega))
  have e1 : f59 M.p t x w true H = some (mayA c.ars t x w true, H1) := by rw [← h.may]; exact e1
  rw [q38, e1, Ab.bs]
  unfold putC
  cases hm : mayA c.ars t x w true
  · exact ⟨M, H1, rfl, h.no e2, Mm.To.no e2⟩
  · obtain ⟨M2, H2, g1, g2, g3⟩ := flush_x (h.no e2) f hN t
    have f2 := flush_fit f t
    obtain ⟨gd, ht⟩ := may_good (v := v) hm
    obtain ⟨H3, w1, w2, w3⟩ := f83_x g2.m (g2.nl f2) (g2.dl f2) x w v gd.w (g2.good (N := N) (gd.sh (flush_shape c t).symm)).f
    refine ⟨⟨M2.b, M2.s, writeN M2.ars x v 0 w.toNat, M2.rs, M2.rows⟩, H3, ?_, ⟨w2, ?_, g2.r⟩, (Mm.To.no e2).trans (g3.trans ⟨rfl, w3.k, w3.ids⟩)⟩
    · have g1 : f27 M.p t H1 = some ((flushC c t).1, H2) := g1
      have w1 : f83 M.p x w v H2 = some ((), H3) := by rw [← w1]; show f83 (some (M.b, 0)) x w v H2 = _; rw [g3.b]
      simp only [Bool.not_true, cf, g1, Ab.bs, w1]
      rfl
    · show nfs (writeN M2.ars x v 0 w.toNat) = writeN (flushC c t).2.ars x v 0 w.toNat
      rw [writeN_nf _ _ _ _ _ g2.tru, g2.a]
def storeC (c : Co) (t x w v : Int) : Bool × Co :=
  bif mayA c.ars t x w true then match c.rows[t.toNat]? with
    | some l => (true, ⟨c.ars, c.rows.set t.toNat (l ++ [⟨x, w, zxv v w⟩])⟩)
    | none => (true, c)
  else (false, c)
theorem store_fit {c : Co} {N : Nat} (f : c.Fit N) (t x w v : Int) : (storeC c t x w v).2.Fit (N + 1) := by
  have f' : c.Fit (N + 1) := ⟨f.n, f.d, f.w, fun l hl => ⟨by have := (f.g l hl).1; omega, (f.g l hl).2⟩⟩
  unfold storeC
  cases hm : mayA c.ars t x w true
  · exact f'
  · obtain ⟨gd, ht⟩ := may_good (v := zxv v w) hm
    obtain ⟨_, t, rfl, h8⟩ := inb8 ht
    obtain ⟨l, hl, h1, h2⟩ := f.row h8
    have hl' : c.rows[((t : Nat) : Int).toNat]? = some l := hl
    rw [ct, hl']
    refine fit_set f (by omega) rfl f.d _ _ (by simp; omega) fun st hst => ?_
    rcases List.mem_append.1 hst with hst | hst
    · exact h2 st hst
    · simp at hst; rw [hst]; exact gd
theorem store_x {M : Mm} {H : Heap} {L N : Nat} {c : Co} (h : M.Is H L c) (f : c.Fit N) (hN : N < 65536) (t x w v : Int) :
    ∃ M' H', f32 M.p t x w v H = some ((storeC c t x w v).1, H') ∧ M'.Is H' L (storeC c t x w v).2 ∧ M.To M' H H' := by
  unfold storeC
  cases hm : mayA c.ars t x w true
  · obtain ⟨H1, e1, e2⟩ := f32_no (M.b, 0) M.ars t x w v H (h.m.rd (by have := h.nl f; omega)) (by rw [h.may]; exact hm)
    exact ⟨M, H1, e1, h.no e2, Mm.To.no e2⟩
  · obtain ⟨gd, ht⟩ := may_good (v := zxv v w) hm
    obtain ⟨_, t, rfl, h8⟩ := inb8 ht
    obtain ⟨l, hl, h1, h2⟩ := f.row h8
    have hl' : c.rows[((t : Nat) : Int).toNat]? = some l := hl
    rw [ct, hl']
    obtain ⟨r, H', e1, e2, e3⟩ := f32_yes h.m (h.nl f) (t : Int) x w v (by rw [h.may]; exact hm) (l := l) (by rw [h.r]; exact hl) (by omega)
    exact ⟨⟨M.b, M.s, M.ars, M.rs.set ((t : Nat) : Int).toNat r, M.rows.set ((t : Nat) : Int).toNat (l ++ [⟨x, w, zxv v w⟩])⟩, H', e1, ⟨e2, h.a, by show M.rows.set _ _ = _; rw [h.r]⟩, ⟨rfl, e3.k, e3.ids⟩⟩
theorem pend_x {M : Mm} {H : Heap} {L : Nat} {c : Co} (h : M.Is H L c) (t : Nat) (ht : t < 8) {l : List Sto} (hl : c.rows[t]? = some l) : f17 M.p (t : Int) H = some ((l.length : Int), H) := f17_x h.m t ht (by rw [h.r]; exact hl)
theorem same_x {M N : Mm} {H : Heap} {L K : Nat} {c d : Co} (h : M.Is H L c) (h' : N.Is H K d) (hl : c.ars.length = d.ars.length) (hn : c.ars.length ≤ 1000) : f26 M.p N.p H = some (sameFrom c.ars d.ars, H) := by
  rw [← h.a, ← h'.a, same_nf]
  exact f26_x h.m h'.m (by rw [h.len, h'.len]; exact hl) (by rw [h.len]; exact hn)
/-! ### two memories -/
structure Two (H : Heap) (L : Nat) (M N : Mm) (c d : Co) : Prop where
  m : M.Is H L c
  n : N.Is H L d
  d : ∀ i, M.In i → ¬ N.In i
theorem Two.swap {H : Heap} {L : Nat} {M N : Mm} {c d : Co} (h : Two H L M N c d) : Two H L N M d c := ⟨h.n, h.m, fun i a b => h.d i b a⟩
theorem Two.step {H H' : Heap} {L : Nat} {M M' N : Mm} {c c' d : Co} (h : Two H L M N c d) (hm : M'.Is H' L c') (t : M.To M' H H') : Two H' L M' N c' d :=
  ⟨hm, h.n.other t.k fun i a b => h.d i b a, fun i a b => by
    rcases t.ids i a with e | e
    · exact h.d i e b
    · have := h.n.lt b; omega⟩
theorem Two.no {H H' : Heap} {L : Nat} {M N : Mm} {c d : Co} (h : Two H L M N c d) (k : Kp No H H') : Two H' L M N c d := ⟨h.m.no k, h.n.no k, h.d⟩
/-! ### an address -/
def atA (o : Cal) (l : List Ar) : Int :=
  bif !o.near then o.at' else bif l.length == 0 then o.at' else
    match l[(bif decide (o.inn.tmod (l.length : Int) < 0) then 0 - o.inn.tmod (l.length : Int) else o.inn.tmod (l.length : Int)).toNat]? with
    | some a => IntKind.u64.wrap (IntKind.u64.wrap (a.lo + o.at'.tmod 72) - 4)
    | none => 0
theorem at_p (o : Cal) (l : List Ar) (h : u64p o.at') : u64p (atA o l) := by
  unfold atA
  cases o.near
  · exact h
  · cases l.length == 0
    · simp only [Bool.not_true, cf]
      have : ∀ z, u64p (IntKind.u64.wrap z) := fun z => by rw [wrap_u64]; exact ⟨Int.emod_nonneg _ (by decide), Int.emod_lt_of_pos _ (by decide)⟩
      split
      · exact this _
      · exact ⟨by decide, by decide⟩
    · exact h
end
end Go.Proofs.YtnipccoenalnkaaGreat
