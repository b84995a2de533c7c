/- Layer 10: memory, of layer 9: what the functions of memory do, told by areas and rows alone. -/
import Derived.Test.YtnipccoenalnkaaGreatSmR
import Derived.Test.YtnipccoenalnkaaGreatSmO
import Derived.Test.YtnipccoenalnkaaGreatSt0
namespace Go.Proofs.YtnipccoenalnkaaGreat
open Go Go.Proofs.YtnipccoenalnkaaGreat.Ab
set_option linter.unusedVariables false
set_option linter.unusedSimpArgs false
set_option maxRecDepth 100000
noncomputable section
/-! ### areas without their places -/
def nfA (a : Ar) : Ar := { a with sl := some ⟨0, 0, a.data.length, a.data.length, 1⟩ }
def nfs (l : List Ar) : List Ar := l.map nfA
def Tru (l : List Ar) : Prop := ∀ a, a ∈ l → slen a.sl = (a.data.length : Int)
theorem MRg.tru {H : Heap} {b L : Nat} {s : Option Sl} {ars : List Ar} {rs : List (Option Sl)} {β : Type} {en : Nat} {eE : β → List Cell} {rows : List (List β)} (h : MRg en eE H b L s ars rs rows) : Tru ars := fun a ha => by
  obtain ⟨k, hk⟩ := List.mem_iff_getElem?.1 ha
  exact (h.dt k a hk).rs.slenEq
theorem has_nf {a : Ar} (h : slen a.sl = (a.data.length : Int)) (x : Int) : (nfA a).has x = a.has x := by
  unfold Ar.has; rw [h]; rfl
theorem find_nf (x : Int) : ∀ (l : List Ar) (i : Nat), Tru l → findFrom x (nfs l) i = findFrom x l i
  | [], i, _ => rfl
  | a :: l, i, h => by
    show findFrom x (nfA a :: nfs l) i = _
    unfold findFrom
    rw [has_nf (h a (by simp)) x, find_nf x l (i + 1) fun c hc => h c (by simp [hc])]
theorem findA_nf {l : List Ar} (h : Tru l) (x : Int) : findA (nfs l) x = findA l x := find_nf x l 0 h
theorem nfs_at (l : List Ar) (k : Nat) : (nfs l)[k]? = (l[k]?).map nfA := List.getElem?_map ..
theorem there_nf {l : List Ar} (h : Tru l) (t x : Int) (w : Bool) : thereA (nfs l) t x w = thereA l t x w := by
  unfold thereA
  rw [findA_nf h x, nfs_at]
  cases l[(findA l x).toNat]? <;> rfl
theorem all_nf {l : List Ar} (h : Tru l) (t x : Int) (w : Bool) : ∀ n i, allThere (nfs l) t x w i n = allThere l t x w i n
  | 0, _ => rfl
  | n + 1, i => by unfold allThere; rw [there_nf h, all_nf h t x w n (i + 1)]
theorem may_nf {l : List Ar} (h : Tru l) (t x w : Int) (wr : Bool) : mayA (nfs l) t x w wr = mayA l t x w wr := by
  unfold mayA; rw [all_nf h]
/-! ### memory without its places -/
structure Co where
  ars : List Ar
  rows : List (List Sto)
/-- Memory and its places. -/
structure Mm where
  b : Nat
  s : Option Sl
  ars : List Ar
  rs : List (Option Sl)
  rows : List (List Sto)
def Mm.In (M : Mm) (i : Nat) : Prop := InM M.b M.s M.ars M.rs i
def Mm.p (M : Mm) : Option (Nat × Nat) := some (M.b, 0)
structure Mm.Is (M : Mm) (H : Heap) (L : Nat) (c : Co) : Prop where
  m : MR H M.b L M.s M.ars M.rs M.rows
  a : nfs M.ars = c.ars
  r : M.rows = c.rows
structure Mm.To (M N : Mm) (H H' : Heap) : Prop where
  b : N.b = M.b
  k : Kp M.In H H'
  ids : ∀ i, N.In i → M.In i ∨ H.length ≤ i
theorem Mm.To.trans {M N O : Mm} {A B C : Heap} (p : M.To N A B) (q : N.To O B C) : M.To O A C := by
  refine ⟨q.b.trans p.b, p.k.trans q.k (fun _ h => h) fun i hi hf => ?_, fun i h => ?_⟩
  · rcases p.ids i hf with e | e
    · exact e
    · omega
  · rcases q.ids i h with e | e
    · exact p.ids i e
    · exact .inr (Nat.le_trans p.k.len e)
theorem Mm.To.no {M : Mm} {H H' : Heap} (k : Kp No H H') : M.To M H H' := ⟨rfl, k.mono fun i _ hf => absurd hf (fun h => h), fun i h => .inl h⟩
theorem Mm.Is.no {M : Mm} {H H' : Heap} {L : Nat} {c : Co} (h : M.Is H L c) (k : Kp No H H') : M.Is H' L c := ⟨h.m.no k, h.a, h.r⟩
theorem Mm.Is.other {M : Mm} {F : Nat → Prop} {H H' : Heap} {L : Nat} {c : Co} (h : M.Is H L c) (k : Kp F H H') (hd : ∀ i, M.In i → ¬ F i) : M.Is H' L c := ⟨h.m.other k hd, h.a, h.r⟩
theorem Mm.Is.len {M : Mm} {H : Heap} {L : Nat} {c : Co} (h : M.Is H L c) : M.ars.length = c.ars.length := by rw [← h.a]; simp [nfs]
theorem Mm.Is.tru {M : Mm} {H : Heap} {L : Nat} {c : Co} (h : M.Is H L c) : Tru M.ars := h.m.tru
theorem Mm.Is.may {M : Mm} {H : Heap} {L : Nat} {c : Co} (h : M.Is H L c) (t x w : Int) (wr : Bool) : mayA M.ars t x w wr = mayA c.ars t x w wr := by rw [← h.a, may_nf h.tru]
theorem Mm.Is.ge {M : Mm} {H : Heap} {L : Nat} {c : Co} (h : M.Is H L c) {i : Nat} (hi : M.In i) : L ≤ i := by
  obtain ⟨x, e⟩ := hi; exact h.m.ge x i e
theorem Mm.Is.lt {M : Mm} {H : Heap} {L : Nat} {c : Co} (h : M.Is H L c) {i : Nat} (hi : M.In i) : i < H.length := by
  obtain ⟨x, e⟩ := hi; exact h.m.lt x i e
/-- What holds of memory in the laws. -/
structure Co.Fit (c : Co) (N : Nat) : Prop where
  n : c.ars.length ≤ 1000
  d : ∀ a, a ∈ c.ars → a.data.length ≤ 1048576
  w : c.rows.length = 8
  g : ∀ l, l ∈ c.rows → l.length ≤ N ∧ ∀ st, st ∈ l → st.Good c.ars
theorem Mm.Is.dl {M : Mm} {H : Heap} {L N : Nat} {c : Co} (h : M.Is H L c) (f : c.Fit N) : ∀ a, a ∈ M.ars → a.data.length ≤ 1048576 := fun a ha => f.d (nfA a) (by rw [← h.a]; exact List.mem_map.2 ⟨a, ha, rfl⟩)
theorem Mm.Is.nl {M : Mm} {H : Heap} {L N : Nat} {c : Co} (h : M.Is H L c) (f : c.Fit N) : M.ars.length ≤ 1000 := by rw [h.len]; exact f.n
theorem Sto.Good.sh {st : Sto} {l m : List Ar} (h : st.Good l) (e : shapes l = shapes m) : st.Good m := ⟨h.w, found_shape e h.f⟩
theorem Co.Fit.row {c : Co} {N : Nat} (f : c.Fit N) {t : Nat} (ht : t < 8) : ∃ l, c.rows[t]? = some l ∧ l.length ≤ N ∧ ∀ st, st ∈ l → st.Good c.ars := by
  have h := List.getElem?_eq_getElem (l := c.rows) (i := t) (by rw [f.w]; exact ht)
  exact ⟨_, h, f.g _ (List.mem_of_getElem? h)⟩
theorem fit_set {c : Co} {N M : Nat} (f : c.Fit N) (hNM : N ≤ M) {ars : List Ar} (hs : shapes ars = shapes c.ars) (hd : ∀ a, a ∈ ars → a.data.length ≤ 1048576) (t : Nat) (l : List Sto) (hl : l.length ≤ M) (hg : ∀ st, st ∈ l → st.Good c.ars) : Co.Fit ⟨ars, c.rows.set t l⟩ M :=
  ⟨by show ars.length ≤ 1000; rw [len_shape hs]; exact f.n, hd, by simp [f.w], fun q hq => by
    obtain ⟨k, hk⟩ := List.mem_iff_getElem?.1 hq
    rcases set_at hk with ⟨_, rfl, _⟩ | ⟨_, hk⟩
    · exact ⟨hl, fun st h => (hg st h).sh hs.symm⟩
    · have := f.g q (List.mem_of_getElem? hk)
      exact ⟨by omega, fun st h => (this.2 st h).sh hs.symm⟩⟩
/-! ### Drain -/
/-! ### Flush -/
/-! ### Put, Store -/
theorem may_good {ars : List Ar} {t x w v : Int} (h : mayA ars t x w true = true) : Sto.Good ⟨x, w, v⟩ ars ∧ thrd t = true := by
  unfold mayA at h
  simp only [Bool.and_eq_true] at h
  exact ⟨⟨h.2.1, found_all h.2.2.2⟩, h.1⟩
def storeC (c : Co) (t x w v : Int) : Bool × Co :=
  bif mayA c.ars t x w true then match c.rows[t.toNat]? with
    | some l => (true, ⟨c.ars, c.rows.set t.toNat (l ++ [⟨x, w, zxv v w⟩])⟩)
    | none => (true, c)
  else (false, c)
theorem store_fit {c : Co} {N : Nat} (f : c.Fit N) (t x w v : Int) : (storeC c t x w v).2.Fit (N + 1) := by
  have f' : c.Fit (N + 1) := ⟨f.n, f.d, f.w, fun l hl => ⟨by have := (f.g l hl).1; omega, (f.g l hl).2⟩⟩
  unfold storeC
  cases hm : mayA c.ars t x w true
  · exact f'
  · obtain ⟨gd, ht⟩ := may_good (v := zxv v w) hm
    obtain ⟨_, t, rfl, h8⟩ := inb8 ht
    obtain ⟨l, hl, h1, h2⟩ := f.row h8
    have hl' : c.rows[((t : Nat) : Int).toNat]? = some l := hl
    rw [ct, hl']
    refine fit_set f (by omega) rfl f.d _ _ (by simp; omega) fun st hst => ?_
    rcases List.mem_append.1 hst with hst | hst
    · exact h2 st hst
    · simp at hst; rw [hst]; exact gd
theorem store_x {M : Mm} {H : Heap} {L N : Nat} {c : Co} (h : M.Is H L c) (f : c.Fit N) (hN : N < 65536) (t x w v : Int) :
    ∃ M' H', f32 M.p t x w v H = some ((storeC c t x w v).1, H') ∧ M'.Is H' L (storeC c t x w v).2 ∧ M.To M' H H' := by
  unfold storeC
  cases hm : mayA c.ars t x w true
  · obtain ⟨H1, e1, e2⟩ := f32_no (M.b, 0) M.ars t x w v H (h.m.rd (by have := h.nl f; omega)) (by rw [h.may]; exact hm)
    exact ⟨M, H1, e1, h.no e2, Mm.To.no e2⟩
  · obtain ⟨gd, ht⟩ := may_good (v := zxv v w) hm
    obtain ⟨_, t, rfl, h8⟩ := inb8 ht
    obtain ⟨l, hl, h1, h2⟩ := f.row h8
    have hl' : c.rows[((t : Nat) : Int).toNat]? = some l := hl
    rw [ct, hl']
    obtain ⟨r, H', e1, e2, e3⟩ := f32_yes h.m (h.nl f) (t : Int) x w v (by rw [h.may]; exact hm) (l := l) (by rw [h.r]; exact hl) (by omega)
    exact ⟨⟨M.b, M.s, M.ars, M.rs.set ((t : Nat) : Int).toNat r, M.rows.set ((t : Nat) : Int).toNat (l ++ [⟨x, w, zxv v w⟩])⟩, H', e1, ⟨e2, h.a, by show M.rows.set _ _ = _; rw [h.r]⟩, ⟨rfl, e3.k, e3.ids⟩⟩
/-! ### two memories -/
structure Two (H : Heap) (L : Nat) (M N : Mm) (c d : Co) : Prop where
  m : M.Is H L c
  n : N.Is H L d
  d : ∀ i, M.In i → ¬ N.In i
theorem Two.swap {H : Heap} {L : Nat} {M N : Mm} {c d : Co} (h : Two H L M N c d) : Two H L N M d c := ⟨h.n, h.m, fun i a b => h.d i b a⟩
theorem Two.step {H H' : Heap} {L : Nat} {M M' N : Mm} {c c' d : Co} (h : Two H L M N c d) (hm : M'.Is H' L c') (t : M.To M' H H') : Two H' L M' N c' d :=
  ⟨hm, h.n.other t.k fun i a b => h.d i b a, fun i a b => by
    rcases t.ids i a with e | e
    · exact h.d i e b
    · have := h.n.lt b; omega⟩
theorem Two.no {H H' : Heap} {L : Nat} {M N : Mm} {c d : Co} (h : Two H L M N c d) (k : Kp No H H') : Two H' L M N c d := ⟨h.m.no k, h.n.no k, h.d⟩
/-! ### an address -/
end
end Go.Proofs.YtnipccoenalnkaaGreat
