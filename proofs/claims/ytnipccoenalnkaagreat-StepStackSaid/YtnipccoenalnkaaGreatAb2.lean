/- The abstract machine, 2: what abstract values, heaps and frames have to do with the model's. -/
import Derived.Test.YtnipccoenalnkaaGreatAb1
import Derived.Laws.World
import Derived.Laws.Entries
import Derived.Laws.Strings
import Derived.Tactics
namespace Go.Proofs.YtnipccoenalnkaaGreat.Ab
open Go
set_option linter.unusedVariables false
set_option linter.unusedSimpArgs false

theorem strEq_toList (a b : ByteArray) : strEq a b = (a.toList == b.toList) := by unfold strEq; rw [ByteArray.toList_eq, ByteArray.toList_eq]
theorem strEq_beq (a b : ByteArray) : strEq a b = (a == b) := by
  unfold strEq
  obtain ⟨⟨a⟩⟩ := a
  obtain ⟨⟨b⟩⟩ := b
  rw [Bool.eq_iff_iff]
  constructor
  · intro h
    have : a = b := by simpa using h
    subst this
    show ((⟨a⟩ : Array UInt8) == ⟨a⟩) = true
    simp
  · intro h
    have : (⟨a⟩ : Array UInt8) = ⟨b⟩ := by simpa using (show ((⟨a⟩ : Array UInt8) == ⟨b⟩) = true from h)
    cases this
    simp
/-- Where an abstract block is: the real block, where it begins there, the real block's size (of a row of the machine's own). -/
abbrev Rho := Nat → Option (Nat × Nat × Option Nat)

mutual
inductive CR (ρ : Rho) : Cell → Value → Prop
  | bool (b : Bool) : CR ρ (.bool b) (.bool b)
  | int (k : IntKind) (n : Int) : CR ρ (.int k n) (.int k n)
  | str (s : ByteArray) : CR ρ (.str s) (.string s)
  | nilPtr : CR ρ (.ptr none) (.pointer none)
  | ptr {id off b o : Nat} {m : Option Nat} (h : ρ id = some (b, o, m)) : CR ρ (.ptr (some (id, off))) (.pointer (some ⟨b, o + off, none⟩))
  | nilSlice : CR ρ (.slice none) (.slice none 0 0)
  | slice {s : Sl} {b o : Nat} {m : Option Nat} {cap : Nat} {a : Addr} (h : ρ s.id = some (b, o, m) ∨ cap = 0) (hc : s.cap ≤ cap) (hl : s.len ≤ s.cap)
      (ha : a = ⟨b, o + s.off, none⟩ ∨ cap = 0) (hm : cap = s.cap ∨ ∀ m', m = some m' → o + s.off + cap * s.esz ≤ m') : CR ρ (.slice (some s)) (.slice (some a) s.len cap)
  | nilMap : CR ρ (.map none) (.map none)
  | map {id b : Nat} (h : ρ id = some (b, 0, none)) : CR ρ (.map (some id)) (.map (some b))
  | fn {f : FuncId} {first captured : List Cell} {first' captured' : Array Value} (h1 : LR ρ first first'.toList) (h2 : LR ρ captured captured'.toList) :
      CR ρ (.fn f first captured) (.func (.func f) first' captured')
  | nilFn : CR ρ .nilFn .nilFunc
inductive LR (ρ : Rho) : List Cell → List Value → Prop
  | nil : LR ρ [] []
  | cons {x : Cell} {v : Value} {xs : List Cell} {vs : List Value} (h : CR ρ x v) (t : LR ρ xs vs) : LR ρ (x :: xs) (v :: vs)
end
inductive TR (ρ : Rho) : TV → Value → Prop
  | c {x : Cell} {v : Value} (h : CR ρ x v) : TR ρ (.c x) v
  | agg {cs : List Cell} {vs : Array Value} (h : LR ρ cs vs.toList) : TR ρ (.agg cs) (.agg vs)
inductive TLR (ρ : Rho) : List TV → List Value → Prop
  | nil : TLR ρ [] []
  | cons {x : TV} {v : Value} {xs : List TV} {vs : List Value} (h : TR ρ x v) (t : TLR ρ xs vs) : TLR ρ (x :: xs) (v :: vs)
inductive AR (ρ : Rho) (L : Nat → Option Nat) : AV → Value → Prop
  | c {x : Cell} {v : Value} (h : CR ρ x v) : AR ρ L (.c x) v
  | agg {cs : List Cell} {vs : Array Value} (h : LR ρ cs vs.toList) : AR ρ L (.agg cs) (.agg vs)
  | tup {xs : List TV} {vs : Array Value} (h : TLR ρ xs vs.toList) : AR ρ L (.tup xs) (.tuple vs)
  | lp {k off b : Nat} (h : L k = some b) : AR ρ L (.lp k off) (.pointer (some ⟨b, off, none⟩))

def Rho.le (ρ ρ' : Rho) : Prop := ∀ id x, ρ id = some x → ρ' id = some x
theorem Rho.le_refl (ρ : Rho) : ρ.le ρ := fun _ _ h => h
theorem Rho.le_trans {a b c : Rho} (h : a.le b) (k : b.le c) : a.le c := fun i x hx => k i x (h i x hx)

mutual
theorem CR.mono {ρ ρ' : Rho} (h : ρ.le ρ') : ∀ {x : Cell} {v : Value}, CR ρ x v → CR ρ' x v
  | _, _, .bool b => .bool b
  | _, _, .int k n => .int k n
  | _, _, .str s => .str s
  | _, _, .nilPtr => .nilPtr
  | _, _, .ptr h1 => .ptr (h _ _ h1)
  | _, _, .nilSlice => .nilSlice
  | _, _, .slice h1 hc hl ha hm => .slice (h1.imp (h _ _) id) hc hl ha hm
  | _, _, .nilMap => .nilMap
  | _, _, .map h1 => .map (h _ _ h1)
  | _, _, .fn h1 h2 => .fn (LR.mono h h1) (LR.mono h h2)
  | _, _, .nilFn => .nilFn
theorem LR.mono {ρ ρ' : Rho} (h : ρ.le ρ') : ∀ {xs : List Cell} {vs : List Value}, LR ρ xs vs → LR ρ' xs vs
  | _, _, .nil => .nil
  | _, _, .cons a b => .cons (CR.mono h a) (LR.mono h b)
end
theorem TR.mono {ρ ρ' : Rho} (h : ρ.le ρ') {x : TV} {v : Value} (a : TR ρ x v) : TR ρ' x v := by
  cases a with
  | c a => exact .c (a.mono h)
  | agg a => exact .agg (a.mono h)
theorem TLR.mono {ρ ρ' : Rho} (h : ρ.le ρ') : ∀ {xs : List TV} {vs : List Value}, TLR ρ xs vs → TLR ρ' xs vs
  | _, _, .nil => .nil
  | _, _, .cons a b => .cons (a.mono h) (b.mono h)
theorem AR.mono {ρ ρ' : Rho} {L L' : Nat → Option Nat} (h : ρ.le ρ') {x : AV} {v : Value} (hL : ∀ k off b, x = .lp k off → L k = some b → L' k = some b) (a : AR ρ L x v) : AR ρ' L' x v := by
  cases a with
  | c a => exact .c (a.mono h)
  | agg a => exact .agg (a.mono h)
  | tup a => exact .tup (a.mono h)
  | lp a => exact .lp (hL _ _ _ rfl a)
theorem TR.av {ρ : Rho} {L : Nat → Option Nat} {x : TV} {v : Value} (a : TR ρ x v) : AR ρ L x.av v := by
  cases a with
  | c a => exact .c a
  | agg a => exact .agg a
theorem AR.out {ρ : Rho} {L : Nat → Option Nat} {x : AV} {y : TV} {v : Value} (a : AR ρ L x v) (h : x.out = some y) : TR ρ y v := by
  cases a with
  | c a => simp [AV.out] at h; subst h; exact .c a
  | agg a => simp [AV.out] at h; subst h; exact .agg a
  | tup a => simp [AV.out] at h
  | lp a => simp [AV.out] at h

theorem LR.length {ρ : Rho} : ∀ {xs : List Cell} {vs : List Value}, LR ρ xs vs → xs.length = vs.length
  | _, _, .nil => rfl
  | _, _, .cons _ t => congrArg (· + 1) t.length
theorem LR.get {ρ : Rho} : ∀ {xs : List Cell} {vs : List Value}, LR ρ xs vs → ∀ {j : Nat} {x : Cell}, xs[j]? = some x → ∃ v, vs[j]? = some v ∧ CR ρ x v
  | _, _, .nil, j, x, h => by simp at h
  | _, _, .cons (v := v) a t, 0, x, h => by simp at h; exact ⟨v, rfl, h ▸ a⟩
  | _, _, .cons a t, j + 1, x, h => by simp at h; simpa using t.get h
theorem LR.append {ρ : Rho} : ∀ {xs ys : List Cell} {vs us : List Value}, LR ρ xs vs → LR ρ ys us → LR ρ (xs ++ ys) (vs ++ us)
  | _, _, _, _, .nil, h => h
  | _, _, _, _, .cons a t, h => .cons a (t.append h)
theorem LR.take {ρ : Rho} : ∀ {xs : List Cell} {vs : List Value}, LR ρ xs vs → ∀ n, LR ρ (xs.take n) (vs.take n)
  | _, _, .nil, n => by simpa using .nil
  | _, _, .cons a t, 0 => .nil
  | _, _, .cons a t, n + 1 => .cons a (t.take n)
theorem LR.drop {ρ : Rho} : ∀ {xs : List Cell} {vs : List Value}, LR ρ xs vs → ∀ n, LR ρ (xs.drop n) (vs.drop n)
  | _, _, .nil, n => by simpa using .nil
  | _, _, .cons a t, 0 => .cons a t
  | _, _, .cons a t, n + 1 => t.drop n
theorem LR.replicate {ρ : Rho} {xs : List Cell} {vs : List Value} (h : LR ρ xs vs) : ∀ n, LR ρ (List.replicate n xs).flatten (List.replicate n vs).flatten
  | 0 => .nil
  | n + 1 => by simpa [List.replicate_succ] using h.append (h.replicate n)
theorem LR.of_get {ρ : Rho} : ∀ {xs : List Cell} {vs : List Value}, xs.length = vs.length → (∀ (j : Nat) (x : Cell), xs[j]? = some x → ∃ v, vs[j]? = some v ∧ CR ρ x v) → LR ρ xs vs
  | [], [], _, _ => .nil
  | x :: xs, v :: vs, hl, h => by
    obtain ⟨u, hu, hc⟩ := h 0 x rfl
    simp at hu
    exact .cons (hu ▸ hc) (LR.of_get (by simpa using hl) fun j y hy => by simpa using h (j + 1) y (by simpa using hy))
theorem TLR.length {ρ : Rho} : ∀ {xs : List TV} {vs : List Value}, TLR ρ xs vs → xs.length = vs.length
  | _, _, .nil => rfl
  | _, _, .cons _ t => congrArg (· + 1) t.length
theorem TLR.get {ρ : Rho} : ∀ {xs : List TV} {vs : List Value}, TLR ρ xs vs → ∀ {j : Nat} {x : TV}, xs[j]? = some x → ∃ v, vs[j]? = some v ∧ TR ρ x v
  | _, _, .nil, j, x, h => by simp at h
  | _, _, .cons (v := v) a t, 0, x, h => by simp at h; exact ⟨v, rfl, h ▸ a⟩
  | _, _, .cons a t, j + 1, x, h => by simp at h; simpa using t.get h
theorem TLR.append {ρ : Rho} : ∀ {xs ys : List TV} {vs us : List Value}, TLR ρ xs vs → TLR ρ ys us → TLR ρ (xs ++ ys) (vs ++ us)
  | _, _, _, _, .nil, h => h
  | _, _, _, _, .cons a t, h => .cons a (t.append h)
theorem TLR.of_cells {ρ : Rho} : ∀ {xs : List Cell} {vs : List Value}, LR ρ xs vs → TLR ρ (xs.map .c) vs
  | _, _, .nil => .nil
  | _, _, .cons a t => .cons (.c a) (TLR.of_cells t)

/-- A cell's value is one cell. -/
theorem CR.cells {ρ : Rho} {x : Cell} {v : Value} (h : CR ρ x v) : v.cells = #[v] := by cases h <;> rfl
theorem CR.one {ρ : Rho} {x : Cell} {v : Value} (h : CR ρ x v) : v.oneCell' = true := by cases h <;> rfl
theorem LR.one {ρ : Rho} : ∀ {xs : List Cell} {vs : List Value}, LR ρ xs vs → ∀ v ∈ vs, v.oneCell' = true
  | _, _, .nil, _, h => by simp at h
  | _, _, .cons a t, v, h => by
    rcases List.mem_cons.1 h with rfl | h
    · exact a.one
    · exact t.one v h
/-- The cells of a value. -/
theorem AR.cells {ρ : Rho} {L : Nat → Option Nat} {x : AV} {v : Value} {cs : List Cell} (h : AR ρ L x v) (hc : x.cells = some cs) : LR ρ cs v.cells.toList := by
  cases h with
  | c h => simp [AV.cells] at hc; subst hc; rw [h.cells]; exact .cons h .nil
  | agg h => simp [AV.cells] at hc; subst hc; exact h
  | tup h => simp [AV.cells] at hc
  | lp h => simp [AV.cells] at hc

/-! ## heaps -/
def OwnAt (H : Heap) (i : Nat) : Prop := (∃ cs, H[i]? = some (.row cs false)) ∨ ∃ es c, H[i]? = some (.map es c)
def RoAt (H : Heap) (i : Nat) : Prop := ∃ cs, H[i]? = some (.row cs true)
def unfrozen (fz : Nat × Nat) (n : Nat) : Prop := fz.1 = fz.2 ∨ n ≤ fz.1
theorem unfrozen.at' {fz : Nat × Nat} {n : Nat} (h : unfrozen fz n) : ∀ i, i < n → ¬(fz.1 ≤ i ∧ i < fz.2) := fun i hi hh => by
  unfold unfrozen at h; omega
def RowR (ρ : Rho) (w : World) (id : Nat) (cs : List Cell) (ro : Bool) : Prop :=
  ∃ b o m c e fz, ρ id = some (b, o, m) ∧ w.heap[b]? = some (.cells c e fz) ∧ (∀ j x, cs[j]? = some x → ∃ v, c[o + j]? = some v ∧ CR ρ x v) ∧
    (ro = false → m = some c.size ∧ unfrozen fz c.size)
inductive ER (ρ : Rho) : List (Cell × TV × Nat) → List MapEntry → Prop
  | nil : ER ρ [] []
  | cons {k : Cell} {v : TV} {born : Nat} {es : List (Cell × TV × Nat)} {k' v' : Value} {es' : List MapEntry} (hk : CR ρ k k') (hv : TR ρ v v') (t : ER ρ es es') :
      ER ρ ((k, v, born) :: es) ({ key := k', val := v', born } :: es')
def MapR (ρ : Rho) (w : World) (id : Nat) (es : List (Cell × TV × Nat)) (clock : Nat) : Prop :=
  ∃ b es', ρ id = some (b, 0, none) ∧ w.heap[b]? = some (.map es' clock) ∧ ER ρ es es'.toList
structure HR (ρ : Rho) (H : Heap) (w : World) : Prop where
  row : ∀ id cs ro, H[id]? = some (.row cs ro) → RowR ρ w id cs ro
  mapR : ∀ id es clock, H[id]? = some (.map es clock) → MapR ρ w id es clock
  inj : ∀ i j b o m o' m', OwnAt H i → OwnAt H j → ρ i = some (b, o, m) → ρ j = some (b, o', m') → i = j
  sep : ∀ i j b o m b' o' m', OwnAt H i → RoAt H j → ρ i = some (b, o, m) → ρ j = some (b', o', m') → b ≠ b'
  fresh : ∀ id, H.length ≤ id → ρ id = none
  inw : ∀ id b o m, ρ id = some (b, o, m) → b < w.heap.size
  hole : ∀ id, H[id]? = some .hole → ρ id = none

theorem ER.mono {ρ ρ' : Rho} (h : ρ.le ρ') : ∀ {es : List (Cell × TV × Nat)} {es' : List MapEntry}, ER ρ es es' → ER ρ' es es'
  | _, _, .nil => .nil
  | _, _, .cons a b c => .cons (a.mono h) (b.mono h) (c.mono h)

/-- Which real blocks are the heap's own. -/
def Own (ρ : Rho) (H : Heap) (b : Nat) : Prop := ∃ i o m, OwnAt H i ∧ ρ i = some (b, o, m)

structure LocR (ρ : Rho) (L : Nat → Option Nat) (loc : List (Nat × List Cell)) (w : World) : Prop where
  at' : ∀ k cs, look loc k = some cs → ∃ b c e fz, L k = some b ∧ w.heap[b]? = some (.cells c e fz) ∧ LR ρ cs c.toList ∧ unfrozen fz c.size
  inj : ∀ k j cs ds, look loc k = some cs → look loc j = some ds → L k = L j → k = j
  out : ∀ k cs b, look loc k = some cs → L k = some b → ∀ id o m, ρ id ≠ some (b, o, m)
def Mine (L : Nat → Option Nat) (loc : List (Nat × List Cell)) (b : Nat) : Prop := ∃ k cs, look loc k = some cs ∧ L k = some b
/-- The marks of ranges over functions among a frame's deferred calls: no call stands behind them. -/
def markOf (D : Nat) : Deferred := { target := .collected D, args := #[] }
def Marks (ds : List Deferred) (w : World) : Prop := ∃ Ds : List Nat, ds = Ds.map markOf ∧ Ds.Nodup ∧ ∀ D : Nat, D ∈ Ds → w.heap[D]? = some (Obj.deferred (some []))
theorem Marks.nil (w : World) : Marks [] w := ⟨[], rfl, .nil, fun d h => by cases h⟩
theorem Marks.keep {ds : List Deferred} {w w' : World} (h : Marks ds w) (k : ∀ D : Nat, w.heap[D]? = some (Obj.deferred (some [])) → w'.heap[D]? = w.heap[D]?) : Marks ds w' := by
  obtain ⟨Ds, h1, h2, h3⟩ := h
  exact ⟨Ds, h1, h2, fun D hD => (k D (h3 D hD)).trans (h3 D hD)⟩
structure SR (n : Nat) (ρ : Rho) (L : Nat → Option Nat) (st : St) (a : Act) (w : World) : Prop where
  env : ∀ t v, look st.env t = some v → ∃ u, a.tmps[t]? = some u ∧ AR ρ L v u
  loc : LocR ρ L st.loc w
  heap : HR ρ st.heap w
  defers : Marks a.defers w
  size : n ≤ a.tmps.size

/-- From one world to a later one: what may have changed. -/
structure Fr (ρ ρ' : Rho) (w w' : World) (Ch Ch' : Nat → Prop) : Prop where
  ext : ρ.le ρ'
  size : w.heap.size ≤ w'.heap.size
  same : ∀ b, b < w.heap.size → ¬ Ch b → w'.heap[b]? = w.heap[b]?
  ch : ∀ b, Ch' b → Ch b ∨ w.heap.size ≤ b
  rng : ∀ id b o m, ρ' id = some (b, o, m) → ρ id = some (b, o, m) ∨ Ch b ∨ w.heap.size ≤ b
  os : w'.os = w.os
  tape : w'.tape = w.tape
  output : w'.output = w.output
theorem Fr.refl (ρ : Rho) (w : World) (Ch : Nat → Prop) : Fr ρ ρ w w Ch Ch :=
  ⟨Rho.le_refl ρ, Nat.le_refl _, fun _ _ _ => rfl, fun _ h => .inl h, fun _ _ _ _ h => .inl h, rfl, rfl, rfl⟩
theorem Fr.trans {ρ ρ' ρ'' : Rho} {w w' w'' : World} {Ch Ch' Ch'' : Nat → Prop} (h : Fr ρ ρ' w w' Ch Ch') (k : Fr ρ' ρ'' w' w'' Ch' Ch'') : Fr ρ ρ'' w w'' Ch Ch'' where
  ext := Rho.le_trans h.ext k.ext
  size := Nat.le_trans h.size k.size
  same b hb hn := by
    have h1 := h.size
    rw [k.same b (by omega) (fun hc => by rcases h.ch b hc with h2 | h2; exact hn h2; omega), h.same b hb hn]
  ch b hb := by
    have h1 := h.size
    rcases k.ch b hb with h2 | h2
    · exact h.ch b h2
    · exact .inr (by omega)
  rng id b o m hi := by
    have h1 := h.size
    rcases k.rng id b o m hi with h2 | h2 | h2
    · exact h.rng id b o m h2
    · rcases h.ch b h2 with h3 | h3
      · exact .inr (.inl h3)
      · exact .inr (.inr h3)
    · exact .inr (.inr (by omega))
  os := k.os.trans h.os
  tape := k.tape.trans h.tape
  output := k.output.trans h.output
theorem Fr.weaken {ρ ρ' : Rho} {w w' : World} {Ch Ch' D D' : Nat → Prop} (h : Fr ρ ρ' w w' Ch Ch') (h1 : ∀ b, Ch b → D b) (h2 : ∀ b, D' b → Ch' b ∨ D b ∨ w.heap.size ≤ b) : Fr ρ ρ' w w' D D' where
  ext := h.ext
  size := h.size
  same b hb hn := h.same b hb fun hc => hn (h1 b hc)
  ch b hb := by
    rcases h2 b hb with h3 | h3 | h3
    · rcases h.ch b h3 with h4 | h4
      · exact .inl (h1 b h4)
      · exact .inr h4
    · exact .inl h3
    · exact .inr h3
  rng id b o m hi := by
    rcases h.rng id b o m hi with h3 | h3 | h3
    · exact .inl h3
    · exact .inr (.inl (h1 b h3))
    · exact .inr (.inr h3)
  os := h.os
  tape := h.tape
  output := h.output
def Ch (ρ : Rho) (L : Nat → Option Nat) (st : St) (b : Nat) : Prop := Own ρ st.heap b ∨ Mine L st.loc b

theorem HR.lt {ρ : Rho} {H : Heap} {w : World} (h : HR ρ H w) {id : Nat} {x : Nat × Nat × Option Nat} (hx : ρ id = some x) : id < H.length := by
  rcases Nat.lt_or_ge id H.length with h1 | h1
  · exact h1
  · rw [h.fresh id h1] at hx; cases hx

/-- Worlds that agree on all live blocks. -/
theorem HR.congr {ρ : Rho} {H : Heap} {w w' : World} (h : HR ρ H w) (hs : w.heap.size ≤ w'.heap.size)
    (hb : ∀ id b o m, ρ id = some (b, o, m) → (OwnAt H id ∨ RoAt H id) → w'.heap[b]? = w.heap[b]?) : HR ρ H w' where
  row id cs ro hr := by
    obtain ⟨b, o, m, c, e, fz, h1, h2, h3⟩ := h.row id cs ro hr
    refine ⟨b, o, m, c, e, fz, h1, ?_, h3⟩
    rw [hb id b o m h1 (by cases ro; exact .inl (.inl ⟨cs, hr⟩); exact .inr ⟨cs, hr⟩)]; exact h2
  mapR id es clock hr := by
    obtain ⟨b, es', h1, h2, h3⟩ := h.mapR id es clock hr
    exact ⟨b, es', h1, by rw [hb id b 0 none h1 (.inl (.inr ⟨es, clock, hr⟩))]; exact h2, h3⟩
  inj := h.inj
  sep := h.sep
  fresh := h.fresh
  inw id b o m hi := Nat.lt_of_lt_of_le (h.inw id b o m hi) hs
  hole := h.hole

end Go.Proofs.YtnipccoenalnkaaGreat.Ab
