/- The abstract machine, 34: typed functions, by the shapes of their parameters and results. -/
import Derived.Test.YtnipccoenalnkaaGreatAb33
namespace Go.Proofs.YtnipccoenalnkaaGreat.Ab
open Go
set_option linter.unusedVariables false
set_option linter.unusedSimpArgs false

/-- The kinds of cells. -/
inductive CT where
  | i (k : IntKind)
  | b
  | s
  | l
  | p
  | m
  | f
def CT.D : CT → Type
  | .i _ => Int
  | .b => Bool
  | .s => ByteArray
  | .l => Option Sl
  | .p => Option (Nat × Nat)
  | .m => Option Nat
  | .f => Cell
def CT.enc : (t : CT) → t.D → Cell
  | .i k, v => .int k v
  | .b, v => .bool v
  | .s, v => .str v
  | .l, v => .slice v
  | .p, v => .ptr v
  | .m, v => .map v
  | .f, v => v
def CT.dec : (t : CT) → Cell → Option t.D
  | .i k, c => c.toInt k
  | .b, c => c.toBool
  | .s, c => c.toStr
  | .l, c => c.toSlice
  | .p, c => c.toPtr
  | .m, c => c.toMap
  | .f, c => some c
theorem CT.law : ∀ (t : CT) (c : Cell) (v : t.D), t.dec c = some v → c = t.enc v
  | .i k, .int k' n, v, h => by
    have h : (bif k == k' then some n else none) = some v := h
    cases hk : (k == k') with
    | true => rw [hk] at h; cases h; rw [eq_of_beq hk]; rfl
    | false => rw [hk] at h; cases h
  | .b, .bool _, v, h => by cases h; rfl
  | .s, .str _, v, h => by cases h; rfl
  | .l, .slice _, v, h => by cases h; rfl
  | .p, .ptr _, v, h => by cases h; rfl
  | .m, .map _, v, h => by cases h; rfl
  | .f, c, v, h => by cases h; rfl
/-- How a struct lies in cells. -/
structure Ag (α : Type) where
  enc : α → List Cell
  dec : List Cell → Option α
  law : ∀ l a, dec l = some a → l = enc a
/-- The shapes of data: a cell, a struct. -/
inductive Shp : Type 1 where
  | c (t : CT)
  | g (α : Type) (a : Ag α)
def Shp.D : Shp → Type
  | .c t => t.D
  | .g α _ => α
def Shp.enc : (s : Shp) → s.D → TV
  | .c t, v => .c (t.enc v)
  | .g _ a, v => .agg (a.enc v)
def Shp.dec : (s : Shp) → TV → Option s.D
  | .c t, .c x => t.dec x
  | .g _ a, .agg l => a.dec l
  | _, _ => none
theorem Shp.law : ∀ (s : Shp) (x : TV) (v : s.D), s.dec x = some v → x = s.enc v
  | .c t, .c x, v, h => by rw [show x = t.enc v from t.law x v h]; rfl
  | .g _ a, .agg l, v, h => by rw [show l = a.enc v from a.law l v h]; rfl
/-- Cells lie in a row from a place on. -/
def HasAt (H : Heap) (i o : Nat) (l : List Cell) : Prop := ∀ (j : Nat) (c : Cell), l[j]? = some c → H.get i (o + j) = some c
theorem hasAt_row {H : Heap} {i : Nat} {l : List Cell} {ro : Bool} (h : H[i]? = some (.row l ro)) : HasAt H i 0 l := fun j c hj => by
  unfold Heap.get
  rw [h, Nat.zero_add]
  exact hj
abbrev i64S : Shp := .c (.i .i64)
abbrev u64S : Shp := .c (.i .u64)
abbrev boS : Shp := .c .b
abbrev slS : Shp := .c .l
abbrev ptS : Shp := .c .p
/-- A function of data of some shapes. -/
def FunT : List Shp → Type → Type
  | [], R => R
  | s :: l, R => s.D → FunT l R
def curT {R : Type} : (ps : List Shp) → (List TV → R) → FunT ps R
  | [], g => g []
  | s :: l, g => fun x => curT l fun xs => g (s.enc x :: xs)
def appS {X : Type} : (ps : List Shp) → FunT ps (Heap → Option X) → List TV → Heap → Option X
  | [], f, [], H => f H
  | s :: l, f, x :: xs, H => (s.dec x).bind fun v => appS l (f v) xs H
  | _, _, _, _ => none
theorem appS_cur {X : Type} : ∀ (ps : List Shp) (g : List TV → Heap → Option X) (args : List TV) (H : Heap) (q : X), appS ps (curT ps g) args H = some q → g args H = some q
  | [], _, [], _, _, h => h
  | s :: l, g, x :: xs, H, q, h => by
    have h : (s.dec x).bind (fun v => appS l (curT l fun xs => g (s.enc v :: xs)) xs H) = some q := h
    simp only [Option.bind_eq_some_iff] at h
    obtain ⟨v, h1, h2⟩ := h
    rw [s.law x v h1]
    exact appS_cur l (fun xs => g (s.enc v :: xs)) xs H q h2
  | [], _, _ :: _, _, _, h => by cases h
  | _ :: _, _, [], _, _, h => by cases h
/-- Results of some shapes. -/
def ResT : List Shp → Type
  | [] => Unit
  | [s] => s.D
  | s :: t :: l => s.D × ResT (t :: l)
def encR : (rs : List Shp) → ResT rs → List TV
  | [], _ => []
  | [s], v => [s.enc v]
  | s :: t :: l, v => s.enc v.1 :: encR (t :: l) v.2
def decs : (rs : List Shp) → List TV → Option (ResT rs)
  | [], [] => some ()
  | [s], [x] => s.dec x
  | s :: t :: l, x :: xs => (s.dec x).bind fun v => (decs (t :: l) xs).bind fun w => some (v, w)
  | _, _ => none
def decR : (rs : List Shp) → AV → Option (ResT rs)
  | [s], .c x => s.dec (.c x)
  | [s], .agg l => s.dec (.agg l)
  | [], .tup l => decs [] l
  | s :: t :: l, .tup xs => decs (s :: t :: l) xs
  | _, _ => none
theorem decs_law : ∀ (rs : List Shp) (xs : List TV) (r : ResT rs), decs rs xs = some r → xs = encR rs r
  | [], [], _, _ => rfl
  | [s], [x], r, h => by rw [s.law x r h]; rfl
  | s :: t :: l, x :: xs, r, h => by
    have h : (s.dec x).bind (fun v => (decs (t :: l) xs).bind fun w => some (v, w)) = some r := h
    obtain ⟨v, h1, h⟩ := Option.bind_eq_some_iff.1 h
    obtain ⟨w, h2, h3⟩ := Option.bind_eq_some_iff.1 h
    cases h3
    rw [s.law x v h1, decs_law (t :: l) xs w h2]
    rfl
  | [], _ :: _, _, h => by cases h
  | [_], [], _, h => by cases h
  | [_], _ :: _ :: _, _, h => by cases h
  | _ :: _ :: _, [], _, h => by cases h
theorem decR_law : ∀ (rs : List Shp) (v : AV) (r : ResT rs), decR rs v = some r → v = oneOf (encR rs r)
  | [s], .c x, r, h => by rw [show (AV.c x) = TV.av (.c x) from rfl, s.law (.c x) r h]; rfl
  | [s], .agg x, r, h => by rw [show (AV.agg x) = TV.av (.agg x) from rfl, s.law (.agg x) r h]; rfl
  | [], .tup l, r, h => by rw [decs_law [] l r h]; rfl
  | s :: t :: l, .tup xs, r, h => by
    rw [decs_law (s :: t :: l) xs r h]
    cases l <;> rfl
  | [], .c _, _, h => by cases h
  | [], .agg _, _, h => by cases h
  | [], .lp _ _, _, h => by cases h
  | [_], .tup _, _, h => by cases h
  | [_], .lp _ _, _, h => by cases h
  | _ :: _ :: _, .c _, _, h => by cases h
  | _ :: _ :: _, .agg _, _, h => by cases h
  | _ :: _ :: _, .lp _ _, _, h => by cases h
/-- A callee: how it is asked for (0: it has a heap, 1: it leaves the heap alone, 2: it does not look at it), what it does. -/
structure SF (P : Program) where
  g : Nat
  F : FnSem
  w : Nat
  ok : FnOk P g F
  nat : FnNat F
  pure : w = 1 → FnPure F
  num : w = 2 → FnNum F
def SF.spec {P : Program} {g : Nat} {α : Type} {enc : α → List TV} {S : List TV → Heap → Option (α × Heap)} (ok : FnOk P g (specF enc S)) : SF P := ⟨g, specF enc S, 0, ok, specF_nat _ _, nofun, nofun⟩
def SF.read {P : Program} {g : Nat} {α : Type} {enc : α → List TV} {S : List TV → Heap → Option α} (ok : FnOk P g (readF enc S)) : SF P := ⟨g, readF enc S, 1, ok, pure_nat (readF_pure _ _), fun _ => readF_pure _ _, nofun⟩
def SF.nums {P : Program} {g : Nat} {F : FnSem} (ok : FnOk P g F) (n : FnNum F) : SF P := ⟨g, F, 2, ok, pure_nat (num_pure n), nofun, fun _ => n⟩
def SF.own {P : Program} {g : Nat} {S : ASem} (ok : FnOk P g (natF S)) : SF P := ⟨g, natF S, 0, ok, natF_nat _, nofun, nofun⟩
def fnsOf {P : Program} : List (SF P) → List (Nat × FnSem)
  | [] => []
  | s :: l => (s.g, s.F) :: fnsOf l
def kindsOf {P : Program} (n : Nat) : List (SF P) → List Nat
  | [] => []
  | s :: l => bif s.w == n then s.g :: kindsOf n l else (kindsOf n l).filter (· != s.g)
/-- A context of callees. -/
def mkC {P : Program} (l : List (SF P)) (own : List Nat) (nt : Nat) (live : List (Nat × Keep)) : Ctx := { P := P, own := own, fns := fnsOf l, nt := nt, pures := kindsOf 1 l, nums := kindsOf 2 l, live := live }
theorem mkC_callees {P : Program} : ∀ l : List (SF P), Callees P (fnsOf l) (kindsOf 1 l) (kindsOf 2 l)
  | [] => Callees.nil P
  | s :: l => by
    have ih := mkC_callees l
    have key : ∀ n, ∀ g, (kindsOf n (s :: l)).contains g = true → (g = s.g ∧ s.w = n) ∨ (g ≠ s.g ∧ (kindsOf n l).contains g = true) ∨ (g = s.g ∧ s.w = n) := by
      intro n g hg
      unfold kindsOf at hg
      cases hw : (s.w == n) with
      | true =>
        rw [hw, cond_true] at hg
        by_cases e : g = s.g
        · exact .inl ⟨e, eq_of_beq hw⟩
        · exact .inr (.inl ⟨e, by simpa [e] using hg⟩)
      | false =>
        rw [hw, cond_false] at hg
        simp at hg
        exact .inr (.inl ⟨hg.2, by simpa using hg.1⟩)
    constructor
    · intro g F e
      rcases fnOf_cons (show fnOf ((s.g, s.F) :: fnsOf l) g = some F from e) with ⟨rfl, rfl⟩ | ⟨_, e⟩
      · exact s.ok
      · exact ih.ok g F e
    · intro g F e
      rcases fnOf_cons (show fnOf ((s.g, s.F) :: fnsOf l) g = some F from e) with ⟨rfl, rfl⟩ | ⟨_, e⟩
      · exact s.nat
      · exact ih.nat g F e
    · intro g F e hc
      rcases fnOf_cons (show fnOf ((s.g, s.F) :: fnsOf l) g = some F from e) with ⟨rfl, rfl⟩ | ⟨hne, e⟩
      · rcases key 1 _ hc with ⟨_, h⟩ | ⟨h, _⟩ | ⟨_, h⟩
        · exact s.pure h
        · exact absurd rfl h
        · exact s.pure h
      · rcases key 1 _ hc with ⟨h, _⟩ | ⟨_, h⟩ | ⟨h, _⟩
        · exact absurd h hne
        · exact ih.pure g F e h
        · exact absurd h hne
    · intro g F e hc
      rcases fnOf_cons (show fnOf ((s.g, s.F) :: fnsOf l) g = some F from e) with ⟨rfl, rfl⟩ | ⟨hne, e⟩
      · rcases key 2 _ hc with ⟨_, h⟩ | ⟨h, _⟩ | ⟨_, h⟩
        · exact s.num h
        · exact absurd rfl h
        · exact s.num h
      · rcases key 2 _ hc with ⟨h, _⟩ | ⟨_, h⟩ | ⟨h, _⟩
        · exact absurd h hne
        · exact ih.num g F e h
        · exact absurd h hne
theorem mkC_nat {P : Program} (l : List (SF P)) (own : List Nat) (nt : Nat) (live : List (Nat × Keep)) : CtxNat (mkC l own nt live) := (show Callees (mkC l own nt live).P _ _ _ from mkC_callees l).ctx rfl rfl rfl
/-- A function's typed meaning. -/
noncomputable def mkF (C : Ctx) (f : Func) (ps rs : List Shp) : FunT ps (Heap → Option (ResT rs × Heap)) := curT ps fun args H => fnA C f.results.toList (bodyOf f) _ args H (decF (decR rs))
theorem mkF_lp {C : Ctx} (hN : CtxNat C) (f : Func) (ps rs : List Shp) : mkF C f ps rs = curT ps fun args H => fnL C (lpD C) f.results.toList (bodyOf f) args H (decF (decR rs)) := by
  unfold mkF
  congr 1
  funext args H
  exact fnA_lpD hN ..
def EqF {X : Type} : (ps : List Shp) → FunT ps X → FunT ps X → Prop
  | [], f, g => f = g
  | s :: l, f, g => ∀ x : s.D, EqF l (f x) (g x)
theorem eqF_of {X : Type} : ∀ (ps : List Shp) (f g : FunT ps X), f = g → EqF ps f g
  | [], _, _, h => h
  | _ :: l, _, _, h => fun x => eqF_of l _ _ (congrFun h x)
def IsF (C : Ctx) (f : Func) (ps rs : List Shp) (F : FunT ps (Heap → Option (ResT rs × Heap))) : Prop := F = mkF C f ps rs
theorem qF {C : Ctx} {f : Func} {ps rs : List Shp} {F : FunT ps (Heap → Option (ResT rs × Heap))} (h : IsF C f ps rs F) (hN : CtxNat C) : EqF ps F (curT ps fun args H => fnL C (lpD C) f.results.toList (bodyOf f) args H (decF (decR rs))) := eqF_of _ _ _ (Eq.trans h (mkF_lp hN f ps rs))
/-- Such a function as a callee. -/
theorem mkF_ok {P : Program} {l : List (SF P)} {own : List Nat} {nt : Nat} {live : List (Nat × Keep)} {C : Ctx} (hC : C = mkC l own nt live) {g : Nat} {f : Func} (hf : P.funcs[g]? = some f) {ps rs : List Shp} {F : FunT ps (Heap → Option (ResT rs × Heap))} (hF : IsF C f ps rs F) (hnt : nt = f.ntmps)
    (hm : P.follows .mixedOrders = true := by kernel_rfl) (hb : f.body = some (bodyOf f) := by kernel_rfl) (hname : (f.name == "runtime.NumGoroutine") = false := by kernel_rfl) : FnOk P g (specF (encR rs) (appS ps F)) := by
  unfold IsF at hF
  subst hC hF hnt
  exact spec_ok (C := mkC l own f.ntmps live) (mkC_callees l) rfl rfl rfl hm hf hb hname (Nat.le_refl _) (decR rs) (encR rs) (decR_law rs) _ fun args H q h => appS_cur ps _ args H q h
/-- A function that leaves the heap alone and does not look at it. -/
def appN (ps rs : List Shp) (F : FunT ps (ResT rs)) (args : List TV) : Option (List TV) :=
  match ps, F, args with
  | [], F, [] => some (encR rs F)
  | s :: l, F, x :: xs => (s.dec x).bind fun v => appN l rs (F v) xs
  | _, _, _ => none
def EqN {X : Type} : (ps : List Shp) → FunT ps (Heap → Option (X × Heap)) → FunT ps X → Prop
  | [], f, F => ∀ H : Heap, f H = some (F, H)
  | s :: l, f, F => ∀ x : s.D, EqN l (f x) (F x)
theorem appN_some {rs : List Shp} : ∀ (ps : List Shp) (f : FunT ps (Heap → Option (ResT rs × Heap))) (F : FunT ps (ResT rs)), EqN ps f F → ∀ (args vs : List TV), appN ps rs F args = some vs → ∃ r, vs = encR rs r ∧ ∀ H, appS ps f args H = some (r, H)
  | [], f, F, h, [], vs, hv => ⟨F, (Option.some.inj hv).symm, fun H => h H⟩
  | s :: l, f, F, h, x :: xs, vs, hv => by
    have hv : (s.dec x).bind (fun v => appN l rs (F v) xs) = some vs := hv
    simp only [Option.bind_eq_some_iff] at hv
    obtain ⟨v, h1, h2⟩ := hv
    obtain ⟨r, h3, h4⟩ := appN_some l (f v) (F v) (h v) xs vs h2
    refine ⟨r, h3, fun H => ?_⟩
    show (s.dec x).bind (fun v => appS l (f v) xs H) = _
    rw [h1]
    exact h4 H
  | [], _, _, _, _ :: _, _, hv => by cases hv
  | _ :: _, _, _, _, [], _, hv => by cases hv
theorem numS_ok {P : Program} {g : Nat} {α : Type} {enc : α → List TV} {S : List TV → Heap → Option (α × Heap)} (ok : FnOk P g (specF enc S)) {p : List TV → Option (List TV)} (h : ∀ args vs, p args = some vs → ∃ r, vs = enc r ∧ ∀ H, S args H = some (r, H)) : FnOk P g (numF p) := by
  intro R args H K r hr
  refine ok R args H K r ?_
  simp only [numF, Option.bind_eq_some_iff] at hr
  obtain ⟨vs, h1, h2⟩ := hr
  obtain ⟨x, rfl, h4⟩ := h args vs h1
  simp only [specF, h4, Option.bind_some]
  exact h2
theorem numN_ok {P : Program} {g : Nat} {ps rs : List Shp} {f : FunT ps (Heap → Option (ResT rs × Heap))} {F : FunT ps (ResT rs)} (ok : FnOk P g (specF (encR rs) (appS ps f))) (h : EqN ps f F) : FnOk P g (numF (appN ps rs F)) := numS_ok ok (appN_some ps f F h)
/-- A callee by its own body. -/
theorem mkC_own {P : Program} {l : List (SF P)} {own : List Nat} {nt : Nat} {live : List (Nat × Keep)} {C : Ctx} (hC : C = mkC l own nt live) {g : Nat} {f : Func} (hf : P.funcs[g]? = some f) (hnt : nt = f.ntmps)
    (hm : P.follows .mixedOrders = true := by kernel_rfl) (hb : f.body = some (bodyOf f) := by kernel_rfl) (hname : (f.name == "runtime.NumGoroutine") = false := by kernel_rfl) : FnOk P g (natF (runS C f.results.toList (bodyOf f))) := by
  subst hC hnt
  exact own_ok (C := mkC l own f.ntmps live) (mkC_callees l) rfl rfl rfl hm hf hb hname (Nat.le_refl _)
theorem mkC_closed {P : Program} {l : List (SF P)} {own : List Nat} {nt : Nat} {live : List (Nat × Keep)} {C : Ctx} (hC : C = mkC l own nt live) {g : Nat} {f : Func} (hf : P.funcs[g]? = some f) (hnt : nt = f.ntmps) (hrun : fnA C f.results.toList (bodyOf f) Bool [] [] (fun x _ => x.cell.bind Cell.toBool) = some true)
    (hm : P.follows .mixedOrders = true := by kernel_rfl) (hb : f.body = some (bodyOf f) := by kernel_rfl) (hname : (f.name == "runtime.NumGoroutine") = false := by kernel_rfl) : FnOk P g trueF := by
  subst hC hnt
  exact closed_ok (C := mkC l own f.ntmps live) (mkC_callees l) rfl rfl rfl hm hf hb hname (Nat.le_refl _) hrun
/-- A callee by its own body. -/
noncomputable def SF.ownK {P : Program} (g : Nat) (f : Func) (l : List (SF P)) (own : List Nat) (nt : Nat) (live : List (Nat × Keep)) (hf : P.funcs[g]? = some f) (hnt : nt = f.ntmps)
    (hm : P.follows .mixedOrders = true := by kernel_rfl) (hb : f.body = some (bodyOf f) := by kernel_rfl) (hname : (f.name == "runtime.NumGoroutine") = false := by kernel_rfl) : SF P :=
  SF.own (g := g) (S := runS (mkC l own nt live) f.results.toList (bodyOf f)) (mkC_own (C := mkC l own nt live) rfl hf hnt hm hb hname)
/-- A loop, and so many rounds of it. -/
noncomputable def dOf (C : Ctx) (c : Code) (n : Nat) (st : St) : Option (AExit × St) := loopN (exec C c) (keepOf C.live c) n st retD
theorem dOf_s {C : Ctx} (hN : CtxNat C) (c : Code) (n : Nat) (st : St) : dOf C c (n + 1) st = execL C (lpD C) c st (loopK (keepOf C.live c) (loopN (exec C c) (keepOf C.live c) n) retD) := loopN_stepD hN ..
end Go.Proofs.YtnipccoenalnkaaGreat.Ab
