/- Layer 10: a law's beginning; StepStack holds. -/
import Derived.Test.YtnipccoenalnkaaGreatSpH
namespace Go.Proofs.YtnipccoenalnkaaGreat
open Go Go.Proofs.YtnipccoenalnkaaGreat.Ab
set_option linter.unusedVariables false
set_option linter.unusedSimpArgs false
set_option maxRecDepth 100000
noncomputable section
theorem sixteen (l : List Int) (h : l.length = 16) : ∃ a0 a1 a2 a3 a4 a5 a6 a7 a8 a9 a10 a11 a12 a13 a14 a15 : Int, l = [a0, a1, a2, a3, a4, a5, a6, a7, a8, a9, a10, a11, a12, a13, a14, a15] := by
  refine ⟨l[0], l[1], l[2], l[3], l[4], l[5], l[6], l[7], l[8], l[9], l[10], l[11], l[12], l[13], l[14], l[15], ?_⟩
  refine List.ext_getElem h fun i h1 h2 => ?_
  have : i < 16 := by omega
  have e : i = 0 ∨ i = 1 ∨ i = 2 ∨ i = 3 ∨ i = 4 ∨ i = 5 ∨ i = 6 ∨ i = 7 ∨ i = 8 ∨ i = 9 ∨ i = 10 ∨ i = 11 ∨ i = 12 ∨ i = 13 ∨ i = 14 ∨ i = 15 := by omega
  rcases e with e | e | e | e | e | e | e | e | e | e | e | e | e | e | e | e <;> subst e <;> rfl
theorem cpu_of {H : Heap} {n : Nat} (cs : List Cell) (h : Sh Tryz.prog H (n + 3) 27 cs) : ∃ x : Cp, cs = x.row ∧ ∀ k, u64p (x.r k) := by
  obtain ⟨h1, h2⟩ := sh_struct h Tryz.underlying27
  have h1 : cs.length = 20 := h1.trans (by kernel_rfl)
  have cu : Tryz.prog.cellsOf 22 = 1 := by kernel_rfl
  have cb : Tryz.prog.cellsOf 4 = 1 := by kernel_rfl
  have cr : Tryz.prog.cellsOf 23 = 16 := by kernel_rfl
  have ct : Tryz.prog.cellsOf 25 = 3 := by kernel_rfl
  obtain ⟨r1, r2⟩ := sh_array (h2 0 _ rfl) Tryz.underlying23
  obtain ⟨t1, t2⟩ := sh_struct (h2 1 _ rfl) Tryz.underlying25
  obtain ⟨ip, zip, wip⟩ := sh_int (h2 2 _ rfl) Tryz.underlying22
  obtain ⟨C, zC⟩ := sh_bool (t2 0 _ rfl) Tryz.underlying4
  obtain ⟨O, zO⟩ := sh_bool (t2 1 _ rfl) Tryz.underlying4
  obtain ⟨res, zr, _⟩ := sh_int (t2 2 _ rfl) Tryz.underlying22
  obtain ⟨l, l1, l2, l3⟩ := rows_of (k := 1) (E := fun v : Int => [Cell.int .u64 v]) (Q := u64p) (S := Sh Tryz.prog H (n + 1) 22) (fun cs hs => by
    obtain ⟨v, e, w⟩ := sh_int hs Tryz.underlying22
    exact ⟨v, e, u64_of w⟩) (fun _ => rfl) 16 _ (by rw [r1, cr]) (fun i hi => by have := r2 i hi; rw [cu] at this; exact this)
  rw [cu] at zip zr
  rw [cb] at zC zO
  rw [cr] at l2
  rw [ct] at zC zO zr
  have l2' : (cs.drop 0).take 16 = l.flatMap fun v : Int => [Cell.int .u64 v] := l2
  have hll : (l.flatMap fun v : Int => [Cell.int .u64 v]).length = 16 := by rw [← l2']; simp; omega
  have d0 := drop_app (o := 0) l2' hll
  have dC := drop_app (o := 0) zC rfl
  have dO := drop_app (o := 1) zO rfl
  have dr := drop_app (o := 2) zr rfl
  have dt : cs.drop 16 = (cs.drop 16).take 3 ++ cs.drop (16 + 3) := drop_app rfl (by simp; omega)
  have dip := drop_app (o := 19) zip rfl
  have dz : cs.drop 20 = [] := List.drop_eq_nil_of_le (by omega)
  have tz : ((cs.drop 16).take 3).drop 3 = [] := List.drop_eq_nil_of_le (by simp; omega)
  generalize (cs.drop 16).take 3 = T at *
  have dC' : T = [Cell.bool C] ++ T.drop 1 := dC
  have dO' : T.drop 1 = [Cell.bool O] ++ T.drop 2 := dO
  have dr' : T.drop 2 = [Cell.int .u64 res] ++ T.drop 3 := dr
  have dip' : cs.drop (16 + 3) = [Cell.int .u64 ip] ++ cs.drop 20 := dip
  have d0' : cs = (l.flatMap fun v : Int => [Cell.int .u64 v]) ++ cs.drop 16 := d0
  rw [tz] at dr'
  rw [dr'] at dO'
  rw [dO'] at dC'
  rw [dz] at dip'
  rw [dip', dC'] at dt
  rw [dt] at d0'
  obtain ⟨a0, a1, a2, a3, a4, a5, a6, a7, a8, a9, a10, a11, a12, a13, a14, a15, rfl⟩ := sixteen l l1
  refine ⟨⟨fun k => match k with | 0 => a0 | 1 => a1 | 2 => a2 | 3 => a3 | 4 => a4 | 5 => a5 | 6 => a6 | 7 => a7 | 8 => a8 | 9 => a9 | 10 => a10 | 11 => a11 | 12 => a12 | 13 => a13 | 14 => a14 | 15 => a15 | _ => 0, C, O, res, ip⟩, d0'.trans rfl, fun k => ?_⟩
  match k with
  | 0 => exact l3 a0 (by simp)
  | 1 => exact l3 a1 (by simp)
  | 2 => exact l3 a2 (by simp)
  | 3 => exact l3 a3 (by simp)
  | 4 => exact l3 a4 (by simp)
  | 5 => exact l3 a5 (by simp)
  | 6 => exact l3 a6 (by simp)
  | 7 => exact l3 a7 (by simp)
  | 8 => exact l3 a8 (by simp)
  | 9 => exact l3 a9 (by simp)
  | 10 => exact l3 a10 (by simp)
  | 11 => exact l3 a11 (by simp)
  | 12 => exact l3 a12 (by simp)
  | 13 => exact l3 a13 (by simp)
  | 14 => exact l3 a14 (by simp)
  | 15 => exact l3 a15 (by simp)
  | k + 16 => show u64p 0; unfold u64p; decide
theorem start_of {H : Heap} (cs : List Cell) (h : Sh Tryz.prog H 12 31 cs) : ∃ (x : Cp) (l o : Option Sl) (m : Bool) (zs : List Ar) (ws : List Cal), cs = x.row ++ [.slice l, .slice o, .bool m] ∧ (∀ k, u64p (x.r k)) ∧
    RS 5 E5 H l zs ∧ (∀ z ∈ zs, RS 1 E8 H z.sl z.data) ∧ zs.length ≤ maxLen ∧ RS 7 E7 H o ws ∧ (∀ w ∈ ws, w.Wf) ∧ ws.length ≤ maxLen := by
  obtain ⟨h1, h2⟩ := sh_struct h Tryz.underlying31
  have h1 : cs.length = 23 := h1.trans (by kernel_rfl)
  have c27 : Tryz.prog.cellsOf 27 = 20 := by kernel_rfl
  have c28 : Tryz.prog.cellsOf 28 = 1 := by kernel_rfl
  have c29 : Tryz.prog.cellsOf 29 = 1 := by kernel_rfl
  have c4 : Tryz.prog.cellsOf 4 = 1 := by kernel_rfl
  obtain ⟨x, zx, hx⟩ := cpu_of _ (h2 0 _ rfl)
  obtain ⟨l, zs, zl, hR, hX, _, hm⟩ := sh_slice E5 (fun x => RS 1 E8 H x.sl x.data) E5_len (h2 1 _ rfl) Tryz.underlying28 (k := 5) (by kernel_rfl) (fun cs h => area_of cs h)
  obtain ⟨o, ws, zo, hS, hW, _, hm'⟩ := sh_slice E7 (fun x => x.Wf) E7_len (h2 2 _ rfl) Tryz.underlying29 (k := 7) (by kernel_rfl) (fun cs h => cal_of cs h)
  obtain ⟨m, zm⟩ := sh_bool (h2 3 _ rfl) Tryz.underlying4
  rw [c27] at zx
  rw [c28] at zl
  rw [c29] at zo
  rw [c4] at zm
  have d0 := drop_app (o := 0) zx rfl
  have d1 := drop_app (o := 20) zl rfl
  have d2 := drop_app (o := 21) zo rfl
  have d3 := drop_app (o := 22) zm rfl
  have dz : cs.drop 23 = [] := List.drop_eq_nil_of_le (by omega)
  refine ⟨x, l, o, m, zs, ws, ?_, hx, hR, hX, hm, hS, hW, hm'⟩
  have d0' : cs = x.row ++ cs.drop 20 := d0
  have d1' : cs.drop 20 = [Cell.slice l] ++ cs.drop 21 := d1
  have d2' : cs.drop 21 = [Cell.slice o] ++ cs.drop 22 := d2
  have d3' : cs.drop 22 = [Cell.bool m] ++ cs.drop 23 := d3
  rw [d0', d1', d2', d3', dz]; rfl
theorem holds3 (Hp : Heap) (xs : List TV) (_hn : NoOwn Hp) (hxs : TShAll Tryz.prog Hp 12 Tryz.f3.params.toList xs) : fnA CC3 Tryz.f3.results.toList (bodyOf Tryz.f3) Bool xs Hp (fun x _ => x.cell.bind Cell.toBool) = some true := by
  have hp : Tryz.f3.params.toList = [31, 3, 3, 2] := by kernel_rfl
  rw [hp] at hxs
  obtain ⟨x0, xr0, rfl, t0, hxs⟩ := hxs
  obtain ⟨x1, xr1, rfl, t1, hxs⟩ := hxs
  obtain ⟨x2, xr2, rfl, t2, hxs⟩ := hxs
  obtain ⟨x3, xr3, rfl, t3, hnil⟩ := hxs
  subst hnil
  obtain ⟨cs, rfl, s0⟩ := tsh_agg t0 Tryz.underlying31
  obtain ⟨c1, rfl, s1⟩ := tsh_c t1 (fun fs e => by rw [Tryz.underlying3] at e; cases e) (fun m e g => by rw [Tryz.underlying3] at g; cases g)
  obtain ⟨c2, rfl, s2⟩ := tsh_c t2 (fun fs e => by rw [Tryz.underlying3] at e; cases e) (fun m e g => by rw [Tryz.underlying3] at g; cases g)
  obtain ⟨c3, rfl, s3⟩ := tsh_c t3 (fun fs e => by rw [Tryz.underlying2] at e; cases e) (fun m e g => by rw [Tryz.underlying2] at g; cases g)
  obtain ⟨x, l, o, m, zs, ws, rfl, hu, hR, hX, hm, hS, hW, hm'⟩ := start_of cs s0
  obtain ⟨y1, e1, _⟩ := sh_int s1 Tryz.underlying3
  obtain ⟨y2, e2, _⟩ := sh_int s2 Tryz.underlying3
  obtain ⟨y3, e3, _⟩ := sh_int s3 Tryz.underlying2
  cases e1
  cases e2
  cases e3
  obtain ⟨H', h⟩ := f3_x l zs hm o ws hm' hW x hu m y1 y2 y3 Hp hR hX hS
  rw [f3_eq] at h
  exact law_of hN3 (fun v hv => by
    unfold dec3 at hv
    split at hv
    · cases hv; rfl
    · cases hv) h
end
end Go.Proofs.YtnipccoenalnkaaGreat
