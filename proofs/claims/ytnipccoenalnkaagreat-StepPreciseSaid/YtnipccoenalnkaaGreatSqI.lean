/- Layer 10's laws: StepPrecise. -/
import Derived.Test.YtnipccoenalnkaaGreatSqH
import Derived.Test.YtnipccoenalnkaaGreatSmZ
namespace Go.Proofs.YtnipccoenalnkaaGreat
open Go Go.Proofs.YtnipccoenalnkaaGreat.Ab
set_option linter.unusedVariables false
set_option linter.unusedSimpArgs false
set_option maxRecDepth 100000
noncomputable section
theorem word_eq (w : ByteArray) (n : Int) (h : ∀ k : Fin 48, 1 ≤ k.val → strEq (wordList[k.val]'k.isLt) w = decide ((k.val : Int) = n)) (op : Int) (h1 : 1 ≤ op) (h2 : op ≤ 47) : strEq (wordAt op) w = (op == n) := by
  have hk : op.toNat < 48 := by omega
  have := h ⟨op.toNat, hk⟩ (by show 1 ≤ op.toNat; omega)
  have hw : wordAt op = wordList[op.toNat]'hk := by unfold wordAt; rw [List.getElem?_eq_getElem hk]; rfl
  rw [hw, this]
  rw [Bool.eq_iff_iff]; simp; omega
theorem w_xchg (op : Int) (h1 : 1 ≤ op) (h2 : op ≤ 47) : strEq (wordAt op) s_xchg = (op == 31) := word_eq _ _ (by decide +kernel) op h1 h2
theorem w_fence (op : Int) (h1 : 1 ≤ op) (h2 : op ≤ 47) : strEq (wordAt op) s_fence = (op == 44) := word_eq _ _ (by decide +kernel) op h1 h2
theorem w_sys (op : Int) (h1 : 1 ≤ op) (h2 : op ≤ 47) : strEq (wordAt op) s_sys = (op == 46) := word_eq _ _ (by decide +kernel) op h1 h2
theorem tStr (s : ByteArray) : (Cell.str s).toStr = some s := rfl
theorem f24_x (i : TInst) (h1 : 1 ≤ i.op) (h2 : i.op ≤ 47) (H : Heap) : Says (f24 i H) H (lkd i) := by
  rw [q24, f25_v]
  unfold lkd
  cases i.lock with
  | true => exact says_ret rfl
  | false =>
    refine says_push (b := Blk.row (wordList.map Cell.str) false) ?_
    obtain ⟨g1, g2⟩ := get_word H i.op (by omega) h2
    simp only [cf, Ab.bs, g1, g2, beq_self_eq_true, Bool.and_self, ct, tStr, w_xchg _ h1 h2, Bool.false_or]
    cases i.op == 31 <;> exact says_ret rfl
theorem store_ars (c : Co) (t x w v : Int) : (storeC c t x w v).2.ars = c.ars := by
  unfold storeC
  cases mayA c.ars t x w true
  · rfl
  · rw [cond_true]; split <;> rfl
theorem step_ars (c : Co) (i : TInst) (y : TRun) (hf : flushes i = false) : (co2 (co1 c 0 i) 0 i y).ars = c.ars := by
  unfold flushes at hf
  have hl : lkd i = false := by cases h : lkd i with | false => rfl | true => rw [h] at hf; cases hf
  unfold co2 co1 flushes
  rw [hf, cond_false, hl, cond_false]
  cases y.stores
  · rfl
  · exact store_ars _ _ _ _ _
theorem step_fault (c : Co) (x : TCpu) (i : TInst) (h0 : ((stepF c x 0 i).1 == 0) = false) (h7 : ((stepF c x 0 i).1 == 7) = false) : (stepF c x 0 i).2.1 = x ∧ ((stepF c x 0 i).2.2 = c ∨ (stepF c x 0 i).2.2 = (flushC c 0).2) := by
  revert h0 h7
  unfold stepF
  cases xmay i with
  | false => exact fun _ _ => ⟨rfl, .inl rfl⟩
  | true =>
    simp only [Bool.not_true, cf]
    cases hf : fault (stepY c x 0 i).end0 with
    | true =>
      intro _ _
      refine ⟨rfl, ?_⟩
      show co1 c 0 i = c ∨ co1 c 0 i = _
      unfold co1
      cases flushes i
      · exact .inl rfl
      · exact .inr rfl
    | false =>
      intro h0 h7
      have h0 : ((stepY c x 0 i).end0 == 0) = false := h0
      have h7 : ((stepY c x 0 i).end0 == 7) = false := h7
      unfold fault at hf
      simp only [bne, h0, h7, Bool.not_false, Bool.and_self] at hf
      cases hf
theorem step_good (c : Co) (x : TCpu) (i : TInst) (hm : xmay i = true) (hf : flushes i = false) (h : (stepF c x 0 i).1 = 0 ∨ (stepF c x 0 i).1 = 7) : (stepF c x 0 i).2.2.ars = c.ars := by
  revert h
  unfold stepF
  rw [hm]
  simp only [Bool.not_true, cf]
  cases hf' : fault (stepY c x 0 i).end0 with
  | false => exact fun _ => step_ars c i _ hf
  | true =>
    intro _
    show (co1 c 0 i).ars = _
    unfold co1
    rw [hf]; rfl
theorem eqA16 (r : TA16u64) : (r.a0 == r.a0 && (r.a1 == r.a1 && (r.a2 == r.a2 && (r.a3 == r.a3 && (r.a4 == r.a4 && (r.a5 == r.a5 && (r.a6 == r.a6 && (r.a7 == r.a7 && (r.a8 == r.a8 && (r.a9 == r.a9 && (r.a10 == r.a10 && (r.a11 == r.a11 && (r.a12 == r.a12 && (r.a13 == r.a13 && (r.a14 == r.a14 && (r.a15 == r.a15 && true)))))))))))))))) = true := by simp
theorem f7_x (s : TStart) (zs : List Ar) (hz : zs.length ≤ 9223372036854775807) (xs : List Cal) (hx : xs.length ≤ 9223372036854775807) (hxw : ∀ x, x ∈ xs → x.Wf) (H : Heap) (hR : RS 5 E5 H s.L zs) (hX : ∀ x, x ∈ zs → RS 1 E8 H x.sl x.data) (hS : RS 7 E7 H s.ops xs) (i : TInst) (hi : i.Wf) :
    ∃ H', f7 s i H = some (true, H') := by
  obtain ⟨M, q, c, N, L, H1, e8, m, f, hN⟩ := f8_x s zs hz xs hx hxw H hR hX hS
  obtain ⟨C, H2, eC, mC, kC⟩ := copy_x m f (by omega)
  obtain ⟨l, hl, ep⟩ := pend0 (m.no kC) f
  have Ca := ca_new (m.no kC) f s.C
  have k3 : Kp No H2 (H2 ++ [Blk.row s.C.row false]) := Kp.push1 _ _
  obtain ⟨M4, H4, e4, C4, m4⟩ := f12_x Ca (by omega) 0 i
  have hp : M4.p = M.p := by unfold Mm.p; rw [m4.b]
  have hCge : ∀ j, C.In j → H1.length ≤ j := fun j hj => mC.ge hj
  have hMlt : ∀ j, M.In j → j < H1.length := fun j hj => m.lt hj
  have mC4 : C.Is H4 H1.length c := (mC.no k3).other m4.k fun j hj e => by
    rcases e with e | e
    · have := mC.lt hj; omega
    · have := hCge j hj; have := hMlt j e; omega
  have hdj : ∀ j, M4.In j → ¬ C.In j := fun j hj hc => by
    rcases m4.ids j hj with e | e
    · have := hCge j hc; have := hMlt j e; omega
    · have := mC.lt hc; have := k3.len; omega
  rw [q7, e8, Ab.bs]
  simp only [eC, ep, Ab.bs, q9, f14_x, e4]
  obtain ⟨H5, em, k5⟩ := f18_x i hi H4
  rw [← may_eq i hi] at em
  have succ : (stepF c s.C 0 i).1 = 0 ∨ (stepF c s.C 0 i).1 = 7 → ∃ H', ((f18 i H4).bind fun v10 => bif !v10.1 then some (true, v10.2) else (f24 i v10.2).bind fun v9 => bif v9.1 then some (true, v9.2) else (f25 v9.2).bind fun v8 => Option.bind v8.1 fun v7 => bif inb i.op v7.len && v7.esz == 1 then (v8.2.get v7.id (v7.off + i.op.toNat * 1)).bind fun v6 => v6.toStr.bind fun v5 => bif strEq v5 s_fence then some (true, v8.2) else (f25 v8.2).bind fun v4 => Option.bind v4.1 fun v3 => bif inb i.op v3.len && v3.esz == 1 then (v4.2.get v3.id (v3.off + i.op.toNat * 1)).bind fun v2 => v2.toStr.bind fun v1 => bif strEq v1 s_sys then some (true, v4.2) else (f26 M.p C.p v4.2).bind fun v0 => bif v0.1 then some (true, v0.2) else some (false, v0.2) else none else none) = some (true, H') := by
    intro he
    rw [em, Ab.bs]
    cases hm : xmay i with
    | false => exact ⟨_, rfl⟩
    | true =>
      obtain ⟨o1, o2⟩ := xmay_op hm
      obtain ⟨H6, el, k6⟩ := f24_x i o1 o2 H5
      simp only [Bool.not_true, cf, el, Ab.bs]
      cases hlk : lkd i with
      | true => exact ⟨_, rfl⟩
      | false =>
        obtain ⟨g1, g2⟩ := get_word H6 i.op (by omega) o2
        have k7 : Kp No H6 (H6 ++ [Blk.row (wordList.map Cell.str) false]) := Kp.push1 _ _
        simp only [cf, f25_v, Ab.bs, g1, g2, beq_self_eq_true, Bool.and_self, ct, tStr, w_fence _ o1 o2]
        cases h44 : i.op == 44 with
        | true => exact ⟨_, rfl⟩
        | false =>
          obtain ⟨g3, g4⟩ := get_word (H6 ++ [Blk.row (wordList.map Cell.str) false]) i.op (by omega) o2
          have k8 : Kp No (H6 ++ [Blk.row (wordList.map Cell.str) false]) ((H6 ++ [Blk.row (wordList.map Cell.str) false]) ++ [Blk.row (wordList.map Cell.str) false]) := Kp.push1 _ _
          simp only [cf, Ab.bs, g3, g4, ct, tStr, w_sys _ o1 o2, beq_self_eq_true, Bool.and_self]
          cases h46 : i.op == 46 with
          | true => exact ⟨_, rfl⟩
          | false =>
            have kk := ((k5.tr k6).tr k7).tr k8
            have ha := step_good c s.C i hm (by unfold flushes; rw [hlk, h44, h46]; rfl) he
            have sx := same_x (C4.m.no kk) (mC4.no kk) (by rw [ha]) C4.fit.n
            rw [hp, ha, same_self] at sx
            simp only [cf, sx, Ab.bs, ct]
            exact ⟨_, rfl⟩
  cases h0 : (stepF c s.C 0 i).1 == 0 with
  | true => rw [ct]; exact succ (.inl (by simpa using h0))
  | false =>
    rw [cf]
    cases h7 : (stepF c s.C 0 i).1 == 7 with
    | true => rw [ct]; exact succ (.inr (by simpa using h7))
    | false =>
      rw [cf]
      obtain ⟨hcpu, hco⟩ := step_fault c s.C i h0 h7
      obtain ⟨C5, H6, e5, mC5, t5⟩ := flush_x mC4 f (by omega) 0
      have m6 : M4.Is H6 L (stepF c s.C 0 i).2.2 := C4.m.other t5.k hdj
      have hcid : H6[H2.length]? = some (.row s.C.row false) := by
        have := C4.cpu
        rw [hcpu] at this
        exact t5.k.at this fun hc => by have := mC.lt hc; omega
      have hlen : (stepF c s.C 0 i).2.2.ars.length = (flushC c 0).2.ars.length := by
        rcases hco with e | e <;> rw [e]
        exact (len_shape (flush_shape c 0)).symm
      have sx := same_x m6 mC5 hlen C4.fit.n
      rw [hp, show C5.p = C.p by unfold Mm.p; rw [t5.b]] at sx
      obtain ⟨l6, hl6, ep6⟩ := pend0 m6 C4.fit
      rw [hp] at ep6
      have pl := f10_x hcid
      simp only [e5, sx, ep6, pl, Ab.bs, eqA16, beq_self_eq_true, Bool.and_self, ct]
      rcases hco with e | e
      · rw [e, hl] at hl6
        cases hl6
        simp only [beq_self_eq_true, ct]
        cases sameFrom (stepF c s.C 0 i).2.2.ars (flushC c 0).2.ars <;> exact ⟨_, rfl⟩
      · rw [e, same_self, ct]
        have h6 : (flushC c 0).2.rows[0]? = some [] := by
          unfold flushC
          have h0 : c.rows[(0 : Int).toNat]? = some l := hl
          rw [show thrd 0 = true by decide, cond_true, h0]
          exact List.getElem?_set_self (List.getElem?_eq_some_iff.1 hl).1
        rw [e, h6] at hl6
        cases hl6
        cases ((([] : List Sto).length : Nat) : Int) == (l.length : Int) <;> exact ⟨_, rfl⟩
theorem holds7 (Hp : Heap) (xs : List TV) (_hn : NoOwn Hp) (hxs : TShAll Tryz.prog Hp 12 Tryz.f7.params.toList xs) : fnA CC7 Tryz.f7.results.toList (bodyOf Tryz.f7) Bool xs Hp (fun x _ => x.cell.bind Cell.toBool) = some true := by
  have hp : Tryz.f7.params.toList = [31, 56] := by kernel_rfl
  rw [hp] at hxs
  obtain ⟨x0, xr0, rfl, t0, hxs⟩ := hxs
  obtain ⟨x1, xr1, rfl, t1, hnil⟩ := hxs
  subst hnil
  obtain ⟨cs, rfl, s0⟩ := tsh_agg t0 Tryz.underlying31
  obtain ⟨ds, rfl, s1⟩ := tsh_agg t1 Tryz.underlying56
  obtain ⟨s, zs, ws, rfl, hR, hX, hm, hS, hW, hm'⟩ := start_of cs s0
  obtain ⟨i, rfl, hi⟩ := inst_of s1
  obtain ⟨H', h⟩ := f7_x s zs hm ws hm' hW Hp hR hX hS i hi
  exact law_ofN h7 (mkC_nat _ _ _ _) h
end
end Go.Proofs.YtnipccoenalnkaaGreat
