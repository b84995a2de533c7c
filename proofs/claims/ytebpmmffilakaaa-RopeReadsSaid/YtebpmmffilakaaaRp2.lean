/- RopeReads: the law. -/
import Derived.Test.YtebpmmffilakaaaRp1
namespace Go.Proofs.Ytebpmmffilakaaa
open Go Go.Proofs.Ytebpmmffilakaaa.Ab
set_option linter.unusedVariables false
set_option linter.unusedSimpArgs false
set_option maxRecDepth 100000
noncomputable section
/-! 4: L02_RopeReads -/
noncomputable def CC4 : Ctx := { P := Try.prog, own := [10], fns := [(20, F20), (8, F8), (9, F9), (18, readF enc18 (semR18 g18)), (24, readF enc24 (semR24 g24)), (19, readF enc19 (semR19 g19)), (23, specF enc23 (sem23 f23)), (22, specF enc22 (sem22 f22)), (14, specF enc14 (sem14 f14)), (21, specF enc21 (sem21 f21)), (17, specF enc17 (sem17 f17)), (13, specF enc13 (sem13 f13)), (10, specF enc10 (sem10 f10))], nt := 145, pures := [18, 24, 19], nums := [20, 8, 9], live := [(8, ⟨[7, 8, 33, 34, 35], [], [6, 7, 8], []⟩)] }
theorem good4 : Callees Try.prog CC4.fns CC4.pures CC4.nums := (((((((((((((Callees.nil Try.prog).cons ok10 (specF_nat _ _)).cons ok13 (specF_nat _ _)).cons ok17 (specF_nat _ _)).cons ok21 (specF_nat _ _)).cons ok14 (specF_nat _ _)).cons ok22 (specF_nat _ _)).cons ok23 (specF_nat _ _)).cons_pure okR19 (readF_pure _ _)).cons_pure okR24 (readF_pure _ _)).cons_pure okR18 (readF_pure _ _)).cons_num ok9 F9_num).cons_num ok8 F8_num).cons_num ok20 F20_num
theorem hN4 : CtxNat CC4 := good4.ctx rfl rfl rfl
abbrev Ty4 := (Option Sl) → Int → (Option Sl) → Heap → Option (Bool × Heap)
def enc4 (r : Bool) : List TV := [.c (Cell.bool (r))]
def dec4 : AV → Option (Bool)
  | .c (Cell.bool q0) => some (q0)
  | _ => none
theorem de4 (v : AV) (r : Bool) (h : dec4 v = some r) : v = oneOf (enc4 r) := by
  unfold dec4 at h
  split at h
  · cases h; rfl
  · cases h
def sem4 (f : Ty4) : List TV → Heap → Option (Bool × Heap)
  | [.c (Cell.slice b), .c (Cell.int .i64 x1), .c (Cell.slice l)], H => f b x1 l H
  | _, _ => none
noncomputable def f4 : Ty4 := hide fun b x1 l H => fnA CC4 Try.f4.results.toList (bodyOf Try.f4) _ [.c (Cell.slice b), .c (Cell.int .i64 x1), .c (Cell.slice l)] H (decF dec4)
theorem f4_eq (b : (Option Sl)) (x1 : Int) (l : (Option Sl)) (H : Heap) : f4 b x1 l H = fnA CC4 Try.f4.results.toList (bodyOf Try.f4) _ [.c (Cell.slice b), .c (Cell.int .i64 x1), .c (Cell.slice l)] H (decF dec4) := by unfold f4; rw [hide_eq]
theorem f4_run (b : (Option Sl)) (x1 : Int) (l : (Option Sl)) (H : Heap) : f4 b x1 l H = fnL CC4 (lpD CC4) Try.f4.results.toList (bodyOf Try.f4) [.c (Cell.slice b), .c (Cell.int .i64 x1), .c (Cell.slice l)] H (decF dec4) := (f4_eq ..).trans (fnA_lpD hN4 ..)
def S4_8 (t7 : (Option (Nat × Nat))) (t8 : (Option (Nat × Nat))) (t33 : (Option Sl)) (t34 : Int) (t35 : Int) (H : Heap) : St := ⟨[(7, .c (Cell.ptr t7)), (8, .c (Cell.ptr t8)), (33, .c (Cell.slice t33)), (34, .c (Cell.int .i64 t34)), (35, .c (Cell.int .i64 t35))], [], H⟩
noncomputable def D4_8 (n : Nat) (t7 : (Option (Nat × Nat))) (t8 : (Option (Nat × Nat))) (t33 : (Option Sl)) (t34 : Int) (t35 : Int) (H : Heap) : Option (AExit × St) := loopN (exec CC4 (Code.l (Code.l (Code.r (Code.l (Code.r (Code.r (Code.r (Code.r (Code.r (bodyOf Try.f4))))))))))) (keepOf CC4.live (Code.l (Code.l (Code.r (Code.l (Code.r (Code.r (Code.r (Code.r (Code.r (bodyOf Try.f4))))))))))) n (S4_8 t7 t8 t33 t34 t35 H) retD
noncomputable def LL4_8 (t7 : (Option (Nat × Nat))) (t8 : (Option (Nat × Nat))) (t33 : (Option Sl)) (t34 : Int) (t35 : Int) (H : Heap) : Option (AExit × St) := loopsD CC4 (Code.l (Code.l (Code.r (Code.l (Code.r (Code.r (Code.r (Code.r (Code.r (bodyOf Try.f4)))))))))) (S4_8 t7 t8 t33 t34 t35 H)
theorem LL4_8_of (m : Nat) (hm : m < 18446744073709551616) (t7 : (Option (Nat × Nat))) (t8 : (Option (Nat × Nat))) (t33 : (Option Sl)) (t34 : Int) (t35 : Int) (H : Heap) : ∃ n, LL4_8 t7 t8 t33 t34 t35 H = D4_8 (n + m + 1) t7 t8 t33 t34 t35 H := loopsD_of _ _ _ m hm
def X4_8 (x0 : Option (Nat × Nat)) (x1 : Option (Nat × Nat)) (H : Heap) : St := { env := [(7, AV.c (Cell.ptr x0)), (8, AV.c (Cell.ptr x1))], loc := [], heap := H }
def X4_8a (x0 : Bool) (x1 : Option (Nat × Nat)) (x2 : Option (Nat × Nat)) (H : Heap) : St := { env := [(6, AV.c (Cell.bool x0)), (7, AV.c (Cell.ptr x1)), (8, AV.c (Cell.ptr x2))], loc := [], heap := H }
noncomputable def J4_8 : AExit × St → Option (Bool × Heap) := fun p => blockK 0 (seqK (execL CC4 (lpD CC4) (Code.r (Code.r (Code.r (Code.r (Code.r (Code.r (bodyOf Try.f4)))))))) (retA CC4 [ResultVar.tmp 6] (decF dec4))) p.fst p.snd
theorem D4_8_s : ∀ (n : Nat) (t7 t8 : Option (Nat × Nat)) (t33 : Option Sl) (t34 t35 : Int) (H : Heap), D4_8 (n + 1) t7 t8 t33 t34 t35 H = bif decide (t35 < t34) then t33.bind fun v188 => bif inb t35 v188.len && v188.esz == 3 then (H.get v188.id (v188.off + t35.toNat * 3)).bind fun v187 => (H.get v188.id (v188.off + t35.toNat * 3 + 1)).bind fun v186 => (H.get v188.id (v188.off + t35.toNat * 3 + 1 + 1)).bind fun v185 => (Cell.toInt IntKind.i64 v187).bind fun v184 => (Cell.toInt IntKind.i64 v186).bind fun v183 => (Cell.toInt IntKind.i64 v185).bind fun v182 => bif decide (t35 ≥ 30) then some (AExit.exit 0, X4_8 t7 t8 H) else bif v184 == 0 then t8.bind fun v94 => (H.get v94.fst (v94.snd + 2)).bind fun v93 => (Cell.toInt IntKind.i64 v93).bind fun v92 => bif v92 == 0 then bif !R2_Is v183 then t8.bind fun v31 => (H.put v31.fst (v31.snd + 2) [Cell.int IntKind.i64 2]).bind fun v30 => (f17 t7 v183 v30).bind fun v29 => (f21 t8 v183 v29.snd).bind fun v28 => (f14 v28.fst v28.snd).bind fun v27 => t8.bind fun v26 => (v27.snd.get v26.fst (v26.snd + 0)).bind fun v25 => v25.toSlice.bind fun v24 => t8.bind fun v23 => (v27.snd.get v23.fst (v23.snd + 1)).bind fun v22 => (Cell.toInt IntKind.i64 v22).bind fun v21 => t8.bind fun v20 => (v27.snd.get v20.fst (v20.snd + 2)).bind fun v19 => (Cell.toInt IntKind.i64 v19).bind fun v18 => bif v18 != 0 then bif !v29.fst == v27.fst then some (AExit.ret, X4_8a false t7 t8 v27.snd) else (g18 t7 v27.snd).bind fun v8 => t8.bind fun v7 => (v27.snd.get v7.fst (v7.snd + 2)).bind fun v6 => (Cell.toInt IntKind.i64 v6).bind fun v5 => bif v8 != v5 then some (AExit.ret, X4_8a false t7 t8 v27.snd) else (g24 t7 v27.snd).bind fun v4 => t8.bind fun v3 => (v27.snd.get v3.fst (v3.snd + 1)).bind fun v2 => (Cell.toInt IntKind.i64 v2).bind fun v1 => bif v4 != v1 then some (AExit.ret, X4_8a false t7 t8 v27.snd) else (g19 t7 v27.snd).bind fun v0 => bif v0 != 0 then some (AExit.ret, X4_8a false t7 t8 v27.snd) else D4_8 n t7 t8 t33 t34 (IntKind.i64.wrap (t35 + 1)) v27.snd else bif !v29.fst == v27.fst then some (AExit.ret, X4_8a false t7 t8 v27.snd) else (g18 t7 v27.snd).bind fun v17 => t8.bind fun v16 => (v27.snd.get v16.fst (v16.snd + 2)).bind fun v15 => (Cell.toInt IntKind.i64 v15).bind fun v14 => bif v17 != v14 then some (AExit.ret, X4_8a false t7 t8 v27.snd) else (g24 t7 v27.snd).bind fun v13 => t8.bind fun v12 => (v27.snd.get v12.fst (v12.snd + 1)).bind fun v11 => (Cell.toInt IntKind.i64 v11).bind fun v10 => bif v13 != v10 then some (AExit.ret, X4_8a false t7 t8 v27.snd) else (g19 t7 v27.snd).bind fun v9 => bif v9 != IntKind.i64.wrap (slen v24 - v21) then some (AExit.ret, X4_8a false t7 t8 v27.snd) else D4_8 n t7 t8 t33 t34 (IntKind.i64.wrap (t35 + 1)) v27.snd else (f17 t7 v183 H).bind fun v61 => (f21 t8 v183 v61.snd).bind fun v60 => (f14 v60.fst v60.snd).bind fun v59 => t8.bind fun v58 => (v59.snd.get v58.fst (v58.snd + 0)).bind fun v57 => v57.toSlice.bind fun v56 => t8.bind fun v55 => (v59.snd.get v55.fst (v55.snd + 1)).bind fun v54 => (Cell.toInt IntKind.i64 v54).bind fun v53 => t8.bind fun v52 => (v59.snd.get v52.fst (v52.snd + 2)).bind fun v51 => (Cell.toInt IntKind.i64 v51).bind fun v50 => bif v50 != 0 then bif !v61.fst == v59.fst then some (AExit.ret, X4_8a false t7 t8 v59.snd) else (g18 t7 v59.snd).bind fun v40 => t8.bind fun v39 => (v59.snd.get v39.fst (v39.snd + 2)).bind fun v38 => (Cell.toInt IntKind.i64 v38).bind fun v37 => bif v40 != v37 then some (AExit.ret, X4_8a false t7 t8 v59.snd) else (g24 t7 v59.snd).bind fun v36 => t8.bind fun v35 => (v59.snd.get v35.fst (v35.snd + 1)).bind fun v34 => (Cell.toInt IntKind.i64 v34).bind fun v33 => bif v36 != v33 then some (AExit.ret, X4_8a false t7 t8 v59.snd) else (g19 t7 v59.snd).bind fun v32 => bif v32 != 0 then some (AExit.ret, X4_8a false t7 t8 v59.snd) else D4_8 n t7 t8 t33 t34 (IntKind.i64.wrap (t35 + 1)) v59.snd else bif !v61.fst == v59.fst then some (AExit.ret, X4_8a false t7 t8 v59.snd) else (g18 t7 v59.snd).bind fun v49 => t8.bind fun v48 => (v59.snd.get v48.fst (v48.snd + 2)).bind fun v47 => (Cell.toInt IntKind.i64 v47).bind fun v46 => bif v49 != v46 then some (AExit.ret, X4_8a false t7 t8 v59.snd) else (g24 t7 v59.snd).bind fun v45 => t8.bind fun v44 => (v59.snd.get v44.fst (v44.snd + 1)).bind fun v43 => (Cell.toInt IntKind.i64 v43).bind fun v42 => bif v45 != v42 then some (AExit.ret, X4_8a false t7 t8 v59.snd) else (g19 t7 v59.snd).bind fun v41 => bif v41 != IntKind.i64.wrap (slen v56 - v53) then some (AExit.ret, X4_8a false t7 t8 v59.snd) else D4_8 n t7 t8 t33 t34 (IntKind.i64.wrap (t35 + 1)) v59.snd else (f17 t7 v183 H).bind fun v91 => (f21 t8 v183 v91.snd).bind fun v90 => (f14 v90.fst v90.snd).bind fun v89 => t8.bind fun v88 => (v89.snd.get v88.fst (v88.snd + 0)).bind fun v87 => v87.toSlice.bind fun v86 => t8.bind fun v85 => (v89.snd.get v85.fst (v85.snd + 1)).bind fun v84 => (Cell.toInt IntKind.i64 v84).bind fun v83 => t8.bind fun v82 => (v89.snd.get v82.fst (v82.snd + 2)).bind fun v81 => (Cell.toInt IntKind.i64 v81).bind fun v80 => bif v80 != 0 then bif !v91.fst == v89.fst then some (AExit.ret, X4_8a false t7 t8 v89.snd) else (g18 t7 v89.snd).bind fun v70 => t8.bind fun v69 => (v89.snd.get v69.fst (v69.snd + 2)).bind fun v68 => (Cell.toInt IntKind.i64 v68).bind fun v67 => bif v70 != v67 then some (AExit.ret, X4_8a false t7 t8 v89.snd) else (g24 t7 v89.snd).bind fun v66 => t8.bind fun v65 => (v89.snd.get v65.fst (v65.snd + 1)).bind fun v64 => (Cell.toInt IntKind.i64 v64).bind fun v63 => bif v66 != v63 then some (AExit.ret, X4_8a false t7 t8 v89.snd) else (g19 t7 v89.snd).bind fun v62 => bif v62 != 0 then some (AExit.ret, X4_8a false t7 t8 v89.snd) else D4_8 n t7 t8 t33 t34 (IntKind.i64.wrap (t35 + 1)) v89.snd else bif !v91.fst == v89.fst then some (AExit.ret, X4_8a false t7 t8 v89.snd) else (g18 t7 v89.snd).bind fun v79 => t8.bind fun v78 => (v89.snd.get v78.fst (v78.snd + 2)).bind fun v77 => (Cell.toInt IntKind.i64 v77).bind fun v76 => bif v79 != v76 then some (AExit.ret, X4_8a false t7 t8 v89.snd) else (g24 t7 v89.snd).bind fun v75 => t8.bind fun v74 => (v89.snd.get v74.fst (v74.snd + 1)).bind fun v73 => (Cell.toInt IntKind.i64 v73).bind fun v72 => bif v75 != v72 then some (AExit.ret, X4_8a false t7 t8 v89.snd) else (g19 t7 v89.snd).bind fun v71 => bif v71 != IntKind.i64.wrap (slen v86 - v83) then some (AExit.ret, X4_8a false t7 t8 v89.snd) else D4_8 n t7 t8 t33 t34 (IntKind.i64.wrap (t35 + 1)) v89.snd else bif v184 == 1 then (f22 t7 v182 H).bind fun v125 => (v125.snd.str v125.fst).bind fun v124 => (f21 t8 v182 v125.snd).bind fun v123 => bif sameS v125.fst v125.snd v123.snd then (v123.snd.str v123.fst).bind fun v122 => t8.bind fun v121 => (v123.snd.get v121.fst (v121.snd + 0)).bind fun v120 => v120.toSlice.bind fun v119 => t8.bind fun v118 => (v123.snd.get v118.fst (v118.snd + 1)).bind fun v117 => (Cell.toInt IntKind.i64 v117).bind fun v116 => t8.bind fun v115 => (v123.snd.get v115.fst (v115.snd + 2)).bind fun v114 => (Cell.toInt IntKind.i64 v114).bind fun v113 => bif v113 != 0 then bif !strEq v124 v122 then some (AExit.ret, X4_8a false t7 t8 v123.snd) else (g18 t7 v123.snd).bind fun v103 => t8.bind fun v102 => (v123.snd.get v102.fst (v102.snd + 2)).bind fun v101 => (Cell.toInt IntKind.i64 v101).bind fun v100 => bif v103 != v100 then some (AExit.ret, X4_8a false t7 t8 v123.snd) else (g24 t7 v123.snd).bind fun v99 => t8.bind fun v98 => (v123.snd.get v98.fst (v98.snd + 1)).bind fun v97 => (Cell.toInt IntKind.i64 v97).bind fun v96 => bif v99 != v96 then some (AExit.ret, X4_8a false t7 t8 v123.snd) else (g19 t7 v123.snd).bind fun v95 => bif v95 != 0 then some (AExit.ret, X4_8a false t7 t8 v123.snd) else D4_8 n t7 t8 t33 t34 (IntKind.i64.wrap (t35 + 1)) v123.snd else bif !strEq v124 v122 then some (AExit.ret, X4_8a false t7 t8 v123.snd) else (g18 t7 v123.snd).bind fun v112 => t8.bind fun v111 => (v123.snd.get v111.fst (v111.snd + 2)).bind fun v110 => (Cell.toInt IntKind.i64 v110).bind fun v109 => bif v112 != v109 then some (AExit.ret, X4_8a false t7 t8 v123.snd) else (g24 t7 v123.snd).bind fun v108 => t8.bind fun v107 => (v123.snd.get v107.fst (v107.snd + 1)).bind fun v106 => (Cell.toInt IntKind.i64 v106).bind fun v105 => bif v108 != v105 then some (AExit.ret, X4_8a false t7 t8 v123.snd) else (g19 t7 v123.snd).bind fun v104 => bif v104 != IntKind.i64.wrap (slen v119 - v116) then some (AExit.ret, X4_8a false t7 t8 v123.snd) else D4_8 n t7 t8 t33 t34 (IntKind.i64.wrap (t35 + 1)) v123.snd else none else bif v184 == 2 then (f23 t7 v182 H).bind fun v154 => (f21 t8 v182 v154.snd).bind fun v153 => t8.bind fun v152 => (v153.snd.get v152.fst (v152.snd + 0)).bind fun v151 => v151.toSlice.bind fun v150 => t8.bind fun v149 => (v153.snd.get v149.fst (v149.snd + 1)).bind fun v148 => (Cell.toInt IntKind.i64 v148).bind fun v147 => t8.bind fun v146 => (v153.snd.get v146.fst (v146.snd + 2)).bind fun v145 => (Cell.toInt IntKind.i64 v145).bind fun v144 => bif v144 != 0 then (g18 t7 v153.snd).bind fun v134 => t8.bind fun v133 => (v153.snd.get v133.fst (v133.snd + 2)).bind fun v132 => (Cell.toInt IntKind.i64 v132).bind fun v131 => bif v134 != v131 then some (AExit.ret, X4_8a false t7 t8 v153.snd) else (g24 t7 v153.snd).bind fun v130 => t8.bind fun v129 => (v153.snd.get v129.fst (v129.snd + 1)).bind fun v128 => (Cell.toInt IntKind.i64 v128).bind fun v127 => bif v130 != v127 then some (AExit.ret, X4_8a false t7 t8 v153.snd) else (g19 t7 v153.snd).bind fun v126 => bif v126 != 0 then some (AExit.ret, X4_8a false t7 t8 v153.snd) else D4_8 n t7 t8 t33 t34 (IntKind.i64.wrap (t35 + 1)) v153.snd else (g18 t7 v153.snd).bind fun v143 => t8.bind fun v142 => (v153.snd.get v142.fst (v142.snd + 2)).bind fun v141 => (Cell.toInt IntKind.i64 v141).bind fun v140 => bif v143 != v140 then some (AExit.ret, X4_8a false t7 t8 v153.snd) else (g24 t7 v153.snd).bind fun v139 => t8.bind fun v138 => (v153.snd.get v138.fst (v138.snd + 1)).bind fun v137 => (Cell.toInt IntKind.i64 v137).bind fun v136 => bif v139 != v136 then some (AExit.ret, X4_8a false t7 t8 v153.snd) else (g19 t7 v153.snd).bind fun v135 => bif v135 != IntKind.i64.wrap (slen v150 - v147) then some (AExit.ret, X4_8a false t7 t8 v153.snd) else D4_8 n t7 t8 t33 t34 (IntKind.i64.wrap (t35 + 1)) v153.snd else t8.bind fun v181 => (H.get v181.fst (v181.snd + 0)).bind fun v180 => v180.toSlice.bind fun v179 => t8.bind fun v178 => (H.get v178.fst (v178.snd + 1)).bind fun v177 => (Cell.toInt IntKind.i64 v177).bind fun v176 => t8.bind fun v175 => (H.get v175.fst (v175.snd + 2)).bind fun v174 => (Cell.toInt IntKind.i64 v174).bind fun v173 => bif v173 != 0 then (g18 t7 H).bind fun v163 => t8.bind fun v162 => (H.get v162.fst (v162.snd + 2)).bind fun v161 => (Cell.toInt IntKind.i64 v161).bind fun v160 => bif v163 != v160 then some (AExit.ret, X4_8a false t7 t8 H) else (g24 t7 H).bind fun v159 => t8.bind fun v158 => (H.get v158.fst (v158.snd + 1)).bind fun v157 => (Cell.toInt IntKind.i64 v157).bind fun v156 => bif v159 != v156 then some (AExit.ret, X4_8a false t7 t8 H) else (g19 t7 H).bind fun v155 => bif v155 != 0 then some (AExit.ret, X4_8a false t7 t8 H) else D4_8 n t7 t8 t33 t34 (IntKind.i64.wrap (t35 + 1)) H else (g18 t7 H).bind fun v172 => t8.bind fun v171 => (H.get v171.fst (v171.snd + 2)).bind fun v170 => (Cell.toInt IntKind.i64 v170).bind fun v169 => bif v172 != v169 then some (AExit.ret, X4_8a false t7 t8 H) else (g24 t7 H).bind fun v168 => t8.bind fun v167 => (H.get v167.fst (v167.snd + 1)).bind fun v166 => (Cell.toInt IntKind.i64 v166).bind fun v165 => bif v168 != v165 then some (AExit.ret, X4_8a false t7 t8 H) else (g19 t7 H).bind fun v164 => bif v164 != IntKind.i64.wrap (slen v179 - v176) then some (AExit.ret, X4_8a false t7 t8 H) else D4_8 n t7 t8 t33 t34 (IntKind.i64.wrap (t35 + 1)) H else none else some (AExit.exit 0, X4_8 t7 t8 H) := by intros; exact (loopN_stepD hN4 _ _ _ _).trans (by kernel_rfl)
theorem q4 : ∀ (b : Option Sl) (x1 : Int) (l : Option Sl) (H : Heap), f4 b x1 l H = bif decide (slen b > 200) then (Sl.sub b 0 (some 200)).bind fun v191 => bif esOk b 1 then (f10 (some { id := List.length H, off := 0, len := 1, cap := 1, esz := 1 }) (H ++ [Blk.row [Cell.slice v191] false])).bind fun v190 => (f13 v190.fst x1 v190.snd).bind fun v189 => bif !R2_Has v191 x1 0 then (LL4_8 v189.fst (some (List.length (v189.snd ++ [Blk.row [Cell.slice v191, Cell.int IntKind.i64 x1, Cell.int IntKind.i64 0] false]), 0)) l (slen l) 0 (v189.snd ++ [Blk.row [Cell.slice v191, Cell.int IntKind.i64 x1, Cell.int IntKind.i64 0] false] ++ [Blk.row [Cell.slice none, Cell.int IntKind.i64 0, Cell.int IntKind.i64 7] false])).bind J4_8 else (LL4_8 v189.fst (some (List.length v189.snd, 0)) l (slen l) 0 (v189.snd ++ [Blk.row [Cell.slice v191, Cell.int IntKind.i64 x1, Cell.int IntKind.i64 0] false])).bind J4_8 else none else (f10 (some { id := List.length H, off := 0, len := 1, cap := 1, esz := 1 }) (H ++ [Blk.row [Cell.slice b] false])).bind fun v193 => (f13 v193.fst x1 v193.snd).bind fun v192 => bif !R2_Has b x1 0 then (LL4_8 v192.fst (some (List.length (v192.snd ++ [Blk.row [Cell.slice b, Cell.int IntKind.i64 x1, Cell.int IntKind.i64 0] false]), 0)) l (slen l) 0 (v192.snd ++ [Blk.row [Cell.slice b, Cell.int IntKind.i64 x1, Cell.int IntKind.i64 0] false] ++ [Blk.row [Cell.slice none, Cell.int IntKind.i64 0, Cell.int IntKind.i64 7] false])).bind J4_8 else (LL4_8 v192.fst (some (List.length v192.snd, 0)) l (slen l) 0 (v192.snd ++ [Blk.row [Cell.slice b, Cell.int IntKind.i64 x1, Cell.int IntKind.i64 0] false])).bind J4_8 := by intros; exact (f4_run ..).trans (by kernel_rfl)
theorem J4_8_0 : ∀ (x0 x1 : Option (Nat × Nat)) (H : Heap), J4_8 (AExit.exit 0, X4_8 x0 x1 H) = (g18 x0 H).bind fun v197 => x1.bind fun v196 => (H.get v196.fst (v196.snd + 2)).bind fun v195 => (Cell.toInt IntKind.i64 v195).bind fun v194 => bif v197 == v194 then some (true, H) else some (false, H) := by intros; kernel_rfl
theorem J4_8_1 : ∀ (x0 : Bool) (x1 x2 : Option (Nat × Nat)) (H : Heap), J4_8 (AExit.ret, X4_8a x0 x1 x2 H) = some (x0, H) := by intros; kernel_rfl
theorem ok4 : FnOk Try.prog 4 (specF enc4 (sem4 f4)) := by
  refine spec_ok (C := CC4) good4 rfl rfl rfl (by kernel_rfl) Try.func4 (c := bodyOf Try.f4) (by kernel_rfl) (by kernel_rfl) (Nat.le_of_eq Try.ntmps4.symm) dec4 enc4 de4 _ ?_
  intro args H q h
  unfold sem4 at h
  split at h
  · rw [← f4_eq]; exact h
  · cases h
def EA (q : Int × Int × Int) : List Cell := [.int .i64 q.1, .int .i64 q.2.1, .int .i64 q.2.2]
theorem EA_len (q : Int × Int × Int) : (EA q).length = 3 := rfl
theorem sameS_set {H : Heap} {s : Option Sl} {id : Nat} {b : Blk} (h : ∀ sl, s = some sl → sl.id ≠ id) : sameS s H (H.set id b) = true := by
  cases s with
  | none => rfl
  | some sl => simp [sameS, same, List.getElem?_set_ne (Ne.symm (h sl rfl))]
theorem sameS_refl (s : Option Sl) (H : Heap) : sameS s H H = true := by
  cases s with
  | none => rfl
  | some sl => simp [sameS, same]
structure I4 (H0 H : Heap) (idv idw : Nat) (bs : List UInt8) (sv sw : Option Sl) (a : Nat) (e : Int) : Prop where
  ne : idv ≠ idw
  hv : H0.length ≤ idv
  hw : H0.length ≤ idw
  v : H[idv]? = some (vw sv (a : Int) e)
  w : H[idw]? = some (vw sw (a : Int) e)
  ok : e = 0 → RS 1 E8 H sv bs ∧ RS 1 E8 H sw bs ∧ (∀ sl, sv = some sl → bs ≠ [] → sl.id ≠ idv ∧ sl.id ≠ idw) ∧ (∀ sl, sw = some sl → bs ≠ [] → sl.id ≠ idv ∧ sl.id ≠ idw) ∧ a ≤ bs.length ∧ bs.length ≤ 1048576
  kp : Kp No H0 H
theorem I4.bad {H0 H : Heap} {idv idw : Nat} {bs : List UInt8} {sv sw : Option Sl} {a : Nat} {e : Int} (h : I4 H0 H idv idw bs sv sw a e) (e' : Int) (he : e' ≠ 0) : I4 H0 ((H.set idv (vw sv a e')).set idw (vw sw a e')) idv idw bs sv sw a e' where
  ne := h.ne
  hv := h.hv
  hw := h.hw
  v := by rw [set_ne' h.ne]; exact set_get' (lt_of h.v)
  w := set_get' (by simpa using lt_of h.w)
  ok e := absurd e he
  kp := kp_old (kp_old h.kp ((Kp.set _ _ _).mono fun i _ e => by rw [show i = idv from e]; exact h.hv)) ((Kp.set _ _ _).mono fun i _ e => by rw [show i = idw from e]; exact h.hw)
theorem I4.good {H0 H H1 : Heap} {idv idw : Nat} {bs : List UInt8} {sv sw : Option Sl} {a : Nat} (h : I4 H0 H idv idw bs sv sw a 0) (k : Nat) (hk : k ≤ bs.length) (h1 : Kp No (H.set idv (vw sv k 0)) H1) : I4 H0 (H1.set idw (vw sw k 0)) idv idw bs sv sw k 0 := by
  obtain ⟨o1, o2, o3, o4, o5, o6⟩ := h.ok rfl
  have k1 : Kp (fun i => i = idv ∨ i = idw) H (H1.set idw (vw sw k 0)) := ((Kp.set _ _ _).trans h1 (D := fun i => i = idv ∨ i = idw) (fun i e => .inl e) fun i _ e => e.elim).trans (Kp.set _ _ _) (fun i e => e) fun i _ e => .inr e
  have hl : idw < H1.length := Nat.lt_of_lt_of_le (by simpa using lt_of h.w) h1.len
  refine ⟨h.ne, h.hv, h.hw, ?_, set_get' hl, fun _ => ⟨o1.kp k1 fun sl e e0 hf => ?_, o2.kp k1 fun sl e e0 hf => ?_, o3, o4, hk, o6⟩, kp_old h.kp (k1.mono fun i _ e => by rcases e with e | e <;> subst e; exact h.hv; exact h.hw)⟩
  · rw [set_ne' h.ne]; exact h1.at (set_get' (lt_of h.v)) (fun e => e)
  · have := o3 sl e e0; rcases hf with hf | hf; exact this.1 hf; exact this.2 hf
  · have := o4 sl e e0; rcases hf with hf | hf; exact this.1 hf; exact this.2 hf
theorem I4.view {H0 H : Heap} {idv idw : Nat} {bs : List UInt8} {sv sw : Option Sl} {a : Nat} (h : I4 H0 H idv idw bs sv sw a 0) : VW H idv sv bs a ∧ VW H idw sw bs a := by
  obtain ⟨o1, o2, o3, o4, o5, o6⟩ := h.ok rfl
  exact ⟨⟨h.v, o1, fun sl e e0 => (o3 sl e e0).1, o5, o6⟩, ⟨h.w, o2, fun sl e e0 => (o4 sl e e0).2, o5, o6⟩⟩
theorem vw_other {H : Heap} {id id' : Nat} {s : Option Sl} {l : List UInt8} {a : Nat} (h : VW H id s l a) (b : Blk) (hne : id ≠ id') (hs : ∀ sl, s = some sl → l ≠ [] → sl.id ≠ id') {H1 : Heap} (hk : Kp No (H.set id' b) H1) : VW H1 id s l a :=
  have k1 : Kp (One id') H H1 := (Kp.set _ _ _).trans hk (fun _ e => e) fun _ _ e => e.elim
  ⟨k1.at h.1 hne, h.2.1.kp k1 fun sl e e0 => hs sl e e0, h.2.2.1, h.2.2.2.1, h.2.2.2.2⟩
theorem step4 {H0 H : Heap} {idv idw : Nat} {bs : List UInt8} {sv sw : Option Sl} {a : Nat} {e : Int} (h : I4 H0 H idv idw bs sv sw a e) (t : Option Sl) (qs : List (Int × Int × Int)) (ht : RS 3 EA H0 t qs) (i : Nat) (q : Int × Int × Int) (hq : qs[i]? = some q) (hi : i < 30) (L : Int) (hL : (i : Int) < L) :
    ∃ H' a' e', I4 H0 H' idv idw bs sv sw a' e' ∧ ∀ n, D4_8 (n + 1) (some (idv, 0)) (some (idw, 0)) t L (i : Int) H = D4_8 n (some (idv, 0)) (some (idw, 0)) t L ((i + 1 : Nat) : Int) H' := by
  have hg : decide ((i : Int) < L) = true := by simp; omega
  have hg30 : decide ((i : Int) ≥ 30) = false := by simp; omega
  have g3 : IntKind.i64.wrap ((i : Int) + 1) = ((i + 1 : Nat) : Int) := by rw [wrap_i64 (by omega) (by omega)]; omega
  obtain ⟨sl, rfl, gi, gc⟩ := (ht.new EA_len (by decide) h.kp fun _ _ h => h).idx EA_len hq
  obtain ⟨k, w, c⟩ := q
  have c0 : H.get sl.id (sl.off + (i : Int).toNat * 3) = some (.int .i64 k) := gc 0 _ rfl
  have c1 : H.get sl.id (sl.off + (i : Int).toNat * 3 + 1) = some (.int .i64 w) := gc 1 _ rfl
  have c2 : H.get sl.id (sl.off + (i : Int).toNat * 3 + 1 + 1) = some (.int .i64 c) := gc 2 _ rfl
  -- what is behind a question
  have tailE : ∀ {H' : Heap} {a' : Nat} {e' : Int}, I4 H0 H' idv idw bs sv sw a' e' → e' ≠ 0 → g18 (some (idv, 0)) H' = some e' ∧ g24 (some (idv, 0)) H' = some (a' : Int) ∧ g19 (some (idv, 0)) H' = some 0 := fun h' he => ⟨g18_spec _ _ _ _ _ h'.v, g24_spec _ _ _ _ _ h'.v, g19_err _ _ _ _ _ h'.v he⟩
  have tailO : ∀ {H' : Heap} {a' : Nat}, I4 H0 H' idv idw bs sv sw a' 0 → g18 (some (idv, 0)) H' = some 0 ∧ g24 (some (idv, 0)) H' = some (a' : Int) ∧ g19 (some (idv, 0)) H' = some (IntKind.i64.wrap (slen sw - (a' : Int))) := fun h' => ⟨g18_spec _ _ _ _ _ h'.v, g24_spec _ _ _ _ _ h'.v, by
    rw [g19_ok _ _ _ _ h'.v, h'.view.1.2.1.slenEq, h'.view.2.2.1.slenEq]⟩
  have z0 : ((0 : Int) != 0) = false := by decide
  have z0' : ((0 : Int) == 0) = true := by decide
  have zr : ∀ x : Int, (x != x) = false := fun x => by simp
  have zq : ∀ x : Int, (x == x) = true := fun x => by simp
  have zs : ∀ x : ByteArray, strEq x x = true := fun x => by simp [strEq]
  have k10 : ((1 : Int) == 0) = false := by decide
  have k11 : ((1 : Int) == 1) = true := by decide
  have k20 : ((2 : Int) == 0) = false := by decide
  have k21 : ((2 : Int) == 1) = false := by decide
  have k22 : ((2 : Int) == 2) = true := by decide
  by_cases he : e = 0
  · subst he
    obtain ⟨vv, vo⟩ := h.view
    obtain ⟨o1, o2, o3, o4, o5, o6⟩ := h.ok rfl
    have neq : idw ≠ idv := Ne.symm h.ne
    -- the take of both: what it comes to
    by_cases hk0 : k = 0
    · subst hk0
      by_cases hw : bits_Is w = true
      · by_cases hh : hasI bs.length (a : Int) w = true
        · obtain ⟨w', rfl, hle⟩ := hasI_nat hh
          have h8 : w' ≤ 8 := by
            have : (w' : Int) = 1 ∨ (w' : Int) = 2 ∨ (w' : Int) = 4 ∨ (w' : Int) = 8 := by simpa [bits_Is] using hw
            omega
          have h' := h.good (a + w') hle (Kp.refl No _)
          have f1 := f17_yes idv sv bs a w' H vv hw hle
          obtain ⟨s', f2, f3⟩ := f21_yes idw sw bs a w' _ (vw_other vo (vw sv ((a + w' : Nat) : Int) 0) neq (fun sl e e0 => (o4 sl e e0).1) (Kp.refl No _)) hle
          have f4 := f14_spec s' _ (by simp; omega) _ f3
          obtain ⟨t1, t2, t3⟩ := tailO h'
          refine ⟨_, a + w', 0, h', fun n => ?_⟩
          have hw' : R2_Is (w' : Int) = true := hw
          rw [D4_8_s]
          simp only [hg, hg30, g3, ct, cf, Ab.bs, az, za, gi, c0, c1, c2, tInt, tSlice, z0, z0', get_of h.w, rg0, rg1, rg2, hw', Bool.not_true, f1, f2, f4, get_of h'.w, zr, zq, t1, t2, t3]
        · have hh' : rope_store_has sv (a : Int) w = false := by rw [has_eq o1 (by omega)]; simpa using hh
          have hh2 : rope_store_has sw (a : Int) w = false := by rw [has_eq o2 (by omega)]; simpa using hh
          have h' := h.bad 7 (by decide)
          have f1 := f17_no idv sv a w H h.v hw hh'
          have f2 := f21_no idw sw a w (H.set idv (vw sv a 7)) (by rw [set_ne' neq]; exact h.w) hh2
          have f4 := f14_spec none [] (by simp) ((H.set idv (vw sv a 7)).set idw (vw sw a 7)) rfl
          obtain ⟨t1, t2, t3⟩ := tailE h' (by decide)
          have z7 : ((7 : Int) != 0) = true := by decide
          have n0 : (((numB []) : Nat) : Int) = 0 := rfl
          refine ⟨_, a, 7, h', fun n => ?_⟩
          have hw' : R2_Is w = true := hw
          rw [D4_8_s]
          simp only [hg, hg30, g3, ct, cf, Ab.bs, az, za, gi, c0, c1, c2, tInt, tSlice, z0, z0', z7, n0, get_of h.w, rg0, rg1, rg2, hw', Bool.not_true, f1, f2, f4, get_of h'.w, zr, zq, t1, t2, t3]
      · have hw : bits_Is w = false := by simpa using hw
        have hw' : R2_Is w = false := hw
        have h' := h.bad 2 (by decide)
        have q2 : (H.set idw (vw sw a 2)).set idv (vw sv a 2) = (H.set idv (vw sv a 2)).set idw (vw sw a 2) := List.set_comm _ _ neq
        have f1 := f17_arg idv sv a w (H.set idw (vw sw a 2)) (by rw [set_ne' h.ne]; exact h.v) hw
        rw [q2] at f1
        have f2 := f21_err idw sw a 2 w _ h'.w (by decide)
        have f4 := f14_spec none [] (by simp) ((H.set idv (vw sv a 2)).set idw (vw sw a 2)) rfl
        obtain ⟨t1, t2, t3⟩ := tailE h' (by decide)
        have z7 : ((2 : Int) != 0) = true := by decide
        have n0 : (((numB []) : Nat) : Int) = 0 := rfl
        refine ⟨_, a, 2, h', fun n => ?_⟩
        rw [D4_8_s]
        simp only [hg, hg30, g3, ct, cf, Ab.bs, az, za, gi, c0, c1, c2, tInt, tSlice, z0, z0', z7, n0, get_of h.w, rg0, rg1, rg2, hw', Bool.not_true, Bool.not_false, vput2 h.w, f1, f2, f4, get_of h'.w, zr, zq, t1, t2, t3]
    have kb0 : (k == 0) = false := by simpa using hk0
    by_cases hk1 : k = 1
    · subst hk1
      by_cases hh : hasI bs.length (a : Int) c = true
      · obtain ⟨w', rfl, hle⟩ := hasI_nat hh
        obtain ⟨s1, H1, f1, f5, f6, f7⟩ := f22_yes idv sv bs a w' H vv hle
        have h' := h.good (a + w') hle f6
        obtain ⟨s', f2, f3⟩ := f21_yes idw sw bs a w' H1 (vw_other vo _ neq (fun sl e e0 => (o4 sl e e0).1) f6) hle
        have hne : ∀ sl, s1 = some sl → sl.id ≠ idw := fun sl e => by
          have := f7 sl e
          have := lt_of h.w
          omega
        have f4 := f5.rs.str
        have f8 := f3.str
        have f9 := sameS_set (H := H1) (b := vw sw ((a + w' : Nat) : Int) 0) hne
        obtain ⟨t1, t2, t3⟩ := tailO h'
        refine ⟨_, a + w', 0, h', fun n => ?_⟩
        rw [D4_8_s]
        simp only [hg, hg30, g3, ct, cf, Ab.bs, az, za, gi, c0, c1, c2, tInt, tSlice, z0, k10, k11, get_of h.w, rg0, rg1, rg2, Bool.not_true, f1, f2, f4, f8, f9, get_of h'.w, zr, zs, t1, t2, t3]
      · have hh' : rope_store_has sv (a : Int) c = false := by rw [has_eq o1 (by omega)]; simpa using hh
        have hh2 : rope_store_has sw (a : Int) c = false := by rw [has_eq o2 (by omega)]; simpa using hh
        have h' := h.bad 7 (by decide)
        have f1 := f22_no idv sv a c H h.v hh'
        have f2 := f21_no idw sw a c (H.set idv (vw sv a 7)) (by rw [set_ne' neq]; exact h.w) hh2
        have f4 : ∀ X : Heap, X.str none = some ByteArray.empty := fun _ => rfl
        have f9 := fun X Y : Heap => (show sameS none X Y = true from rfl)
        obtain ⟨t1, t2, t3⟩ := tailE h' (by decide)
        have z7 : ((7 : Int) != 0) = true := by decide
        refine ⟨_, a, 7, h', fun n => ?_⟩
        rw [D4_8_s]
        simp only [hg, hg30, g3, ct, cf, Ab.bs, az, za, gi, c0, c1, c2, tInt, tSlice, z0, z7, k10, k11, get_of h.w, rg0, rg1, rg2, Bool.not_true, f1, f2, f4, f9, get_of h'.w, zr, zs, t1, t2, t3]
    have kb1 : (k == 1) = false := by simpa using hk1
    by_cases hk2 : k = 2
    · subst hk2
      by_cases hh : hasI bs.length (a : Int) c = true
      · obtain ⟨w', rfl, hle⟩ := hasI_nat hh
        have gh : rope_store_has sv (a : Int) (w' : Int) = true := by rw [has_eq o1 (by omega)]; exact hh
        have gw : IntKind.i64.wrap ((a : Int) + (w' : Int)) = ((a + w' : Nat) : Int) := by rw [wrap_i64 (by omega) (by omega)]; omega
        have f1 := f39_yes idv sv a w' H h.v gh
        rw [gw] at f1
        have h' := h.good (a + w') hle (Kp.refl No _)
        obtain ⟨s', f2, f3⟩ := f21_yes idw sw bs a w' _ (vw_other vo (vw sv ((a + w' : Nat) : Int) 0) neq (fun sl e e0 => (o4 sl e e0).1) (Kp.refl No _)) hle
        obtain ⟨t1, t2, t3⟩ := tailO h'
        refine ⟨_, a + w', 0, h', fun n => ?_⟩
        rw [D4_8_s]
        simp only [hg, hg30, g3, ct, cf, Ab.bs, az, za, gi, c0, c1, c2, tInt, tSlice, z0, k20, k21, k22, get_of h.w, rg0, rg1, rg2, Bool.not_true, q23, f1, f2, get_of h'.w, zr, t1, t2, t3]
      · have hh' : rope_store_has sv (a : Int) c = false := by rw [has_eq o1 (by omega)]; simpa using hh
        have hh2 : rope_store_has sw (a : Int) c = false := by rw [has_eq o2 (by omega)]; simpa using hh
        have h' := h.bad 7 (by decide)
        have f1 := f39_no idv sv a c H h.v hh'
        have f2 := f21_no idw sw a c (H.set idv (vw sv a 7)) (by rw [set_ne' neq]; exact h.w) hh2
        obtain ⟨t1, t2, t3⟩ := tailE h' (by decide)
        have z7 : ((7 : Int) != 0) = true := by decide
        refine ⟨_, a, 7, h', fun n => ?_⟩
        rw [D4_8_s]
        simp only [hg, hg30, g3, ct, cf, Ab.bs, az, za, gi, c0, c1, c2, tInt, tSlice, z0, z7, k20, k21, k22, get_of h.w, rg0, rg1, rg2, Bool.not_true, q23, f1, f2, get_of h'.w, zr, t1, t2, t3]
    have kb2 : (k == 2) = false := by simpa using hk2
    obtain ⟨t1, t2, t3⟩ := tailO h
    refine ⟨_, a, 0, h, fun n => ?_⟩
    rw [D4_8_s]
    simp only [hg, hg30, g3, ct, cf, Ab.bs, az, za, gi, c0, c1, c2, tInt, tSlice, z0, kb0, kb1, kb2, get_of h.w, rg0, rg1, rg2, zr, t1, t2, t3]
  · -- what was wrong stays
    have ze : (e != 0) = true := by simp [he]
    have ze' : (e == 0) = false := by simp [he]
    obtain ⟨t1, t2, t3⟩ := tailE h he
    refine ⟨H, a, e, h, fun n => ?_⟩
    have f17 := f17_err idv sv a e w H h.v he
    have f21w := f21_err idw sw a e w H h.w he
    have f21c := f21_err idw sw a e c H h.w he
    have f22 := f22_err idv sv a e c H h.v he
    have f39 := f39_err idv sv a e c H h.v he
    have f4 := f14_spec none [] (by simp) H rfl
    have n0 : (((numB []) : Nat) : Int) = 0 := rfl
    have f8 : H.str none = some ByteArray.empty := rfl
    have f9 := (show sameS none H H = true from rfl)
    rw [D4_8_s]
    cases hk0 : (k == 0) <;> cases hk1 : (k == 1) <;> cases hk2 : (k == 2) <;>
      simp only [hg, hg30, g3, ct, cf, Ab.bs, az, za, gi, c0, c1, c2, tInt, tSlice, z0, ze, ze', hk0, hk1, hk2, get_of h.w, rg0, rg1, rg2, zr, zq, zs, q23, f17, f21w, f21c, f22, f39, f4, n0, f8, f9, Bool.not_true, t1, t2, t3]
