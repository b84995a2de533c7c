/- Layer 2: functions by their own meaning. -/
import Derived.Test.YtebpmmffilakaaaProg
import Derived.Test.YtebpmmffilakaaaAb23
import Derived.KernelRfl
namespace Go.Proofs.Ytebpmmffilakaaa
open Go Go.Proofs.Ytebpmmffilakaaa.Ab
set_option linter.unusedVariables false
set_option maxRecDepth 100000
noncomputable section
/-! rope_store_room -/
noncomputable def C34 : Ctx := { P := Try.prog, own := [2], fns := ([] : List (Nat × FnSem)), nt := 11, nums := ([] : List Nat), live := [] }
noncomputable def F34 : FnSem := natF (runS C34 Try.f34.results.toList (bodyOf Try.f34))
noncomputable def L34 := ((34, F34) : Nat × FnSem) :: ([] : List (Nat × FnSem))
noncomputable def N34 : List Nat := (([] : List Nat)).filter (· != 34)
theorem good34 : Callees Try.prog L34 [] N34 := (Callees.nil Try.prog).run (C := C34) rfl rfl rfl rfl (by kernel_rfl) Try.func34 (c := bodyOf Try.f34) (by kernel_rfl) (by kernel_rfl) (Nat.le_of_eq Try.ntmps34.symm)
/-! rope_store_total -/
noncomputable def C41 : Ctx := { P := Try.prog, own := [2], fns := L34, nt := 27, nums := N34, live := [(3, ⟨[2, 5, 8, 9, 10], [2], [2, 4, 5], [2]⟩)] }
noncomputable def F41 : FnSem := natF (runS C41 Try.f41.results.toList (bodyOf Try.f41))
noncomputable def L41 := ((41, F41) : Nat × FnSem) :: L34
noncomputable def N41 : List Nat := (N34).filter (· != 41)
theorem good41 : Callees Try.prog L41 [] N41 := good34.run (C := C41) rfl rfl rfl rfl (by kernel_rfl) Try.func41 (c := bodyOf Try.f41) (by kernel_rfl) (by kernel_rfl) (Nat.le_of_eq Try.ntmps41.symm)
/-! rope_Rope_Raw -/
noncomputable def C26 : Ctx := { P := Try.prog, own := [], fns := L41, nt := 35, nums := N41, live := [(2, ⟨[0, 17, 18, 19], [], [], []⟩)] }
noncomputable def F26 : FnSem := natF (runS C26 Try.f26.results.toList (bodyOf Try.f26))
noncomputable def L26 := ((26, F26) : Nat × FnSem) :: L41
noncomputable def N26 : List Nat := (N41).filter (· != 26)
theorem good26 : Callees Try.prog L26 [] N26 := good41.run (C := C26) rfl rfl rfl rfl (by kernel_rfl) Try.func26 (c := bodyOf Try.f26) (by kernel_rfl) (by kernel_rfl) (Nat.le_of_eq Try.ntmps26.symm)
/-! rope_store_has -/
noncomputable def C36 : Ctx := { P := Try.prog, own := [3], fns := L26, nt := 29, nums := N26, live := [] }
noncomputable def F36 : FnSem := natF (runS C36 Try.f36.results.toList (bodyOf Try.f36))
noncomputable def L36 := ((36, F36) : Nat × FnSem) :: L26
noncomputable def N36 : List Nat := (N26).filter (· != 36)
theorem good36 : Callees Try.prog L36 [] N36 := good26.run (C := C36) rfl rfl rfl rfl (by kernel_rfl) Try.func36 (c := bodyOf Try.f36) (by kernel_rfl) (by kernel_rfl) (Nat.le_of_eq Try.ntmps36.symm)
/-! rope_View_take -/
noncomputable def C39 : Ctx := { P := Try.prog, own := [], fns := L36, nt := 43, nums := N36, live := [] }
noncomputable def F39 : FnSem := natF (runS C39 Try.f39.results.toList (bodyOf Try.f39))
noncomputable def L39 := ((39, F39) : Nat × FnSem) :: L36
noncomputable def N39 : List Nat := (N36).filter (· != 39)
theorem good39 : Callees Try.prog L39 [] N39 := good36.run (C := C39) rfl rfl rfl rfl (by kernel_rfl) Try.func39 (c := bodyOf Try.f39) (by kernel_rfl) (by kernel_rfl) (Nat.le_of_eq Try.ntmps39.symm)
/-! rope_View_Skip -/
noncomputable def C23 : Ctx := { P := Try.prog, own := [], fns := L39, nt := 7, nums := N39, live := [] }
noncomputable def F23 : FnSem := natF (runS C23 Try.f23.results.toList (bodyOf Try.f23))
noncomputable def L23 := ((23, F23) : Nat × FnSem) :: L39
noncomputable def N23 : List Nat := (N39).filter (· != 23)
theorem good23 : Callees Try.prog L23 [] N23 := good39.run (C := C23) rfl rfl rfl rfl (by kernel_rfl) Try.func23 (c := bodyOf Try.f23) (by kernel_rfl) (by kernel_rfl) (Nat.le_of_eq Try.ntmps23.symm)
/-! bits_Is -/
noncomputable def C33 : Ctx := { P := Try.prog, own := [], fns := L23, nt := 17, nums := N23, live := [] }
noncomputable def F33 : FnSem := natF (runS C33 Try.f33.results.toList (bodyOf Try.f33))
noncomputable def L33 := ((33, F33) : Nat × FnSem) :: L23
noncomputable def N33 : List Nat := (N23).filter (· != 33)
theorem good33 : Callees Try.prog L33 [] N33 := good23.run (C := C33) rfl rfl rfl rfl (by kernel_rfl) Try.func33 (c := bodyOf Try.f33) (by kernel_rfl) (by kernel_rfl) (Nat.le_of_eq Try.ntmps33.symm)
/-! rope_store_num -/
noncomputable def C38 : Ctx := { P := Try.prog, own := [3], fns := L33, nt := 27, nums := N33, live := [(3, ⟨[1, 3, 7, 8], [3], [7], []⟩)] }
noncomputable def F38 : FnSem := natF (runS C38 Try.f38.results.toList (bodyOf Try.f38))
noncomputable def L38 := ((38, F38) : Nat × FnSem) :: L33
noncomputable def N38 : List Nat := (N33).filter (· != 38)
theorem good38 : Callees Try.prog L38 [] N38 := good33.run (C := C38) rfl rfl rfl rfl (by kernel_rfl) Try.func38 (c := bodyOf Try.f38) (by kernel_rfl) (by kernel_rfl) (Nat.le_of_eq Try.ntmps38.symm)
/-! rope_Rope_At -/
noncomputable def C16 : Ctx := { P := Try.prog, own := [], fns := L38, nt := 31, nums := N38, live := [] }
noncomputable def F16 : FnSem := natF (runS C16 Try.f16.results.toList (bodyOf Try.f16))
noncomputable def L16 := ((16, F16) : Nat × FnSem) :: L38
noncomputable def N16 : List Nat := (N38).filter (· != 16)
theorem good16 : Callees Try.prog L16 [] N16 := good38.run (C := C16) rfl rfl rfl rfl (by kernel_rfl) Try.func16 (c := bodyOf Try.f16) (by kernel_rfl) (by kernel_rfl) (Nat.le_of_eq Try.ntmps16.symm)
/-! bytes_Clone -/
noncomputable def C37 : Ctx := { P := Try.prog, own := [], fns := L16, nt := 8, nums := N16, live := [] }
noncomputable def F37 : FnSem := natF (runS C37 Try.f37.results.toList (bodyOf Try.f37))
noncomputable def L37 := ((37, F37) : Nat × FnSem) :: L16
noncomputable def N37 : List Nat := (N16).filter (· != 37)
theorem good37 : Callees Try.prog L37 [] N37 := good16.run (C := C37) rfl rfl rfl rfl (by kernel_rfl) Try.func37 (c := bodyOf Try.f37) (by kernel_rfl) (by kernel_rfl) (Nat.le_of_eq Try.ntmps37.symm)
/-! rope_Rope_Cut -/
noncomputable def C30 : Ctx := { P := Try.prog, own := [], fns := L37, nt := 31, nums := N37, live := [] }
noncomputable def F30 : FnSem := natF (runS C30 Try.f30.results.toList (bodyOf Try.f30))
noncomputable def L30 := ((30, F30) : Nat × FnSem) :: L37
noncomputable def N30 : List Nat := (N37).filter (· != 30)
theorem good30 : Callees Try.prog L30 [] N30 := good37.run (C := C30) rfl rfl rfl rfl (by kernel_rfl) Try.func30 (c := bodyOf Try.f30) (by kernel_rfl) (by kernel_rfl) (Nat.le_of_eq Try.ntmps30.symm)
/-! bytes_IndexByte -/
noncomputable def C45 : Ctx := { P := Try.prog, own := [], fns := L30, nt := 8, nums := N30, live := [] }
noncomputable def F45 : FnSem := natF (runS C45 Try.f45.results.toList (bodyOf Try.f45))
noncomputable def L45 := ((45, F45) : Nat × FnSem) :: L30
noncomputable def N45 : List Nat := (N30).filter (· != 45)
theorem good45 : Callees Try.prog L45 [] N45 := good30.run (C := C45) rfl rfl rfl rfl (by kernel_rfl) Try.func45 (c := bodyOf Try.f45) (by kernel_rfl) (by kernel_rfl) (Nat.le_of_eq Try.ntmps45.symm)
/-! rope_Rope_Str -/
noncomputable def C31 : Ctx := { P := Try.prog, own := [], fns := L45, nt := 47, nums := N45, live := [] }
noncomputable def F31 : FnSem := natF (runS C31 Try.f31.results.toList (bodyOf Try.f31))
noncomputable def L31 := ((31, F31) : Nat × FnSem) :: L45
noncomputable def N31 : List Nat := (N45).filter (· != 31)
theorem good31 : Callees Try.prog L31 [] N31 := good45.run (C := C31) rfl rfl rfl rfl (by kernel_rfl) Try.func31 (c := bodyOf Try.f31) (by kernel_rfl) (by kernel_rfl) (Nat.le_of_eq Try.ntmps31.symm)
/-! rope_put -/
noncomputable def C35 : Ctx := { P := Try.prog, own := [], fns := L31, nt := 20, nums := N31, live := [(1, ⟨[0, 2, 7, 8], [], [], []⟩)] }
noncomputable def F35 : FnSem := natF (runS C35 Try.f35.results.toList (bodyOf Try.f35))
noncomputable def L35 := ((35, F35) : Nat × FnSem) :: L31
noncomputable def N35 : List Nat := (N31).filter (· != 35)
theorem good35 : Callees Try.prog L35 [] N35 := good31.run (C := C35) rfl rfl rfl rfl (by kernel_rfl) Try.func35 (c := bodyOf Try.f35) (by kernel_rfl) (by kernel_rfl) (Nat.le_of_eq Try.ntmps35.symm)
/-! rope_Rope_Num -/
noncomputable def C11 : Ctx := { P := Try.prog, own := [], fns := L35, nt := 58, nums := N35, live := [(8, ⟨[0, 1, 35, 36, 37], [], [], []⟩)] }
noncomputable def F11 : FnSem := natF (runS C11 Try.f11.results.toList (bodyOf Try.f11))
noncomputable def L11 := ((11, F11) : Nat × FnSem) :: L35
noncomputable def N11 : List Nat := (N35).filter (· != 11)
theorem good11 : Callees Try.prog L11 [] N11 := good35.run (C := C11) rfl rfl rfl rfl (by kernel_rfl) Try.func11 (c := bodyOf Try.f11) (by kernel_rfl) (by kernel_rfl) (Nat.le_of_eq Try.ntmps11.symm)
/-! internal_stringslite_IndexByte -/
noncomputable def C46 : Ctx := { P := Try.prog, own := [], fns := L11, nt := 8, nums := N11, live := [] }
noncomputable def F46 : FnSem := natF (runS C46 Try.f46.results.toList (bodyOf Try.f46))
noncomputable def L46 := ((46, F46) : Nat × FnSem) :: L11
noncomputable def N46 : List Nat := (N11).filter (· != 46)
theorem good46 : Callees Try.prog L46 [] N46 := good11.run (C := C46) rfl rfl rfl rfl (by kernel_rfl) Try.func46 (c := bodyOf Try.f46) (by kernel_rfl) (by kernel_rfl) (Nat.le_of_eq Try.ntmps46.symm)
/-! strings_IndexByte -/
noncomputable def C40 : Ctx := { P := Try.prog, own := [], fns := L46, nt := 8, nums := N46, live := [] }
noncomputable def F40 : FnSem := natF (runS C40 Try.f40.results.toList (bodyOf Try.f40))
noncomputable def L40 := ((40, F40) : Nat × FnSem) :: L46
noncomputable def N40 : List Nat := (N46).filter (· != 40)
theorem good40 : Callees Try.prog L40 [] N40 := good46.run (C := C40) rfl rfl rfl rfl (by kernel_rfl) Try.func40 (c := bodyOf Try.f40) (by kernel_rfl) (by kernel_rfl) (Nat.le_of_eq Try.ntmps40.symm)
/-! rope_Rope_Text -/
noncomputable def C25 : Ctx := { P := Try.prog, own := [], fns := L40, nt := 36, nums := N40, live := [(5, ⟨[0, 5, 10, 11, 12], [], [0, 4, 5], []⟩)] }
noncomputable def F25 : FnSem := natF (runS C25 Try.f25.results.toList (bodyOf Try.f25))
noncomputable def L25 := ((25, F25) : Nat × FnSem) :: L40
noncomputable def N25 : List Nat := (N40).filter (· != 25)
theorem good25 : Callees Try.prog L25 [] N25 := good40.run (C := C25) rfl rfl rfl rfl (by kernel_rfl) Try.func25 (c := bodyOf Try.f25) (by kernel_rfl) (by kernel_rfl) (Nat.le_of_eq Try.ntmps25.symm)
/-! rope_Rope_Pad -/
noncomputable def C27 : Ctx := { P := Try.prog, own := [], fns := L25, nt := 46, nums := N25, live := [] }
noncomputable def F27 : FnSem := natF (runS C27 Try.f27.results.toList (bodyOf Try.f27))
noncomputable def L27 := ((27, F27) : Nat × FnSem) :: L25
noncomputable def N27 : List Nat := (N25).filter (· != 27)
theorem good27 : Callees Try.prog L27 [] N27 := good25.run (C := C27) rfl rfl rfl rfl (by kernel_rfl) Try.func27 (c := bodyOf Try.f27) (by kernel_rfl) (by kernel_rfl) (Nat.le_of_eq Try.ntmps27.symm)
/-! rope_Rope_Set -/
noncomputable def C32 : Ctx := { P := Try.prog, own := [], fns := L27, nt := 35, nums := N27, live := [] }
noncomputable def F32 : FnSem := natF (runS C32 Try.f32.results.toList (bodyOf Try.f32))
noncomputable def L32 := ((32, F32) : Nat × FnSem) :: L27
noncomputable def N32 : List Nat := (N27).filter (· != 32)
theorem good32 : Callees Try.prog L32 [] N32 := good27.run (C := C32) rfl rfl rfl rfl (by kernel_rfl) Try.func32 (c := bodyOf Try.f32) (by kernel_rfl) (by kernel_rfl) (Nat.le_of_eq Try.ntmps32.symm)
/-! rope_Rope_Len -/
noncomputable def C12 : Ctx := { P := Try.prog, own := [], fns := L32, nt := 11, nums := N32, live := [] }
noncomputable def F12 : FnSem := natF (runS C12 Try.f12.results.toList (bodyOf Try.f12))
noncomputable def L12 := ((12, F12) : Nat × FnSem) :: L32
noncomputable def N12 : List Nat := (N32).filter (· != 12)
theorem good12 : Callees Try.prog L12 [] N12 := good32.run (C := C12) rfl rfl rfl rfl (by kernel_rfl) Try.func12 (c := bodyOf Try.f12) (by kernel_rfl) (by kernel_rfl) (Nat.le_of_eq Try.ntmps12.symm)
/-! rope_Rope_Bytes -/
noncomputable def C29 : Ctx := { P := Try.prog, own := [], fns := L12, nt := 11, nums := N12, live := [] }
noncomputable def F29 : FnSem := natF (runS C29 Try.f29.results.toList (bodyOf Try.f29))
noncomputable def L29 := ((29, F29) : Nat × FnSem) :: L12
noncomputable def N29 : List Nat := (N12).filter (· != 29)
theorem good29 : Callees Try.prog L29 [] N29 := good12.run (C := C29) rfl rfl rfl rfl (by kernel_rfl) Try.func29 (c := bodyOf Try.f29) (by kernel_rfl) (by kernel_rfl) (Nat.le_of_eq Try.ntmps29.symm)
/-! rope_Rope_Read -/
noncomputable def C13 : Ctx := { P := Try.prog, own := [], fns := L29, nt := 30, nums := N29, live := [] }
noncomputable def F13 : FnSem := natF (runS C13 Try.f13.results.toList (bodyOf Try.f13))
noncomputable def L13 := ((13, F13) : Nat × FnSem) :: L29
noncomputable def N13 : List Nat := (N29).filter (· != 13)
theorem good13 : Callees Try.prog L13 [] N13 := good29.run (C := C13) rfl rfl rfl rfl (by kernel_rfl) Try.func13 (c := bodyOf Try.f13) (by kernel_rfl) (by kernel_rfl) (Nat.le_of_eq Try.ntmps13.symm)
/-! rope_View_Err -/
noncomputable def C18 : Ctx := { P := Try.prog, own := [], fns := L13, nt := 9, nums := N13, live := [] }
noncomputable def F18 : FnSem := natF (runS C18 Try.f18.results.toList (bodyOf Try.f18))
noncomputable def L18 := ((18, F18) : Nat × FnSem) :: L13
noncomputable def N18 : List Nat := (N13).filter (· != 18)
theorem good18 : Callees Try.prog L18 [] N18 := good13.run (C := C18) rfl rfl rfl rfl (by kernel_rfl) Try.func18 (c := bodyOf Try.f18) (by kernel_rfl) (by kernel_rfl) (Nat.le_of_eq Try.ntmps18.symm)
/-! rope_View_Num -/
noncomputable def C17 : Ctx := { P := Try.prog, own := [], fns := L18, nt := 39, nums := N18, live := [] }
noncomputable def F17 : FnSem := natF (runS C17 Try.f17.results.toList (bodyOf Try.f17))
noncomputable def L17 := ((17, F17) : Nat × FnSem) :: L18
noncomputable def N17 : List Nat := (N18).filter (· != 17)
theorem good17 : Callees Try.prog L17 [] N17 := good18.run (C := C17) rfl rfl rfl rfl (by kernel_rfl) Try.func17 (c := bodyOf Try.f17) (by kernel_rfl) (by kernel_rfl) (Nat.le_of_eq Try.ntmps17.symm)
/-! rope_View_Raw -/
noncomputable def C22 : Ctx := { P := Try.prog, own := [], fns := L17, nt := 26, nums := N17, live := [] }
noncomputable def F22 : FnSem := natF (runS C22 Try.f22.results.toList (bodyOf Try.f22))
noncomputable def L22 := ((22, F22) : Nat × FnSem) :: L17
noncomputable def N22 : List Nat := (N17).filter (· != 22)
theorem good22 : Callees Try.prog L22 [] N22 := good17.run (C := C22) rfl rfl rfl rfl (by kernel_rfl) Try.func22 (c := bodyOf Try.f22) (by kernel_rfl) (by kernel_rfl) (Nat.le_of_eq Try.ntmps22.symm)
/-! rope_View_At -/
noncomputable def C24 : Ctx := { P := Try.prog, own := [], fns := L22, nt := 9, nums := N22, live := [] }
noncomputable def F24 : FnSem := natF (runS C24 Try.f24.results.toList (bodyOf Try.f24))
noncomputable def L24 := ((24, F24) : Nat × FnSem) :: L22
noncomputable def N24 : List Nat := (N22).filter (· != 24)
theorem good24 : Callees Try.prog L24 [] N24 := good22.run (C := C24) rfl rfl rfl rfl (by kernel_rfl) Try.func24 (c := bodyOf Try.f24) (by kernel_rfl) (by kernel_rfl) (Nat.le_of_eq Try.ntmps24.symm)
/-! rope_View_Left -/
noncomputable def C19 : Ctx := { P := Try.prog, own := [], fns := L24, nt := 23, nums := N24, live := [] }
noncomputable def F19 : FnSem := natF (runS C19 Try.f19.results.toList (bodyOf Try.f19))
noncomputable def L19 := ((19, F19) : Nat × FnSem) :: L24
noncomputable def N19 : List Nat := (N24).filter (· != 19)
theorem good19 : Callees Try.prog L19 [] N19 := good24.run (C := C19) rfl rfl rfl rfl (by kernel_rfl) Try.func19 (c := bodyOf Try.f19) (by kernel_rfl) (by kernel_rfl) (Nat.le_of_eq Try.ntmps19.symm)
/-! rope_New -/
noncomputable def C10 : Ctx := { P := Try.prog, own := [], fns := L19, nt := 38, nums := N19, live := [(3, ⟨[3, 8, 9, 10], [], [3], []⟩)] }
noncomputable def F10 : FnSem := natF (runS C10 Try.f10.results.toList (bodyOf Try.f10))
noncomputable def L10 := ((10, F10) : Nat × FnSem) :: L19
noncomputable def N10 : List Nat := (N19).filter (· != 10)
theorem good10 : Callees Try.prog L10 [] N10 := good19.run (C := C10) rfl rfl rfl rfl (by kernel_rfl) Try.func10 (c := bodyOf Try.f10) (by kernel_rfl) (by kernel_rfl) (Nat.le_of_eq Try.ntmps10.symm)
/-! L02_awake -/
noncomputable def C9 : Ctx := { P := Try.prog, own := [], fns := L10, nt := 48, nums := N10, live := [] }
noncomputable def F9 : FnSem := natF (runS C9 Try.f9.results.toList (bodyOf Try.f9))
noncomputable def L9 := ((9, F9) : Nat × FnSem) :: L10
noncomputable def N9 : List Nat := (N10).filter (· != 9)
theorem good9 : Callees Try.prog L9 [] N9 := good10.run (C := C9) rfl rfl rfl rfl (by kernel_rfl) Try.func9 (c := bodyOf Try.f9) (by kernel_rfl) (by kernel_rfl) (Nat.le_of_eq Try.ntmps9.symm)
/-! L02_RopeNil -/
noncomputable def C7 : Ctx := { P := Try.prog, own := [], fns := L9, nt := 124, nums := N9, live := [] }
