/- Trees: the places of a kind. -/
import Derived.Test.YtnepdjgbfhakmaaDoorTree9
import Derived.Test.YtnepdjgbfhakmaaDoorTreePe
import Derived.Test.YtnepdjgbfhakmaaDoorTreePd
import Derived.Test.YtnepdjgbfhakmaaDoorTreePc
import Derived.Test.YtnepdjgbfhakmaaDoorTreePb
import Derived.Test.YtnepdjgbfhakmaaDoorTreePa
import Derived.Test.YtnepdjgbfhakmaaDoorTreeD
namespace Go.Proofs.YtnepdjgbfhakmaaDoor
set_option linter.unusedVariables false
set_option linter.unusedSimpArgs false
open Go.RowKit Go.Shelf
attribute [local go_sem] Oper.semAt_some

/-- No places. -/
def NoEnd (w : World) (e : Ending) (w' : World) : Prop := e = .returned (.tuple #[.slice none 0 0, .bool false, .bool false]) ∧ Below w.heap.size w w'
set_option maxRecDepth 100000 in
set_option maxHeartbeats 4000000 in
theorem more_no (kd : Int) (hno : kd ∉ placedK) (w : World) : Calls Tryd.prog 150 #[.int .i64 kd, FV 144 #[], FV 143 #[]] w (NoEnd w) := by
  have hB := Lib.hid (Below.refl w.heap.size w)
  have f47 : (kd == 47) = false := by rw [beq_eq_false_iff_ne]; intro e; subst e; exact hno (by decide)
  have f48 : (kd == 48) = false := by rw [beq_eq_false_iff_ne]; intro e; subst e; exact hno (by decide)
  have f57 : (kd == 57) = false := by rw [beq_eq_false_iff_ne]; intro e; subst e; exact hno (by decide)
  have f49 : (kd == 49) = false := by rw [beq_eq_false_iff_ne]; intro e; subst e; exact hno (by decide)
  have f50 : (kd == 50) = false := by rw [beq_eq_false_iff_ne]; intro e; subst e; exact hno (by decide)
  have f51 : (kd == 51) = false := by rw [beq_eq_false_iff_ne]; intro e; subst e; exact hno (by decide)
  have f52 : (kd == 52) = false := by rw [beq_eq_false_iff_ne]; intro e; subst e; exact hno (by decide)
  have f53 : (kd == 53) = false := by rw [beq_eq_false_iff_ne]; intro e; subst e; exact hno (by decide)
  have f54 : (kd == 54) = false := by rw [beq_eq_false_iff_ne]; intro e; subst e; exact hno (by decide)
  have f56 : (kd == 56) = false := by rw [beq_eq_false_iff_ne]; intro e; subst e; exact hno (by decide)
  have f55 : (kd == 55) = false := by rw [beq_eq_false_iff_ne]; intro e; subst e; exact hno (by decide)
  have f61 : (kd == 61) = false := by rw [beq_eq_false_iff_ne]; intro e; subst e; exact hno (by decide)
  have f62 : (kd == 62) = false := by rw [beq_eq_false_iff_ne]; intro e; subst e; exact hno (by decide)
  have f66 : (kd == 66) = false := by rw [beq_eq_false_iff_ne]; intro e; subst e; exact hno (by decide)
  have f83 : (kd == 83) = false := by rw [beq_eq_false_iff_ne]; intro e; subst e; exact hno (by decide)
  have f85 : (kd == 85) = false := by rw [beq_eq_false_iff_ne]; intro e; subst e; exact hno (by decide)
  have f84 : (kd == 84) = false := by rw [beq_eq_false_iff_ne]; intro e; subst e; exact hno (by decide)
  have f86 : (kd == 86) = false := by rw [beq_eq_false_iff_ne]; intro e; subst e; exact hno (by decide)
  clear hno
  go_enter Tryd.func150, Tryd.ntmps150
  go_wp2_with (fail)
  refine (ofs_calls [1] w (by decide)).mono ?_
  rintro e V1 ⟨g_none, cap_none, rfl, b1, h_none⟩
  replace h_none := Lib.hid h_none
  replace hB := Lib.hid (hB.out.trans (b1.mono hB.out.size))
  clear b1
  go_wp2_with (fail)
  refine (ofs_calls [63] V1 (by decide)).mono ?_
  rintro e V2 ⟨g_block, cap_block, rfl, b2, h_block⟩
  replace h_none := Lib.hid (h_none.out.below b2)
  replace h_block := Lib.hid h_block
  replace hB := Lib.hid (hB.out.trans (b2.mono hB.out.size))
  clear b2
  go_wp2_with (fail)
  refine (ors_calls 104 #[] pE g_none cap_none (pOf [1]) V2 (place_E V2) h_none.out).mono ?_
  rintro e V3 ⟨g_valued, cap_valued, rfl, b3, h_valued⟩
  replace h_none := Lib.hid (h_none.out.below b3)
  replace h_block := Lib.hid (h_block.out.below b3)
  replace h_valued := Lib.hid h_valued
  replace hB := Lib.hid (hB.out.trans (b3.mono hB.out.size))
  clear b3
  go_wp2_with (fail)
  go_ret3
  exact ⟨rfl, hB.out⟩
set_option maxRecDepth 100000 in
set_option maxHeartbeats 4000000 in
theorem places_no (kd : Int) (hno : kd ∉ placedK) (w : World) : Calls Tryd.prog 108 #[.int .i64 kd] w (NoEnd w) := by
  have hB := Lib.hid (Below.refl w.heap.size w)
  have f1 : (kd == 1) = false := by rw [beq_eq_false_iff_ne]; intro e; subst e; exact hno (by decide)
  have f10 : (kd == 10) = false := by rw [beq_eq_false_iff_ne]; intro e; subst e; exact hno (by decide)
  have f11 : (kd == 11) = false := by rw [beq_eq_false_iff_ne]; intro e; subst e; exact hno (by decide)
  have f13 : (kd == 13) = false := by rw [beq_eq_false_iff_ne]; intro e; subst e; exact hno (by decide)
  have f14 : (kd == 14) = false := by rw [beq_eq_false_iff_ne]; intro e; subst e; exact hno (by decide)
  have f15 : (kd == 15) = false := by rw [beq_eq_false_iff_ne]; intro e; subst e; exact hno (by decide)
  have f16 : (kd == 16) = false := by rw [beq_eq_false_iff_ne]; intro e; subst e; exact hno (by decide)
  have f18 : (kd == 18) = false := by rw [beq_eq_false_iff_ne]; intro e; subst e; exact hno (by decide)
  have f17 : (kd == 17) = false := by rw [beq_eq_false_iff_ne]; intro e; subst e; exact hno (by decide)
  have f32 : (kd == 32) = false := by rw [beq_eq_false_iff_ne]; intro e; subst e; exact hno (by decide)
  have f58 : (kd == 58) = false := by rw [beq_eq_false_iff_ne]; intro e; subst e; exact hno (by decide)
  have f59 : (kd == 59) = false := by rw [beq_eq_false_iff_ne]; intro e; subst e; exact hno (by decide)
  have f65 : (kd == 65) = false := by rw [beq_eq_false_iff_ne]; intro e; subst e; exact hno (by decide)
  have f67 : (kd == 67) = false := by rw [beq_eq_false_iff_ne]; intro e; subst e; exact hno (by decide)
  have f81 : (kd == 81) = false := by rw [beq_eq_false_iff_ne]; intro e; subst e; exact hno (by decide)
  have f82 : (kd == 82) = false := by rw [beq_eq_false_iff_ne]; intro e; subst e; exact hno (by decide)
  have f2 : (kd == 2) = false := by rw [beq_eq_false_iff_ne]; intro e; subst e; exact hno (by decide)
  have f3 : (kd == 3) = false := by rw [beq_eq_false_iff_ne]; intro e; subst e; exact hno (by decide)
  have f63 : (kd == 63) = false := by rw [beq_eq_false_iff_ne]; intro e; subst e; exact hno (by decide)
  have f19 : (kd == 19) = false := by rw [beq_eq_false_iff_ne]; intro e; subst e; exact hno (by decide)
  have f20 : (kd == 20) = false := by rw [beq_eq_false_iff_ne]; intro e; subst e; exact hno (by decide)
  have f21 : (kd == 21) = false := by rw [beq_eq_false_iff_ne]; intro e; subst e; exact hno (by decide)
  have f23 : (kd == 23) = false := by rw [beq_eq_false_iff_ne]; intro e; subst e; exact hno (by decide)
  have f29 : (kd == 29) = false := by rw [beq_eq_false_iff_ne]; intro e; subst e; exact hno (by decide)
  have f34 : (kd == 34) = false := by rw [beq_eq_false_iff_ne]; intro e; subst e; exact hno (by decide)
  have f60 : (kd == 60) = false := by rw [beq_eq_false_iff_ne]; intro e; subst e; exact hno (by decide)
  have f64 : (kd == 64) = false := by rw [beq_eq_false_iff_ne]; intro e; subst e; exact hno (by decide)
  have f22 : (kd == 22) = false := by rw [beq_eq_false_iff_ne]; intro e; subst e; exact hno (by decide)
  have f24 : (kd == 24) = false := by rw [beq_eq_false_iff_ne]; intro e; subst e; exact hno (by decide)
  have f30 : (kd == 30) = false := by rw [beq_eq_false_iff_ne]; intro e; subst e; exact hno (by decide)
  have f25 : (kd == 25) = false := by rw [beq_eq_false_iff_ne]; intro e; subst e; exact hno (by decide)
  have f26 : (kd == 26) = false := by rw [beq_eq_false_iff_ne]; intro e; subst e; exact hno (by decide)
  have f27 : (kd == 27) = false := by rw [beq_eq_false_iff_ne]; intro e; subst e; exact hno (by decide)
  have f28 : (kd == 28) = false := by rw [beq_eq_false_iff_ne]; intro e; subst e; exact hno (by decide)
  have f31 : (kd == 31) = false := by rw [beq_eq_false_iff_ne]; intro e; subst e; exact hno (by decide)
  have f33 : (kd == 33) = false := by rw [beq_eq_false_iff_ne]; intro e; subst e; exact hno (by decide)
  have f40 : (kd == 40) = false := by rw [beq_eq_false_iff_ne]; intro e; subst e; exact hno (by decide)
  have f41 : (kd == 41) = false := by rw [beq_eq_false_iff_ne]; intro e; subst e; exact hno (by decide)
  have f45 : (kd == 45) = false := by rw [beq_eq_false_iff_ne]; intro e; subst e; exact hno (by decide)
  have f42 : (kd == 42) = false := by rw [beq_eq_false_iff_ne]; intro e; subst e; exact hno (by decide)
  have f43 : (kd == 43) = false := by rw [beq_eq_false_iff_ne]; intro e; subst e; exact hno (by decide)
  have f80 : (kd == 80) = false := by rw [beq_eq_false_iff_ne]; intro e; subst e; exact hno (by decide)
  have f44 : (kd == 44) = false := by rw [beq_eq_false_iff_ne]; intro e; subst e; exact hno (by decide)
  have f46 : (kd == 46) = false := by rw [beq_eq_false_iff_ne]; intro e; subst e; exact hno (by decide)
  have HM := fun w => Lib.hid (more_no kd hno w)
  clear hno
  go_enter Tryd.func108, Tryd.ntmps108
  go_wp2_with (fail)
  refine (ofs_calls [1] w (by decide)).mono ?_
  rintro e V1 ⟨g_none, cap_none, rfl, b1, h_none⟩
  replace h_none := Lib.hid h_none
  replace hB := Lib.hid (hB.out.trans (b1.mono hB.out.size))
  clear b1
  go_wp2_with (fail)
  refine (ofs_calls [63] V1 (by decide)).mono ?_
  rintro e V2 ⟨g_block, cap_block, rfl, b2, h_block⟩
  replace h_none := Lib.hid (h_none.out.below b2)
  replace h_block := Lib.hid h_block
  replace hB := Lib.hid (hB.out.trans (b2.mono hB.out.size))
  clear b2
  go_wp2_with (fail)
  refine (ofs_calls [67] V2 (by decide)).mono ?_
  rintro e V3 ⟨g_tp, cap_tp, rfl, b3, h_tp⟩
  replace h_none := Lib.hid (h_none.out.below b3)
  replace h_block := Lib.hid (h_block.out.below b3)
  replace h_tp := Lib.hid h_tp
  replace hB := Lib.hid (hB.out.trans (b3.mono hB.out.size))
  clear b3
  go_wp2_with (fail)
  refine (rowss_calls g_tp cap_tp (pOf [67]) V3 h_tp.out).mono ?_
  rintro e V4 ⟨g_vars, cap_vars, rfl, b4, h_vars⟩
  replace h_none := Lib.hid (h_none.out.below b4)
  replace h_block := Lib.hid (h_block.out.below b4)
  replace h_tp := Lib.hid (h_tp.out.below b4)
  replace h_vars := Lib.hid h_vars
  replace hB := Lib.hid (hB.out.trans (b4.mono hB.out.size))
  clear b4
  go_wp2_with (fail)
  refine (rowss_calls 141 #[] pPlain V4 (place_Plain V4)).mono ?_
  rintro e V5 ⟨g_params, cap_params, rfl, b5, h_params⟩
  replace h_none := Lib.hid (h_none.out.below b5)
  replace h_block := Lib.hid (h_block.out.below b5)
  replace h_tp := Lib.hid (h_tp.out.below b5)
  replace h_vars := Lib.hid (h_vars.out.below b5)
  replace h_params := Lib.hid h_params
  replace hB := Lib.hid (hB.out.trans (b5.mono hB.out.size))
  clear b5
  go_wp2_with (fail)
  refine (rowss_calls 107 #[] pT V5 (place_T V5)).mono ?_
  rintro e V6 ⟨g_types, cap_types, rfl, b6, h_types⟩
  replace h_none := Lib.hid (h_none.out.below b6)
  replace h_block := Lib.hid (h_block.out.below b6)
  replace h_tp := Lib.hid (h_tp.out.below b6)
  replace h_vars := Lib.hid (h_vars.out.below b6)
  replace h_params := Lib.hid (h_params.out.below b6)
  replace h_types := Lib.hid h_types
  replace hB := Lib.hid (hB.out.trans (b6.mono hB.out.size))
  clear b6
  go_wp2_with (fail)
  refine (ofs_calls [80] V6 (by decide)).mono ?_
  rintro e V7 ⟨g_tn, cap_tn, rfl, b7, h_tn⟩
  replace h_none := Lib.hid (h_none.out.below b7)
  replace h_block := Lib.hid (h_block.out.below b7)
  replace h_tp := Lib.hid (h_tp.out.below b7)
  replace h_vars := Lib.hid (h_vars.out.below b7)
  replace h_params := Lib.hid (h_params.out.below b7)
  replace h_types := Lib.hid (h_types.out.below b7)
  replace h_tn := Lib.hid h_tn
  replace hB := Lib.hid (hB.out.trans (b7.mono hB.out.size))
  clear b7
  go_wp2_with (fail)
  refine (rowss_calls g_tn cap_tn (pOf [80]) V7 h_tn.out).mono ?_
  rintro e V8 ⟨g_refs, cap_refs, rfl, b8, h_refs⟩
  replace h_none := Lib.hid (h_none.out.below b8)
  replace h_block := Lib.hid (h_block.out.below b8)
  replace h_tp := Lib.hid (h_tp.out.below b8)
  replace h_vars := Lib.hid (h_vars.out.below b8)
  replace h_params := Lib.hid (h_params.out.below b8)
  replace h_types := Lib.hid (h_types.out.below b8)
  replace h_tn := Lib.hid (h_tn.out.below b8)
  replace h_refs := Lib.hid h_refs
  replace hB := Lib.hid (hB.out.trans (b8.mono hB.out.size))
  clear b8
  go_wp2_with (fail)
  refine (rowss_calls 104 #[] pE V8 (place_E V8)).mono ?_
  rintro e V9 ⟨g_exprs, cap_exprs, rfl, b9, h_exprs⟩
  replace h_none := Lib.hid (h_none.out.below b9)
  replace h_block := Lib.hid (h_block.out.below b9)
  replace h_tp := Lib.hid (h_tp.out.below b9)
  replace h_vars := Lib.hid (h_vars.out.below b9)
  replace h_params := Lib.hid (h_params.out.below b9)
  replace h_types := Lib.hid (h_types.out.below b9)
  replace h_tn := Lib.hid (h_tn.out.below b9)
  replace h_refs := Lib.hid (h_refs.out.below b9)
  replace h_exprs := Lib.hid h_exprs
  replace hB := Lib.hid (hB.out.trans (b9.mono hB.out.size))
  clear b9
  go_wp2_with (fail)
  refine (ors_calls 107 #[] pT g_none cap_none (pOf [1]) V9 (place_T V9) h_none.out).mono ?_
  rintro e V10 ⟨g_typed, cap_typed, rfl, b10, h_typed⟩
  replace h_none := Lib.hid (h_none.out.below b10)
  replace h_block := Lib.hid (h_block.out.below b10)
  replace h_tp := Lib.hid (h_tp.out.below b10)
  replace h_vars := Lib.hid (h_vars.out.below b10)
  replace h_params := Lib.hid (h_params.out.below b10)
  replace h_types := Lib.hid (h_types.out.below b10)
  replace h_tn := Lib.hid (h_tn.out.below b10)
  replace h_refs := Lib.hid (h_refs.out.below b10)
  replace h_exprs := Lib.hid (h_exprs.out.below b10)
  replace h_typed := Lib.hid h_typed
  replace hB := Lib.hid (hB.out.trans (b10.mono hB.out.size))
  clear b10
  go_wp2_with (fail)
  refine (ors_calls 104 #[] pE g_none cap_none (pOf [1]) V10 (place_E V10) h_none.out).mono ?_
  rintro e V11 ⟨g_valued, cap_valued, rfl, b11, h_valued⟩
  replace h_none := Lib.hid (h_none.out.below b11)
  replace h_block := Lib.hid (h_block.out.below b11)
  replace h_tp := Lib.hid (h_tp.out.below b11)
  replace h_vars := Lib.hid (h_vars.out.below b11)
  replace h_params := Lib.hid (h_params.out.below b11)
  replace h_types := Lib.hid (h_types.out.below b11)
  replace h_tn := Lib.hid (h_tn.out.below b11)
  replace h_refs := Lib.hid (h_refs.out.below b11)
  replace h_exprs := Lib.hid (h_exprs.out.below b11)
  replace h_typed := Lib.hid (h_typed.out.below b11)
  replace h_valued := Lib.hid h_valued
  replace hB := Lib.hid (hB.out.trans (b11.mono hB.out.size))
  clear b11
  go_wp2_with (fail)
  refine (HM _).out.mono ?_
  rintro e V ⟨rfl, bM⟩
  replace hB := Lib.hid (hB.out.trans (bM.mono hB.out.size))
  clear bM
  go_wp2_with (fail)
  go_ret3
  exact ⟨rfl, hB.out⟩
theorem places_calls (kd : Int) (hk : kd ∈ placedK) (w : World) : Calls Tryd.prog 108 #[.int .i64 kd] w (PlacesEnd w (placesP kd).2 (placesP kd).1) := by
  unfold placedK at hk
  simp only [List.mem_cons, List.not_mem_nil, or_false] at hk
  rcases hk with rfl | rfl | rfl | rfl | rfl | rfl | rfl | rfl | rfl | rfl | rfl | rfl | rfl | rfl | rfl | rfl | rfl | rfl | rfl | rfl | rfl | rfl | rfl | rfl | rfl | rfl | rfl | rfl | rfl | rfl | rfl | rfl | rfl | rfl | rfl | rfl | rfl | rfl | rfl | rfl | rfl | rfl | rfl | rfl | rfl | rfl | rfl | rfl | rfl | rfl | rfl | rfl | rfl | rfl | rfl | rfl | rfl | rfl | rfl | rfl | rfl | rfl
  · exact places_1 w
  · exact places_10 w
  · exact places_11 w
  · exact places_13 w
  · exact places_14 w
  · exact places_15 w
  · exact places_16 w
  · exact places_18 w
  · exact places_17 w
  · exact places_32 w
  · exact places_58 w
  · exact places_59 w
  · exact places_65 w
  · exact places_67 w
  · exact places_81 w
  · exact places_82 w
  · exact places_2 w
  · exact places_3 w
  · exact places_63 w
  · exact places_19 w
  · exact places_20 w
  · exact places_21 w
  · exact places_23 w
  · exact places_29 w
  · exact places_34 w
  · exact places_60 w
  · exact places_64 w
  · exact places_22 w
  · exact places_24 w
  · exact places_30 w
  · exact places_25 w
  · exact places_26 w
  · exact places_27 w
  · exact places_28 w
  · exact places_31 w
  · exact places_33 w
  · exact places_40 w
  · exact places_41 w
  · exact places_45 w
  · exact places_42 w
  · exact places_43 w
  · exact places_80 w
  · exact places_44 w
  · exact places_46 w
  · exact places_47 w
  · exact places_48 w
  · exact places_57 w
  · exact places_49 w
  · exact places_50 w
  · exact places_51 w
  · exact places_52 w
  · exact places_53 w
  · exact places_54 w
  · exact places_56 w
  · exact places_55 w
  · exact places_61 w
  · exact places_62 w
  · exact places_66 w
  · exact places_83 w
  · exact places_85 w
  · exact places_84 w
  · exact places_86 w
end Go.Proofs.YtnepdjgbfhakmaaDoor
