/- Trees: the places of a kind. -/
import Derived.Test.YtnepdjgbfhakmaaDoorTree9
namespace Go.Proofs.YtnepdjgbfhakmaaDoor
set_option linter.unusedVariables false
set_option linter.unusedSimpArgs false
open Go.RowKit Go.Shelf
attribute [local go_sem] Oper.semAt_some

set_option maxRecDepth 100000 in
set_option maxHeartbeats 4000000 in
theorem places_82 (w : World) : Calls Tryd.prog 108 #[.int .i64 82] w (PlacesEnd w [] false) := by
  have hB := Lib.hid (Below.refl w.heap.size w)
  go_enter Tryd.func108, Tryd.ntmps108
  go_wp2_with (fail)
  refine (ofs_calls [1] w (by decide)).mono ?_
  rintro e V1 ⟨g_none, cap_none, rfl, b1, h_none⟩
  replace h_none := Lib.hid h_none
  replace hB := Lib.hid (hB.out.trans (b1.mono hB.out.size))
  clear b1
  go_wp2_with (fail)
  refine (ofs_calls [63] V1 (by decide)).mono ?_
  rintro e V2 ⟨g_block, cap_block, rfl, b2, h_block⟩
  replace h_none := Lib.hid (h_none.out.below b2)
  replace h_block := Lib.hid h_block
  replace hB := Lib.hid (hB.out.trans (b2.mono hB.out.size))
  clear b2
  go_wp2_with (fail)
  refine (ofs_calls [67] V2 (by decide)).mono ?_
  rintro e V3 ⟨g_tp, cap_tp, rfl, b3, h_tp⟩
  replace h_none := Lib.hid (h_none.out.below b3)
  replace h_block := Lib.hid (h_block.out.below b3)
  replace h_tp := Lib.hid h_tp
  replace hB := Lib.hid (hB.out.trans (b3.mono hB.out.size))
  clear b3
  go_wp2_with (fail)
  refine (rowss_calls g_tp cap_tp (pOf [67]) V3 h_tp.out).mono ?_
  rintro e V4 ⟨g_vars, cap_vars, rfl, b4, h_vars⟩
  replace h_none := Lib.hid (h_none.out.below b4)
  replace h_block := Lib.hid (h_block.out.below b4)
  replace h_tp := Lib.hid (h_tp.out.below b4)
  replace h_vars := Lib.hid h_vars
  replace hB := Lib.hid (hB.out.trans (b4.mono hB.out.size))
  clear b4
  go_wp2_with (fail)
  refine (rowss_calls 141 #[] pPlain V4 (place_Plain V4)).mono ?_
  rintro e V5 ⟨g_params, cap_params, rfl, b5, h_params⟩
  replace h_none := Lib.hid (h_none.out.below b5)
  replace h_block := Lib.hid (h_block.out.below b5)
  replace h_tp := Lib.hid (h_tp.out.below b5)
  replace h_vars := Lib.hid (h_vars.out.below b5)
  replace h_params := Lib.hid h_params
  replace hB := Lib.hid (hB.out.trans (b5.mono hB.out.size))
  clear b5
  go_wp2_with (fail)
  refine (rowss_calls 107 #[] pT V5 (place_T V5)).mono ?_
  rintro e V6 ⟨g_types, cap_types, rfl, b6, h_types⟩
  replace h_none := Lib.hid (h_none.out.below b6)
  replace h_block := Lib.hid (h_block.out.below b6)
  replace h_tp := Lib.hid (h_tp.out.below b6)
  replace h_vars := Lib.hid (h_vars.out.below b6)
  replace h_params := Lib.hid (h_params.out.below b6)
  replace h_types := Lib.hid h_types
  replace hB := Lib.hid (hB.out.trans (b6.mono hB.out.size))
  clear b6
  go_wp2_with (fail)
  refine (ofs_calls [80] V6 (by decide)).mono ?_
  rintro e V7 ⟨g_tn, cap_tn, rfl, b7, h_tn⟩
  replace h_none := Lib.hid (h_none.out.below b7)
  replace h_block := Lib.hid (h_block.out.below b7)
  replace h_tp := Lib.hid (h_tp.out.below b7)
  replace h_vars := Lib.hid (h_vars.out.below b7)
  replace h_params := Lib.hid (h_params.out.below b7)
  replace h_types := Lib.hid (h_types.out.below b7)
  replace h_tn := Lib.hid h_tn
  replace hB := Lib.hid (hB.out.trans (b7.mono hB.out.size))
  clear b7
  go_wp2_with (fail)
  refine (rowss_calls g_tn cap_tn (pOf [80]) V7 h_tn.out).mono ?_
  rintro e V8 ⟨g_refs, cap_refs, rfl, b8, h_refs⟩
  replace h_none := Lib.hid (h_none.out.below b8)
  replace h_block := Lib.hid (h_block.out.below b8)
  replace h_tp := Lib.hid (h_tp.out.below b8)
  replace h_vars := Lib.hid (h_vars.out.below b8)
  replace h_params := Lib.hid (h_params.out.below b8)
  replace h_types := Lib.hid (h_types.out.below b8)
  replace h_tn := Lib.hid (h_tn.out.below b8)
  replace h_refs := Lib.hid h_refs
  replace hB := Lib.hid (hB.out.trans (b8.mono hB.out.size))
  clear b8
  go_wp2_with (fail)
  refine (rowss_calls 104 #[] pE V8 (place_E V8)).mono ?_
  rintro e V9 ⟨g_exprs, cap_exprs, rfl, b9, h_exprs⟩
  replace h_none := Lib.hid (h_none.out.below b9)
  replace h_block := Lib.hid (h_block.out.below b9)
  replace h_tp := Lib.hid (h_tp.out.below b9)
  replace h_vars := Lib.hid (h_vars.out.below b9)
  replace h_params := Lib.hid (h_params.out.below b9)
  replace h_types := Lib.hid (h_types.out.below b9)
  replace h_tn := Lib.hid (h_tn.out.below b9)
  replace h_refs := Lib.hid (h_refs.out.below b9)
  replace h_exprs := Lib.hid h_exprs
  replace hB := Lib.hid (hB.out.trans (b9.mono hB.out.size))
  clear b9
  go_wp2_with (fail)
  refine (ors_calls 107 #[] pT g_none cap_none (pOf [1]) V9 (place_T V9) h_none.out).mono ?_
  rintro e V10 ⟨g_typed, cap_typed, rfl, b10, h_typed⟩
  replace h_none := Lib.hid (h_none.out.below b10)
  replace h_block := Lib.hid (h_block.out.below b10)
  replace h_tp := Lib.hid (h_tp.out.below b10)
  replace h_vars := Lib.hid (h_vars.out.below b10)
  replace h_params := Lib.hid (h_params.out.below b10)
  replace h_types := Lib.hid (h_types.out.below b10)
  replace h_tn := Lib.hid (h_tn.out.below b10)
  replace h_refs := Lib.hid (h_refs.out.below b10)
  replace h_exprs := Lib.hid (h_exprs.out.below b10)
  replace h_typed := Lib.hid h_typed
  replace hB := Lib.hid (hB.out.trans (b10.mono hB.out.size))
  clear b10
  go_wp2_with (fail)
  refine (ors_calls 104 #[] pE g_none cap_none (pOf [1]) V10 (place_E V10) h_none.out).mono ?_
  rintro e V11 ⟨g_valued, cap_valued, rfl, b11, h_valued⟩
  replace h_none := Lib.hid (h_none.out.below b11)
  replace h_block := Lib.hid (h_block.out.below b11)
  replace h_tp := Lib.hid (h_tp.out.below b11)
  replace h_vars := Lib.hid (h_vars.out.below b11)
  replace h_params := Lib.hid (h_params.out.below b11)
  replace h_types := Lib.hid (h_types.out.below b11)
  replace h_tn := Lib.hid (h_tn.out.below b11)
  replace h_refs := Lib.hid (h_refs.out.below b11)
  replace h_exprs := Lib.hid (h_exprs.out.below b11)
  replace h_typed := Lib.hid (h_typed.out.below b11)
  replace h_valued := Lib.hid h_valued
  replace hB := Lib.hid (hB.out.trans (b11.mono hB.out.size))
  clear b11
  go_wp2_with (fail)
  refine (these_calls _ ⟨_, _, _, rfl⟩ _).mono ?_
  rintro e V ⟨rfl, rfl⟩
  go_wp2_with (fail)
  go_ret3
  exact ⟨_, _, rfl, hB.out, PlacesAt.none _⟩
set_option maxRecDepth 100000 in
set_option maxHeartbeats 4000000 in
theorem places_2 (w : World) : Calls Tryd.prog 108 #[.int .i64 2] w (PlacesEnd w [pAny] true) := by
  have hB := Lib.hid (Below.refl w.heap.size w)
  go_enter Tryd.func108, Tryd.ntmps108
  go_wp2_with (fail)
  refine (ofs_calls [1] w (by decide)).mono ?_
  rintro e V1 ⟨g_none, cap_none, rfl, b1, h_none⟩
  replace h_none := Lib.hid h_none
  replace hB := Lib.hid (hB.out.trans (b1.mono hB.out.size))
  clear b1
  go_wp2_with (fail)
  refine (ofs_calls [63] V1 (by decide)).mono ?_
  rintro e V2 ⟨g_block, cap_block, rfl, b2, h_block⟩
  replace h_none := Lib.hid (h_none.out.below b2)
  replace h_block := Lib.hid h_block
  replace hB := Lib.hid (hB.out.trans (b2.mono hB.out.size))
  clear b2
  go_wp2_with (fail)
  refine (ofs_calls [67] V2 (by decide)).mono ?_
  rintro e V3 ⟨g_tp, cap_tp, rfl, b3, h_tp⟩
  replace h_none := Lib.hid (h_none.out.below b3)
  replace h_block := Lib.hid (h_block.out.below b3)
  replace h_tp := Lib.hid h_tp
  replace hB := Lib.hid (hB.out.trans (b3.mono hB.out.size))
  clear b3
  go_wp2_with (fail)
  refine (rowss_calls g_tp cap_tp (pOf [67]) V3 h_tp.out).mono ?_
  rintro e V4 ⟨g_vars, cap_vars, rfl, b4, h_vars⟩
  replace h_none := Lib.hid (h_none.out.below b4)
  replace h_block := Lib.hid (h_block.out.below b4)
  replace h_tp := Lib.hid (h_tp.out.below b4)
  replace h_vars := Lib.hid h_vars
  replace hB := Lib.hid (hB.out.trans (b4.mono hB.out.size))
  clear b4
  go_wp2_with (fail)
  refine (rowss_calls 141 #[] pPlain V4 (place_Plain V4)).mono ?_
  rintro e V5 ⟨g_params, cap_params, rfl, b5, h_params⟩
  replace h_none := Lib.hid (h_none.out.below b5)
  replace h_block := Lib.hid (h_block.out.below b5)
  replace h_tp := Lib.hid (h_tp.out.below b5)
  replace h_vars := Lib.hid (h_vars.out.below b5)
  replace h_params := Lib.hid h_params
  replace hB := Lib.hid (hB.out.trans (b5.mono hB.out.size))
  clear b5
  go_wp2_with (fail)
  refine (rowss_calls 107 #[] pT V5 (place_T V5)).mono ?_
  rintro e V6 ⟨g_types, cap_types, rfl, b6, h_types⟩
  replace h_none := Lib.hid (h_none.out.below b6)
  replace h_block := Lib.hid (h_block.out.below b6)
  replace h_tp := Lib.hid (h_tp.out.below b6)
  replace h_vars := Lib.hid (h_vars.out.below b6)
  replace h_params := Lib.hid (h_params.out.below b6)
  replace h_types := Lib.hid h_types
  replace hB := Lib.hid (hB.out.trans (b6.mono hB.out.size))
  clear b6
  go_wp2_with (fail)
  refine (ofs_calls [80] V6 (by decide)).mono ?_
  rintro e V7 ⟨g_tn, cap_tn, rfl, b7, h_tn⟩
  replace h_none := Lib.hid (h_none.out.below b7)
  replace h_block := Lib.hid (h_block.out.below b7)
  replace h_tp := Lib.hid (h_tp.out.below b7)
  replace h_vars := Lib.hid (h_vars.out.below b7)
  replace h_params := Lib.hid (h_params.out.below b7)
  replace h_types := Lib.hid (h_types.out.below b7)
  replace h_tn := Lib.hid h_tn
  replace hB := Lib.hid (hB.out.trans (b7.mono hB.out.size))
  clear b7
  go_wp2_with (fail)
  refine (rowss_calls g_tn cap_tn (pOf [80]) V7 h_tn.out).mono ?_
  rintro e V8 ⟨g_refs, cap_refs, rfl, b8, h_refs⟩
  replace h_none := Lib.hid (h_none.out.below b8)
  replace h_block := Lib.hid (h_block.out.below b8)
  replace h_tp := Lib.hid (h_tp.out.below b8)
  replace h_vars := Lib.hid (h_vars.out.below b8)
  replace h_params := Lib.hid (h_params.out.below b8)
  replace h_types := Lib.hid (h_types.out.below b8)
  replace h_tn := Lib.hid (h_tn.out.below b8)
  replace h_refs := Lib.hid h_refs
  replace hB := Lib.hid (hB.out.trans (b8.mono hB.out.size))
  clear b8
  go_wp2_with (fail)
  refine (rowss_calls 104 #[] pE V8 (place_E V8)).mono ?_
  rintro e V9 ⟨g_exprs, cap_exprs, rfl, b9, h_exprs⟩
  replace h_none := Lib.hid (h_none.out.below b9)
  replace h_block := Lib.hid (h_block.out.below b9)
  replace h_tp := Lib.hid (h_tp.out.below b9)
  replace h_vars := Lib.hid (h_vars.out.below b9)
  replace h_params := Lib.hid (h_params.out.below b9)
  replace h_types := Lib.hid (h_types.out.below b9)
  replace h_tn := Lib.hid (h_tn.out.below b9)
  replace h_refs := Lib.hid (h_refs.out.below b9)
  replace h_exprs := Lib.hid h_exprs
  replace hB := Lib.hid (hB.out.trans (b9.mono hB.out.size))
  clear b9
  go_wp2_with (fail)
  refine (ors_calls 107 #[] pT g_none cap_none (pOf [1]) V9 (place_T V9) h_none.out).mono ?_
  rintro e V10 ⟨g_typed, cap_typed, rfl, b10, h_typed⟩
  replace h_none := Lib.hid (h_none.out.below b10)
  replace h_block := Lib.hid (h_block.out.below b10)
  replace h_tp := Lib.hid (h_tp.out.below b10)
  replace h_vars := Lib.hid (h_vars.out.below b10)
  replace h_params := Lib.hid (h_params.out.below b10)
  replace h_types := Lib.hid (h_types.out.below b10)
  replace h_tn := Lib.hid (h_tn.out.below b10)
  replace h_refs := Lib.hid (h_refs.out.below b10)
  replace h_exprs := Lib.hid (h_exprs.out.below b10)
  replace h_typed := Lib.hid h_typed
  replace hB := Lib.hid (hB.out.trans (b10.mono hB.out.size))
  clear b10
  go_wp2_with (fail)
  refine (ors_calls 104 #[] pE g_none cap_none (pOf [1]) V10 (place_E V10) h_none.out).mono ?_
  rintro e V11 ⟨g_valued, cap_valued, rfl, b11, h_valued⟩
  replace h_none := Lib.hid (h_none.out.below b11)
  replace h_block := Lib.hid (h_block.out.below b11)
  replace h_tp := Lib.hid (h_tp.out.below b11)
  replace h_vars := Lib.hid (h_vars.out.below b11)
  replace h_params := Lib.hid (h_params.out.below b11)
  replace h_types := Lib.hid (h_types.out.below b11)
  replace h_tn := Lib.hid (h_tn.out.below b11)
  replace h_refs := Lib.hid (h_refs.out.below b11)
  replace h_exprs := Lib.hid (h_exprs.out.below b11)
  replace h_typed := Lib.hid (h_typed.out.below b11)
  replace h_valued := Lib.hid h_valued
  replace hB := Lib.hid (hB.out.trans (b11.mono hB.out.size))
  clear b11
  go_wp2_with (fail)
  refine (alls_calls _ _ _).mono ?_
  rintro e V ⟨rfl, rfl⟩
  go_wp2_with (fail)
  go_ret3
  exact ⟨_, _, rfl, hB.out.alloc hB.out.size _, PlacesAt.new (vs := [FV 145 #[]]) (ps := [pAny]) ⟨(place_Any V11), trivial⟩⟩
set_option maxRecDepth 100000 in
set_option maxHeartbeats 4000000 in
theorem places_3 (w : World) : Calls Tryd.prog 108 #[.int .i64 3] w (PlacesEnd w [pS] true) := by
  have hB := Lib.hid (Below.refl w.heap.size w)
  go_enter Tryd.func108, Tryd.ntmps108
  go_wp2_with (fail)
  refine (ofs_calls [1] w (by decide)).mono ?_
  rintro e V1 ⟨g_none, cap_none, rfl, b1, h_none⟩
  replace h_none := Lib.hid h_none
  replace hB := Lib.hid (hB.out.trans (b1.mono hB.out.size))
  clear b1
  go_wp2_with (fail)
  refine (ofs_calls [63] V1 (by decide)).mono ?_
  rintro e V2 ⟨g_block, cap_block, rfl, b2, h_block⟩
  replace h_none := Lib.hid (h_none.out.below b2)
  replace h_block := Lib.hid h_block
  replace hB := Lib.hid (hB.out.trans (b2.mono hB.out.size))
  clear b2
  go_wp2_with (fail)
  refine (ofs_calls [67] V2 (by decide)).mono ?_
  rintro e V3 ⟨g_tp, cap_tp, rfl, b3, h_tp⟩
  replace h_none := Lib.hid (h_none.out.below b3)
  replace h_block := Lib.hid (h_block.out.below b3)
  replace h_tp := Lib.hid h_tp
  replace hB := Lib.hid (hB.out.trans (b3.mono hB.out.size))
  clear b3
  go_wp2_with (fail)
  refine (rowss_calls g_tp cap_tp (pOf [67]) V3 h_tp.out).mono ?_
  rintro e V4 ⟨g_vars, cap_vars, rfl, b4, h_vars⟩
  replace h_none := Lib.hid (h_none.out.below b4)
  replace h_block := Lib.hid (h_block.out.below b4)
  replace h_tp := Lib.hid (h_tp.out.below b4)
  replace h_vars := Lib.hid h_vars
  replace hB := Lib.hid (hB.out.trans (b4.mono hB.out.size))
  clear b4
  go_wp2_with (fail)
  refine (rowss_calls 141 #[] pPlain V4 (place_Plain V4)).mono ?_
  rintro e V5 ⟨g_params, cap_params, rfl, b5, h_params⟩
  replace h_none := Lib.hid (h_none.out.below b5)
  replace h_block := Lib.hid (h_block.out.below b5)
  replace h_tp := Lib.hid (h_tp.out.below b5)
  replace h_vars := Lib.hid (h_vars.out.below b5)
  replace h_params := Lib.hid h_params
  replace hB := Lib.hid (hB.out.trans (b5.mono hB.out.size))
  clear b5
  go_wp2_with (fail)
  refine (rowss_calls 107 #[] pT V5 (place_T V5)).mono ?_
  rintro e V6 ⟨g_types, cap_types, rfl, b6, h_types⟩
  replace h_none := Lib.hid (h_none.out.below b6)
  replace h_block := Lib.hid (h_block.out.below b6)
  replace h_tp := Lib.hid (h_tp.out.below b6)
  replace h_vars := Lib.hid (h_vars.out.below b6)
  replace h_params := Lib.hid (h_params.out.below b6)
  replace h_types := Lib.hid h_types
  replace hB := Lib.hid (hB.out.trans (b6.mono hB.out.size))
  clear b6
  go_wp2_with (fail)
  refine (ofs_calls [80] V6 (by decide)).mono ?_
  rintro e V7 ⟨g_tn, cap_tn, rfl, b7, h_tn⟩
  replace h_none := Lib.hid (h_none.out.below b7)
  replace h_block := Lib.hid (h_block.out.below b7)
  replace h_tp := Lib.hid (h_tp.out.below b7)
  replace h_vars := Lib.hid (h_vars.out.below b7)
  replace h_params := Lib.hid (h_params.out.below b7)
  replace h_types := Lib.hid (h_types.out.below b7)
  replace h_tn := Lib.hid h_tn
  replace hB := Lib.hid (hB.out.trans (b7.mono hB.out.size))
  clear b7
  go_wp2_with (fail)
  refine (rowss_calls g_tn cap_tn (pOf [80]) V7 h_tn.out).mono ?_
  rintro e V8 ⟨g_refs, cap_refs, rfl, b8, h_refs⟩
  replace h_none := Lib.hid (h_none.out.below b8)
  replace h_block := Lib.hid (h_block.out.below b8)
  replace h_tp := Lib.hid (h_tp.out.below b8)
  replace h_vars := Lib.hid (h_vars.out.below b8)
  replace h_params := Lib.hid (h_params.out.below b8)
  replace h_types := Lib.hid (h_types.out.below b8)
  replace h_tn := Lib.hid (h_tn.out.below b8)
  replace h_refs := Lib.hid h_refs
  replace hB := Lib.hid (hB.out.trans (b8.mono hB.out.size))
  clear b8
  go_wp2_with (fail)
  refine (rowss_calls 104 #[] pE V8 (place_E V8)).mono ?_
  rintro e V9 ⟨g_exprs, cap_exprs, rfl, b9, h_exprs⟩
  replace h_none := Lib.hid (h_none.out.below b9)
  replace h_block := Lib.hid (h_block.out.below b9)
  replace h_tp := Lib.hid (h_tp.out.below b9)
  replace h_vars := Lib.hid (h_vars.out.below b9)
  replace h_params := Lib.hid (h_params.out.below b9)
  replace h_types := Lib.hid (h_types.out.below b9)
  replace h_tn := Lib.hid (h_tn.out.below b9)
  replace h_refs := Lib.hid (h_refs.out.below b9)
  replace h_exprs := Lib.hid h_exprs
  replace hB := Lib.hid (hB.out.trans (b9.mono hB.out.size))
  clear b9
  go_wp2_with (fail)
  refine (ors_calls 107 #[] pT g_none cap_none (pOf [1]) V9 (place_T V9) h_none.out).mono ?_
  rintro e V10 ⟨g_typed, cap_typed, rfl, b10, h_typed⟩
  replace h_none := Lib.hid (h_none.out.below b10)
  replace h_block := Lib.hid (h_block.out.below b10)
  replace h_tp := Lib.hid (h_tp.out.below b10)
  replace h_vars := Lib.hid (h_vars.out.below b10)
  replace h_params := Lib.hid (h_params.out.below b10)
  replace h_types := Lib.hid (h_types.out.below b10)
  replace h_tn := Lib.hid (h_tn.out.below b10)
  replace h_refs := Lib.hid (h_refs.out.below b10)
  replace h_exprs := Lib.hid (h_exprs.out.below b10)
  replace h_typed := Lib.hid h_typed
  replace hB := Lib.hid (hB.out.trans (b10.mono hB.out.size))
  clear b10
  go_wp2_with (fail)
  refine (ors_calls 104 #[] pE g_none cap_none (pOf [1]) V10 (place_E V10) h_none.out).mono ?_
  rintro e V11 ⟨g_valued, cap_valued, rfl, b11, h_valued⟩
  replace h_none := Lib.hid (h_none.out.below b11)
  replace h_block := Lib.hid (h_block.out.below b11)
  replace h_tp := Lib.hid (h_tp.out.below b11)
  replace h_vars := Lib.hid (h_vars.out.below b11)
  replace h_params := Lib.hid (h_params.out.below b11)
  replace h_types := Lib.hid (h_types.out.below b11)
  replace h_tn := Lib.hid (h_tn.out.below b11)
  replace h_refs := Lib.hid (h_refs.out.below b11)
  replace h_exprs := Lib.hid (h_exprs.out.below b11)
  replace h_typed := Lib.hid (h_typed.out.below b11)
  replace h_valued := Lib.hid h_valued
  replace hB := Lib.hid (hB.out.trans (b11.mono hB.out.size))
  clear b11
  go_wp2_with (fail)
  refine (alls_calls _ _ _).mono ?_
  rintro e V ⟨rfl, rfl⟩
  go_wp2_with (fail)
  go_ret3
  exact ⟨_, _, rfl, hB.out.alloc hB.out.size _, PlacesAt.new (vs := [FV 146 #[]]) (ps := [pS]) ⟨(place_S V11), trivial⟩⟩
set_option maxRecDepth 100000 in
set_option maxHeartbeats 4000000 in
theorem places_63 (w : World) : Calls Tryd.prog 108 #[.int .i64 63] w (PlacesEnd w [pS] true) := by
  have hB := Lib.hid (Below.refl w.heap.size w)
  go_enter Tryd.func108, Tryd.ntmps108
  go_wp2_with (fail)
  refine (ofs_calls [1] w (by decide)).mono ?_
  rintro e V1 ⟨g_none, cap_none, rfl, b1, h_none⟩
  replace h_none := Lib.hid h_none
  replace hB := Lib.hid (hB.out.trans (b1.mono hB.out.size))
  clear b1
  go_wp2_with (fail)
  refine (ofs_calls [63] V1 (by decide)).mono ?_
  rintro e V2 ⟨g_block, cap_block, rfl, b2, h_block⟩
  replace h_none := Lib.hid (h_none.out.below b2)
  replace h_block := Lib.hid h_block
  replace hB := Lib.hid (hB.out.trans (b2.mono hB.out.size))
  clear b2
  go_wp2_with (fail)
  refine (ofs_calls [67] V2 (by decide)).mono ?_
  rintro e V3 ⟨g_tp, cap_tp, rfl, b3, h_tp⟩
  replace h_none := Lib.hid (h_none.out.below b3)
  replace h_block := Lib.hid (h_block.out.below b3)
  replace h_tp := Lib.hid h_tp
  replace hB := Lib.hid (hB.out.trans (b3.mono hB.out.size))
  clear b3
  go_wp2_with (fail)
  refine (rowss_calls g_tp cap_tp (pOf [67]) V3 h_tp.out).mono ?_
  rintro e V4 ⟨g_vars, cap_vars, rfl, b4, h_vars⟩
  replace h_none := Lib.hid (h_none.out.below b4)
  replace h_block := Lib.hid (h_block.out.below b4)
  replace h_tp := Lib.hid (h_tp.out.below b4)
  replace h_vars := Lib.hid h_vars
  replace hB := Lib.hid (hB.out.trans (b4.mono hB.out.size))
  clear b4
  go_wp2_with (fail)
  refine (rowss_calls 141 #[] pPlain V4 (place_Plain V4)).mono ?_
  rintro e V5 ⟨g_params, cap_params, rfl, b5, h_params⟩
  replace h_none := Lib.hid (h_none.out.below b5)
  replace h_block := Lib.hid (h_block.out.below b5)
  replace h_tp := Lib.hid (h_tp.out.below b5)
  replace h_vars := Lib.hid (h_vars.out.below b5)
  replace h_params := Lib.hid h_params
  replace hB := Lib.hid (hB.out.trans (b5.mono hB.out.size))
  clear b5
  go_wp2_with (fail)
  refine (rowss_calls 107 #[] pT V5 (place_T V5)).mono ?_
  rintro e V6 ⟨g_types, cap_types, rfl, b6, h_types⟩
  replace h_none := Lib.hid (h_none.out.below b6)
  replace h_block := Lib.hid (h_block.out.below b6)
  replace h_tp := Lib.hid (h_tp.out.below b6)
  replace h_vars := Lib.hid (h_vars.out.below b6)
  replace h_params := Lib.hid (h_params.out.below b6)
  replace h_types := Lib.hid h_types
  replace hB := Lib.hid (hB.out.trans (b6.mono hB.out.size))
  clear b6
  go_wp2_with (fail)
  refine (ofs_calls [80] V6 (by decide)).mono ?_
  rintro e V7 ⟨g_tn, cap_tn, rfl, b7, h_tn⟩
  replace h_none := Lib.hid (h_none.out.below b7)
  replace h_block := Lib.hid (h_block.out.below b7)
  replace h_tp := Lib.hid (h_tp.out.below b7)
  replace h_vars := Lib.hid (h_vars.out.below b7)
  replace h_params := Lib.hid (h_params.out.below b7)
  replace h_types := Lib.hid (h_types.out.below b7)
  replace h_tn := Lib.hid h_tn
  replace hB := Lib.hid (hB.out.trans (b7.mono hB.out.size))
  clear b7
  go_wp2_with (fail)
  refine (rowss_calls g_tn cap_tn (pOf [80]) V7 h_tn.out).mono ?_
  rintro e V8 ⟨g_refs, cap_refs, rfl, b8, h_refs⟩
  replace h_none := Lib.hid (h_none.out.below b8)
  replace h_block := Lib.hid (h_block.out.below b8)
  replace h_tp := Lib.hid (h_tp.out.below b8)
  replace h_vars := Lib.hid (h_vars.out.below b8)
  replace h_params := Lib.hid (h_params.out.below b8)
  replace h_types := Lib.hid (h_types.out.below b8)
  replace h_tn := Lib.hid (h_tn.out.below b8)
  replace h_refs := Lib.hid h_refs
  replace hB := Lib.hid (hB.out.trans (b8.mono hB.out.size))
  clear b8
  go_wp2_with (fail)
  refine (rowss_calls 104 #[] pE V8 (place_E V8)).mono ?_
  rintro e V9 ⟨g_exprs, cap_exprs, rfl, b9, h_exprs⟩
  replace h_none := Lib.hid (h_none.out.below b9)
  replace h_block := Lib.hid (h_block.out.below b9)
  replace h_tp := Lib.hid (h_tp.out.below b9)
  replace h_vars := Lib.hid (h_vars.out.below b9)
  replace h_params := Lib.hid (h_params.out.below b9)
  replace h_types := Lib.hid (h_types.out.below b9)
  replace h_tn := Lib.hid (h_tn.out.below b9)
  replace h_refs := Lib.hid (h_refs.out.below b9)
  replace h_exprs := Lib.hid h_exprs
  replace hB := Lib.hid (hB.out.trans (b9.mono hB.out.size))
  clear b9
  go_wp2_with (fail)
  refine (ors_calls 107 #[] pT g_none cap_none (pOf [1]) V9 (place_T V9) h_none.out).mono ?_
  rintro e V10 ⟨g_typed, cap_typed, rfl, b10, h_typed⟩
  replace h_none := Lib.hid (h_none.out.below b10)
  replace h_block := Lib.hid (h_block.out.below b10)
  replace h_tp := Lib.hid (h_tp.out.below b10)
  replace h_vars := Lib.hid (h_vars.out.below b10)
  replace h_params := Lib.hid (h_params.out.below b10)
  replace h_types := Lib.hid (h_types.out.below b10)
  replace h_tn := Lib.hid (h_tn.out.below b10)
  replace h_refs := Lib.hid (h_refs.out.below b10)
  replace h_exprs := Lib.hid (h_exprs.out.below b10)
  replace h_typed := Lib.hid h_typed
  replace hB := Lib.hid (hB.out.trans (b10.mono hB.out.size))
  clear b10
  go_wp2_with (fail)
  refine (ors_calls 104 #[] pE g_none cap_none (pOf [1]) V10 (place_E V10) h_none.out).mono ?_
  rintro e V11 ⟨g_valued, cap_valued, rfl, b11, h_valued⟩
  replace h_none := Lib.hid (h_none.out.below b11)
  replace h_block := Lib.hid (h_block.out.below b11)
  replace h_tp := Lib.hid (h_tp.out.below b11)
  replace h_vars := Lib.hid (h_vars.out.below b11)
  replace h_params := Lib.hid (h_params.out.below b11)
  replace h_types := Lib.hid (h_types.out.below b11)
  replace h_tn := Lib.hid (h_tn.out.below b11)
  replace h_refs := Lib.hid (h_refs.out.below b11)
  replace h_exprs := Lib.hid (h_exprs.out.below b11)
  replace h_typed := Lib.hid (h_typed.out.below b11)
  replace h_valued := Lib.hid h_valued
  replace hB := Lib.hid (hB.out.trans (b11.mono hB.out.size))
  clear b11
  go_wp2_with (fail)
  refine (alls_calls _ _ _).mono ?_
  rintro e V ⟨rfl, rfl⟩
  go_wp2_with (fail)
  go_ret3
  exact ⟨_, _, rfl, hB.out.alloc hB.out.size _, PlacesAt.new (vs := [FV 146 #[]]) (ps := [pS]) ⟨(place_S V11), trivial⟩⟩
set_option maxRecDepth 100000 in
set_option maxHeartbeats 4000000 in
theorem places_19 (w : World) : Calls Tryd.prog 108 #[.int .i64 19] w (PlacesEnd w [pE] true) := by
  have hB := Lib.hid (Below.refl w.heap.size w)
  go_enter Tryd.func108, Tryd.ntmps108
  go_wp2_with (fail)
  refine (ofs_calls [1] w (by decide)).mono ?_
  rintro e V1 ⟨g_none, cap_none, rfl, b1, h_none⟩
  replace h_none := Lib.hid h_none
  replace hB := Lib.hid (hB.out.trans (b1.mono hB.out.size))
  clear b1
  go_wp2_with (fail)
  refine (ofs_calls [63] V1 (by decide)).mono ?_
  rintro e V2 ⟨g_block, cap_block, rfl, b2, h_block⟩
  replace h_none := Lib.hid (h_none.out.below b2)
  replace h_block := Lib.hid h_block
  replace hB := Lib.hid (hB.out.trans (b2.mono hB.out.size))
  clear b2
  go_wp2_with (fail)
  refine (ofs_calls [67] V2 (by decide)).mono ?_
  rintro e V3 ⟨g_tp, cap_tp, rfl, b3, h_tp⟩
  replace h_none := Lib.hid (h_none.out.below b3)
  replace h_block := Lib.hid (h_block.out.below b3)
  replace h_tp := Lib.hid h_tp
  replace hB := Lib.hid (hB.out.trans (b3.mono hB.out.size))
  clear b3
  go_wp2_with (fail)
  refine (rowss_calls g_tp cap_tp (pOf [67]) V3 h_tp.out).mono ?_
  rintro e V4 ⟨g_vars, cap_vars, rfl, b4, h_vars⟩
  replace h_none := Lib.hid (h_none.out.below b4)
  replace h_block := Lib.hid (h_block.out.below b4)
  replace h_tp := Lib.hid (h_tp.out.below b4)
  replace h_vars := Lib.hid h_vars
  replace hB := Lib.hid (hB.out.trans (b4.mono hB.out.size))
  clear b4
  go_wp2_with (fail)
  refine (rowss_calls 141 #[] pPlain V4 (place_Plain V4)).mono ?_
  rintro e V5 ⟨g_params, cap_params, rfl, b5, h_params⟩
  replace h_none := Lib.hid (h_none.out.below b5)
  replace h_block := Lib.hid (h_block.out.below b5)
  replace h_tp := Lib.hid (h_tp.out.below b5)
  replace h_vars := Lib.hid (h_vars.out.below b5)
  replace h_params := Lib.hid h_params
  replace hB := Lib.hid (hB.out.trans (b5.mono hB.out.size))
  clear b5
  go_wp2_with (fail)
  refine (rowss_calls 107 #[] pT V5 (place_T V5)).mono ?_
  rintro e V6 ⟨g_types, cap_types, rfl, b6, h_types⟩
  replace h_none := Lib.hid (h_none.out.below b6)
  replace h_block := Lib.hid (h_block.out.below b6)
  replace h_tp := Lib.hid (h_tp.out.below b6)
  replace h_vars := Lib.hid (h_vars.out.below b6)
  replace h_params := Lib.hid (h_params.out.below b6)
  replace h_types := Lib.hid h_types
  replace hB := Lib.hid (hB.out.trans (b6.mono hB.out.size))
  clear b6
  go_wp2_with (fail)
  refine (ofs_calls [80] V6 (by decide)).mono ?_
  rintro e V7 ⟨g_tn, cap_tn, rfl, b7, h_tn⟩
  replace h_none := Lib.hid (h_none.out.below b7)
  replace h_block := Lib.hid (h_block.out.below b7)
  replace h_tp := Lib.hid (h_tp.out.below b7)
  replace h_vars := Lib.hid (h_vars.out.below b7)
  replace h_params := Lib.hid (h_params.out.below b7)
  replace h_types := Lib.hid (h_types.out.below b7)
  replace h_tn := Lib.hid h_tn
  replace hB := Lib.hid (hB.out.trans (b7.mono hB.out.size))
  clear b7
  go_wp2_with (fail)
  refine (rowss_calls g_tn cap_tn (pOf [80]) V7 h_tn.out).mono ?_
  rintro e V8 ⟨g_refs, cap_refs, rfl, b8, h_refs⟩
  replace h_none := Lib.hid (h_none.out.below b8)
  replace h_block := Lib.hid (h_block.out.below b8)
  replace h_tp := Lib.hid (h_tp.out.below b8)
  replace h_vars := Lib.hid (h_vars.out.below b8)
  replace h_params := Lib.hid (h_params.out.below b8)
  replace h_types := Lib.hid (h_types.out.below b8)
  replace h_tn := Lib.hid (h_tn.out.below b8)
  replace h_refs := Lib.hid h_refs
  replace hB := Lib.hid (hB.out.trans (b8.mono hB.out.size))
  clear b8
  go_wp2_with (fail)
  refine (rowss_calls 104 #[] pE V8 (place_E V8)).mono ?_
  rintro e V9 ⟨g_exprs, cap_exprs, rfl, b9, h_exprs⟩
  replace h_none := Lib.hid (h_none.out.below b9)
  replace h_block := Lib.hid (h_block.out.below b9)
  replace h_tp := Lib.hid (h_tp.out.below b9)
  replace h_vars := Lib.hid (h_vars.out.below b9)
  replace h_params := Lib.hid (h_params.out.below b9)
  replace h_types := Lib.hid (h_types.out.below b9)
  replace h_tn := Lib.hid (h_tn.out.below b9)
  replace h_refs := Lib.hid (h_refs.out.below b9)
  replace h_exprs := Lib.hid h_exprs
  replace hB := Lib.hid (hB.out.trans (b9.mono hB.out.size))
  clear b9
  go_wp2_with (fail)
  refine (ors_calls 107 #[] pT g_none cap_none (pOf [1]) V9 (place_T V9) h_none.out).mono ?_
  rintro e V10 ⟨g_typed, cap_typed, rfl, b10, h_typed⟩
  replace h_none := Lib.hid (h_none.out.below b10)
  replace h_block := Lib.hid (h_block.out.below b10)
  replace h_tp := Lib.hid (h_tp.out.below b10)
  replace h_vars := Lib.hid (h_vars.out.below b10)
  replace h_params := Lib.hid (h_params.out.below b10)
  replace h_types := Lib.hid (h_types.out.below b10)
  replace h_tn := Lib.hid (h_tn.out.below b10)
  replace h_refs := Lib.hid (h_refs.out.below b10)
  replace h_exprs := Lib.hid (h_exprs.out.below b10)
  replace h_typed := Lib.hid h_typed
  replace hB := Lib.hid (hB.out.trans (b10.mono hB.out.size))
  clear b10
  go_wp2_with (fail)
  refine (ors_calls 104 #[] pE g_none cap_none (pOf [1]) V10 (place_E V10) h_none.out).mono ?_
  rintro e V11 ⟨g_valued, cap_valued, rfl, b11, h_valued⟩
  replace h_none := Lib.hid (h_none.out.below b11)
  replace h_block := Lib.hid (h_block.out.below b11)
  replace h_tp := Lib.hid (h_tp.out.below b11)
  replace h_vars := Lib.hid (h_vars.out.below b11)
  replace h_params := Lib.hid (h_params.out.below b11)
  replace h_types := Lib.hid (h_types.out.below b11)
  replace h_tn := Lib.hid (h_tn.out.below b11)
  replace h_refs := Lib.hid (h_refs.out.below b11)
  replace h_exprs := Lib.hid (h_exprs.out.below b11)
  replace h_typed := Lib.hid (h_typed.out.below b11)
  replace h_valued := Lib.hid h_valued
  replace hB := Lib.hid (hB.out.trans (b11.mono hB.out.size))
  clear b11
  go_wp2_with (fail)
  refine (alls_calls _ _ _).mono ?_
  rintro e V ⟨rfl, rfl⟩
  go_wp2_with (fail)
  go_ret3
  exact ⟨_, _, rfl, hB.out.alloc hB.out.size _, PlacesAt.new (vs := [FV 104 #[]]) (ps := [pE]) ⟨(place_E V11), trivial⟩⟩
set_option maxRecDepth 100000 in
set_option maxHeartbeats 4000000 in
theorem places_20 (w : World) : Calls Tryd.prog 108 #[.int .i64 20] w (PlacesEnd w [(pOf [21])] true) := by
  have hB := Lib.hid (Below.refl w.heap.size w)
  go_enter Tryd.func108, Tryd.ntmps108
  go_wp2_with (fail)
  refine (ofs_calls [1] w (by decide)).mono ?_
  rintro e V1 ⟨g_none, cap_none, rfl, b1, h_none⟩
  replace h_none := Lib.hid h_none
  replace hB := Lib.hid (hB.out.trans (b1.mono hB.out.size))
  clear b1
  go_wp2_with (fail)
  refine (ofs_calls [63] V1 (by decide)).mono ?_
  rintro e V2 ⟨g_block, cap_block, rfl, b2, h_block⟩
  replace h_none := Lib.hid (h_none.out.below b2)
  replace h_block := Lib.hid h_block
  replace hB := Lib.hid (hB.out.trans (b2.mono hB.out.size))
  clear b2
  go_wp2_with (fail)
  refine (ofs_calls [67] V2 (by decide)).mono ?_
  rintro e V3 ⟨g_tp, cap_tp, rfl, b3, h_tp⟩
  replace h_none := Lib.hid (h_none.out.below b3)
  replace h_block := Lib.hid (h_block.out.below b3)
  replace h_tp := Lib.hid h_tp
  replace hB := Lib.hid (hB.out.trans (b3.mono hB.out.size))
  clear b3
  go_wp2_with (fail)
  refine (rowss_calls g_tp cap_tp (pOf [67]) V3 h_tp.out).mono ?_
  rintro e V4 ⟨g_vars, cap_vars, rfl, b4, h_vars⟩
  replace h_none := Lib.hid (h_none.out.below b4)
  replace h_block := Lib.hid (h_block.out.below b4)
  replace h_tp := Lib.hid (h_tp.out.below b4)
  replace h_vars := Lib.hid h_vars
  replace hB := Lib.hid (hB.out.trans (b4.mono hB.out.size))
  clear b4
  go_wp2_with (fail)
  refine (rowss_calls 141 #[] pPlain V4 (place_Plain V4)).mono ?_
  rintro e V5 ⟨g_params, cap_params, rfl, b5, h_params⟩
  replace h_none := Lib.hid (h_none.out.below b5)
  replace h_block := Lib.hid (h_block.out.below b5)
  replace h_tp := Lib.hid (h_tp.out.below b5)
  replace h_vars := Lib.hid (h_vars.out.below b5)
  replace h_params := Lib.hid h_params
  replace hB := Lib.hid (hB.out.trans (b5.mono hB.out.size))
  clear b5
  go_wp2_with (fail)
  refine (rowss_calls 107 #[] pT V5 (place_T V5)).mono ?_
  rintro e V6 ⟨g_types, cap_types, rfl, b6, h_types⟩
  replace h_none := Lib.hid (h_none.out.below b6)
  replace h_block := Lib.hid (h_block.out.below b6)
  replace h_tp := Lib.hid (h_tp.out.below b6)
  replace h_vars := Lib.hid (h_vars.out.below b6)
  replace h_params := Lib.hid (h_params.out.below b6)
  replace h_types := Lib.hid h_types
  replace hB := Lib.hid (hB.out.trans (b6.mono hB.out.size))
  clear b6
  go_wp2_with (fail)
  refine (ofs_calls [80] V6 (by decide)).mono ?_
  rintro e V7 ⟨g_tn, cap_tn, rfl, b7, h_tn⟩
  replace h_none := Lib.hid (h_none.out.below b7)
  replace h_block := Lib.hid (h_block.out.below b7)
  replace h_tp := Lib.hid (h_tp.out.below b7)
  replace h_vars := Lib.hid (h_vars.out.below b7)
  replace h_params := Lib.hid (h_params.out.below b7)
  replace h_types := Lib.hid (h_types.out.below b7)
  replace h_tn := Lib.hid h_tn
  replace hB := Lib.hid (hB.out.trans (b7.mono hB.out.size))
  clear b7
  go_wp2_with (fail)
  refine (rowss_calls g_tn cap_tn (pOf [80]) V7 h_tn.out).mono ?_
  rintro e V8 ⟨g_refs, cap_refs, rfl, b8, h_refs⟩
  replace h_none := Lib.hid (h_none.out.below b8)
  replace h_block := Lib.hid (h_block.out.below b8)
  replace h_tp := Lib.hid (h_tp.out.below b8)
  replace h_vars := Lib.hid (h_vars.out.below b8)
  replace h_params := Lib.hid (h_params.out.below b8)
  replace h_types := Lib.hid (h_types.out.below b8)
  replace h_tn := Lib.hid (h_tn.out.below b8)
  replace h_refs := Lib.hid h_refs
  replace hB := Lib.hid (hB.out.trans (b8.mono hB.out.size))
  clear b8
  go_wp2_with (fail)
  refine (rowss_calls 104 #[] pE V8 (place_E V8)).mono ?_
  rintro e V9 ⟨g_exprs, cap_exprs, rfl, b9, h_exprs⟩
  replace h_none := Lib.hid (h_none.out.below b9)
  replace h_block := Lib.hid (h_block.out.below b9)
  replace h_tp := Lib.hid (h_tp.out.below b9)
  replace h_vars := Lib.hid (h_vars.out.below b9)
  replace h_params := Lib.hid (h_params.out.below b9)
  replace h_types := Lib.hid (h_types.out.below b9)
  replace h_tn := Lib.hid (h_tn.out.below b9)
  replace h_refs := Lib.hid (h_refs.out.below b9)
  replace h_exprs := Lib.hid h_exprs
  replace hB := Lib.hid (hB.out.trans (b9.mono hB.out.size))
  clear b9
  go_wp2_with (fail)
  refine (ors_calls 107 #[] pT g_none cap_none (pOf [1]) V9 (place_T V9) h_none.out).mono ?_
  rintro e V10 ⟨g_typed, cap_typed, rfl, b10, h_typed⟩
  replace h_none := Lib.hid (h_none.out.below b10)
  replace h_block := Lib.hid (h_block.out.below b10)
  replace h_tp := Lib.hid (h_tp.out.below b10)
  replace h_vars := Lib.hid (h_vars.out.below b10)
  replace h_params := Lib.hid (h_params.out.below b10)
  replace h_types := Lib.hid (h_types.out.below b10)
  replace h_tn := Lib.hid (h_tn.out.below b10)
  replace h_refs := Lib.hid (h_refs.out.below b10)
  replace h_exprs := Lib.hid (h_exprs.out.below b10)
  replace h_typed := Lib.hid h_typed
  replace hB := Lib.hid (hB.out.trans (b10.mono hB.out.size))
  clear b10
  go_wp2_with (fail)
  refine (ors_calls 104 #[] pE g_none cap_none (pOf [1]) V10 (place_E V10) h_none.out).mono ?_
  rintro e V11 ⟨g_valued, cap_valued, rfl, b11, h_valued⟩
  replace h_none := Lib.hid (h_none.out.below b11)
  replace h_block := Lib.hid (h_block.out.below b11)
  replace h_tp := Lib.hid (h_tp.out.below b11)
  replace h_vars := Lib.hid (h_vars.out.below b11)
  replace h_params := Lib.hid (h_params.out.below b11)
  replace h_types := Lib.hid (h_types.out.below b11)
  replace h_tn := Lib.hid (h_tn.out.below b11)
  replace h_refs := Lib.hid (h_refs.out.below b11)
  replace h_exprs := Lib.hid (h_exprs.out.below b11)
  replace h_typed := Lib.hid (h_typed.out.below b11)
  replace h_valued := Lib.hid h_valued
  replace hB := Lib.hid (hB.out.trans (b11.mono hB.out.size))
  clear b11
  go_wp2_with (fail)
  refine (ofs_calls [21] V11 (by decide)).mono ?_
  rintro e V12 ⟨g_x1, cap_x1, rfl, b12, h_x1⟩
  replace h_none := Lib.hid (h_none.out.below b12)
  replace h_block := Lib.hid (h_block.out.below b12)
  replace h_tp := Lib.hid (h_tp.out.below b12)
  replace h_vars := Lib.hid (h_vars.out.below b12)
  replace h_params := Lib.hid (h_params.out.below b12)
  replace h_types := Lib.hid (h_types.out.below b12)
  replace h_tn := Lib.hid (h_tn.out.below b12)
  replace h_refs := Lib.hid (h_refs.out.below b12)
  replace h_exprs := Lib.hid (h_exprs.out.below b12)
  replace h_typed := Lib.hid (h_typed.out.below b12)
  replace h_valued := Lib.hid (h_valued.out.below b12)
  replace h_x1 := Lib.hid h_x1
  replace hB := Lib.hid (hB.out.trans (b12.mono hB.out.size))
  clear b12
  go_wp2_with (fail)
  refine (alls_calls _ _ _).mono ?_
  rintro e V ⟨rfl, rfl⟩
  go_wp2_with (fail)
  go_ret3
  exact ⟨_, _, rfl, hB.out.alloc hB.out.size _, PlacesAt.new (vs := [FV g_x1 cap_x1]) (ps := [(pOf [21])]) ⟨h_x1.out, trivial⟩⟩
set_option maxRecDepth 100000 in
set_option maxHeartbeats 4000000 in
theorem places_21 (w : World) : Calls Tryd.prog 108 #[.int .i64 21] w (PlacesEnd w [pE] false) := by
  have hB := Lib.hid (Below.refl w.heap.size w)
  go_enter Tryd.func108, Tryd.ntmps108
  go_wp2_with (fail)
  refine (ofs_calls [1] w (by decide)).mono ?_
  rintro e V1 ⟨g_none, cap_none, rfl, b1, h_none⟩
  replace h_none := Lib.hid h_none
  replace hB := Lib.hid (hB.out.trans (b1.mono hB.out.size))
  clear b1
  go_wp2_with (fail)
  refine (ofs_calls [63] V1 (by decide)).mono ?_
  rintro e V2 ⟨g_block, cap_block, rfl, b2, h_block⟩
  replace h_none := Lib.hid (h_none.out.below b2)
  replace h_block := Lib.hid h_block
  replace hB := Lib.hid (hB.out.trans (b2.mono hB.out.size))
  clear b2
  go_wp2_with (fail)
  refine (ofs_calls [67] V2 (by decide)).mono ?_
  rintro e V3 ⟨g_tp, cap_tp, rfl, b3, h_tp⟩
  replace h_none := Lib.hid (h_none.out.below b3)
  replace h_block := Lib.hid (h_block.out.below b3)
  replace h_tp := Lib.hid h_tp
  replace hB := Lib.hid (hB.out.trans (b3.mono hB.out.size))
  clear b3
  go_wp2_with (fail)
  refine (rowss_calls g_tp cap_tp (pOf [67]) V3 h_tp.out).mono ?_
  rintro e V4 ⟨g_vars, cap_vars, rfl, b4, h_vars⟩
  replace h_none := Lib.hid (h_none.out.below b4)
  replace h_block := Lib.hid (h_block.out.below b4)
  replace h_tp := Lib.hid (h_tp.out.below b4)
  replace h_vars := Lib.hid h_vars
  replace hB := Lib.hid (hB.out.trans (b4.mono hB.out.size))
  clear b4
  go_wp2_with (fail)
  refine (rowss_calls 141 #[] pPlain V4 (place_Plain V4)).mono ?_
  rintro e V5 ⟨g_params, cap_params, rfl, b5, h_params⟩
  replace h_none := Lib.hid (h_none.out.below b5)
  replace h_block := Lib.hid (h_block.out.below b5)
  replace h_tp := Lib.hid (h_tp.out.below b5)
  replace h_vars := Lib.hid (h_vars.out.below b5)
  replace h_params := Lib.hid h_params
  replace hB := Lib.hid (hB.out.trans (b5.mono hB.out.size))
  clear b5
  go_wp2_with (fail)
  refine (rowss_calls 107 #[] pT V5 (place_T V5)).mono ?_
  rintro e V6 ⟨g_types, cap_types, rfl, b6, h_types⟩
  replace h_none := Lib.hid (h_none.out.below b6)
  replace h_block := Lib.hid (h_block.out.below b6)
  replace h_tp := Lib.hid (h_tp.out.below b6)
  replace h_vars := Lib.hid (h_vars.out.below b6)
  replace h_params := Lib.hid (h_params.out.below b6)
  replace h_types := Lib.hid h_types
  replace hB := Lib.hid (hB.out.trans (b6.mono hB.out.size))
  clear b6
  go_wp2_with (fail)
  refine (ofs_calls [80] V6 (by decide)).mono ?_
  rintro e V7 ⟨g_tn, cap_tn, rfl, b7, h_tn⟩
  replace h_none := Lib.hid (h_none.out.below b7)
  replace h_block := Lib.hid (h_block.out.below b7)
  replace h_tp := Lib.hid (h_tp.out.below b7)
  replace h_vars := Lib.hid (h_vars.out.below b7)
  replace h_params := Lib.hid (h_params.out.below b7)
  replace h_types := Lib.hid (h_types.out.below b7)
  replace h_tn := Lib.hid h_tn
  replace hB := Lib.hid (hB.out.trans (b7.mono hB.out.size))
  clear b7
  go_wp2_with (fail)
  refine (rowss_calls g_tn cap_tn (pOf [80]) V7 h_tn.out).mono ?_
  rintro e V8 ⟨g_refs, cap_refs, rfl, b8, h_refs⟩
  replace h_none := Lib.hid (h_none.out.below b8)
  replace h_block := Lib.hid (h_block.out.below b8)
  replace h_tp := Lib.hid (h_tp.out.below b8)
  replace h_vars := Lib.hid (h_vars.out.below b8)
  replace h_params := Lib.hid (h_params.out.below b8)
  replace h_types := Lib.hid (h_types.out.below b8)
  replace h_tn := Lib.hid (h_tn.out.below b8)
  replace h_refs := Lib.hid h_refs
  replace hB := Lib.hid (hB.out.trans (b8.mono hB.out.size))
  clear b8
  go_wp2_with (fail)
  refine (rowss_calls 104 #[] pE V8 (place_E V8)).mono ?_
  rintro e V9 ⟨g_exprs, cap_exprs, rfl, b9, h_exprs⟩
  replace h_none := Lib.hid (h_none.out.below b9)
  replace h_block := Lib.hid (h_block.out.below b9)
  replace h_tp := Lib.hid (h_tp.out.below b9)
  replace h_vars := Lib.hid (h_vars.out.below b9)
  replace h_params := Lib.hid (h_params.out.below b9)
  replace h_types := Lib.hid (h_types.out.below b9)
  replace h_tn := Lib.hid (h_tn.out.below b9)
  replace h_refs := Lib.hid (h_refs.out.below b9)
  replace h_exprs := Lib.hid h_exprs
  replace hB := Lib.hid (hB.out.trans (b9.mono hB.out.size))
  clear b9
  go_wp2_with (fail)
  refine (ors_calls 107 #[] pT g_none cap_none (pOf [1]) V9 (place_T V9) h_none.out).mono ?_
  rintro e V10 ⟨g_typed, cap_typed, rfl, b10, h_typed⟩
  replace h_none := Lib.hid (h_none.out.below b10)
  replace h_block := Lib.hid (h_block.out.below b10)
  replace h_tp := Lib.hid (h_tp.out.below b10)
  replace h_vars := Lib.hid (h_vars.out.below b10)
  replace h_params := Lib.hid (h_params.out.below b10)
  replace h_types := Lib.hid (h_types.out.below b10)
  replace h_tn := Lib.hid (h_tn.out.below b10)
  replace h_refs := Lib.hid (h_refs.out.below b10)
  replace h_exprs := Lib.hid (h_exprs.out.below b10)
  replace h_typed := Lib.hid h_typed
  replace hB := Lib.hid (hB.out.trans (b10.mono hB.out.size))
  clear b10
  go_wp2_with (fail)
  refine (ors_calls 104 #[] pE g_none cap_none (pOf [1]) V10 (place_E V10) h_none.out).mono ?_
  rintro e V11 ⟨g_valued, cap_valued, rfl, b11, h_valued⟩
  replace h_none := Lib.hid (h_none.out.below b11)
  replace h_block := Lib.hid (h_block.out.below b11)
  replace h_tp := Lib.hid (h_tp.out.below b11)
  replace h_vars := Lib.hid (h_vars.out.below b11)
  replace h_params := Lib.hid (h_params.out.below b11)
  replace h_types := Lib.hid (h_types.out.below b11)
  replace h_tn := Lib.hid (h_tn.out.below b11)
  replace h_refs := Lib.hid (h_refs.out.below b11)
  replace h_exprs := Lib.hid (h_exprs.out.below b11)
  replace h_typed := Lib.hid (h_typed.out.below b11)
  replace h_valued := Lib.hid h_valued
  replace hB := Lib.hid (hB.out.trans (b11.mono hB.out.size))
  clear b11
  go_wp2_with (fail)
  refine (these_calls _ ⟨_, _, _, rfl⟩ _).mono ?_
  rintro e V ⟨rfl, rfl⟩
  go_wp2_with (fail)
  go_ret3
  exact ⟨_, _, rfl, hB.out.alloc hB.out.size _, PlacesAt.new (vs := [FV 104 #[]]) (ps := [pE]) ⟨(place_E V11), trivial⟩⟩
set_option maxRecDepth 100000 in
set_option maxHeartbeats 4000000 in
theorem places_23 (w : World) : Calls Tryd.prog 108 #[.int .i64 23] w (PlacesEnd w [pE] false) := by
  have hB := Lib.hid (Below.refl w.heap.size w)
  go_enter Tryd.func108, Tryd.ntmps108
  go_wp2_with (fail)
  refine (ofs_calls [1] w (by decide)).mono ?_
  rintro e V1 ⟨g_none, cap_none, rfl, b1, h_none⟩
  replace h_none := Lib.hid h_none
  replace hB := Lib.hid (hB.out.trans (b1.mono hB.out.size))
  clear b1
  go_wp2_with (fail)
  refine (ofs_calls [63] V1 (by decide)).mono ?_
  rintro e V2 ⟨g_block, cap_block, rfl, b2, h_block⟩
  replace h_none := Lib.hid (h_none.out.below b2)
  replace h_block := Lib.hid h_block
  replace hB := Lib.hid (hB.out.trans (b2.mono hB.out.size))
  clear b2
  go_wp2_with (fail)
  refine (ofs_calls [67] V2 (by decide)).mono ?_
  rintro e V3 ⟨g_tp, cap_tp, rfl, b3, h_tp⟩
  replace h_none := Lib.hid (h_none.out.below b3)
  replace h_block := Lib.hid (h_block.out.below b3)
  replace h_tp := Lib.hid h_tp
  replace hB := Lib.hid (hB.out.trans (b3.mono hB.out.size))
  clear b3
  go_wp2_with (fail)
  refine (rowss_calls g_tp cap_tp (pOf [67]) V3 h_tp.out).mono ?_
  rintro e V4 ⟨g_vars, cap_vars, rfl, b4, h_vars⟩
  replace h_none := Lib.hid (h_none.out.below b4)
  replace h_block := Lib.hid (h_block.out.below b4)
  replace h_tp := Lib.hid (h_tp.out.below b4)
  replace h_vars := Lib.hid h_vars
  replace hB := Lib.hid (hB.out.trans (b4.mono hB.out.size))
  clear b4
  go_wp2_with (fail)
  refine (rowss_calls 141 #[] pPlain V4 (place_Plain V4)).mono ?_
  rintro e V5 ⟨g_params, cap_params, rfl, b5, h_params⟩
  replace h_none := Lib.hid (h_none.out.below b5)
  replace h_block := Lib.hid (h_block.out.below b5)
  replace h_tp := Lib.hid (h_tp.out.below b5)
  replace h_vars := Lib.hid (h_vars.out.below b5)
  replace h_params := Lib.hid h_params
  replace hB := Lib.hid (hB.out.trans (b5.mono hB.out.size))
  clear b5
  go_wp2_with (fail)
  refine (rowss_calls 107 #[] pT V5 (place_T V5)).mono ?_
  rintro e V6 ⟨g_types, cap_types, rfl, b6, h_types⟩
  replace h_none := Lib.hid (h_none.out.below b6)
  replace h_block := Lib.hid (h_block.out.below b6)
  replace h_tp := Lib.hid (h_tp.out.below b6)
  replace h_vars := Lib.hid (h_vars.out.below b6)
  replace h_params := Lib.hid (h_params.out.below b6)
  replace h_types := Lib.hid h_types
  replace hB := Lib.hid (hB.out.trans (b6.mono hB.out.size))
  clear b6
  go_wp2_with (fail)
  refine (ofs_calls [80] V6 (by decide)).mono ?_
  rintro e V7 ⟨g_tn, cap_tn, rfl, b7, h_tn⟩
  replace h_none := Lib.hid (h_none.out.below b7)
  replace h_block := Lib.hid (h_block.out.below b7)
  replace h_tp := Lib.hid (h_tp.out.below b7)
  replace h_vars := Lib.hid (h_vars.out.below b7)
  replace h_params := Lib.hid (h_params.out.below b7)
  replace h_types := Lib.hid (h_types.out.below b7)
  replace h_tn := Lib.hid h_tn
  replace hB := Lib.hid (hB.out.trans (b7.mono hB.out.size))
  clear b7
  go_wp2_with (fail)
  refine (rowss_calls g_tn cap_tn (pOf [80]) V7 h_tn.out).mono ?_
  rintro e V8 ⟨g_refs, cap_refs, rfl, b8, h_refs⟩
  replace h_none := Lib.hid (h_none.out.below b8)
  replace h_block := Lib.hid (h_block.out.below b8)
  replace h_tp := Lib.hid (h_tp.out.below b8)
  replace h_vars := Lib.hid (h_vars.out.below b8)
  replace h_params := Lib.hid (h_params.out.below b8)
  replace h_types := Lib.hid (h_types.out.below b8)
  replace h_tn := Lib.hid (h_tn.out.below b8)
  replace h_refs := Lib.hid h_refs
  replace hB := Lib.hid (hB.out.trans (b8.mono hB.out.size))
  clear b8
  go_wp2_with (fail)
  refine (rowss_calls 104 #[] pE V8 (place_E V8)).mono ?_
  rintro e V9 ⟨g_exprs, cap_exprs, rfl, b9, h_exprs⟩
  replace h_none := Lib.hid (h_none.out.below b9)
  replace h_block := Lib.hid (h_block.out.below b9)
  replace h_tp := Lib.hid (h_tp.out.below b9)
  replace h_vars := Lib.hid (h_vars.out.below b9)
  replace h_params := Lib.hid (h_params.out.below b9)
  replace h_types := Lib.hid (h_types.out.below b9)
  replace h_tn := Lib.hid (h_tn.out.below b9)
  replace h_refs := Lib.hid (h_refs.out.below b9)
  replace h_exprs := Lib.hid h_exprs
  replace hB := Lib.hid (hB.out.trans (b9.mono hB.out.size))
  clear b9
  go_wp2_with (fail)
  refine (ors_calls 107 #[] pT g_none cap_none (pOf [1]) V9 (place_T V9) h_none.out).mono ?_
  rintro e V10 ⟨g_typed, cap_typed, rfl, b10, h_typed⟩
  replace h_none := Lib.hid (h_none.out.below b10)
  replace h_block := Lib.hid (h_block.out.below b10)
  replace h_tp := Lib.hid (h_tp.out.below b10)
  replace h_vars := Lib.hid (h_vars.out.below b10)
  replace h_params := Lib.hid (h_params.out.below b10)
  replace h_types := Lib.hid (h_types.out.below b10)
  replace h_tn := Lib.hid (h_tn.out.below b10)
  replace h_refs := Lib.hid (h_refs.out.below b10)
  replace h_exprs := Lib.hid (h_exprs.out.below b10)
  replace h_typed := Lib.hid h_typed
  replace hB := Lib.hid (hB.out.trans (b10.mono hB.out.size))
  clear b10
  go_wp2_with (fail)
  refine (ors_calls 104 #[] pE g_none cap_none (pOf [1]) V10 (place_E V10) h_none.out).mono ?_
  rintro e V11 ⟨g_valued, cap_valued, rfl, b11, h_valued⟩
  replace h_none := Lib.hid (h_none.out.below b11)
  replace h_block := Lib.hid (h_block.out.below b11)
  replace h_tp := Lib.hid (h_tp.out.below b11)
  replace h_vars := Lib.hid (h_vars.out.below b11)
  replace h_params := Lib.hid (h_params.out.below b11)
  replace h_types := Lib.hid (h_types.out.below b11)
  replace h_tn := Lib.hid (h_tn.out.below b11)
  replace h_refs := Lib.hid (h_refs.out.below b11)
  replace h_exprs := Lib.hid (h_exprs.out.below b11)
  replace h_typed := Lib.hid (h_typed.out.below b11)
  replace h_valued := Lib.hid h_valued
  replace hB := Lib.hid (hB.out.trans (b11.mono hB.out.size))
  clear b11
  go_wp2_with (fail)
  refine (these_calls _ ⟨_, _, _, rfl⟩ _).mono ?_
  rintro e V ⟨rfl, rfl⟩
  go_wp2_with (fail)
  go_ret3
  exact ⟨_, _, rfl, hB.out.alloc hB.out.size _, PlacesAt.new (vs := [FV 104 #[]]) (ps := [pE]) ⟨(place_E V11), trivial⟩⟩
set_option maxRecDepth 100000 in
set_option maxHeartbeats 4000000 in
theorem places_29 (w : World) : Calls Tryd.prog 108 #[.int .i64 29] w (PlacesEnd w [pE] false) := by
  have hB := Lib.hid (Below.refl w.heap.size w)
  go_enter Tryd.func108, Tryd.ntmps108
  go_wp2_with (fail)
  refine (ofs_calls [1] w (by decide)).mono ?_
  rintro e V1 ⟨g_none, cap_none, rfl, b1, h_none⟩
  replace h_none := Lib.hid h_none
  replace hB := Lib.hid (hB.out.trans (b1.mono hB.out.size))
  clear b1
  go_wp2_with (fail)
  refine (ofs_calls [63] V1 (by decide)).mono ?_
  rintro e V2 ⟨g_block, cap_block, rfl, b2, h_block⟩
  replace h_none := Lib.hid (h_none.out.below b2)
  replace h_block := Lib.hid h_block
  replace hB := Lib.hid (hB.out.trans (b2.mono hB.out.size))
  clear b2
  go_wp2_with (fail)
  refine (ofs_calls [67] V2 (by decide)).mono ?_
  rintro e V3 ⟨g_tp, cap_tp, rfl, b3, h_tp⟩
  replace h_none := Lib.hid (h_none.out.below b3)
  replace h_block := Lib.hid (h_block.out.below b3)
  replace h_tp := Lib.hid h_tp
  replace hB := Lib.hid (hB.out.trans (b3.mono hB.out.size))
  clear b3
  go_wp2_with (fail)
  refine (rowss_calls g_tp cap_tp (pOf [67]) V3 h_tp.out).mono ?_
  rintro e V4 ⟨g_vars, cap_vars, rfl, b4, h_vars⟩
  replace h_none := Lib.hid (h_none.out.below b4)
  replace h_block := Lib.hid (h_block.out.below b4)
  replace h_tp := Lib.hid (h_tp.out.below b4)
  replace h_vars := Lib.hid h_vars
  replace hB := Lib.hid (hB.out.trans (b4.mono hB.out.size))
  clear b4
  go_wp2_with (fail)
  refine (rowss_calls 141 #[] pPlain V4 (place_Plain V4)).mono ?_
  rintro e V5 ⟨g_params, cap_params, rfl, b5, h_params⟩
  replace h_none := Lib.hid (h_none.out.below b5)
  replace h_block := Lib.hid (h_block.out.below b5)
  replace h_tp := Lib.hid (h_tp.out.below b5)
  replace h_vars := Lib.hid (h_vars.out.below b5)
  replace h_params := Lib.hid h_params
  replace hB := Lib.hid (hB.out.trans (b5.mono hB.out.size))
  clear b5
  go_wp2_with (fail)
  refine (rowss_calls 107 #[] pT V5 (place_T V5)).mono ?_
  rintro e V6 ⟨g_types, cap_types, rfl, b6, h_types⟩
  replace h_none := Lib.hid (h_none.out.below b6)
  replace h_block := Lib.hid (h_block.out.below b6)
  replace h_tp := Lib.hid (h_tp.out.below b6)
  replace h_vars := Lib.hid (h_vars.out.below b6)
  replace h_params := Lib.hid (h_params.out.below b6)
  replace h_types := Lib.hid h_types
  replace hB := Lib.hid (hB.out.trans (b6.mono hB.out.size))
  clear b6
  go_wp2_with (fail)
  refine (ofs_calls [80] V6 (by decide)).mono ?_
  rintro e V7 ⟨g_tn, cap_tn, rfl, b7, h_tn⟩
  replace h_none := Lib.hid (h_none.out.below b7)
  replace h_block := Lib.hid (h_block.out.below b7)
  replace h_tp := Lib.hid (h_tp.out.below b7)
  replace h_vars := Lib.hid (h_vars.out.below b7)
  replace h_params := Lib.hid (h_params.out.below b7)
  replace h_types := Lib.hid (h_types.out.below b7)
  replace h_tn := Lib.hid h_tn
  replace hB := Lib.hid (hB.out.trans (b7.mono hB.out.size))
  clear b7
  go_wp2_with (fail)
  refine (rowss_calls g_tn cap_tn (pOf [80]) V7 h_tn.out).mono ?_
  rintro e V8 ⟨g_refs, cap_refs, rfl, b8, h_refs⟩
  replace h_none := Lib.hid (h_none.out.below b8)
  replace h_block := Lib.hid (h_block.out.below b8)
  replace h_tp := Lib.hid (h_tp.out.below b8)
  replace h_vars := Lib.hid (h_vars.out.below b8)
  replace h_params := Lib.hid (h_params.out.below b8)
  replace h_types := Lib.hid (h_types.out.below b8)
  replace h_tn := Lib.hid (h_tn.out.below b8)
  replace h_refs := Lib.hid h_refs
  replace hB := Lib.hid (hB.out.trans (b8.mono hB.out.size))
  clear b8
  go_wp2_with (fail)
  refine (rowss_calls 104 #[] pE V8 (place_E V8)).mono ?_
  rintro e V9 ⟨g_exprs, cap_exprs, rfl, b9, h_exprs⟩
  replace h_none := Lib.hid (h_none.out.below b9)
  replace h_block := Lib.hid (h_block.out.below b9)
  replace h_tp := Lib.hid (h_tp.out.below b9)
  replace h_vars := Lib.hid (h_vars.out.below b9)
  replace h_params := Lib.hid (h_params.out.below b9)
  replace h_types := Lib.hid (h_types.out.below b9)
  replace h_tn := Lib.hid (h_tn.out.below b9)
  replace h_refs := Lib.hid (h_refs.out.below b9)
  replace h_exprs := Lib.hid h_exprs
  replace hB := Lib.hid (hB.out.trans (b9.mono hB.out.size))
  clear b9
  go_wp2_with (fail)
  refine (ors_calls 107 #[] pT g_none cap_none (pOf [1]) V9 (place_T V9) h_none.out).mono ?_
  rintro e V10 ⟨g_typed, cap_typed, rfl, b10, h_typed⟩
  replace h_none := Lib.hid (h_none.out.below b10)
  replace h_block := Lib.hid (h_block.out.below b10)
  replace h_tp := Lib.hid (h_tp.out.below b10)
  replace h_vars := Lib.hid (h_vars.out.below b10)
  replace h_params := Lib.hid (h_params.out.below b10)
  replace h_types := Lib.hid (h_types.out.below b10)
  replace h_tn := Lib.hid (h_tn.out.below b10)
  replace h_refs := Lib.hid (h_refs.out.below b10)
  replace h_exprs := Lib.hid (h_exprs.out.below b10)
  replace h_typed := Lib.hid h_typed
  replace hB := Lib.hid (hB.out.trans (b10.mono hB.out.size))
  clear b10
  go_wp2_with (fail)
  refine (ors_calls 104 #[] pE g_none cap_none (pOf [1]) V10 (place_E V10) h_none.out).mono ?_
  rintro e V11 ⟨g_valued, cap_valued, rfl, b11, h_valued⟩
  replace h_none := Lib.hid (h_none.out.below b11)
  replace h_block := Lib.hid (h_block.out.below b11)
  replace h_tp := Lib.hid (h_tp.out.below b11)
  replace h_vars := Lib.hid (h_vars.out.below b11)
  replace h_params := Lib.hid (h_params.out.below b11)
  replace h_types := Lib.hid (h_types.out.below b11)
  replace h_tn := Lib.hid (h_tn.out.below b11)
  replace h_refs := Lib.hid (h_refs.out.below b11)
  replace h_exprs := Lib.hid (h_exprs.out.below b11)
  replace h_typed := Lib.hid (h_typed.out.below b11)
  replace h_valued := Lib.hid h_valued
  replace hB := Lib.hid (hB.out.trans (b11.mono hB.out.size))
  clear b11
  go_wp2_with (fail)
  refine (these_calls _ ⟨_, _, _, rfl⟩ _).mono ?_
  rintro e V ⟨rfl, rfl⟩
  go_wp2_with (fail)
  go_ret3
  exact ⟨_, _, rfl, hB.out.alloc hB.out.size _, PlacesAt.new (vs := [FV 104 #[]]) (ps := [pE]) ⟨(place_E V11), trivial⟩⟩
set_option maxRecDepth 100000 in
set_option maxHeartbeats 4000000 in
theorem places_34 (w : World) : Calls Tryd.prog 108 #[.int .i64 34] w (PlacesEnd w [pE] false) := by
  have hB := Lib.hid (Below.refl w.heap.size w)
  go_enter Tryd.func108, Tryd.ntmps108
  go_wp2_with (fail)
  refine (ofs_calls [1] w (by decide)).mono ?_
  rintro e V1 ⟨g_none, cap_none, rfl, b1, h_none⟩
  replace h_none := Lib.hid h_none
  replace hB := Lib.hid (hB.out.trans (b1.mono hB.out.size))
  clear b1
  go_wp2_with (fail)
  refine (ofs_calls [63] V1 (by decide)).mono ?_
  rintro e V2 ⟨g_block, cap_block, rfl, b2, h_block⟩
  replace h_none := Lib.hid (h_none.out.below b2)
  replace h_block := Lib.hid h_block
  replace hB := Lib.hid (hB.out.trans (b2.mono hB.out.size))
  clear b2
  go_wp2_with (fail)
  refine (ofs_calls [67] V2 (by decide)).mono ?_
  rintro e V3 ⟨g_tp, cap_tp, rfl, b3, h_tp⟩
  replace h_none := Lib.hid (h_none.out.below b3)
  replace h_block := Lib.hid (h_block.out.below b3)
  replace h_tp := Lib.hid h_tp
  replace hB := Lib.hid (hB.out.trans (b3.mono hB.out.size))
  clear b3
  go_wp2_with (fail)
  refine (rowss_calls g_tp cap_tp (pOf [67]) V3 h_tp.out).mono ?_
  rintro e V4 ⟨g_vars, cap_vars, rfl, b4, h_vars⟩
  replace h_none := Lib.hid (h_none.out.below b4)
  replace h_block := Lib.hid (h_block.out.below b4)
  replace h_tp := Lib.hid (h_tp.out.below b4)
  replace h_vars := Lib.hid h_vars
  replace hB := Lib.hid (hB.out.trans (b4.mono hB.out.size))
  clear b4
  go_wp2_with (fail)
  refine (rowss_calls 141 #[] pPlain V4 (place_Plain V4)).mono ?_
  rintro e V5 ⟨g_params, cap_params, rfl, b5, h_params⟩
  replace h_none := Lib.hid (h_none.out.below b5)
  replace h_block := Lib.hid (h_block.out.below b5)
  replace h_tp := Lib.hid (h_tp.out.below b5)
  replace h_vars := Lib.hid (h_vars.out.below b5)
  replace h_params := Lib.hid h_params
  replace hB := Lib.hid (hB.out.trans (b5.mono hB.out.size))
  clear b5
  go_wp2_with (fail)
  refine (rowss_calls 107 #[] pT V5 (place_T V5)).mono ?_
  rintro e V6 ⟨g_types, cap_types, rfl, b6, h_types⟩
  replace h_none := Lib.hid (h_none.out.below b6)
  replace h_block := Lib.hid (h_block.out.below b6)
  replace h_tp := Lib.hid (h_tp.out.below b6)
  replace h_vars := Lib.hid (h_vars.out.below b6)
  replace h_params := Lib.hid (h_params.out.below b6)
  replace h_types := Lib.hid h_types
  replace hB := Lib.hid (hB.out.trans (b6.mono hB.out.size))
  clear b6
  go_wp2_with (fail)
  refine (ofs_calls [80] V6 (by decide)).mono ?_
  rintro e V7 ⟨g_tn, cap_tn, rfl, b7, h_tn⟩
  replace h_none := Lib.hid (h_none.out.below b7)
  replace h_block := Lib.hid (h_block.out.below b7)
  replace h_tp := Lib.hid (h_tp.out.below b7)
  replace h_vars := Lib.hid (h_vars.out.below b7)
  replace h_params := Lib.hid (h_params.out.below b7)
  replace h_types := Lib.hid (h_types.out.below b7)
  replace h_tn := Lib.hid h_tn
  replace hB := Lib.hid (hB.out.trans (b7.mono hB.out.size))
  clear b7
  go_wp2_with (fail)
  refine (rowss_calls g_tn cap_tn (pOf [80]) V7 h_tn.out).mono ?_
  rintro e V8 ⟨g_refs, cap_refs, rfl, b8, h_refs⟩
  replace h_none := Lib.hid (h_none.out.below b8)
  replace h_block := Lib.hid (h_block.out.below b8)
  replace h_tp := Lib.hid (h_tp.out.below b8)
  replace h_vars := Lib.hid (h_vars.out.below b8)
  replace h_params := Lib.hid (h_params.out.below b8)
  replace h_types := Lib.hid (h_types.out.below b8)
  replace h_tn := Lib.hid (h_tn.out.below b8)
  replace h_refs := Lib.hid h_refs
  replace hB := Lib.hid (hB.out.trans (b8.mono hB.out.size))
  clear b8
  go_wp2_with (fail)
  refine (rowss_calls 104 #[] pE V8 (place_E V8)).mono ?_
  rintro e V9 ⟨g_exprs, cap_exprs, rfl, b9, h_exprs⟩
  replace h_none := Lib.hid (h_none.out.below b9)
  replace h_block := Lib.hid (h_block.out.below b9)
  replace h_tp := Lib.hid (h_tp.out.below b9)
  replace h_vars := Lib.hid (h_vars.out.below b9)
  replace h_params := Lib.hid (h_params.out.below b9)
  replace h_types := Lib.hid (h_types.out.below b9)
  replace h_tn := Lib.hid (h_tn.out.below b9)
  replace h_refs := Lib.hid (h_refs.out.below b9)
  replace h_exprs := Lib.hid h_exprs
  replace hB := Lib.hid (hB.out.trans (b9.mono hB.out.size))
  clear b9
  go_wp2_with (fail)
  refine (ors_calls 107 #[] pT g_none cap_none (pOf [1]) V9 (place_T V9) h_none.out).mono ?_
  rintro e V10 ⟨g_typed, cap_typed, rfl, b10, h_typed⟩
  replace h_none := Lib.hid (h_none.out.below b10)
  replace h_block := Lib.hid (h_block.out.below b10)
  replace h_tp := Lib.hid (h_tp.out.below b10)
  replace h_vars := Lib.hid (h_vars.out.below b10)
  replace h_params := Lib.hid (h_params.out.below b10)
  replace h_types := Lib.hid (h_types.out.below b10)
  replace h_tn := Lib.hid (h_tn.out.below b10)
  replace h_refs := Lib.hid (h_refs.out.below b10)
  replace h_exprs := Lib.hid (h_exprs.out.below b10)
  replace h_typed := Lib.hid h_typed
  replace hB := Lib.hid (hB.out.trans (b10.mono hB.out.size))
  clear b10
  go_wp2_with (fail)
  refine (ors_calls 104 #[] pE g_none cap_none (pOf [1]) V10 (place_E V10) h_none.out).mono ?_
  rintro e V11 ⟨g_valued, cap_valued, rfl, b11, h_valued⟩
  replace h_none := Lib.hid (h_none.out.below b11)
  replace h_block := Lib.hid (h_block.out.below b11)
  replace h_tp := Lib.hid (h_tp.out.below b11)
  replace h_vars := Lib.hid (h_vars.out.below b11)
  replace h_params := Lib.hid (h_params.out.below b11)
  replace h_types := Lib.hid (h_types.out.below b11)
  replace h_tn := Lib.hid (h_tn.out.below b11)
  replace h_refs := Lib.hid (h_refs.out.below b11)
  replace h_exprs := Lib.hid (h_exprs.out.below b11)
  replace h_typed := Lib.hid (h_typed.out.below b11)
  replace h_valued := Lib.hid h_valued
  replace hB := Lib.hid (hB.out.trans (b11.mono hB.out.size))
  clear b11
  go_wp2_with (fail)
  refine (these_calls _ ⟨_, _, _, rfl⟩ _).mono ?_
  rintro e V ⟨rfl, rfl⟩
  go_wp2_with (fail)
  go_ret3
  exact ⟨_, _, rfl, hB.out.alloc hB.out.size _, PlacesAt.new (vs := [FV 104 #[]]) (ps := [pE]) ⟨(place_E V11), trivial⟩⟩
set_option maxRecDepth 100000 in
set_option maxHeartbeats 4000000 in
theorem places_60 (w : World) : Calls Tryd.prog 108 #[.int .i64 60] w (PlacesEnd w [pE] false) := by
  have hB := Lib.hid (Below.refl w.heap.size w)
  go_enter Tryd.func108, Tryd.ntmps108
  go_wp2_with (fail)
  refine (ofs_calls [1] w (by decide)).mono ?_
  rintro e V1 ⟨g_none, cap_none, rfl, b1, h_none⟩
  replace h_none := Lib.hid h_none
  replace hB := Lib.hid (hB.out.trans (b1.mono hB.out.size))
  clear b1
  go_wp2_with (fail)
  refine (ofs_calls [63] V1 (by decide)).mono ?_
  rintro e V2 ⟨g_block, cap_block, rfl, b2, h_block⟩
  replace h_none := Lib.hid (h_none.out.below b2)
  replace h_block := Lib.hid h_block
  replace hB := Lib.hid (hB.out.trans (b2.mono hB.out.size))
  clear b2
  go_wp2_with (fail)
  refine (ofs_calls [67] V2 (by decide)).mono ?_
  rintro e V3 ⟨g_tp, cap_tp, rfl, b3, h_tp⟩
  replace h_none := Lib.hid (h_none.out.below b3)
  replace h_block := Lib.hid (h_block.out.below b3)
  replace h_tp := Lib.hid h_tp
  replace hB := Lib.hid (hB.out.trans (b3.mono hB.out.size))
  clear b3
  go_wp2_with (fail)
  refine (rowss_calls g_tp cap_tp (pOf [67]) V3 h_tp.out).mono ?_
  rintro e V4 ⟨g_vars, cap_vars, rfl, b4, h_vars⟩
  replace h_none := Lib.hid (h_none.out.below b4)
  replace h_block := Lib.hid (h_block.out.below b4)
  replace h_tp := Lib.hid (h_tp.out.below b4)
  replace h_vars := Lib.hid h_vars
  replace hB := Lib.hid (hB.out.trans (b4.mono hB.out.size))
  clear b4
  go_wp2_with (fail)
  refine (rowss_calls 141 #[] pPlain V4 (place_Plain V4)).mono ?_
  rintro e V5 ⟨g_params, cap_params, rfl, b5, h_params⟩
  replace h_none := Lib.hid (h_none.out.below b5)
  replace h_block := Lib.hid (h_block.out.below b5)
  replace h_tp := Lib.hid (h_tp.out.below b5)
  replace h_vars := Lib.hid (h_vars.out.below b5)
  replace h_params := Lib.hid h_params
  replace hB := Lib.hid (hB.out.trans (b5.mono hB.out.size))
  clear b5
  go_wp2_with (fail)
  refine (rowss_calls 107 #[] pT V5 (place_T V5)).mono ?_
  rintro e V6 ⟨g_types, cap_types, rfl, b6, h_types⟩
  replace h_none := Lib.hid (h_none.out.below b6)
  replace h_block := Lib.hid (h_block.out.below b6)
  replace h_tp := Lib.hid (h_tp.out.below b6)
  replace h_vars := Lib.hid (h_vars.out.below b6)
  replace h_params := Lib.hid (h_params.out.below b6)
  replace h_types := Lib.hid h_types
  replace hB := Lib.hid (hB.out.trans (b6.mono hB.out.size))
  clear b6
  go_wp2_with (fail)
  refine (ofs_calls [80] V6 (by decide)).mono ?_
  rintro e V7 ⟨g_tn, cap_tn, rfl, b7, h_tn⟩
  replace h_none := Lib.hid (h_none.out.below b7)
  replace h_block := Lib.hid (h_block.out.below b7)
  replace h_tp := Lib.hid (h_tp.out.below b7)
  replace h_vars := Lib.hid (h_vars.out.below b7)
  replace h_params := Lib.hid (h_params.out.below b7)
  replace h_types := Lib.hid (h_types.out.below b7)
  replace h_tn := Lib.hid h_tn
  replace hB := Lib.hid (hB.out.trans (b7.mono hB.out.size))
  clear b7
  go_wp2_with (fail)
  refine (rowss_calls g_tn cap_tn (pOf [80]) V7 h_tn.out).mono ?_
  rintro e V8 ⟨g_refs, cap_refs, rfl, b8, h_refs⟩
  replace h_none := Lib.hid (h_none.out.below b8)
  replace h_block := Lib.hid (h_block.out.below b8)
  replace h_tp := Lib.hid (h_tp.out.below b8)
  replace h_vars := Lib.hid (h_vars.out.below b8)
  replace h_params := Lib.hid (h_params.out.below b8)
  replace h_types := Lib.hid (h_types.out.below b8)
  replace h_tn := Lib.hid (h_tn.out.below b8)
  replace h_refs := Lib.hid h_refs
  replace hB := Lib.hid (hB.out.trans (b8.mono hB.out.size))
  clear b8
  go_wp2_with (fail)
  refine (rowss_calls 104 #[] pE V8 (place_E V8)).mono ?_
  rintro e V9 ⟨g_exprs, cap_exprs, rfl, b9, h_exprs⟩
  replace h_none := Lib.hid (h_none.out.below b9)
  replace h_block := Lib.hid (h_block.out.below b9)
  replace h_tp := Lib.hid (h_tp.out.below b9)
  replace h_vars := Lib.hid (h_vars.out.below b9)
  replace h_params := Lib.hid (h_params.out.below b9)
  replace h_types := Lib.hid (h_types.out.below b9)
  replace h_tn := Lib.hid (h_tn.out.below b9)
  replace h_refs := Lib.hid (h_refs.out.below b9)
  replace h_exprs := Lib.hid h_exprs
  replace hB := Lib.hid (hB.out.trans (b9.mono hB.out.size))
  clear b9
  go_wp2_with (fail)
  refine (ors_calls 107 #[] pT g_none cap_none (pOf [1]) V9 (place_T V9) h_none.out).mono ?_
  rintro e V10 ⟨g_typed, cap_typed, rfl, b10, h_typed⟩
  replace h_none := Lib.hid (h_none.out.below b10)
  replace h_block := Lib.hid (h_block.out.below b10)
  replace h_tp := Lib.hid (h_tp.out.below b10)
  replace h_vars := Lib.hid (h_vars.out.below b10)
  replace h_params := Lib.hid (h_params.out.below b10)
  replace h_types := Lib.hid (h_types.out.below b10)
  replace h_tn := Lib.hid (h_tn.out.below b10)
  replace h_refs := Lib.hid (h_refs.out.below b10)
  replace h_exprs := Lib.hid (h_exprs.out.below b10)
  replace h_typed := Lib.hid h_typed
  replace hB := Lib.hid (hB.out.trans (b10.mono hB.out.size))
  clear b10
  go_wp2_with (fail)
  refine (ors_calls 104 #[] pE g_none cap_none (pOf [1]) V10 (place_E V10) h_none.out).mono ?_
  rintro e V11 ⟨g_valued, cap_valued, rfl, b11, h_valued⟩
  replace h_none := Lib.hid (h_none.out.below b11)
  replace h_block := Lib.hid (h_block.out.below b11)
  replace h_tp := Lib.hid (h_tp.out.below b11)
  replace h_vars := Lib.hid (h_vars.out.below b11)
  replace h_params := Lib.hid (h_params.out.below b11)
  replace h_types := Lib.hid (h_types.out.below b11)
  replace h_tn := Lib.hid (h_tn.out.below b11)
  replace h_refs := Lib.hid (h_refs.out.below b11)
  replace h_exprs := Lib.hid (h_exprs.out.below b11)
  replace h_typed := Lib.hid (h_typed.out.below b11)
  replace h_valued := Lib.hid h_valued
  replace hB := Lib.hid (hB.out.trans (b11.mono hB.out.size))
  clear b11
  go_wp2_with (fail)
  refine (these_calls _ ⟨_, _, _, rfl⟩ _).mono ?_
  rintro e V ⟨rfl, rfl⟩
  go_wp2_with (fail)
  go_ret3
  exact ⟨_, _, rfl, hB.out.alloc hB.out.size _, PlacesAt.new (vs := [FV 104 #[]]) (ps := [pE]) ⟨(place_E V11), trivial⟩⟩
set_option maxRecDepth 100000 in
set_option maxHeartbeats 4000000 in
theorem places_64 (w : World) : Calls Tryd.prog 108 #[.int .i64 64] w (PlacesEnd w [pE] false) := by
  have hB := Lib.hid (Below.refl w.heap.size w)
  go_enter Tryd.func108, Tryd.ntmps108
  go_wp2_with (fail)
  refine (ofs_calls [1] w (by decide)).mono ?_
  rintro e V1 ⟨g_none, cap_none, rfl, b1, h_none⟩
  replace h_none := Lib.hid h_none
  replace hB := Lib.hid (hB.out.trans (b1.mono hB.out.size))
  clear b1
  go_wp2_with (fail)
  refine (ofs_calls [63] V1 (by decide)).mono ?_
  rintro e V2 ⟨g_block, cap_block, rfl, b2, h_block⟩
  replace h_none := Lib.hid (h_none.out.below b2)
  replace h_block := Lib.hid h_block
  replace hB := Lib.hid (hB.out.trans (b2.mono hB.out.size))
  clear b2
  go_wp2_with (fail)
  refine (ofs_calls [67] V2 (by decide)).mono ?_
  rintro e V3 ⟨g_tp, cap_tp, rfl, b3, h_tp⟩
  replace h_none := Lib.hid (h_none.out.below b3)
  replace h_block := Lib.hid (h_block.out.below b3)
  replace h_tp := Lib.hid h_tp
  replace hB := Lib.hid (hB.out.trans (b3.mono hB.out.size))
  clear b3
  go_wp2_with (fail)
  refine (rowss_calls g_tp cap_tp (pOf [67]) V3 h_tp.out).mono ?_
  rintro e V4 ⟨g_vars, cap_vars, rfl, b4, h_vars⟩
  replace h_none := Lib.hid (h_none.out.below b4)
  replace h_block := Lib.hid (h_block.out.below b4)
  replace h_tp := Lib.hid (h_tp.out.below b4)
  replace h_vars := Lib.hid h_vars
  replace hB := Lib.hid (hB.out.trans (b4.mono hB.out.size))
  clear b4
  go_wp2_with (fail)
  refine (rowss_calls 141 #[] pPlain V4 (place_Plain V4)).mono ?_
  rintro e V5 ⟨g_params, cap_params, rfl, b5, h_params⟩
  replace h_none := Lib.hid (h_none.out.below b5)
  replace h_block := Lib.hid (h_block.out.below b5)
  replace h_tp := Lib.hid (h_tp.out.below b5)
  replace h_vars := Lib.hid (h_vars.out.below b5)
  replace h_params := Lib.hid h_params
  replace hB := Lib.hid (hB.out.trans (b5.mono hB.out.size))
  clear b5
  go_wp2_with (fail)
  refine (rowss_calls 107 #[] pT V5 (place_T V5)).mono ?_
  rintro e V6 ⟨g_types, cap_types, rfl, b6, h_types⟩
  replace h_none := Lib.hid (h_none.out.below b6)
  replace h_block := Lib.hid (h_block.out.below b6)
  replace h_tp := Lib.hid (h_tp.out.below b6)
  replace h_vars := Lib.hid (h_vars.out.below b6)
  replace h_params := Lib.hid (h_params.out.below b6)
  replace h_types := Lib.hid h_types
  replace hB := Lib.hid (hB.out.trans (b6.mono hB.out.size))
  clear b6
  go_wp2_with (fail)
  refine (ofs_calls [80] V6 (by decide)).mono ?_
  rintro e V7 ⟨g_tn, cap_tn, rfl, b7, h_tn⟩
  replace h_none := Lib.hid (h_none.out.below b7)
  replace h_block := Lib.hid (h_block.out.below b7)
  replace h_tp := Lib.hid (h_tp.out.below b7)
  replace h_vars := Lib.hid (h_vars.out.below b7)
  replace h_params := Lib.hid (h_params.out.below b7)
  replace h_types := Lib.hid (h_types.out.below b7)
  replace h_tn := Lib.hid h_tn
  replace hB := Lib.hid (hB.out.trans (b7.mono hB.out.size))
  clear b7
  go_wp2_with (fail)
  refine (rowss_calls g_tn cap_tn (pOf [80]) V7 h_tn.out).mono ?_
  rintro e V8 ⟨g_refs, cap_refs, rfl, b8, h_refs⟩
  replace h_none := Lib.hid (h_none.out.below b8)
  replace h_block := Lib.hid (h_block.out.below b8)
  replace h_tp := Lib.hid (h_tp.out.below b8)
  replace h_vars := Lib.hid (h_vars.out.below b8)
  replace h_params := Lib.hid (h_params.out.below b8)
  replace h_types := Lib.hid (h_types.out.below b8)
  replace h_tn := Lib.hid (h_tn.out.below b8)
  replace h_refs := Lib.hid h_refs
  replace hB := Lib.hid (hB.out.trans (b8.mono hB.out.size))
  clear b8
  go_wp2_with (fail)
  refine (rowss_calls 104 #[] pE V8 (place_E V8)).mono ?_
  rintro e V9 ⟨g_exprs, cap_exprs, rfl, b9, h_exprs⟩
  replace h_none := Lib.hid (h_none.out.below b9)
  replace h_block := Lib.hid (h_block.out.below b9)
  replace h_tp := Lib.hid (h_tp.out.below b9)
  replace h_vars := Lib.hid (h_vars.out.below b9)
  replace h_params := Lib.hid (h_params.out.below b9)
  replace h_types := Lib.hid (h_types.out.below b9)
  replace h_tn := Lib.hid (h_tn.out.below b9)
  replace h_refs := Lib.hid (h_refs.out.below b9)
  replace h_exprs := Lib.hid h_exprs
  replace hB := Lib.hid (hB.out.trans (b9.mono hB.out.size))
  clear b9
  go_wp2_with (fail)
  refine (ors_calls 107 #[] pT g_none cap_none (pOf [1]) V9 (place_T V9) h_none.out).mono ?_
  rintro e V10 ⟨g_typed, cap_typed, rfl, b10, h_typed⟩
  replace h_none := Lib.hid (h_none.out.below b10)
  replace h_block := Lib.hid (h_block.out.below b10)
  replace h_tp := Lib.hid (h_tp.out.below b10)
  replace h_vars := Lib.hid (h_vars.out.below b10)
  replace h_params := Lib.hid (h_params.out.below b10)
  replace h_types := Lib.hid (h_types.out.below b10)
  replace h_tn := Lib.hid (h_tn.out.below b10)
  replace h_refs := Lib.hid (h_refs.out.below b10)
  replace h_exprs := Lib.hid (h_exprs.out.below b10)
  replace h_typed := Lib.hid h_typed
  replace hB := Lib.hid (hB.out.trans (b10.mono hB.out.size))
  clear b10
  go_wp2_with (fail)
  refine (ors_calls 104 #[] pE g_none cap_none (pOf [1]) V10 (place_E V10) h_none.out).mono ?_
  rintro e V11 ⟨g_valued, cap_valued, rfl, b11, h_valued⟩
  replace h_none := Lib.hid (h_none.out.below b11)
  replace h_block := Lib.hid (h_block.out.below b11)
  replace h_tp := Lib.hid (h_tp.out.below b11)
  replace h_vars := Lib.hid (h_vars.out.below b11)
  replace h_params := Lib.hid (h_params.out.below b11)
  replace h_types := Lib.hid (h_types.out.below b11)
  replace h_tn := Lib.hid (h_tn.out.below b11)
  replace h_refs := Lib.hid (h_refs.out.below b11)
  replace h_exprs := Lib.hid (h_exprs.out.below b11)
  replace h_typed := Lib.hid (h_typed.out.below b11)
  replace h_valued := Lib.hid h_valued
  replace hB := Lib.hid (hB.out.trans (b11.mono hB.out.size))
  clear b11
  go_wp2_with (fail)
  refine (these_calls _ ⟨_, _, _, rfl⟩ _).mono ?_
  rintro e V ⟨rfl, rfl⟩
  go_wp2_with (fail)
  go_ret3
  exact ⟨_, _, rfl, hB.out.alloc hB.out.size _, PlacesAt.new (vs := [FV 104 #[]]) (ps := [pE]) ⟨(place_E V11), trivial⟩⟩
set_option maxRecDepth 100000 in
set_option maxHeartbeats 4000000 in
theorem places_22 (w : World) : Calls Tryd.prog 108 #[.int .i64 22] w (PlacesEnd w [(rowsB (pOf [67])), (rowsB pPlain), (pOr (pOf [63]) pE)] false) := by
  have hB := Lib.hid (Below.refl w.heap.size w)
  go_enter Tryd.func108, Tryd.ntmps108
  go_wp2_with (fail)
  refine (ofs_calls [1] w (by decide)).mono ?_
  rintro e V1 ⟨g_none, cap_none, rfl, b1, h_none⟩
  replace h_none := Lib.hid h_none
  replace hB := Lib.hid (hB.out.trans (b1.mono hB.out.size))
  clear b1
  go_wp2_with (fail)
  refine (ofs_calls [63] V1 (by decide)).mono ?_
  rintro e V2 ⟨g_block, cap_block, rfl, b2, h_block⟩
  replace h_none := Lib.hid (h_none.out.below b2)
  replace h_block := Lib.hid h_block
  replace hB := Lib.hid (hB.out.trans (b2.mono hB.out.size))
  clear b2
  go_wp2_with (fail)
  refine (ofs_calls [67] V2 (by decide)).mono ?_
  rintro e V3 ⟨g_tp, cap_tp, rfl, b3, h_tp⟩
  replace h_none := Lib.hid (h_none.out.below b3)
  replace h_block := Lib.hid (h_block.out.below b3)
  replace h_tp := Lib.hid h_tp
  replace hB := Lib.hid (hB.out.trans (b3.mono hB.out.size))
  clear b3
  go_wp2_with (fail)
  refine (rowss_calls g_tp cap_tp (pOf [67]) V3 h_tp.out).mono ?_
  rintro e V4 ⟨g_vars, cap_vars, rfl, b4, h_vars⟩
  replace h_none := Lib.hid (h_none.out.below b4)
  replace h_block := Lib.hid (h_block.out.below b4)
  replace h_tp := Lib.hid (h_tp.out.below b4)
  replace h_vars := Lib.hid h_vars
  replace hB := Lib.hid (hB.out.trans (b4.mono hB.out.size))
  clear b4
  go_wp2_with (fail)
  refine (rowss_calls 141 #[] pPlain V4 (place_Plain V4)).mono ?_
  rintro e V5 ⟨g_params, cap_params, rfl, b5, h_params⟩
  replace h_none := Lib.hid (h_none.out.below b5)
  replace h_block := Lib.hid (h_block.out.below b5)
  replace h_tp := Lib.hid (h_tp.out.below b5)
  replace h_vars := Lib.hid (h_vars.out.below b5)
  replace h_params := Lib.hid h_params
  replace hB := Lib.hid (hB.out.trans (b5.mono hB.out.size))
  clear b5
  go_wp2_with (fail)
  refine (rowss_calls 107 #[] pT V5 (place_T V5)).mono ?_
  rintro e V6 ⟨g_types, cap_types, rfl, b6, h_types⟩
  replace h_none := Lib.hid (h_none.out.below b6)
  replace h_block := Lib.hid (h_block.out.below b6)
  replace h_tp := Lib.hid (h_tp.out.below b6)
  replace h_vars := Lib.hid (h_vars.out.below b6)
  replace h_params := Lib.hid (h_params.out.below b6)
  replace h_types := Lib.hid h_types
  replace hB := Lib.hid (hB.out.trans (b6.mono hB.out.size))
  clear b6
  go_wp2_with (fail)
  refine (ofs_calls [80] V6 (by decide)).mono ?_
  rintro e V7 ⟨g_tn, cap_tn, rfl, b7, h_tn⟩
  replace h_none := Lib.hid (h_none.out.below b7)
  replace h_block := Lib.hid (h_block.out.below b7)
  replace h_tp := Lib.hid (h_tp.out.below b7)
  replace h_vars := Lib.hid (h_vars.out.below b7)
  replace h_params := Lib.hid (h_params.out.below b7)
  replace h_types := Lib.hid (h_types.out.below b7)
  replace h_tn := Lib.hid h_tn
  replace hB := Lib.hid (hB.out.trans (b7.mono hB.out.size))
  clear b7
  go_wp2_with (fail)
  refine (rowss_calls g_tn cap_tn (pOf [80]) V7 h_tn.out).mono ?_
  rintro e V8 ⟨g_refs, cap_refs, rfl, b8, h_refs⟩
  replace h_none := Lib.hid (h_none.out.below b8)
  replace h_block := Lib.hid (h_block.out.below b8)
  replace h_tp := Lib.hid (h_tp.out.below b8)
  replace h_vars := Lib.hid (h_vars.out.below b8)
  replace h_params := Lib.hid (h_params.out.below b8)
  replace h_types := Lib.hid (h_types.out.below b8)
  replace h_tn := Lib.hid (h_tn.out.below b8)
  replace h_refs := Lib.hid h_refs
  replace hB := Lib.hid (hB.out.trans (b8.mono hB.out.size))
  clear b8
  go_wp2_with (fail)
  refine (rowss_calls 104 #[] pE V8 (place_E V8)).mono ?_
  rintro e V9 ⟨g_exprs, cap_exprs, rfl, b9, h_exprs⟩
  replace h_none := Lib.hid (h_none.out.below b9)
  replace h_block := Lib.hid (h_block.out.below b9)
  replace h_tp := Lib.hid (h_tp.out.below b9)
  replace h_vars := Lib.hid (h_vars.out.below b9)
  replace h_params := Lib.hid (h_params.out.below b9)
  replace h_types := Lib.hid (h_types.out.below b9)
  replace h_tn := Lib.hid (h_tn.out.below b9)
  replace h_refs := Lib.hid (h_refs.out.below b9)
  replace h_exprs := Lib.hid h_exprs
  replace hB := Lib.hid (hB.out.trans (b9.mono hB.out.size))
  clear b9
  go_wp2_with (fail)
  refine (ors_calls 107 #[] pT g_none cap_none (pOf [1]) V9 (place_T V9) h_none.out).mono ?_
  rintro e V10 ⟨g_typed, cap_typed, rfl, b10, h_typed⟩
  replace h_none := Lib.hid (h_none.out.below b10)
  replace h_block := Lib.hid (h_block.out.below b10)
  replace h_tp := Lib.hid (h_tp.out.below b10)
  replace h_vars := Lib.hid (h_vars.out.below b10)
  replace h_params := Lib.hid (h_params.out.below b10)
  replace h_types := Lib.hid (h_types.out.below b10)
  replace h_tn := Lib.hid (h_tn.out.below b10)
  replace h_refs := Lib.hid (h_refs.out.below b10)
  replace h_exprs := Lib.hid (h_exprs.out.below b10)
  replace h_typed := Lib.hid h_typed
  replace hB := Lib.hid (hB.out.trans (b10.mono hB.out.size))
  clear b10
  go_wp2_with (fail)
  refine (ors_calls 104 #[] pE g_none cap_none (pOf [1]) V10 (place_E V10) h_none.out).mono ?_
  rintro e V11 ⟨g_valued, cap_valued, rfl, b11, h_valued⟩
  replace h_none := Lib.hid (h_none.out.below b11)
  replace h_block := Lib.hid (h_block.out.below b11)
  replace h_tp := Lib.hid (h_tp.out.below b11)
  replace h_vars := Lib.hid (h_vars.out.below b11)
  replace h_params := Lib.hid (h_params.out.below b11)
  replace h_types := Lib.hid (h_types.out.below b11)
  replace h_tn := Lib.hid (h_tn.out.below b11)
  replace h_refs := Lib.hid (h_refs.out.below b11)
  replace h_exprs := Lib.hid (h_exprs.out.below b11)
  replace h_typed := Lib.hid (h_typed.out.below b11)
  replace h_valued := Lib.hid h_valued
  replace hB := Lib.hid (hB.out.trans (b11.mono hB.out.size))
  clear b11
  go_wp2_with (fail)
  refine (ors_calls g_block cap_block (pOf [63]) 104 #[] pE V11 h_block.out (place_E V11)).mono ?_
  rintro e V12 ⟨g_x2, cap_x2, rfl, b12, h_x2⟩
  replace h_none := Lib.hid (h_none.out.below b12)
  replace h_block := Lib.hid (h_block.out.below b12)
  replace h_tp := Lib.hid (h_tp.out.below b12)
  replace h_vars := Lib.hid (h_vars.out.below b12)
  replace h_params := Lib.hid (h_params.out.below b12)
  replace h_types := Lib.hid (h_types.out.below b12)
  replace h_tn := Lib.hid (h_tn.out.below b12)
  replace h_refs := Lib.hid (h_refs.out.below b12)
  replace h_exprs := Lib.hid (h_exprs.out.below b12)
  replace h_typed := Lib.hid (h_typed.out.below b12)
  replace h_valued := Lib.hid (h_valued.out.below b12)
  replace h_x2 := Lib.hid h_x2
  replace hB := Lib.hid (hB.out.trans (b12.mono hB.out.size))
  clear b12
  go_wp2_with (fail)
  refine (these_calls _ ⟨_, _, _, rfl⟩ _).mono ?_
  rintro e V ⟨rfl, rfl⟩
  go_wp2_with (fail)
  go_ret3
  exact ⟨_, _, rfl, hB.out.alloc hB.out.size _, PlacesAt.new (vs := [FV g_vars cap_vars, FV g_params cap_params, FV g_x2 cap_x2]) (ps := [(rowsB (pOf [67])), (rowsB pPlain), (pOr (pOf [63]) pE)]) ⟨h_vars.out, ⟨h_params.out, ⟨h_x2.out, trivial⟩⟩⟩⟩
set_option maxRecDepth 100000 in
set_option maxHeartbeats 4000000 in
theorem places_24 (w : World) : Calls Tryd.prog 108 #[.int .i64 24] w (PlacesEnd w [pE, pE] false) := by
  have hB := Lib.hid (Below.refl w.heap.size w)
  go_enter Tryd.func108, Tryd.ntmps108
  go_wp2_with (fail)
  refine (ofs_calls [1] w (by decide)).mono ?_
  rintro e V1 ⟨g_none, cap_none, rfl, b1, h_none⟩
  replace h_none := Lib.hid h_none
  replace hB := Lib.hid (hB.out.trans (b1.mono hB.out.size))
  clear b1
  go_wp2_with (fail)
  refine (ofs_calls [63] V1 (by decide)).mono ?_
  rintro e V2 ⟨g_block, cap_block, rfl, b2, h_block⟩
  replace h_none := Lib.hid (h_none.out.below b2)
  replace h_block := Lib.hid h_block
  replace hB := Lib.hid (hB.out.trans (b2.mono hB.out.size))
  clear b2
  go_wp2_with (fail)
  refine (ofs_calls [67] V2 (by decide)).mono ?_
  rintro e V3 ⟨g_tp, cap_tp, rfl, b3, h_tp⟩
  replace h_none := Lib.hid (h_none.out.below b3)
  replace h_block := Lib.hid (h_block.out.below b3)
  replace h_tp := Lib.hid h_tp
  replace hB := Lib.hid (hB.out.trans (b3.mono hB.out.size))
  clear b3
  go_wp2_with (fail)
  refine (rowss_calls g_tp cap_tp (pOf [67]) V3 h_tp.out).mono ?_
  rintro e V4 ⟨g_vars, cap_vars, rfl, b4, h_vars⟩
  replace h_none := Lib.hid (h_none.out.below b4)
  replace h_block := Lib.hid (h_block.out.below b4)
  replace h_tp := Lib.hid (h_tp.out.below b4)
  replace h_vars := Lib.hid h_vars
  replace hB := Lib.hid (hB.out.trans (b4.mono hB.out.size))
  clear b4
  go_wp2_with (fail)
  refine (rowss_calls 141 #[] pPlain V4 (place_Plain V4)).mono ?_
  rintro e V5 ⟨g_params, cap_params, rfl, b5, h_params⟩
  replace h_none := Lib.hid (h_none.out.below b5)
  replace h_block := Lib.hid (h_block.out.below b5)
  replace h_tp := Lib.hid (h_tp.out.below b5)
  replace h_vars := Lib.hid (h_vars.out.below b5)
  replace h_params := Lib.hid h_params
  replace hB := Lib.hid (hB.out.trans (b5.mono hB.out.size))
  clear b5
  go_wp2_with (fail)
  refine (rowss_calls 107 #[] pT V5 (place_T V5)).mono ?_
  rintro e V6 ⟨g_types, cap_types, rfl, b6, h_types⟩
  replace h_none := Lib.hid (h_none.out.below b6)
  replace h_block := Lib.hid (h_block.out.below b6)
  replace h_tp := Lib.hid (h_tp.out.below b6)
  replace h_vars := Lib.hid (h_vars.out.below b6)
  replace h_params := Lib.hid (h_params.out.below b6)
  replace h_types := Lib.hid h_types
  replace hB := Lib.hid (hB.out.trans (b6.mono hB.out.size))
  clear b6
  go_wp2_with (fail)
  refine (ofs_calls [80] V6 (by decide)).mono ?_
  rintro e V7 ⟨g_tn, cap_tn, rfl, b7, h_tn⟩
  replace h_none := Lib.hid (h_none.out.below b7)
  replace h_block := Lib.hid (h_block.out.below b7)
  replace h_tp := Lib.hid (h_tp.out.below b7)
  replace h_vars := Lib.hid (h_vars.out.below b7)
  replace h_params := Lib.hid (h_params.out.below b7)
  replace h_types := Lib.hid (h_types.out.below b7)
  replace h_tn := Lib.hid h_tn
  replace hB := Lib.hid (hB.out.trans (b7.mono hB.out.size))
  clear b7
  go_wp2_with (fail)
  refine (rowss_calls g_tn cap_tn (pOf [80]) V7 h_tn.out).mono ?_
  rintro e V8 ⟨g_refs, cap_refs, rfl, b8, h_refs⟩
  replace h_none := Lib.hid (h_none.out.below b8)
  replace h_block := Lib.hid (h_block.out.below b8)
  replace h_tp := Lib.hid (h_tp.out.below b8)
  replace h_vars := Lib.hid (h_vars.out.below b8)
  replace h_params := Lib.hid (h_params.out.below b8)
  replace h_types := Lib.hid (h_types.out.below b8)
  replace h_tn := Lib.hid (h_tn.out.below b8)
  replace h_refs := Lib.hid h_refs
  replace hB := Lib.hid (hB.out.trans (b8.mono hB.out.size))
  clear b8
  go_wp2_with (fail)
  refine (rowss_calls 104 #[] pE V8 (place_E V8)).mono ?_
  rintro e V9 ⟨g_exprs, cap_exprs, rfl, b9, h_exprs⟩
  replace h_none := Lib.hid (h_none.out.below b9)
  replace h_block := Lib.hid (h_block.out.below b9)
  replace h_tp := Lib.hid (h_tp.out.below b9)
  replace h_vars := Lib.hid (h_vars.out.below b9)
  replace h_params := Lib.hid (h_params.out.below b9)
  replace h_types := Lib.hid (h_types.out.below b9)
  replace h_tn := Lib.hid (h_tn.out.below b9)
  replace h_refs := Lib.hid (h_refs.out.below b9)
  replace h_exprs := Lib.hid h_exprs
  replace hB := Lib.hid (hB.out.trans (b9.mono hB.out.size))
  clear b9
  go_wp2_with (fail)
  refine (ors_calls 107 #[] pT g_none cap_none (pOf [1]) V9 (place_T V9) h_none.out).mono ?_
  rintro e V10 ⟨g_typed, cap_typed, rfl, b10, h_typed⟩
  replace h_none := Lib.hid (h_none.out.below b10)
  replace h_block := Lib.hid (h_block.out.below b10)
  replace h_tp := Lib.hid (h_tp.out.below b10)
  replace h_vars := Lib.hid (h_vars.out.below b10)
  replace h_params := Lib.hid (h_params.out.below b10)
  replace h_types := Lib.hid (h_types.out.below b10)
  replace h_tn := Lib.hid (h_tn.out.below b10)
  replace h_refs := Lib.hid (h_refs.out.below b10)
  replace h_exprs := Lib.hid (h_exprs.out.below b10)
  replace h_typed := Lib.hid h_typed
  replace hB := Lib.hid (hB.out.trans (b10.mono hB.out.size))
  clear b10
  go_wp2_with (fail)
  refine (ors_calls 104 #[] pE g_none cap_none (pOf [1]) V10 (place_E V10) h_none.out).mono ?_
  rintro e V11 ⟨g_valued, cap_valued, rfl, b11, h_valued⟩
  replace h_none := Lib.hid (h_none.out.below b11)
  replace h_block := Lib.hid (h_block.out.below b11)
  replace h_tp := Lib.hid (h_tp.out.below b11)
  replace h_vars := Lib.hid (h_vars.out.below b11)
  replace h_params := Lib.hid (h_params.out.below b11)
  replace h_types := Lib.hid (h_types.out.below b11)
  replace h_tn := Lib.hid (h_tn.out.below b11)
  replace h_refs := Lib.hid (h_refs.out.below b11)
  replace h_exprs := Lib.hid (h_exprs.out.below b11)
  replace h_typed := Lib.hid (h_typed.out.below b11)
  replace h_valued := Lib.hid h_valued
  replace hB := Lib.hid (hB.out.trans (b11.mono hB.out.size))
  clear b11
  go_wp2_with (fail)
  refine (these_calls _ ⟨_, _, _, rfl⟩ _).mono ?_
  rintro e V ⟨rfl, rfl⟩
  go_wp2_with (fail)
  go_ret3
  exact ⟨_, _, rfl, hB.out.alloc hB.out.size _, PlacesAt.new (vs := [FV 104 #[], FV 104 #[]]) (ps := [pE, pE]) ⟨(place_E V11), ⟨(place_E V11), trivial⟩⟩⟩
set_option maxRecDepth 100000 in
set_option maxHeartbeats 4000000 in
theorem places_30 (w : World) : Calls Tryd.prog 108 #[.int .i64 30] w (PlacesEnd w [pE, pE] false) := by
  have hB := Lib.hid (Below.refl w.heap.size w)
  go_enter Tryd.func108, Tryd.ntmps108
  go_wp2_with (fail)
  refine (ofs_calls [1] w (by decide)).mono ?_
  rintro e V1 ⟨g_none, cap_none, rfl, b1, h_none⟩
  replace h_none := Lib.hid h_none
  replace hB := Lib.hid (hB.out.trans (b1.mono hB.out.size))
  clear b1
  go_wp2_with (fail)
  refine (ofs_calls [63] V1 (by decide)).mono ?_
  rintro e V2 ⟨g_block, cap_block, rfl, b2, h_block⟩
  replace h_none := Lib.hid (h_none.out.below b2)
  replace h_block := Lib.hid h_block
  replace hB := Lib.hid (hB.out.trans (b2.mono hB.out.size))
  clear b2
  go_wp2_with (fail)
  refine (ofs_calls [67] V2 (by decide)).mono ?_
  rintro e V3 ⟨g_tp, cap_tp, rfl, b3, h_tp⟩
  replace h_none := Lib.hid (h_none.out.below b3)
  replace h_block := Lib.hid (h_block.out.below b3)
  replace h_tp := Lib.hid h_tp
  replace hB := Lib.hid (hB.out.trans (b3.mono hB.out.size))
  clear b3
  go_wp2_with (fail)
  refine (rowss_calls g_tp cap_tp (pOf [67]) V3 h_tp.out).mono ?_
  rintro e V4 ⟨g_vars, cap_vars, rfl, b4, h_vars⟩
  replace h_none := Lib.hid (h_none.out.below b4)
  replace h_block := Lib.hid (h_block.out.below b4)
  replace h_tp := Lib.hid (h_tp.out.below b4)
  replace h_vars := Lib.hid h_vars
  replace hB := Lib.hid (hB.out.trans (b4.mono hB.out.size))
  clear b4
  go_wp2_with (fail)
  refine (rowss_calls 141 #[] pPlain V4 (place_Plain V4)).mono ?_
  rintro e V5 ⟨g_params, cap_params, rfl, b5, h_params⟩
  replace h_none := Lib.hid (h_none.out.below b5)
  replace h_block := Lib.hid (h_block.out.below b5)
  replace h_tp := Lib.hid (h_tp.out.below b5)
  replace h_vars := Lib.hid (h_vars.out.below b5)
  replace h_params := Lib.hid h_params
  replace hB := Lib.hid (hB.out.trans (b5.mono hB.out.size))
  clear b5
  go_wp2_with (fail)
  refine (rowss_calls 107 #[] pT V5 (place_T V5)).mono ?_
  rintro e V6 ⟨g_types, cap_types, rfl, b6, h_types⟩
  replace h_none := Lib.hid (h_none.out.below b6)
  replace h_block := Lib.hid (h_block.out.below b6)
  replace h_tp := Lib.hid (h_tp.out.below b6)
  replace h_vars := Lib.hid (h_vars.out.below b6)
  replace h_params := Lib.hid (h_params.out.below b6)
  replace h_types := Lib.hid h_types
  replace hB := Lib.hid (hB.out.trans (b6.mono hB.out.size))
  clear b6
  go_wp2_with (fail)
  refine (ofs_calls [80] V6 (by decide)).mono ?_
  rintro e V7 ⟨g_tn, cap_tn, rfl, b7, h_tn⟩
  replace h_none := Lib.hid (h_none.out.below b7)
  replace h_block := Lib.hid (h_block.out.below b7)
  replace h_tp := Lib.hid (h_tp.out.below b7)
  replace h_vars := Lib.hid (h_vars.out.below b7)
  replace h_params := Lib.hid (h_params.out.below b7)
  replace h_types := Lib.hid (h_types.out.below b7)
  replace h_tn := Lib.hid h_tn
  replace hB := Lib.hid (hB.out.trans (b7.mono hB.out.size))
  clear b7
  go_wp2_with (fail)
  refine (rowss_calls g_tn cap_tn (pOf [80]) V7 h_tn.out).mono ?_
  rintro e V8 ⟨g_refs, cap_refs, rfl, b8, h_refs⟩
  replace h_none := Lib.hid (h_none.out.below b8)
  replace h_block := Lib.hid (h_block.out.below b8)
  replace h_tp := Lib.hid (h_tp.out.below b8)
  replace h_vars := Lib.hid (h_vars.out.below b8)
  replace h_params := Lib.hid (h_params.out.below b8)
  replace h_types := Lib.hid (h_types.out.below b8)
  replace h_tn := Lib.hid (h_tn.out.below b8)
  replace h_refs := Lib.hid h_refs
  replace hB := Lib.hid (hB.out.trans (b8.mono hB.out.size))
  clear b8
  go_wp2_with (fail)
  refine (rowss_calls 104 #[] pE V8 (place_E V8)).mono ?_
  rintro e V9 ⟨g_exprs, cap_exprs, rfl, b9, h_exprs⟩
  replace h_none := Lib.hid (h_none.out.below b9)
  replace h_block := Lib.hid (h_block.out.below b9)
  replace h_tp := Lib.hid (h_tp.out.below b9)
  replace h_vars := Lib.hid (h_vars.out.below b9)
  replace h_params := Lib.hid (h_params.out.below b9)
  replace h_types := Lib.hid (h_types.out.below b9)
  replace h_tn := Lib.hid (h_tn.out.below b9)
  replace h_refs := Lib.hid (h_refs.out.below b9)
  replace h_exprs := Lib.hid h_exprs
  replace hB := Lib.hid (hB.out.trans (b9.mono hB.out.size))
  clear b9
  go_wp2_with (fail)
  refine (ors_calls 107 #[] pT g_none cap_none (pOf [1]) V9 (place_T V9) h_none.out).mono ?_
  rintro e V10 ⟨g_typed, cap_typed, rfl, b10, h_typed⟩
  replace h_none := Lib.hid (h_none.out.below b10)
  replace h_block := Lib.hid (h_block.out.below b10)
  replace h_tp := Lib.hid (h_tp.out.below b10)
  replace h_vars := Lib.hid (h_vars.out.below b10)
  replace h_params := Lib.hid (h_params.out.below b10)
  replace h_types := Lib.hid (h_types.out.below b10)
  replace h_tn := Lib.hid (h_tn.out.below b10)
  replace h_refs := Lib.hid (h_refs.out.below b10)
  replace h_exprs := Lib.hid (h_exprs.out.below b10)
  replace h_typed := Lib.hid h_typed
  replace hB := Lib.hid (hB.out.trans (b10.mono hB.out.size))
  clear b10
  go_wp2_with (fail)
  refine (ors_calls 104 #[] pE g_none cap_none (pOf [1]) V10 (place_E V10) h_none.out).mono ?_
  rintro e V11 ⟨g_valued, cap_valued, rfl, b11, h_valued⟩
  replace h_none := Lib.hid (h_none.out.below b11)
  replace h_block := Lib.hid (h_block.out.below b11)
  replace h_tp := Lib.hid (h_tp.out.below b11)
  replace h_vars := Lib.hid (h_vars.out.below b11)
  replace h_params := Lib.hid (h_params.out.below b11)
  replace h_types := Lib.hid (h_types.out.below b11)
  replace h_tn := Lib.hid (h_tn.out.below b11)
  replace h_refs := Lib.hid (h_refs.out.below b11)
  replace h_exprs := Lib.hid (h_exprs.out.below b11)
  replace h_typed := Lib.hid (h_typed.out.below b11)
  replace h_valued := Lib.hid h_valued
  replace hB := Lib.hid (hB.out.trans (b11.mono hB.out.size))
  clear b11
  go_wp2_with (fail)
  refine (these_calls _ ⟨_, _, _, rfl⟩ _).mono ?_
  rintro e V ⟨rfl, rfl⟩
  go_wp2_with (fail)
  go_ret3
  exact ⟨_, _, rfl, hB.out.alloc hB.out.size _, PlacesAt.new (vs := [FV 104 #[], FV 104 #[]]) (ps := [pE, pE]) ⟨(place_E V11), ⟨(place_E V11), trivial⟩⟩⟩
end Go.Proofs.YtnepdjgbfhakmaaDoor
