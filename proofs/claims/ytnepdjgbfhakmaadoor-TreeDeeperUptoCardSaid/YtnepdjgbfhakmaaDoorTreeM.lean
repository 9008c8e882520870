/- Trees: the places of a kind. -/
import Derived.Test.YtnepdjgbfhakmaaDoorTree9
namespace Go.Proofs.YtnepdjgbfhakmaaDoor
set_option linter.unusedVariables false
set_option linter.unusedSimpArgs false
open Go.RowKit Go.Shelf
attribute [local go_sem] Oper.semAt_some

set_option maxRecDepth 100000 in
set_option maxHeartbeats 4000000 in
theorem more_47 (w : World) : Calls Tryd.prog 150 #[.int .i64 47, FV 144 #[], FV 143 #[]] w (PlacesEnd w [(pOf [48])] true) := by
  have hB := Lib.hid (Below.refl w.heap.size w)
  go_enter Tryd.func150, Tryd.ntmps150
  go_wp2_with (fail)
  refine (ofs_calls [1] w (by decide)).mono ?_
  rintro e V1 ⟨g_none, cap_none, rfl, b1, h_none⟩
  replace h_none := Lib.hid h_none
  replace hB := Lib.hid (hB.out.trans (b1.mono hB.out.size))
  clear b1
  go_wp2_with (fail)
  refine (ofs_calls [63] V1 (by decide)).mono ?_
  rintro e V2 ⟨g_block, cap_block, rfl, b2, h_block⟩
  replace h_none := Lib.hid (h_none.out.below b2)
  replace h_block := Lib.hid h_block
  replace hB := Lib.hid (hB.out.trans (b2.mono hB.out.size))
  clear b2
  go_wp2_with (fail)
  refine (ors_calls 104 #[] pE g_none cap_none (pOf [1]) V2 (place_E V2) h_none.out).mono ?_
  rintro e V3 ⟨g_valued, cap_valued, rfl, b3, h_valued⟩
  replace h_none := Lib.hid (h_none.out.below b3)
  replace h_block := Lib.hid (h_block.out.below b3)
  replace h_valued := Lib.hid h_valued
  replace hB := Lib.hid (hB.out.trans (b3.mono hB.out.size))
  clear b3
  go_wp2_with (fail)
  refine (ofs_calls [48] V3 (by decide)).mono ?_
  rintro e V4 ⟨g_x1, cap_x1, rfl, b4, h_x1⟩
  replace h_none := Lib.hid (h_none.out.below b4)
  replace h_block := Lib.hid (h_block.out.below b4)
  replace h_valued := Lib.hid (h_valued.out.below b4)
  replace h_x1 := Lib.hid h_x1
  replace hB := Lib.hid (hB.out.trans (b4.mono hB.out.size))
  clear b4
  go_wp2_with (fail)
  refine (alls_calls _ _ _).mono ?_
  rintro e V ⟨rfl, rfl⟩
  go_wp2_with (fail)
  go_ret3
  exact ⟨_, _, rfl, hB.out.alloc hB.out.size _, PlacesAt.new (vs := [FV g_x1 cap_x1]) (ps := [(pOf [48])]) ⟨h_x1.out, trivial⟩⟩
set_option maxRecDepth 100000 in
set_option maxHeartbeats 4000000 in
theorem more_48 (w : World) : Calls Tryd.prog 150 #[.int .i64 48, FV 144 #[], FV 143 #[]] w (PlacesEnd w [(pOr pE (pOf [1]))] false) := by
  have hB := Lib.hid (Below.refl w.heap.size w)
  go_enter Tryd.func150, Tryd.ntmps150
  go_wp2_with (fail)
  refine (ofs_calls [1] w (by decide)).mono ?_
  rintro e V1 ⟨g_none, cap_none, rfl, b1, h_none⟩
  replace h_none := Lib.hid h_none
  replace hB := Lib.hid (hB.out.trans (b1.mono hB.out.size))
  clear b1
  go_wp2_with (fail)
  refine (ofs_calls [63] V1 (by decide)).mono ?_
  rintro e V2 ⟨g_block, cap_block, rfl, b2, h_block⟩
  replace h_none := Lib.hid (h_none.out.below b2)
  replace h_block := Lib.hid h_block
  replace hB := Lib.hid (hB.out.trans (b2.mono hB.out.size))
  clear b2
  go_wp2_with (fail)
  refine (ors_calls 104 #[] pE g_none cap_none (pOf [1]) V2 (place_E V2) h_none.out).mono ?_
  rintro e V3 ⟨g_valued, cap_valued, rfl, b3, h_valued⟩
  replace h_none := Lib.hid (h_none.out.below b3)
  replace h_block := Lib.hid (h_block.out.below b3)
  replace h_valued := Lib.hid h_valued
  replace hB := Lib.hid (hB.out.trans (b3.mono hB.out.size))
  clear b3
  go_wp2_with (fail)
  refine (these_calls _ ⟨_, _, _, rfl⟩ _).mono ?_
  rintro e V ⟨rfl, rfl⟩
  go_wp2_with (fail)
  go_ret3
  exact ⟨_, _, rfl, hB.out.alloc hB.out.size _, PlacesAt.new (vs := [FV g_valued cap_valued]) (ps := [(pOr pE (pOf [1]))]) ⟨h_valued.out, trivial⟩⟩
set_option maxRecDepth 100000 in
set_option maxHeartbeats 4000000 in
theorem more_57 (w : World) : Calls Tryd.prog 150 #[.int .i64 57, FV 144 #[], FV 143 #[]] w (PlacesEnd w [(pOr pE (pOf [1]))] false) := by
  have hB := Lib.hid (Below.refl w.heap.size w)
  go_enter Tryd.func150, Tryd.ntmps150
  go_wp2_with (fail)
  refine (ofs_calls [1] w (by decide)).mono ?_
  rintro e V1 ⟨g_none, cap_none, rfl, b1, h_none⟩
  replace h_none := Lib.hid h_none
  replace hB := Lib.hid (hB.out.trans (b1.mono hB.out.size))
  clear b1
  go_wp2_with (fail)
  refine (ofs_calls [63] V1 (by decide)).mono ?_
  rintro e V2 ⟨g_block, cap_block, rfl, b2, h_block⟩
  replace h_none := Lib.hid (h_none.out.below b2)
  replace h_block := Lib.hid h_block
  replace hB := Lib.hid (hB.out.trans (b2.mono hB.out.size))
  clear b2
  go_wp2_with (fail)
  refine (ors_calls 104 #[] pE g_none cap_none (pOf [1]) V2 (place_E V2) h_none.out).mono ?_
  rintro e V3 ⟨g_valued, cap_valued, rfl, b3, h_valued⟩
  replace h_none := Lib.hid (h_none.out.below b3)
  replace h_block := Lib.hid (h_block.out.below b3)
  replace h_valued := Lib.hid h_valued
  replace hB := Lib.hid (hB.out.trans (b3.mono hB.out.size))
  clear b3
  go_wp2_with (fail)
  refine (these_calls _ ⟨_, _, _, rfl⟩ _).mono ?_
  rintro e V ⟨rfl, rfl⟩
  go_wp2_with (fail)
  go_ret3
  exact ⟨_, _, rfl, hB.out.alloc hB.out.size _, PlacesAt.new (vs := [FV g_valued cap_valued]) (ps := [(pOr pE (pOf [1]))]) ⟨h_valued.out, trivial⟩⟩
set_option maxRecDepth 100000 in
set_option maxHeartbeats 4000000 in
theorem more_49 (w : World) : Calls Tryd.prog 150 #[.int .i64 49, FV 144 #[], FV 143 #[]] w (PlacesEnd w [(pOr pS (pOf [50]))] true) := by
  have hB := Lib.hid (Below.refl w.heap.size w)
  go_enter Tryd.func150, Tryd.ntmps150
  go_wp2_with (fail)
  refine (ofs_calls [1] w (by decide)).mono ?_
  rintro e V1 ⟨g_none, cap_none, rfl, b1, h_none⟩
  replace h_none := Lib.hid h_none
  replace hB := Lib.hid (hB.out.trans (b1.mono hB.out.size))
  clear b1
  go_wp2_with (fail)
  refine (ofs_calls [63] V1 (by decide)).mono ?_
  rintro e V2 ⟨g_block, cap_block, rfl, b2, h_block⟩
  replace h_none := Lib.hid (h_none.out.below b2)
  replace h_block := Lib.hid h_block
  replace hB := Lib.hid (hB.out.trans (b2.mono hB.out.size))
  clear b2
  go_wp2_with (fail)
  refine (ors_calls 104 #[] pE g_none cap_none (pOf [1]) V2 (place_E V2) h_none.out).mono ?_
  rintro e V3 ⟨g_valued, cap_valued, rfl, b3, h_valued⟩
  replace h_none := Lib.hid (h_none.out.below b3)
  replace h_block := Lib.hid (h_block.out.below b3)
  replace h_valued := Lib.hid h_valued
  replace hB := Lib.hid (hB.out.trans (b3.mono hB.out.size))
  clear b3
  go_wp2_with (fail)
  refine (ofs_calls [50] V3 (by decide)).mono ?_
  rintro e V4 ⟨g_x2, cap_x2, rfl, b4, h_x2⟩
  replace h_none := Lib.hid (h_none.out.below b4)
  replace h_block := Lib.hid (h_block.out.below b4)
  replace h_valued := Lib.hid (h_valued.out.below b4)
  replace h_x2 := Lib.hid h_x2
  replace hB := Lib.hid (hB.out.trans (b4.mono hB.out.size))
  clear b4
  go_wp2_with (fail)
  refine (ors_calls 146 #[] pS g_x2 cap_x2 (pOf [50]) V4 (place_S V4) h_x2.out).mono ?_
  rintro e V5 ⟨g_x3, cap_x3, rfl, b5, h_x3⟩
  replace h_none := Lib.hid (h_none.out.below b5)
  replace h_block := Lib.hid (h_block.out.below b5)
  replace h_valued := Lib.hid (h_valued.out.below b5)
  replace h_x2 := Lib.hid (h_x2.out.below b5)
  replace h_x3 := Lib.hid h_x3
  replace hB := Lib.hid (hB.out.trans (b5.mono hB.out.size))
  clear b5
  go_wp2_with (fail)
  refine (alls_calls _ _ _).mono ?_
  rintro e V ⟨rfl, rfl⟩
  go_wp2_with (fail)
  go_ret3
  exact ⟨_, _, rfl, hB.out.alloc hB.out.size _, PlacesAt.new (vs := [FV g_x3 cap_x3]) (ps := [(pOr pS (pOf [50]))]) ⟨h_x3.out, trivial⟩⟩
set_option maxRecDepth 100000 in
set_option maxHeartbeats 4000000 in
theorem more_50 (w : World) : Calls Tryd.prog 150 #[.int .i64 50, FV 144 #[], FV 143 #[]] w (PlacesEnd w [isExportedB] false) := by
  have hB := Lib.hid (Below.refl w.heap.size w)
  go_enter Tryd.func150, Tryd.ntmps150
  go_wp2_with (fail)
  refine (ofs_calls [1] w (by decide)).mono ?_
  rintro e V1 ⟨g_none, cap_none, rfl, b1, h_none⟩
  replace h_none := Lib.hid h_none
  replace hB := Lib.hid (hB.out.trans (b1.mono hB.out.size))
  clear b1
  go_wp2_with (fail)
  refine (ofs_calls [63] V1 (by decide)).mono ?_
  rintro e V2 ⟨g_block, cap_block, rfl, b2, h_block⟩
  replace h_none := Lib.hid (h_none.out.below b2)
  replace h_block := Lib.hid h_block
  replace hB := Lib.hid (hB.out.trans (b2.mono hB.out.size))
  clear b2
  go_wp2_with (fail)
  refine (ors_calls 104 #[] pE g_none cap_none (pOf [1]) V2 (place_E V2) h_none.out).mono ?_
  rintro e V3 ⟨g_valued, cap_valued, rfl, b3, h_valued⟩
  replace h_none := Lib.hid (h_none.out.below b3)
  replace h_block := Lib.hid (h_block.out.below b3)
  replace h_valued := Lib.hid h_valued
  replace hB := Lib.hid (hB.out.trans (b3.mono hB.out.size))
  clear b3
  go_wp2_with (fail)
  refine (these_calls _ ⟨_, _, _, rfl⟩ _).mono ?_
  rintro e V ⟨rfl, rfl⟩
  go_wp2_with (fail)
  go_ret3
  exact ⟨_, _, rfl, hB.out.alloc hB.out.size _, PlacesAt.new (vs := [FV 175 #[]]) (ps := [isExportedB]) ⟨(place_Exp V3), trivial⟩⟩
set_option maxRecDepth 100000 in
set_option maxHeartbeats 4000000 in
theorem more_51 (w : World) : Calls Tryd.prog 150 #[.int .i64 51, FV 144 #[], FV 143 #[]] w (PlacesEnd w [(rowsB (pOf [67])), (rowsB (pOf [80])), (pOf [84])] false) := by
  have hB := Lib.hid (Below.refl w.heap.size w)
  go_enter Tryd.func150, Tryd.ntmps150
  go_wp2_with (fail)
  refine (ofs_calls [1] w (by decide)).mono ?_
  rintro e V1 ⟨g_none, cap_none, rfl, b1, h_none⟩
  replace h_none := Lib.hid h_none
  replace hB := Lib.hid (hB.out.trans (b1.mono hB.out.size))
  clear b1
  go_wp2_with (fail)
  refine (ofs_calls [63] V1 (by decide)).mono ?_
  rintro e V2 ⟨g_block, cap_block, rfl, b2, h_block⟩
  replace h_none := Lib.hid (h_none.out.below b2)
  replace h_block := Lib.hid h_block
  replace hB := Lib.hid (hB.out.trans (b2.mono hB.out.size))
  clear b2
  go_wp2_with (fail)
  refine (ors_calls 104 #[] pE g_none cap_none (pOf [1]) V2 (place_E V2) h_none.out).mono ?_
  rintro e V3 ⟨g_valued, cap_valued, rfl, b3, h_valued⟩
  replace h_none := Lib.hid (h_none.out.below b3)
  replace h_block := Lib.hid (h_block.out.below b3)
  replace h_valued := Lib.hid h_valued
  replace hB := Lib.hid (hB.out.trans (b3.mono hB.out.size))
  clear b3
  go_wp2_with (fail)
  refine (ofs_calls [67] V3 (by decide)).mono ?_
  rintro e V4 ⟨g_x4, cap_x4, rfl, b4, h_x4⟩
  replace h_none := Lib.hid (h_none.out.below b4)
  replace h_block := Lib.hid (h_block.out.below b4)
  replace h_valued := Lib.hid (h_valued.out.below b4)
  replace h_x4 := Lib.hid h_x4
  replace hB := Lib.hid (hB.out.trans (b4.mono hB.out.size))
  clear b4
  go_wp2_with (fail)
  refine (rowss_calls g_x4 cap_x4 (pOf [67]) V4 h_x4.out).mono ?_
  rintro e V5 ⟨g_x5, cap_x5, rfl, b5, h_x5⟩
  replace h_none := Lib.hid (h_none.out.below b5)
  replace h_block := Lib.hid (h_block.out.below b5)
  replace h_valued := Lib.hid (h_valued.out.below b5)
  replace h_x4 := Lib.hid (h_x4.out.below b5)
  replace h_x5 := Lib.hid h_x5
  replace hB := Lib.hid (hB.out.trans (b5.mono hB.out.size))
  clear b5
  go_wp2_with (fail)
  refine (ofs_calls [80] V5 (by decide)).mono ?_
  rintro e V6 ⟨g_x6, cap_x6, rfl, b6, h_x6⟩
  replace h_none := Lib.hid (h_none.out.below b6)
  replace h_block := Lib.hid (h_block.out.below b6)
  replace h_valued := Lib.hid (h_valued.out.below b6)
  replace h_x4 := Lib.hid (h_x4.out.below b6)
  replace h_x5 := Lib.hid (h_x5.out.below b6)
  replace h_x6 := Lib.hid h_x6
  replace hB := Lib.hid (hB.out.trans (b6.mono hB.out.size))
  clear b6
  go_wp2_with (fail)
  refine (rowss_calls g_x6 cap_x6 (pOf [80]) V6 h_x6.out).mono ?_
  rintro e V7 ⟨g_x7, cap_x7, rfl, b7, h_x7⟩
  replace h_none := Lib.hid (h_none.out.below b7)
  replace h_block := Lib.hid (h_block.out.below b7)
  replace h_valued := Lib.hid (h_valued.out.below b7)
  replace h_x4 := Lib.hid (h_x4.out.below b7)
  replace h_x5 := Lib.hid (h_x5.out.below b7)
  replace h_x6 := Lib.hid (h_x6.out.below b7)
  replace h_x7 := Lib.hid h_x7
  replace hB := Lib.hid (hB.out.trans (b7.mono hB.out.size))
  clear b7
  go_wp2_with (fail)
  refine (ofs_calls [84] V7 (by decide)).mono ?_
  rintro e V8 ⟨g_x8, cap_x8, rfl, b8, h_x8⟩
  replace h_none := Lib.hid (h_none.out.below b8)
  replace h_block := Lib.hid (h_block.out.below b8)
  replace h_valued := Lib.hid (h_valued.out.below b8)
  replace h_x4 := Lib.hid (h_x4.out.below b8)
  replace h_x5 := Lib.hid (h_x5.out.below b8)
  replace h_x6 := Lib.hid (h_x6.out.below b8)
  replace h_x7 := Lib.hid (h_x7.out.below b8)
  replace h_x8 := Lib.hid h_x8
  replace hB := Lib.hid (hB.out.trans (b8.mono hB.out.size))
  clear b8
  go_wp2_with (fail)
  refine (these_calls _ ⟨_, _, _, rfl⟩ _).mono ?_
  rintro e V ⟨rfl, rfl⟩
  go_wp2_with (fail)
  go_ret3
  exact ⟨_, _, rfl, hB.out.alloc hB.out.size _, PlacesAt.new (vs := [FV g_x5 cap_x5, FV g_x7 cap_x7, FV g_x8 cap_x8]) (ps := [(rowsB (pOf [67])), (rowsB (pOf [80])), (pOf [84])]) ⟨h_x5.out, ⟨h_x7.out, ⟨h_x8.out, trivial⟩⟩⟩⟩
set_option maxRecDepth 100000 in
set_option maxHeartbeats 4000000 in
theorem more_52 (w : World) : Calls Tryd.prog 150 #[.int .i64 52, FV 144 #[], FV 143 #[]] w (PlacesEnd w [(rowsB (pOf [67])), pT] false) := by
  have hB := Lib.hid (Below.refl w.heap.size w)
  go_enter Tryd.func150, Tryd.ntmps150
  go_wp2_with (fail)
  refine (ofs_calls [1] w (by decide)).mono ?_
  rintro e V1 ⟨g_none, cap_none, rfl, b1, h_none⟩
  replace h_none := Lib.hid h_none
  replace hB := Lib.hid (hB.out.trans (b1.mono hB.out.size))
  clear b1
  go_wp2_with (fail)
  refine (ofs_calls [63] V1 (by decide)).mono ?_
  rintro e V2 ⟨g_block, cap_block, rfl, b2, h_block⟩
  replace h_none := Lib.hid (h_none.out.below b2)
  replace h_block := Lib.hid h_block
  replace hB := Lib.hid (hB.out.trans (b2.mono hB.out.size))
  clear b2
  go_wp2_with (fail)
  refine (ors_calls 104 #[] pE g_none cap_none (pOf [1]) V2 (place_E V2) h_none.out).mono ?_
  rintro e V3 ⟨g_valued, cap_valued, rfl, b3, h_valued⟩
  replace h_none := Lib.hid (h_none.out.below b3)
  replace h_block := Lib.hid (h_block.out.below b3)
  replace h_valued := Lib.hid h_valued
  replace hB := Lib.hid (hB.out.trans (b3.mono hB.out.size))
  clear b3
  go_wp2_with (fail)
  refine (ofs_calls [67] V3 (by decide)).mono ?_
  rintro e V4 ⟨g_x9, cap_x9, rfl, b4, h_x9⟩
  replace h_none := Lib.hid (h_none.out.below b4)
  replace h_block := Lib.hid (h_block.out.below b4)
  replace h_valued := Lib.hid (h_valued.out.below b4)
  replace h_x9 := Lib.hid h_x9
  replace hB := Lib.hid (hB.out.trans (b4.mono hB.out.size))
  clear b4
  go_wp2_with (fail)
  refine (rowss_calls g_x9 cap_x9 (pOf [67]) V4 h_x9.out).mono ?_
  rintro e V5 ⟨g_x10, cap_x10, rfl, b5, h_x10⟩
  replace h_none := Lib.hid (h_none.out.below b5)
  replace h_block := Lib.hid (h_block.out.below b5)
  replace h_valued := Lib.hid (h_valued.out.below b5)
  replace h_x9 := Lib.hid (h_x9.out.below b5)
  replace h_x10 := Lib.hid h_x10
  replace hB := Lib.hid (hB.out.trans (b5.mono hB.out.size))
  clear b5
  go_wp2_with (fail)
  refine (these_calls _ ⟨_, _, _, rfl⟩ _).mono ?_
  rintro e V ⟨rfl, rfl⟩
  go_wp2_with (fail)
  go_ret3
  exact ⟨_, _, rfl, hB.out.alloc hB.out.size _, PlacesAt.new (vs := [FV g_x10 cap_x10, FV 107 #[]]) (ps := [(rowsB (pOf [67])), pT]) ⟨h_x10.out, ⟨(place_T V5), trivial⟩⟩⟩
set_option maxRecDepth 100000 in
set_option maxHeartbeats 4000000 in
theorem more_53 (w : World) : Calls Tryd.prog 150 #[.int .i64 53, FV 144 #[], FV 143 #[]] w (PlacesEnd w [pE, (pOf [63]), (pOr (pOf [63, 53]) (pOf [1]))] false) := by
  have hB := Lib.hid (Below.refl w.heap.size w)
  go_enter Tryd.func150, Tryd.ntmps150
  go_wp2_with (fail)
  refine (ofs_calls [1] w (by decide)).mono ?_
  rintro e V1 ⟨g_none, cap_none, rfl, b1, h_none⟩
  replace h_none := Lib.hid h_none
  replace hB := Lib.hid (hB.out.trans (b1.mono hB.out.size))
  clear b1
  go_wp2_with (fail)
  refine (ofs_calls [63] V1 (by decide)).mono ?_
  rintro e V2 ⟨g_block, cap_block, rfl, b2, h_block⟩
  replace h_none := Lib.hid (h_none.out.below b2)
  replace h_block := Lib.hid h_block
  replace hB := Lib.hid (hB.out.trans (b2.mono hB.out.size))
  clear b2
  go_wp2_with (fail)
  refine (ors_calls 104 #[] pE g_none cap_none (pOf [1]) V2 (place_E V2) h_none.out).mono ?_
  rintro e V3 ⟨g_valued, cap_valued, rfl, b3, h_valued⟩
  replace h_none := Lib.hid (h_none.out.below b3)
  replace h_block := Lib.hid (h_block.out.below b3)
  replace h_valued := Lib.hid h_valued
  replace hB := Lib.hid (hB.out.trans (b3.mono hB.out.size))
  clear b3
  go_wp2_with (fail)
  refine (ofs_calls [63, 53] V3 (by decide)).mono ?_
  rintro e V4 ⟨g_x11, cap_x11, rfl, b4, h_x11⟩
  replace h_none := Lib.hid (h_none.out.below b4)
  replace h_block := Lib.hid (h_block.out.below b4)
  replace h_valued := Lib.hid (h_valued.out.below b4)
  replace h_x11 := Lib.hid h_x11
  replace hB := Lib.hid (hB.out.trans (b4.mono hB.out.size))
  clear b4
  go_wp2_with (fail)
  refine (ors_calls g_x11 cap_x11 (pOf [63, 53]) g_none cap_none (pOf [1]) V4 h_x11.out h_none.out).mono ?_
  rintro e V5 ⟨g_x12, cap_x12, rfl, b5, h_x12⟩
  replace h_none := Lib.hid (h_none.out.below b5)
  replace h_block := Lib.hid (h_block.out.below b5)
  replace h_valued := Lib.hid (h_valued.out.below b5)
  replace h_x11 := Lib.hid (h_x11.out.below b5)
  replace h_x12 := Lib.hid h_x12
  replace hB := Lib.hid (hB.out.trans (b5.mono hB.out.size))
  clear b5
  go_wp2_with (fail)
  refine (these_calls _ ⟨_, _, _, rfl⟩ _).mono ?_
  rintro e V ⟨rfl, rfl⟩
  go_wp2_with (fail)
  go_ret3
  exact ⟨_, _, rfl, hB.out.alloc hB.out.size _, PlacesAt.new (vs := [FV 104 #[], FV g_block cap_block, FV g_x12 cap_x12]) (ps := [pE, (pOf [63]), (pOr (pOf [63, 53]) (pOf [1]))]) ⟨(place_E V5), ⟨h_block.out, ⟨h_x12.out, trivial⟩⟩⟩⟩
set_option maxRecDepth 100000 in
set_option maxHeartbeats 4000000 in
theorem more_54 (w : World) : Calls Tryd.prog 150 #[.int .i64 54, FV 144 #[], FV 143 #[]] w (PlacesEnd w [pE, (pOf [63])] false) := by
  have hB := Lib.hid (Below.refl w.heap.size w)
  go_enter Tryd.func150, Tryd.ntmps150
  go_wp2_with (fail)
  refine (ofs_calls [1] w (by decide)).mono ?_
  rintro e V1 ⟨g_none, cap_none, rfl, b1, h_none⟩
  replace h_none := Lib.hid h_none
  replace hB := Lib.hid (hB.out.trans (b1.mono hB.out.size))
  clear b1
  go_wp2_with (fail)
  refine (ofs_calls [63] V1 (by decide)).mono ?_
  rintro e V2 ⟨g_block, cap_block, rfl, b2, h_block⟩
  replace h_none := Lib.hid (h_none.out.below b2)
  replace h_block := Lib.hid h_block
  replace hB := Lib.hid (hB.out.trans (b2.mono hB.out.size))
  clear b2
  go_wp2_with (fail)
  refine (ors_calls 104 #[] pE g_none cap_none (pOf [1]) V2 (place_E V2) h_none.out).mono ?_
  rintro e V3 ⟨g_valued, cap_valued, rfl, b3, h_valued⟩
  replace h_none := Lib.hid (h_none.out.below b3)
  replace h_block := Lib.hid (h_block.out.below b3)
  replace h_valued := Lib.hid h_valued
  replace hB := Lib.hid (hB.out.trans (b3.mono hB.out.size))
  clear b3
  go_wp2_with (fail)
  refine (these_calls _ ⟨_, _, _, rfl⟩ _).mono ?_
  rintro e V ⟨rfl, rfl⟩
  go_wp2_with (fail)
  go_ret3
  exact ⟨_, _, rfl, hB.out.alloc hB.out.size _, PlacesAt.new (vs := [FV 104 #[], FV g_block cap_block]) (ps := [pE, (pOf [63])]) ⟨(place_E V3), ⟨h_block.out, trivial⟩⟩⟩
set_option maxRecDepth 100000 in
set_option maxHeartbeats 4000000 in
theorem more_56 (w : World) : Calls Tryd.prog 150 #[.int .i64 56, FV 144 #[], FV 143 #[]] w (PlacesEnd w [pE, (pOf [63])] false) := by
  have hB := Lib.hid (Below.refl w.heap.size w)
  go_enter Tryd.func150, Tryd.ntmps150
  go_wp2_with (fail)
  refine (ofs_calls [1] w (by decide)).mono ?_
  rintro e V1 ⟨g_none, cap_none, rfl, b1, h_none⟩
  replace h_none := Lib.hid h_none
  replace hB := Lib.hid (hB.out.trans (b1.mono hB.out.size))
  clear b1
  go_wp2_with (fail)
  refine (ofs_calls [63] V1 (by decide)).mono ?_
  rintro e V2 ⟨g_block, cap_block, rfl, b2, h_block⟩
  replace h_none := Lib.hid (h_none.out.below b2)
  replace h_block := Lib.hid h_block
  replace hB := Lib.hid (hB.out.trans (b2.mono hB.out.size))
  clear b2
  go_wp2_with (fail)
  refine (ors_calls 104 #[] pE g_none cap_none (pOf [1]) V2 (place_E V2) h_none.out).mono ?_
  rintro e V3 ⟨g_valued, cap_valued, rfl, b3, h_valued⟩
  replace h_none := Lib.hid (h_none.out.below b3)
  replace h_block := Lib.hid (h_block.out.below b3)
  replace h_valued := Lib.hid h_valued
  replace hB := Lib.hid (hB.out.trans (b3.mono hB.out.size))
  clear b3
  go_wp2_with (fail)
  refine (these_calls _ ⟨_, _, _, rfl⟩ _).mono ?_
  rintro e V ⟨rfl, rfl⟩
  go_wp2_with (fail)
  go_ret3
  exact ⟨_, _, rfl, hB.out.alloc hB.out.size _, PlacesAt.new (vs := [FV 104 #[], FV g_block cap_block]) (ps := [pE, (pOf [63])]) ⟨(place_E V3), ⟨h_block.out, trivial⟩⟩⟩
set_option maxRecDepth 100000 in
set_option maxHeartbeats 4000000 in
theorem more_55 (w : World) : Calls Tryd.prog 150 #[.int .i64 55, FV 144 #[], FV 143 #[]] w (PlacesEnd w [(pOr pLet (pOf [1])), (pOr pE (pOf [1])), (pOr pE (pOf [1])), (pOf [63])] false) := by
  have hB := Lib.hid (Below.refl w.heap.size w)
  go_enter Tryd.func150, Tryd.ntmps150
  go_wp2_with (fail)
  refine (ofs_calls [1] w (by decide)).mono ?_
  rintro e V1 ⟨g_none, cap_none, rfl, b1, h_none⟩
  replace h_none := Lib.hid h_none
  replace hB := Lib.hid (hB.out.trans (b1.mono hB.out.size))
  clear b1
  go_wp2_with (fail)
  refine (ofs_calls [63] V1 (by decide)).mono ?_
  rintro e V2 ⟨g_block, cap_block, rfl, b2, h_block⟩
  replace h_none := Lib.hid (h_none.out.below b2)
  replace h_block := Lib.hid h_block
  replace hB := Lib.hid (hB.out.trans (b2.mono hB.out.size))
  clear b2
  go_wp2_with (fail)
  refine (ors_calls 104 #[] pE g_none cap_none (pOf [1]) V2 (place_E V2) h_none.out).mono ?_
  rintro e V3 ⟨g_valued, cap_valued, rfl, b3, h_valued⟩
  replace h_none := Lib.hid (h_none.out.below b3)
  replace h_block := Lib.hid (h_block.out.below b3)
  replace h_valued := Lib.hid h_valued
  replace hB := Lib.hid (hB.out.trans (b3.mono hB.out.size))
  clear b3
  go_wp2_with (fail)
  refine (ors_calls 176 #[] pLet g_none cap_none (pOf [1]) V3 (place_Let V3) h_none.out).mono ?_
  rintro e V4 ⟨g_x13, cap_x13, rfl, b4, h_x13⟩
  replace h_none := Lib.hid (h_none.out.below b4)
  replace h_block := Lib.hid (h_block.out.below b4)
  replace h_valued := Lib.hid (h_valued.out.below b4)
  replace h_x13 := Lib.hid h_x13
  replace hB := Lib.hid (hB.out.trans (b4.mono hB.out.size))
  clear b4
  go_wp2_with (fail)
  refine (these_calls _ ⟨_, _, _, rfl⟩ _).mono ?_
  rintro e V ⟨rfl, rfl⟩
  go_wp2_with (fail)
  go_ret3
  exact ⟨_, _, rfl, hB.out.alloc hB.out.size _, PlacesAt.new (vs := [FV g_x13 cap_x13, FV g_valued cap_valued, FV g_valued cap_valued, FV g_block cap_block]) (ps := [(pOr pLet (pOf [1])), (pOr pE (pOf [1])), (pOr pE (pOf [1])), (pOf [63])]) ⟨h_x13.out, ⟨h_valued.out, ⟨h_valued.out, ⟨h_block.out, trivial⟩⟩⟩⟩⟩
set_option maxRecDepth 100000 in
set_option maxHeartbeats 4000000 in
theorem more_61 (w : World) : Calls Tryd.prog 150 #[.int .i64 61, FV 144 #[], FV 143 #[]] w (PlacesEnd w [(pOf [63]), (pOr (pOf [62]) (pOf [1])), (pOr (pOf [63]) (pOf [1]))] false) := by
  have hB := Lib.hid (Below.refl w.heap.size w)
  go_enter Tryd.func150, Tryd.ntmps150
  go_wp2_with (fail)
  refine (ofs_calls [1] w (by decide)).mono ?_
  rintro e V1 ⟨g_none, cap_none, rfl, b1, h_none⟩
  replace h_none := Lib.hid h_none
  replace hB := Lib.hid (hB.out.trans (b1.mono hB.out.size))
  clear b1
  go_wp2_with (fail)
  refine (ofs_calls [63] V1 (by decide)).mono ?_
  rintro e V2 ⟨g_block, cap_block, rfl, b2, h_block⟩
  replace h_none := Lib.hid (h_none.out.below b2)
  replace h_block := Lib.hid h_block
  replace hB := Lib.hid (hB.out.trans (b2.mono hB.out.size))
  clear b2
  go_wp2_with (fail)
  refine (ors_calls 104 #[] pE g_none cap_none (pOf [1]) V2 (place_E V2) h_none.out).mono ?_
  rintro e V3 ⟨g_valued, cap_valued, rfl, b3, h_valued⟩
  replace h_none := Lib.hid (h_none.out.below b3)
  replace h_block := Lib.hid (h_block.out.below b3)
  replace h_valued := Lib.hid h_valued
  replace hB := Lib.hid (hB.out.trans (b3.mono hB.out.size))
  clear b3
  go_wp2_with (fail)
  refine (ofs_calls [62] V3 (by decide)).mono ?_
  rintro e V4 ⟨g_x14, cap_x14, rfl, b4, h_x14⟩
  replace h_none := Lib.hid (h_none.out.below b4)
  replace h_block := Lib.hid (h_block.out.below b4)
  replace h_valued := Lib.hid (h_valued.out.below b4)
  replace h_x14 := Lib.hid h_x14
  replace hB := Lib.hid (hB.out.trans (b4.mono hB.out.size))
  clear b4
  go_wp2_with (fail)
  refine (ors_calls g_x14 cap_x14 (pOf [62]) g_none cap_none (pOf [1]) V4 h_x14.out h_none.out).mono ?_
  rintro e V5 ⟨g_x15, cap_x15, rfl, b5, h_x15⟩
  replace h_none := Lib.hid (h_none.out.below b5)
  replace h_block := Lib.hid (h_block.out.below b5)
  replace h_valued := Lib.hid (h_valued.out.below b5)
  replace h_x14 := Lib.hid (h_x14.out.below b5)
  replace h_x15 := Lib.hid h_x15
  replace hB := Lib.hid (hB.out.trans (b5.mono hB.out.size))
  clear b5
  go_wp2_with (fail)
  refine (ors_calls g_block cap_block (pOf [63]) g_none cap_none (pOf [1]) V5 h_block.out h_none.out).mono ?_
  rintro e V6 ⟨g_x16, cap_x16, rfl, b6, h_x16⟩
  replace h_none := Lib.hid (h_none.out.below b6)
  replace h_block := Lib.hid (h_block.out.below b6)
  replace h_valued := Lib.hid (h_valued.out.below b6)
  replace h_x14 := Lib.hid (h_x14.out.below b6)
  replace h_x15 := Lib.hid (h_x15.out.below b6)
  replace h_x16 := Lib.hid h_x16
  replace hB := Lib.hid (hB.out.trans (b6.mono hB.out.size))
  clear b6
  go_wp2_with (fail)
  refine (these_calls _ ⟨_, _, _, rfl⟩ _).mono ?_
  rintro e V ⟨rfl, rfl⟩
  go_wp2_with (fail)
  go_ret3
  exact ⟨_, _, rfl, hB.out.alloc hB.out.size _, PlacesAt.new (vs := [FV g_block cap_block, FV g_x15 cap_x15, FV g_x16 cap_x16]) (ps := [(pOf [63]), (pOr (pOf [62]) (pOf [1])), (pOr (pOf [63]) (pOf [1]))]) ⟨h_block.out, ⟨h_x15.out, ⟨h_x16.out, trivial⟩⟩⟩⟩
set_option maxRecDepth 100000 in
set_option maxHeartbeats 4000000 in
theorem more_62 (w : World) : Calls Tryd.prog 150 #[.int .i64 62, FV 144 #[], FV 143 #[]] w (PlacesEnd w [(pOf [63])] false) := by
  have hB := Lib.hid (Below.refl w.heap.size w)
  go_enter Tryd.func150, Tryd.ntmps150
  go_wp2_with (fail)
  refine (ofs_calls [1] w (by decide)).mono ?_
  rintro e V1 ⟨g_none, cap_none, rfl, b1, h_none⟩
  replace h_none := Lib.hid h_none
  replace hB := Lib.hid (hB.out.trans (b1.mono hB.out.size))
  clear b1
  go_wp2_with (fail)
  refine (ofs_calls [63] V1 (by decide)).mono ?_
  rintro e V2 ⟨g_block, cap_block, rfl, b2, h_block⟩
  replace h_none := Lib.hid (h_none.out.below b2)
  replace h_block := Lib.hid h_block
  replace hB := Lib.hid (hB.out.trans (b2.mono hB.out.size))
  clear b2
  go_wp2_with (fail)
  refine (ors_calls 104 #[] pE g_none cap_none (pOf [1]) V2 (place_E V2) h_none.out).mono ?_
  rintro e V3 ⟨g_valued, cap_valued, rfl, b3, h_valued⟩
  replace h_none := Lib.hid (h_none.out.below b3)
  replace h_block := Lib.hid (h_block.out.below b3)
  replace h_valued := Lib.hid h_valued
  replace hB := Lib.hid (hB.out.trans (b3.mono hB.out.size))
  clear b3
  go_wp2_with (fail)
  refine (these_calls _ ⟨_, _, _, rfl⟩ _).mono ?_
  rintro e V ⟨rfl, rfl⟩
  go_wp2_with (fail)
  go_ret3
  exact ⟨_, _, rfl, hB.out.alloc hB.out.size _, PlacesAt.new (vs := [FV g_block cap_block]) (ps := [(pOf [63])]) ⟨h_block.out, trivial⟩⟩
set_option maxRecDepth 100000 in
set_option maxHeartbeats 4000000 in
theorem more_66 (w : World) : Calls Tryd.prog 150 #[.int .i64 66, FV 144 #[], FV 143 #[]] w (PlacesEnd w [(pOr pT (pOf [1]))] false) := by
  have hB := Lib.hid (Below.refl w.heap.size w)
  go_enter Tryd.func150, Tryd.ntmps150
  go_wp2_with (fail)
  refine (ofs_calls [1] w (by decide)).mono ?_
  rintro e V1 ⟨g_none, cap_none, rfl, b1, h_none⟩
  replace h_none := Lib.hid h_none
  replace hB := Lib.hid (hB.out.trans (b1.mono hB.out.size))
  clear b1
  go_wp2_with (fail)
  refine (ofs_calls [63] V1 (by decide)).mono ?_
  rintro e V2 ⟨g_block, cap_block, rfl, b2, h_block⟩
  replace h_none := Lib.hid (h_none.out.below b2)
  replace h_block := Lib.hid h_block
  replace hB := Lib.hid (hB.out.trans (b2.mono hB.out.size))
  clear b2
  go_wp2_with (fail)
  refine (ors_calls 104 #[] pE g_none cap_none (pOf [1]) V2 (place_E V2) h_none.out).mono ?_
  rintro e V3 ⟨g_valued, cap_valued, rfl, b3, h_valued⟩
  replace h_none := Lib.hid (h_none.out.below b3)
  replace h_block := Lib.hid (h_block.out.below b3)
  replace h_valued := Lib.hid h_valued
  replace hB := Lib.hid (hB.out.trans (b3.mono hB.out.size))
  clear b3
  go_wp2_with (fail)
  refine (ors_calls 107 #[] pT g_none cap_none (pOf [1]) V3 (place_T V3) h_none.out).mono ?_
  rintro e V4 ⟨g_x17, cap_x17, rfl, b4, h_x17⟩
  replace h_none := Lib.hid (h_none.out.below b4)
  replace h_block := Lib.hid (h_block.out.below b4)
  replace h_valued := Lib.hid (h_valued.out.below b4)
  replace h_x17 := Lib.hid h_x17
  replace hB := Lib.hid (hB.out.trans (b4.mono hB.out.size))
  clear b4
  go_wp2_with (fail)
  refine (these_calls _ ⟨_, _, _, rfl⟩ _).mono ?_
  rintro e V ⟨rfl, rfl⟩
  go_wp2_with (fail)
  go_ret3
  exact ⟨_, _, rfl, hB.out.alloc hB.out.size _, PlacesAt.new (vs := [FV g_x17 cap_x17]) (ps := [(pOr pT (pOf [1]))]) ⟨h_x17.out, trivial⟩⟩
set_option maxRecDepth 100000 in
set_option maxHeartbeats 4000000 in
theorem more_83 (w : World) : Calls Tryd.prog 150 #[.int .i64 83, FV 144 #[], FV 143 #[]] w (PlacesEnd w [pT] false) := by
  have hB := Lib.hid (Below.refl w.heap.size w)
  go_enter Tryd.func150, Tryd.ntmps150
  go_wp2_with (fail)
  refine (ofs_calls [1] w (by decide)).mono ?_
  rintro e V1 ⟨g_none, cap_none, rfl, b1, h_none⟩
  replace h_none := Lib.hid h_none
  replace hB := Lib.hid (hB.out.trans (b1.mono hB.out.size))
  clear b1
  go_wp2_with (fail)
  refine (ofs_calls [63] V1 (by decide)).mono ?_
  rintro e V2 ⟨g_block, cap_block, rfl, b2, h_block⟩
  replace h_none := Lib.hid (h_none.out.below b2)
  replace h_block := Lib.hid h_block
  replace hB := Lib.hid (hB.out.trans (b2.mono hB.out.size))
  clear b2
  go_wp2_with (fail)
  refine (ors_calls 104 #[] pE g_none cap_none (pOf [1]) V2 (place_E V2) h_none.out).mono ?_
  rintro e V3 ⟨g_valued, cap_valued, rfl, b3, h_valued⟩
  replace h_none := Lib.hid (h_none.out.below b3)
  replace h_block := Lib.hid (h_block.out.below b3)
  replace h_valued := Lib.hid h_valued
  replace hB := Lib.hid (hB.out.trans (b3.mono hB.out.size))
  clear b3
  go_wp2_with (fail)
  refine (these_calls _ ⟨_, _, _, rfl⟩ _).mono ?_
  rintro e V ⟨rfl, rfl⟩
  go_wp2_with (fail)
  go_ret3
  exact ⟨_, _, rfl, hB.out.alloc hB.out.size _, PlacesAt.new (vs := [FV 107 #[]]) (ps := [pT]) ⟨(place_T V3), trivial⟩⟩
set_option maxRecDepth 100000 in
set_option maxHeartbeats 4000000 in
theorem more_85 (w : World) : Calls Tryd.prog 150 #[.int .i64 85, FV 144 #[], FV 143 #[]] w (PlacesEnd w [pT] false) := by
  have hB := Lib.hid (Below.refl w.heap.size w)
  go_enter Tryd.func150, Tryd.ntmps150
  go_wp2_with (fail)
  refine (ofs_calls [1] w (by decide)).mono ?_
  rintro e V1 ⟨g_none, cap_none, rfl, b1, h_none⟩
  replace h_none := Lib.hid h_none
  replace hB := Lib.hid (hB.out.trans (b1.mono hB.out.size))
  clear b1
  go_wp2_with (fail)
  refine (ofs_calls [63] V1 (by decide)).mono ?_
  rintro e V2 ⟨g_block, cap_block, rfl, b2, h_block⟩
  replace h_none := Lib.hid (h_none.out.below b2)
  replace h_block := Lib.hid h_block
  replace hB := Lib.hid (hB.out.trans (b2.mono hB.out.size))
  clear b2
  go_wp2_with (fail)
  refine (ors_calls 104 #[] pE g_none cap_none (pOf [1]) V2 (place_E V2) h_none.out).mono ?_
  rintro e V3 ⟨g_valued, cap_valued, rfl, b3, h_valued⟩
  replace h_none := Lib.hid (h_none.out.below b3)
  replace h_block := Lib.hid (h_block.out.below b3)
  replace h_valued := Lib.hid h_valued
  replace hB := Lib.hid (hB.out.trans (b3.mono hB.out.size))
  clear b3
  go_wp2_with (fail)
  refine (these_calls _ ⟨_, _, _, rfl⟩ _).mono ?_
  rintro e V ⟨rfl, rfl⟩
  go_wp2_with (fail)
  go_ret3
  exact ⟨_, _, rfl, hB.out.alloc hB.out.size _, PlacesAt.new (vs := [FV 107 #[]]) (ps := [pT]) ⟨(place_T V3), trivial⟩⟩
set_option maxRecDepth 100000 in
set_option maxHeartbeats 4000000 in
theorem more_84 (w : World) : Calls Tryd.prog 150 #[.int .i64 84, FV 144 #[], FV 143 #[]] w (PlacesEnd w [(pOf [85])] true) := by
  have hB := Lib.hid (Below.refl w.heap.size w)
  go_enter Tryd.func150, Tryd.ntmps150
  go_wp2_with (fail)
  refine (ofs_calls [1] w (by decide)).mono ?_
  rintro e V1 ⟨g_none, cap_none, rfl, b1, h_none⟩
  replace h_none := Lib.hid h_none
  replace hB := Lib.hid (hB.out.trans (b1.mono hB.out.size))
  clear b1
  go_wp2_with (fail)
  refine (ofs_calls [63] V1 (by decide)).mono ?_
  rintro e V2 ⟨g_block, cap_block, rfl, b2, h_block⟩
  replace h_none := Lib.hid (h_none.out.below b2)
  replace h_block := Lib.hid h_block
  replace hB := Lib.hid (hB.out.trans (b2.mono hB.out.size))
  clear b2
  go_wp2_with (fail)
  refine (ors_calls 104 #[] pE g_none cap_none (pOf [1]) V2 (place_E V2) h_none.out).mono ?_
  rintro e V3 ⟨g_valued, cap_valued, rfl, b3, h_valued⟩
  replace h_none := Lib.hid (h_none.out.below b3)
  replace h_block := Lib.hid (h_block.out.below b3)
  replace h_valued := Lib.hid h_valued
  replace hB := Lib.hid (hB.out.trans (b3.mono hB.out.size))
  clear b3
  go_wp2_with (fail)
  refine (ofs_calls [85] V3 (by decide)).mono ?_
  rintro e V4 ⟨g_x18, cap_x18, rfl, b4, h_x18⟩
  replace h_none := Lib.hid (h_none.out.below b4)
  replace h_block := Lib.hid (h_block.out.below b4)
  replace h_valued := Lib.hid (h_valued.out.below b4)
  replace h_x18 := Lib.hid h_x18
  replace hB := Lib.hid (hB.out.trans (b4.mono hB.out.size))
  clear b4
  go_wp2_with (fail)
  refine (alls_calls _ _ _).mono ?_
  rintro e V ⟨rfl, rfl⟩
  go_wp2_with (fail)
  go_ret3
  exact ⟨_, _, rfl, hB.out.alloc hB.out.size _, PlacesAt.new (vs := [FV g_x18 cap_x18]) (ps := [(pOf [85])]) ⟨h_x18.out, trivial⟩⟩
set_option maxRecDepth 100000 in
set_option maxHeartbeats 4000000 in
theorem more_86 (w : World) : Calls Tryd.prog 150 #[.int .i64 86, FV 144 #[], FV 143 #[]] w (PlacesEnd w [(rowsB pPlain), pT] false) := by
  have hB := Lib.hid (Below.refl w.heap.size w)
  go_enter Tryd.func150, Tryd.ntmps150
  go_wp2_with (fail)
  refine (ofs_calls [1] w (by decide)).mono ?_
  rintro e V1 ⟨g_none, cap_none, rfl, b1, h_none⟩
  replace h_none := Lib.hid h_none
  replace hB := Lib.hid (hB.out.trans (b1.mono hB.out.size))
  clear b1
  go_wp2_with (fail)
  refine (ofs_calls [63] V1 (by decide)).mono ?_
  rintro e V2 ⟨g_block, cap_block, rfl, b2, h_block⟩
  replace h_none := Lib.hid (h_none.out.below b2)
  replace h_block := Lib.hid h_block
  replace hB := Lib.hid (hB.out.trans (b2.mono hB.out.size))
  clear b2
  go_wp2_with (fail)
  refine (ors_calls 104 #[] pE g_none cap_none (pOf [1]) V2 (place_E V2) h_none.out).mono ?_
  rintro e V3 ⟨g_valued, cap_valued, rfl, b3, h_valued⟩
  replace h_none := Lib.hid (h_none.out.below b3)
  replace h_block := Lib.hid (h_block.out.below b3)
  replace h_valued := Lib.hid h_valued
  replace hB := Lib.hid (hB.out.trans (b3.mono hB.out.size))
  clear b3
  go_wp2_with (fail)
  refine (rowss_calls 141 #[] pPlain V3 (place_Plain V3)).mono ?_
  rintro e V4 ⟨g_x19, cap_x19, rfl, b4, h_x19⟩
  replace h_none := Lib.hid (h_none.out.below b4)
  replace h_block := Lib.hid (h_block.out.below b4)
  replace h_valued := Lib.hid (h_valued.out.below b4)
  replace h_x19 := Lib.hid h_x19
  replace hB := Lib.hid (hB.out.trans (b4.mono hB.out.size))
  clear b4
  go_wp2_with (fail)
  refine (these_calls _ ⟨_, _, _, rfl⟩ _).mono ?_
  rintro e V ⟨rfl, rfl⟩
  go_wp2_with (fail)
  go_ret3
  exact ⟨_, _, rfl, hB.out.alloc hB.out.size _, PlacesAt.new (vs := [FV g_x19 cap_x19, FV 107 #[]]) (ps := [(rowsB pPlain), pT]) ⟨h_x19.out, ⟨(place_T V4), trivial⟩⟩⟩
end Go.Proofs.YtnepdjgbfhakmaaDoor
