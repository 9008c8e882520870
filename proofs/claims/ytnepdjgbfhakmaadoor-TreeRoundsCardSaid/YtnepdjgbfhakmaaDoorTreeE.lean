/- Trees: end; Sub. -/
import Derived.Test.YtnepdjgbfhakmaaDoorTreeG
import Derived.Test.YtnepdjgbfhakmaaDoorTreeC1
import Derived.Test.YtnepdjgbfhakmaaDoorTp
import Derived.StillTailTactics
namespace Go.Proofs.YtnepdjgbfhakmaaDoor
set_option linter.unusedVariables false
set_option linter.unusedSimpArgs false
open Go.RowKit Go.Shelf
attribute [local go_sem] Oper.semAt_some

set_option maxRecDepth 100000 in
set_option maxHeartbeats 2000000 in
theorem end_calls (A : Option Addr) (c : Nat) (T : List Nd) (n : Nat) (w : World) (hT : TreeOk T) (hA : TreeAt w A T) (hg : GoodT T) (hn : n < T.length) :
    Calls Tryd.prog 86 #[treeV A T.length c, .int .i64 n] w fun e w' => e = .returned (.int .i64 (endT T n)) ∧ Below w.heap.size w w' := by
  have hl := hT.1
  obtain ⟨W1, hW1⟩ : ∃ W1, w.alloc (.cells #[.slice A T.length c] 59) = W1 := ⟨_, rfl⟩
  have b1 : Below w.heap.size w W1 := by rw [← hW1]; exact (Below.refl _ _).alloc (Nat.le_refl _) _
  have t1 : W1.cell? ⟨w.heap.size, 0, none⟩ = some (.slice A T.length c) := by rw [← hW1]; simp [World.cell?_alloc_new]
  have HW := Lib.hid hW1
  have HB := Lib.hid b1
  have HA := Lib.hid (hA.below b1)
  have HT := Lib.hid hT
  have T1 := Lib.hid t1
  have HE := Lib.hid (hg.endOk hn).1
  have HG := Lib.hid hg
  clear hW1 b1 hA hT t1 hg
  go_enter Tryd.func86, Tryd.ntmps86
  go_upto_region 1 with (fail)
  rw [HW.out]
  go_wp2_with (fail)
  go_loopw [1] (fun v wr => ∃ m : Nat, v = .int .i64 m ∧ m < T.length ∧ Hid (Chain T (kidsOf T m) (m + 1) (endT T n)) ∧ Hid (Below W1.heap.size W1 wr)) (fun v _ => T.length - (intOf v).toNat)
  case atStart => exact ⟨n, rfl, hn, HE, Lib.hid (Below.refl _ _)⟩
  case round =>
    obtain ⟨m, rfl, hm, hC, hb⟩ := hrel
    obtain ⟨wo, rfl⟩ : ∃ wo : World, wo = wr := ⟨_, rfl⟩
    have t1 := hb.out.cell_keep T1.out
    obtain ⟨x, K, kc, hx, hnd⟩ := (HA.out.below hb.out).get hm
    obtain ⟨⟨a, rfl, c0, c1, c2, c3, c4⟩, hK⟩ := hnd
    have hkids : kidsOf T m = x.kids := by unfold kidsOf; simp [List.getD, hx]
    have hxl := (HT.out.2 x (List.mem_of_getElem? hx)).2.2
    have HX := Lib.hid hkids
    have HK := Lib.hid hK
    clear c0 c1 c2 c4 hx hkids hK
    by_cases hz : x.kids.length = 0
    · have he : endT T n = m + 1 := by
        have := hC.out
        rw [HX.out, List.eq_nil_of_length_eq_zero hz] at this
        obtain ⟨e, he⟩ : ∃ e, endT T n = e := ⟨_, rfl⟩
        rw [he] at this ⊢
        cases this
        rfl
      have HEE := Lib.hid he
      have e1 : ¬ (0 < (x.kids.length : Int)) := by omega
      clear he hC
      go_wp2_with (fail)
      go_ret
      refine ⟨ret_val ?_, HB.out.trans (hb.out.mono HB.out.size)⟩
      rw [HEE.out]
      simp
    · have hne : x.kids ≠ [] := fun h => hz (by rw [h]; rfl)
      have hC' := hC.out
      obtain ⟨k, q1, q2, q3, q4⟩ := chain_last hC' (by rw [HX.out]; exact hne)
      rw [HX.out] at q1
      obtain ⟨a2, rfl, hcell⟩ := ints_at HK.out (x.kids.length - 1) (by omega)
      rw [q1] at hcell
      have e1 : (0 < (x.kids.length : Int)) := by omega
      have i0 : (0 : Int) ≤ (m : Int) := by omega
      have i1 : (m : Int) < (T.length : Int) := by omega
      have i2 : (0 : Int) ≤ (x.kids.length : Int) - 1 := by omega
      have i3 : (x.kids.length : Int) - 1 < (x.kids.length : Int) := by omega
      have s1 : IntKind.i64.wrap ((x.kids.length : Int) - 1) = (x.kids.length : Int) - 1 := IntWalk.i64_in _ (by omega)
      have s2 : ((x.kids.length : Int) - 1).toNat = x.kids.length - 1 := by omega
      have S1 := Lib.hid s1
      have S2 := Lib.hid s2
      have HQ := Lib.hid q4
      clear s1 s2 q1 q4 hC hC' hne
      go_wp2_with (fail)
      have s1 := S1.out
      have s2 := S2.out
      go_quiet (fail)
      clear s1 s2
      go_wp2_with (fail)
      exact ⟨⟨k, rfl, q3, HQ, Lib.hid (hb.out.trans (below_drewN (Below.refl _ _) _))⟩, by simp [intOf]; omega⟩

/-- A part of a row of nodes. -/
theorem cut_tree (A : Option Addr) (T : List Nd) (c n e : Nat) (hn : n < T.length) (he : n ≤ e) (hel : e ≤ T.length) (hc : T.length ≤ c) :
    ∃ A' : Option Addr, (∀ W : World, (Instr.slice 57 (.slice A T.length c) (some (.int .i64 (n : Int))) (some (.int .i64 (e : Int))) none).run Tryd.prog W = .ok (.slice A' (e - n) (c - n)) W) ∧
      ∀ w : World, TreeAt w A T → TreeAt w A' ((T.drop n).take (e - n)) := by
  obtain ⟨i, hi, hsz⟩ := size_parts (P := Tryd.prog) (e := 54) (sz := 5) (by kernel_rfl)
  have hu := Tryd.underlying57
  have hel2 : Tryd.prog.elem 57 = 54 := by simp [Program.elem, hu]
  have hu2 : Tryd.prog.underlying 57 = some (.slice (Tryd.prog.elem 57)) := by rw [hel2]; exact hu
  have hne : c ≠ n := by omega
  refine ⟨A.map (·.add (n * 5)), fun W => ?_, fun w hT i x hx => ?_⟩
  · rw [run_slice_lh W 57 A T.length c hu2 .i64 .i64 (n : Int) (e : Int) (by omega) (by omega) (by omega), hel2]
    simp [sizeOf, typeInfo, hi, hsz, sliced, Result.andThen, hne]
  · have hx2 : T[n + i]? = some x := by
      rw [List.getElem?_take] at hx
      split at hx
      · rw [List.getElem?_drop] at hx; exact hx
      · cases hx
    obtain ⟨K, kc, ⟨a, rfl, h0, h1, h2, h3, h4⟩, hK⟩ := hT (n + i) x hx2
    refine ⟨K, kc, ⟨a.add (n * 5), rfl, ?_⟩, hK⟩
    rw [add_add, show n * 5 + i * 5 = (n + i) * 5 by omega]
    exact ⟨h0, h1, h2, h3, h4⟩

/-- What Sub answers. -/
def subOk (T : List Nd) (n : Int) : Bool := decide (checkL T = (-1, 0)) && withinB T.length n
def subL (T : List Nd) (n : Int) : List Nd := if subOk T n = true then subT T n.toNat else []
def subE (T : List Nd) (n : Int) : Int := if checkL T = (-1, 0) then (if withinB T.length n = true then 0 else 1) else 7
def SubEnd (w : World) (T : List Nd) (n : Int) (e : Ending) (w' : World) : Prop := ∃ v KS, e = .returned (.tuple #[.agg #[v], .int .i64 (subE T n)]) ∧ OwnT w.heap.size w' v (subL T n) KS ∧ Below w.heap.size w w'

set_option maxRecDepth 100000 in
set_option maxHeartbeats 4000000 in
theorem sub_calls (A : Option Addr) (c : Nat) (T : List Nd) (n : Int) (w : World) (hT : TreeOk T) (hc : T.length ≤ c) (hA : TreeAt w A T) (hm : MxLen w) :
    Calls Tryd.prog 52 #[treeV A T.length c, .int .i64 n] w (SubEnd w T n) := by
  have hl := hT.1
  obtain ⟨W1, hW1⟩ : ∃ W1, (w.alloc (.cells #[.slice A T.length c] 59)).alloc (.cells #[.slice none 0 0] 59) = W1 := ⟨_, rfl⟩
  have b1 : Below w.heap.size w W1 := by rw [← hW1]; exact ((Below.refl _ _).alloc (Nat.le_refl _) _).alloc (by simp) _
  have v0 : W1.heap[w.heap.size]? = some (.cells #[.slice A T.length c] 59 (0, 0)) := by rw [← hW1]; exact alloc_old (alloc_at rfl _) _
  have v1 : W1.heap[w.heap.size + 1]? = some (.cells #[.slice none 0 0] 59 (0, 0)) := by rw [← hW1]; exact alloc_at (by simp) _
  have HC := Lib.hid (check_calls A c T W1 hT (hA.below b1) (hm.below b1))
  have t0 : W1.cell? ⟨w.heap.size, 0, none⟩ = some (.slice A T.length c) := by simp [World.cell?, v0]
  have HW1 := Lib.hid hW1
  have HB1 := Lib.hid b1
  have HV0 := Lib.hid v0
  have HV1 := Lib.hid v1
  have HA := Lib.hid hA
  have HT := Lib.hid hT
  clear hW1 b1 v0 v1 hA hT hm
  go_enter Tryd.func52, Tryd.ntmps52
  go_upto_region 1 with (fail)
  rw [HW1.out]
  go_wp2_with (fail)
  refine HC.out.mono ?_
  rintro e W2 ⟨rfl, b2⟩
  have w0 : W2.heap[w.heap.size]? = _ := (b2.block _ (Array.getElem?_eq_some_iff.1 HV0.out).1).trans HV0.out
  have w1 : W2.heap[w.heap.size + 1]? = _ := (b2.block _ (Array.getElem?_eq_some_iff.1 HV1.out).1).trans HV1.out
  have HL := Lib.hid (HB1.out.trans (b2.mono HB1.out.size))
  have s1 : w.heap.size + 1 < W2.heap.size := (Array.getElem?_eq_some_iff.1 w1).1
  have t0 : W2.cell? ⟨w.heap.size, 0, none⟩ = some (.slice A T.length c) := by simp [World.cell?, w0]
  have t1 : W2.cell? ⟨w.heap.size + 1, 0, none⟩ = some (.slice none 0 0) := by simp [World.cell?, w1]
  have f1 : W2.frozen? ⟨w.heap.size + 1, 0, none⟩ = false := by simp [World.frozen?, w1]
  have HW0 := Lib.hid w0
  have HW2 := Lib.hid w1
  clear b2 HC w0 w1
  by_cases hg : checkL T = (-1, 0)
  · have e1 : ((checkL T).2 != 0) = false := by rw [hg]; rfl
    have z1 : (checkL T).1 = -1 := by rw [hg]
    have z2 : (checkL T).2 = 0 := by rw [hg]
    by_cases hw : withinB T.length n = true
    · obtain ⟨m, rfl, hm⟩ := within_nat hw
      have hgd := (good_iff T).2 hg
      have hE := hgd.endOk hm
      have hsl : subL T m = subT T m := by unfold subL subOk; rw [hg, hw]; simp
      have hse : subE T m = 0 := by unfold subE; rw [if_pos hg, if_pos hw]
      have hwi := within_calls A c T.length (m : Int) W2
      rw [hw] at hwi
      have HWI := Lib.hid hwi
      obtain ⟨A', hcut, htr⟩ := cut_tree A T c m (endT T m) hm (by omega) hE.2.2 hc
      have HTR := Lib.hid htr
      have HGD := Lib.hid hgd
      have HE := Lib.hid hE.2
      have HSL := Lib.hid (And.intro hsl hse)
      clear hg hw hwi htr hgd hE hsl hse z1 z2
      go_wp2_with (fail)
      refine HWI.out.mono ?_
      rintro e W3 ⟨rfl, b3⟩
      have x0 := (b3.block _ (Array.getElem?_eq_some_iff.1 HW0.out).1).trans HW0.out
      have x1 := (b3.block _ (Array.getElem?_eq_some_iff.1 HW2.out).1).trans HW2.out
      have hl3 := HL.out.trans (b3.mono HL.out.size)
      have t0 : W3.cell? ⟨w.heap.size, 0, none⟩ = some (.slice A T.length c) := by simp [World.cell?, x0]
      obtain ⟨en, hen⟩ : ∃ en, endT T m = en := ⟨_, rfl⟩
      have hcon : ∀ V, Below W3.heap.size W3 V → Calls Tryd.prog 86 #[treeV A T.length c, .int .i64 m] V fun e w' => e = .returned (.int .i64 (en : Int)) ∧ Below V.heap.size V w' := fun V hV => by
        have := end_calls A c T m V HT.out (HA.out.below (hl3.trans (hV.mono hl3.size))) HGD.out hm
        rwa [hen] at this
      have hE2 := HE.out
      rw [hen] at hE2
      have hlen : ((T.drop m).take (en - m)).length = en - m := by simp; omega
      have hmv : ∀ V, Below W3.heap.size W3 V → Calls Tryd.prog 77 #[.slice A' (en - m) (c - m), .int .i64 (-(m : Int))] V (MovedEnd V (subT T m)) := fun V hV => by
        have hTA := HTR.out V (HA.out.below (hl3.trans (hV.mono hl3.size)))
        rw [hen] at hTA
        have := moved_calls A' (c - m) ((T.drop m).take (en - m)) (-(m : Int)) V (by rw [hlen]; omega) (fun x hx => (HT.out.2 x (List.mem_of_mem_drop (List.mem_of_mem_take hx))).2.2) hTA
        rw [hlen] at this
        unfold subT cutT
        rw [hen]
        exact this
      rw [hen] at hcut
      have HCON := Lib.hid hcon
      have HMV := Lib.hid hmv
      have HL3 := Lib.hid hl3
      have HX0 := Lib.hid x0
      have HX1 := Lib.hid x1
      have s1 : IntKind.i64.wrap (-(m : Int)) = -(m : Int) := IntWalk.i64_in _ (by omega)
      have S1 := Lib.hid s1
      clear b3 x0 x1 hl3 hcon hlen hmv s1 hen HWI HTR HE t1 f1
      go_wp2_with (fail)
      have s1 := S1.out
      have hd0 : Below W3.heap.size W3 W3.drew := (Below.refl _ _).drew
      have HD0 := Lib.hid hd0
      clear hd0
      go_region_held3 (fun V => V.cell? ⟨w.heap.size, 0, none⟩ = some (.slice A T.length c))
        (first
          | exact HD0.out.cell_keep t0
          | exact B4.out.cell_keep t0
          | exact B5.out.cell_keep t0
          | exact (cell_set_far (by omega)).trans (B5.out.cell_keep t0))
        (first
          | (go_at_call 86; refine (HCON.out _ HD0.out).mono ?_; rintro e V4 ⟨rfl, b4⟩; have B4 := Lib.hid (HD0.out.trans (b4.mono (by simp))); clear b4)
          | (go_at_call 77; refine (HMV.out _ B4.out).mono ?_; rintro e V5 ⟨v5, KS5, rfl, h5, b5⟩; have H5 := Lib.hid h5; have B45 := Lib.hid b5; have B5 := Lib.hid (B4.out.trans (b5.mono B4.out.size)); have q1 := B5.out.cell_keep (show W3.cell? ⟨w.heap.size + 1, 0, none⟩ = some (.slice none 0 0) by simp [World.cell?, HX1.out]); have qf : V5.frozen? ⟨w.heap.size + 1, 0, none⟩ = false := (B5.out.frozen (p := ⟨w.heap.size + 1, 0, none⟩) (Array.getElem?_eq_some_iff.1 HX1.out).1).trans (by simp [World.frozen?, HX1.out]); obtain ⟨A5, c5, rfl, _⟩ := own_cells h5.1; clear h5 b5))
      have hx1 := (B5.out.block _ (Array.getElem?_eq_some_iff.1 HX1.out).1).trans HX1.out
      have y1 := heap_setCell_same V5 (w.heap.size + 1) 0 _ _ (.slice A5 (subT T m).length c5) hx1
      have r2 : (V5.setCell ⟨w.heap.size + 1, 0, none⟩ (.slice A5 (subT T m).length c5)).cell? ⟨w.heap.size + 1, 0, none⟩ = some (.slice A5 (subT T m).length c5) := by simp [World.cell?, y1]
      clear y1
      go_wp2_with (fail)
      refine bodyPost_ret (v := .tuple #[.agg #[.slice A5 (subT T m).length c5], .int .i64 0]) ?hres3 rfl ?hend3
      case hres3 => simp [results, Tryd.results52, go_sem, r2]
      case hend3 =>
        have g8 := set_grown V5 (w.heap.size + 1) 0 (.slice A5 (subT T m).length c5)
        have hO := H5.out
        have hw4 : w.heap.size ≤ V4.heap.size := by have := HL3.out.size; have := B4.out.size; omega
        refine ⟨_, KS5, by rw [HSL.out.2], ?_, ?_⟩
        · rw [HSL.out.1]
          exact OwnT.mono ⟨hO.1.kept g8 (row_apart hO.1 hx1 typesApart3), hO.2.1, fun i x p hx hp => (hO.2.2 i x p hx hp).kept g8 (row_apart (hO.2.2 i x p hx hp) hx1 typesApart2)⟩ hw4
        · exact (HL3.out.trans (B5.out.mono HL3.out.size)).setCell (by simp) _
    · have hw' : withinB T.length n = false := by simpa using hw
      have hwi := within_calls A c T.length n W2
      rw [hw'] at hwi
      have HWI := Lib.hid hwi
      have hsl : subL T n = [] := by unfold subL subOk; rw [hw']; simp
      have hse : subE T n = 1 := by unfold subE; rw [if_pos hg, if_neg hw]
      have HSL := Lib.hid (And.intro hsl hse)
      clear hg hw hw' hwi hsl hse z1 z2
      go_wp2_with (fail)
      refine HWI.out.mono ?_
      rintro e W3 ⟨rfl, b3⟩
      have x1 := (b3.block _ (Array.getElem?_eq_some_iff.1 HW2.out).1).trans HW2.out
      have HL3 := Lib.hid (HL.out.trans (b3.mono HL.out.size))
      have t1 : W3.cell? ⟨w.heap.size + 1, 0, none⟩ = some (.slice none 0 0) := by simp [World.cell?, x1]
      have f1 : W3.frozen? ⟨w.heap.size + 1, 0, none⟩ = false := by simp [World.frozen?, x1]
      have HX1 := Lib.hid x1
      clear b3 x1 t0
      go_wp2_with (fail)
      have y1 := heap_setCell_same W3 (w.heap.size + 1) 0 _ _ (.slice none 0 0) HX1.out
      have r2 : (W3.setCell ⟨w.heap.size + 1, 0, none⟩ (.slice none 0 0)).cell? ⟨w.heap.size + 1, 0, none⟩ = some (.slice none 0 0) := by simp [World.cell?, y1]
      refine bodyPost_ret (v := .tuple #[.agg #[.slice none 0 0], .int .i64 1]) ?hres1 rfl ?hend1
      case hres1 => simp [results, Tryd.results52, go_sem, r2]
      case hend1 => exact ⟨_, [], by rw [HSL.out.2], by rw [HSL.out.1]; exact OwnT.nil _ _, HL3.out.setCell (by simp) _⟩
  · have hz : (checkL T).2 = 7 := by
      rcases check_val T with h | h
      · exact absurd h hg
      · exact h
    have e1 : ((checkL T).2 != 0) = true := by rw [hz]; rfl
    have hsl : subL T n = [] := by unfold subL subOk; rw [decide_eq_false hg]; simp
    have hse : subE T n = 7 := by unfold subE; rw [if_neg hg]
    have HSL := Lib.hid (And.intro hsl hse)
    have HZ := Lib.hid hz
    clear hg hz hsl hse t0
    go_wp2_with (fail)
    have y1 := heap_setCell_same W2 (w.heap.size + 1) 0 _ _ (.slice none 0 0) HW2.out
    have r2 : (W2.setCell ⟨w.heap.size + 1, 0, none⟩ (.slice none 0 0)).cell? ⟨w.heap.size + 1, 0, none⟩ = some (.slice none 0 0) := by simp [World.cell?, y1]
    refine bodyPost_ret (v := .tuple #[.agg #[.slice none 0 0], .int .i64 (checkL T).2]) ?hres2 rfl ?hend2
    case hres2 => simp [results, Tryd.results52, go_sem, r2]
    case hend2 => exact ⟨_, [], by rw [HSL.out.2, HZ.out], by rw [HSL.out.1]; exact OwnT.nil _ _, HL.out.setCell (by simp) _⟩
end Go.Proofs.YtnepdjgbfhakmaaDoor
