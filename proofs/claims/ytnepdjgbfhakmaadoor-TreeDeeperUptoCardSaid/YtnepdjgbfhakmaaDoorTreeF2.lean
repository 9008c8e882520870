/- Trees: fits. Trees: fits. -/
import Derived.Test.YtnepdjgbfhakmaaDoorTreeF1
namespace Go.Proofs.YtnepdjgbfhakmaaDoor
set_option linter.unusedVariables false
set_option linter.unusedSimpArgs false
open Go.RowKit Go.Shelf
attribute [local go_sem] Oper.semAt_some


set_option maxRecDepth 100000 in
set_option maxHeartbeats 4000000 in
theorem fits_template (A : Option Addr) (c : Nat) (T : List Nd) (i : Nat) (w : World) (hT : TreeOk T) (hA : TreeAt w A T) (hi : i < T.length) (hm : MxLen w) (hkind : (T.getD i default).kind = 12) :
    Calls Tryd.prog 79 #[treeV A T.length c, .int .i64 i] w fun e w' => e = .returned (.bool (fitsT T i)) ∧ Below w.heap.size w w' := by

  obtain ⟨x, hx, hxe⟩ := nd_at hi
  have hl := hT.1
  have hxm := hT.2 x (List.mem_of_getElem? hx)
  have hkl : x.kids.length ≤ 2000000 := hxm.2.2
  have b0 : Below w.heap.size w (w.alloc (.cells #[.slice A T.length c] 59)) := (Below.refl _ _).alloc (Nat.le_refl _) _
  have t0 : (w.alloc (.cells #[.slice A T.length c] 59)).cell? ⟨w.heap.size, 0, none⟩ = some (.slice A T.length c) := by simp [World.cell?_alloc_new]
  obtain ⟨K, kc, ⟨a, rfl, c0, c1, c2, c3, c4⟩, hK⟩ := (hA.below b0) i x hx
  obtain ⟨w0, hw0⟩ : ∃ w0, w.alloc (.cells #[.slice (some a) T.length c] 59) = w0 := ⟨_, rfl⟩
  rw [hw0] at b0 t0 c0 c1 c2 c3 c4 hK
  have b1 : Below w0.heap.size w0 (w0.alloc (.cells #[.int .i64 x.kind, .string x.text, .int .i64 x.num, .slice K x.kids.length kc, .int .i64 x.pos] 54)) := (Below.refl _ _).alloc (Nat.le_refl _) _
  have d0 : (w0.alloc (.cells #[.int .i64 x.kind, .string x.text, .int .i64 x.num, .slice K x.kids.length kc, .int .i64 x.pos] 54)).cell? ⟨w0.heap.size, 0, none⟩ = some (.int .i64 x.kind) := by simp [World.cell?_alloc_new]
  have d1 : (w0.alloc (.cells #[.int .i64 x.kind, .string x.text, .int .i64 x.num, .slice K x.kids.length kc, .int .i64 x.pos] 54)).cell? ⟨w0.heap.size, 1, none⟩ = some (.string x.text) := by simp [World.cell?_alloc_new]
  have d2 : (w0.alloc (.cells #[.int .i64 x.kind, .string x.text, .int .i64 x.num, .slice K x.kids.length kc, .int .i64 x.pos] 54)).cell? ⟨w0.heap.size, 2, none⟩ = some (.int .i64 x.num) := by simp [World.cell?_alloc_new]
  have d3 : (w0.alloc (.cells #[.int .i64 x.kind, .string x.text, .int .i64 x.num, .slice K x.kids.length kc, .int .i64 x.pos] 54)).cell? ⟨w0.heap.size, 3, none⟩ = some (.slice K x.kids.length kc) := by simp [World.cell?_alloc_new]
  have d4 : (w0.alloc (.cells #[.int .i64 x.kind, .string x.text, .int .i64 x.num, .slice K x.kids.length kc, .int .i64 x.pos] 54)).cell? ⟨w0.heap.size, 4, none⟩ = some (.int .i64 x.pos) := by simp [World.cell?_alloc_new]
  have t1 := b1.cell_keep t0
  have hK1 := hK.below b1
  obtain ⟨w1, hw1⟩ : ∃ w1, w0.alloc (.cells #[.int .i64 x.kind, .string x.text, .int .i64 x.num, .slice K x.kids.length kc, .int .i64 x.pos] 54) = w1 := ⟨_, rfl⟩
  rw [hw1] at b1 d0 d1 d2 d3 d4 t1 hK1
  have b01 := b0.trans (b1.mono b0.size)
  obtain ⟨sd, hsd⟩ : ∃ sd, saidB x.kind x.text.data.toList x.num = sd := ⟨_, rfl⟩
  have hs := said_calls x.kind x.text x.num K x.kids.length kc x.pos w1 hxm.2.1 hxm.1.2.1 (hm.below b01)
  rw [hsd] at hs
  have HS := Lib.hid hs
  have HM := Lib.hid (hm.below b01)
  have hf : fitsT T i = fitsNd T x := by unfold fitsT; rw [← hxe]
  rw [← hxe] at hkind
  unfold fitsNd at hf
  rw [hsd] at hf
  have HF := Lib.hid hf
  have HKD := Lib.hid hkind
  have HB := Lib.hid b01
  have HA := Lib.hid (hA.below b01)
  have HT := Lib.hid hT
  have HK := Lib.hid hK1
  have D0 := Lib.hid d0
  have D3 := Lib.hid d3
  have T1 := Lib.hid t1
  have HW0 := Lib.hid hw0
  have HW1 := Lib.hid hw1
  have HX := Lib.hid hx
  clear hx hxe hT hA hm hxm hw0 hw1 hs hf hsd b0 b1 b01 hK hK1 hkind
  go_enter Tryd.func79, Tryd.ntmps79
  go_upto_region 1 with (fail)
  rw [HW0.out]
  go_upto_region 2 with (fail)
  rw [HW1.out]
  go_wp2_with (fail)
  refine HS.out.mono ?_
  rintro e w2 ⟨rfl, b2⟩
  have HB2 := Lib.hid b2
  clear HS d0 d1 d2 d3 d4 c0 c1 c2 c3 c4 t0 t1
  cases sd with
  | false =>
    clear b2
    go_wp2_with (fail)
    go_ret
    exact ⟨ret_val (by rw [HF.out]; rfl), HB.out.trans (HB2.out.mono HB.out.size)⟩
  | true =>
    have d3 := b2.cell_keep D3.out
    clear b2
    go_wp2_with (fail)
    go_loopw [28] (fun v wr => ∃ k : Nat, v = .int .i64 k ∧ k ≤ x.kids.length ∧ Hid (∀ j, j < k → kidInB T x j = true) ∧ Hid (Below w1.heap.size w1 wr)) (fun v _ => x.kids.length - (intOf v).toNat)
    case atStart => exact ⟨0, rfl, by omega, Lib.hid (fun j hj => absurd hj (by omega)), HB2⟩
    case round =>
      obtain ⟨k, rfl, hk, hn, hb⟩ := hrel
      by_cases hlt2 : k < x.kids.length
      · obtain ⟨a2, rfl, hcell⟩ := ints_at (HK.out.below hb.out) k hlt2
        have t1 := hb.out.cell_keep T1.out
        obtain ⟨z, hz⟩ : ∃ z, x.kids.getD k 0 = z := ⟨_, rfl⟩
        have hkb : kidInB T x k = withinB T.length z := by unfold kidInB; rw [hz]
        rw [hz] at hcell
        obtain ⟨b, hbe⟩ : ∃ b, withinB T.length z = b := ⟨_, rfl⟩
        have hwi := within_calls (some a) c T.length z wr
        rw [hbe] at hwi hkb
        have HN := Lib.hid hwi
        have HKB := Lib.hid hkb
        clear hz hkb hbe hwi
        cases b with
        | false =>
          go_wp2_with (fail)
          refine HN.out.mono ?_
          rintro e w3 ⟨rfl, b3⟩
          have hb3 := hb.out.trans (b3.mono hb.out.size)
          clear b3
          go_wp2_with (fail)
          go_ret
          refine ⟨ret_val ?_, HB.out.trans (hb3.mono HB.out.size)⟩
          rw [HF.out, range_no hlt2 HKB.out]
          rfl
        | true =>
          go_wp2_with (fail)
          refine HN.out.mono ?_
          rintro e w3 ⟨rfl, b3⟩
          have hb3 := Lib.hid (hb.out.trans (b3.mono hb.out.size))
          clear b3
          go_wp2_with (fail)
          exact ⟨⟨k + 1, by simp, by omega, Lib.hid (upto_succ hn.out HKB.out), hb3⟩, by simp [intOf]; omega⟩
      · have hkl2 : k = x.kids.length := by omega
        have hall := hn.out
        rw [hkl2] at hall
        have hf := HF.out
        rw [range_all hall, Bool.true_and, Bool.true_and] at hf
        have HIN := Lib.hid hall
        have HF2 := Lib.hid hf
        have d0 := hb.out.cell_keep D0.out
        have d3 := hb.out.cell_keep D3.out
        have t1 := hb.out.cell_keep T1.out
        have HKr := Lib.hid (HK.out.below hb.out)
        have HAr := Lib.hid (HA.out.below hb.out)
        clear hkl2 hall hf HF hn
        obtain ⟨wz, hwz⟩ : ∃ wz, wz = wr := ⟨_, rfl⟩
        subst hwz

        have hkd := HKD.out
        have hf2 := HF2.out
        rw [if_pos hkd] at hf2
        rw [hkd] at d0
        have HF3 := Lib.hid hf2
        clear hkd hf2 HF2
        go_wp2_with (fail)
        go_loopw [45] (fun v wr => ∃ j : Nat, v = .int .i64 j ∧ j ≤ x.kids.length ∧ Hid (∀ q, q < j → tmplB T x q = true) ∧ Hid (Below wz.heap.size wz wr)) (fun v _ => x.kids.length - (intOf v).toNat)
        case atStart => exact ⟨0, rfl, by omega, Lib.hid (fun j hj => absurd hj (by omega)), Lib.hid (Below.refl _ _)⟩
        case round =>
          obtain ⟨j, rfl, hj, hn, hb2⟩ := hrel
          by_cases hlt3 : j < x.kids.length
          · obtain ⟨a2, rfl, hcell⟩ := ints_at (HKr.out.below hb2.out) j hlt3
            have t2 := hb2.out.cell_keep t1
            obtain ⟨m, hz, hm⟩ := within_nat (HIN.out j hlt3)
            have hkn : kidN x j = m := by unfold kidN; rw [hz, Int.toNat_natCast]
            rw [hz] at hcell
            obtain ⟨y, hy, hye⟩ := nd_at hm
            have hyk : ndK T m = y.kind := by unfold ndK; rw [← hye]
            have hAs := HAr.out.below hb2.out
            obtain ⟨_, _, ⟨_, ha, n0, _, _, _, _⟩, _⟩ := hAs m y hy
            cases ha
            have hE := isExpr_calls (some a) c T m y wr (by omega) hy hAs
            have htm : tmplB T x j = if j % 2 = 0 then y.kind == 11 else isExprB y.kind := by unfold tmplB; rw [hkn, hyk]
            have HTM := Lib.hid htm
            have HEX := Lib.hid hE
            have hBs := Lib.hid (hb.out.trans (hb2.out.mono hb.out.size))
            clear hz hkn hy hye hyk hAs htm hE
            by_cases hpar : j % 2 = 0
            · have e1 : ((j : Int) % 2 == 0) = true := by simp; omega
              have e2 : ((j : Int) % 2 == 1) = false := by simp; omega
              have htm := HTM.out
              rw [if_pos hpar] at htm
              have HTM2 := Lib.hid htm
              clear hpar htm HTM HEX
              by_cases h11 : y.kind = 11
              · have e3 : (y.kind != 11) = false := by simp [h11]
                have HTM3 := Lib.hid (HTM2.out.trans (beq_iff_eq.2 h11))
                clear h11
                go_wp2_with (fail)
                exact ⟨⟨j + 1, by simp, by omega, Lib.hid (upto_succ hn.out HTM3.out), hb2⟩, by simp [intOf]; omega⟩
              · have e3 : (y.kind != 11) = true := by simpa using h11
                have HTM3 := Lib.hid (HTM2.out.trans (beq_eq_false_iff_ne.2 h11))
                clear h11
                go_wp2_with (fail)
                go_ret
                refine ⟨ret_val ?_, HB.out.trans (hBs.out.mono HB.out.size)⟩
                rw [HF3.out, range_no hlt3 HTM3.out]
                rfl
            · have e1 : ((j : Int) % 2 == 0) = false := by simp; omega
              have e2 : ((j : Int) % 2 == 1) = true := by simp; omega
              have htm := HTM.out
              rw [if_neg hpar] at htm
              obtain ⟨b, hbe⟩ : ∃ b, isExprB y.kind = b := ⟨_, rfl⟩
              rw [hbe] at htm HEX
              have HTM2 := Lib.hid htm
              clear hpar htm HTM hbe
              go_wp2_with (fail)
              refine HEX.out.mono ?_
              rintro e w3 ⟨rfl, b3⟩
              have hb3 := Lib.hid (hb2.out.trans (b3.mono hb2.out.size))
              clear b3 HEX
              cases b with
              | true =>
                go_wp2_with (fail)
                exact ⟨⟨j + 1, by simp, by omega, Lib.hid (upto_succ hn.out HTM2.out), hb3⟩, by simp [intOf]; omega⟩
              | false =>
                go_wp2_with (fail)
                go_ret
                refine ⟨ret_val ?_, HB.out.trans ((hb.out.trans (hb3.out.mono hb.out.size)).mono HB.out.size)⟩
                rw [HF3.out, range_no hlt3 HTM2.out]
                rfl
          · have hjl : j = x.kids.length := by omega
            have hall := hn.out
            rw [hjl] at hall
            have hf3 := HF3.out
            rw [range_all hall, Bool.true_and] at hf3
            have HF4 := Lib.hid hf3
            have g3 := hb2.out.cell_keep d3
            clear hjl hall hf3
            go_wp2_with (fail)
            go_ret
            refine ⟨ret_val (congrArg Value.bool ?_), HB.out.trans ((hb.out.trans (hb2.out.mono hb.out.size)).mono HB.out.size)⟩
            rw [HF4.out, Bool.eq_iff_iff]
            simp
            omega
end Go.Proofs.YtnepdjgbfhakmaaDoor

namespace Go.Proofs.YtnepdjgbfhakmaaDoor
set_option linter.unusedVariables false
set_option linter.unusedSimpArgs false
open Go.RowKit Go.Shelf
attribute [local go_sem] Oper.semAt_some


set_option maxRecDepth 100000 in
theorem notType_calls (A : Option Addr) (c : Nat) (T : List Nd) (B : Nat) (m : Nat) (w : World) (hT : TreeOk T) (hA : TreeAt w A T) (hm : m < T.length) (hB : w.cell? ⟨B, 0, none⟩ = some (.slice A T.length c)) :
    Calls Tryd.prog 106 #[.int .i64 m, .pointer (some ⟨B, 0, none⟩)] w fun e w' => e = .returned (.bool (!isTypeB (ndK T m))) ∧ Below w.heap.size w w' := by
  obtain ⟨y, hy, hye⟩ := nd_at hm
  have hE := isType_calls A c T m y w (by have := hT.1; omega) hy hA
  have hyk : ndK T m = y.kind := by unfold ndK; rw [← hye]
  rw [hyk]
  have HE := Lib.hid hE
  clear hE hyk hye hy hA hT
  go_enter Tryd.func106, Tryd.ntmps106
  go_wp2_with (fail)
  refine HE.out.mono ?_
  rintro e w2 ⟨rfl, b2⟩
  have B2 := Lib.hid b2
  clear b2 HE
  go_wp2_with (fail)
  go_ret
  exact ⟨rfl, B2.out⟩

set_option maxRecDepth 100000 in
theorem indexT_calls (A : Option Addr) (c : Nat) (T : List Nd) (B : Nat) (x : Nd) (K : Option Addr) (kc : Nat) (w : World) (hkl : x.kids.length ≤ 2000000) (hT : TreeOk T) (hA : TreeAt w A T) (hK : Ints w K kc x.kids) (hB : w.cell? ⟨B, 0, none⟩ = some (.slice A T.length c)) (hin : ∀ j, j < x.kids.length → kidInB T x j = true) :
    Calls Tryd.prog 138 #[.slice K x.kids.length kc, .func (.func 106) #[] #[.pointer (some ⟨B, 0, none⟩)]] w fun e w' => ∃ r : Int, e = .returned (.int .i64 r) ∧ decide (0 ≤ r) = !(List.range x.kids.length).all (typeKidB T x) ∧ Below w.heap.size w w' := by
  have HT := Lib.hid hT
  have HA := Lib.hid hA
  have HK := Lib.hid hK
  have HB := Lib.hid hB
  have HIN := Lib.hid hin
  clear hT hA hK hB hin
  go_enter Tryd.func138, Tryd.ntmps138
  go_wp2_with (fail)
  go_loopw [8] (fun v wr => ∃ j : Nat, v = .int .i64 j ∧ j ≤ x.kids.length ∧ Hid (∀ q, q < j → typeKidB T x q = true) ∧ Hid (Below w.heap.size w wr)) (fun v _ => x.kids.length - (intOf v).toNat)
  case atStart => exact ⟨0, rfl, by omega, Lib.hid (fun j hj => absurd hj (by omega)), Lib.hid (Below.refl _ _)⟩
  case round =>
    obtain ⟨j, rfl, hj, hn, hb⟩ := hrel
    by_cases hlt3 : j < x.kids.length
    · obtain ⟨a2, rfl, hcell⟩ := ints_at (HK.out.below hb.out) j hlt3
      obtain ⟨m, hz, hm⟩ := within_nat (HIN.out j hlt3)
      have hkn : typeKidB T x j = isTypeB (ndK T m) := by unfold typeKidB kidN; rw [hz, Int.toNat_natCast]
      rw [hz] at hcell
      have hE := notType_calls A c T B m wr HT.out (HA.out.below hb.out) hm (hb.out.cell_keep HB.out)
      obtain ⟨b, hbe⟩ : ∃ b, isTypeB (ndK T m) = b := ⟨_, rfl⟩
      rw [hbe] at hE hkn
      have HE := Lib.hid hE
      have HKN := Lib.hid hkn
      clear hz hkn hE hbe
      go_wp2_with (fail)
      refine HE.out.mono ?_
      rintro e w3 ⟨rfl, b3⟩
      have hb3 := Lib.hid (hb.out.trans (b3.mono hb.out.size))
      clear b3 HE
      cases b with
      | true =>
        go_wp2_with (fail)
        exact ⟨⟨j + 1, by simp, by omega, Lib.hid (upto_succ hn.out HKN.out), hb3⟩, by simp [intOf]; omega⟩
      | false =>
        go_wp2_with (fail)
        go_ret
        refine ⟨_, rfl, ?_, hb3.out⟩
        rw [range_no hlt3 HKN.out]
        simp
    · have hjl : j = x.kids.length := by omega
      have hall := hn.out
      rw [hjl] at hall
      have HAL := Lib.hid (range_all hall)
      clear hjl hall
      go_wp2_with (fail)
      go_ret
      refine ⟨_, rfl, ?_, hb.out⟩
      rw [HAL.out]
      decide

set_option maxRecDepth 100000 in
theorem containsT_calls (A : Option Addr) (c : Nat) (T : List Nd) (B : Nat) (x : Nd) (K : Option Addr) (kc : Nat) (w : World) (hkl : x.kids.length ≤ 2000000) (hT : TreeOk T) (hA : TreeAt w A T) (hK : Ints w K kc x.kids) (hB : w.cell? ⟨B, 0, none⟩ = some (.slice A T.length c)) (hin : ∀ j, j < x.kids.length → kidInB T x j = true) :
    Calls Tryd.prog 105 #[.slice K x.kids.length kc, .func (.func 106) #[] #[.pointer (some ⟨B, 0, none⟩)]] w fun e w' => e = .returned (.bool (!(List.range x.kids.length).all (typeKidB T x))) ∧ Below w.heap.size w w' := by
  have HI := Lib.hid (indexT_calls A c T B x K kc w hkl hT hA hK hB hin)
  clear hT hA hK hB hin
  go_enter Tryd.func105, Tryd.ntmps105
  go_wp2_with (fail)
  refine HI.out.mono ?_
  rintro e w2 ⟨r, rfl, hr, b2⟩
  have B2 := Lib.hid b2
  have HR := Lib.hid hr
  clear b2 HI hr
  go_wp2_with (fail)
  go_ret
  exact ⟨ret_val (congrArg Value.bool HR.out), B2.out⟩


set_option maxRecDepth 100000 in
set_option maxHeartbeats 4000000 in
theorem fits_union (A : Option Addr) (c : Nat) (T : List Nd) (i : Nat) (w : World) (hT : TreeOk T) (hA : TreeAt w A T) (hi : i < T.length) (hm : MxLen w) (hkind : (T.getD i default).kind = 87) :
    Calls Tryd.prog 79 #[treeV A T.length c, .int .i64 i] w fun e w' => e = .returned (.bool (fitsT T i)) ∧ Below w.heap.size w w' := by

  obtain ⟨x, hx, hxe⟩ := nd_at hi
  have hl := hT.1
  have hxm := hT.2 x (List.mem_of_getElem? hx)
  have hkl : x.kids.length ≤ 2000000 := hxm.2.2
  have b0 : Below w.heap.size w (w.alloc (.cells #[.slice A T.length c] 59)) := (Below.refl _ _).alloc (Nat.le_refl _) _
  have t0 : (w.alloc (.cells #[.slice A T.length c] 59)).cell? ⟨w.heap.size, 0, none⟩ = some (.slice A T.length c) := by simp [World.cell?_alloc_new]
  obtain ⟨K, kc, ⟨a, rfl, c0, c1, c2, c3, c4⟩, hK⟩ := (hA.below b0) i x hx
  obtain ⟨w0, hw0⟩ : ∃ w0, w.alloc (.cells #[.slice (some a) T.length c] 59) = w0 := ⟨_, rfl⟩
  rw [hw0] at b0 t0 c0 c1 c2 c3 c4 hK
  have b1 : Below w0.heap.size w0 (w0.alloc (.cells #[.int .i64 x.kind, .string x.text, .int .i64 x.num, .slice K x.kids.length kc, .int .i64 x.pos] 54)) := (Below.refl _ _).alloc (Nat.le_refl _) _
  have d0 : (w0.alloc (.cells #[.int .i64 x.kind, .string x.text, .int .i64 x.num, .slice K x.kids.length kc, .int .i64 x.pos] 54)).cell? ⟨w0.heap.size, 0, none⟩ = some (.int .i64 x.kind) := by simp [World.cell?_alloc_new]
  have d1 : (w0.alloc (.cells #[.int .i64 x.kind, .string x.text, .int .i64 x.num, .slice K x.kids.length kc, .int .i64 x.pos] 54)).cell? ⟨w0.heap.size, 1, none⟩ = some (.string x.text) := by simp [World.cell?_alloc_new]
  have d2 : (w0.alloc (.cells #[.int .i64 x.kind, .string x.text, .int .i64 x.num, .slice K x.kids.length kc, .int .i64 x.pos] 54)).cell? ⟨w0.heap.size, 2, none⟩ = some (.int .i64 x.num) := by simp [World.cell?_alloc_new]
  have d3 : (w0.alloc (.cells #[.int .i64 x.kind, .string x.text, .int .i64 x.num, .slice K x.kids.length kc, .int .i64 x.pos] 54)).cell? ⟨w0.heap.size, 3, none⟩ = some (.slice K x.kids.length kc) := by simp [World.cell?_alloc_new]
  have d4 : (w0.alloc (.cells #[.int .i64 x.kind, .string x.text, .int .i64 x.num, .slice K x.kids.length kc, .int .i64 x.pos] 54)).cell? ⟨w0.heap.size, 4, none⟩ = some (.int .i64 x.pos) := by simp [World.cell?_alloc_new]
  have t1 := b1.cell_keep t0
  have hK1 := hK.below b1
  obtain ⟨w1, hw1⟩ : ∃ w1, w0.alloc (.cells #[.int .i64 x.kind, .string x.text, .int .i64 x.num, .slice K x.kids.length kc, .int .i64 x.pos] 54) = w1 := ⟨_, rfl⟩
  rw [hw1] at b1 d0 d1 d2 d3 d4 t1 hK1
  have b01 := b0.trans (b1.mono b0.size)
  obtain ⟨sd, hsd⟩ : ∃ sd, saidB x.kind x.text.data.toList x.num = sd := ⟨_, rfl⟩
  have hs := said_calls x.kind x.text x.num K x.kids.length kc x.pos w1 hxm.2.1 hxm.1.2.1 (hm.below b01)
  rw [hsd] at hs
  have HS := Lib.hid hs
  have HM := Lib.hid (hm.below b01)
  have hf : fitsT T i = fitsNd T x := by unfold fitsT; rw [← hxe]
  rw [← hxe] at hkind
  unfold fitsNd at hf
  rw [hsd] at hf
  have HF := Lib.hid hf
  have HKD := Lib.hid hkind
  have HB := Lib.hid b01
  have HA := Lib.hid (hA.below b01)
  have HT := Lib.hid hT
  have HK := Lib.hid hK1
  have D0 := Lib.hid d0
  have D3 := Lib.hid d3
  have T1 := Lib.hid t1
  have HW0 := Lib.hid hw0
  have HW1 := Lib.hid hw1
  have HX := Lib.hid hx
  clear hx hxe hT hA hm hxm hw0 hw1 hs hf hsd b0 b1 b01 hK hK1 hkind
  go_enter Tryd.func79, Tryd.ntmps79
  go_upto_region 1 with (fail)
  rw [HW0.out]
  go_upto_region 2 with (fail)
  rw [HW1.out]
  go_wp2_with (fail)
  refine HS.out.mono ?_
  rintro e w2 ⟨rfl, b2⟩
  have HB2 := Lib.hid b2
  clear HS d0 d1 d2 d3 d4 c0 c1 c2 c3 c4 t0 t1
  cases sd with
  | false =>
    clear b2
    go_wp2_with (fail)
    go_ret
    exact ⟨ret_val (by rw [HF.out]; rfl), HB.out.trans (HB2.out.mono HB.out.size)⟩
  | true =>
    have d3 := b2.cell_keep D3.out
    clear b2
    go_wp2_with (fail)
    go_loopw [28] (fun v wr => ∃ k : Nat, v = .int .i64 k ∧ k ≤ x.kids.length ∧ Hid (∀ j, j < k → kidInB T x j = true) ∧ Hid (Below w1.heap.size w1 wr)) (fun v _ => x.kids.length - (intOf v).toNat)
    case atStart => exact ⟨0, rfl, by omega, Lib.hid (fun j hj => absurd hj (by omega)), HB2⟩
    case round =>
      obtain ⟨k, rfl, hk, hn, hb⟩ := hrel
      by_cases hlt2 : k < x.kids.length
      · obtain ⟨a2, rfl, hcell⟩ := ints_at (HK.out.below hb.out) k hlt2
        have t1 := hb.out.cell_keep T1.out
        obtain ⟨z, hz⟩ : ∃ z, x.kids.getD k 0 = z := ⟨_, rfl⟩
        have hkb : kidInB T x k = withinB T.length z := by unfold kidInB; rw [hz]
        rw [hz] at hcell
        obtain ⟨b, hbe⟩ : ∃ b, withinB T.length z = b := ⟨_, rfl⟩
        have hwi := within_calls (some a) c T.length z wr
        rw [hbe] at hwi hkb
        have HN := Lib.hid hwi
        have HKB := Lib.hid hkb
        clear hz hkb hbe hwi
        cases b with
        | false =>
          go_wp2_with (fail)
          refine HN.out.mono ?_
          rintro e w3 ⟨rfl, b3⟩
          have hb3 := hb.out.trans (b3.mono hb.out.size)
          clear b3
          go_wp2_with (fail)
          go_ret
          refine ⟨ret_val ?_, HB.out.trans (hb3.mono HB.out.size)⟩
          rw [HF.out, range_no hlt2 HKB.out]
          rfl
        | true =>
          go_wp2_with (fail)
          refine HN.out.mono ?_
          rintro e w3 ⟨rfl, b3⟩
          have hb3 := Lib.hid (hb.out.trans (b3.mono hb.out.size))
          clear b3
          go_wp2_with (fail)
          exact ⟨⟨k + 1, by simp, by omega, Lib.hid (upto_succ hn.out HKB.out), hb3⟩, by simp [intOf]; omega⟩
      · have hkl2 : k = x.kids.length := by omega
        have hall := hn.out
        rw [hkl2] at hall
        have hf := HF.out
        rw [range_all hall, Bool.true_and, Bool.true_and] at hf
        have HIN := Lib.hid hall
        have HF2 := Lib.hid hf
        have d0 := hb.out.cell_keep D0.out
        have d3 := hb.out.cell_keep D3.out
        have t1 := hb.out.cell_keep T1.out
        have HKr := Lib.hid (HK.out.below hb.out)
        have HAr := Lib.hid (HA.out.below hb.out)
        clear hkl2 hall hf HF hn
        obtain ⟨wz, hwz⟩ : ∃ wz, wz = wr := ⟨_, rfl⟩
        subst hwz

        have hkd := HKD.out
        have hf2 := HF2.out
        rw [if_neg (by omega), if_pos hkd] at hf2
        rw [hkd] at d0
        have HF3 := Lib.hid hf2
        have HC := Lib.hid (containsT_calls (some a) c T w.heap.size x K kc wz hkl HT.out HAr.out HKr.out t1 HIN.out)
        clear hkd hf2 HF2
        by_cases h1 : 1 < x.kids.length
        · obtain ⟨b, hbe⟩ : ∃ b, (List.range x.kids.length).all (typeKidB T x) = b := ⟨_, rfl⟩
          have hf3 := HF3.out
          rw [hbe, decide_eq_true h1] at hf3
          rw [hbe] at HC
          have HF4 := Lib.hid hf3
          have h1' : (1 : Int) < (x.kids.length : Int) := by omega
          clear hf3 hbe HF3
          go_wp2_with (fail)
          refine HC.out.mono ?_
          rintro e w3 ⟨rfl, b3⟩
          have hb3 := Lib.hid (hb.out.trans (b3.mono hb.out.size))
          clear b3 HC
          go_wp2_with (fail)
          go_ret
          exact ⟨ret_val (congrArg Value.bool (by rw [HF4.out]; simp)), HB.out.trans (hb3.out.mono HB.out.size)⟩
        · have hf3 := HF3.out
          rw [decide_eq_false h1, Bool.false_and] at hf3
          have HF4 := Lib.hid hf3
          have h1' : decide ((1 : Int) < (x.kids.length : Int)) = false := by simp; omega
          clear hf3 HF3
          go_wp2_with (fail)
          go_ret
          exact ⟨ret_val (congrArg Value.bool (by rw [HF4.out])), HB.out.trans (hb.out.mono HB.out.size)⟩
end Go.Proofs.YtnepdjgbfhakmaaDoor
