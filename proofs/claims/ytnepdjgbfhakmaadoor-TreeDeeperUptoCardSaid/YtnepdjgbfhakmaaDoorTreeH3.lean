/- The laws' own words (shucklaw3): great. -/
import Derived.Test.YtnepdjgbfhakmaaDoorTreeO
import Derived.IntWalk
namespace Go.Proofs.YtnepdjgbfhakmaaDoor
set_option linter.unusedVariables false
set_option linter.unusedSimpArgs false
open Go.RowKit Go.Shelf
attribute [local go_sem] Oper.semAt_some

set_option maxRecDepth 100000 in
set_option maxHeartbeats 2000000 in
theorem great3_calls (A : Option Addr) (c : Nat) (T : List Nd) (w : World) (hl : T.length ≤ 140737488351232) (hok : ∀ x ∈ T, x.ok) (hA : TreeAt w A T) :
    Calls Tryd.prog 39 #[treeV A T.length c] w fun e w' => e = .returned (.bool (greatB 3000 T)) ∧ Below w.heap.size w w' := by
  obtain ⟨W1, hW1⟩ : ∃ W1, w.alloc (.cells #[.slice A T.length c] 59) = W1 := ⟨_, rfl⟩
  have b1 : Below w.heap.size w W1 := by rw [← hW1]; exact (Below.refl _ _).alloc (Nat.le_refl _) _
  have t1 : W1.cell? ⟨w.heap.size, 0, none⟩ = some (.slice A T.length c) := by rw [← hW1]; simp [World.cell?_alloc_new]
  have HW := Lib.hid hW1
  have HB := Lib.hid b1
  have HA := Lib.hid (hA.below b1)
  have HOK := Lib.hid hok
  have T1 := Lib.hid t1
  clear hW1 b1 hA hok t1
  go_enter Tryd.func39, Tryd.ntmps39
  go_upto_region 1 with (fail)
  rw [HW.out]
  go_wp2_with (fail)
  go_loopw [3, 4] (fun u v wr => ∃ n i : Nat, u = .int .i64 n ∧ v = .int .i64 i ∧ i ≤ T.length ∧ n ≤ 300000000000000 ∧ Hid (greatF 3000 0 T = greatF 3000 n (T.drop i)) ∧ Hid (Below W1.heap.size W1 wr)) (fun _ v _ => T.length - (intOf v).toNat)
  case atStart => exact ⟨0, 0, rfl, rfl, by omega, by omega, Lib.hid rfl, Lib.hid (Below.refl _ _)⟩
  case round =>
    obtain ⟨n, i, rfl, rfl, hi, hn, hG, hb⟩ := hrel
    obtain ⟨wo, rfl⟩ : ∃ wo : World, wo = wr := ⟨_, rfl⟩
    have t1 := hb.out.cell_keep T1.out
    by_cases hlt : i < T.length
    · by_cases hnm : n ≤ 3000
      · obtain ⟨x, K, kc, hx, hnd⟩ := (HA.out.below hb.out).get' hlt
        obtain ⟨⟨a, rfl, c0, c1, c2, c3, c4⟩, hK⟩ := hnd
        have hxo := HOK.out x (List.mem_of_getElem? hx)
        have hx1 := hxo.2.2.2.2.1
        have hx2 := hxo.2.2.2.2.2
        have hst : greatF 3000 0 T = greatF 3000 (n + 1 + x.kids.length + x.text.size) (T.drop (i + 1)) := by
          rw [hG.out, drop_cons hx, greatF, if_pos hnm]
        have HST := Lib.hid hst
        have e1 : ((i : Int) < (T.length : Int)) := by omega
        have e2 : ((n : Int) ≤ 3000) := by omega
        have i0 : (0 : Int) ≤ (i : Int) := by omega
        have s1 : IntKind.i64.wrap ((n : Int) + 1) = (n : Int) + 1 := IntWalk.i64_in _ (by omega)
        have s2 : IntKind.i64.wrap ((n : Int) + 1 + (x.kids.length : Int)) = (n : Int) + 1 + (x.kids.length : Int) := IntWalk.i64_in _ (by omega)
        have s3 : IntKind.i64.wrap ((n : Int) + 1 + (x.kids.length : Int) + (x.text.size : Int)) = (n : Int) + 1 + (x.kids.length : Int) + (x.text.size : Int) := IntWalk.i64_in _ (by omega)
        have S1 := Lib.hid s1
        have S2 := Lib.hid s2
        have S3 := Lib.hid s3
        clear s1 s2 s3 hx hxo hst hK c0 c2 c4
        go_wp2_with (fail)
        have s1 := S1.out
        have s2 := S2.out
        have s3 := S3.out
        go_quiet (fail)
        clear s1 s2 s3
        go_wp2_with (fail)
        exact ⟨⟨n + 1 + x.kids.length + x.text.size, i + 1, by simp, by simp, by omega, by omega, HST, Lib.hid (hb.out.trans (below_drewN (Below.refl _ _) _))⟩, by simp [intOf]; omega⟩
      · have e2 : ¬ ((n : Int) ≤ 3000) := by omega
        have hgr : greatB 3000 T = true := by
          unfold greatB
          rw [hG.out, greatF_over _ _ _ (by omega)]
          simp; omega
        have HGR := Lib.hid hgr
        clear hgr hG
        go_wp2_with (fail)
        go_ret
        exact ⟨ret_val (by rw [HGR.out]; rfl), HB.out.trans (hb.out.mono HB.out.size)⟩
    · have hil : i = T.length := by omega
      have hgr : greatB 3000 T = decide (3000 < n) := by
        unfold greatB
        rw [hG.out, hil, List.drop_of_length_le (Nat.le_refl _), greatF]
      have HGR := Lib.hid hgr
      clear hgr hG hil
      go_wp2_with (fail)
      go_ret
      refine ⟨ret_val ?_, HB.out.trans (hb.out.mono HB.out.size)⟩
      rw [HGR.out]
      show Value.bool (decide ((3000 : Int) < (n : Int))) = _
      congr 1
      rw [decide_eq_decide]
      omega
end Go.Proofs.YtnepdjgbfhakmaaDoor
