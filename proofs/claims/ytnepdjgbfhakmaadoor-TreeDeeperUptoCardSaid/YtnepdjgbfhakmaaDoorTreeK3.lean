/- What is known of trees (shucklaw3.known). -/
import Derived.Test.YtnepdjgbfhakmaaDoorTreeG
import Derived.Test.YtnepdjgbfhakmaaDoorTreeW
namespace Go.Proofs.YtnepdjgbfhakmaaDoor
set_option linter.unusedVariables false
set_option linter.unusedSimpArgs false
open Go.RowKit Go.Shelf
attribute [local go_sem] Oper.semAt_some

def knRoot : Nd := ⟨34, ByteArray.empty, 0, [], 0⟩
def knName : Nd := ⟨17, ⟨#[120]⟩, 0, [], 0⟩
def knTree : List Nd := [{ knRoot with kids := [1] }, knName]
theorem kn_make : makeL knRoot [[knName]] = knTree := by rfl
theorem kn_check : checkL knTree = (-1, 0) := by decide +kernel
theorem kn_depth : depthT knTree = 1 := by decide +kernel
theorem kn_ok : TreeOk knTree := by
  refine ⟨by decide, fun x hx => ?_⟩
  simp only [knTree, List.mem_cons, List.not_mem_nil, or_false] at hx
  rcases hx with rfl | rfl
  · exact ⟨⟨by decide, by decide, by decide, by decide, by decide, by decide⟩, by decide, by decide⟩
  · exact ⟨⟨by decide, by decide, by decide, by decide, by decide, by decide⟩, by decide, by decide⟩
theorem kn_small : Small [[knName]] := ⟨by decide, by decide, fun K hK x hx => by
  rw [List.mem_singleton.1 hK] at hx
  rw [List.mem_singleton.1 hx]
  decide⟩

set_option maxRecDepth 100000 in
set_option maxHeartbeats 2000000 in
theorem known3_calls (w : World) (hm : MxLen w) : Calls Tryd.prog 46 #[] w fun e w' => e = .returned (.bool true) ∧ Below w.heap.size w w' := by
  obtain ⟨W1, hW1⟩ : ∃ W1, (w.alloc (.cells #[.int .i64 17, .string ⟨#[120]⟩, .int .i64 0, .slice none 0 0, .int .i64 0] 54)).alloc (.cells #[.slice (some ⟨w.heap.size, 0, none⟩) 1 1] 59) = W1 := ⟨_, rfl⟩
  have b1 : Below w.heap.size w W1 := by rw [← hW1]; exact ((Below.refl _ _).alloc (Nat.le_refl _) _).alloc (by simp) _
  have v0 : W1.heap[w.heap.size]? = some (.cells #[.int .i64 17, .string ⟨#[120]⟩, .int .i64 0, .slice none 0 0, .int .i64 0] 54 (0, 0)) := by rw [← hW1]; exact alloc_old (alloc_at rfl _) _
  have v1 : W1.heap[w.heap.size + 1]? = some (.cells #[.slice (some ⟨w.heap.size, 0, none⟩) 1 1] 59 (0, 0)) := by rw [← hW1]; exact alloc_at (by simp) _
  have hfor : Forest W1 (some ⟨w.heap.size + 1, 0, none⟩) [[knName]] := fun i K hK => by
    cases i with
    | succ i => simp at hK
    | zero =>
      simp at hK; subst hK
      refine ⟨_, some ⟨w.heap.size, 0, none⟩, 1, rfl, by rw [add0]; simp [World.cell?, v1], fun j x hx => ?_⟩
      cases j with
      | succ j => simp at hx
      | zero =>
        simp at hx; subst hx
        refine ⟨none, 0, ⟨⟨w.heap.size, 0, none⟩, rfl, ?_⟩, fun i hi => by simp [icells, knName] at hi, Nat.le_refl _, fun _ => ⟨rfl, rfl⟩⟩
        rw [add0]
        exact ⟨by simp [World.cell?, v0, knName], by simp [World.cell?, v0, knName], by simp [World.cell?, v0, knName], by simp [World.cell?, v0, knName], by simp [World.cell?, v0, knName]⟩
  have hmk := make_calls knRoot none 0 0 (some ⟨w.heap.size + 1, 0, none⟩) 1 [[knName]] W1 kn_small hfor
  rw [kn_make] at hmk
  have HMK := Lib.hid hmk
  have HW1 := Lib.hid hW1
  have HB1 := Lib.hid b1
  have HM := Lib.hid hm
  clear hmk hW1 b1 hfor v0 v1 hm
  go_enter Tryd.func46, Tryd.ntmps46
  go_wp2_with (fail)
  rw [HW1.out]
  refine HMK.out.mono ?_
  rintro e W2 ⟨v, KS, rfl, hO, b2⟩
  obtain ⟨A, c, rfl, _⟩ := own_block hO.1
  obtain ⟨_, _, _, hTA, _⟩ := own_tree hO
  have hl : knTree.length = 2 := rfl
  rw [hl]
  have b3 : Below W2.heap.size W2 (W2.alloc (.cells #[.slice A 2 c] 59)) := (Below.refl _ _).alloc (Nat.le_refl _) _
  obtain ⟨W3, hW3⟩ : ∃ W3, W2.alloc (.cells #[.slice A 2 c] 59) = W3 := ⟨_, rfl⟩
  have t3 : W3.cell? ⟨W2.heap.size, 0, none⟩ = some (.slice A 2 c) := by rw [← hW3]; simp [World.cell?_alloc_new]
  rw [hW3] at b3
  have hb13 := HB1.out.trans ((b2.trans (b3.mono b2.size)).mono HB1.out.size)
  have hck := check_calls A c knTree W3 kn_ok (hTA.below b3) (HM.out.below hb13)
  rw [kn_check, hl] at hck
  have hdp : ∀ W, Below W3.heap.size W3 W → Calls Tryd.prog 49 #[treeV A 2 c] W fun e w' => e = .returned (.int .i64 1) ∧ Below W.heap.size W w' := fun W hW => by
    have := depth_calls A c knTree W kn_ok ((hTA.below b3).below hW) (HM.out.below (hb13.trans (hW.mono hb13.size)))
    rwa [kn_depth, hl] at this
  have HCK := Lib.hid hck
  have HDP := Lib.hid hdp
  have HB13 := Lib.hid hb13
  have HW3 := Lib.hid hW3
  clear hO hTA b2 b3 hW3 hck hdp hb13 hl HMK HW1
  go_upto_region 2 with (fail)
  rw [HW3.out]
  go_wp2_with (fail)
  refine HCK.out.mono ?_
  rintro e W4 ⟨rfl, b4⟩
  have t4 := b4.cell_keep t3
  have HD := Lib.hid (HDP.out W4 b4)
  have HB4 := Lib.hid (HB13.out.trans (b4.mono HB13.out.size))
  clear b4 t3 HDP HCK
  go_wp2_with (fail)
  refine HD.out.mono ?_
  rintro e W5 ⟨rfl, b5⟩
  have HB5 := Lib.hid (HB4.out.trans (b5.mono HB4.out.size))
  clear b5 t4 HD
  go_wp2_with (fail)
  go_ret
  exact ⟨rfl, HB5.out⟩
end Go.Proofs.YtnepdjgbfhakmaaDoor
