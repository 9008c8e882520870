/- TextPlaces: the walk. -/
import Derived.Test.YtnepdjgbfhakmaaDoorRefPlace
namespace Go.Proofs.YtnepdjgbfhakmaaDoor
set_option linter.unusedVariables false
set_option linter.unusedSimpArgs false
open Go.RowKit Go.Shelf
attribute [local go_sem] Oper.semAt_some

set_option maxRecDepth 100000 in
theorem textPlaces_walk (w : World) (A : Option Addr) (c : Nat) (bs : List UInt8) (hl : bs.length ≤ 140737488351232) (hcap : bs.length ≤ c) (hmax : c ≤ maxLen) (h0 : A = none → bs.length = 0 ∧ c = 0) (hc : Cells w A (bcells bs)) (i : Int) (hi : (Lit.int .i64 i).wf = true) (hT : Tz16 w) (hw : 3 < w.heap.size) :
    Calls Tryd.prog 6 #[.slice A bs.length c, .int .i64 i] w fun e w' => e = .returned (.bool true) ∧ Below w.heap.size w w' := by
  go_enter Tryd.func6, Tryd.ntmps6
  have HC := Lib.hid hc
  clear hc
  by_cases hlen : 400 < bs.length
  · go_wp2
    go_ret
    exact ⟨rfl, Below.refl _ _⟩
  · go_wp2_with (fail)
    go_loopw [5] (fun v wr => ∃ k : Int, v = .int .i64 k ∧ -1 ≤ k ∧ k ≤ bs.length + 2 ∧ Below w.heap.size w wr) (fun v _ => (bs.length + 2 - intOf v).toNat)
    case atStart => exact ⟨-1, rfl, by omega, by omega, Below.refl _ _⟩
    case round =>
      obtain ⟨k, rfl, hk1, hk2, hb⟩ := hrel
      have hcr := HC.out.below hb
      by_cases hlt : k ≤ bs.length + 1
      · have hd := place_calls A c bs k wr (by omega) hcap hcr
        have hr : ∀ w4, Below wr.heap.size wr w4 → _ := fun w4 h4 => refplace_calls A c bs k w4 (by omega) hcap (hcr.below h4)
        generalize placeL bs k = x at hd hr
        obtain ⟨l, n⟩ := x
        simp only at hd hr
        have HD := Lib.hid hd
        have HR := Lib.hid hr
        clear hcr hd hr
        go_wp2_with (fail)
        refine HD.out.mono ?_
        rintro e w4 ⟨rfl, hb4⟩
        go_wp2_with (fail)
        refine (HR.out w4 hb4).mono ?_
        rintro e w5 ⟨rfl, hb5⟩
        go_wp2_with (fail)
        have hb4' := hb.trans (hb4.mono hb.size)
        exact ⟨⟨k + 1, rfl, by omega, by omega, hb4'.trans (hb5.mono hb4'.size)⟩, by simp [intOf]; omega⟩
      · have hwi : -9223372036854775808 ≤ i ∧ i ≤ 9223372036854775807 := by
          simpa [Lit.wf, show IntKind.i64.min = -9223372036854775808 from rfl, show IntKind.i64.max = 9223372036854775807 from rfl] using hi
        have hd := place_calls A c bs i wr (by omega) hcap hcr
        have hr : ∀ w4, Below wr.heap.size wr w4 → _ := fun w4 h4 => refplace_calls A c bs i w4 (by omega) hcap (hcr.below h4)
        generalize placeL bs i = x at hd hr
        obtain ⟨l, n⟩ := x
        simp only at hd hr
        have HD := Lib.hid hd
        have HR := Lib.hid hr
        clear hcr hd hr
        go_wp2_with (fail)
        refine HD.out.mono ?_
        rintro e w4 ⟨rfl, hb4⟩
        go_wp2_with (fail)
        refine (HR.out w4 hb4).mono ?_
        rintro e w5 ⟨rfl, hb5⟩
        have hb4' := hb.trans (hb4.mono hb.size)
        have hbw7 := hb4'.trans (hb5.mono hb4'.size)
        have HK := Lib.hid (known_calls w5 (hT.below hbw7 hw) (by have := hbw7.size; omega))
        go_wp2_with (fail)
        refine HK.out.mono ?_
        rintro e w8 ⟨rfl, hb8⟩
        have hbw8 := hbw7.trans (hb8.mono hbw7.size)
        go_wp2
        go_ret
        exact ⟨rfl, hbw8⟩
end Go.Proofs.YtnepdjgbfhakmaaDoor
