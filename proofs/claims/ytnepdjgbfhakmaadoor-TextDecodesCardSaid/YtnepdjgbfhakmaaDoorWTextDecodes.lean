/- TextDecodes: the walk. -/
import Derived.Test.YtnepdjgbfhakmaaDoorLaw1
namespace Go.Proofs.YtnepdjgbfhakmaaDoor
open Go.RowKit Go.Shelf
attribute [local go_sem] Oper.semAt_some

set_option maxRecDepth 100000 in
theorem textDecodes_walk (w : World) (A : Option Addr) (c : Nat) (bs : List UInt8) (hl : bs.length ≤ 140737488351232) (hcap : bs.length ≤ c) (hmax : c ≤ maxLen) (h0 : A = none → bs.length = 0 ∧ c = 0) (hc : Cells w A (bcells bs)) (i : Int) (hi : (Lit.int .i64 i).wf = true) (hT : Tz16 w) (hw : 3 < w.heap.size) :
    Calls Tryd.prog 3 #[.slice A bs.length c, .int .i64 i] w fun e w' => e = .returned (.bool true) ∧ Below w.heap.size w w' := by
  go_enter Tryd.func3, Tryd.ntmps3
  have HC := Lib.hid hc
  clear hc
  by_cases hlen : 4000 < bs.length
  · go_wp2
    go_ret
    exact ⟨rfl, Below.refl _ _⟩
  · go_wp2_with (fail)
    go_loopw [5] (fun v wr => ∃ k : Int, v = .int .i64 k ∧ -1 ≤ k ∧ k ≤ bs.length + 1 ∧ Below w.heap.size w wr) (fun v _ => (bs.length + 1 - intOf v).toNat)
    case atStart => exact ⟨-1, rfl, by omega, by omega, Below.refl _ _⟩
    case round =>
      obtain ⟨k, rfl, hk1, hk2, hb⟩ := hrel
      have hcr := HC.out.below hb
      by_cases hlt : k ≤ bs.length
      · have hd := decode_calls A c bs k wr (by omega) hcap hcr
        have hr := refdec_calls A c bs k wr (by omega) hcap hcr
        generalize decAt bs k = x at hd hr
        obtain ⟨r, n, g⟩ := x
        simp only [rowV] at hr
        have HD := Lib.hid hd
        have HR := Lib.hid hr
        clear hcr hd hr
        go_wp2_with (fail)
        refine HD.out.mono ?_
        rintro e w4 ⟨rfl, rfl⟩
        go_wp2_with (fail)
        refine HR.out.mono ?_
        rintro e w4 ⟨rfl, hb4⟩
        go_wp2_with (fail)
        exact ⟨⟨k + 1, rfl, by omega, by omega, (hb.trans (hb4.mono hb.size)).alloc (by have := hb.size; have := hb4.size; omega) _⟩, by simp [intOf]; omega⟩
      · have HR := Lib.hid (roomy_calls A c bs wr (by omega) h0 hcr)
        clear hcr
        go_wp2_with (fail)
        refine HR.out.mono ?_
        rintro e w4 ⟨A', c', rfl, hc', hcs, hb4⟩
        have hbw4 := hb.trans (hb4.mono hb.size)
        have hcs1 : Cells w4 A' (bcells bs) := by
          have := hcs.take_ bs.length
          simpa [bcells, ← List.map_take] using this
        have hd := decode_calls A' c' bs i w4 (by omega) (by omega) hcs1
        have hr := refdec_calls A c bs i w4 (by omega) hcap (HC.out.below hbw4)
        have hwi : -9223372036854775808 ≤ i ∧ i ≤ 9223372036854775807 := by
          simpa [Lit.wf, show IntKind.i64.min = -9223372036854775808 from rfl, show IntKind.i64.max = 9223372036854775807 from rfl] using hi
        generalize decAt bs i = x at hd hr
        obtain ⟨r, n, g⟩ := x
        simp only [rowV] at hr
        have HD := Lib.hid hd
        have HR2 := Lib.hid hr
        have HS := Lib.hid hcs
        have HB := Lib.hid hb4
        clear hcs1 hd hr hcs
        go_wp2_with (fail)
        refine HD.out.mono ?_
        rintro e w5 ⟨rfl, rfl⟩
        go_wp2_with (fail)
        refine HR2.out.mono ?_
        rintro e w5 ⟨rfl, hb5⟩
        have hbw5 := hbw4.trans (hb5.mono hbw4.size)
        have hbw6 := hbw5.alloc hbw5.size (.cells #[.int .i64 i, .int .i32 (r : Int), .int .i64 (n : Int), .bool g] 26)
        go_wp2_with (fail)
        have HZ := Lib.hid (stands_calls A' A c' c bs _ (by omega) hc' ((HS.out.below hb5).below ((Below.refl _ _).alloc (Nat.le_refl _) (.cells #[.int .i64 i, .int .i32 (r : Int), .int .i64 (n : Int), .bool g] 26))) (HC.out.below hbw6))
        refine HZ.out.mono ?_
        rintro e w7 ⟨rfl, hb7⟩
        have hbw7 := hbw6.trans (hb7.mono hbw6.size)
        have HK := Lib.hid (known_calls w7 (hT.below hbw7 hw) (by have := hbw7.size; omega))
        go_wp2_with (fail)
        refine HK.out.mono ?_
        rintro e w8 ⟨rfl, hb8⟩
        have hbw8 := hbw7.trans (hb8.mono hbw7.size)
        go_wp2
        go_ret
        exact ⟨rfl, hbw8⟩
end Go.Proofs.YtnepdjgbfhakmaaDoor
