/- TextPieces: the walk. -/
import Derived.Test.YtnepdjgbfhakmaaDoorLaw1
import Derived.Test.YtnepdjgbfhakmaaDoorPieces
import Derived.Lib.AppendStr
namespace Go.Proofs.YtnepdjgbfhakmaaDoor
set_option linter.unusedVariables false
set_option linter.unusedSimpArgs false
open Go.RowKit Go.Shelf
attribute [local go_sem] Oper.semAt_some

theorem bcells_append (a b : List UInt8) : bcells (a ++ b) = bcells a ++ bcells b := by simp [bcells]

set_option maxRecDepth 100000 in
theorem textPieces_walk (w : World) (A : Option Addr) (c : Nat) (bs : List UInt8) (hl : bs.length ≤ 140737488351232) (hcap : bs.length ≤ c) (hmax : c ≤ maxLen) (h0 : A = none → bs.length = 0 ∧ c = 0) (hc : Cells w A (bcells bs)) (hT : Tz16 w) (hw : 3 < w.heap.size) :
    Calls Tryd.prog 8 #[.slice A bs.length c] w fun e w' => e = .returned (.bool true) ∧ Below w.heap.size w w' := by
  go_enter Tryd.func8, Tryd.ntmps8
  have HC := Lib.hid hc
  clear hc
  by_cases hlen : 4000 < bs.length
  · go_wp2
    go_ret
    exact ⟨rfl, Below.refl _ _⟩
  · go_wp2_with (fail)
    go_loopw [3, 4] (fun v u wr => ∃ k : Nat, v = .int .i64 k ∧ k ≤ bs.length ∧ wr.ownsRow w.heap.size 5 1 u k (bcells (bs.take k)) ∧ Below w.heap.size w wr) (fun v _ _ => bs.length - (intOf v).toNat)
    case atStart => exact ⟨0, rfl, by omega, World.ownsRow_nil _ _ _ _, Below.refl _ _⟩
    case round =>
      obtain ⟨k, rfl, hk, how, hb⟩ := hrel
      have hcr := HC.out.below hb
      have hbs := hb.size
      by_cases hlt : k < bs.length
      · have hne : bs.drop k ≠ [] := by
          intro h
          have := congrArg List.length h
          simp at this; omega
        have hds := dec_size' (bs.drop k) hne
        rw [List.length_drop] at hds
        have hru := dec_rune (bs.drop k)
        have hd := decode_calls A c bs k wr (by omega) hcap hcr
        rw [show decAt bs (k : Int) = dec (bs.drop k) by unfold decAt; rw [if_neg (by omega)]; simp] at hd
        have hgood := @runeB_dec (bs.drop k)
        have hbad := @dec_bad (bs.drop k) hne
        have hown := how
        obtain ⟨AV, cV, hu, _, _, _⟩ := own_cells how
        subst hu
        have HO := Lib.hid how
        clear how
        generalize dec (bs.drop k) = x at hds hru hd hgood hbad
        obtain ⟨r, n, g⟩ := x
        simp only at hds hru hd hgood hbad
        have HD := Lib.hid hd
        obtain ⟨i0, hi, hz0, hz1, hz2⟩ := info_parts infoByte
        cases g with
        | true =>
          have hg := hgood rfl
          have HG := Lib.hid hg
          have e1 : decide ((n : Int) < 1) = false := by simp; omega
          have e2 : decide (4 < (n : Int)) = false := by simp; omega
          have e3 : decide ((bs.length : Int) < k + n) = false := by simp; omega
          have hsz : (Utf8.encode (r : Int)).size = n := by
            have h1 : (Utf8.encode (r : Int)).data.toList.length = n := by
              show (runeB r).length = n
              rw [hg]; simp; omega
            simpa using h1
          have HSZ := Lib.hid hsz
          clear hd hgood hbad hg hown hcr hsz
          go_wp2_with (fail)
          refine HD.out.mono ?_
          rintro e w4 ⟨rfl, rfl⟩
          go_wp2_with (at_builtin; refine Lib.wpList_append_own_string _ rfl _ _ 22 9 rfl w.heap.size 5 i0 Tryd.underlying22 Tryd.underlying9 hi hz0 hz1 hz2 _ _ _ rfl HO.out (Utf8.encode r) rfl ?c3 ?c4 ?c5 ?_)
          case c3 => rw [HSZ.out]; unfold maxLen; omega
          case c4 => rw [HSZ.out]; omega
          case c5 => exact hbs
          intro v2 w2 h2 g2 _
          have hb2 := hb.grown g2 hbs (fun j hj => (HO.out.lt j hj).1)
          rw [strCells_eq, HSZ.out, ← bcells_append, show (Utf8.encode (r : Int)).data.toList = runeB r from rfl, HG.out, ← List.take_add] at h2
          go_wp2_with (fail)
          exact ⟨⟨k + n, by simp, by omega, h2, hb2⟩, by simp [intOf]; omega⟩
        | false =>
          obtain ⟨rfl, rfl⟩ : r = 65533 ∧ n = 1 := by have := hbad rfl; simp at this; exact this
          have e3 : decide ((bs.length : Int) < k + (1 : Nat)) = false := by simp; omega
          obtain ⟨a, rfl, hcell⟩ := bytes_at hcr k hlt
          have h2' := HO.out.alloc (.cells #[.int .u8 (gb bs k)] 5)
          have k2 : Cells (wr.alloc (.cells #[.int .u8 (gb bs k)] 5)) (some ⟨wr.heap.size, 0, none⟩) [.int .u8 (gb bs k)] := Cells.new _ #[.int .u8 (gb bs k)] _ _
          clear hd hgood hbad hown hcr
          go_wp2_with (fail)
          refine HD.out.mono ?_
          rintro e w4 ⟨rfl, rfl⟩
          go_wp2_with (at_builtin; refine wpList_append_cells _ rfl _ _ 22 rfl w.heap.size 5 i0 (.int .u8 0) 1 1 Tryd.underlying22 hi hz0 hz1 hz2 rfl (by decide) _ _ _ rfl h2' _ 1 1 [.int .u8 (gb bs k)] rfl (by simp) k2 (fun h => by cases h) (by simp; rfl) ?c3 ?c4 ?c5 ?_)
          case c3 => unfold maxLen; omega
          case c4 => omega
          case c5 => simp; omega
          intro v2 w2 h2 g2
          have hb2 := (hb.alloc hbs (.cells #[.int .u8 (gb bs k)] 5)).grown g2 (by simp; omega) (fun j hj => (h2'.lt j hj).1)
          have he : bcells (bs.take k) ++ [.int .u8 (gb bs k : Int)] = bcells (bs.take (k + 1)) := by
            rw [List.take_succ_eq_append_getElem hlt, bcells_append]
            simp [bcells, gb, List.getD, hlt]
          rw [he] at h2
          go_wp2_with (fail)
          exact ⟨⟨k + 1, by simp, by omega, h2, hb2⟩, by simp [intOf]; omega⟩
      · have ek : k = bs.length := by omega
        subst ek
        rw [List.take_length] at how
        obtain ⟨AV, cV, rfl, hcV, hV, _⟩ := own_cells how
        have HB := Lib.hid (bytes_calls AV A cV c bs wr (by omega) hcV hcr)
        clear how hcV hcr
        go_wp2_with (fail)
        refine HB.out.mono ?_
        rintro e w4 ⟨rfl, hb4⟩
        have hbw4 := hb.trans (hb4.mono hbs)
        have HK := Lib.hid (known_calls w4 (hT.below hbw4 hw) (by have := hbw4.size; omega))
        go_wp2_with (fail)
        refine HK.out.mono ?_
        rintro e w8 ⟨rfl, hb8⟩
        have hbw8 := hbw4.trans (hb8.mono hbw4.size)
        go_wp2
        go_ret
        exact ⟨rfl, hbw8⟩
end Go.Proofs.YtnepdjgbfhakmaaDoor
