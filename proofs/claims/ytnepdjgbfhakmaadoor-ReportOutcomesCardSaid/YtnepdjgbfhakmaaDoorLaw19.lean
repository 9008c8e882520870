/- The laws of chapter 19: their helpers. -/
import Derived.Test.YtnepdjgbfhakmaaDoorRep2
namespace Go.Proofs.YtnepdjgbfhakmaaDoor
set_option linter.unusedVariables false
set_option linter.unusedSimpArgs false
open Go.RowKit Go.Shelf
attribute [local go_sem] Oper.semAt_some

theorem itoa_dig (n : Nat) (h : n < 10) : Lib.itoa n = [UInt8.ofNat (48 + n)] := by
  unfold Lib.itoa; rw [if_neg (by omega)]
  simp only [Int.toNat_natCast]
  exact dd_small h
theorem out_known : outS [97, 98] 10 1 ⟨#[]⟩ = ⟨#[49, 58, 50, 58, 32, 116, 121, 112, 101, 10, 97, 98, 10, 32, 94, 10]⟩ := by
  have hp : placeL [97, 98] 1 = (1, 2) := by decide +kernel
  unfold outS headS showS markS
  rw [if_neg (by decide), hp]
  simp only
  rw [itoa_dig 1 (by decide), itoa_dig 2 (by decide)]
  decide +kernel

set_option maxRecDepth 100000 in
theorem known19_calls (w : World) (hT : Pw10 w) :
    Calls Tryd.prog 57 #[] w fun e w' => e = .returned (.bool true) ∧ Below w.heap.size w w' := by
  have hcv := conv_const w
  have b1 : Below w.heap.size w (w.alloc (.cells #[.int .u8 97, .int .u8 98] 5 (2, 3))) := (Below.refl _ _).alloc (Nat.le_refl _) _
  have c1 : Cells (w.alloc (.cells #[.int .u8 97, .int .u8 98] 5 (2, 3))) (some ⟨w.heap.size, 0, none⟩) (bcells [97, 98]) := Cells.new _ _ _ _
  have ho := output_calls (some ⟨w.heap.size, 0, none⟩) 2 [97, 98] 10 1 ⟨#[]⟩ _ (by simp) (by simp) (by omega) (fun h => by cases h) c1 (hT.below b1)
  rw [out_known] at ho
  have HO := Lib.hid ho
  clear ho c1
  go_enter Tryd.func57, Tryd.ntmps57
  go_wp2_with (fail)
  refine HO.out.mono ?_
  rintro e w4 ⟨rfl, hb4⟩
  have hb := b1.trans (hb4.mono b1.size)
  clear HO hb4 hcv b1
  go_wp2_with (fail)
  go_ret
  exact ⟨rfl, hb⟩

set_option maxRecDepth 100000 in
theorem bytes19_calls (A B : Option Addr) (c d : Nat) (l : List UInt8) (w : World) (hl : l.length ≤ 9223372036854775000) (hc : Cells w A (bcells l)) (hd : Cells w B (bcells l)) :
    Calls Tryd.prog 93 #[.slice A l.length c, .slice B l.length d] w fun e w' => e = .returned (.bool true) ∧ Below w.heap.size w w' := by
  go_enter Tryd.func93, Tryd.ntmps93
  go_wp2_with (fail)
  go_loopw [5] (fun v wr => ∃ k : Nat, v = .int .i64 k ∧ k ≤ l.length ∧ Below w.heap.size w wr) (fun v _ => l.length - (intOf v).toNat)
  case atStart => exact ⟨0, rfl, by omega, Below.refl _ _⟩
  case round =>
    obtain ⟨k, rfl, hk, hb⟩ := hrel
    by_cases hlt : k < l.length
    · obtain ⟨a, rfl, ha⟩ := bytes_at (hc.below hb) k hlt
      obtain ⟨b, rfl, hbb⟩ := bytes_at (hd.below hb) k hlt
      have hg := gb_lt l k
      go_wp2
      go_quiet (fail)
      go_wp2
      exact ⟨⟨k + 1, by simp, by omega, below_drewN hb _⟩, by simp [intOf]; omega⟩
    · go_wp2
      go_ret
      exact ⟨rfl, hb⟩

set_option maxRecDepth 100000 in
theorem roomy19_calls (A : Option Addr) (c : Nat) (bs : List UInt8) (w : World) (hl : bs.length ≤ 100000000000000) (h0 : A = none → bs.length = 0 ∧ c = 0) (hc : Cells w A (bcells bs)) :
    Calls Tryd.prog 53 #[.slice A bs.length c] w fun e w' => ∃ A' c', e = .returned (.slice A' (bs.length + 1) c') ∧ bs.length + 1 ≤ c' ∧ Cells w' A' (bcells (bs ++ [171])) ∧ Below w.heap.size w w' := by
  obtain ⟨i0, hi, hz0, hz1, hz2⟩ := info_parts infoByte
  go_enter Tryd.func53, Tryd.ntmps53
  have w1 : (w.alloc (.cells #[] 5)).ownsRow w.heap.size 5 1 (.slice (some ⟨w.heap.size, 0, none⟩) 0 0) 0 [] := World.ownsRow_made w #[] 0 (Nat.le_refl _) (by decide) rfl
  have b1 : Below w.heap.size w (w.alloc (.cells #[] 5)) := (Below.refl _ _).alloc (Nat.le_refl _) _
  have HC := Lib.hid hc
  clear hc
  go_wp2_with (at_builtin; refine wpList_append_cells _ rfl _ _ 22 rfl w.heap.size 5 i0 (.int .u8 0) 1 1 Tryd.underlying22 hi hz0 hz1 hz2 rfl (by decide) _ _ _ rfl w1 A bs.length c (bcells bs) rfl (by simp) (HC.out.below b1) h0 (bcells_one _) ?c3 ?c4 ?c5 ?_)
  case c3 => unfold maxLen; omega
  case c4 => omega
  case c5 => simp
  intro v2 w2 h2 g2
  have b2 := b1.grown g2 (by simp) (fun k hk => (w1.lt k hk).1)
  clear hi g2
  obtain ⟨i0, hi, hz0, hz1, hz2⟩ := info_parts infoByte
  have h2' := h2.alloc (.cells #[.int .u8 171] 5)
  have k2 : Cells (w2.alloc (.cells #[.int .u8 171] 5)) (some ⟨w2.heap.size, 0, none⟩) [.int .u8 171] := Cells.new _ #[.int .u8 171] _ _
  have s2 : w.heap.size ≤ w2.heap.size := b2.size
  go_wp2_with (at_builtin; refine wpList_append_cells _ rfl _ _ 22 rfl w.heap.size 5 i0 (.int .u8 0) 1 1 Tryd.underlying22 hi hz0 hz1 hz2 rfl (by decide) _ _ _ rfl h2' _ 1 1 [.int .u8 171] rfl (by simp) k2 (fun h => by cases h) (by simp; rfl) ?c3 ?c4 ?c5 ?_)
  case c3 => unfold maxLen; omega
  case c4 => omega
  case c5 => simp; omega
  intro v3 w3 h3 g3
  have b3 := (b2.alloc s2 (.cells #[.int .u8 171] 5)).grown g3 (by simp; omega) (fun k hk => (h2'.lt k hk).1)
  clear hi g3
  obtain ⟨i0, hi, hz0, hz1, hz2⟩ := info_parts infoByte
  have h3' := h3.alloc (.cells #[.int .u8 171] 5)
  have k3 : Cells (w3.alloc (.cells #[.int .u8 171] 5)) (some ⟨w3.heap.size, 0, none⟩) [.int .u8 171] := Cells.new _ #[.int .u8 171] _ _
  have s3 : w.heap.size ≤ w3.heap.size := b3.size
  go_wp2_with (at_builtin; refine wpList_append_cells _ rfl _ _ 22 rfl w.heap.size 5 i0 (.int .u8 0) 1 1 Tryd.underlying22 hi hz0 hz1 hz2 rfl (by decide) _ _ _ rfl h3' _ 1 1 [.int .u8 171] rfl (by simp) k3 (fun h => by cases h) (by simp; rfl) ?c3 ?c4 ?c5 ?_)
  case c3 => unfold maxLen; omega
  case c4 => omega
  case c5 => simp; omega
  intro v4 w4 h4 g4
  have b4 := (b3.alloc s3 (.cells #[.int .u8 171] 5)).grown g4 (by simp; omega) (fun k hk => (h3'.lt k hk).1)
  obtain ⟨A', c', rfl, hc4, hn4, hm4⟩ := own_cells h4
  go_wp2
  go_ret
  refine ⟨A', c', rfl, by omega, ?_, b4⟩
  have hk := hc4.take_ (bs.length + 1)
  have he : (bcells bs ++ [.int .u8 171, .int .u8 171] : List Value).take (bs.length + 1) = bcells (bs ++ [171]) := by
    rw [List.take_append, bcells_length, List.take_of_length_le (by simp), show bs.length + 1 - bs.length = 1 by omega]
    simp [bcells]
  rwa [he] at hk

set_option maxRecDepth 100000 in
theorem stands19_calls (A B : Option Addr) (c d : Nat) (bs : List UInt8) (w : World) (hl : bs.length ≤ 100000000000000) (hcap : bs.length + 1 ≤ c) (ha : Cells w A (bcells (bs ++ [171]))) (hb : Cells w B (bcells bs)) :
    Calls Tryd.prog 56 #[.slice A (bs.length + 1) c, .slice B bs.length d] w fun e w' => e = .returned (.bool true) ∧ Below w.heap.size w w' := by
  have ha1 : Cells w A (bcells bs) := by
    have := ha.take_ bs.length
    simpa [bcells, ← List.map_take] using this
  have HC := Lib.hid (bytes19_calls A B c d bs w (by omega) ha1 hb)
  obtain ⟨a, rfl, h171⟩ := bytes_at ha bs.length (by simp)
  have h171' : gb (bs ++ [171]) bs.length = 171 := by simp [gb]
  rw [h171', show ((171 : Nat) : Int) = 171 from rfl] at h171
  go_enter Tryd.func56, Tryd.ntmps56
  clear ha hb ha1
  go_wp2_with (fail)
  refine HC.out.mono ?_
  rintro e w2 ⟨rfl, b2⟩
  have h2 := b2.cell_keep h171
  go_wp2
  go_ret
  exact ⟨rfl, b2⟩
end Go.Proofs.YtnepdjgbfhakmaaDoor
