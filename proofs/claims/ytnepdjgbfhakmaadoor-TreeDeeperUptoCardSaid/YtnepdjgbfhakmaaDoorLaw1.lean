/- shucklaw1's own helpers: known, bytes, stands, roomy. -/
import Derived.Test.YtnepdjgbfhakmaaDoorPlace2
import Derived.Test.YtnepdjgbfhakmaaDoorRef1
import Derived.Test.YtnepdjgbfhakmaaDoorOwn
import Derived.BigQuiet
import Derived.Lib.SlBytesConst
import Derived.Deep.QuietTactic
namespace Go.Proofs.YtnepdjgbfhakmaaDoor
set_option linter.unusedVariables false
set_option linter.unusedSimpArgs false
open Go.RowKit Go.Shelf
attribute [local go_sem] Oper.semAt_some

theorem _root_.Go.RowKit.Below.cell_keep {w w' : World} {a : Addr} {v : Value} (hb : Below w.heap.size w w') (h : w.cell? a = some v) : w'.cell? a = some v := (hb.cell (World.block_lt_of_cell? w a h)).trans h

theorem Cells.new (w : World) (cs : Array Value) (t : TypeId) (f : Nat × Nat) : Cells (w.alloc (.cells cs t f)) (some ⟨w.heap.size, 0, none⟩) cs.toList := fun i hi => by
  refine ⟨_, rfl, ?_⟩
  simp only [Array.length_toList] at hi
  have ha : (⟨w.heap.size, 0, none⟩ : Addr).add i = ⟨w.heap.size, i, none⟩ := by unfold Addr.add; split <;> simp_all
  rw [ha, World.cell?_alloc_mark]
  simp [hi]

theorem conv_const (w : World) (C : Array Value) (n c : Nat) : (convert 22 22 (.slice (some ⟨w.heap.size, 0, none⟩) n c)).run Tryd.prog (w.alloc (.cells C 5)) = .ok (.slice (some ⟨w.heap.size, 0, none⟩) n c) (w.alloc (.cells C 5 (C.size, C.size + 1))) :=
  Lib.run_convert_bytes_const w _ _ C n c Tryd.underlying22 Tryd.underlying5

set_option maxRecDepth 100000 in
theorem known_calls (w : World) (hT : Tz16 w) (hw : 3 < w.heap.size) :
    Calls Tryd.prog 23 #[] w fun e w' => e = .returned (.bool true) ∧ Below w.heap.size w w' := by
  have hcv := conv_const w
  have b1 : Below w.heap.size w (w.alloc (.cells #[.int .u8 195, .int .u8 169] 5 (2, 3))) := (Below.refl _ _).alloc (Nat.le_refl _) _
  have c1 : Cells (w.alloc (.cells #[.int .u8 195, .int .u8 169] 5 (2, 3))) (some ⟨w.heap.size, 0, none⟩) (bcells [195, 169]) := Cells.new _ _ _ _
  have hd := decode_calls (some ⟨w.heap.size, 0, none⟩) 2 [195, 169] 0 _ (by simp) (by simp) c1
  rw [show decAt [195, 169] 0 = (233, 2, true) by decide +kernel] at hd
  have HD := Lib.hid hd
  clear hd c1
  have hcv2 := conv_const (w.alloc (.cells #[.int .u8 195, .int .u8 169] 5 (2, 3)))
  have c2 : Cells ((w.alloc (.cells #[.int .u8 195, .int .u8 169] 5 (2, 3))).alloc (.cells #[.int .u8 97, .int .u8 10, .int .u8 195, .int .u8 169, .int .u8 98] 5 (5, 6))) (some ⟨(w.alloc (.cells #[.int .u8 195, .int .u8 169] 5 (2, 3))).heap.size, 0, none⟩) (bcells [97, 10, 195, 169, 98]) := Cells.new _ _ _ _
  have hp := place_calls _ 5 [97, 10, 195, 169, 98] 4 _ (by simp) (by simp) c2
  rw [show placeL [97, 10, 195, 169, 98] 4 = (2, 2) by decide +kernel] at hp
  have b2 : Below w.heap.size w ((w.alloc (.cells #[.int .u8 195, .int .u8 169] 5 (2, 3))).alloc (.cells #[.int .u8 97, .int .u8 10, .int .u8 195, .int .u8 169, .int .u8 98] 5 (5, 6))) := b1.alloc (by simp) _
  simp only [World.size_alloc] at hp hcv2
  have HP := Lib.hid hp
  clear hp c2
  go_enter Tryd.func23, Tryd.ntmps23
  go_wp2_with (fail)
  refine HD.out.mono ?_
  rintro e w4 ⟨rfl, rfl⟩
  go_wp2_with (fail)
  refine HP.out.mono ?_
  rintro e w5 ⟨rfl, hb5⟩
  have hs5 : w.heap.size + 2 ≤ w5.heap.size := by
    have h := hb5.size
    simp only [World.size_alloc] at h
    omega
  have b5 := b2.trans (hb5.mono (by omega))
  have hT5 : Tz16 w5 := hT.below b5 hw
  have hq := quote_calls ⟨#[97, 10]⟩ w5 (by decide) hT5 (by omega)
  rw [show quoteL (⟨#[97, 10]⟩ : ByteArray).data.toList = [34, 97, 92, 110, 34] by decide +kernel] at hq
  have HQ := Lib.hid hq
  clear hq hcv hcv2 b1 b2 HD HP hT hT5 hb5
  go_wp2_with (fail)
  refine HQ.out.mono ?_
  rintro e w6 ⟨rfl, hb6⟩
  go_wp2_with (fail)
  go_ret
  exact ⟨rfl, b5.trans (hb6.mono b5.size)⟩

set_option maxRecDepth 100000 in
theorem bytes_calls (A B : Option Addr) (c d : Nat) (l : List UInt8) (w : World) (hl : l.length ≤ 9223372036854775000) (hc : Cells w A (bcells l)) (hd : Cells w B (bcells l)) :
    Calls Tryd.prog 34 #[.slice A l.length c, .slice B l.length d] w fun e w' => e = .returned (.bool true) ∧ Below w.heap.size w w' := by
  go_enter Tryd.func34, Tryd.ntmps34
  go_wp2_with (fail)
  go_loopw [5] (fun v wr => ∃ k : Nat, v = .int .i64 k ∧ k ≤ l.length ∧ Below w.heap.size w wr) (fun v _ => l.length - (intOf v).toNat)
  case atStart => exact ⟨0, rfl, by omega, Below.refl _ _⟩
  case round =>
    obtain ⟨k, rfl, hk, hb⟩ := hrel
    by_cases hlt : k < l.length
    · obtain ⟨a, rfl, ha⟩ := bytes_at (hc.below hb) k hlt
      obtain ⟨b, rfl, hbb⟩ := bytes_at (hd.below hb) k hlt
      have hg := gb_lt l k
      go_wp2
      go_quiet (fail)
      go_wp2
      exact ⟨⟨k + 1, by simp, by omega, below_drewN hb _⟩, by simp [intOf]; omega⟩
    · go_wp2
      go_ret
      exact ⟨rfl, hb⟩

theorem bcells_one (l : List UInt8) : ∀ u ∈ bcells l, u.oneCell' = true := by
  intro u hu
  simp [bcells] at hu
  obtain ⟨b, _, rfl⟩ := hu
  rfl

set_option maxRecDepth 100000 in
theorem roomy_calls (A : Option Addr) (c : Nat) (bs : List UInt8) (w : World) (hl : bs.length ≤ 100000000000000) (h0 : A = none → bs.length = 0 ∧ c = 0) (hc : Cells w A (bcells bs)) :
    Calls Tryd.prog 21 #[.slice A bs.length c] w fun e w' => ∃ A' c', e = .returned (.slice A' (bs.length + 1) c') ∧ bs.length + 1 ≤ c' ∧ Cells w' A' (bcells (bs ++ [171])) ∧ Below w.heap.size w w' := by
  obtain ⟨i0, hi, hz0, hz1, hz2⟩ := info_parts infoByte
  go_enter Tryd.func21, Tryd.ntmps21
  have w1 : (w.alloc (.cells #[] 5)).ownsRow w.heap.size 5 1 (.slice (some ⟨w.heap.size, 0, none⟩) 0 0) 0 [] := World.ownsRow_made w #[] 0 (Nat.le_refl _) (by decide) rfl
  have b1 : Below w.heap.size w (w.alloc (.cells #[] 5)) := (Below.refl _ _).alloc (Nat.le_refl _) _
  have HC := Lib.hid hc
  clear hc
  go_wp2_with (at_builtin; refine wpList_append_cells _ rfl _ _ 22 rfl w.heap.size 5 i0 (.int .u8 0) 1 1 Tryd.underlying22 hi hz0 hz1 hz2 rfl (by decide) _ _ _ rfl w1 A bs.length c (bcells bs) rfl (by simp) (HC.out.below b1) h0 (bcells_one _) ?c3 ?c4 ?c5 ?_)
  case c3 => unfold maxLen; omega
  case c4 => omega
  case c5 => simp
  intro v2 w2 h2 g2
  have b2 := b1.grown g2 (by simp) (fun k hk => (w1.lt k hk).1)
  clear hi g2
  obtain ⟨i0, hi, hz0, hz1, hz2⟩ := info_parts infoByte
  have h2' := h2.alloc (.cells #[.int .u8 171] 5)
  have k2 : Cells (w2.alloc (.cells #[.int .u8 171] 5)) (some ⟨w2.heap.size, 0, none⟩) [.int .u8 171] := Cells.new _ #[.int .u8 171] _ _
  have s2 : w.heap.size ≤ w2.heap.size := b2.size
  go_wp2_with (at_builtin; refine wpList_append_cells _ rfl _ _ 22 rfl w.heap.size 5 i0 (.int .u8 0) 1 1 Tryd.underlying22 hi hz0 hz1 hz2 rfl (by decide) _ _ _ rfl h2' _ 1 1 [.int .u8 171] rfl (by simp) k2 (fun h => by cases h) (by simp; rfl) ?c3 ?c4 ?c5 ?_)
  case c3 => unfold maxLen; omega
  case c4 => omega
  case c5 => simp; omega
  intro v3 w3 h3 g3
  have b3 := (b2.alloc s2 (.cells #[.int .u8 171] 5)).grown g3 (by simp; omega) (fun k hk => (h2'.lt k hk).1)
  clear hi g3
  obtain ⟨i0, hi, hz0, hz1, hz2⟩ := info_parts infoByte
  have h3' := h3.alloc (.cells #[.int .u8 171] 5)
  have k3 : Cells (w3.alloc (.cells #[.int .u8 171] 5)) (some ⟨w3.heap.size, 0, none⟩) [.int .u8 171] := Cells.new _ #[.int .u8 171] _ _
  have s3 : w.heap.size ≤ w3.heap.size := b3.size
  go_wp2_with (at_builtin; refine wpList_append_cells _ rfl _ _ 22 rfl w.heap.size 5 i0 (.int .u8 0) 1 1 Tryd.underlying22 hi hz0 hz1 hz2 rfl (by decide) _ _ _ rfl h3' _ 1 1 [.int .u8 171] rfl (by simp) k3 (fun h => by cases h) (by simp; rfl) ?c3 ?c4 ?c5 ?_)
  case c3 => unfold maxLen; omega
  case c4 => omega
  case c5 => simp; omega
  intro v4 w4 h4 g4
  have b4 := (b3.alloc s3 (.cells #[.int .u8 171] 5)).grown g4 (by simp; omega) (fun k hk => (h3'.lt k hk).1)
  obtain ⟨A', c', rfl, hc4, hn4, hm4⟩ := own_cells h4
  go_wp2
  go_ret
  refine ⟨A', c', rfl, by omega, ?_, b4⟩
  have hk := hc4.take_ (bs.length + 1)
  have he : (bcells bs ++ [.int .u8 171, .int .u8 171] : List Value).take (bs.length + 1) = bcells (bs ++ [171]) := by
    rw [List.take_append, bcells_length, List.take_of_length_le (by simp), show bs.length + 1 - bs.length = 1 by omega]
    simp [bcells]
  rwa [he] at hk

set_option maxRecDepth 100000 in
theorem stands_calls (A B : Option Addr) (c d : Nat) (bs : List UInt8) (w : World) (hl : bs.length ≤ 100000000000000) (hcap : bs.length + 1 ≤ c) (ha : Cells w A (bcells (bs ++ [171]))) (hb : Cells w B (bcells bs)) :
    Calls Tryd.prog 22 #[.slice A (bs.length + 1) c, .slice B bs.length d] w fun e w' => e = .returned (.bool true) ∧ Below w.heap.size w w' := by
  have ha1 : Cells w A (bcells bs) := by
    have := ha.take_ bs.length
    simpa [bcells, ← List.map_take] using this
  have HC := Lib.hid (bytes_calls A B c d bs w (by omega) ha1 hb)
  obtain ⟨a, rfl, h171⟩ := bytes_at ha bs.length (by simp)
  have h171' : gb (bs ++ [171]) bs.length = 171 := by simp [gb]
  rw [h171', show ((171 : Nat) : Int) = 171 from rfl] at h171
  go_enter Tryd.func22, Tryd.ntmps22
  clear ha hb ha1
  go_wp2_with (fail)
  refine HC.out.mono ?_
  rintro e w2 ⟨rfl, b2⟩
  have h2 := b2.cell_keep h171
  go_wp2
  go_ret
  exact ⟨rfl, b2⟩
end Go.Proofs.YtnepdjgbfhakmaaDoor
