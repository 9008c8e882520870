/- shuckref1.hex, shuckref1.Quote: they answer what text.Quote answers. -/
import Derived.Test.YtnepdjgbfhakmaaDoorRefRunes
namespace Go.Proofs.YtnepdjgbfhakmaaDoor
set_option linter.unusedVariables false
set_option linter.unusedSimpArgs false
open Go.RowKit Go.Shelf
attribute [local go_sem] Oper.semAt_some

def digitsB : ByteArray := ⟨#[48, 49, 50, 51, 52, 53, 54, 55, 56, 57, 97, 98, 99, 100, 101, 102]⟩
theorem digit_cut (d : Nat) (h : d < 16) : digitsB.extract d (d + 1) = ⟨#[hexD d]⟩ := by
  revert d; decide +kernel

set_option maxRecDepth 100000 in
theorem hex_calls (u : Nat) (hu : u < 128) (w : World) :
    Calls Tryd.prog 73 #[.int .i64 (u : Int)] w fun e w' => e = .returned (.string ⟨(hexS u).toArray⟩) ∧ w = w' := by
  go_enter Tryd.func73, Tryd.ntmps73
  have H1 := Lib.hid (digit_cut (u % 16) (Nat.mod_lt _ (by decide)))
  by_cases h16 : u < 16
  · go_wp2_with (fail)
    refine wp_loop_rounds 1 ?_
    rw [rounds_succ]
    go_wp2
    go_ret
    refine ⟨?_, rfl⟩
    have h1 := H1.out
    unfold digitsB at h1
    rw [h1, hexS, if_pos h16, Nat.mod_eq_of_lt h16]
    rfl
  · have H2 := Lib.hid (digit_cut (u / 16 % 16) (Nat.mod_lt _ (by decide)))
    go_wp2_with (fail)
    refine wp_loop_rounds 2 ?_
    rw [rounds_succ]
    have e1 : ((u : Int) / 16 == 0) = false := by simp; omega
    have e2 : ((u : Int) / 16 / 16 == 0) = true := by simp; omega
    go_wp2
    rw [rounds_succ]
    go_wp2
    go_ret
    refine ⟨?_, rfl⟩
    have h1 := H1.out
    have h2 := H2.out
    unfold digitsB at h1 h2
    rw [h1, h2, hexS, if_neg h16, Nat.mod_eq_of_lt (show u / 16 < 16 by omega)]
    rfl

theorem row_at {W : World} {A : Option Addr} {l : List (Nat × Nat × Nat × Bool)} (h : Cells W A (rowCs l)) (i j : Nat) (x : Nat × Nat × Nat × Bool) (hx : l[i]? = some x) (hj : j < 4) :
    ∃ a, A = some a ∧ W.cell? (a.add (i * 4 + j)) = (rowC x)[j]? := by
  have h1 := rowCs_at l i j x hx hj
  have hlt : i * 4 + j < (rowCs l).length := by
    have := (List.getElem?_eq_some_iff.1 hx).1
    simp; omega
  obtain ⟨a, rfl, hc⟩ := h (i * 4 + j) hlt
  refine ⟨a, rfl, ?_⟩
  rw [hc, ← h1, List.getElem?_eq_getElem hlt]

set_option maxRecDepth 100000 in
set_option maxHeartbeats 2000000 in
theorem refquote_calls (s : ByteArray) (w : World) (hs : s.size ≤ 1000000) :
    Calls Tryd.prog 33 #[.string s] w fun e w' => e = .returned (.string ⟨(quoteL s.data.toList).toArray⟩) ∧ Below w.heap.size w w' := by
  obtain ⟨A, c, W3, hcv, hcs, hbl, hsz⟩ := conv_bytes (P := Tryd.prog) 9 22 5 Tryd.underlying9 Tryd.underlying22 Tryd.underlying5 s w
  have hsl : s.data.toList.length = s.size := rfl
  have hrc := refrunes_calls A c s.data.toList W3 (by omega) (by omega) hcs
  rw [hsl] at hrc
  obtain ⟨l, hl⟩ : ∃ l, l = rows s.data.toList := ⟨_, rfl⟩
  have hll := rows_length s.data.toList
  rw [← hl] at hll hrc
  have HL := Lib.hid hl
  clear hl
  have HR := Lib.hid hrc
  clear hrc hcs
  go_enter Tryd.func33, Tryd.ntmps33
  go_wp2_with (fail)
  refine HR.out.mono ?_
  rintro e w4 ⟨v4, rfl, ho, hb4⟩
  have hb := hbl.trans (hb4.mono hbl.size)
  obtain ⟨A4, c4, rfl, hc4, hn4, _, hA4⟩ := own_block ho
  have HC := Lib.hid hc4
  have HB := Lib.hid hb
  clear hc4 hb hb4 HR hcv ho hbl
  have hlm : l.map (fun x => (x.1, x.2.1)) = runes s.data.toList := by rw [HL.out, rows_runes]
  have HLM := Lib.hid hlm
  go_wp2_with (fail)
  go_loopw [3, 5] (fun u v wr => ∃ (b : ByteArray) (k : Nat), u = .string b ∧ v = .int .i64 k ∧ k ≤ l.length ∧ Hid (b.data.toList = quoteP ((l.take k).map fun x => (x.1, x.2.1))) ∧ w4 = wr) (fun _ v _ => l.length - (intOf v).toNat)
  case atStart => exact ⟨_, 0, rfl, rfl, by omega, rfl, rfl⟩
  case round =>
    obtain ⟨b, k, rfl, rfl, hk, hbk, rfl⟩ := hrel
    by_cases hlt : k < l.length
    · obtain ⟨x, hx⟩ : ∃ x, l[k]? = some x := ⟨_, List.getElem?_eq_getElem hlt⟩
      have hmem : (x.1, x.2.1) ∈ runes s.data.toList := by
        rw [← hlm]; exact List.mem_map_of_mem (List.mem_of_getElem? hx)
      have hr := runesF_rune _ _ _ _ hmem
      simp only at hr
      obtain ⟨a, rfl, hcell⟩ := row_at HC.out k 1 x hx (by decide)
      obtain ⟨g, hg, _, hgl⟩ := hA4.resolve_left (fun h => by cases h.1)
      cases hg
      have hst : (l.take (k + 1)).map (fun x => (x.1, x.2.1)) = (l.take k).map (fun x => (x.1, x.2.1)) ++ [(x.1, x.2.1)] := by
        obtain ⟨h1, rfl⟩ := List.getElem?_eq_some_iff.1 hx
        rw [List.take_succ_eq_append_getElem h1, List.map_append]; rfl
      have key : ∀ b2 : ByteArray, b2.data.toList = b.data.toList ++ quoteR x.2.1 → b2.data.toList = quoteP ((l.take (k + 1)).map fun x => (x.1, x.2.1)) := fun b2 h => by
        rw [h, hbk.out, hst, quoteP_snoc]
      have KEY := Lib.hid key
      clear key hst hmem hlm
      obtain ⟨p, r, n, gd⟩ := x
      simp [rowC] at hcell
      simp only at hr KEY
      rw [add0] at hcell
      have HX := Lib.hid hx
      clear hx
      have fin : ∀ b2 : ByteArray, b2.data.toList = b.data.toList ++ quoteR r → ∃ (b' : ByteArray) (k' : Nat), Value.string b2 = .string b' ∧ Value.int .i64 ((k : Int) + 1) = .int .i64 k' ∧ k' ≤ l.length ∧ Hid (b'.data.toList = quoteP ((l.take k').map fun x => (x.1, x.2.1))) ∧ True := fun b2 h =>
        ⟨b2, k + 1, rfl, by simp, by omega, Lib.hid (KEY.out b2 h), trivial⟩
      have hbs : b.size ≤ 10000000 := by
        have h1 := quoteP_length ((l.take k).map fun x => (x.1, x.2.1))
        rw [← hbk.out] at h1
        simp at h1
        omega
      have FIN := Lib.hid fin
      clear fin KEY
      rcases (show r = 92 ∨ r = 34 ∨ r = 10 ∨ r = 13 ∨ r = 9 ∨ ((r < 32 ∨ r = 127) ∧ r ≠ 10 ∧ r ≠ 13 ∧ r ≠ 9) ∨ (32 ≤ r ∧ r ≠ 127 ∧ r ≠ 92 ∧ r ≠ 34) by omega) with h | h | h | h | h | ⟨h, hn1, hn2, hn3⟩ | ⟨h, hn1, hn2, hn3⟩
      · obtain rfl : r = 92 := h
        have hen : (Utf8.encode 92).size ≤ 4 := by decide +kernel
        go_wp2_with (fail)
        exact ⟨FIN.out _ (by simp [quoteR]; rfl), by simp [intOf]; omega⟩
      · obtain rfl : r = 34 := h
        have hen : (Utf8.encode 34).size ≤ 4 := by decide +kernel
        go_wp2_with (fail)
        exact ⟨FIN.out _ (by simp [quoteR]; rfl), by simp [intOf]; omega⟩
      · obtain rfl : r = 10 := h
        go_wp2_with (fail)
        exact ⟨FIN.out _ (by simp [quoteR]), by simp [intOf]; omega⟩
      · obtain rfl : r = 13 := h
        go_wp2_with (fail)
        exact ⟨FIN.out _ (by simp [quoteR]), by simp [intOf]; omega⟩
      · obtain rfl : r = 9 := h
        go_wp2_with (fail)
        exact ⟨FIN.out _ (by simp [quoteR]), by simp [intOf]; omega⟩
      · have e92 : ((r : Int) == 92) = false := by simp; omega
        have e34 : ((r : Int) == 34) = false := by simp; omega
        have e10 : ((r : Int) == 10) = false := by simp; omega
        have e13 : ((r : Int) == 13) = false := by simp; omega
        have e9 : ((r : Int) == 9) = false := by simp; omega
        have hq : quoteR r = [92, 117, 123] ++ hexS r ++ [125] := by
          unfold quoteR; rw [if_neg (by omega), if_neg hn1, if_neg hn2, if_neg hn3, if_pos h]
        have HQ := Lib.hid hq
        clear hq
        have hr127 : r ≤ 127 := by omega
        have hhl : (hexS r).length ≤ 2 := hexS_length r
        have HX2 := Lib.hid (hex_calls r (by omega) w4)
        rcases h with h | h
        case' inl => have g32 : decide ((r : Int) < 32) = true := by simp; omega
        case' inr =>
          have g32 : decide ((r : Int) < 32) = false := by simp; omega
          have e127 : ((r : Int) == 127) = true := by simp; omega
        all_goals
          clear h
          go_wp2_with (fail)
          refine HX2.out.mono ?_
          rintro e w5 ⟨rfl, rfl⟩
          go_wp2_with (fail)
          exact ⟨FIN.out _ (by rw [HQ.out]; simp), by simp [intOf]; omega⟩
      · have e92 : ((r : Int) == 92) = false := by simp; omega
        have e34 : ((r : Int) == 34) = false := by simp; omega
        have e10 : ((r : Int) == 10) = false := by simp; omega
        have e13 : ((r : Int) == 13) = false := by simp; omega
        have e9 : ((r : Int) == 9) = false := by simp; omega
        have e127 : ((r : Int) == 127) = false := by simp; omega
        have g32 : decide ((r : Int) < 32) = false := by simp; omega
        have hq : quoteR r = runeB r := by
          unfold quoteR; rw [if_neg (by omega), if_neg (by omega), if_neg (by omega), if_neg (by omega), if_neg (by omega)]
        have HQ := Lib.hid hq
        clear hq
        have hen : (Utf8.encode (r : Int)).size ≤ 4 := by
          have h1 := (runeB_length (r : Int)).2
          unfold runeB at h1
          simpa using h1
        go_wp2_with (fail)
        exact ⟨FIN.out _ (by rw [HQ.out]; simp; rfl), by simp [intOf]; omega⟩
    · have ek : k = l.length := by omega
      rw [ek, List.take_length, hlm] at hbk
      have hbs : b.size ≤ 10000000 := by
        have h1 := quoteP_length (runes s.data.toList)
        have h2 := runes_length s.data.toList
        rw [← hbk.out] at h1
        simp at h1
        omega
      clear hA4
      go_wp2
      go_ret
      refine ⟨?_, HB.out⟩
      have h1 : (b ++ ⟨#[34]⟩).data.toList = quoteL s.data.toList := by
        unfold quoteL; rw [← hbk.out]; simp
      have h2 : (b ++ ⟨#[34]⟩ : ByteArray) = ⟨(quoteL s.data.toList).toArray⟩ := by rw [← h1]
      rw [← h2]
      rfl
end Go.Proofs.YtnepdjgbfhakmaaDoor
