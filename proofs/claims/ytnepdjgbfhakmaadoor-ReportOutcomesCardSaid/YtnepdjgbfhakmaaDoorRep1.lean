/- report: the words, rows, digits. -/
import Derived.Test.YtnepdjgbfhakmaaDoorLaw1
import Derived.Test.YtnepdjgbfhakmaaDoorQTail
import Derived.Lib.ItoaNum
namespace Go.Proofs.YtnepdjgbfhakmaaDoor
set_option linter.unusedVariables false
set_option linter.unusedSimpArgs false
open Go.RowKit Go.Shelf
attribute [local go_sem] Oper.semAt_some

/-- A number's digits. -/
theorem dd_small {u : Nat} (h : u < 10) : Lib.decDigits u = [UInt8.ofNat (48 + u)] := by rw [Lib.decDigits, dif_pos h]
theorem dd_big {u : Nat} (h : ¬ u < 10) : Lib.decDigits u = Lib.decDigits (u / 10) ++ [UInt8.ofNat (48 + u % 10)] := by rw [Lib.decDigits, dif_neg h]

set_option maxRecDepth 100000 in
theorem natural_calls (v : Nat) (w : World) (hv : v ≤ 18446744073709551615) :
    Calls Tryd.prog 116 #[.int .u64 v] w fun e w' => e = .returned (.string ⟨(Lib.decDigits v).toArray⟩) ∧ Below w.heap.size w w' := by
  go_enter Tryd.func116, Tryd.ntmps116
  go_wp2_with (fail)
  go_loopw [0, 3] (fun x y wr => ∃ (u : Nat) (l : List UInt8), x = .int .u64 u ∧ y = .string ⟨l.toArray⟩ ∧ u ≤ v ∧ Hid (Lib.decDigits v = Lib.decDigits u ++ l ∧ u * 10 ^ l.length ≤ v ∧ (l ≠ [] → 1 ≤ u)) ∧ Below w.heap.size w wr) (fun x _ _ => (intOf x).toNat)
  case atStart => exact ⟨v, [], rfl, rfl, Nat.le_refl _, Lib.hid ⟨by simp, by simp, fun h => absurd rfl h⟩, Below.refl _ _⟩
  case round =>
    obtain ⟨u, l, rfl, rfl, hu, HI, hb⟩ := hrel
    have hl : l.length ≤ 20 := by
      by_cases h : l = []
      · subst h; simp
      · have h1 := HI.out.2.2 h
        have h2 := HI.out.2.1
        have h3 : 10 ^ l.length ≤ v := Nat.le_trans (by simpa using Nat.mul_le_mul_right (10 ^ l.length) h1) h2
        apply Nat.le_of_lt_succ
        apply (Nat.pow_lt_pow_iff_right (a := 10) (by decide)).1
        have : (18446744073709551615 : Nat) < 10 ^ 21 := by decide
        omega
    obtain ⟨d, hde⟩ : ∃ d, UInt8.ofNat (48 + u % 10) = d := ⟨_, rfl⟩
    have hd : ((48 + (u : Int) % 10) : Int) = (d.toNat : Int) := by
      rw [← hde, UInt8.toNat_ofNat']; omega
    have hcv := conv_string (P := Tryd.prog) 22 5 9 Tryd.underlying22 Tryd.underlying5 Tryd.underlying9 (l := [d]) 1
      (Cells.new wr #[.int .u8 (48 + (u : Int) % 10)] 5 (0, 0) |> fun h => by rw [hd] at h; exact h)
    rw [show ([d] : List UInt8).length = 1 from rfl, ← hd] at hcv
    have HD := Lib.hid hde
    clear hde
    have hb1 := hb.alloc hb.size (.cells #[.int .u8 (48 + (u : Int) % 10)] 5)
    clear hd
    by_cases h10 : u < 10
    · have e0 : (((u : Int) / 10) == 0) = true := by simp; omega
      go_wp2_with (fail)
      go_ret
      refine ⟨ret_val ?_, hb1⟩
      rw [HI.out.1, dd_small h10, ← HD.out, Nat.mod_eq_of_lt h10]
      congr 1
    · have e0 : (((u : Int) / 10) == 0) = false := by simp; omega
      go_wp2_with (fail)
      refine ⟨⟨u / 10, d :: l, by simp, ?_, by omega, Lib.hid ⟨?_, ?_, fun _ => by omega⟩, hb1⟩, by simp [intOf]; omega⟩
      · congr 1
      · rw [HI.out.1, dd_big h10, HD.out]; simp
      · refine Nat.le_trans ?_ HI.out.2.1
        rw [List.length_cons, Nat.pow_succ, Nat.mul_comm (10 ^ l.length) 10, ← Nat.mul_assoc]
        exact Nat.mul_le_mul_right _ (by omega)
theorem dd_len : ∀ (k u : Nat), u < 10 ^ (k + 1) → (Lib.decDigits u).length ≤ k + 1
  | 0, u, h => by rw [dd_small (by simpa using h)]; simp
  | k + 1, u, h => by
    by_cases h10 : u < 10
    · rw [dd_small h10]; simp
    · rw [dd_big h10]
      have := dd_len k (u / 10) (by rw [Nat.pow_succ] at h; omega)
      simp; omega

/-- The word of an error. -/
def wordL (e : Int) : ByteArray :=
  if e = 2 then ⟨#[116, 111, 111, 32, 108, 111, 110, 103]⟩ else
  if e = 3 then ⟨#[116, 111, 107, 101, 110]⟩ else
  if e = 4 then ⟨#[116, 111, 111, 32, 109, 97, 110, 121, 32, 116, 111, 107, 101, 110, 115]⟩ else
  if e = 5 then ⟨#[116, 111, 111, 32, 100, 101, 101, 112]⟩ else
  if e = 6 then ⟨#[115, 121, 110, 116, 97, 120]⟩ else
  if e = 8 then ⟨#[110, 97, 109, 101]⟩ else
  if e = 9 then ⟨#[116, 111, 111, 32, 99, 111, 109, 112, 108, 101, 120]⟩ else
  if e = 10 then ⟨#[116, 121, 112, 101]⟩ else ⟨#[101, 114, 114, 111, 114]⟩
theorem word_2 : wordL 2 = ⟨#[116, 111, 111, 32, 108, 111, 110, 103]⟩ := by decide +kernel
theorem word_3 : wordL 3 = ⟨#[116, 111, 107, 101, 110]⟩ := by decide +kernel
theorem word_4 : wordL 4 = ⟨#[116, 111, 111, 32, 109, 97, 110, 121, 32, 116, 111, 107, 101, 110, 115]⟩ := by decide +kernel
theorem word_5 : wordL 5 = ⟨#[116, 111, 111, 32, 100, 101, 101, 112]⟩ := by decide +kernel
theorem word_6 : wordL 6 = ⟨#[115, 121, 110, 116, 97, 120]⟩ := by decide +kernel
theorem word_8 : wordL 8 = ⟨#[110, 97, 109, 101]⟩ := by decide +kernel
theorem word_9 : wordL 9 = ⟨#[116, 111, 111, 32, 99, 111, 109, 112, 108, 101, 120]⟩ := by decide +kernel
theorem word_10 : wordL 10 = ⟨#[116, 121, 112, 101]⟩ := by decide +kernel
theorem word_no {e : Int} (h : e ≠ 2 ∧ e ≠ 3 ∧ e ≠ 4 ∧ e ≠ 5 ∧ e ≠ 6 ∧ e ≠ 8 ∧ e ≠ 9 ∧ e ≠ 10) : wordL e = ⟨#[101, 114, 114, 111, 114]⟩ := by
  unfold wordL
  rw [if_neg (by omega), if_neg (by omega), if_neg (by omega), if_neg (by omega), if_neg (by omega), if_neg (by omega), if_neg (by omega), if_neg (by omega)]

set_option maxRecDepth 100000 in
theorem word_calls (e : Int) (w : World) :
    Calls Tryd.prog 89 #[.int .i64 e] w fun x w' => x = .returned (.string (wordL e)) ∧ w' = w := by
  rcases (show e = 2 ∨ e = 3 ∨ e = 4 ∨ e = 5 ∨ e = 6 ∨ e = 8 ∨ e = 9 ∨ e = 10 ∨ (e ≠ 2 ∧ e ≠ 3 ∧ e ≠ 4 ∧ e ≠ 5 ∧ e ≠ 6 ∧ e ≠ 8 ∧ e ≠ 9 ∧ e ≠ 10) by omega) with rfl | rfl | rfl | rfl | rfl | rfl | rfl | rfl | h
  · go_enter Tryd.func89, Tryd.ntmps89
    go_wp2
    go_ret
    exact ⟨ret_val (by rw [word_2]; rfl), rfl⟩
  · go_enter Tryd.func89, Tryd.ntmps89
    go_wp2
    go_ret
    exact ⟨ret_val (by rw [word_3]; rfl), rfl⟩
  · go_enter Tryd.func89, Tryd.ntmps89
    go_wp2
    go_ret
    exact ⟨ret_val (by rw [word_4]; rfl), rfl⟩
  · go_enter Tryd.func89, Tryd.ntmps89
    go_wp2
    go_ret
    exact ⟨ret_val (by rw [word_5]; rfl), rfl⟩
  · go_enter Tryd.func89, Tryd.ntmps89
    go_wp2
    go_ret
    exact ⟨ret_val (by rw [word_6]; rfl), rfl⟩
  · go_enter Tryd.func89, Tryd.ntmps89
    go_wp2
    go_ret
    exact ⟨ret_val (by rw [word_8]; rfl), rfl⟩
  · go_enter Tryd.func89, Tryd.ntmps89
    go_wp2
    go_ret
    exact ⟨ret_val (by rw [word_9]; rfl), rfl⟩
  · go_enter Tryd.func89, Tryd.ntmps89
    go_wp2
    go_ret
    exact ⟨ret_val (by rw [word_10]; rfl), rfl⟩
  · have hw := Lib.hid (word_no h)
    have e2 : (e == 2) = false := by simp; omega
    have e3 : (e == 3) = false := by simp; omega
    have e4 : (e == 4) = false := by simp; omega
    have e5 : (e == 5) = false := by simp; omega
    have e6 : (e == 6) = false := by simp; omega
    have e8 : (e == 8) = false := by simp; omega
    have e9 : (e == 9) = false := by simp; omega
    have e10 : (e == 10) = false := by simp; omega
    clear h
    go_enter Tryd.func89, Tryd.ntmps89
    go_wp2
    go_ret
    exact ⟨ret_val (by rw [hw.out]; rfl), rfl⟩

set_option maxRecDepth 100000 in
theorem refword_calls (e : Int) (w : World) :
    Calls Tryd.prog 92 #[.int .i64 e] w fun x w' => x = .returned (.string (wordL e)) ∧ w' = w := by
  rcases (show e = 2 ∨ e = 3 ∨ e = 4 ∨ e = 5 ∨ e = 6 ∨ e = 8 ∨ e = 9 ∨ e = 10 ∨ (e ≠ 2 ∧ e ≠ 3 ∧ e ≠ 4 ∧ e ≠ 5 ∧ e ≠ 6 ∧ e ≠ 8 ∧ e ≠ 9 ∧ e ≠ 10) by omega) with rfl | rfl | rfl | rfl | rfl | rfl | rfl | rfl | h
  · go_enter Tryd.func92, Tryd.ntmps92
    go_wp2
    go_ret
    exact ⟨ret_val (by rw [word_2]; rfl), rfl⟩
  · go_enter Tryd.func92, Tryd.ntmps92
    go_wp2
    go_ret
    exact ⟨ret_val (by rw [word_3]; rfl), rfl⟩
  · go_enter Tryd.func92, Tryd.ntmps92
    go_wp2
    go_ret
    exact ⟨ret_val (by rw [word_4]; rfl), rfl⟩
  · go_enter Tryd.func92, Tryd.ntmps92
    go_wp2
    go_ret
    exact ⟨ret_val (by rw [word_5]; rfl), rfl⟩
  · go_enter Tryd.func92, Tryd.ntmps92
    go_wp2
    go_ret
    exact ⟨ret_val (by rw [word_6]; rfl), rfl⟩
  · go_enter Tryd.func92, Tryd.ntmps92
    go_wp2
    go_ret
    exact ⟨ret_val (by rw [word_8]; rfl), rfl⟩
  · go_enter Tryd.func92, Tryd.ntmps92
    go_wp2
    go_ret
    exact ⟨ret_val (by rw [word_9]; rfl), rfl⟩
  · go_enter Tryd.func92, Tryd.ntmps92
    go_wp2
    go_ret
    exact ⟨ret_val (by rw [word_10]; rfl), rfl⟩
  · have hw := Lib.hid (word_no h)
    have e2 : (e == 2) = false := by simp; omega
    have e3 : (e == 3) = false := by simp; omega
    have e4 : (e == 4) = false := by simp; omega
    have e5 : (e == 5) = false := by simp; omega
    have e6 : (e == 6) = false := by simp; omega
    have e8 : (e == 8) = false := by simp; omega
    have e9 : (e == 9) = false := by simp; omega
    have e10 : (e == 10) = false := by simp; omega
    clear h
    go_enter Tryd.func92, Tryd.ntmps92
    go_wp2
    go_ret
    exact ⟨ret_val (by rw [hw.out]; rfl), rfl⟩

set_option maxRecDepth 100000 in
theorem digits_calls (v : Int) (w : World) (h0 : -9223372036854775808 ≤ v) (h1 : v ≤ 9223372036854775807) :
    Calls Tryd.prog 91 #[.int .i64 v] w fun e w' => e = .returned (.string ⟨(Lib.itoa v).toArray⟩) ∧ Below w.heap.size w w' := by
  rcases Int.lt_or_le v 0 with hv | hv
  · obtain ⟨n, rfl⟩ : ∃ n : Nat, v = -(n : Int) := ⟨v.natAbs, by omega⟩
    have hi : Lib.itoa (-(n : Int)) = 45 :: Lib.decDigits n := by
      unfold Lib.itoa; rw [if_pos hv]; simp
    have HI := Lib.hid hi
    have HN := Lib.hid (natural_calls n w (by omega))
    have hl : (Lib.decDigits n).length ≤ 100 := by
      have h18 : n < 10 ^ (19 + 1) := Nat.lt_of_le_of_lt (show n ≤ 9223372036854775808 by omega) (by decide)
      have := dd_len 19 n h18
      omega
    clear hi
    go_enter Tryd.func91, Tryd.ntmps91
    go_wp2_with (fail)
    rw [show (-(-(n : Int) + 1) + 1) = (n : Int) by omega]
    refine HN.out.mono ?_
    rintro e W ⟨rfl, hb⟩
    have BW := Lib.hid hb
    clear hb HN
    go_wp2_with (fail)
    go_ret
    refine ⟨ret_val ?_, BW.out⟩
    rw [HI.out]
    show Value.string _ = Value.string _
    congr 1
  · obtain ⟨n, rfl⟩ : ∃ n : Nat, v = (n : Int) := ⟨v.natAbs, by omega⟩
    have hi : Lib.itoa (n : Int) = Lib.decDigits n := by
      unfold Lib.itoa; rw [if_neg (by omega)]; simp
    have HI := Lib.hid hi
    have HN := Lib.hid (natural_calls n w (by omega))
    clear hi
    go_enter Tryd.func91, Tryd.ntmps91
    go_wp2_with (fail)
    refine HN.out.mono ?_
    rintro e W ⟨rfl, hb⟩
    have BW := Lib.hid hb
    clear hb HN
    go_wp2_with (fail)
    go_ret
    exact ⟨ret_val (by rw [HI.out]; rfl), BW.out⟩

def scells (ss : List ByteArray) : List Value := ss.map .string
/-- Lines, each with its end. -/
def rowsL (ss : List ByteArray) : List UInt8 := ss.flatMap fun s => s.data.toList ++ [10]
theorem rowsL_snoc (ss : List ByteArray) (s : ByteArray) : rowsL (ss ++ [s]) = rowsL ss ++ s.data.toList ++ [10] := by simp [rowsL]
theorem rowsL_take (ss : List ByteArray) (k : Nat) (h : k < ss.length) : rowsL (ss.take (k + 1)) = rowsL (ss.take k) ++ ss[k].data.toList ++ [10] := by
  rw [List.take_succ_eq_append_getElem h, rowsL_snoc]
theorem rowsL_take_le (ss : List ByteArray) (k : Nat) : (rowsL (ss.take k)).length ≤ (rowsL ss).length := by
  have h : rowsL ss = rowsL (ss.take k) ++ rowsL (ss.drop k) := by
    unfold rowsL
    rw [← List.flatMap_append, List.take_append_drop]
  rw [h, List.length_append]
  omega
theorem strs_at {w : World} {A : Option Addr} {ss : List ByteArray} (h : Cells w A (scells ss)) (i : Nat) (hi : i < ss.length) : ∃ a, A = some a ∧ w.cell? (a.add i) = some (.string ss[i]) := by
  obtain ⟨a, rfl, hc⟩ := h i (by simpa [scells] using hi)
  exact ⟨a, rfl, by rw [hc]; simp [scells]⟩

set_option maxRecDepth 100000 in
theorem rows_calls (A : Option Addr) (c : Nat) (ss : List ByteArray) (w : World) (hl : ss.length ≤ 1000000) (hsz : (rowsL ss).length ≤ 1000000000) (hc : Cells w A (scells ss)) :
    Calls Tryd.prog 87 #[.slice A ss.length c] w fun e w' => e = .returned (.string ⟨(rowsL ss).toArray⟩) ∧ Below w.heap.size w w' := by
  have HC := Lib.hid hc
  clear hc
  go_enter Tryd.func87, Tryd.ntmps87
  go_wp2_with (fail)
  go_loopw [8] (fun v wr => ∃ k : Nat, v = .int .i64 k ∧ k ≤ ss.length ∧ Bld w.heap.size (rowsL (ss.take k)) wr ∧ Below w.heap.size w wr) (fun v _ => ss.length - (intOf v).toNat)
  case atStart => exact ⟨0, rfl, by omega, Bld.new w, (Below.refl _ _).alloc (Nat.le_refl _) _⟩
  case round =>
    obtain ⟨k, rfl, hk, hbl, hb⟩ := hrel
    have htl := rowsL_take_le ss k
    by_cases hlt : k < ss.length
    · obtain ⟨a, rfl, hcell⟩ := strs_at (HC.out.below hb) k hlt
      have hts := rowsL_take ss k hlt
      have htl2 := rowsL_take_le ss (k + 1)
      have hlen : (rowsL (ss.take k)).length + ss[k].size + 1 ≤ 1000000000 := by
        rw [hts] at htl2
        have : ss[k].data.toList.length = ss[k].size := rfl
        simp only [List.length_append, List.length_singleton] at htl2
        omega
      have HT := Lib.hid hts
      have HB := Lib.hid hb
      have HW := Lib.hid (writeString_calls w.heap.size (rowsL (ss.take k)) ss[k] wr hbl (by omega))
      clear hts htl2 htl hb
      go_wp2_with (fail)
      refine HW.out.mono ?_
      rintro e W2 ⟨rfl, hb2, hs2⟩
      have HW2 := Lib.hid (writeByte_calls w.heap.size (rowsL (ss.take k) ++ ss[k].data.toList) 10 W2 hb2 (by have : ss[k].data.toList.length = ss[k].size := rfl; rw [List.length_append]; omega))
      go_wp2_with (fail)
      refine HW2.out.mono ?_
      rintro e W3 ⟨rfl, hb3, hs3⟩
      rw [← HT.out] at hb3
      have hB3 := (HB.out.trans hs2.1).trans hs3.1
      clear HW HW2 hs2 hs3 hb2 HT HB
      go_wp2_with (fail)
      exact ⟨⟨k + 1, by simp, by omega, hb3, hB3⟩, by simp [intOf]; omega⟩
    · have hkl : k = ss.length := by omega
      rw [hkl, List.take_of_length_le (Nat.le_refl _)] at hbl
      have HW := Lib.hid (string_calls w.heap.size (rowsL ss) wr hbl)
      have HB := Lib.hid hb
      clear hb htl
      go_wp2_with (fail)
      refine HW.out.mono ?_
      rintro e W2 ⟨rfl, hs2⟩
      go_wp2_with (fail)
      go_ret
      exact ⟨rfl, HB.out.trans hs2.1⟩
end Go.Proofs.YtnepdjgbfhakmaaDoor
