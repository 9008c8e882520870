/- shuckref19.Outcome. -/
import Derived.Test.YtnepdjgbfhakmaaDoorOutc
namespace Go.Proofs.YtnepdjgbfhakmaaDoor
set_option linter.unusedVariables false
set_option linter.unusedSimpArgs false
open Go.RowKit Go.Shelf
attribute [local go_sem] Oper.semAt_some

set_option maxRecDepth 100000 in
set_option maxHeartbeats 4000000 in
theorem refoutcome_calls (e : Int) (th : ByteArray) (A : Option Addr) (c : Nat) (os : List ByteArray) (st cl : Int) (w : World) (hst : -9223372036854775808 ≤ st ∧ st ≤ 9223372036854775807) (hth : th.size ≤ 100000) (hl : os.length ≤ 100000) (hsz : (rowsL os).length ≤ 100000)
    (hc : Cells w A (scells os)) :
    Calls Tryd.prog 63 #[.agg #[.int .i64 e, .string th, .slice A os.length c, .int .i64 st, .int .i64 cl]] w fun x w' => x = .returned (.string (outcS e th os st)) ∧ Below w.heap.size w w' := by
  have HC := Lib.hid hc
  have i1 := OcI.start w e th A os.length c st cl
  obtain ⟨W1, hW1⟩ : ∃ W1, w.alloc (.cells (ocells e th A os.length c st cl) 80) = W1 := ⟨_, rfl⟩
  rw [hW1] at i1
  have HW1 := Lib.hid hW1
  have HI := Lib.hid i1
  have q0 : W1.cell? ⟨w.heap.size, 0, none⟩ = some (.int .i64 e) := by simp [World.cell?, i1.2]
  have q1 : W1.cell? ⟨w.heap.size, 1, none⟩ = some (.string th) := by simp [World.cell?, i1.2]
  have q2 : W1.cell? ⟨w.heap.size, 2, none⟩ = some (.slice A os.length c) := by simp [World.cell?, i1.2]
  have q3 : W1.cell? ⟨w.heap.size, 3, none⟩ = some (.int .i64 st) := by simp [World.cell?, i1.2]
  have HQ := Lib.hid (refquote_calls th W1 (by omega))
  clear hc i1 hW1
  go_enter Tryd.func63, Tryd.ntmps63
  go_wp2_with (fail)
  rw [HW1.out]
  go_loopw [3, 4] (fun u v wr => ∃ (s : ByteArray) (k : Nat), u = .string s ∧ v = .int .i64 k ∧ k ≤ os.length ∧ Hid (s.data.toList = rowsL (os.take k)) ∧ W1 = wr) (fun _ v _ => os.length - (intOf v).toNat)
  case atStart => exact ⟨_, 0, rfl, rfl, by omega, Lib.hid (by simp [rowsL]), rfl⟩
  case round =>
    obtain ⟨s, k, rfl, rfl, hk, hs, rfl⟩ := hrel
    have hss : s.size ≤ 100000 := by
      have h1 := rowsL_take_le os k
      have h2 := congrArg List.length hs.out
      have h3 : s.data.toList.length = s.size := rfl
      omega
    by_cases hlt : k < os.length
    · obtain ⟨a, rfl, hcell⟩ := strs_at (HC.out.below HI.out.1) k hlt
      have hts := rowsL_take os k hlt
      have hz : os[k].size ≤ 100000 := by
        have h2 := rowsL_take_le os (k + 1)
        rw [hts] at h2
        have h3 : os[k].data.toList.length = os[k].size := rfl
        simp only [List.length_append, List.length_singleton] at h2
        omega
      obtain ⟨x, hx⟩ : ∃ x, os[k] = x := ⟨_, rfl⟩
      rw [hx] at hts hz hcell
      have HT := Lib.hid hts
      clear hts hx
      go_wp2_with (fail)
      refine ⟨⟨_, k + 1, rfl, by simp, by omega, Lib.hid ?_, trivial⟩, by simp [intOf]; omega⟩
      rw [HT.out, ← hs.out]
      simp
    · have hkl : k = os.length := by omega
      rw [hkl, List.take_of_length_le (Nat.le_refl _)] at hs
      clear hkl
      go_upto_block 2 with (fail)
      go_cut [3] from 22 to 51 (fun v3 wc => ∃ b : ByteArray, v3 = .string b ∧ b = s ++ endS e th ∧ OcI w e th A os.length c st cl wc)
      case first =>
        rcases (show e = 1 ∨ e = 2 ∨ e = 3 ∨ e = 4 ∨ e = 5 ∨ e = 6 ∨ (e ≠ 1 ∧ e ≠ 2 ∧ e ≠ 3 ∧ e ≠ 4 ∧ e ≠ 5 ∧ e ≠ 6) by omega) with rfl | rfl | rfl | rfl | rfl | rfl | h
        · go_wp2_with (fail)
          go_meet
          exact ⟨_, rfl, by rw [end_1], HI.out⟩
        · have hq := quoteL_size th
          obtain ⟨Q, hQ⟩ : ∃ Q : ByteArray, ⟨(quoteL th.data.toList).toArray⟩ = Q := ⟨_, rfl⟩
          have h2 := end_2 th
          rw [hQ] at HQ h2 hq
          have H2 := Lib.hid h2
          have hk1 : ¬ 9223372036854775807 < s.size + 6 := by omega
          have hk2 : ¬ 9223372036854775807 < s.size + 6 + Q.size := by omega
          clear hQ h2
          go_wp2_with (fail)
          refine HQ.out.mono ?_
          rintro e W2 ⟨rfl, b2⟩
          have i2 := Lib.hid (HI.out.below b2)
          clear b2 HI HW1 HQ
          go_wp2_with (fail)
          go_meet
          exact ⟨_, rfl, by rw [H2.out, ByteArray.append_assoc], i2.out⟩
        · go_wp2_with (fail)
          go_meet
          exact ⟨_, rfl, by rw [end_3], HI.out⟩
        · go_wp2_with (fail)
          go_meet
          exact ⟨_, rfl, by rw [end_4], HI.out⟩
        · go_wp2_with (fail)
          go_meet
          exact ⟨_, rfl, by rw [end_5], HI.out⟩
        · go_wp2_with (fail)
          go_meet
          exact ⟨_, rfl, by rw [end_6], HI.out⟩
        · have e1 : (e == 1) = false := by simp; omega
          have e2 : (e == 2) = false := by simp; omega
          have e3 : (e == 3) = false := by simp; omega
          have e4 : (e == 4) = false := by simp; omega
          have e5 : (e == 5) = false := by simp; omega
          have e6 : (e == 6) = false := by simp; omega
          have hn := Lib.hid (end_no th h)
          clear h
          go_wp2_with (fail)
          go_meet
          exact ⟨_, rfl, by rw [hn.out], HI.out⟩
      case rest =>
        obtain ⟨b, rfl, hb, hI⟩ := hcut
        have zb : b.size ≤ 2000000 := by
          have h1 := endS_size e th
          rw [hb, ByteArray.size_append]
          omega
        obtain ⟨S1, hS1⟩ : ∃ S1 : ByteArray, ⟨(Lib.itoa st).toArray⟩ = S1 := ⟨_, rfl⟩
        have z1 : S1.size ≤ 100 := by have := itoa_size st hst; rwa [hS1] at this
        have c3 : wc.cell? ⟨w.heap.size, 3, none⟩ = some (.int .i64 st) := by simp [World.cell?, hI.2]
        have hD := digits_calls st wc hst.1 hst.2
        rw [hS1] at hD
        have HD := Lib.hid hD
        have HI2 := Lib.hid hI
        have HB := Lib.hid hb
        have HS1 := Lib.hid hS1
        have k1 : ¬ 9223372036854775807 < b.size + 1 := by omega
        have k2 : ¬ 9223372036854775807 < b.size + 1 + S1.size := by omega
        have k3 : ¬ 9223372036854775807 < b.size + 1 + S1.size + 7 := by omega
        clear hD hI hb hS1 q0 q1 q2 q3 HI HW1 HQ
        go_wp2_with (fail)
        refine HD.out.mono ?_
        rintro x W2 ⟨rfl, b2⟩
        have i2 := Lib.hid (HI2.out.below b2)
        clear b2 HI2 c3 HD
        go_wp2_with (fail)
        go_ret
        refine ⟨ret_val ?_, i2.out.1⟩
        unfold outcS lastS
        rw [HB.out, HS1.out]
        show Value.string (s ++ endS e th ++ ⟨#[32]⟩ ++ S1 ++ ⟨#[32, 115, 116, 101, 112, 115, 10]⟩) = Value.string _
        congr 1
        apply ByteArray.ext
        apply Array.ext'
        have q := hs.out
        rw [rowsL_snoc, ← q]
        simp
end Go.Proofs.YtnepdjgbfhakmaaDoor
