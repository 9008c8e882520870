/- ReportMarks: the walk. -/
import Derived.Test.YtnepdjgbfhakmaaDoorRepMarks
namespace Go.Proofs.YtnepdjgbfhakmaaDoor
set_option linter.unusedVariables false
set_option linter.unusedSimpArgs false
open Go.RowKit Go.Shelf
attribute [local go_sem] Oper.semAt_some

set_option maxRecDepth 100000 in
set_option maxHeartbeats 1000000 in
theorem reportMarks_walk (w : World) (A : Option Addr) (c : Nat) (bs : List UInt8) (hl : bs.length ≤ 140737488351232) (hcap : bs.length ≤ c) (hmax : c ≤ maxLen) (h0 : A = none → bs.length = 0 ∧ c = 0) (hc : Cells w A (bcells bs)) (i : Int) (hi : (Lit.int .i64 i).wf = true) (hT16 : Tz16 w) (hw16 : 3 < w.heap.size) (hT : Pw10 w) :
    Calls Tryd.prog 16 #[.slice A bs.length c, .int .i64 i] w fun e w' => e = .returned (.bool true) ∧ Below w.heap.size w w' := by
  have hwi : -9223372036854775808 ≤ i ∧ i ≤ 9223372036854775807 := by
    simpa [Lit.wf, show IntKind.i64.min = -9223372036854775808 from rfl, show IntKind.i64.max = 9223372036854775807 from rfl] using hi
  go_enter Tryd.func16, Tryd.ntmps16
  have HC := Lib.hid hc
  have HN := Lib.hid h0
  clear hc h0 hi
  by_cases hlen : 2500 < bs.length
  · go_wp2
    go_ret
    exact ⟨rfl, Below.refl _ _⟩
  · have HO := Lib.hid (output_calls A c bs 8 i ⟨#[]⟩ w (by omega) hcap hwi HN.out HC.out hT)
    obtain ⟨n3, n9, n2, nx⟩ := out_counts bs i
    obtain ⟨s, hs⟩ : ∃ s, outS bs 8 i ⟨#[]⟩ = s := ⟨_, rfl⟩
    rw [hs] at HO n3 n9 n2 nx
    have hsz : s.size ≤ 2000000 := by rw [← hs]; exact out_size bs 8 i ⟨#[]⟩ (by omega) (by decide)
    have N3 := Lib.hid n3
    have N9 := Lib.hid n9
    have NX := Lib.hid nx
    clear n3 n9 nx hs
    go_wp2_with (fail)
    refine HO.out.mono ?_
    rintro e W ⟨rfl, hb⟩
    have HB := Lib.hid hb
    clear hb HO
    go_wp2_with (fail)
    go_loopw [6, 7] (fun u v wr => ∃ k : Nat, u = .int .i64 ((s.data.toList.take k).count 10 : Nat) ∧ v = .int .i64 k ∧ k ≤ s.size ∧ W = wr) (fun _ v _ => s.size - (intOf v).toNat)
    case atStart => exact ⟨0, rfl, rfl, by omega, rfl⟩
    case round =>
      obtain ⟨k, rfl, rfl, hk, rfl⟩ := hrel
      have hct : (s.data.toList.take k).count 10 ≤ 2000000 := by
        have := List.count_le_length (a := (10 : UInt8)) (l := s.data.toList.take k)
        have h2 : s.data.toList.length = s.size := rfl
        rw [List.length_take] at this
        omega
      by_cases hlt : k < s.size
      · have hkl : k < s.data.toList.length := hlt
        have hts : s.data.toList.take (k + 1) = s.data.toList.take k ++ [s[k]] := by
          rw [List.take_succ_eq_append_getElem hkl]; rfl
        have hcs : (s.data.toList.take (k + 1)).count 10 = (s.data.toList.take k).count 10 + if s[k] = 10 then 1 else 0 := by
          rw [hts, List.count_append, List.count_singleton]
          simp
        have h9 := N9.out s[k] (by have := List.getElem_mem hkl; exact this)
        have f1 : (((s[k]'hlt).toNat : Int) == 9) = false := by
          have := h9.1
          simp only [beq_eq_false_iff_ne]
          intro h
          exact this (UInt8.toNat_inj.1 (by have : (9 : UInt8).toNat = 9 := rfl; omega))
        have f2 : (((s[k]'hlt).toNat : Int) == 13) = false := by
          have := h9.2
          simp only [beq_eq_false_iff_ne]
          intro h
          exact this (UInt8.toNat_inj.1 (by have : (13 : UInt8).toNat = 13 := rfl; omega))
        clear hts h9
        by_cases h10 : s[k]'hlt = 10
        · have f3 : (((s[k]'hlt).toNat : Int) == 10) = true := by rw [h10]; rfl
          rw [if_pos h10] at hcs
          have HCS := Lib.hid hcs
          clear hcs h10
          go_wp2_with (fail)
          exact ⟨⟨k + 1, by rw [HCS.out]; simp, by simp, by omega, trivial⟩, by simp [intOf]; omega⟩
        · have f3 : (((s[k]'hlt).toNat : Int) == 10) = false := by
            simp only [beq_eq_false_iff_ne]
            intro h
            exact h10 (UInt8.toNat_inj.1 (by have : (10 : UInt8).toNat = 10 := rfl; omega))
          rw [if_neg h10] at hcs
          have HCS := Lib.hid hcs
          clear hcs h10
          go_wp2_with (fail)
          exact ⟨⟨k + 1, by rw [HCS.out]; simp, by simp, by omega, trivial⟩, by simp [intOf]; omega⟩
      · have hkl : k = s.size := by omega
        have htk : (s.data.toList.take k).count 10 = 3 := by
          rw [hkl, List.take_of_length_le (show s.data.toList.length ≤ s.size from Nat.le_refl _), N3.out]
        have HK := Lib.hid (known19_calls W (hT.below HB.out))
        rw [htk]
        have hxt : (s.extract (s.size - 2) s.size).toList = [94, 10] := by rw [NX.out]; decide +kernel
        clear htk hct
        go_wp2_with (fail)
        refine HK.out.mono ?_
        rintro e w8 ⟨rfl, hb8⟩
        have hbw8 := HB.out.trans (hb8.mono HB.out.size)
        go_wp2
        go_ret
        exact ⟨rfl, hbw8⟩
end Go.Proofs.YtnepdjgbfhakmaaDoor
