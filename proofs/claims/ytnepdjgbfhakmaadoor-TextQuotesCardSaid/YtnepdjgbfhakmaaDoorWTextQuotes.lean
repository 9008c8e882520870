/- TextQuotes: the walk. -/
import Derived.Test.YtnepdjgbfhakmaaDoorRefQuote
import Derived.Test.YtnepdjgbfhakmaaDoorQuoteLaw
namespace Go.Proofs.YtnepdjgbfhakmaaDoor
set_option linter.unusedVariables false
set_option linter.unusedSimpArgs false
open Go.RowKit Go.Shelf
attribute [local go_sem] Oper.semAt_some

set_option maxRecDepth 100000 in
theorem textQuotes_walk (w : World) (s : ByteArray) (hs : s.size ≤ 140737488351232) (hT : Tz16 w) (hw : 3 < w.heap.size) :
    Calls Tryd.prog 7 #[.string s] w fun e w' => e = .returned (.bool true) ∧ Below w.heap.size w w' := by
  go_enter Tryd.func7, Tryd.ntmps7
  by_cases hlen : 4000 < s.size
  · go_wp2
    go_ret
    exact ⟨rfl, Below.refl _ _⟩
  · have hq := quote_calls s w (by omega) hT hw
    have hr := fun w' => refquote_calls s w' (by omega)
    obtain ⟨L, hL⟩ : ∃ L, L = quoteL s.data.toList := ⟨_, rfl⟩
    have hat := quoteL_at s.data.toList
    have hbd := quoteL_body s.data.toList
    rw [← hL] at hq hr hat hbd
    have HQ := Lib.hid hq
    have HR := Lib.hid hr
    have hLe := Lib.hid hL
    clear hq hr hL
    obtain ⟨q, hqe⟩ : ∃ q : ByteArray, q = ⟨L.toArray⟩ := ⟨_, rfl⟩
    have hqz : q.size = L.length := by rw [hqe]; show L.toArray.size = _; simp
    have hqg : ∀ (i : Nat) (h : i < q.size), (q[i]'h) = L.getD i 0 := by
      intro i hi
      subst hqe
      show L.toArray[i]'_ = _
      have : i < L.length := by rw [← hqz]; exact hi
      simp [List.getD, this]
    have hL2 : 2 ≤ L.length := by rw [hbd]; simp
    have hLs : L.length ≤ 100000 := by
      have h1 := quoteP_length (runes s.data.toList)
      have h2 := runes_length s.data.toList
      have h3 : s.data.toList.length = s.size := rfl
      have h4 : L.length = (quoteP (runes s.data.toList)).length + 1 := by rw [hLe.out]; simp [quoteL]
      omega
    have hq0 : L.getD 0 0 = 34 := by rw [hbd]; rfl
    have hq1 : L.getD (L.length - 1) 0 = 34 := by rw [hbd]; simp
    rw [← hqe] at HQ HR
    have e0 : (((q[0]'(by omega)).toNat : Int) != 34) = false := by rw [hqg, hq0]; rfl
    have e1 : (((q[L.length - 1]'(by omega)).toNat : Int) != 34) = false := by rw [hqg, hq1]; rfl
    have HQG := Lib.hid hqg
    have HAT := Lib.hid hat
    clear hbd hqe hqg hat hq0 hq1
    go_wp2_with (fail)
    refine HQ.out.mono ?_
    rintro e w4 ⟨rfl, hb4⟩
    go_wp2_with (fail)
    refine (HR.out w4).mono ?_
    rintro e w5 ⟨rfl, hb5⟩
    have hbw5 := hb4.trans (hb5.mono hb4.size)
    go_wp2_with (fail)
    go_loopw [4] (fun v wr => ∃ k : Nat, v = .int .i64 k ∧ 1 ≤ k ∧ k ≤ L.length ∧ w5 = wr) (fun v _ => L.length - (intOf v).toNat)
    case atStart => exact ⟨1, rfl, by omega, by omega, rfl⟩
    case round =>
      obtain ⟨k, rfl, hk1, hk2, rfl⟩ := hrel
      by_cases hlt : k < L.length - 1
      · have hkq : k < q.size := by omega
        have hkq1 : k - 1 < q.size := by omega
        have hok := HAT.out k hk1 (by omega)
        have hg0 := HQG.out k hkq
        have hg1 := HQG.out (k - 1) hkq1
        unfold okB at hok
        rw [← hg0, ← hg1] at hok
        simp only [Bool.and_eq_true, Bool.or_eq_true, decide_eq_true_eq] at hok
        obtain ⟨⟨a1, a2⟩, a3⟩ := hok
        have f1 : decide (((q[k]'hkq).toNat : Int) < 32) = false := by simp; omega
        have f2 : (((q[k]'hkq).toNat : Int) == 127) = false := by simp; omega
        by_cases h34 : (q[k]'hkq).toNat = 34
        · have f3 : (((q[k]'hkq).toNat : Int) == 34) = true := by simp; omega
          have f4 : (((q[k - 1]'hkq1).toNat : Int) != 92) = false := by
            have := a3.resolve_left (fun h => h h34)
            simp; omega
          clear hg0 hg1 a1 a2 a3 h34
          go_wp2_with (fail)
          exact ⟨⟨k + 1, by simp, by omega, by omega, trivial⟩, by simp [intOf]; omega⟩
        · have f3 : (((q[k]'hkq).toNat : Int) == 34) = false := by simp; omega
          clear hg0 hg1 a1 a2 a3 h34
          go_wp2_with (fail)
          exact ⟨⟨k + 1, by simp, by omega, by omega, trivial⟩, by simp [intOf]; omega⟩
      · have HK := Lib.hid (known_calls w5 (hT.below hbw5 hw) (by have := hbw5.size; omega))
        go_wp2_with (fail)
        refine HK.out.mono ?_
        rintro e w8 ⟨rfl, hb8⟩
        have hbw8 := hbw5.trans (hb8.mono hbw5.size)
        go_wp2
        go_ret
        exact ⟨rfl, hbw8⟩
end Go.Proofs.YtnepdjgbfhakmaaDoor
