/- shuckref1.Place: it answers what text.Place answers. -/
import Derived.Test.YtnepdjgbfhakmaaDoorLaw1
import Derived.Deep.CutRange
namespace Go.Proofs.YtnepdjgbfhakmaaDoor
set_option linter.unusedVariables false
set_option linter.unusedSimpArgs false
open Go.RowKit Go.Shelf
attribute [local go_sem] Oper.semAt_some

set_option maxRecDepth 100000 in
theorem refplace_calls (A : Option Addr) (c : Nat) (bs : List UInt8) (i : Int) (w : World) (hl : bs.length ≤ 1000000000000) (hcap : bs.length ≤ c) (hc : Cells w A (bcells bs)) :
    Calls Tryd.prog 31 #[.slice A bs.length c, .int .i64 i] w fun e w' =>
      e = .returned (.tuple #[.int .i64 ((placeL bs i).1 : Int), .int .i64 ((placeL bs i).2 : Int)]) ∧ Below w.heap.size w w' := by
  obtain ⟨a, ha⟩ : ∃ a, a = clampN bs i := ⟨_, rfl⟩
  have hal : a ≤ bs.length := by rw [ha]; unfold clampN; omega
  have hpl : placeL bs i = ((nl (bs.take a) 0 (1, 0)).1, 1 + colF bs.length (nl (bs.take a) 0 (1, 0)).2 (bs.drop (nl (bs.take a) 0 (1, 0)).2) a) := by rw [ha]; rfl
  have HPL := Lib.hid hpl
  clear hpl
  have hcs : (i < 0 ∧ a = 0) ∨ (0 ≤ i ∧ i ≤ bs.length ∧ i = a) ∨ (bs.length < i ∧ a = bs.length) := by rw [ha]; unfold clampN; omega
  have HCS := Lib.hid hcs
  have HC := Lib.hid hc
  clear ha hcs hc
  go_enter Tryd.func31, Tryd.ntmps31
  go_upto_if 12 with (fail)
  go_cut [1] from 11 to 12 (fun v1 wc => v1 = .int .i64 (if i < 0 then 0 else i) ∧ w = wc)
  case first =>
    by_cases h : i < 0
    · go_wp2
      go_meet
      case rel => exact ⟨by rw [if_pos h], rfl⟩
    · go_wp2
      go_meet
      case rel => exact ⟨by rw [if_neg (by omega)], rfl⟩
  case rest =>
    obtain ⟨rfl, rfl⟩ := hcut
    obtain ⟨j, hj⟩ : ∃ j : Int, j = if i < 0 then 0 else i := ⟨_, rfl⟩
    have hj2 : (j ≤ bs.length ∧ j = a) ∨ (bs.length < j ∧ a = bs.length) := by
      have := HCS.out
      rw [hj]; split <;> omega
    rw [← hj]
    have HJ := Lib.hid hj
    clear hj HCS
    go_upto_if 16 with (fail)
    go_cut [1] from 13 to 16 (fun v1 wc => v1 = .int .i64 a ∧ w = wc)
    case first =>
      rcases hj2 with ⟨h1, h2⟩ | ⟨h1, h2⟩
      · go_wp2
        go_meet
        case rel => exact ⟨by rw [h2], rfl⟩
      · go_wp2
        go_meet
        case rel => exact ⟨by rw [h2], rfl⟩
    case rest =>
      obtain ⟨rfl, rfl⟩ := hcut
      clear hj2 HJ
      go_wp2_with (fail)
      obtain ⟨L, hL⟩ : ∃ L, L = bs.take a := ⟨_, rfl⟩
      have hLl : L.length = a := by rw [hL]; simp; omega
      have hcA : Cells w A (bcells L) := by
        have := HC.out.take_ a
        rwa [show (bcells bs).take a = bcells (bs.take a) by simp [bcells, List.map_take], ← hL] at this
      have HL := Lib.hid hL
      have HLL := Lib.hid hLl
      clear hL hLl
      go_loopw [6, 7, 8] (fun v6 v7 v8 wr => ∃ ln fr k : Nat, v6 = .int .i64 ln ∧ v7 = .int .i64 fr ∧ v8 = .int .i64 k ∧ k ≤ a ∧ fr ≤ k ∧ ln ≤ k + 1 ∧ nl (L.drop k) k (ln, fr) = nl L 0 (1, 0) ∧ w = wr) (fun _ _ v _ => a - (intOf v).toNat)
      case atStart => exact ⟨1, 0, 0, rfl, rfl, rfl, by omega, by omega, by omega, rfl, rfl⟩
      case round =>
        obtain ⟨ln, fr, k, rfl, rfl, rfl, hk, hfr, hln, hnl, rfl⟩ := hrel
        by_cases hlt : k < a
        · have hlen := HLL.out
          obtain ⟨aA, rfl, hcell⟩ := bytes_at hcA k (by omega)
          have hg := gb_lt L k
          have hst := nl_drop L k (ln, fr) (by omega)
          have HST := Lib.hid (hnl.symm.trans hst)
          clear hnl hlen hst
          by_cases h10 : gb L k = 10
          · have e10 : ((gb L k : Int) == 10) = true := by simp; omega
            have H10 := Lib.hid h10
            clear h10
            go_wp2
            case roundEnd =>
              exact ⟨⟨ln + 1, k + 1, k + 1, by simp, by simp, by simp, by omega, by omega, by omega, by rw [HST.out, if_pos H10.out], trivial⟩, by simp [intOf]; omega⟩
          · have e10 : ((gb L k : Int) == 10) = false := by simp; omega
            have H10 := Lib.hid h10
            clear h10
            go_wp2
            case roundEnd =>
              exact ⟨⟨ln, fr, k + 1, rfl, rfl, by simp, by omega, by omega, by omega, by rw [HST.out, if_neg H10.out], trivial⟩, by simp [intOf]; omega⟩
        · have ek : k = a := by omega
          subst ek
          have hnl0 : (ln, fr) = nl L 0 (1, 0) := by rw [← hnl, show k = L.length from HLL.out.symm, List.drop_length]; rfl
          have HN := Lib.hid hnl0
          clear hnl hnl0 hcA
          go_wp2_with (fail)
          have hnd := nl_bound L 0 (1, 0) (Nat.le_refl _)
          go_loopw [7, 9] (fun v7 v9 wr => ∃ f cl n : Nat, v7 = .int .i64 f ∧ v9 = .int .i64 cl ∧ f ≤ bs.length ∧ bs.length ≤ f + n ∧ cl + colF n f (bs.drop f) k = 1 + colF bs.length fr (bs.drop fr) k ∧ cl ≤ f + 1 ∧ Below w.heap.size w wr) (fun v _ _ => k - (intOf v).toNat)
          case atStart => exact ⟨fr, 1, bs.length, rfl, rfl, by omega, by omega, rfl, by omega, Below.refl _ _⟩
          case round =>
            obtain ⟨f, cl, n, rfl, rfl, hf, hn, hcl, hclb, hb⟩ := hrel
            by_cases hlt2 : f < k
            · have hne : bs.drop f ≠ [] := by
                intro h
                have := congrArg List.length h
                simp at this; omega
              have hds := dec_size' (bs.drop f) hne
              rw [List.length_drop] at hds
              have hr := refdec_calls A c bs f wr (by omega) hcap (HC.out.below hb)
              rw [show decAt bs (f : Int) = dec (bs.drop f) by unfold decAt; rw [if_neg (by omega)]; simp] at hr
              have hcs : colF n f (bs.drop f) k = (if f + (dec (bs.drop f)).2.1 ≤ k then 1 else 0) + colF (n - 1) (f + (dec (bs.drop f)).2.1) ((bs.drop f).drop (dec (bs.drop f)).2.1) k := by
                cases n with
                | zero => omega
                | succ n => rw [colF, if_pos hlt2]; rfl
              rw [List.drop_drop] at hcs
              generalize dec (bs.drop f) = x at *
              obtain ⟨r, z, g⟩ := x
              simp only [rowV] at hr
              simp only at hcs hds
              rw [hcs] at hcl
              have HR := Lib.hid hr
              have HCL := Lib.hid hcl
              clear hr hcl hcs
              by_cases hle : f + z ≤ k
              · have e1 : decide ((f : Int) + z ≤ k) = true := by simp; omega
                go_wp2_with (fail)
                refine HR.out.mono ?_
                rintro e w4 ⟨rfl, hb4⟩
                go_wp2_with (fail)
                have h1 := HCL.out
                rw [if_pos hle] at h1
                exact ⟨⟨f + z, cl + 1, n - 1, by simp, by simp, by omega, by omega, by omega, by omega, (hb.trans (hb4.mono hb.size)).alloc (by have := hb.size; have := hb4.size; omega) _⟩, by simp [intOf]; omega⟩
              · have e1 : decide ((f : Int) + z ≤ k) = false := by simp; omega
                go_wp2_with (fail)
                refine HR.out.mono ?_
                rintro e w4 ⟨rfl, hb4⟩
                go_wp2_with (fail)
                have h1 := HCL.out
                rw [if_neg hle] at h1
                exact ⟨⟨f + z, cl, n - 1, by simp, rfl, by omega, by omega, by omega, by omega, (hb.trans (hb4.mono hb.size)).alloc (by have := hb.size; have := hb4.size; omega) _⟩, by simp [intOf]; omega⟩
            · have h0 : colF n f (bs.drop f) k = 0 := by
                cases n with
                | zero => rfl
                | succ n => rw [colF, if_neg hlt2]
              rw [h0] at hcl
              go_wp2
              go_ret2
              refine ⟨?_, hb⟩
              rw [HPL.out, ← HL.out, ← HN.out]
              show _ = Ending.returned (.tuple #[.int .i64 (ln : Int), .int .i64 ((1 + colF bs.length fr (bs.drop fr) k : Nat) : Int)])
              rw [← hcl]
              rfl
end Go.Proofs.YtnepdjgbfhakmaaDoor
