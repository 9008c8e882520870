/- TextRunes: the walk. -/
import Derived.Test.YtnepdjgbfhakmaaDoorRunesC
import Derived.Laws.EntriesVeiled
namespace Go.Proofs.YtnepdjgbfhakmaaDoor
set_option linter.unusedVariables false
set_option linter.unusedSimpArgs false
open Go.RowKit Go.Shelf
attribute [local go_sem] Oper.semAt_some

set_option maxRecDepth 100000 in
set_option maxHeartbeats 1000000 in
theorem textRunes_walk (w : World) (A : Option Addr) (c : Nat) (bs : List UInt8) (hl : bs.length ≤ 140737488351232) (hcap : bs.length ≤ c) (hmax : c ≤ maxLen) (h0 : A = none → bs.length = 0 ∧ c = 0) (hc : Cells w A (bcells bs)) (i : Int) (hi : (Lit.int .i64 i).wf = true) (hT : Tz16 w) (hw : 3 < w.heap.size) :
    Calls Tryd.prog 4 #[.slice A bs.length c, .int .i64 i] w fun e w' => e = .returned (.bool true) ∧ Below w.heap.size w w' := by
  have hwi : -9223372036854775808 ≤ i ∧ i ≤ 9223372036854775807 := by
    simpa [Lit.wf, show IntKind.i64.min = -9223372036854775808 from rfl, show IntKind.i64.max = 9223372036854775807 from rfl] using hi
  go_enter Tryd.func4, Tryd.ntmps4
  have HC := Lib.hid hc
  have b1 : Below w.heap.size w (w.alloc (.cells #[.int .i64 i] 3)) := (Below.refl _ _).alloc (Nat.le_refl _) _
  clear hc
  by_cases hlen : 600 < bs.length
  · go_wp2
    go_ret
    exact ⟨rfl, b1⟩
  · have hr := refrunes_calls A c bs _ (by omega) hcap (HC.out.below b1)
    have hcw := fun (W : World) (h : Below w.heap.size w W) => runes_calls A c bs W (HC.out.below h)
    have hnil := fun W f cs lb => run_eql_nilFR (P := Tryd.prog) W 35 f cs lb Tryd.underlying35
    have u1 := Boxed.new w 3 (.int .i64 i)
    have hrl := rows_length bs
    have HR := Lib.hid hr
    have HW := Lib.hid hcw
    clear hr hcw
    go_wp2_with (fail)
    refine HR.out.mono ?_
    rintro e w2 ⟨v, rfl, h2, b2⟩
    obtain ⟨AW, cW, rfl, hAW, hcW, hmW, hgW⟩ := own_block h2
    have bw2 : Below w.heap.size w w2 := b1.trans (b2.mono b1.size)
    have s2 := b2.size
    rw [World.size_alloc] at s2 hgW
    have k1 := Boxed.below u1 b2 (by simp)
    have k2 := Boxed.new w2 32 (.slice AW (rows bs).length cW)
    have k1' := Boxed.alloc k1 (.cells #[.slice AW (rows bs).length cW] 32)
    have bw3 : Below w.heap.size w (w2.alloc (.cells #[.slice AW (rows bs).length cW] 32)) := bw2.alloc (by omega) _
    have hA3 : Cells (w2.alloc (.cells #[.slice AW (rows bs).length cW] 32)) AW (rowCs (rows bs)) := hAW.below ((Below.refl _ _).alloc (Nat.le_refl _) _)
    have HR3 := Lib.hid (HW.out _ bw3)
    clear HR h2 hAW k1 u1 b1 HW
    go_wp2_with (fail)
    refine HR3.out.mono ?_
    rintro e w3 ⟨rfl, rfl⟩
    obtain ⟨m0, hm0⟩ : ∃ m0, m0 = w2.heap.size := ⟨_, rfl⟩
    have z3 : (w2.alloc (.cells #[.slice AW (rows bs).length cW] 32)).heap.size = m0 + 1 := by rw [World.size_alloc, hm0]
    have rb0 : ∀ W, Below ((w2.alloc (.cells #[.slice AW (rows bs).length cW] 32)).alloc (.cells #[.string ⟨bs.toArray⟩] 9)).heap.size ((w2.alloc (.cells #[.slice AW (rows bs).length cW] 32)).alloc (.cells #[.string ⟨bs.toArray⟩] 9)) W →
        Boxed W (m0 + 2) 35 (.func (.func 67) #[] #[.pointer (some ⟨m0 + 1, 0, none⟩)]) → RB w (m0 + 1) w.heap.size (m0 + 2) m0 i AW cW (rows bs) ⟨bs.toArray⟩ W := by
      intro W hb hbi
      have p1 := Boxed.new (w2.alloc (.cells #[.slice AW (rows bs).length cW] 32)) 9 (.string ⟨bs.toArray⟩)
      have p2 := Boxed.alloc k2 (.cells #[.string ⟨bs.toArray⟩] 9)
      have p3 := Boxed.alloc k1' (.cells #[.string ⟨bs.toArray⟩] 9)
      rw [z3] at p1
      rw [← hm0] at p2
      exact ⟨Boxed.below p3 hb (Boxed.lt p3), hbi, Boxed.below p2 hb (Boxed.lt p2), (hA3.below ((Below.refl _ _).alloc (Nat.le_refl _) _)).below hb, Boxed.below p1 hb (Boxed.lt p1), (bw3.alloc (by omega) _).trans (hb.mono (by simp; omega))⟩
    have hRM : RM (m0 + 3) (m0 + 1) w.heap.size (m0 + 2) m0 AW (rows bs).length := ⟨by omega, by omega, by omega, by omega, hgW.imp (fun h => ⟨h.1, h.2.1⟩) (fun ⟨g, h1, _, h2⟩ => ⟨g, h1, by omega⟩)⟩
    have HRB := Lib.hid rb0
    have HM := Lib.hid hRM
    clear rb0 hRM k1' k2 bw3 hA3 hgW HR3 bw2 b2
    rw [← hm0] at s2
    rw [z3]
    go_wp2_with (fail)
    rw [← hm0]
    obtain ⟨B, hB⟩ : ∃ B, m0 + 1 = B := ⟨_, rfl⟩
    obtain ⟨bi, hbi⟩ : ∃ bi, m0 + 1 + 1 = bi := ⟨_, rfl⟩
    have p1 := Boxed.new ((w2.alloc (.cells #[.slice AW (rows bs).length cW] 32)).alloc (.cells #[.string ⟨bs.toArray⟩] 9)) 35 (.func (.func 67) #[] #[.pointer (some ⟨m0 + 1, 0, none⟩)])
    have r1 := HRB.out _ ((Below.refl _ _).alloc (Nat.le_refl _) _) (by rw [World.size_alloc, z3] at p1; exact p1)
    have HM2 := HM.out
    have e1 : m0 + 1 ≤ B ∧ B ≤ m0 + 1 ∧ m0 + 2 ≤ bi ∧ bi ≤ m0 + 2 := by omega
    rw [show m0 + 2 = bi from hbi, hB] at r1 HM2
    rw [hbi, hB]
    have HM := Lib.hid HM2
    have Rs := Lib.hid r1
    clear HM2 hB hbi p1 r1 HRB hm0 z3
    go_loopw [7] (fun v wr => ∃ t : Nat, v = .int .i64 (t : Int) ∧ t ≤ 2 ∧ RB w B w.heap.size bi m0 i AW cW (rows bs) ⟨bs.toArray⟩ wr) (fun v _ => (2 - intOf v).toNat)
    case atStart => exact ⟨0, rfl, by omega, Rs.out⟩
    case round =>
      obtain ⟨t, rfl, ht, hrb⟩ := hrel
      have q0 := hrb.2.2.2.2.2.size
      have qb := Boxed.lt hrb.2.1
      have a5 := Boxed.cell hrb.2.1
      by_cases hlt : t < 2
      · have bA : Below wr.heap.size wr ((wr.alloc (.cells #[.int .i64 0] 3)).alloc (.cells #[.bool true] 4)) := ((Below.refl _ _).alloc (Nat.le_refl _) _).alloc (by simp) _
        have rbA := hrb.below bA
        have u1 := Boxed.new wr 3 (.int .i64 0)
        have u2 := Boxed.new (wr.alloc (.cells #[.int .i64 0] 3)) 4 (.bool true)
        rw [World.size_alloc] at u2
        have hss : (⟨bs.toArray⟩ : ByteArray).size = bs.length := by show bs.toArray.size = _; simp
        have hcalls := runes_iter B ⟨bs.toArray⟩ (0, 0) _ (by rw [hss]; omega) rbA.2.2.2.2.1
        rw [show (⟨bs.toArray⟩ : ByteArray).data.toList = bs from by simp] at hcalls
        have J8 := hcalls (.func (.func 26) #[] #[.pointer (some ⟨wr.heap.size + 1, 0, none⟩), .pointer (some ⟨wr.heap.size, 0, none⟩), .pointer (some ⟨m0, 0, none⟩), .pointer (some ⟨w.heap.size, 0, none⟩), .pointer (some ⟨bi, 0, none⟩)])
          (fun pre V => RS w B (wr.heap.size + 1) wr.heap.size w.heap.size bi m0 i AW cW (rows bs) ⟨bs.toArray⟩ pre.length V)
          (fun _ _ => False) _ (SameAt.refl _ _) (fun s V V' h hb => RS.below h hb) (fun _ _ _ h _ => h) ?hY ⟨u2, u1.alloc _, rbA⟩
        case hY =>
          intro pre y V hpre j2
          obtain ⟨r, hr, hr1, hr2⟩ := runes_row hpre
          have hpl := (List.getElem?_eq_some_iff.1 hr).1
          refine .inl ⟨_, _, rfl, enters_of Tryd.func26 (by kernel_rfl) rfl, ?_⟩
          dsimp only [runeRow]
          rw [← hr1, ← hr2]
          by_cases hz : (pre.length : Int) = i
          · have hc := textRunes1_inner w B (wr.heap.size + 1) wr.heap.size w.heap.size bi m0 (m0 + 3) AW cW bs pre.length r V (by omega) hr HM.out (by omega) (by omega) (by omega) (by omega) (by rw [hz]; exact j2)
            refine hc.mono ?_
            rintro e V2 ⟨rfl, R3, S3⟩
            rw [hz] at R3
            exact .inl ⟨rfl, by simpa using R3, S3⟩
          · obtain ⟨i1, i2, i3, i4, i5, i6, i7, i8⟩ := id j2
            obtain ⟨g, hg, hgm⟩ := HM.out.2.2.2.2.resolve_left (fun h => by have := h.2; omega)
            rw [hg] at i5 i6
            have e1 := rowCs_cell i6 hr (j := 0) (by decide) rfl
            have e2 := rowCs_cell i6 hr (j := 1) (by decide) rfl
            rw [Nat.add_zero] at e1
            have hc := textRunes1_plain (wr.heap.size + 1) wr.heap.size m0 w.heap.size bi g (rows bs).length cW pre.length i r V hpl (by omega) (by omega) (by omega) (by omega) (by omega) (by omega) (by omega) (by omega) i1 i2 i5 i3 e1 e2 hz
            refine hc.mono ?_
            rintro e V2 ⟨rfl, rfl⟩
            refine .inl ⟨rfl, ?_, ?_⟩
            · have := (RS.ok j2 HM.out (by omega) (by omega) (by omega)).count HM.out (by omega) (by omega) (by omega)
              simpa using this
            · exact ((SameAt.refl _ _).setCell _ _ (by simp; omega)).setCell _ _ (by simp; omega)
        have HJ8 := Lib.hid J8
        have HRM := Lib.hid hrb
        clear J8 hcalls rbA u1 u2 bA hss hrb 
        go_wp2_with (fail)
        refine HJ8.out.mono ?_
        rintro e W9 ⟨rfl, (j2 | ⟨_, _, _, h⟩)⟩
        · rw [← rows_eq_runes] at j2
          have a1 := Boxed.cell j2.1
          have a2 := Boxed.cell j2.2.1
          have a3 := Boxed.cell j2.2.2.2.2.1
          have R9 := Lib.hid j2
          clear j2 HJ8 a5
          go_wp2_with (fail)
          exact ⟨⟨t + 1, by simp, by omega, R9.out.rb⟩, by simp [intOf]; omega⟩
        · exact h.elim
      · have bA : Below wr.heap.size wr (wr.alloc (.cells #[.int .i64 0] 3)) := (Below.refl _ _).alloc (Nat.le_refl _) _
        have rbA := hrb.below bA
        have u1 := Boxed.new wr 3 (.int .i64 0)
        have hss : (⟨bs.toArray⟩ : ByteArray).size = bs.length := by show bs.toArray.size = _; simp
        have hcalls := runes_iter B ⟨bs.toArray⟩ (0, 0) _ (by rw [hss]; omega) rbA.2.2.2.2.1
        rw [show (⟨bs.toArray⟩ : ByteArray).data.toList = bs from by simp] at hcalls
        have J8 := hcalls (.func (.func 28) #[] #[.pointer (some ⟨wr.heap.size, 0, none⟩), .pointer (some ⟨w.heap.size, 0, none⟩)])
          (fun pre V => Boxed V wr.heap.size 3 (.int .i64 pre.length) ∧ RB w B w.heap.size bi m0 i AW cW (rows bs) ⟨bs.toArray⟩ V ∧ (pre.length = 0 ∨ (pre.length : Int) ≤ i))
          (fun pre V => Boxed V wr.heap.size 3 (.int .i64 pre.length) ∧ RB w B w.heap.size bi m0 i AW cW (rows bs) ⟨bs.toArray⟩ V ∧ i < pre.length ∧ (pre.length = 1 ∨ (pre.length : Int) - 1 ≤ i)) _ (SameAt.refl _ _)
          (fun s V V' h hb => ⟨Boxed.below h.1 hb (Boxed.lt h.1), h.2.1.below hb, h.2.2⟩) (fun s V V' h hb => ⟨Boxed.below h.1 hb (Boxed.lt h.1), h.2.1.below hb, h.2.2⟩) ?hY ⟨u1, rbA, .inl rfl⟩
        case hY =>
          rintro pre y V hpre ⟨j1, j2, j3⟩
          have hpl := hpre.length_le
          rw [← rows_eq_runes] at hpl
          simp at hpl
          refine .inl ⟨_, _, rfl, enters_of Tryd.func28 (by kernel_rfl) rfl, ?_⟩
          have hc := textRunes2_calls wr.heap.size w.heap.size pre.length i y.1 y.2 V (by omega) (by omega) j1 j2.1
          refine hc.mono ?_
          rintro e V2 ⟨rfl, rfl⟩
          have R3 := j2.far HM.out (by omega) (show m0 + 3 ≤ wr.heap.size by omega) (.int .i64 ((pre.length : Int) + 1))
          have B3 := Boxed.set (.int .i64 ((pre.length : Int) + 1)) j1
          by_cases hle : (pre.length : Int) + 1 ≤ i
          · refine .inl ⟨by simp [hle], ⟨by simpa using B3, R3, .inr (by simp; omega)⟩, (SameAt.refl _ _).setCell _ _ (by simp; omega)⟩
          · refine .inr ⟨by simp [hle], ⟨by simpa using B3, R3, by simp; omega, by rw [List.length_append]; rcases j3 with j3 | j3 <;> simp only [List.length_singleton] <;> omega⟩⟩
        have HJ8 := Lib.hid J8
        clear J8 hcalls rbA u1 bA hss hrb 
        go_wp2_with (fail)
        refine HJ8.out.mono ?_
        rintro e W9 ⟨rfl, h9⟩
        have key : ∃ q : Nat, q ≤ (rows bs).length ∧ Boxed W9 wr.heap.size 3 (.int .i64 q) ∧ RB w B w.heap.size bi m0 i AW cW (rows bs) ⟨bs.toArray⟩ W9 ∧ (q : Int) = if i < (rows bs).length then min ((rows bs).length : Int) (max 1 (i + 1)) else ((rows bs).length : Int) := by
          rcases h9 with ⟨j1, j2, j3⟩ | ⟨pre, hp, hne, j1, j2, j3, j4⟩
          · rw [← rows_eq_runes] at j1 j3
            refine ⟨_, Nat.le_refl _, j1, j2, ?_⟩
            split <;> omega
          · have hpl := hp.length_le
            rw [← rows_eq_runes] at hpl
            have : pre.length ≠ 0 := fun h => hne (List.eq_nil_of_length_eq_zero h)
            refine ⟨_, hpl, j1, j2, ?_⟩
            rw [if_pos (by omega)]
            omega
        obtain ⟨q, hq, j1, j2, hqe⟩ := key
        have a1 := Boxed.cell j1
        have a3 := Boxed.cell j2.2.2.1
        have a4 := Boxed.cell j2.1
        have R9 := Lib.hid j2
        have hb9 := j2.2.2.2.2.2
        have HK := Lib.hid (known_calls W9 (hT.below hb9 hw) (by have := hb9.size; omega))
        clear j1 j2 HJ8 a5 h9
        by_cases hiq : i < ((rows bs).length : Int)
        · rw [if_pos hiq] at hqe
          have eq1 : ((q : Int) == min ((rows bs).length : Int) (max 1 (i + 1))) = true := by rw [← hqe]; simp
          clear hqe
          go_wp2_with (fail)
          refine HK.out.mono ?_
          rintro e w8 ⟨rfl, hb8⟩
          have hbw8 := R9.out.2.2.2.2.2.trans (hb8.mono R9.out.2.2.2.2.2.size)
          go_wp2
          go_ret
          exact ⟨rfl, hbw8⟩
        · rw [if_neg hiq] at hqe
          have eq1 : ((q : Int) == ((rows bs).length : Int)) = true := by rw [← hqe]; simp
          clear hqe
          go_wp2_with (fail)
          refine HK.out.mono ?_
          rintro e w8 ⟨rfl, hb8⟩
          have hbw8 := R9.out.2.2.2.2.2.trans (hb8.mono R9.out.2.2.2.2.2.size)
          go_wp2
          go_ret
          exact ⟨rfl, hbw8⟩
end Go.Proofs.YtnepdjgbfhakmaaDoor
