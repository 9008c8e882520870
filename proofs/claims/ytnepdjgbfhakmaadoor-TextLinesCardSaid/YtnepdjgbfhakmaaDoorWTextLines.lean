/- TextLines: the walk. -/
import Derived.Test.YtnepdjgbfhakmaaDoorLinesD
namespace Go.Proofs.YtnepdjgbfhakmaaDoor
set_option linter.unusedVariables false
set_option linter.unusedSimpArgs false
open Go.RowKit Go.Shelf
attribute [local go_sem] Oper.semAt_some

theorem joinL_le : ∀ (t l : List (List UInt8)), (joinL l).length ≤ (joinL (l ++ t)).length
  | [], l => by simp
  | x :: t, l => by
    have h1 := joinL_le t (l ++ [x])
    rw [List.append_assoc, List.singleton_append] at h1
    refine Nat.le_trans ?_ h1
    rw [joinL_snoc]
    split
    · have : l = [] := List.eq_nil_of_length_eq_zero ‹_›
      subst this; simp [joinL]
    · simp

set_option maxRecDepth 100000 in
set_option maxHeartbeats 1000000 in
theorem textLines_walk (w : World) (A : Option Addr) (c : Nat) (bs : List UInt8) (hl : bs.length ≤ 140737488351232) (hcap : bs.length ≤ c) (hmax : c ≤ maxLen) (h0 : A = none → bs.length = 0 ∧ c = 0) (hc : Cells w A (bcells bs)) (i : Int) (hi : (Lit.int .i64 i).wf = true) (hT : Tz16 w) (hw : 3 < w.heap.size) :
    Calls Tryd.prog 9 #[.slice A bs.length c, .int .i64 i] w fun e w' => e = .returned (.bool true) ∧ Below w.heap.size w w' := by
  have hwi : -9223372036854775808 ≤ i ∧ i ≤ 9223372036854775807 := by
    simpa [Lit.wf, show IntKind.i64.min = -9223372036854775808 from rfl, show IntKind.i64.max = 9223372036854775807 from rfl] using hi
  go_enter Tryd.func9, Tryd.ntmps9
  have HC := Lib.hid hc
  have HO := Lib.hid (cells_old hc)
  have HN := Lib.hid h0
  have b1 : Below w.heap.size w (w.alloc (.cells #[.slice A bs.length c] 22)) := (Below.refl _ _).alloc (Nat.le_refl _) _
  clear hc h0
  by_cases hlen : 4000 < bs.length
  · go_wp2
    go_ret
    exact ⟨rfl, b1⟩
  · have hr := reflines_calls A c bs _ (by omega) hcap (HC.out.below b1)
    have hcw := fun (W : World) (h : Below w.heap.size w W) => lines_calls A c bs W (HC.out.below h)
    have hnil := fun W f cs lb => run_eql_nilFL (P := Tryd.prog) W 48 f cs lb Tryd.underlying48
    have u1 := Boxed.new w 22 (.slice A bs.length c)
    have hln := lines_count bs
    have hbc := List.count_le_length (a := (10 : UInt8)) (l := bs)
    have hL : (lines bs).length ≤ 4001 := by omega
    have HR := Lib.hid hr
    have HW := Lib.hid hcw
    clear hr hcw hln hbc
    go_wp2_with (fail)
    refine HR.out.mono ?_
    rintro e w2 ⟨v, rfl, h2, b2⟩
    obtain ⟨AW, cW, rfl, hAW, hcW, hmW, hgW⟩ := own_block h2
    have bw2 : Below w.heap.size w w2 := b1.trans (b2.mono b1.size)
    have s2 := b2.size
    rw [World.size_alloc] at s2 hgW
    have k1 := Boxed.below u1 b2 (by simp)
    have k2 := Boxed.new w2 45 (.slice AW (lines bs).length cW)
    have k1' := Boxed.alloc k1 (.cells #[.slice AW (lines bs).length cW] 45)
    have bw3 : Below w.heap.size w (w2.alloc (.cells #[.slice AW (lines bs).length cW] 45)) := bw2.alloc (by omega) _
    have hA3 : Cells (w2.alloc (.cells #[.slice AW (lines bs).length cW] 45)) AW (lineCs (lines bs)) := hAW.below ((Below.refl _ _).alloc (Nat.le_refl _) _)
    have HR3 := Lib.hid (HW.out _ bw3)
    obtain ⟨m0, hm0⟩ : ∃ m0, w2.heap.size = m0 := ⟨_, rfl⟩
    obtain ⟨w3, hw3⟩ : ∃ w3, w2.alloc (.cells #[.slice AW (lines bs).length cW] 45) = w3 := ⟨_, rfl⟩
    have z3 : w3.heap.size = m0 + 1 := by rw [← hw3, World.size_alloc, hm0]
    rw [hw3] at HR3 k1' k2 bw3 hA3
    rw [hm0] at k2 s2 hgW
    rw [z3] at HR3
    have a1 := Boxed.cell k1'
    clear HR h2 hAW k1 u1 b1 HW b2 bw2
    go_wp2_with (fail)
    refine HR3.out.mono ?_
    rintro e w4 ⟨rfl, rfl⟩
    obtain ⟨B, hB⟩ : ∃ B, m0 + 1 = B := ⟨_, rfl⟩
    rw [hB]
    obtain ⟨w5, hw5⟩ : ∃ w5, w3.alloc (.cells #[.string ⟨bs.toArray⟩] 9) = w5 := ⟨_, rfl⟩
    have z5 : w5.heap.size = m0 + 2 := by rw [← hw5, World.size_alloc, z3]
    have p1 := Boxed.new w3 9 (.string ⟨bs.toArray⟩)
    have p2 := k2.alloc (.cells #[.string ⟨bs.toArray⟩] 9)
    have p3 := k1'.alloc (.cells #[.string ⟨bs.toArray⟩] 9)
    have p4 := hA3.below ((Below.refl _ _).alloc (Nat.le_refl _) (.cells #[.string ⟨bs.toArray⟩] 9))
    have p5 := bw3.alloc (by omega) (.cells #[.string ⟨bs.toArray⟩] 9)
    rw [z3, hB] at p1
    rw [hw5] at p1 p2 p3 p4 p5 ⊢
    have P1 := Lib.hid p1
    have P2 := Lib.hid p2
    have P3 := Lib.hid p3
    have P4 := Lib.hid p4
    have P5 := Lib.hid p5
    have e1 : m0 + 1 ≤ B ∧ B ≤ m0 + 1 := by omega
    have e2 : m0 + 2 ≤ w5.heap.size ∧ w5.heap.size ≤ m0 + 2 := by omega
    have a1' := Boxed.cell p3
    have G := Lib.hid hgW
    clear p1 p2 p3 p4 p5 hw5 hw3 hm0 z3 z5 hB k1' k2 bw3 hA3 HR3 a1 hgW
    have q1 := Boxed.new w5 3 (.int .i64 0)
    have q2 := Boxed.new (w5.alloc (.cells #[.int .i64 0] 3)) 4 (.bool true)
    have q3 := Boxed.new ((w5.alloc (.cells #[.int .i64 0] 3)).alloc (.cells #[.bool true] 4)) 9 (.string ⟨#[]⟩)
    have b8 : Below w5.heap.size w5 (((w5.alloc (.cells #[.int .i64 0] 3)).alloc (.cells #[.bool true] 4)).alloc (.cells #[.string ⟨#[]⟩] 9)) := (((Below.refl _ w5).alloc (Nat.le_refl _) _).alloc (by simp) _).alloc (by simp; omega) _
    rw [World.size_alloc] at q2
    rw [World.size_alloc, World.size_alloc] at q3
    have ls0 : LS w B (w5.heap.size + 1) w5.heap.size m0 w.heap.size (w5.heap.size + 1 + 1) A AW c cW bs [] (((w5.alloc (.cells #[.int .i64 0] 3)).alloc (.cells #[.bool true] 4)).alloc (.cells #[.string ⟨#[]⟩] 9)) :=
      ⟨q2.alloc _, (q1.alloc _).alloc _, q3, Boxed.below P2.out b8 (Boxed.lt P2.out), Boxed.below P3.out b8 (Boxed.lt P3.out), P4.out.below b8, HC.out.below (P5.out.trans (b8.mono P5.out.size)), Boxed.below P1.out b8 (Boxed.lt P1.out), P5.out.trans (b8.mono P5.out.size)⟩
    have hss : (⟨bs.toArray⟩ : ByteArray).size = bs.length := by show bs.toArray.size = _; simp
    have hcalls := lines_iter B ⟨bs.toArray⟩ (0, 0) _ (by rw [hss]; omega) ls0.2.2.2.2.2.2.2.1
    rw [show (⟨bs.toArray⟩ : ByteArray).data.toList = bs from by simp] at hcalls
    have J8 := hcalls (.func (.func 37) #[] #[.pointer (some ⟨w5.heap.size + 1, 0, none⟩), .pointer (some ⟨w5.heap.size, 0, none⟩), .pointer (some ⟨m0, 0, none⟩), .pointer (some ⟨w.heap.size, 0, none⟩), .pointer (some ⟨w5.heap.size + 1 + 1, 0, none⟩)])
      (fun pre V => LS w B (w5.heap.size + 1) w5.heap.size m0 w.heap.size (w5.heap.size + 1 + 1) A AW c cW bs pre V)
      (fun _ _ => False) _ (SameAt.refl _ _) (fun s V V' h hb => h.below hb) (fun _ _ _ h _ => h) ?hY ls0
    case hY =>
      intro pre y V hpre j2
      have hat : (lines bs)[pre.length]? = some y := by
        obtain ⟨t, ht⟩ := hpre
        rw [← ht]; simp
      have hpl := (List.getElem?_eq_some_iff.1 hat).1
      have hym := lines_mem hat
      have j3 := j2
      obtain ⟨i1, i2, i3, i4, i5, i6, i7, i8, i9⟩ := j3
      obtain ⟨g, hg, _, hgm⟩ := G.out.resolve_left (fun h => by have := h.2.1; omega)
      have i6' := i6
      rw [hg] at i4 i6'
      have e1 := lineCs_cell i6' hat (j := 0) (by decide) rfl
      have e2 := lineCs_cell i6' hat (j := 1) (by decide) rfl
      rw [Nat.add_zero] at e1
      have hjs : (⟨(joinL (pre.map (cutL bs))).toArray⟩ : ByteArray).size ≤ 1000000 := by
        obtain ⟨tl, htl⟩ := hpre
        have hjo := linesF_join bs bs 0 0 rfl (Nat.le_refl _) (by omega)
        have h1 := joinL_le (([y] ++ tl).map (cutL bs)) (pre.map (cutL bs))
        rw [← List.map_append, ← List.append_assoc, htl, show joinL ((lines bs).map (cutL bs)) = bs from hjo] at h1
        show (joinL (pre.map (cutL bs))).toArray.size ≤ _
        simp only [List.size_toArray]
        omega
      refine .inl ⟨_, _, rfl, enters_of Tryd.func37 (by kernel_rfl) rfl, ?_⟩
      dsimp only [lineRow]
      rw [cutL_extract]
      have hc := textLines1_calls (w5.heap.size + 1) w5.heap.size m0 w.heap.size (w5.heap.size + 1 + 1) g (lines bs).length cW pre.length c A bs y _ V hpl (by omega) (by omega) hcap hym.1 hym.2 (by omega) (by omega) (by omega) hjs i1 i2 i4 i5 i3 e1 e2 i7
      refine hc.mono ?_
      rintro e V2 ⟨rfl, h'⟩
      obtain ⟨r1, r2⟩ := LS.step (m := w5.heap.size) (x := y) j2 ⟨by omega, by omega, by omega, by omega, by omega, by omega, by omega, by omega, by omega⟩ (by omega) (fun a ha hn => by have := HO.out a ha hn; omega) (fun a ha hn => by rw [hg] at ha; cases ha; show g < _; omega) h'
      exact .inl ⟨rfl, r1, r2⟩
    have HJ8 := Lib.hid J8
    clear J8 hcalls ls0 q1 q2 q3 b8 hss
    go_wp2_with (fail)
    refine HJ8.out.mono ?_
    rintro e W9 ⟨rfl, (j2 | ⟨_, _, _, h⟩)⟩
    · have hjo := linesF_join bs bs 0 0 rfl (Nat.le_refl _) (by omega)
      have hj3 := j2.2.2.1
      rw [show joinL ((lines bs).map (cutL bs)) = bs from hjo] at hj3
      have hcv := conv_string (P := Tryd.prog) 22 5 9 Tryd.underlying22 Tryd.underlying5 Tryd.underlying9 c j2.2.2.2.2.2.2.1
      have a1 := Boxed.cell j2.1
      have a2 := Boxed.cell j2.2.1
      have a3 := Boxed.cell hj3
      have a4 := Boxed.cell j2.2.2.2.1
      have a5 := Boxed.cell j2.2.2.2.2.1
      have R9 := Lib.hid j2
      clear j2 HJ8 hjo hj3 a1'
      go_wp2_with (fail)
      clear hcv a1 a2 a3 a4 a5
      have hAWf : (AW = none ∧ (lines bs).length = 0) ∨ ∃ g, AW = some ⟨g, 0, none⟩ := G.out.imp (fun h => ⟨h.1, h.2.1⟩) (fun ⟨g, h, _⟩ => ⟨g, h⟩)
      have line : ∀ (n : Int) (wr : World), -9223372036854775808 ≤ n → n ≤ 9223372036854775807 → Below W9.heap.size W9 wr → Calls Tryd.prog 38 #[.slice A bs.length c, .int .i64 n, .slice AW (lines bs).length cW] wr fun e w' => e = .returned (.bool true) ∧ Below W9.heap.size W9 w' := fun n wr h1 h2 hb =>
        (line_calls A AW c cW bs n wr (by omega) hcap h1 h2 HN.out ((R9.out.below hb).2.2.2.2.2.2.1) ((R9.out.below hb).2.2.2.2.2.1) hAWf).mono fun e w' ⟨he, hb'⟩ => ⟨he, hb.trans (hb'.mono hb.size)⟩
      have HLN := Lib.hid line
      clear line hAWf
      go_loopw [10] (fun v wr => ∃ t : Int, v = .int .i64 t ∧ -1 ≤ t ∧ t ≤ (lines bs).length + 2 ∧ Below W9.heap.size W9 wr) (fun v _ => ((lines bs).length + 2 - intOf v).toNat)
      case atStart => exact ⟨-1, rfl, by omega, by omega, Below.refl _ _⟩
      case round =>
        obtain ⟨t, rfl, ht1, ht2, hb⟩ := hrel
        have r9 := R9.out.below hb
        have a4 := Boxed.cell r9.2.2.2.1
        have a5 := Boxed.cell r9.2.2.2.2.1
        clear r9
        have HB := Lib.hid hb
        clear hb
        by_cases hlt : t ≤ (lines bs).length + 1
        · have HQ := Lib.hid (HLN.out t wr (by omega) (by omega) HB.out)
          go_wp2_with (fail)
          refine HQ.out.mono ?_
          rintro e w6 ⟨rfl, hb6⟩
          have HB6 := Lib.hid hb6
          clear hb6
          go_wp2_with (fail)
          exact ⟨⟨t + 1, rfl, by omega, by omega, HB6.out⟩, by simp [intOf]; omega⟩
        · have HQ := Lib.hid (HLN.out i wr (by omega) (by omega) HB.out)
          go_wp2_with (fail)
          refine HQ.out.mono ?_
          rintro e w6 ⟨rfl, hb6⟩
          have hb9 := R9.out.2.2.2.2.2.2.2.2
          have hbw6 := hb9.trans (hb6.mono hb9.size)
          have HK := Lib.hid (known_calls w6 (hT.below hbw6 hw) (by have := hbw6.size; omega))
          have HB6 := Lib.hid hbw6
          clear hb6 hb9 hbw6
          go_wp2_with (fail)
          refine HK.out.mono ?_
          rintro e w8 ⟨rfl, hb8⟩
          have hbw8 := HB6.out.trans (hb8.mono HB6.out.size)
          go_wp2
          go_ret
          exact ⟨rfl, hbw8⟩
    · exact h.elim
end Go.Proofs.YtnepdjgbfhakmaaDoor
