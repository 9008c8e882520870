/- shuckref19.Output. -/
import Derived.Test.YtnepdjgbfhakmaaDoorRep2
import Derived.Test.YtnepdjgbfhakmaaDoorRefPlace
import Derived.Test.YtnepdjgbfhakmaaDoorRefQuote
namespace Go.Proofs.YtnepdjgbfhakmaaDoor
set_option linter.unusedVariables false
set_option linter.unusedSimpArgs false
open Go.RowKit Go.Shelf
attribute [local go_sem] Oper.semAt_some

/-- What the first statements keep. -/
def RefI (w : World) (ov : Array Value) (V : World) : Prop := Below w.heap.size w V ∧ V.heap[w.heap.size]? = some (.cells ov 74 (0, 0))
theorem RefI.below {w : World} {ov : Array Value} {V V' : World} (h : RefI w ov V) (hb : Below V.heap.size V V') : RefI w ov V' :=
  ⟨h.1.trans (hb.mono h.1.size), (hb.block _ (Array.getElem?_eq_some_iff.1 h.2).1).trans h.2⟩

set_option maxRecDepth 100000 in
set_option maxHeartbeats 2000000 in
theorem refoutput_calls (A : Option Addr) (c : Nat) (bs : List UInt8) (er at_ : Int) (tx : ByteArray) (w : World) (hl : bs.length ≤ 100000) (hcap : bs.length ≤ c) (hat : -9223372036854775808 ≤ at_ ∧ at_ ≤ 9223372036854775807) (h0 : A = none → bs.length = 0 ∧ c = 0) (hc : Cells w A (bcells bs)) :
    Calls Tryd.prog 55 #[.slice A bs.length c, .agg #[.int .i64 er, .int .i64 at_, .string tx]] w fun e w' => e = .returned (.string (outS bs er at_ tx)) ∧ Below w.heap.size w w' := by
  have HC := Lib.hid hc
  have HO := Lib.hid h0
  clear hc h0
  go_enter Tryd.func55, Tryd.ntmps55
  by_cases he : er = 0
  · have e0 : (er == 0) = true := by simpa using he
    have ho : outS bs er at_ tx = tx := if_pos he
    have HE := Lib.hid ho
    clear he ho
    go_wp2
    go_ret
    exact ⟨ret_val (by rw [HE.out]; rfl), (Below.refl _ _).alloc (Nat.le_refl _) _⟩
  · have e0 : (er == 0) = false := by simpa using he
    have ho : outS bs er at_ tx = ⟨(rowsL [headS bs er at_, showS bs at_, markS bs at_]).toArray⟩ := if_neg he
    have HE := Lib.hid ho
    clear he ho
    go_wp2_with (fail)
    have b1 : Below w.heap.size w (w.alloc (.cells #[.int .i64 er, .int .i64 at_, .string tx] 74)) := (Below.refl _ _).alloc (Nat.le_refl _) _
    have o1 := World.alloc_heap_new w (.cells #[.int .i64 er, .int .i64 at_, .string tx] 74)
    refine (refplace_calls A c bs at_ _ (by omega) hcap (HC.out.below b1)).mono ?_
    rintro e W1 ⟨rfl, b2⟩
    have hpb := place_bounds bs at_
    have hlc : (lines bs).length ≤ 100001 := by have h1 := lines_count bs; have h2 := List.count_le_length (a := (10 : UInt8)) (l := bs); omega
    unfold headS showS markS at HE
    obtain ⟨ln, hln⟩ : ∃ ln, (placeL bs at_).1 = ln := ⟨_, rfl⟩
    obtain ⟨cl, hcl⟩ : ∃ cl, (placeL bs at_).2 = cl := ⟨_, rfl⟩
    rw [hln, hcl] at HE hpb ⊢
    clear hln hcl
    have i1 : RefI w #[.int .i64 er, .int .i64 at_, .string tx] W1 := ⟨b1.trans (b2.mono b1.size), (b2.block w.heap.size (by simp)).trans o1⟩
    clear b1 o1 b2
    obtain ⟨S1, hS1⟩ : ∃ S1 : ByteArray, ⟨(Lib.itoa ln).toArray⟩ = S1 := ⟨_, rfl⟩
    obtain ⟨S2, hS2⟩ : ∃ S2 : ByteArray, ⟨(Lib.itoa cl).toArray⟩ = S2 := ⟨_, rfl⟩
    obtain ⟨S3, hS3⟩ : ∃ S3 : ByteArray, wordL er = S3 := ⟨_, rfl⟩
    rw [hS1, hS2, hS3] at HE
    have z1 : S1.size ≤ 100 := by rw [← hS1]; exact itoa_small ln (by omega)
    have z2 : S2.size ≤ 100 := by rw [← hS2]; exact itoa_small cl (by omega)
    have z3 : S3.size ≤ 100 := by rw [← hS3]; exact word_small er
    have C1 : ∀ p : WI (RefI w #[.int .i64 er, .int .i64 at_, .string tx]), Calls Tryd.prog 91 #[.int .i64 ln] p.w fun e w' => e = .returned (.string S1) ∧ RefI w #[.int .i64 er, .int .i64 at_, .string tx] w' := fun p =>
      (digits_calls (ln : Int) p.w (by omega) (by omega)).mono fun e w' ⟨he, hb⟩ => ⟨by rw [he, hS1], p.h.below hb⟩
    have C2 : ∀ p : WI (RefI w #[.int .i64 er, .int .i64 at_, .string tx]), Calls Tryd.prog 91 #[.int .i64 cl] p.w fun e w' => e = .returned (.string S2) ∧ RefI w #[.int .i64 er, .int .i64 at_, .string tx] w' := fun p =>
      (digits_calls (cl : Int) p.w (by omega) (by omega)).mono fun e w' ⟨he, hb⟩ => ⟨by rw [he, hS2], p.h.below hb⟩
    have C3 : ∀ p : WI (RefI w #[.int .i64 er, .int .i64 at_, .string tx]), Calls Tryd.prog 92 #[.int .i64 er] p.w fun e w' => e = .returned (.string S3) ∧ RefI w #[.int .i64 er, .int .i64 at_, .string tx] w' := fun p =>
      (refword_calls er p.w).mono fun e w' ⟨he, hw'⟩ => ⟨by rw [he, hS3], hw' ▸ p.h⟩
    have hcell : ∀ p : WI (RefI w #[.int .i64 er, .int .i64 at_, .string tx]), p.w.cell? ⟨w.heap.size, 0, none⟩ = some (.int .i64 er) := fun p => by simp [World.cell?, p.h.2]
    have H1 := Lib.hid C1
    have H2 := Lib.hid C2
    have H3 := Lib.hid C3
    have I1 := Lib.hid i1
    clear C1 C2 C3 hS1 hS2 hS3 i1
    have g1 : ¬ 9223372036854775807 < S1.size + 1 := by omega
    have g2 : ¬ 9223372036854775807 < S1.size + 1 + S2.size := by omega
    have g3 : ¬ 9223372036854775807 < S1.size + 1 + S2.size + 2 := by omega
    have g4 : ¬ 9223372036854775807 < S1.size + 1 + S2.size + 2 + S3.size := by omega
    have g5 : ¬ 9223372036854775807 < S1.size + 1 + S2.size + 2 + S3.size + 1 := by omega
    go_wp2_with (fail)
    haveI hne : Nonempty (WI (RefI w #[.int .i64 er, .int .i64 at_, .string tx])) := ⟨⟨_, I1.out⟩⟩
    refine wp_region_qi0 (RefI w #[.int .i64 er, .int .i64 at_, .string tx]) (by kernel_rfl) (by kernel_rfl) ⟨I1.out.1.drew, I1.out.2⟩ ?_
    repeat (quiet_step (first | (with_reducible exact calls_qi (H1.out _)) | (with_reducible exact calls_qi (H2.out _)) | (with_reducible exact calls_qi (H3.out _))))
    refine wpQuiet_nil ?_
    intro V hV
    clear g1 g2 g3 g4 g5 H1 H2 H3 hcell I1 hne
    obtain ⟨P0, hP0⟩ : ∃ P0 : ByteArray, S1 ++ ⟨#[58]⟩ ++ S2 ++ ⟨#[58, 32]⟩ ++ S3 ++ ⟨#[10]⟩ = P0 := ⟨_, rfl⟩
    have y1 : P0.size ≤ 1000 := by
      rw [← hP0]; simp only [ByteArray.size_append]
      show S1.size + 1 + S2.size + 2 + S3.size + 1 ≤ _
      omega
    rw [hP0]
    have HP0 := Lib.hid hP0
    clear hP0
    obtain ⟨k, rfl⟩ : ∃ k, ln = k + 1 := ⟨ln - 1, by omega⟩
    obtain ⟨x, hx⟩ : ∃ x, (lines bs)[k]? = some x := ⟨_, List.getElem?_eq_getElem (by omega)⟩
    have hxm := lines_mem hx
    have hlB : lineB bs (k + 1) = cutL bs x := by
      unfold lineB
      rw [show ((k + 1 : Nat) : Int) = (k : Int) + 1 by simp, lineAt_cut hx]
    rw [hlB] at HE
    have HX := Lib.hid hx
    have HL := Lib.hid (reflines_calls A c bs V (by omega) hcap (HC.out.below hV.1))
    have HV := Lib.hid hV.1
    clear hx hlB hV
    go_wp2_with (fail)
    refine HL.out.mono ?_
    rintro e W4 ⟨v, rfl, h4, b4⟩
    obtain ⟨AL, cL, rfl, hAL, hcL, hmL, hgL⟩ := own_block h4
    obtain ⟨g, rfl, _, hgl⟩ := hgL.resolve_left (fun h => by have := h.2.1; omega)
    have c1 := lineCs_cell hAL HX.out (j := 0) (by decide) rfl
    have c2 := lineCs_cell hAL HX.out (j := 1) (by decide) rfl
    rw [Nat.add_zero] at c1
    have hb4 := HV.out.trans (b4.mono HV.out.size)
    have HB4 := Lib.hid hb4
    have i1 : (0 : Int) ≤ (k : Int) := by omega
    have i2 : (k : Int) < ((lines bs).length : Int) := by omega
    have i5 : IntKind.i64.wrap (k : Int) = (k : Int) := IntWalk.i64_in _ (by omega)
    have i6 : IntKind.i64.wrap (((k + 1 : Nat) : Int) - 1) = (k : Int) := by rw [show ((k + 1 : Nat) : Int) - 1 = k by omega]; exact IntWalk.i64_in _ (by omega)
    obtain ⟨A', hcut, hcs⟩ := cut_lh (P := Tryd.prog) 22 5 1 Tryd.underlying22 size5 A bs.length c (x.1 : Int) (x.2 : Int) (x.2 - x.1) (by omega) (by omega) (by omega)
    have hll : (cutL bs x).length = x.2 - x.1 := by simp [cutL]; omega
    have bw5 : Below w.heap.size w (W4.alloc (.cells #[.int .i64 x.1, .int .i64 x.2] 50)) := hb4.alloc hb4.size _
    have hA2 : Cells (W4.alloc (.cells #[.int .i64 x.1, .int .i64 x.2] 50)) A' (bcells (cutL bs x)) := by
      have h := (hcs _ (bcells bs) (by simpa using hcap) (HC.out.below bw5)).take_ (x.2 - x.1)
      rw [show ((bcells bs).drop ((x.1 : Int).toNat * 1)).take (x.2 - x.1) = bcells (cutL bs x) by simp [bcells, cutL, List.map_take, List.map_drop]] at h
      exact h
    have hrr := refrunes_calls A' (c - x.1) (cutL bs x) _ (by omega) (by omega) hA2
    rw [hll] at hrr
    have HRR := Lib.hid hrr
    have HB5 := Lib.hid bw5
    clear HL h4 hAL b4 hb4 hcs hA2 hrr bw5
    obtain ⟨q, hq⟩ : ∃ q, cutL bs x = q := ⟨_, rfl⟩
    rw [hq] at HRR HE hll
    have hql : q.length ≤ 100000 := by omega
    clear hq hll
    go_wp2_with (fail)
    refine HRR.out.mono ?_
    rintro e W7 ⟨v, rfl, h7, b7⟩
    obtain ⟨A7, c7, rfl, hA7, hc7, hm7, hg7⟩ := own_block h7
    have hb7 := HB5.out.trans (b7.mono HB5.out.size)
    have HB7 := Lib.hid hb7
    have HC7 := Lib.hid hA7
    obtain ⟨l, hl7⟩ : ∃ l, rows q = l := ⟨_, rfl⟩
    have hrl := rows_length q
    have hlm : l.map (fun x => (x.1, x.2.1)) = runes q := by rw [← hl7, rows_runes]
    have HLM := Lib.hid hlm
    rw [hl7] at hrl HC7 hc7 hg7 ⊢
    clear HRR HB5 h7 hA7 b7 hb7 c1 c2 i1 i2 i5 i6 hcut hl7 hlm HB4
    go_wp2_with (fail)
    go_loopw [7, 10] (fun u v wr => ∃ (b : ByteArray) (j : Nat), u = .string b ∧ v = .int .i64 j ∧ j ≤ l.length ∧ Hid (b.data.toList = P0.data.toList ++ showP ((l.take j).map fun x => (x.1, x.2.1))) ∧ W7 = wr) (fun _ v _ => l.length - (intOf v).toNat)
    case atStart => exact ⟨P0, 0, rfl, rfl, by omega, Lib.hid (by simp [showP]), rfl⟩
    case round =>
      obtain ⟨b, j, rfl, rfl, hj, hbj, rfl⟩ := hrel
      have hbs : b.size ≤ 500000 := by
        have h1 := showP_length ((l.take j).map fun x => (x.1, x.2.1))
        have h2 := congrArg List.length hbj.out
        have h3 : b.data.toList.length = b.size := rfl
        have h4 : P0.data.toList.length = P0.size := rfl
        rw [List.length_append] at h2
        rw [List.length_map, List.length_take] at h1
        omega
      by_cases hlt : j < l.length
      · obtain ⟨y, hy⟩ : ∃ y, l[j]? = some y := ⟨_, List.getElem?_eq_getElem hlt⟩
        obtain ⟨a, ha, hcell⟩ := row_at HC7.out j 1 y hy (by decide)
        obtain ⟨g7, hg, _, hgl7⟩ := hg7.resolve_left (fun h => by have := h.2.1; omega)
        subst ha
        cases hg
        have hst : (l.take (j + 1)).map (fun x => (x.1, x.2.1)) = (l.take j).map (fun x => (x.1, x.2.1)) ++ [(y.1, y.2.1)] := by
          obtain ⟨h1, rfl⟩ := List.getElem?_eq_some_iff.1 hy
          rw [List.take_succ_eq_append_getElem h1, List.map_append]; rfl
        have hr : y.2.1 ≤ 1114111 := by
          have hmem : (y.1, y.2.1) ∈ runes q := by
            rw [← HLM.out]; exact List.mem_map_of_mem (List.mem_of_getElem? hy)
          exact runesF_rune _ _ _ _ hmem
        have fin : ∀ b2 : ByteArray, b2.data.toList = b.data.toList ++ showR y.2.1 → ∃ (b' : ByteArray) (j' : Nat), Value.string b2 = .string b' ∧ Value.int .i64 ((j : Int) + 1) = .int .i64 j' ∧ j' ≤ l.length ∧ Hid (b'.data.toList = P0.data.toList ++ showP ((l.take j').map fun x => (x.1, x.2.1))) ∧ True := fun b2 h =>
          ⟨b2, j + 1, rfl, by simp, by omega, Lib.hid (by rw [h, hbj.out, hst, showP_snoc]; simp), trivial⟩
        have FIN := Lib.hid fin
        clear fin hst hy
        obtain ⟨p, r, n, gd⟩ := y
        simp [rowC] at hcell
        simp only at hr FIN
        rw [add0] at hcell
        rcases (show r = 13 ∨ r = 9 ∨ (r ≠ 13 ∧ r ≠ 9) by omega) with h | h | ⟨h, h2⟩
        · obtain rfl : r = 13 := h
          go_wp2_with (fail)
          exact ⟨FIN.out _ (by simp [showR]), by simp [intOf]; omega⟩
        · obtain rfl : r = 9 := h
          go_wp2_with (fail)
          exact ⟨FIN.out _ (by simp [showR]), by simp [intOf]; omega⟩
        · have e1 : ((r : Int) == 13) = false := by simp; omega
          have e2 : ((r : Int) == 9) = false := by simp; omega
          have hen : (Utf8.encode (r : Int)).size ≤ 4 := by
            have h1 := (runeB_length (r : Int)).2
            unfold runeB at h1
            simpa using h1
          have hsr : showR r = runeB r := by unfold showR; rw [if_neg h, if_neg h2]
          have HSR := Lib.hid hsr
          clear hsr
          go_wp2_with (fail)
          exact ⟨FIN.out _ (by rw [HSR.out]; simp; rfl), by simp [intOf]; omega⟩
      · have ek : j = l.length := by omega
        rw [ek, List.take_length, HLM.out] at hbj
        clear hg7
        have hbd : (b ++ ⟨#[10]⟩ : ByteArray).data.toList = P0.data.toList ++ showP (runes q) ++ [10] := by rw [← hbj.out]; simp
        obtain ⟨b1, hb1⟩ : ∃ b1 : ByteArray, b ++ ⟨#[10]⟩ = b1 := ⟨_, rfl⟩
        have hb1s : b1.size ≤ 500001 := by rw [← hb1, ByteArray.size_append]; show b.size + 1 ≤ _; omega
        rw [hb1] at hbd
        have HBD := Lib.hid hbd
        have HB1 := Lib.hid hb1
        clear hbd hb1 hbj
        go_wp2_with (fail)
        rw [HB1.out]
        go_loopw [7, 11] (fun u v wr => ∃ (b : ByteArray) (j : Nat), u = .string b ∧ v = .int .i64 ((j : Int) + 1) ∧ j + 1 ≤ cl ∧ Hid (b.data.toList = b1.data.toList ++ Lib.repeatL [32] j) ∧ b.size = b1.size + j ∧ W7 = wr) (fun _ v _ => cl - (intOf v).toNat)
        case atStart => exact ⟨b1, 0, rfl, rfl, by omega, Lib.hid (by simp [Lib.repeatL]), by omega, rfl⟩
        case round =>
          obtain ⟨b2, m, rfl, rfl, hm, hb2, hsz, rfl⟩ := hrel
          have hs2 : b2.size ≤ 700000 := by omega
          have HSZ := Lib.hid hsz
          clear hsz
          by_cases hlt2 : m + 1 < cl
          · have i7 : decide ((m : Int) + 1 < (cl : Int)) = true := by simp; omega
            go_wp2_with (fail)
            refine ⟨⟨b2 ++ ⟨#[32]⟩, m + 1, rfl, by simp, by omega, Lib.hid ?_, ?_, trivial⟩, by simp [intOf]; omega⟩
            · rw [Lib.repeatL_add, ← List.append_assoc, ← hb2.out]
              simp [Lib.repeatL]
            · rw [ByteArray.size_append, HSZ.out]; rfl
          · have i7 : decide ((m : Int) + 1 < (cl : Int)) = false := by simp; omega
            go_wp2_with (fail)
            go_ret
            refine ⟨ret_val ?_, HB7.out⟩
            rw [HE.out]
            show Value.string (b2 ++ ⟨#[94, 10]⟩) = _
            congr 1
            apply ByteArray.ext
            apply Array.ext'
            have q1 := hb2.out
            rw [HBD.out] at q1
            have q0 : P0.data.toList = (S1 ++ ⟨#[58]⟩ ++ S2 ++ ⟨#[58, 32]⟩ ++ S3 : ByteArray).data.toList ++ [10] := by rw [← HP0.out]; simp
            rw [show cl - 1 = m by omega]
            generalize (S1 ++ ⟨#[58]⟩ ++ S2 ++ ⟨#[58, 32]⟩ ++ S3 : ByteArray) = T1 at q0 ⊢
            rw [q0] at q1
            have e1 : (b2 ++ ⟨#[94, 10]⟩ : ByteArray).data.toList = b2.data.toList ++ [94, 10] := by simp
            rw [e1, q1]
            simp [rowsL]
end Go.Proofs.YtnepdjgbfhakmaaDoor
