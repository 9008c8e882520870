/- TextLines: line; what the loop holds. -/
import Derived.Test.YtnepdjgbfhakmaaDoorLinesC
namespace Go.Proofs.YtnepdjgbfhakmaaDoor
set_option linter.unusedVariables false
set_option linter.unusedSimpArgs false
open Go.RowKit Go.Shelf
attribute [local go_sem] Oper.semAt_some

theorem lineAt_cut {bs : List UInt8} {k : Nat} {x : Nat × Nat} (h : (lines bs)[k]? = some x) : lineAt bs ((k : Int) + 1) = ⟨(cutL bs x).toArray⟩ := by
  unfold lineAt
  rw [show ((k : Int) + 1 - 1).toNat = k by omega, h]
  exact cutL_extract bs x
theorem lines_mem {bs : List UInt8} {k : Nat} {x : Nat × Nat} (h : (lines bs)[k]? = some x) : x.1 ≤ x.2 ∧ x.2 ≤ bs.length := by
  have := linesF_mem bs 0 0 (Nat.le_refl _) x (List.mem_of_getElem? h)
  omega

set_option maxRecDepth 100000 in
theorem line_calls (A AW : Option Addr) (c cW : Nat) (bs : List UInt8) (n : Int) (w : World) (hl : bs.length ≤ 100000) (hcap : bs.length ≤ c) (hn0 : -9223372036854775808 ≤ n) (hn1 : n ≤ 9223372036854775807) (h0 : A = none → bs.length = 0 ∧ c = 0) (hc : Cells w A (bcells bs))
    (hW : Cells w AW (lineCs (lines bs))) (hAW : (AW = none ∧ (lines bs).length = 0) ∨ ∃ g, AW = some ⟨g, 0, none⟩) :
    Calls Tryd.prog 38 #[.slice A bs.length c, .int .i64 n, .slice AW (lines bs).length cW] w fun e w' => e = .returned (.bool true) ∧ Below w.heap.size w w' := by
  have hln := lines_count bs
  have hbc := List.count_le_length (a := (10 : UInt8)) (l := bs)
  have HT := Lib.hid (textLine_calls A c bs n w (by omega) hn0 hn1 h0 hc)
  go_enter Tryd.func38, Tryd.ntmps38
  have HC := Lib.hid hc
  have HW := Lib.hid hW
  have HN := Lib.hid hln
  have hL : (lines bs).length ≤ 100001 := by omega
  clear hc hW h0 hln hbc
  by_cases hin : 1 ≤ n ∧ n ≤ (lines bs).length
  · obtain ⟨k, rfl⟩ : ∃ k : Nat, n = (k : Int) + 1 := ⟨(n - 1).toNat, by omega⟩
    obtain ⟨x, hx⟩ : ∃ x, (lines bs)[k]? = some x := ⟨_, List.getElem?_eq_getElem (by omega)⟩
    have hxm := lines_mem hx
    obtain ⟨g, rfl⟩ := hAW.resolve_left (fun h => by omega)
    have hl1 := line_yes hin
    rw [lineAt_cut hx] at hl1
    have HL := Lib.hid hl1
    have HX := Lib.hid hx
    clear hx hl1
    rw [HL.out.1, HL.out.2] at HT
    go_wp2_with (fail)
    refine HT.out.mono ?_
    rintro e W ⟨rfl, hb⟩
    obtain ⟨A', hcut, hcs⟩ := cut_lh (P := Tryd.prog) 22 5 1 Tryd.underlying22 size5 A bs.length c (x.1 : Int) (x.2 : Int) (x.2 - x.1) (by omega) (by omega) (by omega)
    have hA' := hcs W (bcells bs) (by simpa using hcap) (HC.out.below hb)
    have hA2 : Cells W A' (bcells (cutL bs x)) := by
      have h := hA'.take_ (x.2 - x.1)
      rw [show ((bcells bs).drop ((x.1 : Int).toNat * 1)).take (x.2 - x.1) = bcells (cutL bs x) by simp [bcells, cutL, List.map_take, List.map_drop]] at h
      exact h
    have hll : (cutL bs x).length = x.2 - x.1 := by simp [cutL]; omega
    have hcv := conv_string (P := Tryd.prog) 22 5 9 Tryd.underlying22 Tryd.underlying5 Tryd.underlying9 (w := W.drew) (c - x.1) hA2
    rw [hll] at hcv
    have c1 := lineCs_cell (HW.out.below hb) HX.out (j := 0) (by decide) rfl
    have c2 := lineCs_cell (HW.out.below hb) HX.out (j := 1) (by decide) rfl
    rw [Nat.add_zero] at c1
    have i1 : (0 : Int) ≤ (k : Int) := by omega
    have i2 : (k : Int) < ((lines bs).length : Int) := by omega
    have i3 : decide ((k : Int) + 1 < 1) = false := by simp; omega
    have i4 : decide (((lines bs).length : Int) < (k : Int) + 1) = false := by simp; omega
    have BW := Lib.hid hb
    have i5 : IntKind.i64.wrap (k : Int) = (k : Int) := IntWalk.i64_in _ (by omega)
    clear hcs hA' hA2 hll hin hb
    go_wp2_with (fail)
    refine wp_region_still_lit (by kernel_rfl) (by kernel_rfl) ?_
    repeat still_step
    refine wpStill_nil ?_
    clear i5 hcv c1 c2 hcut
    go_wp2_with (fail)
    go_ret
    exact ⟨rfl, BW.out.drew⟩
  · have hl1 := line_no hin
    have HL := Lib.hid hl1
    clear hl1
    rw [HL.out.1, HL.out.2] at HT
    go_wp2_with (fail)
    refine HT.out.mono ?_
    rintro e W ⟨rfl, hb⟩
    have BW := Lib.hid hb
    clear hb
    go_wp2_with (fail)
    all_goals (go_ret; exact ⟨rfl, BW.out⟩)

def LS (w : World) (B bo bk bw bb bh : Nat) (A AW : Option Addr) (c cW : Nat) (bs : List UInt8) (pre : List (Nat × Nat)) (W : World) : Prop :=
  Boxed W bo 4 (.bool true) ∧ Boxed W bk 3 (.int .i64 pre.length) ∧ Boxed W bh 9 (.string ⟨(joinL (pre.map (cutL bs))).toArray⟩) ∧
    Boxed W bw 45 (.slice AW (lines bs).length cW) ∧ Boxed W bb 22 (.slice A bs.length c) ∧ Cells W AW (lineCs (lines bs)) ∧ Cells W A (bcells bs) ∧ W.heap[B]? = some (.cells #[.string ⟨bs.toArray⟩] 9 (0, 0)) ∧ Below w.heap.size w W
theorem LS.below {w : World} {B bo bk bw bb bh : Nat} {A AW : Option Addr} {c cW : Nat} {bs : List UInt8} {pre : List (Nat × Nat)} {W W' : World} (h : LS w B bo bk bw bb bh A AW c cW bs pre W) (hb : Below W.heap.size W W') : LS w B bo bk bw bb bh A AW c cW bs pre W' := by
  obtain ⟨h1, h2, h3, h4, h5, h6, h7, h8, h9⟩ := h
  exact ⟨Boxed.below h1 hb (Boxed.lt h1), Boxed.below h2 hb (Boxed.lt h2), Boxed.below h3 hb (Boxed.lt h3), Boxed.below h4 hb (Boxed.lt h4), Boxed.below h5 hb (Boxed.lt h5), h6.below hb, h7.below hb, (hb.block B (Array.getElem?_eq_some_iff.1 h8).1).trans h8, h9.trans (hb.mono h9.size)⟩

theorem LS.drew {w : World} {B bo bk bw bb bh : Nat} {A AW : Option Addr} {c cW : Nat} {bs : List UInt8} {pre : List (Nat × Nat)} {W : World} (h : LS w B bo bk bw bb bh A AW c cW bs pre W) : LS w B bo bk bw bb bh A AW c cW bs pre W.drew := by
  obtain ⟨h1, h2, h3, h4, h5, h6, h7, h8, h9⟩ := h
  exact ⟨h1, h2, h3, h4, h5, h6, h7, h8, h9.drew⟩
theorem SameAt.drew {S : List Nat} {W W' : World} (h : SameAt S W W') : SameAt S W W'.drew := h

/-- Cells of a slice whose block is not the one written. -/
theorem cells_set {W : World} {A : Option Addr} {cs : List Value} {b : Nat} (h : Cells W A cs) (hA : ∀ a, A = some a → cs ≠ [] → a.block ≠ b) (v : Value) : Cells (W.setCell ⟨b, 0, none⟩ v) A cs := fun i hi => by
  obtain ⟨a, rfl, hc⟩ := h i hi
  refine ⟨a, rfl, ?_⟩
  have hne := hA a rfl (fun e => by subst e; simp at hi)
  have hab : (a.add i).block = a.block := by unfold Addr.add; split <;> rfl
  exact (World.cell?_of_block (w := W) (Below.heap_setCell _ _ _ _ (by rw [hab]; exact hne))).trans hc

/-- The bytes that came in lie below. -/
theorem cells_old {w : World} {A : Option Addr} {cs : List Value} (h : Cells w A cs) : ∀ a, A = some a → cs ≠ [] → a.block < w.heap.size := fun a ha hne => by
  obtain ⟨a', ha', hc⟩ := h 0 (List.length_pos_iff.2 hne)
  rw [ha] at ha'; cases ha'
  have := World.block_lt_of_cell? w _ hc
  have hab : (a.add 0).block = a.block := by unfold Addr.add; split <;> rfl
  omega

theorem LS.step {w : World} {B bo bk bw bb bh m : Nat} {A AW : Option Addr} {c cW : Nat} {bs : List UInt8} {pre : List (Nat × Nat)} {x : Nat × Nat} {W W' : World}
    (h : LS w B bo bk bw bb bh A AW c cW bs pre W) (hm : B < m ∧ bw < m ∧ bb < m ∧ m ≤ bo ∧ m ≤ bk ∧ m ≤ bh ∧ bo ≠ bk ∧ bo ≠ bh ∧ bk ≠ bh) (hw : w.heap.size ≤ m) (hA : ∀ a, A = some a → bcells bs ≠ [] → a.block < m) (hAW : ∀ a, AW = some a → lineCs (lines bs) ≠ [] → a.block < m)
    (h' : (pre.length = 0 ∧ W' = (((W.setCell ⟨bo, 0, none⟩ (.bool true)).setCell ⟨bh, 0, none⟩ (.string ((⟨(joinL (pre.map (cutL bs))).toArray⟩ : ByteArray) ++ ⟨(cutL bs x).toArray⟩))).setCell ⟨bk, 0, none⟩ (.int .i64 1)).drew) ∨
        (0 < pre.length ∧ W' = ((((W.setCell ⟨bo, 0, none⟩ (.bool true)).setCell ⟨bh, 0, none⟩ (.string ((⟨(joinL (pre.map (cutL bs))).toArray⟩ : ByteArray) ++ ⟨#[10]⟩))).setCell ⟨bh, 0, none⟩ (.string ((⟨(joinL (pre.map (cutL bs))).toArray⟩ : ByteArray) ++ ⟨#[10]⟩ ++ ⟨(cutL bs x).toArray⟩))).setCell ⟨bk, 0, none⟩ (.int .i64 ((pre.length : Int) + 1))).drew)) :
    LS w B bo bk bw bb bh A AW c cW bs (pre ++ [x]) W' ∧ SameAt [B] W W' := by
  obtain ⟨h1, h2, h3, h4, h5, h6, h7, h8, h9⟩ := h
  obtain ⟨m1, m2, m3, m4, m5, m6, m7, m8, m9⟩ := hm
  have fA : ∀ b, m ≤ b → ∀ a, A = some a → bcells bs ≠ [] → a.block ≠ b := fun b hb a ha hn => by have := hA a ha hn; omega
  have fW : ∀ b, m ≤ b → ∀ a, AW = some a → lineCs (lines bs) ≠ [] → a.block ≠ b := fun b hb a ha hn => by have := hAW a ha hn; omega
  have hj : (joinL ((pre ++ [x]).map (cutL bs))) = if pre.length = 0 then cutL bs x else joinL (pre.map (cutL bs)) ++ 10 :: cutL bs x := by
    rw [List.map_append, List.map_cons, List.map_nil, joinL_snoc, List.length_map]
  have sB : ∀ b, m ≤ b → b ∉ [B] := fun b hb => by simp; omega
  rcases h' with ⟨hz, rfl⟩ | ⟨hz, rfl⟩
  · have hp : pre = [] := List.eq_nil_of_length_eq_zero hz
    refine ⟨LS.drew ⟨?_, ?_, ?_, ?_, ?_, ?_, ?_, ?_, ?_⟩, SameAt.drew ?_⟩
    · exact Boxed.other (Boxed.other (Boxed.set _ h1) m8 _) m7 _
    · have := Boxed.set (.int .i64 1) (Boxed.other (Boxed.other h2 (Ne.symm m7) (.bool true)) m9 (.string ((⟨(joinL (pre.map (cutL bs))).toArray⟩ : ByteArray) ++ ⟨(cutL bs x).toArray⟩)))
      subst hp
      exact this
    · rw [hj, if_pos hz]
      have := Boxed.other (Boxed.set (.string ((⟨(joinL (pre.map (cutL bs))).toArray⟩ : ByteArray) ++ ⟨(cutL bs x).toArray⟩)) (Boxed.other h3 (Ne.symm m8) (.bool true))) (Ne.symm m9) (.int .i64 1)
      rw [show ((⟨(joinL (pre.map (cutL bs))).toArray⟩ : ByteArray) ++ ⟨(cutL bs x).toArray⟩) = ⟨(cutL bs x).toArray⟩ by subst hp; apply ByteArray.ext; simp [joinL]] at this ⊢
      exact this
    · exact Boxed.other (Boxed.other (Boxed.other h4 (by omega) _) (by omega) _) (by omega) _
    · exact Boxed.other (Boxed.other (Boxed.other h5 (by omega) _) (by omega) _) (by omega) _
    · exact cells_set (cells_set (cells_set h6 (fW _ m4) _) (fW _ m6) _) (fW _ m5) _
    · exact cells_set (cells_set (cells_set h7 (fA _ m4) _) (fA _ m6) _) (fA _ m5) _
    · exact Boxed.other (Boxed.other (Boxed.other h8 (by omega) _) (by omega) _) (by omega) _
    · exact (((h9.setCell (p := ⟨bo, 0, none⟩) (by show _ ≤ bo; omega) _).setCell (p := ⟨bh, 0, none⟩) (by show _ ≤ bh; omega) _).setCell (p := ⟨bk, 0, none⟩) (by show _ ≤ bk; omega) _)
    · exact (((SameAt.refl _ _).setCell _ _ (sB _ m4)).setCell _ _ (sB _ m6)).setCell _ _ (sB _ m5)
  · have he : ((⟨(joinL (pre.map (cutL bs))).toArray⟩ : ByteArray) ++ ⟨#[10]⟩ ++ ⟨(cutL bs x).toArray⟩) = ⟨(joinL ((pre ++ [x]).map (cutL bs))).toArray⟩ := by
      rw [hj, if_neg (by omega)]
      apply ByteArray.ext
      apply Array.ext'
      simp
    rw [he]
    generalize ((⟨(joinL (pre.map (cutL bs))).toArray⟩ : ByteArray) ++ ⟨#[10]⟩) = s1
    clear he hj
    have hn1 : Value.int .i64 (((pre ++ [x]).length : Nat) : Int) = .int .i64 ((pre.length : Int) + 1) := by simp
    refine ⟨LS.drew ?_, SameAt.drew ?_⟩
    case' refine_1 => unfold LS; rw [hn1]
    all_goals generalize (⟨(joinL ((pre ++ [x]).map (cutL bs))).toArray⟩ : ByteArray) = s2
    case' refine_1 => refine ⟨?_, ?_, ?_, ?_, ?_, ?_, ?_, ?_, ?_⟩
    · exact Boxed.other (Boxed.other (Boxed.other (Boxed.set _ h1) m8 _) m8 _) m7 _
    · exact Boxed.set _ (Boxed.other (Boxed.other (Boxed.other h2 (Ne.symm m7) _) m9 _) m9 _)
    · exact Boxed.other (Boxed.set _ (Boxed.set _ (Boxed.other h3 (Ne.symm m8) _))) (Ne.symm m9) _
    · exact Boxed.other (Boxed.other (Boxed.other (Boxed.other h4 (by omega) _) (by omega) _) (by omega) _) (by omega) _
    · exact Boxed.other (Boxed.other (Boxed.other (Boxed.other h5 (by omega) _) (by omega) _) (by omega) _) (by omega) _
    · exact cells_set (cells_set (cells_set (cells_set h6 (fW _ m4) _) (fW _ m6) _) (fW _ m6) _) (fW _ m5) _
    · exact cells_set (cells_set (cells_set (cells_set h7 (fA _ m4) _) (fA _ m6) _) (fA _ m6) _) (fA _ m5) _
    · exact Boxed.other (Boxed.other (Boxed.other (Boxed.other h8 (by omega) _) (by omega) _) (by omega) _) (by omega) _
    · exact ((((h9.setCell (p := ⟨bo, 0, none⟩) (by show _ ≤ bo; omega) _).setCell (p := ⟨bh, 0, none⟩) (by show _ ≤ bh; omega) _).setCell (p := ⟨bh, 0, none⟩) (by show _ ≤ bh; omega) _).setCell (p := ⟨bk, 0, none⟩) (by show _ ≤ bk; omega) _)
    · exact ((((SameAt.refl _ _).setCell _ _ (sB _ m4)).setCell _ _ (sB _ m6)).setCell _ _ (sB _ m6)).setCell _ _ (sB _ m5)
end Go.Proofs.YtnepdjgbfhakmaaDoor
