/- TextLines: the lines put together; the closure. -/
import Derived.Test.YtnepdjgbfhakmaaDoorLine
import Derived.StillTailTactics
namespace Go.Proofs.YtnepdjgbfhakmaaDoor
set_option linter.unusedVariables false
set_option linter.unusedSimpArgs false
open Go.RowKit Go.Shelf
attribute [local go_sem] Oper.semAt_some

/-- Lines put together. -/
def joinL : List (List UInt8) → List UInt8
  | [] => []
  | [a] => a
  | a :: b :: t => a ++ 10 :: joinL (b :: t)
theorem joinL_cons (a : List UInt8) (l : List (List UInt8)) (h : l ≠ []) : joinL (a :: l) = a ++ 10 :: joinL l := by
  cases l with
  | nil => exact absurd rfl h
  | cons b t => rfl
theorem joinL_snoc : ∀ (l : List (List UInt8)) (x : List UInt8), joinL (l ++ [x]) = if l.length = 0 then x else joinL l ++ 10 :: x
  | [], x => rfl
  | [a], x => rfl
  | a :: b :: t, x => by
    have ih := joinL_snoc (b :: t) x
    simp only [List.cons_append] at *
    rw [joinL, ih]
    simp [joinL]
def cutL (bs : List UInt8) (x : Nat × Nat) : List UInt8 := (bs.drop x.1).take (x.2 - x.1)
theorem linesF_ne : ∀ (l : List UInt8) (i f : Nat), linesF l i f ≠ []
  | [], _, _ => by simp [linesF]
  | c :: t, i, f => by
    rw [linesF]; split
    · simp
    · exact linesF_ne t _ _
theorem linesF_join (bs : List UInt8) : ∀ (l : List UInt8) (i f : Nat), bs.drop i = l → f ≤ i → i ≤ bs.length → joinL ((linesF l i f).map (cutL bs)) = bs.drop f
  | [], i, f, h, hf, hi => by
    have hl := congrArg List.length h
    simp at hl
    simp only [linesF, List.map_cons, List.map_nil, joinL, cutL]
    exact List.take_of_length_le (by simp; omega)
  | c :: t, i, f, h, hf, hi => by
    have hl := congrArg List.length h
    simp at hl
    have ht : bs.drop (i + 1) = t := by
      rw [← List.drop_drop, h]; rfl
    rw [linesF]
    split
    · rename_i hc
      have hc' : c = 10 := UInt8.toNat_inj.1 hc
      rw [List.map_cons, joinL_cons _ _ (by simp [linesF_ne]), linesF_join bs t (i + 1) (i + 1) ht (Nat.le_refl _) (by omega), ht]
      subst hc'
      have : bs.drop f = (bs.drop f).take (i - f) ++ (bs.drop f).drop (i - f) := (List.take_append_drop _ _).symm
      rw [this, List.drop_drop, show f + (i - f) = i by omega, h]; rfl
    · exact linesF_join bs t (i + 1) f ht (by omega) (by omega)
theorem linesF_mem : ∀ (l : List UInt8) (i f : Nat), f ≤ i → ∀ x ∈ linesF l i f, x.1 ≤ x.2 ∧ x.2 ≤ i + l.length
  | [], i, f, h, x, hx => by simp [linesF] at hx; subst hx; simp; omega
  | c :: t, i, f, h, x, hx => by
    rw [linesF] at hx
    split at hx
    · rcases List.mem_cons.1 hx with rfl | hx
      · simp; omega
      · have := linesF_mem t (i + 1) (i + 1) (Nat.le_refl _) x hx
        simp; omega
    · have := linesF_mem t (i + 1) f (by omega) x hx
      simp; omega

theorem cutL_extract (bs : List UInt8) (x : Nat × Nat) : (⟨bs.toArray⟩ : ByteArray).extract x.1 x.2 = ⟨(cutL bs x).toArray⟩ := by
  apply ByteArray.ext
  apply Array.ext'
  rw [Lib.extract_data]
  simp only [cutL]

theorem lineCs_cell {W : World} {g : Nat} {l : List (Nat × Nat)} (h : Cells W (some ⟨g, 0, none⟩) (lineCs l)) {k j : Nat} {x : Nat × Nat} (hk : l[k]? = some x) (hj : j < 2) {v : Value} (hv : (lineC x)[j]? = some v) :
    W.cell? ⟨g, k * 2 + j, none⟩ = some v := by
  have hlt := (List.getElem?_eq_some_iff.1 hk).1
  obtain ⟨a, ha, hc⟩ := h (k * 2 + j) (by rw [lineCs_length]; omega)
  cases ha
  have he : (⟨g, 0, none⟩ : Addr).add (k * 2 + j) = ⟨g, k * 2 + j, none⟩ := by unfold Addr.add; split <;> simp_all
  rw [he] at hc
  rw [hc]
  have h2 := lineCs_at l k j x hk hj
  rw [hv] at h2
  exact (List.getElem?_eq_some_iff.1 h2).2 ▸ rfl

set_option maxRecDepth 100000 in
theorem textLines1_calls (bo bk bw bb bh g n c k c2 : Nat) (A : Option Addr) (bs : List UInt8) (x : Nat × Nat) (wh : ByteArray) (W : World) (hk : k < n) (hn : n ≤ 100000) (hl : bs.length ≤ 100000) (hcap : bs.length ≤ c2) (hx1 : x.1 ≤ x.2) (hx2 : x.2 ≤ bs.length)
    (d1 : bo ≠ bk) (d2 : bh ≠ bo) (d3 : bh ≠ bk) (hwh : wh.size ≤ 1000000)
    (h1 : Boxed W bo 4 (.bool true)) (h2 : Boxed W bk 3 (.int .i64 k)) (h3 : Boxed W bw 45 (.slice (some ⟨g, 0, none⟩) n c)) (h4 : Boxed W bb 22 (.slice A bs.length c2)) (h5 : Boxed W bh 9 (.string wh))
    (c1 : W.cell? ⟨g, k * 2, none⟩ = some (.int .i64 x.1)) (c3 : W.cell? ⟨g, k * 2 + 1, none⟩ = some (.int .i64 x.2)) (hA : Cells W A (bcells bs)) :
    Calls Tryd.prog 37 #[.int .i64 x.1, .string ⟨(cutL bs x).toArray⟩, .pointer (some ⟨bo, 0, none⟩), .pointer (some ⟨bk, 0, none⟩), .pointer (some ⟨bw, 0, none⟩), .pointer (some ⟨bb, 0, none⟩), .pointer (some ⟨bh, 0, none⟩)] W fun e W' =>
      e = .returned (.bool true) ∧ ((k = 0 ∧ W' = (((W.setCell ⟨bo, 0, none⟩ (.bool true)).setCell ⟨bh, 0, none⟩ (.string (wh ++ ⟨(cutL bs x).toArray⟩))).setCell ⟨bk, 0, none⟩ (.int .i64 1)).drew) ∨
        (0 < k ∧ W' = ((((W.setCell ⟨bo, 0, none⟩ (.bool true)).setCell ⟨bh, 0, none⟩ (.string (wh ++ ⟨#[10]⟩))).setCell ⟨bh, 0, none⟩ (.string (wh ++ ⟨#[10]⟩ ++ ⟨(cutL bs x).toArray⟩))).setCell ⟨bk, 0, none⟩ (.int .i64 ((k : Int) + 1))).drew)) := by
  obtain ⟨A', hcut, hcs⟩ := cut_lh (P := Tryd.prog) 22 5 1 Tryd.underlying22 size5 A bs.length c2 (x.1 : Int) (x.2 : Int) (x.2 - x.1) (by omega) (by omega) (by omega)
  have hA' := hcs W (bcells bs) (by simpa using hcap) hA
  have hA2 : Cells W A' (bcells (cutL bs x)) := by
    have h := hA'.take_ (x.2 - x.1)
    rw [show ((bcells bs).drop ((x.1 : Int).toNat * 1)).take (x.2 - x.1) = bcells (cutL bs x) by simp [bcells, cutL, List.map_take, List.map_drop]] at h
    exact h
  have hll : (cutL bs x).length = x.2 - x.1 := by simp [cutL]; omega
  have hcv := conv_string (P := Tryd.prog) 22 5 9 Tryd.underlying22 Tryd.underlying5 Tryd.underlying9 (w := W.drew) (c2 - x.1) hA2
  rw [hll] at hcv
  have hlc : (cutL bs x).length ≤ 100000 := by omega
  have a1 := Boxed.cell h1
  have a2 := Boxed.cell h2
  have a3 := Boxed.cell h3
  have a4 := Boxed.cell h4
  have a5 := Boxed.cell h5
  have f1 := Boxed.frozen h1
  have f2 := Boxed.frozen h2
  have f5 := Boxed.frozen h5
  go_enter Tryd.func37, Tryd.ntmps37
  clear h1 h2 h3 h4 h5 hcs hA' hA2 hA hll
  have i1 : (0 : Int) ≤ (k : Int) := by omega
  have i2 : (k : Int) < (n : Int) := by omega
  have i3 : decide ((k : Int) < (n : Int)) = true := by simpa using i2
  go_wp2_with (fail)
  go_still_tail 33, (by kernel_rfl)
  change wpList _ _ _ _ _ W.drew
  rcases Nat.eq_zero_or_pos k with hk0 | hk0
  · have e0 : decide ((k : Int) > 0) = false := by simp; omega
    clear hcv hcut hx1 hx2 c1 c3
    go_wp2_with (fail)
    go_ret
    exact ⟨rfl, .inl ⟨hk0, rfl⟩⟩
  · have e0 : decide ((k : Int) > 0) = true := by simp; omega
    clear hcv hcut hx1 hx2 c1 c3
    go_wp2_with (fail)
    go_ret
    exact ⟨rfl, .inr ⟨hk0, rfl⟩⟩
end Go.Proofs.YtnepdjgbfhakmaaDoor
