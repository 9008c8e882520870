/- shuckref1.Lines: the places of all lines. -/
import Derived.Test.YtnepdjgbfhakmaaDoorLaw1
import Derived.Test.YtnepdjgbfhakmaaDoorLines1
namespace Go.Proofs.YtnepdjgbfhakmaaDoor
set_option linter.unusedVariables false
set_option linter.unusedSimpArgs false
open Go.RowKit Go.Shelf
attribute [local go_sem] Oper.semAt_some

def lineC (x : Nat × Nat) : List Value := [.int .i64 (x.1 : Int), .int .i64 (x.2 : Int)]
def lineCs (l : List (Nat × Nat)) : List Value := l.flatMap lineC
@[simp] theorem lineCs_length (l : List (Nat × Nat)) : (lineCs l).length = l.length * 2 := by
  induction l with
  | nil => rfl
  | cons x t ih => simp [lineCs, lineC] at *; omega
theorem lineCs_append (a b : List (Nat × Nat)) : lineCs (a ++ b) = lineCs a ++ lineCs b := by simp [lineCs]
theorem lineCs_at : ∀ (l : List (Nat × Nat)) (i j : Nat) (x : Nat × Nat), l[i]? = some x → j < 2 → (lineCs l)[i * 2 + j]? = (lineC x)[j]?
  | [], i, j, x, h, _ => by simp at h
  | y :: t, 0, j, x, h, hj => by
    simp at h; subst h
    simp only [lineCs, List.flatMap_cons, Nat.zero_mul, Nat.zero_add]
    rw [List.getElem?_append_left (by simp [lineC]; omega)]
  | y :: t, i + 1, j, x, h, hj => by
    have ih := lineCs_at t i j x (by simpa using h) hj
    rw [← ih]
    simp only [lineCs, List.flatMap_cons]
    rw [List.getElem?_append_right (by simp [lineC]; omega)]
    congr 1
    simp [lineC]; omega
theorem linesF_length : ∀ (l : List UInt8) (i f : Nat), (linesF l i f).length ≤ l.length + 1
  | [], _, _ => by simp [linesF]
  | c :: t, i, f => by
    rw [linesF]
    split
    · have := linesF_length t (i + 1) (i + 1)
      simp; omega
    · have := linesF_length t (i + 1) f
      simp; omega
theorem infoArr2 : (Tryd.prog.info? 50).map (fun i => (i.zero, i.size, i.bytes)) = some (some (.agg #[.int .i64 0, .int .i64 0]), 2, 16) := by kernel_rfl
theorem linesF_drop (l : List UInt8) (k f : Nat) (h : k < l.length) : linesF (l.drop k) k f = if gb l k = 10 then (f, k) :: linesF (l.drop (k + 1)) (k + 1) (k + 1) else linesF (l.drop (k + 1)) (k + 1) f := by
  rw [List.drop_eq_getElem_cons h, linesF]
  have : gb l k = l[k].toNat := by simp [gb, List.getD, h]
  rw [this]

set_option maxRecDepth 100000 in
theorem reflines_calls (A : Option Addr) (c : Nat) (bs : List UInt8) (w : World) (hl : bs.length ≤ 1000000000) (hcap : bs.length ≤ c) (hc : Cells w A (bcells bs)) :
    Calls Tryd.prog 35 #[.slice A bs.length c] w fun e w' => ∃ v, e = .returned v ∧ w'.ownsRow w.heap.size 50 2 v (lines bs).length (lineCs (lines bs)) ∧ Below w.heap.size w w' := by
  obtain ⟨i0, hi, hz0, hz1, hz2⟩ := info_parts infoArr2
  go_enter Tryd.func35, Tryd.ntmps35
  have HC := Lib.hid hc
  clear hc
  go_wp2_with (fail)
  go_loopw [3, 4, 5] (fun u v4 v5 wr => ∃ (k f : Nat) (pre : List (Nat × Nat)), v4 = .int .i64 f ∧ v5 = .int .i64 k ∧ k ≤ bs.length ∧ f ≤ k ∧ pre.length ≤ k ∧ Hid (lines bs = pre ++ linesF (bs.drop k) k f) ∧ wr.ownsRow w.heap.size 50 2 u pre.length (lineCs pre) ∧ Below w.heap.size w wr) (fun _ _ v _ => bs.length - (intOf v).toNat)
  case atStart => exact ⟨0, 0, [], rfl, rfl, by omega, by omega, by simp, rfl, World.ownsRow_nil _ _ _ _, Below.refl _ _⟩
  case round =>
    obtain ⟨k, f, pre, rfl, rfl, hk, hf, hpl, hpre, how, hb⟩ := hrel
    have hcr := HC.out.below hb
    have hbs := hb.size
    obtain ⟨AV, cV, hu, _, _, _⟩ := own_cells how
    subst hu
    have HO := Lib.hid how
    clear how
    by_cases hlt : k < bs.length
    · obtain ⟨a, rfl, hcell⟩ := bytes_at hcr k hlt
      have hg := gb_lt bs k
      have hst := linesF_drop bs k f hlt
      rw [hst] at hpre
      clear hst hcr
      by_cases h10 : gb bs k = 10
      · have e10 : ((gb bs k : Int) == 10) = true := by simp; omega
        rw [if_pos h10] at hpre
        clear h10
        have m1 := HO.out.alloc (.cells #[.int .i64 f, .int .i64 k] 50)
        have m2 : Cells (wr.alloc (.cells #[.int .i64 f, .int .i64 k] 50)) (some ⟨wr.heap.size, 0, none⟩) [.int .i64 f, .int .i64 k] := Cells.new _ #[.int .i64 f, .int .i64 k] _ _
        go_wp2_with (at_builtin; refine wpList_append_cells _ rfl _ _ 45 rfl w.heap.size 50 i0 _ 2 16 Tryd.underlying45 hi hz0 hz1 hz2 rfl (by decide) _ _ _ rfl m1 _ 1 1 _ rfl (by simp) m2 (fun h => by cases h) (by simp; refine ⟨rfl, rfl⟩) ?c3 ?c4 ?c5 ?_)
        case c3 => unfold maxLen; omega
        case c4 => omega
        case c5 => simp; omega
        intro v2 w6 h6 g6
        have hb6 := (hb.alloc hbs (.cells #[.int .i64 f, .int .i64 k] 50)).grown g6 (by simp; omega) (fun j hj => (m1.lt j hj).1)
        have hl1 : pre.length + 1 = (pre ++ [(f, k)]).length := by simp
        have hcs : lineCs pre ++ [.int .i64 (f : Int), .int .i64 (k : Int)] = lineCs (pre ++ [(f, k)]) := by rw [lineCs_append]; rfl
        rw [hl1, hcs] at h6
        clear g6 hl1 hcs
        go_wp2_with (fail)
        exact ⟨⟨k + 1, k + 1, pre ++ [(f, k)], by simp, by simp, by omega, by omega, by simp; omega, Lib.hid (by rw [hpre.out]; simp), h6, hb6⟩, by simp [intOf]; omega⟩
      · have e10 : ((gb bs k : Int) == 10) = false := by simp; omega
        rw [if_neg h10] at hpre
        clear h10
        go_wp2_with (fail)
        exact ⟨⟨k + 1, f, pre, rfl, by simp, by omega, by omega, by omega, hpre, HO.out, hb⟩, by simp [intOf]; omega⟩
    · have ek : k = bs.length := by omega
      rw [ek, List.drop_length, linesF] at hpre
      have m1 := HO.out.alloc (.cells #[.int .i64 f, .int .i64 bs.length] 50)
      have m2 : Cells (wr.alloc (.cells #[.int .i64 f, .int .i64 bs.length] 50)) (some ⟨wr.heap.size, 0, none⟩) [.int .i64 f, .int .i64 bs.length] := Cells.new _ #[.int .i64 f, .int .i64 bs.length] _ _
      go_wp2_with (at_builtin; refine wpList_append_cells _ rfl _ _ 45 rfl w.heap.size 50 i0 _ 2 16 Tryd.underlying45 hi hz0 hz1 hz2 rfl (by decide) _ _ _ rfl m1 _ 1 1 _ rfl (by simp) m2 (fun h => by cases h) (by simp; refine ⟨rfl, rfl⟩) ?c3 ?c4 ?c5 ?_)
      case c3 => unfold maxLen; omega
      case c4 => omega
      case c5 => simp; omega
      intro v2 w6 h6 g6
      have hb6 := (hb.alloc hbs (.cells #[.int .i64 f, .int .i64 bs.length] 50)).grown g6 (by simp; omega) (fun j hj => (m1.lt j hj).1)
      have hl1 : pre.length + 1 = (pre ++ [(f, bs.length)]).length := by simp
      have hcs : lineCs pre ++ [.int .i64 (f : Int), .int .i64 (bs.length : Int)] = lineCs (pre ++ [(f, bs.length)]) := by rw [lineCs_append]; rfl
      rw [hl1, hcs, ← hpre.out] at h6
      clear g6 hl1 hcs
      go_wp2
      go_ret
      exact ⟨_, rfl, h6, hb6⟩
end Go.Proofs.YtnepdjgbfhakmaaDoor
