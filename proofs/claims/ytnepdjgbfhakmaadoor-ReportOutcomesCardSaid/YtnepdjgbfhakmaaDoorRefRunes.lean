/- shuckref1.Runes: the rows of all runes. -/
import Derived.Test.YtnepdjgbfhakmaaDoorLaw1
namespace Go.Proofs.YtnepdjgbfhakmaaDoor
set_option linter.unusedVariables false
set_option linter.unusedSimpArgs false
open Go.RowKit Go.Shelf
attribute [local go_sem] Oper.semAt_some

/-- The rows: place, rune, size, whether it is one. -/
def rowsF : Nat → Nat → List UInt8 → List (Nat × Nat × Nat × Bool)
  | 0, _, _ => []
  | _ + 1, _, [] => []
  | k + 1, i, b :: t => (i, dec (b :: t)) :: rowsF k (i + (dec (b :: t)).2.1) ((b :: t).drop (dec (b :: t)).2.1)
def rows (bs : List UInt8) : List (Nat × Nat × Nat × Bool) := rowsF bs.length 0 bs
theorem rowsF_runes : ∀ (k i : Nat) (bs : List UInt8), (rowsF k i bs).map (fun x => (x.1, x.2.1)) = runesF k i bs
  | 0, _, _ => rfl
  | _ + 1, _, [] => rfl
  | k + 1, i, b :: t => by simp only [rowsF, runesF, List.map_cons]; rw [rowsF_runes k]
theorem rows_runes (bs : List UInt8) : (rows bs).map (fun x => (x.1, x.2.1)) = runes bs := rowsF_runes _ _ _
theorem rowsF_nil (k i : Nat) : rowsF k i [] = [] := by cases k <;> rfl
theorem rowsF_fuel : ∀ (k k' i : Nat) (bs : List UInt8), bs.length ≤ k → bs.length ≤ k' → rowsF k i bs = rowsF k' i bs
  | k, k', i, [], _, _ => by rw [rowsF_nil, rowsF_nil]
  | 0, _, _, _ :: _, h, _ => by simp at h
  | _ + 1, 0, _, _ :: _, _, h => by simp at h
  | k + 1, k' + 1, i, b :: t, h, h' => by
    have hd := dec_size b t
    simp only [rowsF]
    rw [rowsF_fuel k k' _ _ (by simp only [List.length_drop, List.length_cons] at *; omega) (by simp only [List.length_drop, List.length_cons] at *; omega)]
theorem rowsF_cons (k i : Nat) (bs : List UInt8) (h : bs ≠ []) (hk : bs.length ≤ k) : rowsF k i bs = (i, dec bs) :: rowsF k (i + (dec bs).2.1) (bs.drop (dec bs).2.1) := by
  cases bs with
  | nil => exact absurd rfl h
  | cons b t =>
    cases k with
    | zero => simp at hk
    | succ k =>
      have hd := dec_size b t
      simp only [rowsF]
      rw [rowsF_fuel k (k + 1) _ _ (by simp only [List.length_drop, List.length_cons] at *; omega) (by simp only [List.length_drop, List.length_cons] at *; omega)]
theorem rows_length (bs : List UInt8) : (rows bs).length ≤ bs.length := by
  have h := runes_length bs
  rw [← rows_runes, List.length_map] at h
  exact h

def rowC (x : Nat × Nat × Nat × Bool) : List Value := [.int .i64 (x.1 : Int), .int .i32 (x.2.1 : Int), .int .i64 (x.2.2.1 : Int), .bool x.2.2.2]
def rowCs (l : List (Nat × Nat × Nat × Bool)) : List Value := l.flatMap rowC
@[simp] theorem rowCs_length (l : List (Nat × Nat × Nat × Bool)) : (rowCs l).length = l.length * 4 := by
  induction l with
  | nil => rfl
  | cons x t ih => simp [rowCs, rowC] at *; omega
theorem rowCs_append (a b : List (Nat × Nat × Nat × Bool)) : rowCs (a ++ b) = rowCs a ++ rowCs b := by simp [rowCs]
theorem rowCs_at : ∀ (l : List (Nat × Nat × Nat × Bool)) (i j : Nat) (x : Nat × Nat × Nat × Bool), l[i]? = some x → j < 4 → (rowCs l)[i * 4 + j]? = (rowC x)[j]?
  | [], _, _, _, h, _ => by simp at h
  | y :: t, 0, j, x, h, hj => by
    simp at h; subst h
    simp only [rowCs, List.flatMap_cons, Nat.zero_mul, Nat.zero_add]
    rw [List.getElem?_append_left (by simp [rowC]; omega)]
  | y :: t, i + 1, j, x, h, hj => by
    have ih := rowCs_at t i j x (by simpa using h) hj
    rw [← ih]
    simp only [rowCs, List.flatMap_cons]
    rw [List.getElem?_append_right (by simp [rowC]; omega)]
    congr 1
    simp [rowC]; omega

theorem infoRow : (Tryd.prog.info? 26).map (fun i => (i.zero, i.size, i.bytes)) = some (some (.agg #[.int .i64 0, .int .i32 0, .int .i64 0, .bool false]), 4, 32) := by kernel_rfl

set_option maxRecDepth 100000 in
theorem refrunes_calls (A : Option Addr) (c : Nat) (bs : List UInt8) (w : World) (hl : bs.length ≤ 1000000000) (hcap : bs.length ≤ c) (hc : Cells w A (bcells bs)) :
    Calls Tryd.prog 24 #[.slice A bs.length c] w fun e w' => ∃ v, e = .returned v ∧ w'.ownsRow w.heap.size 26 4 v (rows bs).length (rowCs (rows bs)) ∧ Below w.heap.size w w' := by
  obtain ⟨i0, hi, hz0, hz1, hz2⟩ := info_parts infoRow
  go_enter Tryd.func24, Tryd.ntmps24
  have HC := Lib.hid hc
  clear hc
  go_wp2_with (fail)
  go_loopw [3, 4] (fun u v wr => ∃ (k m : Nat) (pre : List (Nat × Nat × Nat × Bool)), v = .int .i64 k ∧ k ≤ bs.length ∧ bs.length ≤ k + m ∧ pre.length ≤ k ∧ Hid (rows bs = pre ++ rowsF m k (bs.drop k)) ∧ wr.ownsRow w.heap.size 26 4 u pre.length (rowCs pre) ∧ Below w.heap.size w wr) (fun _ v _ => bs.length - (intOf v).toNat)
  case atStart => exact ⟨0, bs.length, [], rfl, by omega, by omega, by simp, rfl, World.ownsRow_nil _ _ _ _, Below.refl _ _⟩
  case round =>
    obtain ⟨k, m, pre, rfl, hk, hm, hpl, hpre, how, hb⟩ := hrel
    have hcr := HC.out.below hb
    have hbs := hb.size
    obtain ⟨AV, cV, hu, _, _, _⟩ := own_cells how
    subst hu
    have HO := Lib.hid how
    clear how
    by_cases hlt : k < bs.length
    · have hne : bs.drop k ≠ [] := by
        intro h
        have := congrArg List.length h
        simp at this; omega
      have hds := dec_size' (bs.drop k) hne
      rw [List.length_drop] at hds
      have hr := refdec_calls A c bs k wr (by omega) hcap hcr
      rw [show decAt bs (k : Int) = dec (bs.drop k) by unfold decAt; rw [if_neg (by omega)]; simp] at hr
      have hst := rowsF_cons m k (bs.drop k) hne (by simp; omega)
      rw [hst, List.drop_drop] at hpre
      generalize dec (bs.drop k) = x at *
      obtain ⟨r, n, g⟩ := x
      simp only [rowV] at hr
      simp only at hds hst hpre
      have HR := Lib.hid hr
      clear hr hcr hst
      go_wp2_with (fail)
      refine HR.out.mono ?_
      rintro e w4 ⟨rfl, hb4⟩
      have hb4' := hb.trans (hb4.mono hbs)
      have hs4 : w.heap.size ≤ w4.heap.size := hb4'.size
      have ho4 := HO.out.kept (row := none) ⟨hb4.os, hb4.tape, hb4.output, hb4.size, fun j hj _ => hb4.block j hj⟩ (by cases (Value.slice AV pre.length cV).ownBlock <;> simp)
      have ho5 := (ho4.alloc (.cells #[.int .i64 k, .int .i32 (r : Int), .int .i64 (n : Int), .bool g] 26)).alloc (.cells #[.int .i64 k, .int .i32 (r : Int), .int .i64 (n : Int), .bool g] 26)
      have k2 : Cells ((w4.alloc (.cells #[.int .i64 k, .int .i32 (r : Int), .int .i64 (n : Int), .bool g] 26)).alloc (.cells #[.int .i64 k, .int .i32 (r : Int), .int .i64 (n : Int), .bool g] 26)) (some ⟨(w4.alloc (.cells #[.int .i64 k, .int .i32 (r : Int), .int .i64 (n : Int), .bool g] 26)).heap.size, 0, none⟩) [.int .i64 k, .int .i32 (r : Int), .int .i64 (n : Int), .bool g] := Cells.new _ #[.int .i64 k, .int .i32 (r : Int), .int .i64 (n : Int), .bool g] _ _
      rw [World.size_alloc] at k2
      have hb5 := (hb4'.alloc hs4 (.cells #[.int .i64 k, .int .i32 (r : Int), .int .i64 (n : Int), .bool g] 26)).alloc (by simp; omega) (.cells #[.int .i64 k, .int .i32 (r : Int), .int .i64 (n : Int), .bool g] 26)
      go_wp2_with (at_builtin; refine wpList_append_cells _ rfl _ _ 32 rfl w.heap.size 26 i0 _ 4 32 Tryd.underlying32 hi hz0 hz1 hz2 rfl (by decide) _ _ _ rfl ho5 _ 1 1 _ rfl (by simp) k2 (fun h => by cases h) (by simp; refine ⟨rfl, rfl, rfl, rfl⟩) ?c3 ?c4 ?c5 ?_)
      case c3 => unfold maxLen; omega
      case c4 => omega
      case c5 => simp; omega
      intro v2 w6 h6 g6
      have hb6 := hb5.grown g6 (by simp; omega) (fun j hj => (ho5.lt j hj).1)
      have hx : w6.cell? ⟨w4.heap.size, 2, none⟩ = some (.int .i64 (n : Int)) := g6.cell (by simp) (fun e => by have := (ho4.lt _ e.symm).2; simp at this)
      have hl1 : pre.length + 1 = (pre ++ [(k, r, n, g)]).length := by simp
      have hcs : rowCs pre ++ [.int .i64 (k : Int), .int .i32 (r : Int), .int .i64 (n : Int), .bool g] = rowCs (pre ++ [(k, r, n, g)]) := by rw [rowCs_append]; rfl
      rw [hl1, hcs] at h6
      clear g6 hl1 hcs
      go_wp2_with (fail)
      refine ⟨⟨k + n, m - 1, pre ++ [(k, r, n, g)], by simp, by omega, by omega, by simp; omega, ?_, h6, hb6⟩, by simp [intOf]; omega⟩
      have hf : rowsF m (k + n) (bs.drop (k + n)) = rowsF (m - 1) (k + n) (bs.drop (k + n)) := rowsF_fuel _ _ _ _ (by simp; omega) (by simp; omega)
      have h7 := hpre.out
      rw [hf] at h7
      exact Lib.hid (by rw [h7]; simp)
    · have ek : k = bs.length := by omega
      rw [ek, List.drop_length, rowsF_nil, List.append_nil] at hpre
      go_wp2
      go_ret
      refine ⟨_, rfl, ?_, hb⟩
      rw [hpre.out]
      exact HO.out
end Go.Proofs.YtnepdjgbfhakmaaDoor
