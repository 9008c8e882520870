/- Trees: Same. Trees: Same. Trees: slices.EqualFunc; Same. -/
import Derived.Test.YtnepdjgbfhakmaaDoorTreeG
import Derived.Deep.QuietTactic
import Derived.BigQuiet
import Derived.Test.YtnepdjgbfhakmaaDoorTp
namespace Go.Proofs.YtnepdjgbfhakmaaDoor
set_option linter.unusedVariables false
set_option linter.unusedSimpArgs false
open Go.RowKit Go.Shelf
attribute [local go_sem] Oper.semAt_some

set_option maxRecDepth 100000 in
set_option maxHeartbeats 1000000 in
theorem equal_calls (K1 : Option Addr) (c1 : Nat) (l1 : List Int) (K2 : Option Addr) (c2 : Nat) (l2 : List Int) (w : World) (h1 : l1.length ≤ 140737488351232) (h2 : l2.length ≤ 140737488351232) (hK1 : Ints w K1 c1 l1) (hK2 : Ints w K2 c2 l2) :
    Calls Tryd.prog 84 #[.slice K1 l1.length c1, .slice K2 l2.length c2] w fun e w' => e = .returned (.bool (l1 == l2)) ∧ Below w.heap.size w w' := by
  by_cases hl : l1.length = l2.length
  · have HK1 := Lib.hid hK1
    have HK2 := Lib.hid hK2
    have e0 : ((l1.length : Int) != (l1.length : Int)) = false := by simp
    rw [← hl] at h2 ⊢
    have HL := Lib.hid hl
    clear hK1 hK2 hl
    go_enter Tryd.func84, Tryd.ntmps84
    go_wp2_with (fail)
    go_loopw [13] (fun v wr => ∃ k : Nat, v = .int .i64 k ∧ k ≤ l1.length ∧ Hid (l1.take k = l2.take k) ∧ Hid (Below w.heap.size w wr)) (fun v _ => l1.length - (intOf v).toNat)
    case atStart => exact ⟨0, rfl, by omega, Lib.hid (by simp), Lib.hid (Below.refl _ _)⟩
    case round =>
      obtain ⟨k, rfl, hk, he, hb⟩ := hrel
      obtain ⟨wo, rfl⟩ : ∃ wo : World, wo = wr := ⟨_, rfl⟩
      by_cases hlt : k < l1.length
      · obtain ⟨a1, rfl, q1⟩ := ints_at (HK1.out.below hb.out) k hlt
        obtain ⟨a2, rfl, q2⟩ := ints_at (HK2.out.below hb.out) k (by rw [← HL.out]; exact hlt)
        have hlt2 : k < l2.length := by rw [← HL.out]; exact hlt
        have g1 : l1.getD k 0 = l1[k] := by simp [List.getD, hlt]
        have g2 : l2.getD k 0 = l2[k] := by simp [List.getD, hlt2]
        have hst : (l1.take (k + 1) = l2.take (k + 1)) ↔ l1.getD k 0 = l2.getD k 0 := by
          rw [List.take_succ_eq_append_getElem hlt, List.take_succ_eq_append_getElem hlt2, he.out, g1, g2]
          constructor
          · intro h
            have := List.append_cancel_left h
            simpa using this
          · intro h
            rw [h]
        have hno : l1.getD k 0 ≠ l2.getD k 0 → (l1 == l2) = false := fun h => by
          rw [beq_eq_false_iff_ne]
          intro h'
          apply h
          rw [h']
        obtain ⟨x, hx⟩ : ∃ x, l1.getD k 0 = x := ⟨_, rfl⟩
        obtain ⟨y, hy⟩ : ∃ y, l2.getD k 0 = y := ⟨_, rfl⟩
        rw [hx, hy] at hst hno
        rw [hx] at q1
        rw [hy] at q2
        have HST := Lib.hid hst
        have HNO := Lib.hid hno
        have i0 : (0 : Int) ≤ (k : Int) := by omega
        have i1 : (k : Int) < (l1.length : Int) := by omega
        clear hst hno hx hy g1 g2 hlt2
        by_cases hxy : x = y
        · have H2 := Lib.hid (HST.out.2 hxy)
          subst hxy
          have e1 : (x != x) = false := by simp
          clear HST HNO
          go_wp2_with (fail)
          go_quiet (fail)
          go_wp2_with (fail)
          exact ⟨⟨k + 1, by simp, by omega, H2, Lib.hid (hb.out.trans ((below_drewN (Below.refl _ _) _).mono hb.out.size))⟩, by simp [intOf]; omega⟩
        · have e1 : (x != y) = true := by simpa using hxy
          have HN := Lib.hid (HNO.out hxy)
          clear hxy HNO HST
          go_wp2_with (fail)
          go_quiet (fail)
          go_wp2_with (fail)
          go_ret
          exact ⟨ret_val (by rw [HN.out]; rfl), hb.out.trans ((below_drewN (Below.refl _ _) _).mono hb.out.size)⟩
      · have hkl : k = l1.length := by omega
        have hall : (l1 == l2) = true := by
          have := he.out
          rw [hkl, List.take_length, HL.out, List.take_length] at this
          rw [this]; simp
        have HAL := Lib.hid hall
        clear hkl hall he
        go_wp2_with (fail)
        go_ret
        exact ⟨ret_val (by rw [HAL.out]; rfl), hb.out⟩
  · have e1 : ((l1.length : Int) != (l2.length : Int)) = true := by simp; omega
    have hno : (l1 == l2) = false := by
      rw [beq_eq_false_iff_ne]
      intro h
      exact hl (by rw [h])
    have HN := Lib.hid hno
    clear hno hl
    go_enter Tryd.func84, Tryd.ntmps84
    go_wp2_with (fail)
    go_ret
    exact ⟨ret_val (by rw [HN.out]; rfl), Below.refl _ _⟩
end Go.Proofs.YtnepdjgbfhakmaaDoor

namespace Go.Proofs.YtnepdjgbfhakmaaDoor
set_option linter.unusedVariables false
set_option linter.unusedSimpArgs false
open Go.RowKit Go.Shelf
attribute [local go_sem] Oper.semAt_some

theorem text_ne {s t : ByteArray} (h : s ≠ t) : (s.data.toList == t.data.toList) = false := by
  rw [beq_eq_false_iff_ne]
  intro h'
  apply h
  cases s; cases t
  simp at h'
  rw [h']
theorem text_ne' {s t : ByteArray} (h : s ≠ t) : (s.toList == t.toList) = false := by
  rw [ByteArray.toList_eq, ByteArray.toList_eq]; exact text_ne h
set_option maxRecDepth 100000 in
set_option maxHeartbeats 2000000 in
theorem sameC_calls (x y : Nd) (K1 : Option Addr) (c1 : Nat) (K2 : Option Addr) (c2 : Nat) (w : World) (h1 : x.kids.length ≤ 140737488351232) (h2 : y.kids.length ≤ 140737488351232) (hK1 : Ints w K1 c1 x.kids) (hK2 : Ints w K2 c2 y.kids) :
    Calls Tryd.prog 83 #[.agg #[.int .i64 x.kind, .string x.text, .int .i64 x.num, .slice K1 x.kids.length c1, .int .i64 x.pos], .agg #[.int .i64 y.kind, .string y.text, .int .i64 y.num, .slice K2 y.kids.length c2, .int .i64 y.pos]] w
      fun e w' => e = .returned (.bool (sameNd x y)) ∧ Below w.heap.size w w' := by
  obtain ⟨kx, tx, nx, l1, px⟩ := x
  obtain ⟨ky, ty, ny, l2, py⟩ := y
  simp only at h1 h2 hK1 hK2 ⊢
  obtain ⟨W1, hW1⟩ : ∃ W1, (w.alloc (.cells #[.int .i64 kx, .string tx, .int .i64 nx, .slice K1 l1.length c1, .int .i64 px] 54)).alloc (.cells #[.int .i64 ky, .string ty, .int .i64 ny, .slice K2 l2.length c2, .int .i64 py] 54) = W1 := ⟨_, rfl⟩
  have b1 : Below w.heap.size w W1 := by rw [← hW1]; exact ((Below.refl _ _).alloc (Nat.le_refl _) _).alloc (by simp) _
  have v0 : W1.heap[w.heap.size]? = some (.cells #[.int .i64 kx, .string tx, .int .i64 nx, .slice K1 l1.length c1, .int .i64 px] 54 (0, 0)) := by rw [← hW1]; exact alloc_old (alloc_at rfl _) _
  have v1 : W1.heap[w.heap.size + 1]? = some (.cells #[.int .i64 ky, .string ty, .int .i64 ny, .slice K2 l2.length c2, .int .i64 py] 54 (0, 0)) := by rw [← hW1]; exact alloc_at (by simp) _
  have HE := Lib.hid (equal_calls K1 c1 l1 K2 c2 l2 W1 h1 h2 (hK1.below b1) (hK2.below b1))
  have HW1 := Lib.hid hW1
  have HB1 := Lib.hid b1
  have a0 : W1.cell? ⟨w.heap.size, 0, none⟩ = some (.int .i64 kx) := by simp [World.cell?, v0]
  have a1 : W1.cell? ⟨w.heap.size, 1, none⟩ = some (.string tx) := by simp [World.cell?, v0]
  have a2 : W1.cell? ⟨w.heap.size, 2, none⟩ = some (.int .i64 nx) := by simp [World.cell?, v0]
  have a3 : W1.cell? ⟨w.heap.size, 3, none⟩ = some (.slice K1 l1.length c1) := by simp [World.cell?, v0]
  have d0 : W1.cell? ⟨w.heap.size + 1, 0, none⟩ = some (.int .i64 ky) := by simp [World.cell?, v1]
  have d1 : W1.cell? ⟨w.heap.size + 1, 1, none⟩ = some (.string ty) := by simp [World.cell?, v1]
  have d2 : W1.cell? ⟨w.heap.size + 1, 2, none⟩ = some (.int .i64 ny) := by simp [World.cell?, v1]
  have d3 : W1.cell? ⟨w.heap.size + 1, 3, none⟩ = some (.slice K2 l2.length c2) := by simp [World.cell?, v1]
  have hs : sameNd ⟨kx, tx, nx, l1, px⟩ ⟨ky, ty, ny, l2, py⟩ = (kx == ky && tx.data.toList == ty.data.toList && nx == ny && l1 == l2) := rfl
  have HS := Lib.hid hs
  clear hW1 b1 v0 v1 hs hK1 hK2
  by_cases hk : kx = ky
  · subst hk
    by_cases ht : tx = ty
    · subst ht
      by_cases hn : nx = ny
      · subst hn
        have hs := HS.out
        simp only [beq_self_eq_true, Bool.true_and] at hs
        have HS2 := Lib.hid hs
        clear hs HS
        go_enter Tryd.func83, Tryd.ntmps83
        go_upto_region 1 with (fail)
        rw [HW1.out]
        go_wp2_with (fail)
        refine HE.out.mono ?_
        rintro e W2 ⟨rfl, b2⟩
        have HB2 := Lib.hid (HB1.out.trans (b2.mono HB1.out.size))
        clear b2 a0 a1 a2 a3 d0 d1 d2 d3
        obtain ⟨b, hb⟩ : ∃ b, (l1 == l2) = b := ⟨_, rfl⟩
        rw [hb] at HS2 ⊢
        clear hb
        go_wp2_with (fail)
        go_ret
        exact ⟨ret_val (by rw [HS2.out]; rfl), HB2.out⟩
      · have e1 : (nx == ny) = false := by simpa using hn
        have hs := HS.out
        rw [e1] at hs
        simp only [Bool.and_false, Bool.false_and] at hs
        have HS2 := Lib.hid hs
        clear hs HS hn
        go_enter Tryd.func83, Tryd.ntmps83
        go_upto_region 1 with (fail)
        rw [HW1.out]
        go_wp2_with (fail)
        go_ret
        exact ⟨ret_val (by rw [HS2.out]; rfl), HB1.out⟩
    · have e1 : (tx.data.toList == ty.data.toList) = false := text_ne ht
      have hs := HS.out
      rw [e1] at hs
      simp only [Bool.and_false, Bool.false_and] at hs
      have HS2 := Lib.hid hs
      have e2 := text_ne' ht
      clear hs HS e1 ht
      go_enter Tryd.func83, Tryd.ntmps83
      go_upto_region 1 with (fail)
      rw [HW1.out]
      go_wp2_with (fail)
      go_ret
      exact ⟨ret_val (by rw [HS2.out]; rfl), HB1.out⟩
  · have e1 : (kx == ky) = false := by simpa using hk
    have hs := HS.out
    rw [e1] at hs
    simp only [Bool.and_false, Bool.false_and] at hs
    have HS2 := Lib.hid hs
    clear hs HS hk
    go_enter Tryd.func83, Tryd.ntmps83
    go_upto_region 1 with (fail)
    rw [HW1.out]
    go_wp2_with (fail)
    go_ret
    exact ⟨ret_val (by rw [HS2.out]; rfl), HB1.out⟩
end Go.Proofs.YtnepdjgbfhakmaaDoor

namespace Go.Proofs.YtnepdjgbfhakmaaDoor
set_option linter.unusedVariables false
set_option linter.unusedSimpArgs false
open Go.RowKit Go.Shelf
attribute [local go_sem] Oper.semAt_some

/-- Bounds on a tree whose nodes are only looked at. -/
def Lens (T : List Nd) : Prop := T.length ≤ 140737488351232 ∧ ∀ x ∈ T, x.kids.length ≤ 140737488351232
theorem range_all' {n : Nat} {f : Nat → Bool} (h : ∀ j, j < n → f j = true) : (List.range n).all f = true := by
  rw [List.all_eq_true]
  exact fun j hj => h j (List.mem_range.1 hj)
theorem range_no' {n : Nat} {f : Nat → Bool} {j : Nat} (hj : j < n) (h : f j = false) : (List.range n).all f = false := by
  rw [List.all_eq_false]
  exact ⟨j, List.mem_range.2 hj, by rw [h]; decide⟩
abbrev nodeV (x : Nd) (K : Option Addr) (c : Nat) : Array Value := #[.int .i64 x.kind, .string x.text, .int .i64 x.num, .slice K x.kids.length c, .int .i64 x.pos]

set_option maxRecDepth 100000 in
set_option maxHeartbeats 2000000 in
theorem equalF_calls (A1 : Option Addr) (c1 : Nat) (S : List Nd) (A2 : Option Addr) (c2 : Nat) (T : List Nd) (w : World) (hS : Lens S) (hT : Lens T) (hA1 : TreeAt w A1 S) (hA2 : TreeAt w A2 T) :
    Calls Tryd.prog 82 #[.slice A1 S.length c1, .slice A2 T.length c2, .func (.func 83) #[] #[]] w fun e w' => e = .returned (.bool (sameL S T)) ∧ Below w.heap.size w w' := by
  have hls := hS.1
  have hlt := hT.1
  by_cases hl : S.length = T.length
  · have hs : sameL S T = (List.range S.length).all fun i => sameNd (S.getD i default) (T.getD i default) := by unfold sameL; rw [hl]; simp
    have e0 : ((S.length : Int) != (S.length : Int)) = false := by simp
    have HS := Lib.hid hs
    have HA1 := Lib.hid hA1
    have HA2 := Lib.hid hA2
    have HLS := Lib.hid hS
    have HLT := Lib.hid hT
    have HL := Lib.hid hl
    rw [← hl]
    clear hs hA1 hA2 hS hT hl
    go_enter Tryd.func82, Tryd.ntmps82
    go_wp2_with (fail)
    go_loopw [17] (fun v wr => ∃ k : Nat, v = .int .i64 k ∧ k ≤ S.length ∧ Hid (∀ j, j < k → sameNd (S.getD j default) (T.getD j default) = true) ∧ Hid (Below w.heap.size w wr)) (fun v _ => S.length - (intOf v).toNat)
    case atStart => exact ⟨0, rfl, by omega, Lib.hid (fun j hj => absurd hj (by omega)), Lib.hid (Below.refl _ _)⟩
    case round =>
      obtain ⟨k, rfl, hk, hj, hb⟩ := hrel
      obtain ⟨wo, rfl⟩ : ∃ wo : World, wo = wr := ⟨_, rfl⟩
      by_cases hlt : k < S.length
      · have hlt2 : k < T.length := by rw [← HL.out]; exact hlt
        obtain ⟨x, K1, k1, hx, hn1⟩ := (HA1.out.below hb.out).get hlt
        obtain ⟨y, K2, k2, hy, hn2⟩ := (HA2.out.below hb.out).get hlt2
        have hxl := HLS.out.2 x (List.mem_of_getElem? hx)
        have hyl := HLT.out.2 y (List.mem_of_getElem? hy)
        have gx : S.getD k default = x := by simp [List.getD, hx]
        have gy : T.getD k default = y := by simp [List.getD, hy]
        obtain ⟨⟨a, rfl, p0, p1, p2, p3, p4⟩, hK1⟩ := hn1
        obtain ⟨⟨a2, rfl, q0, q1, q2, q3, q4⟩, hK2⟩ := hn2
        have b1 : Below wo.heap.size wo (wo.alloc (.cells (nodeV x K1 k1) 54)) := (Below.refl _ _).alloc (Nat.le_refl _) _
        have hx1 : (wo.alloc (.cells (nodeV x K1 k1) 54)).heap[wo.heap.size]? = some (.cells (nodeV x K1 k1) 54 (0, 0)) := World.alloc_heap_new wo _
        obtain ⟨W5, hW5⟩ : ∃ W5, wo.alloc (.cells (nodeV x K1 k1) 54) = W5 := ⟨_, rfl⟩
        rw [hW5] at b1 hx1
        have b2 : Below W5.heap.size W5 (W5.alloc (.cells (nodeV y K2 k2) 54)) := (Below.refl _ _).alloc (Nat.le_refl _) _
        have hx2 := alloc_old hx1 (.cells (nodeV y K2 k2) 54)
        have hy2 : (W5.alloc (.cells (nodeV y K2 k2) 54)).heap[W5.heap.size]? = some (.cells (nodeV y K2 k2) 54 (0, 0)) := World.alloc_heap_new W5 _
        obtain ⟨W6, hW6⟩ : ∃ W6, W5.alloc (.cells (nodeV y K2 k2) 54) = W6 := ⟨_, rfl⟩
        rw [hW6] at b2 hx2 hy2
        have b12 := b1.trans (b2.mono b1.size)
        have HC := Lib.hid (sameC_calls x y K1 k1 K2 k2 W6 hxl hyl (hK1.below b12) (hK2.below b12))
        have HB6 := Lib.hid (hb.out.trans (b12.mono hb.out.size))
        have s0 := b1.cell_keep q0
        have s1 := b1.cell_keep q1
        have s2 := b1.cell_keep q2
        have s3 := b1.cell_keep q3
        have s4 := b1.cell_keep q4
        have HG := Lib.hid (And.intro gx gy)
        have HW5 := Lib.hid hW5
        have HW6 := Lib.hid hW6
        have HX2 := Lib.hid hx2
        have HY2 := Lib.hid hy2
        clear gx gy hW5 hW6 hx hy hK1 hK2 b1 b2 b12 hx1 hx2 hy2 q0 q1 q2 q3 q4 hlt2
        go_upto_region 6 with (fail)
        rw [HW5.out]
        clear p0 p1 p2 p3 p4
        go_upto_region 7 with (fail)
        rw [HW6.out]
        clear s0 s1 s2 s3 s4
        have t0 : W6.cell? ⟨wo.heap.size, 0, none⟩ = some (.int .i64 x.kind) := by simp [World.cell?, HX2.out]
        have t1 : W6.cell? ⟨wo.heap.size, 1, none⟩ = some (.string x.text) := by simp [World.cell?, HX2.out]
        have t2 : W6.cell? ⟨wo.heap.size, 2, none⟩ = some (.int .i64 x.num) := by simp [World.cell?, HX2.out]
        have t3 : W6.cell? ⟨wo.heap.size, 3, none⟩ = some (.slice K1 x.kids.length k1) := by simp [World.cell?, HX2.out]
        have t4 : W6.cell? ⟨wo.heap.size, 4, none⟩ = some (.int .i64 x.pos) := by simp [World.cell?, HX2.out]
        have u0 : W6.cell? ⟨W5.heap.size, 0, none⟩ = some (.int .i64 y.kind) := by simp [World.cell?, HY2.out]
        have u1 : W6.cell? ⟨W5.heap.size, 1, none⟩ = some (.string y.text) := by simp [World.cell?, HY2.out]
        have u2 : W6.cell? ⟨W5.heap.size, 2, none⟩ = some (.int .i64 y.num) := by simp [World.cell?, HY2.out]
        have u3 : W6.cell? ⟨W5.heap.size, 3, none⟩ = some (.slice K2 y.kids.length k2) := by simp [World.cell?, HY2.out]
        have u4 : W6.cell? ⟨W5.heap.size, 4, none⟩ = some (.int .i64 y.pos) := by simp [World.cell?, HY2.out]
        go_wp2_with (fail)
        refine HC.out.mono ?_
        rintro e W7 ⟨rfl, b7⟩
        have HB7 := Lib.hid (HB6.out.trans (b7.mono HB6.out.size))
        clear b7 t0 t1 t2 t3 t4 u0 u1 u2 u3 u4 HC
        obtain ⟨b, hbe⟩ : ∃ b, sameNd x y = b := ⟨_, rfl⟩
        rw [hbe]
        have HBE := Lib.hid hbe
        clear hbe
        cases b with
        | true =>
          go_wp2_with (fail)
          refine ⟨⟨k + 1, by simp, by omega, Lib.hid (fun j hj2 => ?_), HB7⟩, by simp [intOf]; omega⟩
          rcases Nat.lt_succ_iff_lt_or_eq.1 hj2 with h1 | rfl
          · exact hj.out j h1
          · rw [HG.out.1, HG.out.2]; exact HBE.out
        | false =>
          go_wp2_with (fail)
          go_ret
          refine ⟨ret_val ?_, HB7.out⟩
          rw [HS.out, range_no' hlt (by rw [HG.out.1, HG.out.2]; exact HBE.out)]
          rfl
      · have hkl : k = S.length := by omega
        have hall := hj.out
        rw [hkl] at hall
        have HAL := Lib.hid (range_all' hall)
        clear hkl hall hj
        go_wp2_with (fail)
        go_ret
        exact ⟨ret_val (by rw [HS.out, HAL.out]; rfl), hb.out⟩
  · have e1 : ((S.length : Int) != (T.length : Int)) = true := by simp; omega
    have hs : sameL S T = false := by unfold sameL; rw [beq_false_of_ne hl, Bool.false_and]
    have HS := Lib.hid hs
    clear hs hl hA1 hA2 hS hT
    go_enter Tryd.func82, Tryd.ntmps82
    go_wp2_with (fail)
    go_ret
    exact ⟨ret_val (by rw [HS.out]; rfl), Below.refl _ _⟩

set_option maxRecDepth 100000 in
theorem same_calls (A1 : Option Addr) (c1 : Nat) (S : List Nd) (A2 : Option Addr) (c2 : Nat) (T : List Nd) (w : World) (hS : Lens S) (hT : Lens T) (hA1 : TreeAt w A1 S) (hA2 : TreeAt w A2 T) :
    Calls Tryd.prog 50 #[treeV A1 S.length c1, treeV A2 T.length c2] w fun e w' => e = .returned (.bool (sameL S T)) ∧ Below w.heap.size w w' := by
  obtain ⟨W1, hW1⟩ : ∃ W1, (w.alloc (.cells #[.slice A1 S.length c1] 59)).alloc (.cells #[.slice A2 T.length c2] 59) = W1 := ⟨_, rfl⟩
  have b1 : Below w.heap.size w W1 := by rw [← hW1]; exact ((Below.refl _ _).alloc (Nat.le_refl _) _).alloc (by simp) _
  have v0 : W1.heap[w.heap.size]? = some (.cells #[.slice A1 S.length c1] 59 (0, 0)) := by rw [← hW1]; exact alloc_old (alloc_at rfl _) _
  have v1 : W1.heap[w.heap.size + 1]? = some (.cells #[.slice A2 T.length c2] 59 (0, 0)) := by rw [← hW1]; exact alloc_at (by simp) _
  have HE := Lib.hid (equalF_calls A1 c1 S A2 c2 T W1 hS hT (hA1.below b1) (hA2.below b1))
  have a0 : W1.cell? ⟨w.heap.size, 0, none⟩ = some (.slice A1 S.length c1) := by simp [World.cell?, v0]
  have a1 : W1.cell? ⟨w.heap.size + 1, 0, none⟩ = some (.slice A2 T.length c2) := by simp [World.cell?, v1]
  have HW1 := Lib.hid hW1
  have HB1 := Lib.hid b1
  clear hW1 b1 v0 v1 hA1 hA2 hS hT
  go_enter Tryd.func50, Tryd.ntmps50
  go_upto_region 1 with (fail)
  rw [HW1.out]
  go_wp2_with (fail)
  refine HE.out.mono ?_
  rintro e W2 ⟨rfl, b2⟩
  have HB2 := Lib.hid (HB1.out.trans (b2.mono HB1.out.size))
  clear b2 a0 a1
  go_wp2_with (fail)
  go_ret
  exact ⟨rfl, HB2.out⟩
end Go.Proofs.YtnepdjgbfhakmaaDoor
