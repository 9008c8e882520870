/- shuckref1.Decode: it answers what text.Decode answers. -/
import Derived.Test.YtnepdjgbfhakmaaDoorText2
namespace Go.Proofs.YtnepdjgbfhakmaaDoor
set_option linter.unusedVariables false
set_option linter.unusedSimpArgs false
open Go.RowKit

def rowV (i : Int) (x : Nat × Nat × Bool) : Value := .agg #[.int .i64 i, .int .i32 (x.1 : Int), .int .i64 (x.2.1 : Int), .bool x.2.2]

/-- The digits of m bytes that go on; none: there are too few, or one does not. -/
def contsN (r : Nat) : Nat → List UInt8 → Option Nat
  | 0, _ => some r
  | _ + 1, [] => none
  | m + 1, c :: t => if c.toNat / 64 = 2 then contsN (r * 64 + c.toNat % 64) m t else none

theorem contsN_eq : ∀ (m r : Nat) (t : List UInt8), contsN r m t = if t.length < m then none else conts r (t.take m)
  | 0, r, t => by simp [contsN, conts]
  | m + 1, r, [] => by simp [contsN]
  | m + 1, r, c :: t => by
    simp only [contsN, List.length_cons, List.take_succ_cons, conts]
    split
    · rw [contsN_eq m]
      by_cases h : t.length < m
      · rw [if_pos h, if_pos (by omega)]
      · rw [if_neg h, if_neg (by omega)]
    · split <;> rfl

theorem contsN_bound (m r r' : Nat) (t : List UInt8) (h : contsN r m t = some r') : r' < (r + 1) * 64 ^ m := by
  rw [contsN_eq] at h
  split at h
  · cases h
  · rename_i hl
    have := conts_bound _ _ _ h
    rwa [List.length_take, Nat.min_eq_left (by omega)] at this

def resOf (R : Option Nat) (n : Nat) : Nat × Nat × Bool := match R with
  | none => (65533, 1, false)
  | some r => if fitsB r n then (r, n, true) else (65533, 1, false)
theorem dec_cons (b : UInt8) (t : List UInt8) : dec (b :: t) = if wideN b.toNat = 0 then (65533, 1, false) else resOf (contsN (wideR b.toNat) (wideN b.toNat - 1) t) (wideN b.toNat) := by
  rw [contsN_eq, dec]
  by_cases h : wideN b.toNat = 0
  · rw [if_pos h, if_pos (.inl h)]
  · rw [if_neg h]
    by_cases h2 : t.length + 1 < wideN b.toNat
    · rw [if_pos (.inr h2), if_pos (by omega)]; rfl
    · rw [if_neg (by omega), if_neg (by omega)]
      rfl

set_option maxRecDepth 100000 in
set_option maxHeartbeats 400000 in
theorem cont_calls (A : Option Addr) (c : Nat) (bs : List UInt8) (i : Nat) (w : World) (_hl : bs.length ≤ 9223372036854775807) (hc : Cells w A (bcells bs)) :
    Calls Tryd.prog 66 #[.slice A bs.length c, .int .i64 (i : Int)] w fun e w' => e = .returned (.bool (decide (i < bs.length ∧ gb bs i / 64 = 2))) ∧ w = w' := by
  by_cases h : i < bs.length
  · obtain ⟨a, rfl, hcell⟩ := bytes_at hc i h
    have hb := gb_lt bs i
    by_cases h1 : 128 ≤ gb bs i
    all_goals
      go_enter Tryd.func66, Tryd.ntmps66
      go_wp2
      all_goals (go_ret; go_tidy; refine ⟨ret_val (congrArg Value.bool ?_), rfl⟩; rw [Bool.eq_iff_iff]; simp; omega)
  · go_enter Tryd.func66, Tryd.ntmps66
    go_wp2
    all_goals (go_ret; go_tidy; refine ⟨ret_val (congrArg Value.bool ?_), rfl⟩; rw [Bool.eq_iff_iff]; simp; omega)

set_option maxRecDepth 100000 in
set_option maxHeartbeats 400000 in
theorem refdec_out (A : Option Addr) (c : Nat) (bs : List UInt8) (i : Int) (w : World) (hl : bs.length ≤ 9223372036854775807) (h : i < 0 ∨ bs.length ≤ i) :
    Calls Tryd.prog 20 #[.slice A bs.length c, .int .i64 i] w fun e w' => e = .returned (rowV i (0, 0, false)) ∧ Below w.heap.size w w' := by
  rcases h with h | h
  all_goals
    go_enter Tryd.func20, Tryd.ntmps20
    go_wp2
    all_goals exact bodyPost_ret (v := rowV i (0, 0, false)) (by simp [results, Tryd.results20, go_sem, rowV]) rfl ⟨rfl, (Below.refl _ _).alloc (Nat.le_refl _) _⟩

set_option maxRecDepth 100000 in
set_option maxHeartbeats 400000 in
theorem refdec_one (A : Option Addr) (c : Nat) (bs : List UInt8) (i : Nat) (w : World) (_hl : bs.length ≤ 9223372036854775807) (h : i < bs.length) (hc : Cells w A (bcells bs)) (h1 : gb bs i < 128) :
    Calls Tryd.prog 20 #[.slice A bs.length c, .int .i64 (i : Int)] w fun e w' => e = .returned (rowV i (gb bs i, 1, true)) ∧ Below w.heap.size w w' := by
  obtain ⟨a, rfl, hcell⟩ := bytes_at hc i h
  have hca := cell_alloc_keep hcell
  go_enter Tryd.func20, Tryd.ntmps20
  go_wp2
  exact bodyPost_ret (v := rowV i (gb bs i, 1, true)) (by simp [results, Tryd.results20, go_sem, rowV]) rfl ⟨rfl, ((Below.refl _ _).alloc (Nat.le_refl _) _).alloc (by simp) _⟩

set_option maxRecDepth 100000 in
set_option maxHeartbeats 400000 in
theorem refdec_bad (A : Option Addr) (c : Nat) (bs : List UInt8) (i : Nat) (w : World) (_hl : bs.length ≤ 9223372036854775807) (h : i < bs.length) (hc : Cells w A (bcells bs)) (h1 : 128 ≤ gb bs i ∧ gb bs i < 192 ∨ 248 ≤ gb bs i) :
    Calls Tryd.prog 20 #[.slice A bs.length c, .int .i64 (i : Int)] w fun e w' => e = .returned (rowV i (65533, 1, false)) ∧ Below w.heap.size w w' := by
  obtain ⟨a, rfl, hcell⟩ := bytes_at hc i h
  have hg := gb_lt bs i
  have hca := cell_alloc_keep hcell
  rcases h1 with ⟨h1, h2⟩ | h1
  all_goals
    go_enter Tryd.func20, Tryd.ntmps20
    go_wp2
    exact bodyPost_ret (v := rowV i (65533, 1, false)) (by simp [results, Tryd.results20, go_sem, rowV]) rfl ⟨rfl, ((Below.refl _ _).alloc (Nat.le_refl _) _).alloc (by simp) _⟩

def RefInv2 (w : World) (bs : List UInt8) (i v0 : Nat) (R : Option Nat) (v j : Value) (wr : World) : Prop :=
  ∃ V J : Nat, v = .int .i64 V ∧ j = .int .i64 J ∧ 1 ≤ J ∧ J ≤ 2 ∧ V < (v0 + 1) * 64 ^ (J - 1) ∧ R = contsN V (2 - J) (bs.drop (i + J)) ∧ wr = (w.alloc (.cells #[.int .i64 0, .int .i32 0, .int .i64 0, .bool false] 26)).alloc (.cells #[.int .i64 i, .int .i32 65533, .int .i64 1, .bool false] 26)
set_option maxRecDepth 100000 in
set_option maxHeartbeats 1000000 in
theorem refdec_2 (A : Option Addr) (c : Nat) (bs : List UInt8) (i : Nat) (w : World) (hl : bs.length ≤ 9223372036854775000) (hcap : bs.length ≤ c) (h : i < bs.length) (hc : Cells w A (bcells bs)) (h1 : 192 ≤ gb bs i) (h2 : gb bs i < 224) :
    Calls Tryd.prog 20 #[.slice A bs.length c, .int .i64 (i : Int)] w fun e w' => e = .returned (rowV i (resOf (contsN (gb bs i - 192) 1 (bs.drop (i + 1))) 2)) ∧ Below w.heap.size w w' := by
  have hca := hc
  obtain ⟨a, rfl, hcell⟩ := bytes_at hc i h
  obtain ⟨v0, hv0⟩ : ∃ v0, v0 = gb bs i - 192 := ⟨_, rfl⟩
  obtain ⟨R, hR⟩ : ∃ R, R = contsN v0 1 (bs.drop (i + 1)) := ⟨_, rfl⟩
  rw [← hv0, ← hR]
  obtain ⟨X, hX⟩ : ∃ X, X = resOf R 2 := ⟨_, rfl⟩
  rw [← hX]
  have HX := Lib.hid hX
  clear hX
  have HR := Lib.hid hR
  have HV := Lib.hid hv0
  have hv1 : v0 < 224 - 192 := by omega
  clear hR hv0
  have hv2 : (gb bs i : Int) - 192 = (v0 : Int) := by have := HV.out; omega
  have HV2 := Lib.hid hv2
  clear hv2
  have hcal := cell_alloc_keep hcell
  have hq0 : decide ((192 : Int) ≤ (gb bs i : Int)) = true := by simp; omega
  have hq1 : decide ((gb bs i : Int) ≤ 223) = true := by simp; omega
  have hq2 : decide ((224 : Int) ≤ (gb bs i : Int)) = false := by simp; omega
  have hq3 : decide ((gb bs i : Int) ≤ 239) = true := by simp; omega
  have hq4 : decide ((240 : Int) ≤ (gb bs i : Int)) = false := by simp; omega
  have hq5 : decide ((gb bs i : Int) ≤ 247) = true := by simp; omega
  have hdl : decide (bs.length ≤ i) = false := by simp; omega
  go_enter Tryd.func20, Tryd.ntmps20
  go_wp2
  rw [HV2.out]
  go_loopw [8, 10] (fun v j wr => RefInv2 w bs i v0 R v j wr) (fun _ j _ => 2 - (intOf j).toNat)
  case atStart => exact ⟨v0, 1, rfl, rfl, by omega, by omega, by simp, HR.out, rfl⟩
  case round =>
    obtain ⟨V, J, rfl, rfl, hJ1, hJn, hVJ, hC, rfl⟩ := hrel
    have HC := Lib.hid hC
    clear hC
    have hVb : V < 2048 := by
      have : J = 1 ∨ J = 2 ∨ J = 3 ∨ J = 4 := by omega
      rcases this with rfl | rfl | rfl | rfl <;> simp at hVJ <;> omega
    have hbel : Below w.heap.size w ((w.alloc (.cells #[.int .i64 0, .int .i32 0, .int .i64 0, .bool false] 26)).alloc (.cells #[.int .i64 i, .int .i32 65533, .int .i64 1, .bool false] 26)) :=
      ((Below.refl _ _).alloc (Nat.le_refl _) _).alloc (by simp) _
    have hc2 : Cells ((w.alloc (.cells #[.int .i64 0, .int .i32 0, .int .i64 0, .bool false] 26)).alloc (.cells #[.int .i64 i, .int .i32 65533, .int .i64 1, .bool false] 26)) (some a) (bcells bs) := hca.below hbel
    by_cases hlt : J < 2
    · have hst : R = if i + J < bs.length ∧ gb bs (i + J) / 64 = 2 then contsN (V * 64 + gb bs (i + J) % 64) (2 - (J + 1)) (bs.drop (i + (J + 1))) else none := by
        rw [HC.out]
        by_cases hin : i + J < bs.length
        · rw [List.drop_eq_getElem_cons hin, show 2 - J = (2 - (J + 1)) + 1 by omega, contsN]
          have hgb : gb bs (i + J) = bs[i + J].toNat := by simp [gb, List.getD, hin]
          rw [← hgb]
          by_cases hq : gb bs (i + J) / 64 = 2
          · rw [if_pos hq, if_pos ⟨hin, hq⟩]; rfl
          · rw [if_neg hq, if_neg (fun h => hq h.2)]
        · rw [if_neg (fun h => hin h.1), List.drop_of_length_le (by omega), show 2 - J = (2 - (J + 1)) + 1 by omega, contsN]
      have HS := Lib.hid hst
      have hcont := cont_calls (some a) c bs (i + J) _ (by omega) hc2
      have hcont' : Calls Tryd.prog 66 #[.slice (some a) bs.length c, .int .i64 ((i : Int) + (J : Int))] _ _ := hcont
      have HCC := Lib.hid hcont'
      clear hcont hcont' hst HC
      by_cases hgo : i + J < bs.length ∧ gb bs (i + J) / 64 = 2
      · obtain ⟨a', ha', hcell'⟩ := bytes_at hc2 (i + J) hgo.1
        cases ha'
        have HGO := Lib.hid hgo
        have hg1 : gb bs (i + J) < 192 := by omega
        have hg0 : 128 ≤ gb bs (i + J) := by omega
        have hin : i + J < bs.length := hgo.1
        clear hgo hc2
        go_wp2_with (first | (go_at_call 66; refine HCC.out.mono ?_; rintro e w' ⟨rfl, rfl⟩; rw [decide_eq_true HGO.out]))
        refine ⟨⟨V * 64 + gb bs (i + J) % 64, J + 1, int_eq (by omega), int_eq (by omega), by omega, by omega, ?_, ?_, rfl⟩, by simp [intOf]; omega⟩
        · have h64 : 64 ^ (J + 1 - 1) = 64 ^ (J - 1) * 64 := by rw [← Nat.pow_succ]; congr 1; omega
          rw [h64, ← Nat.mul_assoc]; omega
        · rw [HS.out, if_pos HGO.out]
      · have hR : R = none := by rw [HS.out, if_neg hgo]
        have HRN := Lib.hid hR
        have HGO := Lib.hid hgo
        clear hR hgo hc2
        go_wp2_with (first | (go_at_call 66; refine HCC.out.mono ?_; rintro e w' ⟨rfl, rfl⟩; rw [decide_eq_false HGO.out]))
        refine bodyPost_ret (v := rowV i (65533, 1, false)) (by simp [results, Tryd.results20, go_sem, rowV]) rfl ⟨?_, ((Below.refl _ _).alloc (Nat.le_refl _) _).alloc (by simp) _⟩
        rw [HX.out, HRN.out]; rfl
    · obtain rfl : J = 2 := by omega
      have hR : R = some V := by rw [HC.out]; simp [contsN]
      have hVb2 : V < (v0 + 1) * 64 ^ (2 - 1) := hVJ
      simp at hVb2
      have hgoal : ∀ b : Bool, fitsB V 2 = b → X = if b then (V, 2, true) else (65533, 1, false) := by
        intro b hb; rw [HX.out, hR]; simp only [resOf, hb]
      have HG := Lib.hid hgoal
      clear hgoal hR HC hc2
      by_cases hf : 128 ≤ V
      · have HF : Hid (fitsB V 2 = true) := by show _ = _; simp [fitsB]; omega
        have hf3 : V < 55296 := by omega
        all_goals
          go_wp2
          refine bodyPost_ret (v := rowV i (V, 2, true)) (by simp [results, Tryd.results20, go_sem, rowV]) rfl ⟨?_, ((Below.refl _ _).alloc (Nat.le_refl _) _).alloc (by simp) _⟩
          rw [HG.out true HF.out]; rfl
      · have HF : Hid (fitsB V 2 = false) := by show _ = _; simp [fitsB]; omega
        skip
        all_goals
          go_wp2
          all_goals
            refine bodyPost_ret (v := rowV i (65533, 1, false)) (by simp [results, Tryd.results20, go_sem, rowV]) rfl ⟨?_, ((Below.refl _ _).alloc (Nat.le_refl _) _).alloc (by simp) _⟩
            rw [HG.out false HF.out]; rfl

def RefInv3 (w : World) (bs : List UInt8) (i v0 : Nat) (R : Option Nat) (v j : Value) (wr : World) : Prop :=
  ∃ V J : Nat, v = .int .i64 V ∧ j = .int .i64 J ∧ 1 ≤ J ∧ J ≤ 3 ∧ V < (v0 + 1) * 64 ^ (J - 1) ∧ R = contsN V (3 - J) (bs.drop (i + J)) ∧ wr = (w.alloc (.cells #[.int .i64 0, .int .i32 0, .int .i64 0, .bool false] 26)).alloc (.cells #[.int .i64 i, .int .i32 65533, .int .i64 1, .bool false] 26)
set_option maxRecDepth 100000 in
set_option maxHeartbeats 1000000 in
theorem refdec_3 (A : Option Addr) (c : Nat) (bs : List UInt8) (i : Nat) (w : World) (hl : bs.length ≤ 9223372036854775000) (hcap : bs.length ≤ c) (h : i < bs.length) (hc : Cells w A (bcells bs)) (h1 : 224 ≤ gb bs i) (h2 : gb bs i < 240) :
    Calls Tryd.prog 20 #[.slice A bs.length c, .int .i64 (i : Int)] w fun e w' => e = .returned (rowV i (resOf (contsN (gb bs i - 224) 2 (bs.drop (i + 1))) 3)) ∧ Below w.heap.size w w' := by
  have hca := hc
  obtain ⟨a, rfl, hcell⟩ := bytes_at hc i h
  obtain ⟨v0, hv0⟩ : ∃ v0, v0 = gb bs i - 224 := ⟨_, rfl⟩
  obtain ⟨R, hR⟩ : ∃ R, R = contsN v0 2 (bs.drop (i + 1)) := ⟨_, rfl⟩
  rw [← hv0, ← hR]
  obtain ⟨X, hX⟩ : ∃ X, X = resOf R 3 := ⟨_, rfl⟩
  rw [← hX]
  have HX := Lib.hid hX
  clear hX
  have HR := Lib.hid hR
  have HV := Lib.hid hv0
  have hv1 : v0 < 240 - 224 := by omega
  clear hR hv0
  have hv2 : (gb bs i : Int) - 224 = (v0 : Int) := by have := HV.out; omega
  have HV2 := Lib.hid hv2
  clear hv2
  have hcal := cell_alloc_keep hcell
  have hq0 : decide ((192 : Int) ≤ (gb bs i : Int)) = true := by simp; omega
  have hq1 : decide ((gb bs i : Int) ≤ 223) = false := by simp; omega
  have hq2 : decide ((224 : Int) ≤ (gb bs i : Int)) = true := by simp; omega
  have hq3 : decide ((gb bs i : Int) ≤ 239) = true := by simp; omega
  have hq4 : decide ((240 : Int) ≤ (gb bs i : Int)) = false := by simp; omega
  have hq5 : decide ((gb bs i : Int) ≤ 247) = true := by simp; omega
  have hdl : decide (bs.length ≤ i) = false := by simp; omega
  go_enter Tryd.func20, Tryd.ntmps20
  go_wp2
  rw [HV2.out]
  go_loopw [8, 10] (fun v j wr => RefInv3 w bs i v0 R v j wr) (fun _ j _ => 3 - (intOf j).toNat)
  case atStart => exact ⟨v0, 1, rfl, rfl, by omega, by omega, by simp, HR.out, rfl⟩
  case round =>
    obtain ⟨V, J, rfl, rfl, hJ1, hJn, hVJ, hC, rfl⟩ := hrel
    have HC := Lib.hid hC
    clear hC
    have hVb : V < 65536 := by
      have : J = 1 ∨ J = 2 ∨ J = 3 ∨ J = 4 := by omega
      rcases this with rfl | rfl | rfl | rfl <;> simp at hVJ <;> omega
    have hbel : Below w.heap.size w ((w.alloc (.cells #[.int .i64 0, .int .i32 0, .int .i64 0, .bool false] 26)).alloc (.cells #[.int .i64 i, .int .i32 65533, .int .i64 1, .bool false] 26)) :=
      ((Below.refl _ _).alloc (Nat.le_refl _) _).alloc (by simp) _
    have hc2 : Cells ((w.alloc (.cells #[.int .i64 0, .int .i32 0, .int .i64 0, .bool false] 26)).alloc (.cells #[.int .i64 i, .int .i32 65533, .int .i64 1, .bool false] 26)) (some a) (bcells bs) := hca.below hbel
    by_cases hlt : J < 3
    · have hst : R = if i + J < bs.length ∧ gb bs (i + J) / 64 = 2 then contsN (V * 64 + gb bs (i + J) % 64) (3 - (J + 1)) (bs.drop (i + (J + 1))) else none := by
        rw [HC.out]
        by_cases hin : i + J < bs.length
        · rw [List.drop_eq_getElem_cons hin, show 3 - J = (3 - (J + 1)) + 1 by omega, contsN]
          have hgb : gb bs (i + J) = bs[i + J].toNat := by simp [gb, List.getD, hin]
          rw [← hgb]
          by_cases hq : gb bs (i + J) / 64 = 2
          · rw [if_pos hq, if_pos ⟨hin, hq⟩]; rfl
          · rw [if_neg hq, if_neg (fun h => hq h.2)]
        · rw [if_neg (fun h => hin h.1), List.drop_of_length_le (by omega), show 3 - J = (3 - (J + 1)) + 1 by omega, contsN]
      have HS := Lib.hid hst
      have hcont := cont_calls (some a) c bs (i + J) _ (by omega) hc2
      have hcont' : Calls Tryd.prog 66 #[.slice (some a) bs.length c, .int .i64 ((i : Int) + (J : Int))] _ _ := hcont
      have HCC := Lib.hid hcont'
      clear hcont hcont' hst HC
      by_cases hgo : i + J < bs.length ∧ gb bs (i + J) / 64 = 2
      · obtain ⟨a', ha', hcell'⟩ := bytes_at hc2 (i + J) hgo.1
        cases ha'
        have HGO := Lib.hid hgo
        have hg1 : gb bs (i + J) < 192 := by omega
        have hg0 : 128 ≤ gb bs (i + J) := by omega
        have hin : i + J < bs.length := hgo.1
        clear hgo hc2
        go_wp2_with (first | (go_at_call 66; refine HCC.out.mono ?_; rintro e w' ⟨rfl, rfl⟩; rw [decide_eq_true HGO.out]))
        refine ⟨⟨V * 64 + gb bs (i + J) % 64, J + 1, int_eq (by omega), int_eq (by omega), by omega, by omega, ?_, ?_, rfl⟩, by simp [intOf]; omega⟩
        · have h64 : 64 ^ (J + 1 - 1) = 64 ^ (J - 1) * 64 := by rw [← Nat.pow_succ]; congr 1; omega
          rw [h64, ← Nat.mul_assoc]; omega
        · rw [HS.out, if_pos HGO.out]
      · have hR : R = none := by rw [HS.out, if_neg hgo]
        have HRN := Lib.hid hR
        have HGO := Lib.hid hgo
        clear hR hgo hc2
        go_wp2_with (first | (go_at_call 66; refine HCC.out.mono ?_; rintro e w' ⟨rfl, rfl⟩; rw [decide_eq_false HGO.out]))
        refine bodyPost_ret (v := rowV i (65533, 1, false)) (by simp [results, Tryd.results20, go_sem, rowV]) rfl ⟨?_, ((Below.refl _ _).alloc (Nat.le_refl _) _).alloc (by simp) _⟩
        rw [HX.out, HRN.out]; rfl
    · obtain rfl : J = 3 := by omega
      have hR : R = some V := by rw [HC.out]; simp [contsN]
      have hVb2 : V < (v0 + 1) * 64 ^ (3 - 1) := hVJ
      simp at hVb2
      have hgoal : ∀ b : Bool, fitsB V 3 = b → X = if b then (V, 3, true) else (65533, 1, false) := by
        intro b hb; rw [HX.out, hR]; simp only [resOf, hb]
      have HG := Lib.hid hgoal
      clear hgoal hR HC hc2
      by_cases hf : 2048 ≤ V ∧ (V < 55296 ∨ 57343 < V)
      · have HF : Hid (fitsB V 3 = true) := by show _ = _; simp [fitsB]; omega
        obtain ⟨hf1, hf2⟩ := hf
        rcases hf2 with hf2 | hf2
        all_goals
          go_wp2
          refine bodyPost_ret (v := rowV i (V, 3, true)) (by simp [results, Tryd.results20, go_sem, rowV]) rfl ⟨?_, ((Below.refl _ _).alloc (Nat.le_refl _) _).alloc (by simp) _⟩
          rw [HG.out true HF.out]; rfl
      · have HF : Hid (fitsB V 3 = false) := by show _ = _; simp [fitsB]; omega
        rcases (show V < 2048 ∨ (2048 ≤ V ∧ 55296 ≤ V ∧ V ≤ 57343) by omega) with hf1 | ⟨hf1, hf2, hf3⟩
        all_goals
          go_wp2
          all_goals
            refine bodyPost_ret (v := rowV i (65533, 1, false)) (by simp [results, Tryd.results20, go_sem, rowV]) rfl ⟨?_, ((Below.refl _ _).alloc (Nat.le_refl _) _).alloc (by simp) _⟩
            rw [HG.out false HF.out]; rfl

def RefInv4 (w : World) (bs : List UInt8) (i v0 : Nat) (R : Option Nat) (v j : Value) (wr : World) : Prop :=
  ∃ V J : Nat, v = .int .i64 V ∧ j = .int .i64 J ∧ 1 ≤ J ∧ J ≤ 4 ∧ V < (v0 + 1) * 64 ^ (J - 1) ∧ R = contsN V (4 - J) (bs.drop (i + J)) ∧ wr = (w.alloc (.cells #[.int .i64 0, .int .i32 0, .int .i64 0, .bool false] 26)).alloc (.cells #[.int .i64 i, .int .i32 65533, .int .i64 1, .bool false] 26)
set_option maxRecDepth 100000 in
set_option maxHeartbeats 1000000 in
theorem refdec_4 (A : Option Addr) (c : Nat) (bs : List UInt8) (i : Nat) (w : World) (hl : bs.length ≤ 9223372036854775000) (hcap : bs.length ≤ c) (h : i < bs.length) (hc : Cells w A (bcells bs)) (h1 : 240 ≤ gb bs i) (h2 : gb bs i < 248) :
    Calls Tryd.prog 20 #[.slice A bs.length c, .int .i64 (i : Int)] w fun e w' => e = .returned (rowV i (resOf (contsN (gb bs i - 240) 3 (bs.drop (i + 1))) 4)) ∧ Below w.heap.size w w' := by
  have hca := hc
  obtain ⟨a, rfl, hcell⟩ := bytes_at hc i h
  obtain ⟨v0, hv0⟩ : ∃ v0, v0 = gb bs i - 240 := ⟨_, rfl⟩
  obtain ⟨R, hR⟩ : ∃ R, R = contsN v0 3 (bs.drop (i + 1)) := ⟨_, rfl⟩
  rw [← hv0, ← hR]
  obtain ⟨X, hX⟩ : ∃ X, X = resOf R 4 := ⟨_, rfl⟩
  rw [← hX]
  have HX := Lib.hid hX
  clear hX
  have HR := Lib.hid hR
  have HV := Lib.hid hv0
  have hv1 : v0 < 248 - 240 := by omega
  clear hR hv0
  have hv2 : (gb bs i : Int) - 240 = (v0 : Int) := by have := HV.out; omega
  have HV2 := Lib.hid hv2
  clear hv2
  have hcal := cell_alloc_keep hcell
  have hq0 : decide ((192 : Int) ≤ (gb bs i : Int)) = true := by simp; omega
  have hq1 : decide ((gb bs i : Int) ≤ 223) = false := by simp; omega
  have hq2 : decide ((224 : Int) ≤ (gb bs i : Int)) = true := by simp; omega
  have hq3 : decide ((gb bs i : Int) ≤ 239) = false := by simp; omega
  have hq4 : decide ((240 : Int) ≤ (gb bs i : Int)) = true := by simp; omega
  have hq5 : decide ((gb bs i : Int) ≤ 247) = true := by simp; omega
  have hdl : decide (bs.length ≤ i) = false := by simp; omega
  go_enter Tryd.func20, Tryd.ntmps20
  go_wp2
  rw [HV2.out]
  go_loopw [8, 10] (fun v j wr => RefInv4 w bs i v0 R v j wr) (fun _ j _ => 4 - (intOf j).toNat)
  case atStart => exact ⟨v0, 1, rfl, rfl, by omega, by omega, by simp, HR.out, rfl⟩
  case round =>
    obtain ⟨V, J, rfl, rfl, hJ1, hJn, hVJ, hC, rfl⟩ := hrel
    have HC := Lib.hid hC
    clear hC
    have hVb : V < 2097152 := by
      have : J = 1 ∨ J = 2 ∨ J = 3 ∨ J = 4 := by omega
      rcases this with rfl | rfl | rfl | rfl <;> simp at hVJ <;> omega
    have hbel : Below w.heap.size w ((w.alloc (.cells #[.int .i64 0, .int .i32 0, .int .i64 0, .bool false] 26)).alloc (.cells #[.int .i64 i, .int .i32 65533, .int .i64 1, .bool false] 26)) :=
      ((Below.refl _ _).alloc (Nat.le_refl _) _).alloc (by simp) _
    have hc2 : Cells ((w.alloc (.cells #[.int .i64 0, .int .i32 0, .int .i64 0, .bool false] 26)).alloc (.cells #[.int .i64 i, .int .i32 65533, .int .i64 1, .bool false] 26)) (some a) (bcells bs) := hca.below hbel
    by_cases hlt : J < 4
    · have hst : R = if i + J < bs.length ∧ gb bs (i + J) / 64 = 2 then contsN (V * 64 + gb bs (i + J) % 64) (4 - (J + 1)) (bs.drop (i + (J + 1))) else none := by
        rw [HC.out]
        by_cases hin : i + J < bs.length
        · rw [List.drop_eq_getElem_cons hin, show 4 - J = (4 - (J + 1)) + 1 by omega, contsN]
          have hgb : gb bs (i + J) = bs[i + J].toNat := by simp [gb, List.getD, hin]
          rw [← hgb]
          by_cases hq : gb bs (i + J) / 64 = 2
          · rw [if_pos hq, if_pos ⟨hin, hq⟩]; rfl
          · rw [if_neg hq, if_neg (fun h => hq h.2)]
        · rw [if_neg (fun h => hin h.1), List.drop_of_length_le (by omega), show 4 - J = (4 - (J + 1)) + 1 by omega, contsN]
      have HS := Lib.hid hst
      have hcont := cont_calls (some a) c bs (i + J) _ (by omega) hc2
      have hcont' : Calls Tryd.prog 66 #[.slice (some a) bs.length c, .int .i64 ((i : Int) + (J : Int))] _ _ := hcont
      have HCC := Lib.hid hcont'
      clear hcont hcont' hst HC
      by_cases hgo : i + J < bs.length ∧ gb bs (i + J) / 64 = 2
      · obtain ⟨a', ha', hcell'⟩ := bytes_at hc2 (i + J) hgo.1
        cases ha'
        have HGO := Lib.hid hgo
        have hg1 : gb bs (i + J) < 192 := by omega
        have hg0 : 128 ≤ gb bs (i + J) := by omega
        have hin : i + J < bs.length := hgo.1
        clear hgo hc2
        go_wp2_with (first | (go_at_call 66; refine HCC.out.mono ?_; rintro e w' ⟨rfl, rfl⟩; rw [decide_eq_true HGO.out]))
        refine ⟨⟨V * 64 + gb bs (i + J) % 64, J + 1, int_eq (by omega), int_eq (by omega), by omega, by omega, ?_, ?_, rfl⟩, by simp [intOf]; omega⟩
        · have h64 : 64 ^ (J + 1 - 1) = 64 ^ (J - 1) * 64 := by rw [← Nat.pow_succ]; congr 1; omega
          rw [h64, ← Nat.mul_assoc]; omega
        · rw [HS.out, if_pos HGO.out]
      · have hR : R = none := by rw [HS.out, if_neg hgo]
        have HRN := Lib.hid hR
        have HGO := Lib.hid hgo
        clear hR hgo hc2
        go_wp2_with (first | (go_at_call 66; refine HCC.out.mono ?_; rintro e w' ⟨rfl, rfl⟩; rw [decide_eq_false HGO.out]))
        refine bodyPost_ret (v := rowV i (65533, 1, false)) (by simp [results, Tryd.results20, go_sem, rowV]) rfl ⟨?_, ((Below.refl _ _).alloc (Nat.le_refl _) _).alloc (by simp) _⟩
        rw [HX.out, HRN.out]; rfl
    · obtain rfl : J = 4 := by omega
      have hR : R = some V := by rw [HC.out]; simp [contsN]
      have hVb2 : V < (v0 + 1) * 64 ^ (4 - 1) := hVJ
      simp at hVb2
      have hgoal : ∀ b : Bool, fitsB V 4 = b → X = if b then (V, 4, true) else (65533, 1, false) := by
        intro b hb; rw [HX.out, hR]; simp only [resOf, hb]
      have HG := Lib.hid hgoal
      clear hgoal hR HC hc2
      by_cases hf : 65536 ≤ V ∧ V ≤ 1114111
      · have HF : Hid (fitsB V 4 = true) := by show _ = _; simp [fitsB]; omega
        obtain ⟨hf1, hf2⟩ := hf
        all_goals
          go_wp2
          refine bodyPost_ret (v := rowV i (V, 4, true)) (by simp [results, Tryd.results20, go_sem, rowV]) rfl ⟨?_, ((Below.refl _ _).alloc (Nat.le_refl _) _).alloc (by simp) _⟩
          rw [HG.out true HF.out]; rfl
      · have HF : Hid (fitsB V 4 = false) := by show _ = _; simp [fitsB]; omega
        rcases (show V < 65536 ∨ 1114111 < V by omega) with hf1 | hf1
        all_goals
          go_wp2
          all_goals
            refine bodyPost_ret (v := rowV i (65533, 1, false)) (by simp [results, Tryd.results20, go_sem, rowV]) rfl ⟨?_, ((Below.refl _ _).alloc (Nat.le_refl _) _).alloc (by simp) _⟩
            rw [HG.out false HF.out]; rfl

/-- shuckref1.Decode, at every place. -/
theorem refdec_calls (A : Option Addr) (c : Nat) (bs : List UInt8) (i : Int) (w : World) (hl : bs.length ≤ 9223372036854775000) (hcap : bs.length ≤ c) (hc : Cells w A (bcells bs)) :
    Calls Tryd.prog 20 #[.slice A bs.length c, .int .i64 i] w fun e w' => e = .returned (rowV i (decAt bs i)) ∧ Below w.heap.size w w' := by
  by_cases h : i < 0 ∨ bs.length ≤ i
  · have : decAt bs i = (0, 0, false) := by
      unfold decAt
      split
      · rfl
      · rw [List.drop_of_length_le (by omega)]; rfl
    rw [this]
    exact refdec_out A c bs i w (by omega) h
  · obtain ⟨n, rfl⟩ := Int.eq_ofNat_of_zero_le (show 0 ≤ i by omega)
    have hn : n < bs.length := by omega
    have hgb : gb bs n = bs[n].toNat := by simp [gb, List.getD, hn]
    have hg := gb_lt bs n
    have : decAt bs n = dec (bs[n] :: bs.drop (n + 1)) := by unfold decAt; rw [if_neg (by omega), ← List.drop_eq_getElem_cons hn]; rfl
    rw [this, dec_cons, ← hgb]
    by_cases h1 : gb bs n < 128
    · rw [show wideN (gb bs n) = 1 by unfold wideN; rw [if_pos h1], show wideR (gb bs n) = gb bs n by unfold wideR; rw [if_pos h1]]
      rw [show resOf (contsN (gb bs n) (1 - 1) (bs.drop (n + 1))) 1 = (gb bs n, 1, true) from rfl, if_neg (by decide)]
      exact refdec_one A c bs n w (by omega) hn hc h1
    · by_cases h2 : 128 ≤ gb bs n ∧ gb bs n < 192 ∨ 248 ≤ gb bs n
      · rw [if_pos (show wideN (gb bs n) = 0 by unfold wideN; rw [if_neg h1, if_neg (by omega), if_neg (by omega), if_neg (by omega)])]
        exact refdec_bad A c bs n w (by omega) hn hc h2
      · by_cases h3 : gb bs n < 224
        · rw [show wideN (gb bs n) = 2 by unfold wideN; rw [if_neg h1, if_pos (by omega)], show wideR (gb bs n) = gb bs n - 192 by unfold wideR; rw [if_neg h1, if_pos (by omega)]; omega]
          rw [if_neg (by decide)]; exact refdec_2 A c bs n w hl hcap hn hc (by omega) h3
        · by_cases h4 : gb bs n < 240
          · rw [show wideN (gb bs n) = 3 by unfold wideN; rw [if_neg h1, if_neg (by omega), if_pos (by omega)], show wideR (gb bs n) = gb bs n - 224 by unfold wideR; rw [if_neg h1, if_neg (by omega), if_pos (by omega)]; omega]
            rw [if_neg (by decide)]; exact refdec_3 A c bs n w hl hcap hn hc (by omega) h4
          · rw [show wideN (gb bs n) = 4 by unfold wideN; rw [if_neg h1, if_neg (by omega), if_neg (by omega), if_pos (by omega)], show wideR (gb bs n) = gb bs n - 240 by unfold wideR; rw [if_neg h1, if_neg (by omega), if_neg (by omega), if_pos (by omega)]; omega]
            rw [if_neg (by decide)]; exact refdec_4 A c bs n w hl hcap hn hc (by omega) (by omega)
end Go.Proofs.YtnepdjgbfhakmaaDoor
