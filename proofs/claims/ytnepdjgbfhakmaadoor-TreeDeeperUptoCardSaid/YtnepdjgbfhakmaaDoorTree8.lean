/- Trees: isSpot, isExported, isMembers, isPath as places. -/
import Derived.Test.YtnepdjgbfhakmaaDoorTree7
import Derived.Deep.RegionHeld3
namespace Go.Proofs.YtnepdjgbfhakmaaDoor
set_option linter.unusedVariables false
set_option linter.unusedSimpArgs false
open Go.RowKit Go.Shelf
attribute [local go_sem] Oper.semAt_some

theorem Ints.new (w : World) (ks : List Int) : Ints (w.alloc (.cells (icells ks).toArray 3)) (some ⟨w.heap.size, 0, none⟩) ks.length ks := by
  refine ⟨?_, Nat.le_refl _, fun h => by cases h⟩
  have := cells_fresh w (icells ks).toArray 3 (0, 0)
  simpa using this

def isSpotB (T : List Nd) (i : Nat) : Bool := [17, 29, 30].contains (ndK T i)

set_option maxRecDepth 100000 in
set_option maxHeartbeats 2000000 in
theorem isSpot_calls (A : Option Addr) (c : Nat) (T : List Nd) (i : Nat) (w : World) (hT : TreeOk T) (hA : TreeAt w A T) (hi : i < T.length) :
    Calls Tryd.prog 147 #[treeV A T.length c, .int .i64 i] w fun e w' => e = .returned (.bool (isSpotB T i)) ∧ Below w.heap.size w w' := by
  have b1 : Below w.heap.size w (w.alloc (.cells #[.slice A T.length c] 59)) := (Below.refl _ _).alloc (Nat.le_refl _) _
  have t1 : (w.alloc (.cells #[.slice A T.length c] 59)).cell? ⟨w.heap.size, 0, none⟩ = some (.slice A T.length c) := by simp [World.cell?_alloc_new]
  obtain ⟨w1, hw1⟩ : ∃ w1, w.alloc (.cells #[.slice A T.length c] 59) = w1 := ⟨_, rfl⟩
  rw [hw1] at b1 t1
  have b2 : Below w1.heap.size w1 (w1.alloc (.cells #[.int .i64 17, .int .i64 29, .int .i64 30] 3)).drew := ((Below.refl _ _).alloc (Nat.le_refl _) _).drew
  have hin : Ints (w1.alloc (.cells #[.int .i64 17, .int .i64 29, .int .i64 30] 3)).drew (some ⟨w1.heap.size, 0, none⟩) 3 [17, 29, 30] := (Ints.new w1 [17, 29, 30]).below ((Below.refl _ _).drew)
  have HO := Lib.hid (of_calls _ 3 [17, 29, 30] _ (by decide) hin)
  have HA := Lib.hid hA
  have HT := Lib.hid hT
  have HB := Lib.hid (b1.trans (b2.mono b1.size))
  have HB2 := Lib.hid b2
  have HW := Lib.hid hw1
  clear hT hA b1 b2 hin hw1
  go_enter Tryd.func147, Tryd.ntmps147
  go_upto_region 1 with (fail)
  rw [HW.out]
  go_region_held3 (fun V => V.cell? ⟨w.heap.size, 0, none⟩ = some (.slice A T.length c))
    (first | exact HB2.out.cell_keep t1 | exact q5 | exact q3 | (simp; exact t1))
    (first
      | (go_at_call 139; refine HO.out.mono ?_; rintro e V ⟨v, rfl, b3, hp⟩; have q3 := b3.cell_keep (HB2.out.cell_keep t1); have B3 := Lib.hid (HB.out.trans (b3.mono HB.out.size)); obtain ⟨g, cap, rfl, eg, hg⟩ := hp; have HG := Lib.hid (hg V A c T i (Below.refl _ _) HT.out (HA.out.below B3.out) hi); clear hg b3)
      | (go_at_fn g; refine HG.out.mono ?_; rintro e V2 ⟨rfl, b4⟩; have q5 := b4.cell_keep q3; have B4 := Lib.hid (B3.out.trans (b4.mono B3.out.size)); clear b4))
  all_goals (go_wp2_with (fail); go_ret; exact ⟨ret_val (congrArg Value.bool (by simp [isSpotB])), B4.out⟩)

def isExportedB (T : List Nd) (i : Nat) : Bool := if ndK T i = 40 then (T.getD i default).num == 1 else if ndK T i = 47 then (T.getD i default).num != 1 else [41, 42, 49, 51, 52].contains (ndK T i)

set_option maxRecDepth 100000 in
set_option maxHeartbeats 2000000 in
theorem isExported_calls (A : Option Addr) (c : Nat) (T : List Nd) (i : Nat) (w : World) (hT : TreeOk T) (hA : TreeAt w A T) (hi : i < T.length) :
    Calls Tryd.prog 175 #[treeV A T.length c, .int .i64 i] w fun e w' => e = .returned (.bool (isExportedB T i)) ∧ Below w.heap.size w w' := by
  obtain ⟨x, hx, hxe⟩ := nd_at hi
  have hl := hT.1
  have b0 : Below w.heap.size w (w.alloc (.cells #[.slice A T.length c] 59)) := (Below.refl _ _).alloc (Nat.le_refl _) _
  have t0 : (w.alloc (.cells #[.slice A T.length c] 59)).cell? ⟨w.heap.size, 0, none⟩ = some (.slice A T.length c) := by simp [World.cell?_alloc_new]
  obtain ⟨K, kc, ⟨a, rfl, c0, c1, c2, c3, c4⟩, _⟩ := (hA.below b0) i x hx
  have hp : isExportedB T i = if x.kind = 40 then x.num == 1 else if x.kind = 47 then x.num != 1 else [41, 42, 49, 51, 52].contains x.kind := by unfold isExportedB ndK; rw [← hxe]
  obtain ⟨w0, hw0⟩ : ∃ w0, w.alloc (.cells #[.slice (some a) T.length c] 59) = w0 := ⟨_, rfl⟩
  rw [hw0] at b0 t0 c0 c1 c2 c3 c4
  obtain ⟨k, hk⟩ : ∃ k, x.kind = k := ⟨_, rfl⟩
  obtain ⟨nm, hnm⟩ : ∃ nm, x.num = nm := ⟨_, rfl⟩
  rw [hk] at c0 hp
  rw [hnm] at c2 hp
  have hxk : ndK T i = k := by unfold ndK; rw [← hxe, hk]
  have b1 : Below w0.heap.size w0 (w0.alloc (.cells #[.int .i64 k, .string x.text, .int .i64 nm, .slice K x.kids.length kc, .int .i64 x.pos] 54)) := (Below.refl _ _).alloc (Nat.le_refl _) _
  have t1 := b1.cell_keep t0
  have HE := Lib.hid hp
  have HW := Lib.hid hw0
  have HA := Lib.hid hA
  have HT := Lib.hid hT
  have HB0 := Lib.hid b0
  have HB1 := Lib.hid (b0.trans (b1.mono b0.size))
  have HXK := Lib.hid hxk
  have HTT := Lib.hid t1
  clear hx hxe hA hp hw0 hk hnm hT b0 b1 hxk t1
  by_cases h40 : k = 40
  · subst h40
    go_enter Tryd.func175, Tryd.ntmps175
    go_upto_region 1 with (fail)
    rw [HW.out]
    go_wp2_with (fail)
    go_ret
    exact ⟨ret_val (by rw [HE.out]; rfl), HB1.out⟩
  · by_cases h47 : k = 47
    · subst h47
      go_enter Tryd.func175, Tryd.ntmps175
      go_upto_region 1 with (fail)
      rw [HW.out]
      go_wp2_with (fail)
      go_ret
      exact ⟨ret_val (by rw [HE.out]; rfl), HB1.out⟩
    · have e1 : (k == 40) = false := by simpa using h40
      have e2 : (k == 47) = false := by simpa using h47
      have hp := HE.out
      rw [if_neg h40, if_neg h47] at hp
      have HP := Lib.hid hp
      clear h40 h47 hp HE
      obtain ⟨w1, hw1⟩ : ∃ w1, w0.alloc (.cells #[.int .i64 k, .string x.text, .int .i64 nm, .slice K x.kids.length kc, .int .i64 x.pos] 54) = w1 := ⟨_, rfl⟩
      rw [hw1] at HB1 HTT
      have b2 : Below w1.heap.size w1 (w1.alloc (.cells #[.int .i64 41, .int .i64 42, .int .i64 49, .int .i64 51, .int .i64 52] 3)).drew := ((Below.refl _ _).alloc (Nat.le_refl _) _).drew
      have hin : Ints (w1.alloc (.cells #[.int .i64 41, .int .i64 42, .int .i64 49, .int .i64 51, .int .i64 52] 3)).drew (some ⟨w1.heap.size, 0, none⟩) 5 [41, 42, 49, 51, 52] := (Ints.new w1 [41, 42, 49, 51, 52]).below ((Below.refl _ _).drew)
      have HO := Lib.hid (of_calls _ 5 [41, 42, 49, 51, 52] _ (by decide) hin)
      have t1 := HTT.out
      have HB2 := Lib.hid b2
      have HB := Lib.hid (HB1.out.trans (b2.mono HB1.out.size))
      have HW1 := Lib.hid hw1
      clear hw1 b2 hin HTT
      go_enter Tryd.func175, Tryd.ntmps175
      go_upto_region 1 with (fail)
      rw [HW.out]
      go_upto_region 2 with (fail)
      rw [HW1.out]
      have d0 : w1.cell? ⟨w0.heap.size, 0, none⟩ = some (.int .i64 k) := by rw [← HW1.out]; simp [World.cell?_alloc_new]
      go_wp2_with (fail)
      go_region_held3 (fun V => V.cell? ⟨w.heap.size, 0, none⟩ = some (.slice (some a) T.length c))
        (first | exact HB2.out.cell_keep t1 | exact q5 | exact q3 | (simp; exact t1))
        (first
          | (go_at_call 139; refine HO.out.mono ?_; rintro e V ⟨v, rfl, b3, hp⟩; have q3 := b3.cell_keep (HB2.out.cell_keep t1); have B3 := Lib.hid (HB.out.trans (b3.mono HB.out.size)); obtain ⟨g, cap, rfl, eg, hg⟩ := hp; have HG := Lib.hid (hg V (some a) c T i (Below.refl _ _) HT.out (HA.out.below B3.out) hi); clear hg b3)
          | (go_at_fn g; refine HG.out.mono ?_; rintro e V2 ⟨rfl, b4⟩; have q5 := b4.cell_keep q3; have B4 := Lib.hid (B3.out.trans (b4.mono B3.out.size)); clear b4))
      all_goals (go_wp2_with (fail); go_ret; exact ⟨ret_val (congrArg Value.bool (by rw [HP.out, ← HXK.out]; simp)), B4.out⟩)

def partB (T : List Nd) (i : Nat) : Bool := [44, 45, 46].contains (ndK T i)
def ctorsN (T : List Nd) (l : List Int) : Nat := l.countP fun k => ndK T k.toNat == 46
def isMembersB (T : List Nd) (i : Nat) : Bool := rowsB partB T i && decide (ctorsN T (T.getD i default).kids < 2)
theorem ctorsN_le (T : List Nd) (l : List Int) : ctorsN T l ≤ l.length := List.countP_le_length

set_option maxRecDepth 100000 in
set_option maxHeartbeats 2000000 in
theorem isMembers_calls (A : Option Addr) (c : Nat) (T : List Nd) (i : Nat) (w : World) (hT : TreeOk T) (hA : TreeAt w A T) (hi : i < T.length) :
    Calls Tryd.prog 149 #[treeV A T.length c, .int .i64 i] w fun e w' => e = .returned (.bool (isMembersB T i)) ∧ Below w.heap.size w w' := by
  obtain ⟨x, hx, hxe⟩ := nd_at hi
  have hl := hT.1
  have hkl : x.kids.length ≤ 2000000 := (hT.2 x (List.mem_of_getElem? hx)).2.2
  have b1 : Below w.heap.size w (w.alloc (.cells #[.slice A T.length c] 59)) := (Below.refl _ _).alloc (Nat.le_refl _) _
  have t1 : (w.alloc (.cells #[.slice A T.length c] 59)).cell? ⟨w.heap.size, 0, none⟩ = some (.slice A T.length c) := by simp [World.cell?_alloc_new]
  obtain ⟨w1, hw1⟩ : ∃ w1, w.alloc (.cells #[.slice A T.length c] 59) = w1 := ⟨_, rfl⟩
  rw [hw1] at b1 t1
  have b2 : Below w1.heap.size w1 (w1.alloc (.cells #[.int .i64 44, .int .i64 45, .int .i64 46] 3)).drew := ((Below.refl _ _).alloc (Nat.le_refl _) _).drew
  have hin : Ints (w1.alloc (.cells #[.int .i64 44, .int .i64 45, .int .i64 46] 3)).drew (some ⟨w1.heap.size, 0, none⟩) 3 [44, 45, 46] := (Ints.new w1 [44, 45, 46]).below ((Below.refl _ _).drew)
  have HO := Lib.hid (of_calls _ 3 [44, 45, 46] _ (by decide) hin)
  have hp : isMembersB T i = (rowsB partB T i && decide (ctorsN T x.kids < 2)) := by unfold isMembersB; rw [← hxe]
  obtain ⟨r, hr⟩ : ∃ r, rowsB partB T i = r := ⟨_, rfl⟩
  rw [hr] at hp
  have hall : r = true → ∀ k ∈ x.kids, withinB T.length k = true := fun h => by
    rw [← hr] at h
    unfold rowsB at h
    rw [← hxe, Bool.and_eq_true, List.all_eq_true] at h
    exact fun k hk => (Bool.and_eq_true _ _ ▸ h.2 k hk).1
  have HE := Lib.hid hp
  have HR := Lib.hid hr
  have HAL := Lib.hid hall
  have HA := Lib.hid hA
  have HT := Lib.hid hT
  have HX := Lib.hid hx
  have HB := Lib.hid (b1.trans (b2.mono b1.size))
  have HB2 := Lib.hid b2
  have HW := Lib.hid hw1
  clear hT hA b1 b2 hin hw1 hp hr hall hx hxe
  go_enter Tryd.func149, Tryd.ntmps149
  go_upto_region 1 with (fail)
  rw [HW.out]
  go_region_held3 (fun V => V.cell? ⟨w.heap.size, 0, none⟩ = some (.slice A T.length c))
    (first | exact HB2.out.cell_keep t1 | exact q5 | exact q4 | exact q3 | (simp; exact t1))
    (first
      | (go_at_call 139; refine HO.out.mono ?_; rintro e V ⟨v, rfl, b3, hp⟩; have q3 := b3.cell_keep (HB2.out.cell_keep t1); have B3 := Lib.hid (HB.out.trans (b3.mono HB.out.size)); have HPL := Lib.hid (rows_place v partB V hp); obtain ⟨g0, cap0, rfl, eg0, hg0⟩ := hp; clear hg0 b3 eg0)
      | (go_at_call 140; refine HPL.out.mono ?_; rintro e V4 ⟨v4, rfl, b4, hp4⟩; have q4 := b4.cell_keep q3; have B4 := Lib.hid (B3.out.trans (b4.mono B3.out.size)); obtain ⟨g, cap, rfl, eg, hg⟩ := hp4; have hg2 := hg V4 A c T i (Below.refl _ _) HT.out (HA.out.below B4.out) hi; rw [HR.out] at hg2; have HG := Lib.hid hg2; clear hg b4 hg2)
      | (go_at_fn g; refine HG.out.mono ?_; rintro e V5 ⟨rfl, b5⟩; have q5 := b5.cell_keep q4; have B5 := Lib.hid (B4.out.trans (b5.mono B4.out.size)); clear b5))
  cases r with
  | false =>
    go_wp2_with (fail)
    go_ret
    exact ⟨ret_val (by rw [HE.out]; rfl), B5.out⟩
  | true =>
    obtain ⟨K, kc, ⟨a, rfl, c0, c1, c2, c3, c4⟩, hK⟩ := (HA.out.below B5.out) i x HX.out
    have HK := Lib.hid hK
    have HA5 := Lib.hid (HA.out.below B5.out)
    clear c0 c1 c2 c4 hK HG HPL HO q3 q4 t1
    go_wp2_with (fail)
    go_loopw [5, 22] (fun u v wr => ∃ (n k : Nat), u = .int .i64 n ∧ v = .int .i64 k ∧ k ≤ x.kids.length ∧ n ≤ k ∧ Hid (n = ctorsN T (x.kids.take k)) ∧ V5 = wr) (fun _ v _ => x.kids.length - (intOf v).toNat)
    case atStart => exact ⟨0, 0, rfl, rfl, by omega, by omega, Lib.hid (by simp [ctorsN]), rfl⟩
    case round =>
      obtain ⟨n, k, rfl, rfl, hk, hnk, hn, rfl⟩ := hrel
      by_cases hlt2 : k < x.kids.length
      · obtain ⟨a2, rfl, hcell⟩ := ints_at HK.out k hlt2
        have hg : x.kids.getD k 0 = x.kids[k] := by simp [List.getD, hlt2]
        have hw := HAL.out (by simp) (x.kids.getD k 0) (by rw [hg]; exact List.getElem_mem hlt2)
        obtain ⟨m, hz, hm⟩ := within_nat hw
        have hts : ctorsN T (x.kids.take (k + 1)) = ctorsN T (x.kids.take k) + if ndK T m == 46 then 1 else 0 := by
          rw [List.take_succ_eq_append_getElem hlt2, ← hg, hz]
          simp only [ctorsN, List.countP_append, List.countP_singleton, Int.toNat_natCast]
        rw [hz] at hcell
        obtain ⟨y, hy, hye⟩ := nd_at hm
        have hyk : ndK T m = y.kind := by unfold ndK; rw [← hye]
        rw [hyk] at hts
        obtain ⟨_, _, ⟨_, ha, d0, _, _, _, _⟩, _⟩ := HA5.out m y hy
        cases ha
        have HTS := Lib.hid hts
        clear hts hg hw hz hy hye hyk
        by_cases h46 : y.kind = 46
        · have e1 : (y.kind == 46) = true := by simpa using h46
          clear h46
          go_wp2_with (fail)
          refine ⟨⟨n + 1, k + 1, by simp, by simp, by omega, by omega, Lib.hid ?_, trivial⟩, by simp [intOf]; omega⟩
          rw [HTS.out, e1, ← hn.out]; rfl
        · have e1 : (y.kind == 46) = false := by simpa using h46
          clear h46
          go_wp2_with (fail)
          refine ⟨⟨n, k + 1, by simp, by simp, by omega, by omega, Lib.hid ?_, trivial⟩, by simp [intOf]; omega⟩
          rw [HTS.out, e1, ← hn.out]; rfl
      · have hkl2 : k = x.kids.length := by omega
        have hall := hn.out
        rw [hkl2, List.take_length] at hall
        have HAL2 := Lib.hid hall
        clear hkl2 hall
        go_wp2_with (fail)
        go_ret
        refine ⟨ret_val (congrArg Value.bool ?_), B5.out⟩
        rw [HE.out, Bool.true_and, ← HAL2.out, Bool.eq_iff_iff]
        simp
        try omega

def isPathF : Nat → List Nd → Nat → Bool
  | 0, _, _ => false
  | n + 1, T, i =>
    if ndK T i = 29 then
      if (T.getD i default).kids.length = 1 ∧ withinB T.length ((T.getD i default).kids.getD 0 0) = true then isPathF n T ((T.getD i default).kids.getD 0 0).toNat else false
    else ndK T i == 17
def isPathB (T : List Nd) (i : Nat) : Bool := isPathF T.length T i

set_option maxRecDepth 100000 in
set_option maxHeartbeats 2000000 in
theorem isPath_calls (A : Option Addr) (c : Nat) (T : List Nd) (i : Nat) (w : World) (hT : TreeOk T) (hA : TreeAt w A T) (hi : i < T.length) :
    Calls Tryd.prog 148 #[treeV A T.length c, .int .i64 i] w fun e w' => e = .returned (.bool (isPathB T i)) ∧ Below w.heap.size w w' := by
  have hl := hT.1
  have b1 : Below w.heap.size w (w.alloc (.cells #[.slice A T.length c] 59)) := (Below.refl _ _).alloc (Nat.le_refl _) _
  have t1 : (w.alloc (.cells #[.slice A T.length c] 59)).cell? ⟨w.heap.size, 0, none⟩ = some (.slice A T.length c) := by simp [World.cell?_alloc_new]
  obtain ⟨w1, hw1⟩ : ∃ w1, w.alloc (.cells #[.slice A T.length c] 59) = w1 := ⟨_, rfl⟩
  rw [hw1] at b1 t1
  have HA := Lib.hid (hA.below b1)
  have HT := Lib.hid hT
  have HB := Lib.hid b1
  have HW := Lib.hid hw1
  have HT1 := Lib.hid t1
  clear hT hA b1 hw1
  go_enter Tryd.func148, Tryd.ntmps148
  go_upto_region 1 with (fail)
  rw [HW.out]
  go_wp2_with (fail)
  go_loopw [1, 9] (fun u v wr => ∃ (n k : Nat), u = .int .i64 n ∧ v = .int .i64 k ∧ k ≤ T.length ∧ n < T.length ∧ Hid (isPathB T i = isPathF (T.length - k) T n) ∧ Hid (Below w1.heap.size w1 wr)) (fun _ v _ => T.length - (intOf v).toNat)
  case atStart => exact ⟨i, 0, rfl, rfl, by omega, hi, Lib.hid rfl, Lib.hid (Below.refl _ _)⟩
  case round =>
    obtain ⟨n, k, rfl, rfl, hk, hn, hp, hb⟩ := hrel
    by_cases hlt : k < T.length
    · obtain ⟨x, hx, hxe⟩ := nd_at hn
      have hkl : x.kids.length ≤ 2000000 := (HT.out.2 x (List.mem_of_getElem? hx)).2.2
      obtain ⟨K, kc, ⟨a, rfl, c0, c1, c2, c3, c4⟩, hK⟩ := (HA.out.below hb.out) n x hx
      have q1 := hb.out.cell_keep HT1.out
      obtain ⟨kd, hkd⟩ : ∃ kd, x.kind = kd := ⟨_, rfl⟩
      rw [hkd] at c0
      have b2 : Below wr.heap.size wr (wr.alloc (.cells #[.int .i64 kd, .string x.text, .int .i64 x.num, .slice K x.kids.length kc, .int .i64 x.pos] 54)) := (Below.refl _ _).alloc (Nat.le_refl _) _
      have hp2 : isPathB T i = if kd = 29 then if x.kids.length = 1 ∧ withinB T.length (x.kids.getD 0 0) = true then isPathF (T.length - (k + 1)) T (x.kids.getD 0 0).toNat else false else kd == 17 := by
        rw [hp.out, show T.length - k = (T.length - (k + 1)) + 1 by omega, isPathF, ndK, ← hxe, hkd]
      have B2 := Lib.hid (hb.out.trans (b2.mono hb.out.size))
      have HK := Lib.hid (hK.below b2)
      have q2 := b2.cell_keep q1
      have d0 : (wr.alloc (.cells #[.int .i64 kd, .string x.text, .int .i64 x.num, .slice K x.kids.length kc, .int .i64 x.pos] 54)).cell? ⟨wr.heap.size, 0, none⟩ = some (.int .i64 kd) := by simp [World.cell?_alloc_new]
      have d3 : (wr.alloc (.cells #[.int .i64 kd, .string x.text, .int .i64 x.num, .slice K x.kids.length kc, .int .i64 x.pos] 54)).cell? ⟨wr.heap.size, 3, none⟩ = some (.slice K x.kids.length kc) := by simp [World.cell?_alloc_new]
      obtain ⟨w2, hw2⟩ : ∃ w2, wr.alloc (.cells #[.int .i64 kd, .string x.text, .int .i64 x.num, .slice K x.kids.length kc, .int .i64 x.pos] 54) = w2 := ⟨_, rfl⟩
      rw [hw2] at B2 HK q2 d0 d3
      have HW2 := Lib.hid hw2
      have HP := Lib.hid hp2
      clear hx hxe hkd hp2 hw2 b2 hK
      by_cases h29 : kd = 29
      · subst h29
        have hp3 := HP.out
        rw [if_pos rfl] at hp3
        have HP3 := Lib.hid hp3
        clear hp3 HP
        obtain ⟨L, hL⟩ : ∃ L, x.kids.length = L := ⟨_, rfl⟩
        rw [hL] at c3 d3 HP3 hkl HW2
        obtain ⟨I, hI⟩ : ∃ I : World → Prop, (fun V => Below w2.heap.size w2 V) = I := ⟨_, rfl⟩
        have bel : ∀ V, I V → Below w2.heap.size w2 V := by rw [← hI]; exact fun _ h => h
        have low : ∀ V V', I V → Below V.heap.size V V' → I V' := by rw [← hI]; exact fun V V' h hb => h.trans (hb.mono h.size)
        have hId : I w2.drew := by rw [← hI]; exact (Below.refl _ _).drew
        have p0 : ∀ p : WI I, p.w.cell? ⟨w.heap.size, 0, none⟩ = some (.slice (some a) T.length c) := fun p => (bel _ p.h).cell_keep q2
        have p3 : ∀ p : WI I, p.w.cell? ⟨wr.heap.size, 3, none⟩ = some (.slice K L kc) := fun p => (bel _ p.h).cell_keep d3
        have BEL := Lib.hid bel
        by_cases h1 : L = 1
        · subst h1
          obtain ⟨z, hz⟩ : ∃ z, x.kids.getD 0 0 = z := ⟨_, rfl⟩
          obtain ⟨a2, rfl, hcell⟩ := ints_at HK.out 0 (by omega)
          rw [hz, show a2.add 0 = a2 by cases a2; unfold Addr.add; split <;> simp_all] at hcell
          rw [hz] at HP3
          have pz : ∀ p : WI I, p.w.cell? a2 = some (.int .i64 z) := fun p => (bel _ p.h).cell_keep hcell
          obtain ⟨b, hbe⟩ : ∃ b, withinB T.length z = b := ⟨_, rfl⟩
          have C1 : ∀ p : WI I, Calls Tryd.prog 85 #[.agg #[.slice (some a) T.length c], .int .i64 z] p.w fun e w' => e = .returned (.bool b) ∧ I w' := fun p =>
            (within_calls (some a) c T.length z p.w).mono fun e w' ⟨he, hb⟩ => ⟨by rw [he, hbe], low _ _ p.h hb⟩
          have H1 := Lib.hid C1
          have HBE := Lib.hid hbe
          have LEN := Lib.hid hL
          clear C1 bel low hI hz hbe hL
          go_upto_region 4 with (fail)
          rw [HW2.out]
          go_wp2_with (fail)
          haveI hne : Nonempty (WI I) := ⟨⟨_, hId⟩⟩
          refine wp_region_qi0 I (by kernel_rfl) (by kernel_rfl) hId ?_
          repeat (quiet_step (first | (with_reducible exact calls_qi (H1.out _))))
          refine wpQuiet_nil ?_
          intro V hV
          have hVb := Lib.hid (BEL.out V hV)
          have HPZ := Lib.hid (show V.cell? a2 = some (.int .i64 z) from pz ⟨V, hV⟩)
          have HP33 := Lib.hid (show V.cell? ⟨wr.heap.size, 3, none⟩ = some (.slice (some a2) 1 kc) from p3 ⟨V, hV⟩)
          clear hV pz p0 p3 hne
          cases b with
          | false =>
            have hp4 := HP3.out
            rw [if_neg (fun h => by rw [HBE.out] at h; cases h.2)] at hp4
            have HP4 := Lib.hid hp4
            clear hp4 HP3
            go_wp2_with (fail)
            go_ret
            exact ⟨ret_val (by rw [HP4.out]; rfl), HB.out.trans ((B2.out.trans (hVb.out.mono B2.out.size)).mono HB.out.size)⟩
          | true =>
            have hp4 := HP3.out
            rw [if_pos ⟨by simp, HBE.out⟩] at hp4
            obtain ⟨m, rfl, hm⟩ := within_nat HBE.out
            rw [Int.toNat_natCast] at hp4
            have HP4 := Lib.hid hp4
            have g1 := HPZ.out
            have g3 := HP33.out
            clear hp4 HP3
            go_wp2_with (fail)
            exact ⟨⟨m, k + 1, rfl, by simp, by omega, hm, HP4, Lib.hid (B2.out.trans (hVb.out.mono B2.out.size))⟩, by simp [intOf]; omega⟩
        · have e3 : ((L : Int) != 1) = true := by simp; omega
          have hp4 := HP3.out
          rw [if_neg (fun h => h1 h.1)] at hp4
          have HP4 := Lib.hid hp4
          clear bel low hI h1 hp4 hL
          go_upto_region 4 with (fail)
          rw [HW2.out]
          go_wp2_with (fail)
          haveI hne : Nonempty (WI I) := ⟨⟨_, hId⟩⟩
          refine wp_region_qi0 I (by kernel_rfl) (by kernel_rfl) hId ?_
          repeat (quiet_step (fail))
          refine wpQuiet_nil ?_
          intro V hV
          have hVb := Lib.hid (BEL.out V hV)
          clear hV p0 p3 hne
          go_wp2_with (fail)
          go_ret
          exact ⟨ret_val (by rw [HP4.out]; rfl), HB.out.trans ((B2.out.trans (hVb.out.mono B2.out.size)).mono HB.out.size)⟩
      · have e1 : (kd == 29) = false := by simpa using h29
        have e2 : (kd != 29) = true := by simpa using h29
        have hp3 := HP.out
        rw [if_neg h29] at hp3
        have HP3 := Lib.hid hp3
        clear hp3 HP h29
        go_upto_region 4 with (fail)
        rw [HW2.out]
        go_wp2_with (fail)
        go_ret
        exact ⟨ret_val (by rw [HP3.out]; rfl), HB.out.trans (B2.out.mono HB.out.size)⟩
    · have hkl : k = T.length := by omega
      have hp2 := hp.out
      rw [hkl, Nat.sub_self, isPathF] at hp2
      have HP := Lib.hid hp2
      clear hkl hp2
      go_wp2_with (fail)
      go_ret
      exact ⟨ret_val (by rw [HP.out]; rfl), HB.out.trans (hb.out.mono HB.out.size)⟩
end Go.Proofs.YtnepdjgbfhakmaaDoor
