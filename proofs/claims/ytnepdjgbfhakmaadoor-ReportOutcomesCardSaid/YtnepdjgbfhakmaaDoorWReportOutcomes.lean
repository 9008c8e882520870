/- ReportOutcomes: the walk. -/
import Derived.Test.YtnepdjgbfhakmaaDoorOutcR
import Derived.Test.YtnepdjgbfhakmaaDoorLaw19
namespace Go.Proofs.YtnepdjgbfhakmaaDoor
set_option linter.unusedVariables false
set_option linter.unusedSimpArgs false
open Go.RowKit Go.Shelf
attribute [local go_sem] Oper.semAt_some

set_option maxRecDepth 100000 in
set_option maxHeartbeats 2000000 in
theorem reportOutcomes_walk (w : World) (e : Int) (th : ByteArray) (A : Option Addr) (c : Nat) (os : List ByteArray) (st cl : Int) (hth : th.size ≤ 140737488351232) (hos : ∀ s ∈ os, s.size ≤ 140737488351232) (hcap : os.length ≤ c) (hmax : c ≤ maxLen)
    (h0 : A = none → os.length = 0 ∧ c = 0) (hc : Cells w A (scells os)) (hst : (Lit.int .i64 st).wf = true) (hT16 : Tz16 w) (hw16 : 3 < w.heap.size) (hT : Pw10 w) :
    Calls Tryd.prog 18 #[.agg #[.int .i64 e, .string th, .slice A os.length c, .int .i64 st, .int .i64 cl]] w fun x w' => x = .returned (.bool true) ∧ Below w.heap.size w w' := by
  have hwi : -9223372036854775808 ≤ st ∧ st ≤ 9223372036854775807 := by
    simpa [Lit.wf, show IntKind.i64.min = -9223372036854775808 from rfl, show IntKind.i64.max = 9223372036854775807 from rfl] using hst
  have mx : maxLen = 9223372036854775807 := rfl
  have hol : os.length ≤ 9223372036854775807 := by omega
  have HC := Lib.hid hc
  have HN := Lib.hid h0
  have HOS := Lib.hid hos
  have i1 := OcI.start w e th A os.length c st cl
  obtain ⟨W1, hW1⟩ : ∃ W1, w.alloc (.cells (ocells e th A os.length c st cl) 80) = W1 := ⟨_, rfl⟩
  rw [hW1] at i1
  have HW1 := Lib.hid hW1
  have HI := Lib.hid i1
  have q1 : W1.cell? ⟨w.heap.size, 1, none⟩ = some (.string th) := by simp [World.cell?, i1.2]
  have q2 : W1.cell? ⟨w.heap.size, 2, none⟩ = some (.slice A os.length c) := by simp [World.cell?, i1.2]
  clear hc h0 hst hos mx hmax hcap i1 hW1
  go_enter Tryd.func18, Tryd.ntmps18
  go_wp2_with (fail)
  rw [HW1.out]
  go_loopw [3, 4] (fun u v wr => ∃ (n k : Nat), u = .int .i64 n ∧ v = .int .i64 k ∧ k ≤ os.length ∧ n ≤ 281474976710656 ∧ Hid (n = th.size + (rowsL (os.take k)).length) ∧ W1 = wr) (fun _ v _ => os.length - (intOf v).toNat)
  case atStart => exact ⟨th.size, 0, rfl, rfl, by omega, by omega, Lib.hid (by simp [rowsL]), rfl⟩
  case round =>
    obtain ⟨n, k, rfl, rfl, hk, hn, hs, rfl⟩ := hrel
    by_cases hn2 : n ≤ 2500
    · by_cases hlt : k < os.length
      · obtain ⟨a, rfl, hcell⟩ := strs_at (HC.out.below HI.out.1) k hlt
        have hts := rowsL_take os k hlt
        have hz : os[k].size ≤ 140737488351232 := HOS.out _ (List.getElem_mem _)
        obtain ⟨x, hx⟩ : ∃ x, os[k] = x := ⟨_, rfl⟩
        rw [hx] at hts hz hcell
        have HT := Lib.hid hts
        clear hts hx
        go_wp2_with (fail)
        refine ⟨⟨n + x.size + 1, k + 1, by simp, by simp, by omega, by omega, Lib.hid ?_, trivial⟩, by simp [intOf]; omega⟩
        rw [HT.out]
        have h3 : x.data.toList.length = x.size := rfl
        have h4 := hs.out
        simp only [List.length_append, List.length_singleton]
        omega
      · have hkl : k = os.length := by omega
        rw [hkl, List.take_of_length_le (Nat.le_refl _)] at hs
        have hol2 : os.length ≤ 2500 := by
          have h1 := hs.out
          have h2 : os.length ≤ (rowsL os).length := by
            clear hs h1 hol HC HN HOS HW1 HI q1 q2 hlt hkl hk
            induction os with
            | nil => simp
            | cons s t ih => rw [show rowsL (s :: t) = (s.data.toList ++ [10]) ++ rowsL t from rfl]; simp only [List.length_cons, List.length_append, List.length_singleton]; omega
          omega
        have hrl : (rowsL os).length ≤ 100000 := by have := hs.out; omega
        have htl : th.size ≤ 100000 := by have := hs.out; omega
        obtain ⟨I, hI⟩ : ∃ I, OcI w e th A os.length c st cl = I := ⟨_, rfl⟩
        have low : ∀ V V', I V → Below V.heap.size V V' → I V' := by rw [← hI]; exact fun _ _ h hb => h.below hb
        have bel : ∀ V, I V → Below w.heap.size w V := by rw [← hI]; exact fun _ h => h.1
        have cel : ∀ V, I V → V.heap[w.heap.size]? = some (.cells (ocells e th A os.length c st cl) 80 (0, 0)) := by rw [← hI]; exact fun _ h => h.2
        have i2 := HI.out
        rw [hI] at i2
        obtain ⟨S, hS⟩ : ∃ S, outcS e th os st = S := ⟨_, rfl⟩
        have C1 : ∀ p : WI I, Calls Tryd.prog 62 #[.agg (ocells e th A os.length c st cl)] p.w fun e w' => e = .returned (.string S) ∧ I w' := fun p =>
          (outcome_calls e th A c os st cl p.w hwi htl (by omega) hrl HN.out (HC.out.below (bel _ p.h)) (hT16.below (bel _ p.h) hw16) (Nat.lt_of_lt_of_le hw16 (bel _ p.h).size) (hT.below (bel _ p.h))).mono fun e w' ⟨he, hb⟩ => ⟨by rw [he, hS], low _ _ p.h hb⟩
        have C2 : ∀ p : WI I, Calls Tryd.prog 63 #[.agg (ocells e th A os.length c st cl)] p.w fun e w' => e = .returned (.string S) ∧ I w' := fun p =>
          (refoutcome_calls e th A c os st cl p.w hwi htl (by omega) hrl (HC.out.below (bel _ p.h))).mono fun e w' ⟨he, hb⟩ => ⟨by rw [he, hS], low _ _ p.h hb⟩
        have C4 : ∀ p : WI I, Calls Tryd.prog 57 #[] p.w fun e w' => e = .returned (.bool true) ∧ I w' := fun p =>
          (known19_calls p.w (hT.below (bel _ p.h))).mono fun e w' ⟨he, hb⟩ => ⟨he, low _ _ p.h hb⟩
        have c0 : ∀ p : WI I, p.w.cell? ⟨w.heap.size, 0, none⟩ = some (.int .i64 e) := fun p => by simp [World.cell?, cel _ p.h]
        have c1 : ∀ p : WI I, p.w.cell? ⟨w.heap.size, 1, none⟩ = some (.string th) := fun p => by simp [World.cell?, cel _ p.h]
        have c2 : ∀ p : WI I, p.w.cell? ⟨w.heap.size, 2, none⟩ = some (.slice A os.length c) := fun p => by simp [World.cell?, cel _ p.h]
        have c3 : ∀ p : WI I, p.w.cell? ⟨w.heap.size, 3, none⟩ = some (.int .i64 st) := fun p => by simp [World.cell?, cel _ p.h]
        have c4 : ∀ p : WI I, p.w.cell? ⟨w.heap.size, 4, none⟩ = some (.int .i64 cl) := fun p => by simp [World.cell?, cel _ p.h]
        have hId : I W1.drew := low _ _ i2 (Below.refl _ _).drew
        have H1 := Lib.hid C1
        have H2 := Lib.hid C2
        have H4 := Lib.hid C4
        have BEL := Lib.hid bel
        clear C1 C2 C4 hS hI low bel cel i2 hkl hs HW1 HI
        go_wp2_with (fail)
        haveI hne : Nonempty (WI I) := ⟨⟨_, hId⟩⟩
        refine wp_region_qi0 I (by kernel_rfl) (by kernel_rfl) hId ?_
        repeat (quiet_step (first | (with_reducible exact calls_qi (H1.out _)) | (with_reducible exact calls_qi (H2.out _)) | (with_reducible exact calls_qi (H4.out _))))
        refine wpQuiet_nil ?_
        intro V hV
        have hVb := BEL.out V hV
        clear H1 H2 H4 c0 c1 c2 c3 c4 hne hId q1 q2
        go_wp2_with (fail)
        go_ret
        exact ⟨rfl, hVb⟩
    · by_cases hlt : k < os.length
      · go_wp2_with (fail)
        go_ret
        exact ⟨rfl, HI.out.1⟩
      · go_wp2_with (fail)
        go_ret
        exact ⟨rfl, HI.out.1⟩
end Go.Proofs.YtnepdjgbfhakmaaDoor
