/- ReportOutputs: the walk. -/
import Derived.Test.YtnepdjgbfhakmaaDoorRep3
import Derived.Test.YtnepdjgbfhakmaaDoorRepMarks
namespace Go.Proofs.YtnepdjgbfhakmaaDoor
set_option linter.unusedVariables false
set_option linter.unusedSimpArgs false
open Go.RowKit Go.Shelf
attribute [local go_sem] Oper.semAt_some

def RoI (w : World) (ov : Array Value) (A' : Option Addr) (cs : List Value) (V : World) : Prop := RefI w ov V ∧ Cells V A' cs
theorem RoI.below {w : World} {ov : Array Value} {A' : Option Addr} {cs : List Value} {V V' : World} (h : RoI w ov A' cs V) (hb : Below V.heap.size V V') : RoI w ov A' cs V' := ⟨h.1.below hb, h.2.below hb⟩

set_option maxRecDepth 100000 in
set_option maxHeartbeats 1000000 in
theorem reportOutputs_walk (w : World) (A : Option Addr) (c : Nat) (bs : List UInt8) (hl : bs.length ≤ 140737488351232) (hcap : bs.length ≤ c) (hmax : c ≤ maxLen) (h0 : A = none → bs.length = 0 ∧ c = 0) (hc : Cells w A (bcells bs))
    (er at_ : Int) (tx : ByteArray) (he : (Lit.int .i64 er).wf = true) (ha : (Lit.int .i64 at_).wf = true) (ht : tx.size ≤ 140737488351232) (hT16 : Tz16 w) (hw16 : 3 < w.heap.size) (hT : Pw10 w) :
    Calls Tryd.prog 15 #[.slice A bs.length c, .agg #[.int .i64 er, .int .i64 at_, .string tx]] w fun e w' => e = .returned (.bool true) ∧ Below w.heap.size w w' := by
  have hwi : -9223372036854775808 ≤ at_ ∧ at_ ≤ 9223372036854775807 := by
    simpa [Lit.wf, show IntKind.i64.min = -9223372036854775808 from rfl, show IntKind.i64.max = 9223372036854775807 from rfl] using ha
  have HC := Lib.hid hc
  have HN := Lib.hid h0
  clear hc h0 ha he
  have b1 : Below w.heap.size w (w.alloc (.cells #[.int .i64 er, .int .i64 at_, .string tx] 74)) := (Below.refl _ _).alloc (Nat.le_refl _) _
  have o1 := World.alloc_heap_new w (.cells #[.int .i64 er, .int .i64 at_, .string tx] 74)
  go_enter Tryd.func15, Tryd.ntmps15
  by_cases hlen : 2500 < bs.length + tx.size
  · go_wp2
    go_ret
    exact ⟨rfl, b1⟩
  · have HR := Lib.hid (roomy19_calls A c bs _ (by omega) HN.out (HC.out.below b1))
    have B1 := Lib.hid b1
    have O1 := Lib.hid o1
    clear b1 o1
    go_wp2_with (fail)
    refine HR.out.mono ?_
    rintro e W2 ⟨A', c', rfl, hc', hc2, b2⟩
    have i1 : RefI w #[.int .i64 er, .int .i64 at_, .string tx] W2 := ⟨B1.out.trans (b2.mono B1.out.size), (b2.block w.heap.size (by simp)).trans O1.out⟩
    have i2 : RoI w #[.int .i64 er, .int .i64 at_, .string tx] A' (bcells (bs ++ [171])) W2 := ⟨i1, hc2⟩
    clear b2 B1 O1 HR hc2 i1
    obtain ⟨I, hI⟩ : ∃ I, RoI w #[.int .i64 er, .int .i64 at_, .string tx] A' (bcells (bs ++ [171])) = I := ⟨_, rfl⟩
    have low : ∀ V V', I V → Below V.heap.size V V' → I V' := by rw [← hI]; exact fun _ _ h hb => h.below hb
    have bel : ∀ V, I V → Below w.heap.size w V := by rw [← hI]; exact fun _ h => h.1.1
    have cel : ∀ V, I V → V.heap[w.heap.size]? = some (.cells #[.int .i64 er, .int .i64 at_, .string tx] 74 (0, 0)) := by rw [← hI]; exact fun _ h => h.1.2
    have rom : ∀ V, I V → Cells V A' (bcells (bs ++ [171])) := by rw [← hI]; exact fun _ h => h.2
    rw [hI] at i2
    have I2 := Lib.hid i2
    obtain ⟨S, hS⟩ : ∃ S, outS bs er at_ tx = S := ⟨_, rfl⟩
    have hA' : A' = none → bs.length = 0 ∧ c' = 0 := fun h => by
      have := rom W2 I2.out
      obtain ⟨a, ha, _⟩ := this 0 (by simp)
      rw [h] at ha; cases ha
    have C1 : ∀ p : WI I, Calls Tryd.prog 54 #[.slice A' bs.length c', .agg #[.int .i64 er, .int .i64 at_, .string tx]] p.w fun e w' => e = .returned (.string S) ∧ I w' := fun p =>
      (output_calls A' c' bs er at_ tx p.w (by omega) (by omega) hwi hA' (by have := (rom _ p.h).take_ bs.length; simpa [bcells, ← List.map_take] using this) (hT.below (bel _ p.h))).mono fun e w' ⟨he, hb⟩ => ⟨by rw [he, hS], low _ _ p.h hb⟩
    have C2 : ∀ p : WI I, Calls Tryd.prog 55 #[.slice A bs.length c, .agg #[.int .i64 er, .int .i64 at_, .string tx]] p.w fun e w' => e = .returned (.string S) ∧ I w' := fun p =>
      (refoutput_calls A c bs er at_ tx p.w (by omega) hcap hwi HN.out (HC.out.below (bel _ p.h))).mono fun e w' ⟨he, hb⟩ => ⟨by rw [he, hS], low _ _ p.h hb⟩
    have C3 : ∀ p : WI I, Calls Tryd.prog 56 #[.slice A' (bs.length + 1) c', .slice A bs.length c] p.w fun e w' => e = .returned (.bool true) ∧ I w' := fun p =>
      (stands19_calls A' A c' c bs p.w (by omega) (by omega) (rom _ p.h) (HC.out.below (bel _ p.h))).mono fun e w' ⟨he, hb⟩ => ⟨he, low _ _ p.h hb⟩
    have C4 : ∀ p : WI I, Calls Tryd.prog 57 #[] p.w fun e w' => e = .returned (.bool true) ∧ I w' := fun p =>
      (known19_calls p.w (hT.below (bel _ p.h))).mono fun e w' ⟨he, hb⟩ => ⟨he, low _ _ p.h hb⟩
    have c0 : ∀ p : WI I, p.w.cell? ⟨w.heap.size, 0, none⟩ = some (.int .i64 er) := fun p => by simp [World.cell?, cel _ p.h]
    have c1 : ∀ p : WI I, p.w.cell? ⟨w.heap.size, 1, none⟩ = some (.int .i64 at_) := fun p => by simp [World.cell?, cel _ p.h]
    have c2 : ∀ p : WI I, p.w.cell? ⟨w.heap.size, 2, none⟩ = some (.string tx) := fun p => by simp [World.cell?, cel _ p.h]
    have hId : I W2.drew := by rw [← hI] at I2 ⊢; exact ⟨⟨I2.out.1.1.drew, I2.out.1.2⟩, I2.out.2⟩
    have H1 := Lib.hid C1
    have H2 := Lib.hid C2
    have H3 := Lib.hid C3
    have H4 := Lib.hid C4
    have BEL := Lib.hid bel
    clear C1 C2 C3 C4 hS hI low bel cel rom i2 hA'
    have g1 : bs.length ≤ c' := by omega
    go_wp2_with (fail)
    haveI hne : Nonempty (WI I) := ⟨⟨_, hId⟩⟩
    refine wp_region_qi0 I (by kernel_rfl) (by kernel_rfl) hId ?_
    repeat (quiet_step (first | (with_reducible exact calls_qi (H1.out _)) | (with_reducible exact calls_qi (H2.out _)) | (with_reducible exact calls_qi (H3.out _)) | (with_reducible exact calls_qi (H4.out _))))
    refine wpQuiet_nil ?_
    intro V hV
    have hVb := BEL.out V hV
    clear H1 H2 H3 H4 c0 c1 c2 hne hId I2
    go_wp2_with (fail)
    go_ret
    exact ⟨rfl, hVb⟩
end Go.Proofs.YtnepdjgbfhakmaaDoor
