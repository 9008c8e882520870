/- text.Line: a line by its number. -/
import Derived.Test.YtnepdjgbfhakmaaDoorRefLines
import Derived.Test.YtnepdjgbfhakmaaDoorLines2
import Derived.Deep.RegionWith
import Derived.Deep.CutRange
import Derived.Deep.RegionHeld3
import Derived.Deep.DrawnRows
namespace Go.Proofs.YtnepdjgbfhakmaaDoor
set_option linter.unusedVariables false
set_option linter.unusedSimpArgs false
open Go.RowKit Go.Shelf
attribute [local go_sem] Oper.semAt_some

theorem run_eql_nilFL {P : Program} (W : World) (t : TypeId) (f : Fn) (cs lb : Array Value) {ps rs : Array TypeId} {s : Bool} (hu : P.underlying t = some (.func ps rs s)) :
    (binOp .eql t (.func f cs lb) .nilFunc).run P W = .ok (.bool false) W := by
  have h : ∀ d : Nat, (Op.equalIn (d + 1) t (.func f cs lb) .nilFunc).run P W = .ok false W := fun d => by simp [Op.equalIn, run_underlying hu]
  simp only [binOp]
  simp [Op.equal, Op.maxDepth, h 9999]

theorem linesF_count : ∀ (l : List UInt8) (i f : Nat), (linesF l i f).length = l.count 10 + 1
  | [], _, _ => rfl
  | c :: t, i, f => by
    rw [linesF]
    by_cases h : c.toNat = 10
    · have hc : c = 10 := UInt8.toNat_inj.1 h
      rw [if_pos h, List.length_cons, linesF_count t, hc, List.count_cons_self]
    · have hc : c ≠ 10 := fun e => h (by rw [e]; rfl)
      rw [if_neg h, linesF_count t, List.count_cons_of_ne hc]
theorem lines_count (bs : List UInt8) : (lines bs).length = bs.count 10 + 1 := linesF_count bs 0 0

def lineAt (bs : List UInt8) (n : Int) : ByteArray := match (lines bs)[(n - 1).toNat]? with
  | some x => (⟨bs.toArray⟩ : ByteArray).extract x.1 x.2
  | none => ByteArray.empty

theorem count_calls (A : Option Addr) (c : Nat) (bs : List UInt8) (w : World) (b2 : Nat) (d : Nat) (h0 : A = none → bs.length = 0 ∧ c = 0) (hc : Cells w A (bcells bs)) (h2 : w.cell? ⟨b2, 0, none⟩ = some (.int .u8 10)) :
    Calls Tryd.prog 100 #[.slice A bs.length c, .slice (some ⟨b2, 0, none⟩) 1 d] w fun e w' => e = .returned (.int .i64 (bs.count 10 : Nat)) ∧ w' = w := by
  cases A with
  | none =>
    obtain ⟨hn, rfl⟩ := h0 rfl
    have hb : bs = [] := List.eq_nil_of_length_eq_zero hn
    subst hb
    exact Tryd.bytes_Count_one_nil b2 0 d 10 w h2
  | some a =>
    have h := Tryd.bytes_Count_one_at a bs.length c b2 0 d (bs.map fun b => (b.toNat : Int)) 10 w (by simp) (fun i hi => by
      obtain ⟨a', ha, hx⟩ := hc i (by simpa using hi)
      cases ha
      rw [hx]
      simp [bcells, List.getD, hi]) h2
    have hb : Lib.bytesOf (bs.map fun b => (b.toNat : Int)) = bs := by
      simp [Lib.bytesOf, List.map_map, Function.comp_def]
    rw [hb] at h
    exact h


theorem boxed_drewN {W : World} {b : Nat} {ty : TypeId} {v : Value} (h : Boxed W b ty v) (n : Nat) : Boxed (W.drewN n) b ty v := h
theorem line_res {W : World} {fr : Array Value} {b : Nat} {s : ByteArray} {e : Int} (h4 : fr[4]?.getD undef = .pointer (some ⟨b + 1, 0, none⟩)) (h5 : fr[5]?.getD undef = .pointer (some ⟨b + 1 + 1, 0, none⟩)) (k4 : W.cell? ⟨b + 1, 0, none⟩ = some (.string s)) (k5 : W.cell? ⟨b + 1 + 1, 0, none⟩ = some (.int .i64 e)) :
    (results Tryd.f76 fr).run Tryd.prog W = .ok (.tuple #[.string s, .int .i64 e]) W := by
  simp [results, Tryd.results76, go_sem, k4, k5, h4, h5]

/-- What Line answers. -/
def lineS (bs : List UInt8) (n : Int) : ByteArray := if 1 ≤ n ∧ n ≤ (lines bs).length then lineAt bs n else ByteArray.empty
def lineE (bs : List UInt8) (n : Int) : Int := if 1 ≤ n ∧ n ≤ (lines bs).length then 0 else 11
theorem line_yes {bs : List UInt8} {n : Int} (h : 1 ≤ n ∧ n ≤ (lines bs).length) : lineS bs n = lineAt bs n ∧ lineE bs n = 0 := ⟨if_pos h, if_pos h⟩
theorem line_no {bs : List UInt8} {n : Int} (h : ¬ (1 ≤ n ∧ n ≤ (lines bs).length)) : lineS bs n = ⟨#[]⟩ ∧ lineE bs n = 11 := ⟨if_neg h, if_neg h⟩
theorem line_fin {bs : List UInt8} {n : Int} {s : ByteArray} {e : Int} (h : lineS bs n = s ∧ lineE bs n = e) : Ending.returned (.tuple #[.string s, .int .i64 e]) = .returned (.tuple #[.string (lineS bs n), .int .i64 (lineE bs n)]) := by rw [h.1, h.2]

/-- What the loop holds: how far n has gone down. -/
def LnI (w : World) (n : Int) (pre : List (Nat × Nat)) (W : World) : Prop :=
  Boxed W w.heap.size 3 (.int .i64 (n - pre.length)) ∧ Boxed W (w.heap.size + 1) 9 (.string ⟨#[]⟩) ∧ Boxed W (w.heap.size + 2) 66 (.int .i64 0) ∧ Below w.heap.size w W ∧ (pre.length : Int) < n
def LnX (w : World) (bs : List UInt8) (n : Int) (c : Code) (pre : List (Nat × Nat)) (W : World) : Prop :=
  c = .ret ∧ Boxed W (w.heap.size + 1) 9 (.string (lineAt bs n)) ∧ Boxed W (w.heap.size + 2) 66 (.int .i64 0) ∧ Below w.heap.size w W
theorem LnI.abide {w : World} {n : Int} {B : Nat} (h1 : w.heap.size ≤ B) : AbideT B (LnI w n) :=
  fun _ _ _ ⟨h2, h3, h4, h5, h6⟩ ht => ⟨Boxed.turn h2 ht, Boxed.turn h3 ht, Boxed.turn h4 ht, ht.below h1 (Nat.le_refl _) h5, h6⟩
theorem LnX.abide {w : World} {bs : List UInt8} {n : Int} {B : Nat} (h1 : w.heap.size ≤ B) (c : Code) : AbideT B (LnX w bs n c) :=
  fun _ _ _ ⟨h2, h3, h4, h5⟩ ht => ⟨h2, Boxed.turn h3 ht, Boxed.turn h4 ht, ht.below h1 (Nat.le_refl _) h5⟩

set_option maxRecDepth 100000 in
set_option maxHeartbeats 1000000 in
theorem textLine_calls (A : Option Addr) (c : Nat) (bs : List UInt8) (n : Int) (w : World) (hl : bs.length ≤ 1000000) (hn0 : -9223372036854775808 ≤ n) (hn1 : n ≤ 9223372036854775807) (h0 : A = none → bs.length = 0 ∧ c = 0) (hc : Cells w A (bcells bs)) :
    Calls Tryd.prog 76 #[.slice A bs.length c, .int .i64 n] w fun e w' =>
      e = .returned (.tuple #[.string (lineS bs n), .int .i64 (lineE bs n)]) ∧ Below w.heap.size w w' := by
  refine calls_of_wp_marks Tryd.func76 rfl ?_
  simp only [Tryd.ntmps76, List.size_toArray, List.length_cons, List.length_nil, Nat.reduceAdd, Nat.reduceSub, Array.replicate_succ, Array.replicate_zero, List.push_toArray, List.append_toArray, List.nil_append, List.cons_append]
  have HC := Lib.hid hc
  have HN := Lib.hid h0
  clear hc h0
  have b3 : Below w.heap.size w (((w.alloc (.cells #[.int .i64 n] 3)).alloc (.cells #[.string ⟨#[]⟩] 9)).alloc (.cells #[.int .i64 0] 66)) := (((Below.refl _ w).alloc (Nat.le_refl _) _).alloc (by simp) _).alloc (by simp; omega) _
  have d2 : Boxed (((w.alloc (.cells #[.int .i64 n] 3)).alloc (.cells #[.string ⟨#[]⟩] 9)).alloc (.cells #[.int .i64 0] 66)) (w.heap.size + 1) 9 (.string ⟨#[]⟩) := by
    have := (Boxed.new (w.alloc (.cells #[.int .i64 n] 3)) 9 (.string ⟨#[]⟩)).alloc (.cells #[.int .i64 0] 66)
    rw [World.size_alloc] at this
    exact this
  have d3 : Boxed (((w.alloc (.cells #[.int .i64 n] 3)).alloc (.cells #[.string ⟨#[]⟩] 9)).alloc (.cells #[.int .i64 0] 66)) (w.heap.size + 2) 66 (.int .i64 0) := by
    have := Boxed.new ((w.alloc (.cells #[.int .i64 n] 3)).alloc (.cells #[.string ⟨#[]⟩] 9)) 66 (.int .i64 0)
    rw [World.size_alloc, World.size_alloc] at this
    exact this
  have B3 := Lib.hid b3
  have D2 := Lib.hid d2
  have D3 := Lib.hid d3
  clear b3 d2 d3
  by_cases h1 : n < 1
  · have hd : decide (n < 1) = true := by simpa using h1
    go_wp2_with (fail)
    go_quiet (fail)
    go_wp2_with (fail)
    exact marks_ret0 rfl (line_res rfl rfl (Boxed.cell (Boxed.other (Boxed.set _ (boxed_drewN D2.out _)) (by omega) _)) (Boxed.cell (Boxed.set _ (Boxed.other (boxed_drewN D3.out _) (by omega) _)))) ⟨line_fin (line_no (by omega)), ((below_drewN B3.out _).setCell (p := ⟨w.heap.size + 1, 0, none⟩) (Nat.le_succ _) _).setCell (p := ⟨w.heap.size + 2, 0, none⟩) (Nat.le_add_right _ 2) _⟩
  · have hd : decide (n < 1) = false := by simpa using h1
    go_wp2_with (fail)
    obtain ⟨w0, hw0⟩ : ∃ w0, (((w.alloc (.cells #[.int .i64 n] 3)).alloc (.cells #[.string ⟨#[]⟩] 9)).alloc (.cells #[.int .i64 0] 66)) = w0 := ⟨_, rfl⟩
    have c0 : w0.cell? ⟨w.heap.size, 0, none⟩ = some (.int .i64 n) := by
      rw [← hw0]; exact cell_alloc_keep (cell_alloc_keep (Boxed.cell (Boxed.new w 3 (.int .i64 n))) _) _
    have B0 := B3.out
    have d1 : Boxed w0 w.heap.size 3 (.int .i64 n) := by
      rw [← hw0]; exact ((Boxed.new w 3 (.int .i64 n)).alloc _).alloc _
    have d2 := D2.out
    have d3 := D3.out
    rw [hw0] at d2 d3
    clear D2 D3
    rw [hw0] at B0 ⊢
    have D1 := Lib.hid d1
    have D2 := Lib.hid d2
    have D3 := Lib.hid d3
    clear d1 d2 d3
    have H0 := Lib.hid hw0
    have z0 : w.heap.size < w0.heap.size := by rw [← hw0]; simp; omega
    clear hw0 B3
    have HB := Lib.hid B0
    have hcnt : ∀ (W : World) (x : Nat), Below w0.heap.size w0 W → W.cell? ⟨x, 0, none⟩ = some (.int .u8 10) → Calls Tryd.prog 100 #[.slice A bs.length c, .slice (some ⟨x, 0, none⟩) 1 1] W fun e w' => e = .returned (.int .i64 (bs.count 10 : Nat)) ∧ w' = W := fun W x hb hx =>
      count_calls A c bs W x 1 HN.out ((HC.out.below HB.out).below hb) hx
    have HCN := Lib.hid hcnt
    have hbc : bs.count 10 ≤ 1000000 := by have := List.count_le_length (a := (10 : UInt8)) (l := bs); omega
    clear hcnt
    have bb0 := Below.refl w0.heap.size w0
    have hlc := lines_count bs
    have HLC := Lib.hid hlc
    have e15 : IntKind.i64.wrap (((bs.count 10 : Nat) : Int) + 1) = ((bs.count 10 : Nat) : Int) + 1 := IntWalk.i64_in _ (by omega)
    clear hlc
    by_cases h2 : ((bs.count 10 : Nat) : Int) + 1 < n
    case' pos => have hd2 : decide (((bs.count 10 : Nat) : Int) + 1 < n) = true := by simpa using h2
    case' neg => have hd2 : decide (((bs.count 10 : Nat) : Int) + 1 < n) = false := by simpa using h2
    all_goals
      go_region_held3 (fun w' => w'.cell? ⟨w.heap.size, 0, none⟩ = some (.int .i64 n) ∧ Below w0.heap.size w0 w')
        (first | (exact ⟨by go_keep, bb0.drew⟩) | (exact ⟨cell_alloc_keep c0 _, (bb0.alloc (Nat.le_refl _) _).drew⟩))
        (first | (go_at_call 100; refine (HCN.out _ _ ((bb0.alloc (Nat.le_refl _) _).drew) ?_).mono ?_; (simp [World.cell?_alloc_some]); rintro e w' ⟨rfl, rfl⟩))
    all_goals
      obtain ⟨W1, hW1⟩ : ∃ W1, (w0.alloc (.cells #[.int .u8 10] 5)).drew = W1 := ⟨_, rfl⟩
      have b1 : Below w0.heap.size w0 W1 := by rw [← hW1]; exact (bb0.alloc (Nat.le_refl _) _).drew
      have bw1 : Below w.heap.size w W1 := HB.out.trans (b1.mono (by omega))
      have k1 : Boxed W1 w.heap.size 3 (.int .i64 n) := Boxed.below D1.out b1 (Boxed.lt D1.out)
      have k2 : Boxed W1 (w.heap.size + 1) 9 (.string ⟨#[]⟩) := Boxed.below D2.out b1 (Boxed.lt D2.out)
      have k3 : Boxed W1 (w.heap.size + 2) 66 (.int .i64 0) := Boxed.below D3.out b1 (Boxed.lt D3.out)
      rw [hW1]
      clear hW1 b1 c0 bb0 e15 H0
    · have L1 := Lib.hid (lines_calls A c bs W1 (HC.out.below bw1))
      have BW := Lib.hid bw1
      have K1 := Lib.hid k1
      have K2 := Lib.hid k2
      have K3 := Lib.hid k3
      have zk := Boxed.lt k3
      clear bw1 k1 k2 k3
      go_wp2_with (fail)
      refine L1.out.mono ?_
      rintro e w4 ⟨rfl, rfl⟩
      go_wp2_with (fail)
      generalize hw4 : W1.alloc (Obj.cells #[Value.string ⟨bs.toArray⟩] 9) = w4
      have hBx : w4.heap[W1.heap.size]? = some (.cells #[.string ⟨bs.toArray⟩] 9 (0, 0)) := by rw [← hw4]; exact World.alloc_heap_new _ _
      have hss : (⟨bs.toArray⟩ : ByteArray).size = bs.length := by show bs.toArray.size = _; simp
      have hit := lines_iter W1.heap.size ⟨bs.toArray⟩ (0, 0) w4 (by rw [hss]; omega) hBx
      rw [show (⟨bs.toArray⟩ : ByteArray).data.toList = bs from by simp] at hit
      have hbw4 : Below W1.heap.size W1 w4 := by rw [← hw4]; exact (Below.refl _ _).alloc (Nat.le_refl _) _
      have hlt4 : W1.heap.size < w4.heap.size := heap_lt hBx
      have i0 : LnI w n [] w4 := ⟨by simpa using Boxed.below K1.out hbw4 (Boxed.lt K1.out), Boxed.below K2.out hbw4 (Boxed.lt K2.out), Boxed.below K3.out hbw4 (Boxed.lt K3.out), BW.out.trans (hbw4.mono BW.out.size), by simp; omega⟩
      clear hw4 L1 hss
      refine wp_rangeFunc_iter rfl (enters_of Tryd.func74 (by kernel_rfl) rfl) hit (by simpa using hlt4) (fun _ => rfl)
        (LnI w n) (LnX w bs n) (LnI.abide (by omega)) (fun c => LnX.abide (by omega) c) i0 ?body ?done ?stop
      case body =>
        intro l pre x W W' hpre hlt hlt' hI hI'
        apply Exists.intro
        constructor
        · intro K hK
          simp only [lineRow]
          gi_wp2
          exact hK
        obtain ⟨j1, j2, j3, j4, j5⟩ := hI'
        have a1 := Boxed.cell j1
        have f1 := Boxed.frozen j1
        have a2 := Boxed.cell j2
        have f2 := Boxed.frozen j2
        have a3 := Boxed.cell j3
        have f3 := Boxed.frozen j3
        have hjl := Boxed.lt j1
        have hjl2 := Boxed.lt j2
        have hjl3 := Boxed.lt j3
        by_cases hz : n - (pre.length : Int) = 1
        · have hx : lineAt bs n = (⟨bs.toArray⟩ : ByteArray).extract x.1 x.2 := by
            obtain ⟨tl, htl⟩ := hpre
            unfold lineAt
            rw [show (n - 1).toNat = pre.length by omega, ← htl]
            simp
          have HX := Lib.hid hx
          have HZ := Lib.hid hz
          have ez : ((n - (pre.length : Int) - 1) == 0) = true := by simp; omega
          have J1 := Lib.hid j1
          have J2 := Lib.hid j2
          have J3 := Lib.hid j3
          clear hz hx j1 j2 j3
          gi_wp2
          refine ⟨?_, rfl, ?_, ?_, ?_⟩
          · exact ((Boxed.keeps J1.out _).trans (Boxed.keeps (Boxed.other J2.out (show w.heap.size + 1 ≠ w.heap.size by omega) _) _)).trans (Boxed.keeps (Boxed.other (Boxed.other J3.out (show w.heap.size + 2 ≠ w.heap.size by omega) _) (show w.heap.size + 2 ≠ w.heap.size + 1 by omega) _) _)
          · rw [HX.out]
            exact Boxed.other (Boxed.set _ (Boxed.other J2.out (by omega) _)) (by omega) _
          · exact Boxed.set _ (Boxed.other (Boxed.other J3.out (by omega) _) (by omega) _)
          · exact ((j4.setCell (p := ⟨w.heap.size, 0, none⟩) (Nat.le_refl _) _).setCell (p := ⟨w.heap.size + 1, 0, none⟩) (Nat.le_succ _) _).setCell (p := ⟨w.heap.size + 2, 0, none⟩) (Nat.le_add_right _ 2) _
        · have ez : ((n - (pre.length : Int) - 1) == 0) = false := by simp; omega
          have J1 := Lib.hid j1
          have J2 := Lib.hid j2
          have J3 := Lib.hid j3
          clear j1 j2 j3
          gi_wp2
          refine ⟨Boxed.keeps J1.out _, (SameAt.refl _ _).setCell _ _ (by simp; omega), ?_, Boxed.other J2.out (by omega) _, Boxed.other J3.out (by omega) _, j4.setCell (p := ⟨w.heap.size, 0, none⟩) (Nat.le_refl _) _, by simp; omega⟩
          have := Boxed.set (.int .i64 (n - (pre.length : Int) - 1)) J1.out
          rw [show (n - (pre ++ [x]).length : Int) = n - (pre.length : Int) - 1 by simp; omega]
          exact this
      case done =>
        rintro D W hD ⟨j1, j2, j3, j4, j5⟩ hDf
        exfalso
        have := HLC.out
        omega
      case stop =>
        rintro D c pre W hD hpre hne ⟨rfl, j2, j3, j4⟩ hDf
        have q2 := Boxed.putObj j2 (.deferred none) (D := D) (by have := Boxed.lt j2; omega)
        have q3 := Boxed.putObj j3 (.deferred none) (D := D) (by have := Boxed.lt j3; omega)
        go_wp2
        exact marks_ret rfl hDf (line_res rfl rfl (Boxed.cell q2) (Boxed.cell q3)) ⟨line_fin (line_yes (by have := HLC.out; omega)), below_putObj j4 (by omega) _⟩
    · have a1 := Boxed.cell k2
      have f1 := Boxed.frozen k2
      have a2 := Boxed.cell k3
      have f2 := Boxed.frozen k3
      have hno : ¬ (1 ≤ n ∧ n ≤ (lines bs).length) := by have := HLC.out; omega
      have K2 := Lib.hid k2
      have K3 := Lib.hid k3
      clear k1 k2 k3
      go_wp2_with (fail)
      exact marks_ret0 rfl (line_res rfl rfl (Boxed.cell (Boxed.other (Boxed.set _ K2.out) (by omega) _)) (Boxed.cell (Boxed.set _ (Boxed.other K3.out (by omega) _)))) ⟨line_fin (line_no hno), (bw1.setCell (p := ⟨w.heap.size + 1, 0, none⟩) (Nat.le_succ _) _).setCell (p := ⟨w.heap.size + 2, 0, none⟩) (Nat.le_add_right _ 2) _⟩
end Go.Proofs.YtnepdjgbfhakmaaDoor
