/- TreeRounds: the walk. -/
import Derived.Test.YtnepdjgbfhakmaaDoorTreeG
import Derived.Test.YtnepdjgbfhakmaaDoorTreeE
import Derived.Test.YtnepdjgbfhakmaaDoorTreeS
import Derived.Test.YtnepdjgbfhakmaaDoorTreeK3
import Derived.Test.YtnepdjgbfhakmaaDoorTreeH3
namespace Go.Proofs.YtnepdjgbfhakmaaDoor
set_option linter.unusedVariables false
set_option linter.unusedSimpArgs false
open Go.RowKit Go.Shelf
attribute [local go_sem] Oper.semAt_some

theorem ok_of_small {T : List Nd} (hok : ∀ x ∈ T, x.ok) (h : greatB 3000 T = false) : TreeOk T := by
  obtain ⟨h1, h2⟩ := great_small h
  exact ⟨by omega, fun x hx => ⟨hok x hx, by have := (h2 x hx).2; omega, by have := (h2 x hx).1; omega⟩⟩

theorem subT_len (T : List Nd) (m : Nat) : (subT T m).length ≤ T.length := by unfold subT cutT; simp; omega
theorem subT_kids {T : List Nd} {m : Nat} {x : Nd} (h : x ∈ subT T m) : ∃ y ∈ T, x.kids.length = y.kids.length := by
  unfold subT cutT at h
  obtain ⟨y, hy, rfl⟩ := List.mem_map.1 h
  exact ⟨y, List.mem_of_mem_drop (List.mem_of_mem_take hy), by simp [moveNd]⟩
theorem sumL_le {b : Nat} : ∀ (Ks : List (List Nd)), (∀ K ∈ Ks, K.length ≤ b) → sumL Ks ≤ Ks.length * b
  | [], _ => by simp [sumL]
  | K :: Ks, h => by
    have h1 := h K (List.mem_cons_self ..)
    have h2 := sumL_le Ks fun L hL => h L (List.mem_cons_of_mem _ hL)
    rw [sumL, List.length_cons, Nat.succ_mul]
    omega
theorem subs_small {T : List Nd} {ks : List Int} (h : T.length ≤ 60) (hk : ks.length ≤ 3000) (hT : TreeOk T) : Small (ks.map fun q => subT T q.toNat) := by
  refine ⟨by simp; omega, ?_, fun K hK x hx => ?_⟩
  · have := sumL_le (b := 60) (ks.map fun q => subT T q.toNat) (fun K hK => by
      obtain ⟨q, _, rfl⟩ := List.mem_map.1 hK
      have := subT_len T q.toNat
      omega)
    rw [List.length_map] at this
    omega
  · obtain ⟨q, _, rfl⟩ := List.mem_map.1 hK
    obtain ⟨y, hy, he⟩ := subT_kids hx
    have := (hT.2 y hy).2.2
    omega
theorem subT_lens {T : List Nd} (hT : TreeOk T) (m : Nat) : Lens (subT T m) :=
  ⟨by have := subT_len T m; have := hT.1; omega, fun x hx => by
    obtain ⟨y, hy, he⟩ := subT_kids hx
    have := (hT.2 y hy).2.2
    omega⟩

/-- A tree of the call's own, laid into a new box. -/
def Boxed (w : World) (T : List Nd) (q : Nat) (v : Value) (w' : World) : Prop := ∃ KS, w'.heap[q]? = some (.cells #[v] 59 (0, 0)) ∧ OwnT w.heap.size w' v T KS ∧ Below w.heap.size w w'
theorem boxed_old {w W6 : World} {B q : Nat} {v : Value} {T : List Nd} {KS : List (Option Addr × Nat)} (h : OwnT B W6 v T KS) (b : Below w.heap.size w W6) (hB : w.heap.size ≤ B) (hq : W6.heap[q]? = some (.cells #[.slice none 0 0] 59 (0, 0))) (hn : w.heap.size ≤ q) :
    Boxed w T q v (W6.setCell ⟨q, 0, none⟩ v) := by
  have g8 := set_grown W6 q 0 v
  refine ⟨KS, ?_, ?_, b.setCell hn _⟩
  · simpa using heap_setCell_same W6 q 0 _ _ v hq
  · exact OwnT.mono ⟨h.1.kept g8 (row_apart h.1 hq typesApart3), h.2.1, fun i x p hx hp => (h.2.2 i x p hx hp).kept g8 (row_apart (h.2.2 i x p hx hp) hq typesApart2)⟩ hB
theorem boxed_new {w W6 : World} {B : Nat} {v : Value} {T : List Nd} {KS : List (Option Addr × Nat)} (h : OwnT B W6 v T KS) (b : Below w.heap.size w W6) (hB : w.heap.size ≤ B) :
    Boxed w T W6.heap.size v (W6.alloc (.cells #[v] 59)) :=
  ⟨KS, World.alloc_heap_new W6 _, (h.below ((Below.refl _ _).alloc (Nat.le_refl _) _)).mono hB, b.alloc b.size _⟩

set_option maxRecDepth 100000 in
set_option maxHeartbeats 4000000 in
theorem treeRounds_walk (A : Option Addr) (c : Nat) (T : List Nd) (w : World) (hl : T.length ≤ 140737488351232) (hok : ∀ x ∈ T, x.ok) (hcap : T.length ≤ c) (hA : TreeAt w A T) (hm : MxLen w) :
    Calls Tryd.prog 14 #[treeV A T.length c] w fun e w' => e = .returned (.bool true) ∧ Below w.heap.size w w' := by
  obtain ⟨W1, hW1⟩ : ∃ W1, w.alloc (.cells #[.slice A T.length c] 59) = W1 := ⟨_, rfl⟩
  have b1 : Below w.heap.size w W1 := by rw [← hW1]; exact (Below.refl _ _).alloc (Nat.le_refl _) _
  have v0 : W1.heap[w.heap.size]? = some (.cells #[.slice A T.length c] 59 (0, 0)) := by rw [← hW1]; exact World.alloc_heap_new w _
  have t0 : W1.cell? ⟨w.heap.size, 0, none⟩ = some (.slice A T.length c) := by simp [World.cell?, v0]
  have hgr := great3_calls A c T W1 hl hok (hA.below b1)
  obtain ⟨gb, hgb⟩ : ∃ gb, greatB 3000 T = gb := ⟨_, rfl⟩
  rw [hgb] at hgr
  obtain ⟨ti, hi, hz0, hz1, hz2⟩ := info_parts infoTree
  have HF := Lib.hid (And.intro hi (And.intro hz0 (And.intro hz1 hz2)))
  clear hi hz0 hz1 hz2
  have HGR := Lib.hid hgr
  have HGB := Lib.hid hgb
  have HW1 := Lib.hid hW1
  have HB1 := Lib.hid b1
  have HV0 := Lib.hid v0
  have HA := Lib.hid hA
  have HM := Lib.hid hm
  have HOK := Lib.hid hok
  clear hgr hgb hW1 b1 v0 hA hm hok
  go_enter Tryd.func14, Tryd.ntmps14
  go_upto_region 1 with (fail)
  rw [HW1.out]
  go_wp2_with (fail)
  refine HGR.out.mono ?_
  rintro e W2 ⟨rfl, b2⟩
  have hlow := HB1.out.trans (b2.mono HB1.out.size)
  have w0 := (b2.block _ (Array.getElem?_eq_some_iff.1 HV0.out).1).trans HV0.out
  have t0 : W2.cell? ⟨w.heap.size, 0, none⟩ = some (.slice A T.length c) := by simp [World.cell?, w0]
  have HW0 := Lib.hid w0
  have HL2 := Lib.hid hlow
  clear b2 w0 hlow HGR HW1 HV0
  cases gb with
  | true =>
    go_wp2_with (fail)
    go_ret
    exact ⟨rfl, HL2.out⟩
  | false =>
    by_cases h60 : 60 < T.length
    · have e1 : (60 : Int) < (T.length : Int) := by omega
      go_wp2_with (fail)
      go_ret
      exact ⟨rfl, HL2.out⟩
    · have e1 : ¬ (60 : Int) < (T.length : Int) := by omega
      have hTO := ok_of_small HOK.out HGB.out
      have HT := Lib.hid hTO
      have hck := check_calls A c T W2 hTO (HA.out.below HL2.out) (HM.out.below HL2.out)
      have HCK := Lib.hid hck
      clear hck hTO
      go_wp2_with (fail)
      refine HCK.out.mono ?_
      rintro e W3 ⟨rfl, b3⟩
      have HL3 := Lib.hid (HL2.out.trans (b3.mono HL2.out.size))
      have w0 := (b3.block _ (Array.getElem?_eq_some_iff.1 HW0.out).1).trans HW0.out
      have t0 : W3.cell? ⟨w.heap.size, 0, none⟩ = some (.slice A T.length c) := by simp [World.cell?, w0]
      have HX0 := Lib.hid w0
      clear b3 w0 HCK HW0 HL2
      by_cases hg : checkL T = (-1, 0)
      · have hgd := (good_iff T).2 hg
        have e2 : ((checkL T).2 != 0) = false := by rw [hg]; rfl
        have HG := Lib.hid hg
        have HGD := Lib.hid hgd
        clear hg hgd
        go_wp2_with (fail)
        go_loopw [7] (fun u wr => ∃ i : Nat, u = .int .i64 i ∧ i ≤ T.length ∧ Hid (wr.heap[w.heap.size]? = some (.cells #[.slice A T.length c] 59 (0, 0))) ∧ Hid (Below w.heap.size w wr)) (fun u _ => T.length - (intOf u).toNat)
        case atStart => exact ⟨0, rfl, by omega, HX0, HL3⟩
        case round =>
          obtain ⟨i, rfl, hi, hb0, hlo⟩ := hrel
          obtain ⟨wo, rfl⟩ : ∃ wo : World, wo = wr := ⟨_, rfl⟩
          have t1 : wo.cell? ⟨w.heap.size, 0, none⟩ = some (.slice A T.length c) := by simp [World.cell?, hb0.out]
          clear t0
          by_cases hlt : i < T.length
          · obtain ⟨x, K, kc, hx, hnd⟩ := (HA.out.below hlo.out).get hlt
            obtain ⟨⟨a, rfl, c0, c1, c2, c3, c4⟩, hK⟩ := hnd
            have hget : T.getD i default = x := by simp [List.getD, hx]
            have hkids : kidsOf T i = x.kids := by unfold kidsOf; rw [hget]
            have hxl := (great_small HGB.out).2 x (List.mem_of_getElem? hx)
            have HX := Lib.hid (And.intro hget hkids)
            have HKI := Lib.hid hK
            clear hx hget hkids hK
            go_wp2_with (fail)
            go_loopw [8, 9] (fun u v wi => ∃ k : Nat, v = .int .i64 k ∧ k ≤ x.kids.length ∧ Hid (RowI wo.heap.size u ((x.kids.take k).map fun q => subT T q.toNat) wi) ∧ Hid (Below wo.heap.size wo wi)) (fun _ v _ => x.kids.length - (intOf v).toNat)
            case atStart => exact ⟨0, rfl, by omega, Lib.hid (RowI.nil _ _), Lib.hid (Below.refl _ _)⟩
            case round =>
              obtain ⟨k, rfl, hk, hR, hbi⟩ := hrel
              obtain ⟨wn, rfl⟩ : ∃ wn : World, wn = wr := ⟨_, rfl⟩
              have t2 := hbi.out.cell_keep t1
              have d3 := hbi.out.cell_keep c3
              by_cases hlk : k < x.kids.length
              · obtain ⟨a2, rfl, hcell⟩ := ints_at HKI.out k hlk
                have d4 := hbi.out.cell_keep hcell
                obtain ⟨m, hm, q1, q2⟩ := HGD.out.kid hlt (show x.kids.getD k 0 ∈ kidsOf T i by
                  rw [HX.out.2]; rw [List.getD, List.getElem?_eq_getElem hlk]; exact List.getElem_mem hlk)
                rw [hm] at d4
                have hwi : withinB T.length (m : Int) = true := by unfold withinB; simp; omega
                have hse : subE T m = 0 := by unfold subE; rw [if_pos HG.out, if_pos hwi]
                have hsl : subL T m = subT T m := by unfold subL subOk; rw [HG.out, hwi]; simp
                have hwn := hlo.out.trans (hbi.out.mono hlo.out.size)
                have bd1 : Below wn.heap.size wn wn.drew := (Below.refl _ _).drew
                have bd2 : Below wn.heap.size wn (wn.alloc (.cells #[.slice none 0 0] 59)).drew := ((Below.refl _ _).alloc (Nat.le_refl _) _).drew
                have ba : Below wn.heap.size wn (wn.alloc (.cells #[.slice none 0 0] 59)) := (Below.refl _ _).alloc (Nat.le_refl _) _
                have t5 := ba.cell_keep t2
                have d5 := ba.cell_keep d3
                have d6 := ba.cell_keep d4
                clear ba
                have hnew : (wn.alloc (.cells #[.slice none 0 0] 59)).drew.heap[wn.heap.size]? = some (.cells #[.slice none 0 0] 59 (0, 0)) := World.alloc_heap_new wn _
                have HNEW := Lib.hid hnew
                have hsb : ∀ V, Below wn.heap.size wn V → Calls Tryd.prog 52 #[.agg #[.slice (some a) T.length c], .int .i64 (m : Int)] V fun e w' => ∃ v KS, e = .returned (.tuple #[.agg #[v], .int .i64 0]) ∧ OwnT V.heap.size w' v (subT T m) KS ∧ Below V.heap.size V w' := fun V hV => by
                  have hld := hwn.trans (hV.mono hwn.size)
                  have := sub_calls (some a) c T m V HT.out hcap (HA.out.below hld) (HM.out.below hld)
                  unfold SubEnd at this
                  rwa [hse, hsl] at this
                have HSB := Lib.hid hsb
                have i0 : (0 : Int) ≤ (i : Int) := by omega
                have i1 : (i : Int) < (T.length : Int) := by omega
                have i2 : (0 : Int) ≤ (k : Int) := by omega
                have i3 : (k : Int) < (x.kids.length : Int) := by omega
                have HMV := Lib.hid (And.intro hm q2)
                have HWN := Lib.hid hwn
                have BD1 := Lib.hid bd1
                have BD2 := Lib.hid bd2
                clear hwn bd1 bd2 hnew hwi hse hsl hsb hcell hm c0 c1 c2 c4
                go_upto_region 14 with (fail)
                go_cut [10, 11] (fun v10 v11 wc => ∃ (q : Nat) (A6 : Option Addr) (c6 : Nat), v10 = .pointer (some ⟨q, 0, none⟩) ∧ v11 = .int .i64 0 ∧ Boxed wn (subT T m) q (.slice A6 (subT T m).length c6) wc)
                case first =>
                  go_region_law
                    (go_simp; go_at_call 52; (first
                      | (refine (HSB.out _ BD1.out).mono ?_; rintro e W6 ⟨v6, KS6, rfl, h6, b6⟩; obtain ⟨A6, c6, rfl, _⟩ := own_cells h6.1; have H6 := Lib.hid h6; have B6 := Lib.hid (BD1.out.trans (b6.mono BD1.out.size)); clear h6 b6)
                      | (refine (HSB.out _ BD2.out).mono ?_; rintro e W6 ⟨v6, KS6, rfl, h6, b6⟩; obtain ⟨A6, c6, rfl, _⟩ := own_cells h6.1; have H6 := Lib.hid h6; have B6 := Lib.hid (BD2.out.trans (b6.mono BD2.out.size)); have n6 := (b6.block _ (Array.getElem?_eq_some_iff.1 HNEW.out).1).trans HNEW.out; have HN6 := Lib.hid n6; have r6 : W6.cell? ⟨wn.heap.size, 0, none⟩ = some (.slice none 0 0) := (by simp [World.cell?, n6]); have f6 : W6.frozen? ⟨wn.heap.size, 0, none⟩ = false := (by simp [World.frozen?, n6]); clear h6 b6 n6)))
                  all_goals
                    go_wp2_with (fail)
                    go_meet
                    first
                      | exact ⟨_, A6, c6, rfl, rfl, boxed_new H6.out B6.out (by simp)⟩
                      | exact ⟨_, A6, c6, rfl, rfl, boxed_old H6.out B6.out (by simp) HN6.out (Nat.le_refl _)⟩
                case rest =>
                  obtain ⟨q, A6, c6, rfl, rfl, KS6, n0, hO6, b6⟩ := hcut
                  obtain ⟨vs, hR1, hR2⟩ := hR.out
                  have q0 : wc.cell? ⟨q, 0, none⟩ = some (.slice A6 (subT T m).length c6) := by simp [World.cell?, n0]
                  have hlen : ((x.kids.take k).map fun q => subT T q.toNat).length = k := by simp; omega
                  rw [hlen] at hR1
                  have ho5 := (own_below' hR1 b6).alloc (.cells #[.slice A6 (subT T m).length c6] 59)
                  have k5 : Cells (wc.alloc (.cells #[.slice A6 (subT T m).length c6] 59)) (some ⟨wc.heap.size, 0, none⟩) [.slice A6 (subT T m).length c6] := cells_fresh _ _ _ _
                  have hbw5 : Below wo.heap.size wo (wc.alloc (.cells #[.slice A6 (subT T m).length c6] 59)) := (hbi.out.trans (b6.mono hbi.out.size)).alloc (by have := hbi.out.size; have := b6.size; omega) _
                  have HR1 := Lib.hid (own_below' hR1 b6)
                  have HR2 := Lib.hid (hR2.below b6)
                  have HO5 := Lib.hid ho5
                  have HO6 := Lib.hid hO6
                  have HB5 := Lib.hid hbw5
                  have HLN := Lib.hid hlen
                  have mx : maxLen = 9223372036854775807 := rfl
                  clear hR1 hR2 ho5 hO6 hbw5 hlen n0 b6 hR hbi
                  go_wp2_with (at_builtin; refine wpList_append_cells _ rfl _ _ 55 rfl wo.heap.size 59 ti (.agg #[.slice none 0 0]) 1 24 Tryd.underlying55 HF.out.1 HF.out.2.1 HF.out.2.2.1 HF.out.2.2.2 rfl (by decide) u8 k vs rfl HO5.out _ 1 1 [.slice A6 (subT T m).length c6] rfl (by rfl) k5 (fun h => by cases h) (by simp; rfl) ?c3 ?c4 ?c5 ?_)
                  case c3 => omega
                  case c4 => omega
                  case c5 => exact HB5.out.size
                  intro v6 W7 o6 g6
                  have hp := RowI.push _ (by rw [HLN.out]; exact HR1.out) HR2.out HO6.out (by rw [HLN.out]; exact o6) g6
                  have hb7 : Below wo.heap.size wo W7 := HB5.out.grown g6 HB5.out.size (fun q hq => (HO5.out.lt q hq).1)
                  have HP := Lib.hid hp
                  have HB7 := Lib.hid hb7
                  clear hp hb7 o6 g6 k5
                  go_wp2_with (fail)
                  refine ⟨⟨k + 1, by simp, by omega, ?_, HB7⟩, by simp [intOf]; omega⟩
                  have := HP.out
                  have e5 : subT T m = subT T (x.kids.getD k 0).toNat := by rw [HMV.out.1, Int.toNat_natCast]
                  rw [e5, ← take_succ_map (l := x.kids) (fun q => subT T q.toNat) (by rw [List.getD, List.getElem?_eq_getElem hlk]; rfl)] at this
                  exact Lib.hid this
              · have hkl : k = x.kids.length := by omega
                obtain ⟨vs, hR1, _⟩ := hR.out
                obtain ⟨R, rc, rfl, _⟩ := own_cells hR1
                obtain ⟨_, hfo⟩ := hR.out.forest
                rw [hkl, List.take_length] at hfo
                have hlen : ((x.kids.take k).map fun q => subT T q.toNat).length = x.kids.length := by rw [hkl]; simp
                rw [hlen]
                have e3 : ¬ (k : Int) < (x.kids.length : Int) := by omega
                have hwi : withinB T.length (i : Int) = true := by unfold withinB; simp; omega
                have hse : subE T i = 0 := by unfold subE; rw [if_pos HG.out, if_pos hwi]
                have hsl : subL T i = subT T i := by unfold subL subOk; rw [HG.out, hwi]; simp
                have hwn := hlo.out.trans (hbi.out.mono hlo.out.size)
                have hsb := sub_calls (some a) c T i wn HT.out hcap (HA.out.below hwn) (HM.out.below hwn)
                unfold SubEnd at hsb
                rw [hse, hsl] at hsb
                have hrl := round_law (T := T) (by have := HT.out.1; omega) HGD.out i hlt
                rw [HX.out.1, HX.out.2] at hrl
                have HSB := Lib.hid hsb
                have HRL := Lib.hid hrl
                have HFO := Lib.hid hfo
                have HWN := Lib.hid hwn
                clear hlen hwi hse hsl hwn hsb hrl hfo hR1 hR
                go_upto_region 18 with (fail)
                go_wp2_with (fail)
                refine HSB.out.mono ?_
                rintro e W4 ⟨v4, KS4, rfl, h4, b4⟩
                obtain ⟨A4, c4', rfl, _⟩ := own_cells h4.1
                obtain ⟨V4, hV4⟩ : ∃ V4, W4.alloc (.cells #[.slice A4 (subT T i).length c4'] 59) = V4 := ⟨_, rfl⟩
                have hb4 : Below wn.heap.size wn V4 := by rw [← hV4]; exact b4.alloc b4.size _
                have hbo := hbi.out.trans (hb4.mono hbi.out.size)
                have htr := (own_tree h4).2.2.2.1.below (show Below W4.heap.size W4 V4 by rw [← hV4]; exact (Below.refl _ _).alloc (Nat.le_refl _) _)
                have x1 := hb4.cell_keep t2
                have y0 := hbo.cell_keep c0
                have y1 := hbo.cell_keep c1
                have y2 := hbo.cell_keep c2
                have y3 := hbo.cell_keep c3
                have y4 := hbo.cell_keep c4
                have r4 : V4.cell? ⟨W4.heap.size, 0, none⟩ = some (.slice A4 (subT T i).length c4') := by rw [← hV4]; simp [World.cell?_alloc_new]
                have lr4 : W4.heap.size < V4.heap.size := by rw [← hV4]; simp
                have HV4 := Lib.hid hV4
                have HBO := Lib.hid hbo
                have HTR := Lib.hid htr
                have HF4 := Lib.hid (HFO.out.below hb4)
                have HWV := Lib.hid (HWN.out.trans (hb4.mono HWN.out.size))
                clear h4 b4 hV4 hb4 hbo htr HSB t2 d3
                have i0 : (0 : Int) ≤ (i : Int) := by omega
                have i1 : (i : Int) < (T.length : Int) := by omega
                have hmk := make_calls x K x.kids.length kc R rc (x.kids.map fun q => subT T q.toNat) V4.drew (subs_small (by omega) (by omega) HT.out) (HF4.out.below (Below.refl _ _).drew)
                rw [HRL.out, List.length_map] at hmk
                unfold MakeEnd at hmk
                have HMK := Lib.hid hmk
                clear hmk
                have HTOK := Lib.hid HT.out
                go_upto_region 19 with (fail)
                rw [HV4.out]
                go_region_law
                  (first
                    | (go_simp; go_at_call 41; refine HMK.out.mono ?_; rintro e W6 ⟨v6, KS6, rfl, h6, b6⟩; obtain ⟨A6, c6, rfl, _⟩ := own_cells h6.1; have T6 := Lib.hid (own_tree h6).2.2.2.1; have bd6 := (show Below V4.heap.size V4 W6 from (Below.refl _ _).drew.trans b6); have B6 := Lib.hid bd6; have r6 := bd6.cell_keep r4; clear h6 b6 bd6)
                    | (go_simp; go_at_call 50; refine (same_calls A6 c6 (subT T i) A4 c4' (subT T i) W6 (subT_lens HTOK.out i) (subT_lens HTOK.out i) T6.out (HTR.out.below B6.out)).mono ?_; rintro e W7 ⟨rfl, b7⟩; have e7 := sameL_refl (subT T i); have B7 := Lib.hid (B6.out.trans (b7.mono B6.out.size)); clear b7))
                all_goals
                  go_wp2_with (fail)
                  have hq := (HBO.out.trans (B7.out.mono HBO.out.size)).block _ (Array.getElem?_eq_some_iff.1 hb0.out).1
                  exact ⟨⟨i + 1, by simp, by omega, Lib.hid (hq.trans hb0.out), Lib.hid (HWV.out.trans (B7.out.mono HWV.out.size))⟩, by simp [intOf]; omega⟩
          · have hil : i = T.length := by omega
            have hpos : 0 < T.length := by
              rcases Nat.eq_zero_or_pos T.length with h | h
              · have hq : T = [] := List.eq_nil_of_length_eq_zero h
                have := HGD.out
                rw [hq] at this
                cases this
                rename_i hq0 _ _ _
                simp at hq0
              · exact h
            have hwi : withinB T.length 0 = true := by unfold withinB; simp; omega
            have hse : subE T 0 = 0 := by unfold subE; rw [if_pos HG.out, if_pos hwi]
            have hsl : subL T 0 = T := by
              unfold subL subOk
              rw [HG.out, hwi]
              simp only [decide_true, Bool.and_self, if_true]
              exact sub_root (by have := HT.out.1; omega) (fun x hx k hk => by
                obtain ⟨j, hj, rfl⟩ := List.getElem_of_mem hx
                obtain ⟨m, rfl, q1, q2⟩ := HGD.out.kid hj (show k ∈ kidsOf T j by simpa [kidsOf, List.getD, hj] using hk)
                omega) HGD.out
            have hsb := sub_calls A c T 0 wo HT.out hcap (HA.out.below hlo.out) (HM.out.below hlo.out)
            unfold SubEnd at hsb
            rw [hse, hsl] at hsb
            have HSB := Lib.hid hsb
            clear hwi hse hsl hsb
            go_wp2_with (fail)
            refine HSB.out.mono ?_
            rintro e W4 ⟨v4, KS4, rfl, h4, b4⟩
            obtain ⟨A4, c4, rfl, _⟩ := own_cells h4.1
            obtain ⟨V4, hV4⟩ : ∃ V4, W4.alloc (.cells #[.slice A4 T.length c4] 59) = V4 := ⟨_, rfl⟩
            have hb4 : Below wo.heap.size wo V4 := by rw [← hV4]; exact b4.alloc b4.size _
            have htr := (own_tree h4).2.2.2.1.below (show Below W4.heap.size W4 V4 by rw [← hV4]; exact (Below.refl _ _).alloc (Nat.le_refl _) _)
            have x1 := hb4.cell_keep t1
            have r4 : V4.cell? ⟨W4.heap.size, 0, none⟩ = some (.slice A4 T.length c4) := by rw [← hV4]; simp [World.cell?_alloc_new]
            have hwv := hlo.out.trans (hb4.mono hlo.out.size)
            have hln : Lens T := ⟨by have := HT.out.1; omega, fun x hx => by have := (HT.out.2 x hx).2.2; omega⟩
            have hsm := same_calls A4 c4 T A c T V4 hln hln htr (HA.out.below hwv)
            rw [sameL_refl] at hsm
            have HSM := Lib.hid hsm
            have HV4 := Lib.hid hV4
            have HWV := Lib.hid hwv
            have HKN := Lib.hid (fun V (hV : Below w.heap.size w V) => known3_calls V (HM.out.below hV))
            clear h4 b4 hV4 hb4 htr hwv hln hsm t1 HSB
            go_upto_region 22 with (fail)
            rw [HV4.out]
            go_wp2_with (fail)
            refine HSM.out.mono ?_
            rintro e W6 ⟨rfl, b6⟩
            have hl6 := HWV.out.trans (b6.mono HWV.out.size)
            have HL6 := Lib.hid hl6
            clear b6 hl6
            go_wp2_with (fail)
            refine (HKN.out _ HL6.out).mono ?_
            rintro e W7 ⟨rfl, b7⟩
            have hl7 := HL6.out.trans (b7.mono HL6.out.size)
            have HL7 := Lib.hid hl7
            clear b7 hl7
            go_wp2_with (fail)
            go_ret
            exact ⟨rfl, HL7.out⟩
      · have hz : (checkL T).2 = 7 := by
          rcases check_val T with h | h
          · exact absurd h hg
          · exact h
        have e2 : ((checkL T).2 != 0) = true := by rw [hz]; rfl
        have hsb := sub_calls A c T 0 W3 HT.out hcap (HA.out.below HL3.out) (HM.out.below HL3.out)
        have hse : subE T 0 = 7 := by unfold subE; rw [if_neg hg]
        unfold SubEnd at hsb
        rw [hse] at hsb
        have HSB := Lib.hid hsb
        clear hg hz hsb hse
        go_wp2_with (fail)
        refine HSB.out.mono ?_
        rintro e W4 ⟨v4, KS4, rfl, h4, b4⟩
        have HL4 := Lib.hid (HL3.out.trans (b4.mono HL3.out.size))
        obtain ⟨A4, c4, rfl, _⟩ := own_cells h4.1
        have hl5 := (HL4.out.alloc HL4.out.size (.cells #[.slice A4 (subL T 0).length c4] 59))
        have HK := Lib.hid (fun V (hV : Below w.heap.size w V) => known3_calls V (HM.out.below hV))
        clear h4 b4 HSB
        go_wp2_with (fail)
        refine (HK.out _ hl5).mono ?_
        rintro e W6 ⟨rfl, b6⟩
        have hl6 := hl5.trans (b6.mono hl5.size)
        have HL6 := Lib.hid hl6
        clear b6 hl6
        go_wp2_with (fail)
        go_ret
        exact ⟨rfl, HL6.out⟩
end Go.Proofs.YtnepdjgbfhakmaaDoor
