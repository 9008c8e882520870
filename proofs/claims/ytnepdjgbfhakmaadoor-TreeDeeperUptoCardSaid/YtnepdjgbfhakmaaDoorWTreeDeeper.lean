/- TreeDeeper: the walk. -/
import Derived.Test.YtnepdjgbfhakmaaDoorTp10
import Derived.Test.YtnepdjgbfhakmaaDoorTreeK3
import Derived.Test.YtnepdjgbfhakmaaDoorTreeH3
namespace Go.Proofs.YtnepdjgbfhakmaaDoor
set_option linter.unusedVariables false
set_option linter.unusedSimpArgs false
open Go.RowKit Go.Shelf
attribute [local go_sem] Oper.semAt_some

theorem mostL_bound (Ks : List (List Nd)) {b : Nat} (h : ∀ K ∈ Ks, K.length ≤ b) : -1 ≤ mostL Ks ∧ mostL Ks ≤ b :=
  ⟨foldl_max_ge _ _, foldl_max_le _ _ (by omega) fun x hx => by
    obtain ⟨K, hK, rfl⟩ := List.mem_map.1 hx
    have := (depthT_le (K := K)).2
    have := h K hK
    omega⟩
theorem sumL_bound {b : Nat} : ∀ (Ks : List (List Nd)), (∀ K ∈ Ks, K.length ≤ b) → sumL Ks ≤ Ks.length * b
  | [], _ => by simp [sumL]
  | K :: Ks, h => by
    have h1 := h K (List.mem_cons_self ..)
    have h2 := sumL_bound Ks fun L hL => h L (List.mem_cons_of_mem _ hL)
    rw [sumL, List.length_cons, Nat.succ_mul]
    omega
theorem take_snoc {α : Type} {l : List α} {i : Nat} {x : α} (h : l[i]? = some x) : l.take (i + 1) = l.take i ++ [x] := by
  obtain ⟨hi, rfl⟩ := List.getElem?_eq_some_iff.1 h
  exact List.take_succ_eq_append_getElem hi
theorem mem_take_snoc {α : Type} {l : List α} {i : Nat} {x : α} {P : α → Prop} (h : l[i]? = some x) (hp : ∀ y ∈ l.take i, P y) (hx : P x) : ∀ y ∈ l.take (i + 1), P y := fun y hy => by
  rw [take_snoc h] at hy
  rcases List.mem_append.1 hy with h1 | h1
  · exact hp y h1
  · rw [List.mem_singleton.1 h1]; exact hx

set_option maxRecDepth 100000 in
set_option maxHeartbeats 4000000 in
theorem treeDeeper_walk (G : Option Addr) (gc : Nat) (Ks : List (List Nd)) (w : World) (hl : Ks.length ≤ 2000000) (hok : ∀ K ∈ Ks, TreeOk K) (hF : Forest w G Ks) (hm : MxLen w) :
    Calls Tryd.prog 12 #[.slice G Ks.length gc] w fun e w' => e = .returned (.bool true) ∧ Below w.heap.size w w' := by
  have HKN := Lib.hid (fun V (hV : Below w.heap.size w V) => known3_calls V (hm.below hV))
  have HOK := Lib.hid hok
  have HF := Lib.hid hF
  have HM := Lib.hid hm
  clear hok hF hm
  go_enter Tryd.func12, Tryd.ntmps12
  go_wp2_with (fail)
  go_loopw [3, 4, 5] (fun v3 v4 v5 wr => ∃ i : Nat, v5 = .int .i64 i ∧ i ≤ Ks.length ∧ v3 = .int .i64 (1 + (sumL (Ks.take i) : Int)) ∧ v4 = .int .i64 (mostL (Ks.take i)) ∧ (0 < i → Ks.length ≤ 6) ∧ Hid (∀ K ∈ Ks.take i, GoodT K ∧ K.length ≤ 3000) ∧ Hid (Below w.heap.size w wr)) (fun _ _ v _ => Ks.length - (intOf v).toNat)
  case atStart => exact ⟨0, rfl, by omega, by simp [sumL], by simp [mostL], fun h => absurd h (by omega), Lib.hid (fun K hK => by simp at hK), Lib.hid (Below.refl _ _)⟩
  case round =>
    obtain ⟨i, rfl, hi, rfl, rfl, h6, hG, hb⟩ := hrel
    obtain ⟨wo, rfl⟩ : ∃ wo : World, wo = wr := ⟨_, rfl⟩
    by_cases hlt : i < Ks.length
    · obtain ⟨K, hK⟩ : ∃ K, Ks[i]? = some K := ⟨_, List.getElem?_eq_getElem hlt⟩
      obtain ⟨a, A, c, rfl, hc0, hT0⟩ := HF.out i K hK
      have hc := hb.out.cell_keep hc0
      have hKm := List.mem_of_getElem? hK
      have hTO := HOK.out K hKm
      have HCK := Lib.hid (check_calls A c K wo hTO (hT0.below hb.out) (HM.out.below hb.out))
      have HGR := Lib.hid (fun V (hV : Below w.heap.size w V) => great3_calls A c K V (by have := hTO.1; omega) (fun x hx => (hTO.2 x hx).1) (hT0.below hV))
      have HDP := Lib.hid (fun V (hV : Below w.heap.size w V) => depth_calls A c K V hTO (hT0.below hV) (HM.out.below hV))
      have HT := Lib.hid hTO
      have HKI := Lib.hid hK
      have i0 : (0 : Int) ≤ (i : Int) := by omega
      have i1 : (i : Int) < (Ks.length : Int) := by omega
      clear hc0 hT0 hKm hTO hK
      go_wp2_with (fail)
      refine HCK.out.mono ?_
      rintro e W2 ⟨rfl, b2⟩
      have c2 := b2.cell_keep hc
      have HB2 := Lib.hid (hb.out.trans (b2.mono hb.out.size))
      clear b2 hc hb HCK
      go_wp2_with (fail)
      refine (HGR.out W2 HB2.out).mono ?_
      rintro e W3 ⟨rfl, b3⟩
      have c3 := b3.cell_keep c2
      have HB3 := Lib.hid (HB2.out.trans (b3.mono HB2.out.size))
      clear b3 c2 HB2 HGR
      obtain ⟨gb, hgb⟩ : ∃ gb, greatB 3000 K = gb := ⟨_, rfl⟩
      rw [hgb]
      have HGB := Lib.hid hgb
      clear hgb
      cases gb with
      | true =>
        go_wp2_with (fail)
        refine (HKN.out W3 HB3.out).mono ?_
        rintro e W4 ⟨rfl, b4⟩
        have HB4 := Lib.hid (HB3.out.trans (b4.mono HB3.out.size))
        clear b4
        go_wp2_with (fail)
        go_ret
        exact ⟨rfl, HB4.out⟩
      | false =>
        by_cases hg : checkL K = (-1, 0)
        · have e2 : ((checkL K).2 != 0) = false := by rw [hg]; rfl
          have HGD := Lib.hid ((good_iff K).2 hg)
          have HCL := Lib.hid hg
          clear hg
          by_cases h7 : 6 < Ks.length
          · have e3 : (6 : Int) < (Ks.length : Int) := by omega
            go_wp2_with (fail)
            refine (HKN.out W3 HB3.out).mono ?_
            rintro e W4 ⟨rfl, b4⟩
            have HB4 := Lib.hid (HB3.out.trans (b4.mono HB3.out.size))
            clear b4
            go_wp2_with (fail)
            go_ret
            exact ⟨rfl, HB4.out⟩
          · have e3 : ¬ (6 : Int) < (Ks.length : Int) := by omega
            obtain ⟨hk1, _⟩ := great_small HGB.out
            have hb1 := sumL_bound (b := 3000) (Ks.take i) fun K hK => (hG.out K hK).2
            have hb2 := mostL_bound (b := 3000) (Ks.take i) fun K hK => (hG.out K hK).2
            rw [List.length_take] at hb1
            have hs := sumL_take Ks i K HKI.out
            have hm1 : mostL (Ks.take (i + 1)) = max (mostL (Ks.take i)) (depthT K) := by rw [take_snoc HKI.out, mostL_snoc]
            have hd := depthT_le (K := K)
            have hmin : min i Ks.length ≤ 6 := by omega
            have hsb : sumL (Ks.take i) ≤ 18000 := by omega
            have HS := Lib.hid (And.intro hs.2 hm1)
            obtain ⟨sm, hsm⟩ : ∃ n, sumL (Ks.take i) = n := ⟨_, rfl⟩
            obtain ⟨mo, hmo⟩ : ∃ n, mostL (Ks.take i) = n := ⟨_, rfl⟩
            rw [hsm] at hsb HS ⊢
            rw [hmo] at hb2 HS ⊢
            clear hb1 hs hm1 hsm hmo
            go_wp2_with (fail)
            refine (HDP.out W3 HB3.out).mono ?_
            rintro e W4 ⟨rfl, b4⟩
            have HB4 := Lib.hid (HB3.out.trans (b4.mono HB3.out.size))
            clear b4 c3
            go_wp2_with (fail)
            refine ⟨⟨i + 1, by simp, by omega, ?_, ?_, fun _ => by omega, Lib.hid (mem_take_snoc HKI.out hG.out ⟨HGD.out, hk1⟩), HB4⟩, by simp [intOf]; omega⟩
            · rw [HS.out.1]
              simp
              omega
            · rw [HS.out.2]
        · have hz : (checkL K).2 = 7 := by
            rcases check_val K with h | h
            · exact absurd h hg
            · exact h
          have e2 : ((checkL K).2 != 0) = true := by rw [hz]; rfl
          clear hz hg
          go_wp2_with (fail)
          refine (HKN.out W3 HB3.out).mono ?_
          rintro e W4 ⟨rfl, b4⟩
          have HB4 := Lib.hid (HB3.out.trans (b4.mono HB3.out.size))
          clear b4
          go_wp2_with (fail)
          go_ret
          exact ⟨rfl, HB4.out⟩
    · have hil : i = Ks.length := by omega
      have h66 : Ks.length ≤ 6 := by omega
      have hgl := hG.out
      rw [hil, List.take_length] at hgl ⊢
      have hb1 := sumL_bound (b := 3000) Ks fun K hK => (hgl K hK).2
      have hb2 := mostL_bound (b := 3000) Ks fun K hK => (hgl K hK).2
      have hgl2 : ∀ K ∈ Ks, GoodT K ∧ K.length ≤ 2000000 := fun K hK => ⟨(hgl K hK).1, by have := (hgl K hK).2; omega⟩
      have hlaw := deeper_law Ks hgl2 h66
      have hchk := list_good Ks hgl2 h66
      have hlen := make_len listNd Ks
      have hto : TreeOk (makeL listNd Ks) := make_ok ⟨by decide, by decide, by decide, by decide, by decide, by decide⟩ (by decide) (by omega) (by omega) HOK.out
      have hsm : Small Ks := ⟨by omega, by omega, fun K hK x hx => ((HOK.out K hK).2 x hx).2.2⟩
      have hmk := make_calls listNd none 0 0 G gc Ks wo hsm (HF.out.below hb.out)
      unfold MakeEnd at hmk
      rw [show listNd.kind = 2 from rfl, show listNd.text = ByteArray.empty from rfl, show listNd.num = 0 from rfl, show listNd.pos = 0 from rfl] at hmk
      have HMK := Lib.hid hmk
      have HTO := Lib.hid hto
      have HLW := Lib.hid (And.intro hlaw (And.intro hchk hlen))
      have hsb : sumL Ks ≤ 18000 := by omega
      obtain ⟨MT, hMT⟩ : ∃ MT, makeL listNd Ks = MT := ⟨_, rfl⟩
      obtain ⟨sm, hsm2⟩ : ∃ n, sumL Ks = n := ⟨_, rfl⟩
      obtain ⟨mo, hmo⟩ : ∃ n, mostL Ks = n := ⟨_, rfl⟩
      rw [hMT] at HMK HTO HLW
      rw [hsm2] at hsb HLW ⊢
      rw [hmo] at hb2 HLW ⊢
      have e0 : ¬ (Ks.length : Int) < (Ks.length : Int) := by omega
      clear hgl hgl2 hlaw hchk hlen hto hsm hmk hMT hsm2 hmo hG hb1
      go_wp2_with (fail)
      refine HMK.out.mono ?_
      rintro e W4 ⟨v4, KS4, rfl, h4, b4⟩
      obtain ⟨A4, c4, rfl, _⟩ := own_cells h4.1
      obtain ⟨V4, hV4⟩ : ∃ V4, W4.alloc (.cells #[.slice A4 MT.length c4] 59) = V4 := ⟨_, rfl⟩
      have hb4 : Below wo.heap.size wo V4 := by rw [← hV4]; exact b4.alloc b4.size _
      have htr := (own_tree h4).2.2.2.1.below (show Below W4.heap.size W4 V4 by rw [← hV4]; exact (Below.refl _ _).alloc (Nat.le_refl _) _)
      have r4 : V4.cell? ⟨W4.heap.size, 0, none⟩ = some (.slice A4 MT.length c4) := by rw [← hV4]; simp [World.cell?_alloc_new]
      have hwv := hb.out.trans (hb4.mono hb.out.size)
      have hck := check_calls A4 c4 MT V4 HTO.out htr (HM.out.below hwv)
      rw [HLW.out.2.1] at hck
      have HCK := Lib.hid hck
      have HDP := Lib.hid (fun V (hV : Below V4.heap.size V4 V) => depth_calls A4 c4 MT V HTO.out (htr.below hV) (HM.out.below (hwv.trans (hV.mono hwv.size))))
      have HV4 := Lib.hid hV4
      have HWV := Lib.hid hwv
      clear h4 b4 hV4 hb4 htr hwv hck HMK hb
      go_upto_region 12 with (fail)
      rw [HV4.out]
      go_wp2_with (fail)
      refine HCK.out.mono ?_
      rintro e W5 ⟨rfl, b5⟩
      have r5 := b5.cell_keep r4
      have HB5 := Lib.hid b5
      have e5 : ((MT.length : Int) == 1 + (sm : Int)) = true := by have := HLW.out.2.2; simp; omega
      clear b5 r4 HCK
      go_wp2_with (fail)
      refine (HDP.out W5 HB5.out).mono ?_
      rintro e W6 ⟨rfl, b6⟩
      have HB6 := Lib.hid (HWV.out.trans ((HB5.out.trans (b6.mono HB5.out.size)).mono HWV.out.size))
      clear b6 r5
      rw [HLW.out.1]
      have e6 : (mo + 1 == mo + 1) = true := by simp
      go_wp2_with (fail)
      refine (HKN.out W6 HB6.out).mono ?_
      rintro e W7 ⟨rfl, b7⟩
      have HB7 := Lib.hid (HB6.out.trans (b7.mono HB6.out.size))
      clear b7
      go_wp2_with (fail)
      go_ret
      exact ⟨rfl, HB7.out⟩
end Go.Proofs.YtnepdjgbfhakmaaDoor
