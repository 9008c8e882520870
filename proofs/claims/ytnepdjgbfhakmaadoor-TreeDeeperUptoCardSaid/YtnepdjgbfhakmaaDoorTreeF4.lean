/- Trees: fits. Trees: fits, whatever the kind. -/
import Derived.Test.YtnepdjgbfhakmaaDoorTreeF1
import Derived.Test.YtnepdjgbfhakmaaDoorTreeP
import Derived.Test.YtnepdjgbfhakmaaDoorTreeF2
namespace Go.Proofs.YtnepdjgbfhakmaaDoor
set_option linter.unusedVariables false
set_option linter.unusedSimpArgs false
open Go.RowKit Go.Shelf
attribute [local go_sem] Oper.semAt_some


theorem placesP_many (kd : Int) : (placesP kd).1 = true → (placesP kd).2.length = 1 := by
  by_cases h : kd ∈ placedK
  · have key : ∀ kd ∈ placedK, (placesP kd).1 = true → (placesP kd).2.length = 1 := by decide +kernel
    exact key kd h
  · intro h1
    exfalso
    simp only [placedK, List.mem_cons, List.not_mem_nil, or_false, not_or] at h
    unfold placesP at h1
    simp [h] at h1
theorem add_zero_addr (a : Addr) : a.add 0 = a := by cases a; unfold Addr.add; split <;> simp_all
theorem placesP_61 : placesP 61 = (false, [(pOf [63]), (pOr (pOf [62]) (pOf [1])), (pOr (pOf [63]) (pOf [1]))]) := by
  unfold placesP
  simp

set_option maxRecDepth 100000 in
theorem kindOf_calls (A : Option Addr) (c : Nat) (T : List Nd) (B C : Nat) (x : Nd) (K : Option Addr) (kc : Nat) (j : Nat) (w : World) (hkl : x.kids.length ≤ 2000000) (hj : j < x.kids.length) (hj0 : j ≤ 1000) (hl : T.length ≤ 2000000) (hA : TreeAt w A T) (hK : Ints w K kc x.kids) (hB : w.cell? ⟨B, 0, none⟩ = some (.slice A T.length c)) (hC : w.cell? ⟨C, 3, none⟩ = some (.slice K x.kids.length kc)) (hin : ∀ j, j < x.kids.length → kidInB T x j = true) :
    Calls Tryd.prog 103 #[.int .i64 j, .pointer (some ⟨B, 0, none⟩), .pointer (some ⟨C, 0, none⟩)] w fun e w' => e = .returned (.int .i64 (ndK T (kidN x j))) ∧ Below w.heap.size w w' := by
  obtain ⟨a2, rfl, hcell⟩ := ints_at hK j hj
  obtain ⟨m, hz, hm⟩ := within_nat (hin j hj)
  have hkn : kidN x j = m := by unfold kidN; rw [hz, Int.toNat_natCast]
  rw [hz] at hcell
  obtain ⟨y, hy, hye⟩ := nd_at hm
  have hyk : ndK T m = y.kind := by unfold ndK; rw [← hye]
  obtain ⟨_, _, ⟨a, rfl, n0, _, _, _, _⟩, _⟩ := hA m y hy
  rw [hkn, hyk]
  have i1 : (0 : Int) ≤ (j : Int) := by omega
  have i2 : (j : Int) < (x.kids.length : Int) := by omega
  have i3 : (0 : Int) ≤ (m : Int) := by omega
  have i4 : (m : Int) < (T.length : Int) := by omega
  clear hkn hyk hye hy hA hK hz hin
  go_enter Tryd.func103, Tryd.ntmps103
  go_wp2
  go_quiet (fail)
  go_wp2
  go_ret
  exact ⟨rfl, below_drewN (Below.refl _ _) _⟩


set_option maxRecDepth 100000 in
set_option maxHeartbeats 4000000 in
theorem fits_other (A : Option Addr) (c : Nat) (T : List Nd) (i : Nat) (w : World) (hT : TreeOk T) (hA : TreeAt w A T) (hi : i < T.length) (hm : MxLen w) (hkind : (T.getD i default).kind ≠ 12 ∧ (T.getD i default).kind ≠ 87) :
    Calls Tryd.prog 79 #[treeV A T.length c, .int .i64 i] w fun e w' => e = .returned (.bool (fitsT T i)) ∧ Below w.heap.size w w' := by

  obtain ⟨x, hx, hxe⟩ := nd_at hi
  have hl := hT.1
  have hxm := hT.2 x (List.mem_of_getElem? hx)
  have hkl : x.kids.length ≤ 2000000 := hxm.2.2
  have b0 : Below w.heap.size w (w.alloc (.cells #[.slice A T.length c] 59)) := (Below.refl _ _).alloc (Nat.le_refl _) _
  have t0 : (w.alloc (.cells #[.slice A T.length c] 59)).cell? ⟨w.heap.size, 0, none⟩ = some (.slice A T.length c) := by simp [World.cell?_alloc_new]
  obtain ⟨K, kc, ⟨a, rfl, c0, c1, c2, c3, c4⟩, hK⟩ := (hA.below b0) i x hx
  obtain ⟨w0, hw0⟩ : ∃ w0, w.alloc (.cells #[.slice (some a) T.length c] 59) = w0 := ⟨_, rfl⟩
  rw [hw0] at b0 t0 c0 c1 c2 c3 c4 hK
  have b1 : Below w0.heap.size w0 (w0.alloc (.cells #[.int .i64 x.kind, .string x.text, .int .i64 x.num, .slice K x.kids.length kc, .int .i64 x.pos] 54)) := (Below.refl _ _).alloc (Nat.le_refl _) _
  have d0 : (w0.alloc (.cells #[.int .i64 x.kind, .string x.text, .int .i64 x.num, .slice K x.kids.length kc, .int .i64 x.pos] 54)).cell? ⟨w0.heap.size, 0, none⟩ = some (.int .i64 x.kind) := by simp [World.cell?_alloc_new]
  have d1 : (w0.alloc (.cells #[.int .i64 x.kind, .string x.text, .int .i64 x.num, .slice K x.kids.length kc, .int .i64 x.pos] 54)).cell? ⟨w0.heap.size, 1, none⟩ = some (.string x.text) := by simp [World.cell?_alloc_new]
  have d2 : (w0.alloc (.cells #[.int .i64 x.kind, .string x.text, .int .i64 x.num, .slice K x.kids.length kc, .int .i64 x.pos] 54)).cell? ⟨w0.heap.size, 2, none⟩ = some (.int .i64 x.num) := by simp [World.cell?_alloc_new]
  have d3 : (w0.alloc (.cells #[.int .i64 x.kind, .string x.text, .int .i64 x.num, .slice K x.kids.length kc, .int .i64 x.pos] 54)).cell? ⟨w0.heap.size, 3, none⟩ = some (.slice K x.kids.length kc) := by simp [World.cell?_alloc_new]
  have d4 : (w0.alloc (.cells #[.int .i64 x.kind, .string x.text, .int .i64 x.num, .slice K x.kids.length kc, .int .i64 x.pos] 54)).cell? ⟨w0.heap.size, 4, none⟩ = some (.int .i64 x.pos) := by simp [World.cell?_alloc_new]
  have t1 := b1.cell_keep t0
  have hK1 := hK.below b1
  obtain ⟨w1, hw1⟩ : ∃ w1, w0.alloc (.cells #[.int .i64 x.kind, .string x.text, .int .i64 x.num, .slice K x.kids.length kc, .int .i64 x.pos] 54) = w1 := ⟨_, rfl⟩
  rw [hw1] at b1 d0 d1 d2 d3 d4 t1 hK1
  have b01 := b0.trans (b1.mono b0.size)
  obtain ⟨sd, hsd⟩ : ∃ sd, saidB x.kind x.text.data.toList x.num = sd := ⟨_, rfl⟩
  have hs := said_calls x.kind x.text x.num K x.kids.length kc x.pos w1 hxm.2.1 hxm.1.2.1 (hm.below b01)
  rw [hsd] at hs
  have HS := Lib.hid hs
  have HM := Lib.hid (hm.below b01)
  have hf : fitsT T i = fitsNd T x := by unfold fitsT; rw [← hxe]
  rw [← hxe] at hkind
  unfold fitsNd at hf
  rw [hsd] at hf
  have HF := Lib.hid hf
  have HKD := Lib.hid hkind
  have HB := Lib.hid b01
  have HA := Lib.hid (hA.below b01)
  have HT := Lib.hid hT
  have HK := Lib.hid hK1
  have D0 := Lib.hid d0
  have D3 := Lib.hid d3
  have T1 := Lib.hid t1
  have HW0 := Lib.hid hw0
  have HW1 := Lib.hid hw1
  have HX := Lib.hid hx
  clear hx hxe hT hA hm hxm hw0 hw1 hs hf hsd b0 b1 b01 hK hK1 hkind
  go_enter Tryd.func79, Tryd.ntmps79
  go_upto_region 1 with (fail)
  rw [HW0.out]
  go_upto_region 2 with (fail)
  rw [HW1.out]
  go_wp2_with (fail)
  refine HS.out.mono ?_
  rintro e w2 ⟨rfl, b2⟩
  have HB2 := Lib.hid b2
  clear HS d0 d1 d2 d3 d4 c0 c1 c2 c3 c4 t0 t1
  cases sd with
  | false =>
    clear b2
    go_wp2_with (fail)
    go_ret
    exact ⟨ret_val (by rw [HF.out]; rfl), HB.out.trans (HB2.out.mono HB.out.size)⟩
  | true =>
    have d3 := b2.cell_keep D3.out
    clear b2
    go_wp2_with (fail)
    go_loopw [28] (fun v wr => ∃ k : Nat, v = .int .i64 k ∧ k ≤ x.kids.length ∧ Hid (∀ j, j < k → kidInB T x j = true) ∧ Hid (Below w1.heap.size w1 wr)) (fun v _ => x.kids.length - (intOf v).toNat)
    case atStart => exact ⟨0, rfl, by omega, Lib.hid (fun j hj => absurd hj (by omega)), HB2⟩
    case round =>
      obtain ⟨k, rfl, hk, hn, hb⟩ := hrel
      by_cases hlt2 : k < x.kids.length
      · obtain ⟨a2, rfl, hcell⟩ := ints_at (HK.out.below hb.out) k hlt2
        have t1 := hb.out.cell_keep T1.out
        obtain ⟨z, hz⟩ : ∃ z, x.kids.getD k 0 = z := ⟨_, rfl⟩
        have hkb : kidInB T x k = withinB T.length z := by unfold kidInB; rw [hz]
        rw [hz] at hcell
        obtain ⟨b, hbe⟩ : ∃ b, withinB T.length z = b := ⟨_, rfl⟩
        have hwi := within_calls (some a) c T.length z wr
        rw [hbe] at hwi hkb
        have HN := Lib.hid hwi
        have HKB := Lib.hid hkb
        clear hz hkb hbe hwi
        cases b with
        | false =>
          go_wp2_with (fail)
          refine HN.out.mono ?_
          rintro e w3 ⟨rfl, b3⟩
          have hb3 := hb.out.trans (b3.mono hb.out.size)
          clear b3
          go_wp2_with (fail)
          go_ret
          refine ⟨ret_val ?_, HB.out.trans (hb3.mono HB.out.size)⟩
          rw [HF.out, range_no hlt2 HKB.out]
          rfl
        | true =>
          go_wp2_with (fail)
          refine HN.out.mono ?_
          rintro e w3 ⟨rfl, b3⟩
          have hb3 := Lib.hid (hb.out.trans (b3.mono hb.out.size))
          clear b3
          go_wp2_with (fail)
          exact ⟨⟨k + 1, by simp, by omega, Lib.hid (upto_succ hn.out HKB.out), hb3⟩, by simp [intOf]; omega⟩
      · have hkl2 : k = x.kids.length := by omega
        have hall := hn.out
        rw [hkl2] at hall
        have hf := HF.out
        rw [range_all hall, Bool.true_and, Bool.true_and] at hf
        have HIN := Lib.hid hall
        have HF2 := Lib.hid hf
        have d0 := hb.out.cell_keep D0.out
        have d3 := hb.out.cell_keep D3.out
        have t1 := hb.out.cell_keep T1.out
        have HKr := Lib.hid (HK.out.below hb.out)
        have HAr := Lib.hid (HA.out.below hb.out)
        clear hkl2 hall hf HF hn
        obtain ⟨wz, hwz⟩ : ∃ wz, wz = wr := ⟨_, rfl⟩
        subst hwz

        obtain ⟨hk12, hk87⟩ := HKD.out
        have e12 : (x.kind == 12) = false := by simpa using hk12
        have e87 : (x.kind == 87) = false := by simpa using hk87
        have hf2 := HF2.out
        rw [if_neg hk12, if_neg hk87] at hf2
        clear hk12 hk87 HF2
        by_cases hpk : x.kind ∈ placedK
        · have hp := places_calls x.kind hpk wz
          rw [if_pos hpk] at hf2
          obtain ⟨mn, hmn⟩ : ∃ mn, (placesP x.kind).1 = mn := ⟨_, rfl⟩
          obtain ⟨ps, hps⟩ : ∃ ps, (placesP x.kind).2 = ps := ⟨_, rfl⟩
          have h61 : x.kind = 61 → mn = false ∧ ps.length = 3 := fun h => by rw [← hmn, ← hps, h, placesP_61]; exact ⟨rfl, rfl⟩
          have h1m : mn = true → ps.length = 1 := by rw [← hmn, ← hps]; exact placesP_many x.kind
          rw [hmn, hps] at hp hf2
          obtain ⟨L, hL⟩ : ∃ L, ps.length = L := ⟨_, rfl⟩
          unfold PlacesEnd at hp
          rw [hL] at hp
          have HL := Lib.hid hL
          have HP := Lib.hid hp
          have HF3 := Lib.hid hf2
          have H61 := Lib.hid h61
          have H1M := Lib.hid h1m
          clear hp hf2 hpk hmn hps h61 h1m hL
          go_wp2_with (fail)
          refine HP.out.mono ?_
          rintro e w3 ⟨K2, c2, rfl, b3, hpl3⟩
          have B3 := Lib.hid b3
          have HPL3 := Lib.hid hpl3
          have g0 := b3.cell_keep d0
          have g3 := b3.cell_keep d3
          have g1 := b3.cell_keep t1
          clear b3 hpl3 HP d0 d3 t1
          cases mn with
          | true =>
            obtain rfl : L = 1 := by rw [← HL.out]; exact H1M.out (by simp)
            clear H1M
            go_wp2_with (fail)
            go_loopw [116] (fun v wr => ∃ j : Nat, v = .int .i64 j ∧ j ≤ x.kids.length ∧ Hid (∀ q, q < j → placeB T x ps q = true) ∧ Hid (Below w3.heap.size w3 wr)) (fun v _ => x.kids.length - (intOf v).toNat)
            case atStart => exact ⟨0, rfl, by omega, Lib.hid (fun j hj => absurd hj (by omega)), Lib.hid (Below.refl _ _)⟩
            case round =>
              obtain ⟨j, rfl, hj, hn, hb2⟩ := hrel
              by_cases hlt3 : j < x.kids.length
              · obtain ⟨a2, rfl, hcell⟩ := ints_at ((HKr.out.below B3.out).below hb2.out) j hlt3
                obtain ⟨m, hz, hm⟩ := within_nat (HIN.out j hlt3)
                have hkn : kidN x j = m := by unfold kidN; rw [hz, Int.toNat_natCast]
                rw [hz] at hcell
                have hq : min j (ps.length - 1) = 0 := by rw [HL.out]; omega
                obtain ⟨vs, hall, hcs⟩ := HPL3.out.below hb2.out
                have hvl := hall.length
                obtain ⟨a3, hK2, hc3⟩ := hcs (0) (by rw [hvl, HL.out]; omega)
                have hpv : placeB T x ps j = (ps.getD (0) pAny) T m := by unfold placeB; rw [hq, hkn]
                have hpp : ps[0]? = some (ps.getD (0) pAny) := by
                  have : 0 < ps.length := by rw [HL.out]; omega
                  simp [List.getD, this]
                obtain ⟨g, cap, hv, eg, hg⟩ := AllP.at hall (List.getElem?_eq_getElem (by rw [hvl, HL.out]; omega)) hpp
                subst hK2
                rw [hv] at hc3
                rw [add_zero_addr] at hc3
                have t2 := hb2.out.cell_keep g1
                have hC := hg wr (some a) c T m (Below.refl _ _) HT.out ((HAr.out.below B3.out).below hb2.out) hm
                obtain ⟨b, hbe⟩ : ∃ b, (ps.getD (0) pAny) T m = b := ⟨_, rfl⟩
                rw [hbe] at hC hpv
                have HC := Lib.hid hC
                have HPV := Lib.hid hpv
                have hmin : min (j : Int) 0 = 0 := by omega
                clear hz hkn hq hall hcs hvl hpp hv hg hC hpv hbe
                go_wp2_with (fail)
                refine HC.out.mono ?_
                rintro e w4 ⟨rfl, b4⟩
                have hb4 := Lib.hid (hb2.out.trans (b4.mono hb2.out.size))
                clear b4 HC
                cases b with
                | true =>
                  go_wp2_with (fail)
                  exact ⟨⟨j + 1, by simp, by omega, Lib.hid (upto_succ hn.out HPV.out), hb4⟩, by simp [intOf]; omega⟩
                | false =>
                  go_wp2_with (fail)
                  go_ret
                  have hB4 := B3.out.trans (hb4.out.mono B3.out.size)
                  refine ⟨ret_val ?_, HB.out.trans ((hb.out.trans (hB4.mono hb.out.size)).mono HB.out.size)⟩
                  rw [HF3.out]
                  unfold placedB
                  rw [range_no hlt3 HPV.out]
                  simp
              · have hjl : j = x.kids.length := by omega
                have hall := hn.out
                rw [hjl] at hall
                have hf3 := HF3.out
                unfold placedB at hf3
                rw [range_all hall] at hf3
                have hlast : fitsT T i = tryB T x := by rw [hf3]; simp
                have HF4 := Lib.hid hlast
                have q0 := hb2.out.cell_keep g0
                have hB5 := B3.out.trans (hb2.out.mono B3.out.size)
                have B5 := Lib.hid (HB.out.trans ((hb.out.trans (hB5.mono hb.out.size)).mono HB.out.size))
                clear hjl hall hf3 hlast
                by_cases h61 : x.kind = 61
                · exact absurd (H61.out h61).1 (by simp)
                · have e61 : (x.kind != 61) = true := by simpa using h61
                  have ht : tryB T x = true := by unfold tryB; rw [e61]; rfl
                  have HTR := Lib.hid ht
                  clear h61 ht
                  go_wp2_with (fail)
                  go_ret
                  exact ⟨ret_val (by rw [HF4.out, HTR.out]; rfl), B5.out⟩
            
          | false =>
            by_cases hLk : L = x.kids.length
            · subst hLk
              clear H1M
              go_wp2_with (fail)
              go_loopw [116] (fun v wr => ∃ j : Nat, v = .int .i64 j ∧ j ≤ x.kids.length ∧ Hid (∀ q, q < j → placeB T x ps q = true) ∧ Hid (Below w3.heap.size w3 wr)) (fun v _ => x.kids.length - (intOf v).toNat)
              case atStart => exact ⟨0, rfl, by omega, Lib.hid (fun j hj => absurd hj (by omega)), Lib.hid (Below.refl _ _)⟩
              case round =>
                obtain ⟨j, rfl, hj, hn, hb2⟩ := hrel
                by_cases hlt3 : j < x.kids.length
                · obtain ⟨a2, rfl, hcell⟩ := ints_at ((HKr.out.below B3.out).below hb2.out) j hlt3
                  obtain ⟨m, hz, hm⟩ := within_nat (HIN.out j hlt3)
                  have hkn : kidN x j = m := by unfold kidN; rw [hz, Int.toNat_natCast]
                  rw [hz] at hcell
                  have hq : min j (ps.length - 1) = j := by rw [HL.out]; omega
                  obtain ⟨vs, hall, hcs⟩ := HPL3.out.below hb2.out
                  have hvl := hall.length
                  obtain ⟨a3, hK2, hc3⟩ := hcs (j) (by rw [hvl, HL.out]; omega)
                  have hpv : placeB T x ps j = (ps.getD (j) pAny) T m := by unfold placeB; rw [hq, hkn]
                  have hpp : ps[j]? = some (ps.getD (j) pAny) := by
                    have : j < ps.length := by rw [HL.out]; omega
                    simp [List.getD, this]
                  obtain ⟨g, cap, hv, eg, hg⟩ := AllP.at hall (List.getElem?_eq_getElem (by rw [hvl, HL.out]; omega)) hpp
                  subst hK2
                  rw [hv] at hc3
                  skip
                  have t2 := hb2.out.cell_keep g1
                  have hC := hg wr (some a) c T m (Below.refl _ _) HT.out ((HAr.out.below B3.out).below hb2.out) hm
                  obtain ⟨b, hbe⟩ : ∃ b, (ps.getD (j) pAny) T m = b := ⟨_, rfl⟩
                  rw [hbe] at hC hpv
                  have HC := Lib.hid hC
                  have HPV := Lib.hid hpv
                  have hmin : min (j : Int) ((x.kids.length : Int) - 1) = (j : Int) := by omega
                  clear hz hkn hq hall hcs hvl hpp hv hg hC hpv hbe
                  go_wp2_with (fail)
                  refine HC.out.mono ?_
                  rintro e w4 ⟨rfl, b4⟩
                  have hb4 := Lib.hid (hb2.out.trans (b4.mono hb2.out.size))
                  clear b4 HC
                  cases b with
                  | true =>
                    go_wp2_with (fail)
                    exact ⟨⟨j + 1, by simp, by omega, Lib.hid (upto_succ hn.out HPV.out), hb4⟩, by simp [intOf]; omega⟩
                  | false =>
                    go_wp2_with (fail)
                    go_ret
                    have hB4 := B3.out.trans (hb4.out.mono B3.out.size)
                    refine ⟨ret_val ?_, HB.out.trans ((hb.out.trans (hB4.mono hb.out.size)).mono HB.out.size)⟩
                    rw [HF3.out]
                    unfold placedB
                    rw [range_no hlt3 HPV.out]
                    simp
                · have hjl : j = x.kids.length := by omega
                  have hall := hn.out
                  rw [hjl] at hall
                  have hf3 := HF3.out
                  unfold placedB at hf3
                  rw [range_all hall] at hf3
                  have hlast : fitsT T i = tryB T x := by rw [hf3]; rw [HL.out]; simp
                  have HF4 := Lib.hid hlast
                  have q0 := hb2.out.cell_keep g0
                  have hB5 := B3.out.trans (hb2.out.mono B3.out.size)
                  have B5 := Lib.hid (HB.out.trans ((hb.out.trans (hB5.mono hb.out.size)).mono HB.out.size))
                  clear hjl hall hf3 hlast
                  by_cases h61 : x.kind = 61
                  · have h3 := (H61.out h61).2
                    have hlen3 : x.kids.length = 3 := by rw [← HL.out, h3]
                    have hAw := (HAr.out.below B3.out).below hb2.out
                    have hKw := (HKr.out.below B3.out).below hb2.out
                    have q3 := hb2.out.cell_keep g3
                    have q1 := hb2.out.cell_keep g1
                    have C1 := kindOf_calls (some a) c T w.heap.size w0.heap.size x K kc 1 wr hkl (by omega) (by omega) hl hAw hKw q1 q3 HIN.out
                    have C2 : ∀ W, Below wr.heap.size wr W → Calls Tryd.prog 103 #[.int .i64 2, .pointer (some ⟨w.heap.size, 0, none⟩), .pointer (some ⟨w0.heap.size, 0, none⟩)] W fun e w' => e = .returned (.int .i64 (ndK T (kidN x 2))) ∧ Below W.heap.size W w' := fun W hW =>
                      kindOf_calls (some a) c T w.heap.size w0.heap.size x K kc 2 W hkl (by omega) (by omega) hl (hAw.below hW) (hKw.below hW) (hW.cell_keep q1) (hW.cell_keep q3) HIN.out
                    have htr : tryB T x = (ndK T (kidN x 1) != 1 || ndK T (kidN x 2) != 1) := by unfold tryB; rw [h61]; simp
                    obtain ⟨k1, hk1⟩ : ∃ k1, ndK T (kidN x 1) = k1 := ⟨_, rfl⟩
                    obtain ⟨k2, hk2⟩ : ∃ k2, ndK T (kidN x 2) = k2 := ⟨_, rfl⟩
                    rw [hk1] at C1 htr
                    rw [hk2] at C2 htr
                    rw [h61] at q0
                    have HC1 := Lib.hid C1
                    have HC2 := Lib.hid C2
                    have HTR := Lib.hid htr
                    have BW := Lib.hid (Below.refl wr.heap.size wr)
                    clear C1 C2 htr hk1 hk2 h61 h3 hlen3 hAw hKw q1 q3
                    go_wp2_with (fail)
                    refine HC1.out.mono ?_
                    rintro e w4 ⟨rfl, b4⟩
                    have HC2b := Lib.hid (HC2.out w4 b4)
                    have B6 := Lib.hid (B5.out.trans (b4.mono B5.out.size))
                    clear b4 HC1 HC2 q0
                    by_cases h1 : k1 = 1
                    · subst h1
                      go_wp2_with (fail)
                      refine HC2b.out.mono ?_
                      rintro e w5 ⟨rfl, b5⟩
                      have B7 := Lib.hid (B6.out.trans (b5.mono B6.out.size))
                      clear b5 HC2b
                      go_wp2_with (fail)
                      go_ret
                      exact ⟨ret_val (congrArg Value.bool (by rw [HF4.out, HTR.out]; simp)), B7.out⟩
                    · have e1 : (k1 != 1) = true := by simpa using h1
                      clear h1
                      go_wp2_with (fail)
                      go_ret
                      exact ⟨ret_val (congrArg Value.bool (by rw [HF4.out, HTR.out, e1]; simp)), B6.out⟩
                  · have e61 : (x.kind != 61) = true := by simpa using h61
                    have ht : tryB T x = true := by unfold tryB; rw [e61]; rfl
                    have HTR := Lib.hid ht
                    clear h61 ht
                    go_wp2_with (fail)
                    go_ret
                    exact ⟨ret_val (by rw [HF4.out, HTR.out]; rfl), B5.out⟩
              
            · have hne : ((L : Int) != (x.kids.length : Int)) = true := by simp; omega
              have hf3 := HF3.out
              unfold placedB at hf3
              rw [HL.out, show (L == x.kids.length) = false by simpa using hLk] at hf3
              have HF4 := Lib.hid hf3
              clear hf3 HF3 hLk
              go_wp2_with (fail)
              go_ret
              have hB5 := hb.out.trans (B3.out.mono hb.out.size)
              exact ⟨ret_val (by rw [HF4.out]; rfl), HB.out.trans (hB5.mono HB.out.size)⟩
        · have hp := places_no x.kind hpk wz
          rw [if_neg hpk] at hf2
          have HP := Lib.hid hp
          have HF3 := Lib.hid hf2
          clear hp hf2 hpk
          go_wp2_with (fail)
          refine HP.out.mono ?_
          rintro e w3 ⟨rfl, b3⟩
          have B3 := Lib.hid (hb.out.trans (b3.mono hb.out.size))
          clear b3 HP d0 d3 t1
          go_wp2_with (fail)
          go_ret
          exact ⟨ret_val (by rw [HF3.out]; rfl), HB.out.trans (B3.out.mono HB.out.size)⟩
end Go.Proofs.YtnepdjgbfhakmaaDoor

namespace Go.Proofs.YtnepdjgbfhakmaaDoor
set_option linter.unusedVariables false
set_option linter.unusedSimpArgs false
open Go.RowKit Go.Shelf

theorem treeFits_calls (A : Option Addr) (c : Nat) (T : List Nd) (i : Nat) (w : World) (hT : TreeOk T) (hA : TreeAt w A T) (hi : i < T.length) (hm : MxLen w) :
    Calls Tryd.prog 79 #[treeV A T.length c, .int .i64 i] w fun e w' => e = .returned (.bool (fitsT T i)) ∧ Below w.heap.size w w' := by
  by_cases h12 : (T.getD i default).kind = 12
  · exact fits_template A c T i w hT hA hi hm h12
  · by_cases h87 : (T.getD i default).kind = 87
    · exact fits_union A c T i w hT hA hi hm h87
    · exact fits_other A c T i w hT hA hi hm ⟨h12, h87⟩
end Go.Proofs.YtnepdjgbfhakmaaDoor
