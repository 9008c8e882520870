/- Trees: Check. -/
import Derived.Test.YtnepdjgbfhakmaaDoorTreeF4
import Derived.Test.YtnepdjgbfhakmaaDoorTp
import Derived.WalkSmall
namespace Go.Proofs.YtnepdjgbfhakmaaDoor
set_option linter.unusedVariables false
set_option linter.unusedSimpArgs false
open Go.RowKit Go.Shelf
attribute [local go_sem] Oper.semAt_some

def openC : List (Nat × Nat) → List Value
  | [] => []
  | (n, j) :: st => openC st ++ [.int .i64 n, .int .i64 j]
theorem openC_length : ∀ st : List (Nat × Nat), (openC st).length = st.length * 2
  | [] => rfl
  | (n, j) :: st => by simp [openC, openC_length st]; omega
theorem openC_set (n j : Nat) (st : List (Nat × Nat)) (u : Nat) : (openC ((n, j) :: st)).set (st.length * 2 + 1) (.int .i64 u) = openC ((n, u) :: st) := by
  simp only [openC]
  rw [List.set_append_right _ _ (by rw [openC_length]; omega), openC_length, show st.length * 2 + 1 - st.length * 2 = 1 by omega]
  rfl

/-- A store into an own row. -/
theorem own_set {w : World} {base : Nat} {e : TypeId} {size g n cap : Nat} {xs : List Value} (h : w.ownsRow base e size (.slice (some ⟨g, 0, none⟩) n cap) n xs) (i : Nat) (hi : i < n * size) (u : Value) :
    (w.setCell ⟨g, i, none⟩ u).ownsRow base e size (.slice (some ⟨g, 0, none⟩) n cap) n (xs.set i u) := by
  obtain ⟨h1, h2⟩ := h
  refine ⟨by simpa using h1, ?_⟩
  rcases h2 with ⟨h0, _⟩ | ⟨g', cap', cur, hv, hg, hh, hn, hcap, hsz, htake⟩
  · cases h0
  · cases hv
    refine .inr ⟨g, cap, cur.setIfInBounds i u, rfl, hg, ?_, hn, hcap, by simpa using hsz, ?_⟩
    · simp [World.setCell, Array.getElem?_modify, hh]
    · rw [← htake, Array.toList_setIfInBounds, List.take_set]
theorem own_top {w : World} {base : Nat} {e : TypeId} {size g n cap : Nat} {xs : List Value} (h : w.ownsRow base e size (.slice (some ⟨g, 0, none⟩) n cap) n xs) (i : Nat) (u : Value) (hx : xs[i]? = some u) :
    w.cell? ⟨g, i, none⟩ = some u ∧ w.frozen? ⟨g, i, none⟩ = false := by
  obtain ⟨h1, h2⟩ := h
  rcases h2 with ⟨h0, _⟩ | ⟨g', cap', cur, hv, hg, hh, hn, hcap, hsz, htake⟩
  · cases h0
  · cases hv
    rw [← htake, List.getElem?_take] at hx
    split at hx
    · refine ⟨by simpa [World.cell?, hh] using hx, by simp [World.frozen?, hh]⟩
    · cases hx
theorem own_keep {B : Nat} {e : TypeId} {k : Nat} {v : Value} {n : Nat} {xs : List Value} {w w' : World} (h : w.ownsRow B e k v n xs) (hb : Below w.heap.size w w') : w'.ownsRow B e k v n xs :=
  h.kept (row := none) ⟨hb.os, hb.tape, hb.output, hb.size, fun j hj _ => hb.block j hj⟩ (by cases hv : v.ownBlock <;> simp)
theorem own_cap {w : World} {base : Nat} {e : TypeId} {size g n cap : Nat} {xs : List Value} (h : w.ownsRow base e size (.slice (some ⟨g, 0, none⟩) n cap) n xs) : n ≤ cap ∧ cap ≤ maxLen := by
  rcases h.2 with ⟨h0, _⟩ | ⟨g', cap', cur, hv, hg, hh, hn, hcap, hsz, htake⟩
  · cases h0
  · cases hv
    exact ⟨hn, hcap⟩
theorem infoOpen : (Tryd.prog.info? 106).map (fun i => (i.zero, i.size, i.bytes)) = some (some (.agg #[.int .i64 0, .int .i64 0]), 2, 16) := by kernel_rfl
def slLen : Value → Nat
  | .slice _ n _ => n
  | _ => 0
/-- What the loop holds. -/
def ChkI (T : List Nd) (w1 : World) (st : List (Nat × Nat)) (nx g cap : Nat) (wr : World) : Prop :=
  wr.ownsRow w1.heap.size 106 2 (.slice (some ⟨g, 0, none⟩) st.length cap) st.length (openC st) ∧ (∀ e ∈ st, e.1 < T.length ∧ fitsT T e.1 = true ∧ e.2 ≤ (T.getD e.1 default).kids.length) ∧
    checkL T = chkF (2 * (T.length - nx) + st.length + 1) T st nx ∧ Below w1.heap.size w1 wr

set_option maxRecDepth 100000 in
set_option maxHeartbeats 4000000 in
theorem check_calls (A : Option Addr) (c : Nat) (T : List Nd) (w : World) (hT : TreeOk T) (hA : TreeAt w A T) (hm : MxLen w) :
    Calls Tryd.prog 47 #[treeV A T.length c] w fun e w' => e = .returned (.tuple #[.int .i64 (checkL T).1, .int .i64 (checkL T).2]) ∧ Below w.heap.size w w' := by
  have hl := hT.1
  have b0 : Below w.heap.size w (w.alloc (.cells #[.slice A T.length c] 59)) := (Below.refl _ _).alloc (Nat.le_refl _) _
  have t0 : (w.alloc (.cells #[.slice A T.length c] 59)).cell? ⟨w.heap.size, 0, none⟩ = some (.slice A T.length c) := by simp [World.cell?_alloc_new]
  obtain ⟨w0, hw0⟩ : ∃ w0, w.alloc (.cells #[.slice A T.length c] 59) = w0 := ⟨_, rfl⟩
  rw [hw0] at b0 t0
  have HW0 := Lib.hid hw0
  by_cases hz : T.length = 0
  · have hc : checkL T = (0, 7) := by unfold checkL; rw [if_pos hz]
    have HC := Lib.hid hc
    have HB := Lib.hid b0
    rw [hz] at t0 HW0 ⊢
    clear hc hT hA hm b0 hw0
    go_enter Tryd.func47, Tryd.ntmps47
    go_upto_region 1 with (fail)
    rw [HW0.out]
    go_wp2_with (fail)
    go_ret2
    exact ⟨ret_val (by rw [HC.out]; rfl), HB.out⟩
  · have hf := treeFits_calls A c T 0 w0 hT (hA.below b0) (by omega) (hm.below b0)
    obtain ⟨f0, hf0⟩ : ∃ f0, fitsT T 0 = f0 := ⟨_, rfl⟩
    rw [hf0] at hf
    have hc : checkL T = if f0 = false then (0, 7) else chkF (2 * (T.length - 1) + 1 + 1) T [(0, 0)] 1 := by unfold checkL; rw [if_neg hz, hf0]
    have HC := Lib.hid hc
    have HF := Lib.hid hf
    have HF0 := Lib.hid hf0
    have HB0 := Lib.hid b0
    have HA := Lib.hid (hA.below b0)
    have HT := Lib.hid hT
    have HM := Lib.hid (hm.below b0)
    have T0 := Lib.hid t0
    have hz1 : 0 < T.length := by omega
    have e0 : ((T.length : Int) == 0) = false := beq_eq_false_iff_ne.2 (by omega)
    clear hc hf hf0 b0 hT hA hm hw0 hz
    go_enter Tryd.func47, Tryd.ntmps47
    go_upto_region 1 with (fail)
    rw [HW0.out]
    go_wp2_with (fail)
    refine HF.out.mono ?_
    rintro e w1 ⟨rfl, b1⟩
    have B1 := Lib.hid b1
    have t1 := b1.cell_keep t0
    clear HF b1 t0
    cases f0 with
    | false =>
      go_wp2_with (fail)
      go_ret2
      exact ⟨ret_val (by rw [HC.out]; rfl), HB0.out.trans (B1.out.mono HB0.out.size)⟩
    | true =>
      have T1 := Lib.hid t1
      have ow : (w1.alloc (.cells #[.int .i64 0, .int .i64 0] 106)).ownsRow w1.heap.size 106 2 (.slice (some ⟨w1.heap.size, 0, none⟩) 1 1) 1 [.int .i64 0, .int .i64 0] :=
        ⟨by simp, .inr ⟨w1.heap.size, 1, #[.int .i64 0, .int .i64 0], rfl, Nat.le_refl _, World.alloc_heap_new w1 _, Nat.le_refl _, by decide, rfl, rfl⟩⟩
      have inv0 : ChkI T w1 [(0, 0)] 1 w1.heap.size 1 (w1.alloc (.cells #[.int .i64 0, .int .i64 0] 106)) :=
        ⟨ow, fun e he => by rw [List.mem_singleton.1 he]; exact ⟨hz1, HF0.out, Nat.zero_le _⟩, HC.out, (Below.refl _ _).alloc (Nat.le_refl _) _⟩
      have INV0 := Lib.hid inv0
      have HZ1 := Lib.hid hz1
      clear ow inv0 t1
      go_wp2_with (fail)
      go_loopw [4, 5] (fun u v wr => ∃ (st : List (Nat × Nat)) (nx g cap : Nat), u = .slice (some ⟨g, 0, none⟩) st.length cap ∧ v = .int .i64 nx ∧ 1 ≤ nx ∧ nx ≤ T.length ∧ st.length ≤ nx ∧ Hid (ChkI T w1 st nx g cap wr)) (fun u v _ => 2 * (T.length - (intOf v).toNat) + slLen u)
      case atStart => exact ⟨[(0, 0)], 1, w1.heap.size, 1, rfl, rfl, by omega, HZ1.out, by simp, INV0⟩
      case round =>
        obtain ⟨st, nx, g, cap, rfl, rfl, hn0, hn1, hn2, hI⟩ := hrel
        cases st with
        | nil =>
          have hb := Lib.hid hI.out.2.2.2
          have t1 := hb.out.cell_keep T1.out
          have hck := hI.out.2.2.1
          rw [show 2 * (T.length - nx) + ([] : List (Nat × Nat)).length + 1 = 2 * (T.length - nx) + 1 from rfl, chkF] at hck
          have HCK := Lib.hid hck
          have hB := Lib.hid (HB0.out.trans ((B1.out.trans (hb.out.mono B1.out.size)).mono HB0.out.size))
          clear hck hI
          by_cases hlt : nx < T.length
          · have hck := HCK.out
            rw [if_pos hlt] at hck
            have HCK2 := Lib.hid hck
            clear hck HCK
            go_wp2_with (fail)
            go_ret2
            exact ⟨ret_val (by rw [HCK2.out]; rfl), hB.out⟩
          · have hck := HCK.out
            rw [if_neg hlt] at hck
            have HCK2 := Lib.hid hck
            clear hck HCK
            go_wp2_with (fail)
            go_ret2
            exact ⟨ret_val (by rw [HCK2.out]; rfl), hB.out⟩
        | cons e r =>
          obtain ⟨n, j⟩ := e
          obtain ⟨L, hL⟩ : ∃ L, r.length = L := ⟨_, rfl⟩
          obtain ⟨hown, hst, hck, hb⟩ := hI.out
          have hne := hst (n, j) (List.mem_cons_self ..)
          simp only at hne
          obtain ⟨hn, hfn, hj⟩ := hne
          have c0 := own_top hown (L * 2) (.int .i64 n) (by simp [openC, List.getElem?_append, openC_length, hL])
          have c1 := own_top hown (L * 2 + 1) (.int .i64 j) (by simp [openC, List.getElem?_append, openC_length, hL])
          have t1 := hb.cell_keep T1.out
          have hAr := HA.out.below (B1.out.trans (hb.mono B1.out.size))
          obtain ⟨x, hx, hxe⟩ := nd_at hn
          obtain ⟨K, kc, ⟨a, rfl, m0, m1, m2, m3, m4⟩, hK⟩ := hAr n x hx
          have hkl : x.kids.length ≤ 2000000 := (HT.out.2 x (List.mem_of_getElem? hx)).2.2
          have hkin := fits_in hfn
          rw [← hxe] at hkin hj
          rw [show (((n, j) :: r).length) = L + 1 by simp [hL]] at hn2 hck ⊢
          rw [chkF, ← hxe] at hck
          have HCK := Lib.hid hck
          have HI := Lib.hid hI.out
          have HX := Lib.hid hx
          have HXE := Lib.hid hxe
          have HL := Lib.hid hL
          have HKIN := Lib.hid hkin
          have HJ := Lib.hid hj
          have HK := Lib.hid hK
          have C1 := Lib.hid c1
          have hc0 := c0.1
          have hc1 := c1.1
          have hz1 := c1.2
          have i1 : (0 : Int) ≤ (n : Int) := by omega
          have i2 : (n : Int) < (T.length : Int) := by omega
          clear hown hst hck hb hfn hAr hx hxe hL hkin hK hI c0 c1 m0 m1 m2 m4
          go_wp2_with (fail)
          go_quiet (fail)
          have W2b : Below wr.heap.size wr (wr.drewN nq) := below_drewN (Below.refl _ _) nq
          have HI2 := Lib.hid (show ChkI T w1 ((n, j) :: r) nx g cap (wr.drewN nq) from ⟨own_keep HI.out.1 W2b, HI.out.2.1, HI.out.2.2.1, HI.out.2.2.2.trans (W2b.mono HI.out.2.2.2.size)⟩)
          have hc0' := W2b.cell_keep hc0
          have hc1' := W2b.cell_keep hc1
          have t1' := W2b.cell_keep t1
          have HK2 := Lib.hid (HK.out.below W2b)
          obtain ⟨W2, hW2⟩ : ∃ W2, wr.drewN nq = W2 := ⟨_, rfl⟩
          rw [hW2] at HI2 hc0' hc1' t1' HK2 ⊢
          have hz2 := (own_top HI2.out.1 (L * 2 + 1) (.int .i64 j) (by simp [openC, List.getElem?_append, openC_length, HL.out])).2
          clear hW2 W2b hc0 hc1 t1 hz1 HI HK C1 m3
          by_cases hjk : j = x.kids.length
          · have hck := HCK.out
            rw [if_pos hjk] at hck
            have hinv : ChkI T w1 r nx g cap W2 := by
              obtain ⟨o1, o2, _, o4⟩ := HI2.out
              refine ⟨?_, fun e he => o2 e (List.mem_cons_of_mem _ he), ?_, o4⟩
              · have o5 := o1
                simp only [openC, List.length_cons] at o5
                exact ownsRow_pop (by rw [openC_length]) o5
              · rw [hck, HL.out]
                rfl
            have HINV := Lib.hid hinv
            have e1 : ((j : Int) == (x.kids.length : Int)) = true := by simp [hjk]
            have hcap := own_cap HI2.out.1
            have hcap1 : L + 1 ≤ cap := by have := hcap.1; rw [List.length_cons, HL.out] at this; exact this
            have hcap2 : L ≤ cap := by omega
            have hcap3 : cap ≠ 0 := by omega
            have hcap4 : (L : Int) ≤ (cap : Int) := by omega
            clear hcap
            clear hck hinv HCK HI2
            go_wp2_with (fail)
            exact ⟨⟨r, nx, g, cap, by rw [HL.out], rfl, hn0, hn1, by have := HL.out; omega, HINV⟩, by simp [intOf, slLen]⟩
          · have hck := HCK.out
            rw [if_neg hjk] at hck
            have hjl : j < x.kids.length := by have := HJ.out; omega
            obtain ⟨a2, rfl, hcell⟩ := ints_at HK2.out j hjl
            obtain ⟨m, hz, hm⟩ := within_nat (HKIN.out j hjl)
            rw [hz] at hcell hck
            have e1 : ((j : Int) == (x.kids.length : Int)) = false := beq_eq_false_iff_ne.2 (by omega)
            have hW3 : Below w1.heap.size w1 (W2.setCell ⟨g, L * 2 + 1, none⟩ (.int .i64 ((j : Int) + 1))) := HI2.out.2.2.2.setCell (HI2.out.1.lt g rfl).1 _
            have HW3 := Lib.hid hW3
            have hB3 := Lib.hid (HB0.out.trans ((B1.out.trans (hW3.mono B1.out.size)).mono HB0.out.size))
            have hns : (⟨g, L * 2 + 1, none⟩ : Addr) ≠ ⟨g, L * 2, none⟩ := by simp
            have d0 : (W2.setCell ⟨g, L * 2 + 1, none⟩ (.int .i64 ((j : Int) + 1))).cell? ⟨g, L * 2, none⟩ = some (.int .i64 n) := by
              have h := own_set HI2.out.1 (L * 2 + 1) (by rw [List.length_cons, HL.out]; omega) (.int .i64 ((j + 1 : Nat) : Int))
              rw [show (L * 2 + 1) = r.length * 2 + 1 by rw [HL.out], openC_set] at h
              have h2 := (own_top h (L * 2) (.int .i64 n) (by simp [openC, List.getElem?_append, openC_length, HL.out])).1
              rw [show r.length * 2 + 1 = L * 2 + 1 by rw [HL.out], show (((j + 1 : Nat)) : Int) = (j : Int) + 1 by simp] at h2
              exact h2
            have d1 := hW3.cell_keep T1.out
            have HCK2 := Lib.hid hck
            clear hck hz HCK hW3
            by_cases hmn : m = nx
            · subst hmn
              have hAW := HA.out.below (B1.out.trans (HW3.out.mono B1.out.size))
              have hf := treeFits_calls (some a) c T m _ HT.out hAW hm (HM.out.below (B1.out.trans (HW3.out.mono B1.out.size)))
              obtain ⟨f1, hf1⟩ : ∃ f1, fitsT T m = f1 := ⟨_, rfl⟩
              have hck := HCK2.out
              rw [if_neg (by simp)] at hck
              rw [hf1] at hf hck
              have HF1 := Lib.hid hf1
              have HF := Lib.hid hf
              have HCK3 := Lib.hid hck
              have hon := own_set HI2.out.1 (L * 2 + 1) (by rw [List.length_cons, HL.out]; omega) (.int .i64 ((j + 1 : Nat) : Int))
              rw [show (L * 2 + 1) = r.length * 2 + 1 by rw [HL.out], openC_set, show r.length * 2 + 1 = L * 2 + 1 by rw [HL.out], show (((j + 1 : Nat)) : Int) = (j : Int) + 1 by simp] at hon
              have HON := Lib.hid hon
              clear hck HCK2 hf1 hf hAW hon
              go_wp2_with (fail)
              refine HF.out.mono ?_
              rintro e W4 ⟨rfl, b4⟩
              cases f1 with
              | false =>
                have hB4 := hB3.out.trans (b4.mono hB3.out.size)
                have hck := HCK3.out
                rw [if_pos rfl] at hck
                have HCK4 := Lib.hid hck
                clear b4 hck HCK3
                go_wp2_with (fail)
                go_ret2
                exact ⟨ret_val (by rw [HCK4.out]; rfl), hB4⟩
              | true =>
                have hck := HCK3.out
                rw [if_neg (by simp)] at hck
                have HCK4 := Lib.hid hck
                have hW4 := HW3.out.trans (b4.mono HW3.out.size)
                have o4 := (own_keep HON.out b4).alloc (.cells #[.int .i64 m, .int .i64 0] 106)
                have k4 : Cells (W4.alloc (.cells #[.int .i64 m, .int .i64 0] 106)) (some ⟨W4.heap.size, 0, none⟩) [.int .i64 m, .int .i64 0] := Cells.new _ #[.int .i64 m, .int .i64 0] _ _
                have b5 : Below w1.heap.size w1 (W4.alloc (.cells #[.int .i64 m, .int .i64 0] 106)) := hW4.alloc hW4.size _
                obtain ⟨i0, hi, hz0, hz1', hz2'⟩ := info_parts infoOpen
                have hL1 : ((n, j + 1) :: r).length = L + 1 := by rw [List.length_cons, HL.out]
                have hL0 : ((n, j) :: r).length = L + 1 := by rw [List.length_cons, HL.out]
                rw [hL0] at o4
                have HO4 := Lib.hid o4
                have HL1 := Lib.hid hL1
                clear b4 hck HCK3 HF hL0 o4 hL1 d0 d1
                go_wp2_with (at_builtin; refine wpList_append_cells _ rfl _ _ 107 rfl w1.heap.size 106 i0 (.agg #[.int .i64 0, .int .i64 0]) 2 16 Tryd.underlying107 hi hz0 hz1' hz2' rfl (by decide) _ _ _ rfl HO4.out _ 1 1 [.int .i64 m, .int .i64 0] rfl (by rfl) k4 (fun h => by cases h) (by simp; exact ⟨rfl, rfl⟩) ?c3 ?c4 ?c5 ?_)
                case c3 => unfold maxLen; omega
                case c4 => omega
                case c5 => exact b5.size
                intro v6 W6 o6 g6
                have b6 := b5.grown g6 b5.size (fun k hk => (HO4.out.lt k hk).1)
                obtain ⟨g6', cap6, hv6⟩ : ∃ g6' cap6, v6 = .slice (some ⟨g6', 0, none⟩) (L + 1 + 1) cap6 := by
                  rcases o6.2 with ⟨_, h0⟩ | ⟨g', cap', _, hv, _⟩
                  · omega
                  · exact ⟨g', cap', hv⟩
                rw [hv6] at o6 ⊢
                have hmT : m < T.length := hm
                have hinv : ChkI T w1 ((m, 0) :: (n, j + 1) :: r) (m + 1) g6' cap6 W6 := by
                  refine ⟨?_, fun e he => ?_, ?_, b6⟩
                  · have hl2 : ((m, 0) :: (n, j + 1) :: r).length = L + 1 + 1 := by rw [List.length_cons, HL1.out]
                    rw [hl2]
                    exact o6
                  · rcases List.mem_cons.1 he with rfl | he
                    · exact ⟨hm, HF1.out, Nat.zero_le _⟩
                    · rcases List.mem_cons.1 he with rfl | he
                      · have h0 := HI2.out.2.1 (n, j) (List.mem_cons_self ..)
                        exact ⟨h0.1, h0.2.1, by show j + 1 ≤ (T.getD n default).kids.length; rw [← HXE.out]; omega⟩
                      · exact HI2.out.2.1 e (List.mem_cons_of_mem _ he)
                  · rw [HCK4.out]
                    congr 1
                    rw [List.length_cons, HL1.out]
                    omega
                have HINV := Lib.hid hinv
                have hLL := HL.out
                clear hv6 o6 g6 b6 hinv HCK4 HO4 HI2 b5 hW4 k4
                go_wp2_with (fail)
                refine ⟨⟨(m, 0) :: (n, j + 1) :: r, m + 1, g6', cap6, ?_, ?_, by omega, by omega, ?_, HINV⟩, ?_⟩
                · rw [List.length_cons, HL1.out]
                · simp
                · rw [List.length_cons, HL1.out]; omega
                · simp [intOf, slLen]; omega
            · have hck := HCK2.out
              rw [if_pos (by intro h; exact hmn (by omega))] at hck
              have HCK3 := Lib.hid hck
              have e2 : ((m : Int) != (nx : Int)) = true := by simp; omega
              clear hck HCK2
              go_wp2_with (fail)
              go_ret2
              exact ⟨ret_val (by rw [HCK3.out]; rfl), hB3.out⟩
end Go.Proofs.YtnepdjgbfhakmaaDoor
