/- Trees: slices.Clone; nodes moved. Trees: Make. Trees: rows of trees that a call has made. -/
import Derived.Test.YtnepdjgbfhakmaaDoorTreeO
import Derived.Test.YtnepdjgbfhakmaaDoorTp
import Derived.WalkSmall
import Derived.Deep.AppendLies
import Derived.Deep.RegionHeld3
import Derived.Deep.RegionLaw
import Derived.Deep.DeepCutAuto
namespace Go.Proofs.YtnepdjgbfhakmaaDoor
set_option linter.unusedVariables false
set_option linter.unusedSimpArgs false
open Go.RowKit Go.Shelf
attribute [local go_sem] Oper.semAt_some

set_option maxRecDepth 100000 in
theorem clone_calls (K : Option Addr) (c : Nat) (l : List Int) (w : World) (hl : l.length ≤ 2000000) (hK : Ints w K c l) :
    Calls Tryd.prog 101 #[.slice K l.length c] w fun e w' => ∃ K' c', e = .returned (.slice K' l.length c') ∧ KidOwn w.heap.size w' K' c' l ∧ Below w.heap.size w w' := by
  have q22 : ∀ (w : World) (a : Option Addr) (n c n' c' : Nat), (binOp .eql 38 (.slice a n c) (.slice none n' c')).run Tryd.prog w = .ok (.bool a.isNone) w := fun w a n c n' c' => Lib.run_eql_slice_nil w _ _ a n c n' c' Tryd.underlying38
  cases K with
  | none =>
    obtain ⟨h1, h2⟩ := hK.2.2 rfl
    have hn : l = [] := List.eq_nil_of_length_eq_zero h1
    subst hn
    clear hK h1 hl
    go_enter Tryd.func101, Tryd.ntmps101
    go_wp2_with (fail)
    go_ret
    exact ⟨none, 0, rfl, World.ownsRow_nil _ _ _ _, Below.refl _ _⟩
  | some a =>
    obtain ⟨i0, hi, hz0, hz1, hz2⟩ := info_parts infoInt
    have HK := Lib.hid hK
    clear hK
    have HF := Lib.hid (And.intro hi (And.intro hz0 (And.intro hz1 hz2)))
    clear hi hz0 hz1 hz2
    have b0 : Below w.heap.size w (w.alloc (.cells #[] 3)) := (Below.refl _ _).alloc (Nat.le_refl _) _
    have HC := Lib.hid (HK.out.1.below b0)
    have mx : maxLen = 9223372036854775807 := rfl
    go_enter Tryd.func101, Tryd.ntmps101
    go_wp2_with (at_builtin; refine wpList_append_cells _ rfl _ _ 38 rfl w.heap.size 3 i0 (.int .i64 0) 1 8 Tryd.underlying38 HF.out.1 HF.out.2.1 HF.out.2.2.1 HF.out.2.2.2 rfl (by decide) _ 0 [] rfl (World.ownsRow_made w #[] 0 (Nat.le_refl _) (Nat.zero_le _) rfl) (some a) l.length c (icells l) rfl (by simp) HC.out (fun h => by cases h) (icells_one l) (by omega) (by omega) (by simp) ?_)
    intro v' w1 hown hgrow
    have hown : w1.ownsRow w.heap.size 3 1 v' l.length (icells l) := by simpa using hown
    obtain ⟨K', c', rfl⟩ : ∃ K' c', v' = .slice K' l.length c' := by
      obtain ⟨A, c', rfl, _⟩ := own_cells hown
      exact ⟨A, c', rfl⟩
    have hb : Below w.heap.size w w1 := b0.grown hgrow (by simp) (by intro k hk; simp [Value.ownBlock] at hk; omega)
    have HO := Lib.hid hown
    have HB := Lib.hid hb
    clear hown hgrow hb b0
    go_wp2_with (fail)
    go_ret
    exact ⟨K', c', rfl, HO.out, HB.out⟩

theorem TreeAt.get {w : World} {A : Option Addr} {T : List Nd} (h : TreeAt w A T) {k : Nat} (hk : k < T.length) : ∃ x K c, T[k]? = some x ∧ NodeAt w A k x K c := by
  obtain ⟨K, c, hn⟩ := h k T[k] (List.getElem?_eq_getElem hk)
  exact ⟨T[k], K, c, List.getElem?_eq_getElem hk, hn⟩
theorem take_succ_map {α β : Type} {l : List α} {k : Nat} {x : α} (f : α → β) (h : l[k]? = some x) : (l.take (k + 1)).map f = (l.take k).map f ++ [f x] := by
  obtain ⟨hk, rfl⟩ := List.getElem?_eq_some_iff.1 h
  rw [List.take_succ_eq_append_getElem hk, List.map_append]
  rfl
theorem gb_trans {a b c : World} {row : Option Nat} (h : a.grownBy b row) (k : b.grownBy c row) : a.grownBy c row :=
  ⟨k.os.trans h.os, k.tape.trans h.tape, k.output.trans h.output, Nat.le_trans h.size k.size, fun i hi hr => (k.block i (Nat.lt_of_lt_of_le hi h.size) hr).trans (h.block i hi hr)⟩
theorem wrap64_i (n : Int) : wrap64 n = IntKind.i64.wrap n := by rw [IntKind.wrap_i64]; unfold wrap64; omega
/-- The first j kids moved. -/
def upto (d : Int) (l : List Int) (j : Nat) : List Int := (l.take j).map (fun k => IntKind.i64.wrap (k + d)) ++ l.drop j
theorem upto_zero (d : Int) (l : List Int) : upto d l 0 = l := by simp [upto]
theorem upto_all (d : Int) (l : List Int) : upto d l l.length = l.map fun k => IntKind.i64.wrap (k + d) := by simp [upto]
theorem upto_length (d : Int) (l : List Int) (j : Nat) : (upto d l j).length = l.length := by simp [upto]; omega
theorem upto_get (d : Int) (l : List Int) (j : Nat) (h : j < l.length) : (icells (upto d l j))[j]? = some (.int .i64 (l.getD j 0)) := by
  have h1 : (upto d l j)[j]? = some l[j] := by
    unfold upto
    rw [List.getElem?_append_right (by simp; omega)]
    simp [Nat.min_eq_left (Nat.le_of_lt h), h]
  simp [icells, h1, List.getD, h]
theorem upto_set (d : Int) (l : List Int) (j : Nat) (h : j < l.length) : (icells (upto d l j)).set j (.int .i64 (IntKind.i64.wrap (l.getD j 0 + d))) = icells (upto d l (j + 1)) := by
  have hg : l.getD j 0 = l[j] := by simp [List.getD, h]
  unfold icells
  rw [hg, ← List.map_set]
  congr 1
  unfold upto
  rw [List.set_append_right _ _ (by simp; omega), List.take_succ_eq_append_getElem h, List.map_append, List.append_assoc]
  congr 1
  rw [show j - ((l.take j).map fun k => IntKind.i64.wrap (k + d)).length = 0 by simp; omega, List.drop_eq_getElem_cons h]
  rfl
/-- How moved ends. -/
def MovedEnd (w : World) (T : List Nd) (e : Ending) (w' : World) : Prop := ∃ v KS, e = .returned v ∧ OwnT w.heap.size w' v T KS ∧ Below w.heap.size w w'

set_option maxRecDepth 100000 in
set_option maxHeartbeats 2000000 in
theorem moved_calls (A : Option Addr) (c : Nat) (T : List Nd) (d : Int) (w : World) (hl : T.length ≤ 2000000) (hkl : ∀ x ∈ T, x.kids.length ≤ 2000000) (hA : TreeAt w A T) :
    Calls Tryd.prog 77 #[.slice A T.length c, .int .i64 d] w (MovedEnd w (T.map (moveNd d))) := by
  have HA := Lib.hid hA
  have HKL := Lib.hid hkl
  obtain ⟨i0, hi, hz0, hz1, hz2⟩ := info_parts infoNode
  have HF := Lib.hid (And.intro hi (And.intro hz0 (And.intro hz1 hz2)))
  clear hi hz0 hz1 hz2 hA hkl
  go_enter Tryd.func77, Tryd.ntmps77
  go_wp2_with (fail)
  go_loopw [5, 11] (fun u v wr => ∃ (k : Nat) (KS : List (Option Addr × Nat)), v = .int .i64 k ∧ k ≤ T.length ∧ Hid (OwnT w.heap.size wr u ((T.take k).map (moveNd d)) KS) ∧ Hid (Below w.heap.size w wr)) (fun _ v _ => T.length - (intOf v).toNat)
  case atStart => exact ⟨0, [], rfl, by omega, Lib.hid (by simpa using OwnT.nil _ _), Lib.hid (Below.refl _ _)⟩
  case round =>
    obtain ⟨k, KS, rfl, hk, hO, hb⟩ := hrel
    obtain ⟨wo, rfl⟩ : ∃ wo : World, wo = wr := ⟨_, rfl⟩
    by_cases hlt : k < T.length
    · obtain ⟨x, K, kc, hx, hn⟩ := (HA.out.below hb.out).get hlt
      obtain ⟨⟨a, rfl, c0, c1, c2, c3, c4⟩, hK⟩ := hn
      have hxl := HKL.out x (List.mem_of_getElem? hx)
      have HX := Lib.hid hx
      clear hx
      obtain ⟨W1, hW1⟩ : ∃ W1, wo.alloc (.cells #[.int .i64 x.kind, .string x.text, .int .i64 x.num, .slice K x.kids.length kc, .int .i64 x.pos] 54) = W1 := ⟨_, rfl⟩
      have b1 : Below wo.heap.size wo W1 := by rw [← hW1]; exact (Below.refl _ _).alloc (Nat.le_refl _) _
      have box : W1.heap[wo.heap.size]? = some (.cells #[.int .i64 x.kind, .string x.text, .int .i64 x.num, .slice K x.kids.length kc, .int .i64 x.pos] 54 (0, 0)) := by rw [← hW1]; exact World.alloc_heap_new wo _
      have hs1 : W1.heap.size = wo.heap.size + 1 := by rw [← hW1]; simp
      have HC := Lib.hid (clone_calls K kc x.kids W1 hxl (hK.below b1))
      have d3 : W1.cell? ⟨wo.heap.size, 3, none⟩ = some (.slice K x.kids.length kc) := by simp [World.cell?, box]
      have HW1 := Lib.hid hW1
      have HB1 := Lib.hid b1
      have HBOX := Lib.hid box
      have HS1 := Lib.hid hs1
      clear hW1 b1 box hs1 hK
      go_upto_region 5 with (fail)
      rw [HW1.out]
      go_wp2_with (fail)
      refine HC.out.mono ?_
      rintro e W2 ⟨K', c', rfl, hown, b2⟩
      have box2 : W2.heap[wo.heap.size]? = _ := (b2.block _ (by have := HS1.out; omega)).trans HBOX.out
      have e3 : W2.cell? ⟨wo.heap.size, 3, none⟩ = some (.slice K x.kids.length kc) := by simp [World.cell?, box2]
      have f3 : W2.frozen? ⟨wo.heap.size, 3, none⟩ = false := by simp [World.frozen?, box2]
      have HOWN := Lib.hid hown
      have HB2 := Lib.hid b2
      have HBOX2 := Lib.hid box2
      clear hown b2 box2 HC d3 HBOX c0 c1 c2 c3 c4
      go_wp2_with (fail)
      obtain ⟨W3, hW3⟩ : ∃ W3, W2.setCell ⟨wo.heap.size, 3, none⟩ (.slice K' x.kids.length c') = W3 := ⟨_, rfl⟩
      rw [hW3]
      have box3 : W3.heap[wo.heap.size]? = some (.cells #[.int .i64 x.kind, .string x.text, .int .i64 x.num, .slice K' x.kids.length c', .int .i64 x.pos] 54 (0, 0)) := by
        rw [← hW3]; exact heap_setCell_same W2 wo.heap.size 3 _ _ _ HBOX2.out
      have g23 : W2.grownBy W3 (some wo.heap.size) := by
        rw [← hW3]
        exact ⟨rfl, rfl, rfl, by simp [World.setCell], fun j _ hj => Below.heap_setCell _ _ _ _ (fun e => hj (by rw [e]))⟩
      have own3 : KidOwn W1.heap.size W3 K' c' x.kids := HOWN.out.kept g23 (by
        cases hk : (Value.slice K' x.kids.length c').ownBlock with
        | none => exact .inl rfl
        | some z =>
          refine .inr fun h => ?_
          have := (HOWN.out.lt z hk).1
          have h2 := HS1.out
          simp only [Option.some.injEq] at h
          omega)
      have HO3 := Lib.hid own3
      have HBOX3 := Lib.hid box3
      have HG := Lib.hid g23
      clear hW3 box3 g23 own3 HOWN HBOX2 e3 f3
      go_loopw [22] (fun v wi => ∃ j : Nat, v = .int .i64 j ∧ j ≤ x.kids.length ∧ Hid (wi.ownsRow W1.heap.size 3 1 (.slice K' x.kids.length c') x.kids.length (icells (upto d x.kids j)) ∧ W3.grownBy wi (Value.slice K' x.kids.length c').ownBlock)) (fun v _ => x.kids.length - (intOf v).toNat)
      case atStart => exact ⟨0, rfl, by omega, Lib.hid ⟨by rw [upto_zero]; exact HO3.out, ⟨rfl, rfl, rfl, Nat.le_refl _, fun _ _ _ => rfl⟩⟩⟩
      case round =>
        obtain ⟨j, rfl, hj, hI⟩ := hrel
        have hbl : (Value.slice K' x.kids.length c').ownBlock ≠ some wo.heap.size := fun h => by
          have := (HO3.out.lt _ h).1
          have h2 := HS1.out
          omega
        have hbox : wr.heap[wo.heap.size]? = some (.cells #[.int .i64 x.kind, .string x.text, .int .i64 x.num, .slice K' x.kids.length c', .int .i64 x.pos] 54 (0, 0)) :=
          (hI.out.2.block _ (Array.getElem?_eq_some_iff.1 HBOX3.out).1 (Ne.symm hbl)).trans HBOX3.out
        have q3 : wr.cell? ⟨wo.heap.size, 3, none⟩ = some (.slice K' x.kids.length c') := by simp [World.cell?, hbox]
        by_cases hlt2 : j < x.kids.length
        · obtain ⟨A', c2, hv, _, _, _, h3⟩ := own_block hI.out.1
          cases hv
          rcases h3 with ⟨_, h4, _⟩ | ⟨g, rfl, hg1, hg2⟩
          · omega
          · have qc := hI.out.1.cellAt j (by omega)
            rw [upto_get d x.kids j hlt2] at qc
            have qf := hI.out.1.frozenAt j
            have hst := hI.out.1.stored j (.int .i64 (IntKind.i64.wrap (x.kids.getD j 0 + d)))
            rw [upto_set d x.kids j hlt2] at hst
            obtain ⟨z, hz⟩ : ∃ z, x.kids.getD j 0 = z := ⟨_, rfl⟩
            rw [hz] at qc hst
            have HST := Lib.hid hst
            have HI := Lib.hid hI.out
            clear hst hz hI hbox hbl
            go_wp2_with (fail)
            exact ⟨⟨j + 1, by simp, by omega, Lib.hid ⟨by rw [wrap64_i]; exact HST.out.1, by rw [wrap64_i]; exact gb_trans HI.out.2 HST.out.2⟩⟩, by simp [intOf]; omega⟩
        · have hjl : j = x.kids.length := by omega
          have q0 : wr.cell? ⟨wo.heap.size, 0, none⟩ = some (.int .i64 x.kind) := by simp [World.cell?, hbox]
          have q1 : wr.cell? ⟨wo.heap.size, 1, none⟩ = some (.string x.text) := by simp [World.cell?, hbox]
          have q2 : wr.cell? ⟨wo.heap.size, 2, none⟩ = some (.int .i64 x.num) := by simp [World.cell?, hbox]
          have q4 : wr.cell? ⟨wo.heap.size, 4, none⟩ = some (.int .i64 x.pos) := by simp [World.cell?, hbox]
          have hown := hI.out.1
          rw [hjl, upto_all] at hown
          have hk1 : KidOwn W1.heap.size wr K' c' (moveNd d x).kids := by
            unfold KidOwn moveNd
            simpa using hown
          -- from the round's beginning to here
          have hb13 : Below wo.heap.size wo wr := by
            have h1 := HB1.out.trans (HB2.out.mono HB1.out.size)
            have h2 : Below wo.heap.size W2 W3 := ⟨HG.out.os, HG.out.tape, HG.out.output, HG.out.size, fun k hk => HG.out.block k (by have := h1.size; omega) (by simp; omega)⟩
            have h3 : Below wo.heap.size W3 wr := ⟨hI.out.2.os, hI.out.2.tape, hI.out.2.output, hI.out.2.size, fun k hk => hI.out.2.block k (by have := h1.size; have := h2.size; omega) (fun e => by
              have := (hown.lt k e.symm).1
              have := HB1.out.size
              omega)⟩
            exact h1.trans (h2.trans h3)
          have hO2 := hO.out.below hb13
          have hbw : Below w.heap.size w wr := hb.out.trans (hb13.mono hb.out.size)
          have ho5 := hO2.1.alloc (.cells #[.int .i64 x.kind, .string x.text, .int .i64 x.num, .slice K' x.kids.length c', .int .i64 x.pos] 54)
          have k5 : Cells (wr.alloc (.cells #[.int .i64 x.kind, .string x.text, .int .i64 x.num, .slice K' x.kids.length c', .int .i64 x.pos] 54)) (some ⟨wr.heap.size, 0, none⟩) [.int .i64 x.kind, .string x.text, .int .i64 x.num, .slice K' x.kids.length c', .int .i64 x.pos] := cells_fresh _ _ _ _
          have hbw5 := hbw.alloc hbw.size (.cells #[.int .i64 x.kind, .string x.text, .int .i64 x.num, .slice K' x.kids.length c', .int .i64 x.pos] 54)
          have hlen : ((T.take k).map (moveNd d)).length = k := by simp; omega
          have HOT := Lib.hid hO2
          rw [hlen] at ho5
          have HO5 := Lib.hid ho5
          have HBW5 := Lib.hid hbw5
          have HK1 := Lib.hid hk1
          have HB13 := Lib.hid hb13
          have mx : maxLen = 9223372036854775807 := rfl
          clear hown hk1 hb13 hO2 hbw ho5 hbw5 hI hbox hbl hO
          go_wp2_with (at_builtin; refine wpList_append_cells _ rfl _ _ 57 rfl w.heap.size 54 i0 (.agg #[.int .i64 0, .string ByteArray.empty, .int .i64 0, .slice none 0 0, .int .i64 0]) 5 64 Tryd.underlying57 HF.out.1 HF.out.2.1 HF.out.2.2.1 HF.out.2.2.2 rfl (by decide) u5 k (flatN ((T.take k).map (moveNd d)) KS) rfl HO5.out _ 1 1 [.int .i64 x.kind, .string x.text, .int .i64 x.num, .slice K' x.kids.length c', .int .i64 x.pos] rfl (by rfl) k5 (fun h => by cases h) (by simp; exact ⟨rfl, rfl, rfl, rfl, rfl⟩) ?c3 ?c4 ?c5 ?_)
          case c3 => omega
          case c4 => omega
          case c5 => exact HBW5.out.size
          intro v6 W6 o6 g6
          have hpush := own_push _ HOT.out HK1.out (by have := HBW5.out.size; have := hb.out.size; have := HS1.out; omega) (y := moveNd d x) (v6 := v6) (by
            rw [hlen]
            have : nodeC (moveNd d x) K' c' = [.int .i64 x.kind, .string x.text, .int .i64 x.num, .slice K' x.kids.length c', .int .i64 x.pos] := by simp [nodeC, moveNd]
            rw [this, List.map_take]; exact o6) g6
          rw [← take_succ_map (moveNd d) HX.out] at hpush
          have hb6 : Below w.heap.size w W6 := HBW5.out.grown g6 HBW5.out.size (fun q hq => (HO5.out.lt q hq).1)
          have HP := Lib.hid hpush
          have HB6 := Lib.hid hb6
          clear hpush hb6 o6 g6 k5
          go_wp2_with (fail)
          exact ⟨⟨k + 1, KS ++ [(K', c')], by simp, by omega, HP, HB6⟩, by simp [intOf]; omega⟩
    · go_wp2_with (fail)
      have hkl : k = T.length := by omega
      go_ret
      refine ⟨u5, KS, rfl, ?_, hb.out⟩
      have := hO.out
      rw [hkl, List.take_length] at this
      exact this
end Go.Proofs.YtnepdjgbfhakmaaDoor

namespace Go.Proofs.YtnepdjgbfhakmaaDoor
set_option linter.unusedVariables false
set_option linter.unusedSimpArgs false
open Go.RowKit Go.Shelf
attribute [local go_sem] Oper.semAt_some

/-- A row of trees. -/
def Forest (w : World) (G : Option Addr) (Ks : List (List Nd)) : Prop := ∀ i K, Ks[i]? = some K → ∃ a A c, G = some a ∧ w.cell? (a.add i) = some (.slice A K.length c) ∧ TreeAt w A K
theorem Forest.below {w w' : World} {G : Option Addr} {Ks : List (List Nd)} (h : Forest w G Ks) (hb : Below w.heap.size w w') : Forest w' G Ks := fun i K hK => by
  obtain ⟨a, A, c, hG, hc, hT⟩ := h i K hK
  exact ⟨a, A, c, hG, (hb.cell (World.block_lt_of_cell? w _ hc)).trans hc, hT.below hb⟩
/-- Bounds on trees. -/
def sumL : List (List Nd) → Nat
  | [] => 0
  | K :: Ks => K.length + sumL Ks
def Small (Ks : List (List Nd)) : Prop := Ks.length ≤ 2000000 ∧ sumL Ks ≤ 2000000 ∧ ∀ K ∈ Ks, ∀ x ∈ K, x.kids.length ≤ 2000000
theorem sumL_mem {Ks : List (List Nd)} {K : List Nd} (h : K ∈ Ks) : K.length ≤ sumL Ks := by
  induction Ks with
  | nil => cases h
  | cons L Ks ih =>
    rw [sumL]
    rcases List.mem_cons.1 h with rfl | h
    · omega
    · have := ih h; omega
theorem sumL_take (Ks : List (List Nd)) (i : Nat) (K : List Nd) (h : Ks[i]? = some K) : sumL (Ks.take i) + K.length ≤ sumL Ks ∧ sumL (Ks.take (i + 1)) = sumL (Ks.take i) + K.length := by
  induction Ks generalizing i with
  | nil => simp at h
  | cons L Ks ih =>
    cases i with
    | zero => simp at h; subst h; simp [sumL]
    | succ i =>
      have := ih i (by simpa using h)
      simp only [List.take_succ_cons, sumL]
      omega

/-- What Make's loop holds: the root with its kids so far, what stands behind it. -/
structure MakeI (B : Nat) (root : Nd) (rk : List Int) (tl : List Nd) (v : Value) (p0 : Option Addr × Nat) (KS : List (Option Addr × Nat)) (w : World) : Prop where
  row : w.ownsRow B 54 5 v (tl.length + 1) (nodeC { root with kids := rk } p0.1 p0.2 ++ flatN tl KS)
  top : KidOwn B w p0.1 p0.2 rk
  rest : KidsOwn B w tl KS
  far : ∀ (i : Nat) (x : Nd) (p : Option Addr × Nat), tl[i]? = some x → KS[i]? = some p → (Value.slice p.1 x.kids.length p.2).ownBlock = none ∨ (Value.slice p.1 x.kids.length p.2).ownBlock ≠ (Value.slice p0.1 rk.length p0.2).ownBlock
theorem MakeI.below {B : Nat} {root : Nd} {rk : List Int} {tl : List Nd} {v : Value} {p0 : Option Addr × Nat} {KS : List (Option Addr × Nat)} {w w' : World} (h : MakeI B root rk tl v p0 KS w) (hb : Below w.heap.size w w') : MakeI B root rk tl v p0 KS w' :=
  ⟨own_below' h.row hb, own_below' h.top hb, h.rest.below hb, h.far⟩
theorem MakeI.own {B : Nat} {root : Nd} {rk : List Int} {tl : List Nd} {v : Value} {p0 : Option Addr × Nat} {KS : List (Option Addr × Nat)} {w : World} (h : MakeI B root rk tl v p0 KS w) : OwnT B w v ({ root with kids := rk } :: tl) (p0 :: KS) :=
  ⟨by simpa [flatN] using h.row, by simp [h.rest.1], fun i x p hx hp => by
    cases i with
    | zero => simp at hx hp; subst hx hp; exact h.top
    | succ i => exact h.rest.2 i x p (by simpa using hx) (by simpa using hp)⟩
/-- The whole of what the loop holds. -/
structure MakeW (w : World) (root : Nd) (Ks : List (List Nd)) (i : Nat) (rk : List Int) (tl : List Nd) (v : Value) (p0 : Option Addr × Nat) (KS : List (Option Addr × Nat)) (wr : World) : Prop where
  in_ : MakeI w.heap.size root rk tl v p0 KS wr
  res : wr.heap[w.heap.size + 1]? = some (.cells #[.slice none 0 0] 59 (0, 0))
  box : wr.heap[w.heap.size + 3]? = some (.cells #[v] 59 (0, 0))
  low : Below w.heap.size w wr
  eq : makeL root Ks = makeF root rk tl (Ks.drop i)
  len : tl.length = sumL (Ks.take i)
  rkl : rk.length ≤ i
theorem MakeW.below {w : World} {root : Nd} {Ks : List (List Nd)} {i : Nat} {rk : List Int} {tl : List Nd} {v : Value} {p0 : Option Addr × Nat} {KS : List (Option Addr × Nat)} {wr w' : World} (h : MakeW w root Ks i rk tl v p0 KS wr) (hb : Below wr.heap.size wr w') : MakeW w root Ks i rk tl v p0 KS w' :=
  ⟨h.in_.below hb, (hb.block _ (Array.getElem?_eq_some_iff.1 h.res).1).trans h.res, (hb.block _ (Array.getElem?_eq_some_iff.1 h.box).1).trans h.box, h.low.trans (hb.mono h.low.size), h.eq, h.len, h.rkl⟩
/-- The same behind the root's new kid. -/
structure MakeM (w : World) (root : Nd) (Ks : List (List Nd)) (i : Nat) (rk : List Int) (tl : List Nd) (v : Value) (KS : List (Option Addr × Nat)) (b7 : Nat) (A : Option Addr) (n c : Nat) (wr : World) : Prop where
  in_ : ∃ p0, MakeI w.heap.size root (rk ++ [((tl.length + 1 : Nat) : Int)]) tl v p0 KS wr
  res : wr.heap[w.heap.size + 1]? = some (.cells #[.slice none 0 0] 59 (0, 0))
  box : wr.heap[w.heap.size + 3]? = some (.cells #[v] 59 (0, 0))
  own : wr.heap[b7]? = some (.cells #[.slice A n c] 59 (0, 0))
  low : Below w.heap.size w wr
theorem row_apart {B : Nat} {w : World} {e t : TypeId} {s n b : Nat} {v : Value} {xs : List Value} {cs : Array Value} {fr : Nat × Nat} (h : w.ownsRow B e s v n xs) (hb : w.heap[b]? = some (.cells cs t fr)) (hne : e ≠ t) : v.ownBlock = none ∨ v.ownBlock ≠ some b := by
  rcases h.2 with ⟨rfl, _⟩ | ⟨g, cap, cur, rfl, _, hg, _⟩
  · exact .inl rfl
  · refine .inr fun heq => ?_
    simp only [Value.ownBlock, Option.some.injEq] at heq
    subst heq
    rw [hg] at hb
    simp only [Option.some.injEq, Obj.cells.injEq] at hb
    exact hne hb.2.1
theorem cell_set_far {w : World} {b g i j : Nat} {u : Value} (h : b ≠ g) : (w.setCell ⟨g, j, none⟩ u).cell? ⟨b, i, none⟩ = w.cell? ⟨b, i, none⟩ :=
  World.cell?_of_block (Below.heap_setCell _ _ _ _ h)
theorem blk_ne {B : Nat} {w : World} {e t : TypeId} {s n b : Nat} {v : Value} {xs : List Value} {cs : Array Value} {fr : Nat × Nat} (h : w.ownsRow B e s v n xs) (hb : w.heap[b]? = some (.cells cs t fr)) (hne : e ≠ t) : some b ≠ v.ownBlock := by
  rcases row_apart h hb hne with h1 | h1
  · rw [h1]; simp
  · exact Ne.symm h1
theorem typesApart2 : (3 : Nat) ≠ 59 := by decide
theorem typesApart3 : (54 : Nat) ≠ 59 := by decide
/-- Behind the root's new kid. -/
theorem make_mid {w : World} {root : Nd} {Ks : List (List Nd)} {i : Nat} {rk : List Int} {tl : List Nd} {g cN : Nat} {K0 : Option Addr} {c0 : Nat} {KS : List (Option Addr × Nat)} {W5 w1 : World} {b7 : Nat} {A : Option Addr} {n c : Nat} {o : Obj} {gg cap : Nat}
    (h : MakeW w root Ks i rk tl (.slice (some ⟨g, 0, none⟩) (tl.length + 1) cN) (K0, c0) KS W5) (h7 : W5.heap[b7]? = some (.cells #[.slice A n c] 59 (0, 0)))
    (ho : w1.ownsRow w.heap.size 3 1 (.slice (some ⟨gg, 0, none⟩) (rk.length + 1) cap) (rk.length + 1) (icells rk ++ [.int .i64 ((tl.length : Int) + 1)]))
    (hg : ((W5.alloc o).drew).grownBy w1 (Value.slice K0 rk.length c0).ownBlock) (hat : (Value.slice K0 rk.length c0).ownBlock = some gg ∨ gg = W5.heap.size + 1) :
    MakeM w root Ks i rk tl (.slice (some ⟨g, 0, none⟩) (tl.length + 1) cN) KS b7 A n c (w1.setCell ⟨g, 3, none⟩ (.slice (some ⟨gg, 0, none⟩) (rk.length + 1) cap)) := by
  have b : Below W5.heap.size W5 (W5.alloc o).drew := ((Below.refl _ _).alloc (Nat.le_refl _) _).drew
  have hV := h.below b
  have h7V := (b.block _ (Array.getElem?_eq_some_iff.1 h7).1).trans h7
  have top := hV.in_.top
  have lt := fun {k : Nat} {ob : Obj} (hk : ((W5.alloc o).drew).heap[k]? = some ob) => (Array.getElem?_eq_some_iff.1 hk).1
  have row1 := hV.in_.row.kept hg (own_apart hV.in_.row top (Ne.symm typesApart))
  have rest1 : KidsOwn w.heap.size w1 tl KS := ⟨h.in_.rest.1, fun j x p hx hp => (hV.in_.rest.2 j x p hx hp).kept hg (h.in_.far j x p hx hp)⟩
  have res1 := (hg.block _ (lt hV.res) (blk_ne top hV.res typesApart2)).trans hV.res
  have box1 := (hg.block _ (lt hV.box) (blk_ne top hV.box typesApart2)).trans hV.box
  have own1 := (hg.block _ (lt h7V) (blk_ne top h7V typesApart2)).trans h7V
  have low1 : Below w.heap.size w w1 := hV.low.grown hg hV.low.size (fun k hk => (top.lt k hk).1)
  obtain ⟨row2, g2⟩ := row1.stored 3 (.slice (some ⟨gg, 0, none⟩) (rk.length + 1) cap)
  have lt1 := fun {k : Nat} {ob : Obj} (hk : w1.heap[k]? = some ob) => (Array.getElem?_eq_some_iff.1 hk).1
  refine ⟨⟨(some ⟨gg, 0, none⟩, cap), ⟨?_, ?_, ?_, ?_⟩⟩, ?_, ?_, ?_, ?_⟩
  · have e : (nodeC { root with kids := rk } K0 c0 ++ flatN tl KS).set 3 (.slice (some ⟨gg, 0, none⟩) (rk.length + 1) cap) = nodeC { root with kids := rk ++ [((tl.length + 1 : Nat) : Int)] } (some ⟨gg, 0, none⟩) cap ++ flatN tl KS := by
      simp [nodeC]
    rw [← e]
    exact row2
  · have h1 := ho.kept g2 (own_apart ho row1 typesApart)
    unfold KidOwn
    have e : icells (rk ++ [((tl.length + 1 : Nat) : Int)]) = icells rk ++ [.int .i64 ((tl.length : Int) + 1)] := by simp [icells]
    rw [e, List.length_append, List.length_singleton]
    exact h1
  · exact rest1.grown row1 g2
  · intro j x p hx hp
    rw [List.length_append, List.length_singleton]
    rcases hat with hat | hat
    · rcases h.in_.far j x p hx hp with h1 | h1
      · exact .inl h1
      · refine .inr ?_
        rw [hat] at h1
        exact h1
    · cases hb : (Value.slice p.1 x.kids.length p.2).ownBlock with
      | none => exact .inl rfl
      | some z =>
        refine .inr fun heq => ?_
        have h1 := ((h.in_.rest.2 j x p hx hp).lt z hb).2
        simp only [Value.ownBlock, Option.some.injEq] at heq
        omega
  · exact (g2.block _ (lt1 res1) (blk_ne row1 res1 typesApart3)).trans res1
  · exact (g2.block _ (lt1 box1) (blk_ne row1 box1 typesApart3)).trans box1
  · exact (g2.block _ (lt1 own1) (blk_ne row1 own1 typesApart3)).trans own1
  · exact low1.setCell (row1.lt g rfl).1 _
theorem cells_own {B : Nat} {w : World} {e : TypeId} {s n c m : Nat} {A : Option Addr} {xs : List Value} (h : w.ownsRow B e s (.slice A n c) m xs) : Cells w A xs := by
  obtain ⟨A', c', hv, hc, _⟩ := own_block h
  cases hv
  exact hc
theorem nil_own {B : Nat} {w : World} {e : TypeId} {s n c m : Nat} {A : Option Addr} {xs : List Value} (h : w.ownsRow B e s (.slice A n c) m xs) : A = none → n = 0 ∧ c = 0 := by
  obtain ⟨A', c', hv, _, _, _, h3⟩ := own_block h
  cases hv
  intro hn
  rcases h3 with ⟨_, h4, h5⟩ | ⟨g, hg, _⟩
  · exact ⟨h4, h5⟩
  · rw [hn] at hg; cases hg
theorem set_grown (w : World) (b j : Nat) (u : Value) : w.grownBy (w.setCell ⟨b, j, none⟩ u) (some b) :=
  ⟨rfl, rfl, rfl, by simp [World.setCell], fun i _ hi => Below.heap_setCell _ _ _ _ (fun e => hi (by rw [e]))⟩
/-- Behind a tree's nodes. -/
theorem make_next {w : World} {root : Nd} {Ks : List (List Nd)} {i : Nat} {rk : List Int} {tl : List Nd} {v : Value} {p0 : Option Addr × Nat} {KS : List (Option Addr × Nat)} {wc W6 w7 : World} {K : List Nd} {v6 v7 : Value} {KS6 : List (Option Addr × Nat)}
    (h : MakeI w.heap.size root rk tl v p0 KS wc) (hres : wc.heap[w.heap.size + 1]? = some (.cells #[.slice none 0 0] 59 (0, 0))) (hbox : wc.heap[w.heap.size + 3]? = some (.cells #[v] 59 (0, 0))) (hlow : Below w.heap.size w wc)
    (b6 : Below wc.heap.size wc W6) (h6 : OwnT wc.heap.size W6 v6 K KS6)
    (ho : w7.ownsRow w.heap.size 54 5 v7 (tl.length + 1 + K.length) (nodeC { root with kids := rk } p0.1 p0.2 ++ flatN tl KS ++ flatN K KS6)) (hg : W6.grownBy w7 v.ownBlock)
    (heq : makeL root Ks = makeF root rk (tl ++ K) (Ks.drop (i + 1))) (hlen : (tl ++ K).length = sumL (Ks.take (i + 1))) (hrk : rk.length ≤ i + 1) :
    MakeW w root Ks (i + 1) rk (tl ++ K) v7 p0 (KS ++ KS6) (w7.setCell ⟨w.heap.size + 3, 0, none⟩ v7) := by
  have hV := h.below b6
  have lt6 := fun {k : Nat} {ob : Obj} (hk : W6.heap[k]? = some ob) => (Array.getElem?_eq_some_iff.1 hk).1
  have res6 := (b6.block _ (Array.getElem?_eq_some_iff.1 hres).1).trans hres
  have box6 := (b6.block _ (Array.getElem?_eq_some_iff.1 hbox).1).trans hbox
  have low6 := hlow.trans (b6.mono hlow.size)
  have res7 := (hg.block _ (lt6 res6) (blk_ne hV.row res6 typesApart3)).trans res6
  have box7 := (hg.block _ (lt6 box6) (blk_ne hV.row box6 typesApart3)).trans box6
  have low7 : Below w.heap.size w w7 := low6.grown hg low6.size (fun k hk => (hV.row.lt k hk).1)
  have top7 := hV.top.kept hg (own_apart hV.top hV.row typesApart)
  have rest7 := hV.rest.grown hV.row hg
  have new7 := (h6.2.mono hlow.size).grown hV.row hg
  have all7 := rest7.append new7
  have g8 := set_grown w7 (w.heap.size + 3) 0 v7
  have ne1 : some (w.heap.size + 1) ≠ some (w.heap.size + 3) := by simp
  refine ⟨⟨?_, ?_, ?_, ?_⟩, ?_, ?_, ?_, heq, hlen, hrk⟩
  · have := ho.kept g8 (row_apart ho box7 typesApart3)
    rw [flatN_append _ _ _ _ h.rest.1, ← List.append_assoc, List.length_append, show tl.length + K.length + 1 = tl.length + 1 + K.length by omega]
    exact this
  · exact top7.kept g8 (row_apart top7 box7 typesApart2)
  · exact ⟨all7.1, fun j x p hx hp => (all7.2 j x p hx hp).kept g8 (row_apart (all7.2 j x p hx hp) box7 typesApart2)⟩
  · intro j x p hx hp
    rw [List.getElem?_append] at hx hp
    rw [h.rest.1] at hp
    split at hx
    · rename_i hj
      rw [if_pos hj] at hp
      exact h.far j x p hx hp
    · rename_i hj
      rw [if_neg hj] at hp
      cases hb : (Value.slice p.1 x.kids.length p.2).ownBlock with
      | none => exact .inl rfl
      | some z =>
        refine .inr fun heq2 => ?_
        have h1 := ((h6.2.2 _ x p hx hp).lt z hb).1
        have h2 := (h.top.lt z heq2.symm).2
        omega
  · exact (g8.block _ (Array.getElem?_eq_some_iff.1 res7).1 ne1).trans res7
  · have := heap_setCell_same w7 (w.heap.size + 3) 0 _ _ v7 box7
    simpa using this
  · exact low7.setCell (by simp) _
/-- How Make ends. -/
def MakeEnd (w : World) (T : List Nd) (e : Ending) (w' : World) : Prop := ∃ v KS, e = .returned (.agg #[v]) ∧ OwnT w.heap.size w' v T KS ∧ Below w.heap.size w w'

set_option maxRecDepth 100000 in
set_option maxHeartbeats 4000000 in
theorem make_calls (root : Nd) (R : Option Addr) (rn rc : Nat) (G : Option Addr) (gc : Nat) (Ks : List (List Nd)) (w : World) (hs : Small Ks) (hG : Forest w G Ks) :
    Calls Tryd.prog 41 #[.agg #[.int .i64 root.kind, .string root.text, .int .i64 root.num, .slice R rn rc, .int .i64 root.pos], .slice G Ks.length gc] w (MakeEnd w (makeL root Ks)) := by
  have HG := Lib.hid hG
  have HS := Lib.hid hs
  obtain ⟨i0, hi, hz0, hz1, hz2⟩ := info_parts infoNode
  have HF := Lib.hid (And.intro hi (And.intro hz0 (And.intro hz1 hz2)))
  obtain ⟨j0, hj, hy0, hy1, hy2⟩ := info_parts infoInt
  have HE := Lib.hid (And.intro hj (And.intro hy0 (And.intro hy1 hy2)))
  have hkl := hs.1
  clear hi hz0 hz1 hz2 hG hj hy0 hy1 hy2 hs
  go_enter Tryd.func41, Tryd.ntmps41
  go_wp2_with (fail)
  obtain ⟨W0, hW0⟩ : ∃ W0, ((((w.alloc (.cells #[.int .i64 root.kind, .string root.text, .int .i64 root.num, .slice none 0 0, .int .i64 root.pos] 54)).alloc (.cells #[.slice none 0 0] 59)).alloc
    (.cells #[.int .i64 root.kind, .string root.text, .int .i64 root.num, .slice none 0 0, .int .i64 root.pos] 54)).alloc (.cells #[.slice (some ⟨w.heap.size + 1 + 1, 0, none⟩) 1 1] 59)) = W0 := ⟨_, rfl⟩
  rw [hW0]
  have inv0 : MakeW w root Ks 0 [] [] (.slice (some ⟨w.heap.size + 1 + 1, 0, none⟩) 1 1) (none, 0) [] W0 := by
    have hb : Below w.heap.size w W0 := by rw [← hW0]; exact ((((Below.refl _ _).alloc (Nat.le_refl _) _).alloc (by simp) _).alloc (by simp; omega) _).alloc (by simp; omega) _
    have hn : W0.heap[w.heap.size + 1 + 1]? = some (.cells #[.int .i64 root.kind, .string root.text, .int .i64 root.num, .slice none 0 0, .int .i64 root.pos] 54 (0, 0)) := by rw [← hW0]; exact alloc_old (alloc_at (by simp) _) _
    exact ⟨⟨⟨by simp [nodeC, flatN], .inr ⟨w.heap.size + 1 + 1, 1, _, rfl, by omega, hn, Nat.le_refl _, by decide, rfl, rfl⟩⟩, World.ownsRow_nil _ _ _ _, ⟨rfl, fun i x p hx => by simp at hx⟩, fun i x p hx => by simp at hx⟩,
      by rw [← hW0]; exact alloc_old (alloc_old (alloc_at (by simp) _) _) _, by rw [← hW0]; exact alloc_at (by simp) _, hb, rfl, by simp [sumL], Nat.le_refl _⟩
  have INV0 := Lib.hid inv0
  clear inv0 hW0
  go_loopw [15] (fun u wr => ∃ (i : Nat) (rk : List Int) (tl : List Nd) (v : Value) (p0 : Option Addr × Nat) (KS : List (Option Addr × Nat)), u = .int .i64 i ∧ i ≤ Ks.length ∧ Hid (MakeW w root Ks i rk tl v p0 KS wr)) (fun u _ => Ks.length - (intOf u).toNat)
  case atStart => exact ⟨0, [], [], _, (none, 0), [], rfl, by omega, INV0⟩
  case round =>
    obtain ⟨i, rk, tl, v, p0, KS, rfl, hi, hI⟩ := hrel
    obtain ⟨wo, rfl⟩ : ∃ wo : World, wo = wr := ⟨_, rfl⟩
    obtain ⟨N, cN, rfl, _, hcN, _, hN⟩ := own_block hI.out.in_.row
    rcases hN with ⟨_, h0, _⟩ | ⟨g, rfl, hg1, hg2⟩
    · omega
    by_cases hlt : i < Ks.length
    · obtain ⟨K, hK⟩ : ∃ K, Ks[i]? = some K := ⟨_, List.getElem?_eq_getElem hlt⟩
      obtain ⟨a, A, c, rfl, hc0, hT0⟩ := HG.out i K hK
      have hc := hI.out.low.cell_keep hc0
      have hdrop : Ks.drop i = K :: Ks.drop (i + 1) := by
        obtain ⟨h1, rfl⟩ := List.getElem?_eq_some_iff.1 hK
        exact List.drop_eq_getElem_cons h1
      have hsum := sumL_take Ks i K hK
      have hKm := List.mem_of_getElem? hK
      have heq := hI.out.eq
      rw [hdrop, makeF] at heq
      have b5 : Below wo.heap.size wo (wo.alloc (.cells #[.slice A K.length c] 59)) := (Below.refl _ _).alloc (Nat.le_refl _) _
      have hM := hI.out.below b5
      have k7 : (wo.alloc (.cells #[.slice A K.length c] 59)).heap[wo.heap.size]? = some (.cells #[.slice A K.length c] 59 (0, 0)) := World.alloc_heap_new wo _
      obtain ⟨W5, hW5⟩ : ∃ W5, wo.alloc (.cells #[.slice A K.length c] 59) = W5 := ⟨_, rfl⟩
      rw [hW5] at b5 hM k7
      have HM := Lib.hid hM
      have HT0 := Lib.hid hT0
      have HK7 := Lib.hid k7
      have HB5 := Lib.hid b5
      have HW5 := Lib.hid hW5
      have HEQ := Lib.hid heq
      have HSUM := Lib.hid hsum
      have HKM := Lib.hid hKm
      have t7 : W5.cell? ⟨wo.heap.size, 0, none⟩ = some (.slice A K.length c) := by simp [World.cell?, k7]
      have t5 : W5.cell? ⟨w.heap.size + 1 + 1 + 1, 0, none⟩ = some (.slice (some ⟨g, 0, none⟩) (tl.length + 1) cN) := by simp [World.cell?, hM.box]
      clear hI hT0 hc0 hM k7 b5 hW5 heq hsum hKm hK hdrop
      by_cases hK0 : K.length = 0
      · obtain rfl := List.eq_nil_of_length_eq_zero hK0
        simp only [List.length_nil] at t7 HW5
        clear hK0
        go_upto_region 6 with (fail)
        rw [HW5.out]
        go_wp2_with (fail)
        refine ⟨⟨i + 1, rk, tl, _, p0, KS, by simp, by omega, Lib.hid ⟨HM.out.in_, HM.out.res, HM.out.box, HM.out.low, ?_, ?_, ?_⟩⟩, by simp [intOf]; omega⟩
        · have := HEQ.out
          rwa [if_pos rfl] at this
        · rw [HSUM.out.2, HM.out.len]; rfl
        · have := HM.out.rkl; omega
      · have e1 : ((K.length : Int) == 0) = false := by rw [beq_eq_false_iff_ne]; omega
        have HK0 := Lib.hid hK0
        clear hK0
        go_upto_region 6 with (fail)
        rw [HW5.out]
        go_upto_region 8 with (fail)
        go_cut [8] (fun v8 wc => v8 = .int .i64 ((tl.length : Int) + 1) ∧ MakeM w root Ks i rk tl (.slice (some ⟨g, 0, none⟩) (tl.length + 1) cN) KS wo.heap.size A K.length c wc)
        case first =>
          obtain ⟨K0, c0⟩ := p0
          have r3 : W5.cell? ⟨g, 3, none⟩ = some (.slice K0 rk.length c0) := HM.out.in_.row.cellAt 3 (by omega)
          have f3 := HM.out.in_.row.frozenAt 3
          have lg5 : g < W5.heap.size := (HM.out.in_.row.lt g rfl).2
          have lb5 : w.heap.size + 1 + 1 + 1 < W5.heap.size := (Array.getElem?_eq_some_iff.1 HM.out.box).1
          have ag : (Value.slice K0 rk.length c0).ownBlock ≠ some g := by
            rcases own_apart HM.out.in_.top HM.out.in_.row typesApart with h | h
            · rw [h]; simp
            · exact h
          have ab : (Value.slice K0 rk.length c0).ownBlock ≠ some (w.heap.size + 1 + 1 + 1) := by
            rcases row_apart HM.out.in_.top HM.out.box (by decide) with h | h
            · rw [h]; simp
            · exact h
          have hbg : (w.heap.size + 1 + 1 + 1) ≠ g := fun e => by
            have h1 := HM.out.box
            rcases row_apart HM.out.in_.row h1 (by decide) with h | h
            · cases h
            · exact h (by rw [e]; rfl)
          have z1 : 0 < (tl.length : Int) + 1 := by omega
          have hrl : rk.length ≤ 2000000 := by have := HM.out.rkl; omega
          have mx : maxLen = 9223372036854775807 := rfl
          have HLOW := Lib.hid (HM.out.low.size)
          have bd : Below W5.heap.size W5 W5.drew := (Below.refl _ _).drew
          have ba : Below W5.heap.size W5 (W5.alloc (.cells #[.int .i64 ((tl.length : Int) + 1)] 3)).drew := ((Below.refl _ _).alloc (Nat.le_refl _) _).drew
          have S0 := Lib.hid (And.intro (bd.cell_keep t5) (And.intro (bd.cell_keep r3) ((bd.frozen (p := ⟨g, 3, none⟩) lg5).trans f3)))
          have S1 := Lib.hid (And.intro (ba.cell_keep t5) (And.intro (ba.cell_keep r3) ((ba.frozen (p := ⟨g, 3, none⟩) lg5).trans f3)))
          clear bd ba
          go_region_law
            ((refine step_append_lies _ (by rfl) _ _ _ (by rfl) w.heap.size 3 j0 _ 1 8 Tryd.underlying38 HE.out.1 HE.out.2.1 HE.out.2.2.1 HE.out.2.2.2 rfl (by omega) (.slice K0 rk.length c0) rk.length (icells rk) (by rfl) ((HM.out.in_.top.alloc _).drew)
                ⟨W5.heap.size, 0, none⟩ 1 1 [.int .i64 ((tl.length : Int) + 1)] (by rfl) (by rfl) (World.news_of_block (cs := #[.int .i64 ((tl.length : Int) + 1)]) (t := 3) (fr := (0, 0)) (heap_alloc_new W5 _)) (by simp [Value.oneCell'])
                (by omega) (by omega) (by omega) (by have := HLOW.out; simp; omega) (W5.heap.size + 1) (by simp) ?_; intro gg cap w1 hown1 hgrow hat hlt1; have q5 := (hgrow.cell_far _ (by simp; omega) (Ne.symm ab)).trans S1.out.1; have q3 := (hgrow.cell_far _ (by simp; omega) (Ne.symm ag)).trans S1.out.2.1; have qf := (hgrow.frozen_far _ (by simp; omega) (Ne.symm ag)).trans S1.out.2.2))
          all_goals
            go_wp2_with (fail)
            go_meet
            exact ⟨rfl, make_mid HM.out HK7.out hown1 hgrow hat⟩
        case rest =>
          obtain ⟨rfl, hmid⟩ := hcut
          obtain ⟨p1, hin⟩ := hmid.in_
          have hlowd := hmid.low.drew
          have hKb : K.length ≤ 2000000 := by have := sumL_mem HKM.out; have := HS.out.2.1; omega
          have hTc := HT0.out.below hlowd
          have HMV := Lib.hid (moved_calls A c K ((tl.length : Int) + 1) wc.drew hKb (HS.out.2.2 K HKM.out) hTc)
          have q5 : wc.cell? ⟨w.heap.size + 1 + 1 + 1, 0, none⟩ = some (.slice (some ⟨g, 0, none⟩) (tl.length + 1) cN) := by simp [World.cell?, hmid.box]
          have q7 : wc.cell? ⟨wo.heap.size, 0, none⟩ = some (.slice A K.length c) := by simp [World.cell?, hmid.own]
          have lb5 : w.heap.size + 1 + 1 + 1 < wc.heap.size := (Array.getElem?_eq_some_iff.1 hmid.box).1
          have hf5 : wc.frozen? ⟨w.heap.size + 1 + 1 + 1, 0, none⟩ = false := by simp [World.frozen?, hmid.box]
          have htl : tl.length ≤ 2000000 := by have := HM.out.len; have := HSUM.out.1; have := HS.out.2.1; omega
          have mx : maxLen = 9223372036854775807 := rfl
          have HMID := Lib.hid hmid
          have HIN := Lib.hid hin
          have hmv : Calls Tryd.prog 77 #[.slice A K.length c, .int .i64 ((tl.length : Int) + 1)] wc.drew fun e W6 => ∃ A6 c6 KS6, e = .returned (.slice A6 K.length c6) ∧ OwnT wc.heap.size W6 (.slice A6 K.length c6) (K.map (moveNd ((tl.length : Int) + 1))) KS6 ∧ Below wc.heap.size wc W6 := by
            refine HMV.out.mono ?_
            rintro e W6 ⟨v6, KS6, rfl, h6, b6⟩
            obtain ⟨A6, c6, rfl, _⟩ := own_cells h6.1
            rw [List.length_map] at h6 ⊢
            exact ⟨A6, c6, KS6, rfl, h6, (Below.refl _ _).drew.trans b6⟩
          have HV := Lib.hid hmv
          clear hmid hin hlowd hTc HB5 HK7 HMV hmv
          go_wp2_with (fail)
          go_region_law
            (first
              | (refine step_app (by rfl) _ _ _ (by rfl) w.heap.size 54 i0 (.agg #[.int .i64 0, .string ByteArray.empty, .int .i64 0, .slice none 0 0, .int .i64 0]) 5 64 Tryd.underlying57 HF.out.1 HF.out.2.1 HF.out.2.2.1 HF.out.2.2.2 rfl (by decide) (.slice (some ⟨g, 0, none⟩) (tl.length + 1) cN) (tl.length + 1) _ (by rfl) (HIN.out.below B6.out).row A6 K.length c6 (flatN (K.map (moveNd ((tl.length : Int) + 1))) KS6) (by rfl) (by rw [flatN_length _ _ H6.out.2.1, List.length_map]) (cells_own H6.out.1) (nil_own H6.out.1) (flatN_one _ _ H6.out.2.1) (by omega) (by omega) (Nat.le_trans HMID.out.low.size B6.out.size) ?_; intro v7 w7 o7 g7; obtain ⟨A7, c7, rfl, _⟩ := own_cells o7; have O7 := Lib.hid o7; have G7 := Lib.hid g7; have s5 : w7.cell? ⟨w.heap.size + 1 + 1 + 1, 0, none⟩ = some (.slice (some ⟨g, 0, none⟩) (tl.length + 1) cN) := g7.cell r5 (blk_ne (HIN.out.below B6.out).row ((B6.out.block _ lb5).trans HMID.out.box) typesApart3); have sf5 : w7.frozen? ⟨w.heap.size + 1 + 1 + 1, 0, none⟩ = false := (g7.frozen_far _ (Nat.lt_of_lt_of_le lb5 B6.out.size) (blk_ne (HIN.out.below B6.out).row ((B6.out.block _ lb5).trans HMID.out.box) typesApart3)).trans rf5; clear o7 g7)
              | (go_simp; go_at_call 77; refine HV.out.mono ?_; rintro e W6 ⟨A6, c6, KS6, rfl, h6, b6⟩; have H6 := Lib.hid h6; have B6 := Lib.hid b6; have r5 := b6.cell_keep q5; have rf5 : W6.frozen? ⟨w.heap.size + 1 + 1 + 1, 0, none⟩ = false := (b6.frozen (p := ⟨w.heap.size + 1 + 1 + 1, 0, none⟩) lb5).trans hf5; clear h6 b6))
          all_goals
            go_wp2_with (fail)
            have e1 : (((tl.length + 1 : Nat)) : Int) = (tl.length : Int) + 1 := by simp
            refine ⟨⟨i + 1, rk ++ [((tl.length + 1 : Nat) : Int)], tl ++ K.map (moveNd ((tl.length : Int) + 1)), _, p1, KS ++ KS6, by simp, by omega, Lib.hid (make_next HIN.out HMID.out.res HMID.out.box HMID.out.low B6.out H6.out ?_ G7.out ?_ ?_ ?_)⟩, by simp [intOf]; omega⟩
            · rw [List.length_map]; exact O7.out
            · have := HEQ.out
              rw [if_neg (by intro h; rw [h] at HK0; exact HK0.out rfl), e1] at this
              rw [e1]
              exact this
            · rw [List.length_append, List.length_map, HSUM.out.2, HM.out.len]
            · have := HM.out.rkl
              rw [List.length_append, List.length_singleton]
              omega
    · have hil : i = Ks.length := by omega
      have q := hI.out.box
      have q1 : wo.cell? ⟨w.heap.size + 1 + 1 + 1, 0, none⟩ = some (.slice (some ⟨g, 0, none⟩) (tl.length + 1) cN) := by simp [World.cell?, q]
      have q2 : wo.cell? ⟨w.heap.size + 1, 0, none⟩ = some (.slice none 0 0) := by simp [World.cell?, hI.out.res]
      have q3 : wo.frozen? ⟨w.heap.size + 1, 0, none⟩ = false := by simp [World.frozen?, hI.out.res]
      have heq := hI.out.eq
      rw [hil, List.drop_of_length_le (Nat.le_refl _), makeF] at heq
      have HEQ := Lib.hid heq
      clear heq hil q
      go_wp2_with (fail)
      obtain ⟨v, hv⟩ : ∃ v, Value.slice (some ⟨g, 0, none⟩) (tl.length + 1) cN = v := ⟨_, rfl⟩
      rw [hv] at hI ⊢
      obtain ⟨WE, hWE⟩ : ∃ WE, wo.setCell ⟨w.heap.size + 1, 0, none⟩ v = WE := ⟨_, rfl⟩
      rw [hWE]
      have r1 : WE.heap[w.heap.size + 1]? = some (.cells #[v] 59 (0, 0)) := by
        rw [← hWE]; exact heap_setCell_same wo (w.heap.size + 1) 0 _ _ _ hI.out.res
      have r2 : WE.cell? ⟨w.heap.size + 1, 0, none⟩ = some v := by simp [World.cell?, r1]
      have g2 : wo.grownBy WE (some (w.heap.size + 1)) := by
        rw [← hWE]
        exact ⟨rfl, rfl, rfl, by simp [World.setCell], fun j _ hj => Below.heap_setCell _ _ _ _ (fun e => hj (by rw [e]))⟩
      refine bodyPost_ret (v := .agg #[v]) ?hres rfl ?hend
      case hres => simp [results, Tryd.results41, go_sem, r2]
      case hend =>
        have hO := hI.out.in_.own
        refine ⟨v, p0 :: KS, rfl, ?_, ?_⟩
        · rw [HEQ.out]
          exact ⟨hO.1.kept g2 (row_apart hO.1 hI.out.res (by decide)), hO.2.1, fun i x p hx hp => (hO.2.2 i x p hx hp).kept g2 (row_apart (hO.2.2 i x p hx hp) hI.out.res (by decide))⟩
        · rw [← hWE]
          exact hI.out.low.setCell (by simp) _
end Go.Proofs.YtnepdjgbfhakmaaDoor

namespace Go.Proofs.YtnepdjgbfhakmaaDoor
set_option linter.unusedVariables false
set_option linter.unusedSimpArgs false
open Go.RowKit Go.Shelf

theorem OwnT.grownT {B B' : Nat} {w w' : World} {v v' : Value} {T : List Nd} {KS : List (Option Addr × Nat)} {s n : Nat} {xs : List Value} (h : OwnT B w v T KS) (hv : w.ownsRow B' 59 s v' n xs) (hg : w.grownBy w' v'.ownBlock) : OwnT B w' v T KS :=
  ⟨h.1.kept hg (own_apart h.1 hv typesApart3), h.2.1, fun i x p hx hp => (h.2.2 i x p hx hp).kept hg (own_apart (h.2.2 i x p hx hp) hv typesApart2)⟩
/-- Trees, each of the call's own. -/
def RowT (w : World) (vs : List Value) (Ks : List (List Nd)) : Prop := vs.length = Ks.length ∧ ∀ (i : Nat) (K : List Nd), Ks[i]? = some K → ∃ v KS, vs[i]? = some v ∧ OwnT 0 w v K KS
theorem RowT.nil (w : World) : RowT w [] [] := ⟨rfl, fun i K h => by simp at h⟩
theorem RowT.below {w w' : World} {vs : List Value} {Ks : List (List Nd)} (h : RowT w vs Ks) (hb : Below w.heap.size w w') : RowT w' vs Ks := ⟨h.1, fun i K hK => by
  obtain ⟨v, KS, hv, hO⟩ := h.2 i K hK
  exact ⟨v, KS, hv, hO.below hb⟩⟩
theorem RowT.grown {B' : Nat} {w w' : World} {vs : List Value} {Ks : List (List Nd)} {v' : Value} {s n : Nat} {xs : List Value} (h : RowT w vs Ks) (hv : w.ownsRow B' 59 s v' n xs) (hg : w.grownBy w' v'.ownBlock) : RowT w' vs Ks := ⟨h.1, fun i K hK => by
  obtain ⟨v, KS, hv2, hO⟩ := h.2 i K hK
  exact ⟨v, KS, hv2, hO.grownT hv hg⟩⟩
theorem RowT.snoc {w : World} {vs : List Value} {Ks : List (List Nd)} {v : Value} {K : List Nd} {KS : List (Option Addr × Nat)} {B : Nat} (h : RowT w vs Ks) (hO : OwnT B w v K KS) : RowT w (vs ++ [v]) (Ks ++ [K]) := by
  refine ⟨by simp [h.1], fun i L hL => ?_⟩
  rw [List.getElem?_append] at hL
  split at hL
  · rename_i hi
    obtain ⟨u, KS', hu, hO'⟩ := h.2 i L hL
    exact ⟨u, KS', by rw [List.getElem?_append_left (by rw [h.1]; exact hi)]; exact hu, hO'⟩
  · rename_i hi
    have h0 : i - Ks.length = 0 := by
      have := (List.getElem?_eq_some_iff.1 hL).1
      simp at this; omega
    rw [h0] at hL
    simp at hL
    subst hL
    refine ⟨v, KS, ?_, hO.mono (Nat.zero_le _)⟩
    rw [List.getElem?_append_right (by rw [h.1]; omega), h.1, h0]
    rfl
theorem RowT.forest {B : Nat} {w : World} {A : Option Addr} {n c : Nat} {vs : List Value} {Ks : List (List Nd)} (h : RowT w vs Ks) (ho : w.ownsRow B 59 1 (.slice A n c) n vs) : Forest w A Ks := fun i K hK => by
  obtain ⟨v, KS, hv, hO⟩ := h.2 i K hK
  obtain ⟨A1, c1, rfl, _⟩ := own_block hO.1
  obtain ⟨_, _, _, hT, _⟩ := own_tree hO
  obtain ⟨hi, hvi⟩ := List.getElem?_eq_some_iff.1 hv
  obtain ⟨a, ha, hc⟩ := cells_own ho i hi
  exact ⟨a, A1, c1, ha, by rw [hc, hvi], hT⟩
/-- A row of trees of the call's own. -/
def RowI (B : Nat) (u : Value) (Ks : List (List Nd)) (w : World) : Prop := ∃ vs, w.ownsRow B 59 1 u Ks.length vs ∧ RowT w vs Ks
theorem RowI.nil (B : Nat) (w : World) : RowI B (.slice none 0 0) [] w := ⟨[], World.ownsRow_nil _ _ _ _, RowT.nil w⟩
theorem RowI.below {B : Nat} {u : Value} {Ks : List (List Nd)} {w w' : World} (h : RowI B u Ks w) (hb : Below w.heap.size w w') : RowI B u Ks w' := by
  obtain ⟨vs, h1, h2⟩ := h
  exact ⟨vs, own_below' h1 hb, h2.below hb⟩
theorem RowI.push {B B' : Nat} {w W6 : World} {u v v6 : Value} {Ks : List (List Nd)} {K : List Nd} {KS : List (Option Addr × Nat)} {vs : List Value} (o : Obj) (h1 : w.ownsRow B 59 1 u Ks.length vs) (h2 : RowT w vs Ks) (hO : OwnT B' w v K KS)
    (h6 : W6.ownsRow B 59 1 v6 (Ks.length + 1) (vs ++ [v])) (hg : (w.alloc o).grownBy W6 u.ownBlock) : RowI B v6 (Ks ++ [K]) W6 := by
  have hb : Below w.heap.size w (w.alloc o) := (Below.refl _ _).alloc (Nat.le_refl _) _
  refine ⟨vs ++ [v], by simpa using h6, ?_⟩
  exact ((h2.snoc hO).below hb).grown (own_below' h1 hb) hg
theorem RowI.forest {B : Nat} {A : Option Addr} {n c : Nat} {Ks : List (List Nd)} {w : World} (h : RowI B (.slice A n c) Ks w) : n = Ks.length ∧ Forest w A Ks := by
  obtain ⟨vs, h1, h2⟩ := h
  obtain ⟨A', c', hv, _⟩ := own_block h1
  cases hv
  exact ⟨rfl, h2.forest h1⟩
end Go.Proofs.YtnepdjgbfhakmaaDoor
