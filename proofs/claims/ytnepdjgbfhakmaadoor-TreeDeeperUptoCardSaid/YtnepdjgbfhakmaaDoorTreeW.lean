/- Trees: what Walk hands out. Trees: Walk. Trees: Depth. -/
import Derived.Test.YtnepdjgbfhakmaaDoorTreeG
import Derived.Test.YtnepdjgbfhakmaaDoorIter
import Derived.Test.YtnepdjgbfhakmaaDoorLines2
import Derived.Test.YtnepdjgbfhakmaaDoorTreeC1
import Derived.Test.YtnepdjgbfhakmaaDoorTp
import Derived.RegionTactic
import Derived.StillTailTactics
import Derived.Test.YtnepdjgbfhakmaaDoorPlace2
namespace Go.Proofs.YtnepdjgbfhakmaaDoor
set_option linter.unusedVariables false
set_option linter.unusedSimpArgs false
open Go.RowKit Go.Shelf
attribute [local go_sem] Oper.semAt_some

/-- A row with its places. -/
def pairsL (d : List Int) : List (Nat × Int) := (List.range d.length).map fun i => (i, d.getD i 0)
theorem pairsL_length (d : List Int) : (pairsL d).length = d.length := by simp [pairsL]
theorem pairsL_at (d : List Int) (k : Nat) (h : k < d.length) : (pairsL d)[k]? = some (k, d.getD k 0) := by simp [pairsL, h]
theorem take_snoc' {α : Type} (l : List α) (k : Nat) (x : α) (h : l[k]? = some x) : l.take (k + 1) = l.take k ++ [x] := by
  obtain ⟨h1, rfl⟩ := List.getElem?_eq_some_iff.1 h
  exact List.take_succ_eq_append_getElem h1
def pairRow (p : Nat × Int) : Array Value := #[.int .i64 (p.1 : Int), .int .i64 p.2]
theorem add_block (a : Addr) (i : Nat) : (a.add i).block = a.block := by unfold Addr.add; split <;> rfl
theorem cells_same {S : List Nat} {w W : World} {A : Option Addr} {cs : List Value} (hS : SameAt S w W) (hA : Cells w A cs) (hb : ∀ a, A = some a → a.block ∈ S) : Cells W A cs := fun i hi => by
  obtain ⟨a, rfl, hc⟩ := hA i hi
  exact ⟨a, rfl, (World.cell?_of_block (by rw [add_block]; exact hS.2 _ (hb a rfl))).trans hc⟩

set_option maxRecDepth 100000 in
set_option maxHeartbeats 1000000 in
theorem walk_iter (B : Nat) (A : Option Addr) (c : Nat) (d : List Int) (S : List Nat) (w : World) (hd : d.length ≤ 2000000) (hB : w.cell? ⟨B, 0, none⟩ = some (.slice A d.length c)) (hBS : B ∈ S) (hA : Cells w A (icells d)) (hAS : ∀ a, A = some a → a.block ∈ S) :
    Iter Tryd.prog 110 #[.pointer (some ⟨B, 0, none⟩)] pairRow S (pairsL d) w := by
  intro y J Jx W hS hJ hJx hY h0
  have hBW : W.cell? ⟨B, 0, none⟩ = some (.slice A d.length c) := (World.cell?_of_block (hS.2 B hBS)).trans hB
  refine (callsIn_wide (n := 1)).1 (callsIn_of_wp Tryd.func110 rfl trivial ?_ rfl)
  simp only [Tryd.ntmps110, List.size_toArray, List.length_cons, List.length_nil, Nat.reduceAdd, Nat.reduceSub, Array.replicate_succ, Array.replicate_zero, List.push_toArray, List.append_toArray, List.nil_append, List.cons_append]
  have HS := Lib.hid hS
  have HA := Lib.hid hA
  have HAS := Lib.hid hAS
  clear hS hA hAS hB
  gi_wp2
  gi_loopw [7] (fun v wr => ∃ k : Nat, v = .int .i64 (k : Int) ∧ k ≤ d.length ∧ J ((pairsL d).take k) wr ∧ Hid (SameAt S w wr)) (fun v _ => d.length - (intOf v).toNat)
  case atStart => exact ⟨0, rfl, by omega, h0, HS⟩
  case round =>
    obtain ⟨k, rfl, hk, hj, hs⟩ := hrel
    by_cases hlt : k < d.length
    · obtain ⟨a, rfl, hcell0⟩ := cells_same hs.out HA.out HAS.out k (by simpa using hlt)
      have hcell : wr.cell? (a.add k) = some (.int .i64 (d.getD k 0)) := by rw [hcell0]; simp [icells, List.getD, hlt]
      clear hcell0
      have hat := pairsL_at d k hlt
      obtain ⟨z, hz⟩ : ∃ z, d.getD k 0 = z := ⟨_, rfl⟩
      rw [hz] at hcell hat
      have htk := take_snoc' (pairsL d) k _ hat
      have hpre : (pairsL d).take k ++ [(k, z)] <+: pairsL d := by rw [← htk]; exact List.take_prefix _ _
      have hy := hY ((pairsL d).take k) (k, z) wr hpre hj
      have HYC := Lib.hid hy
      have HP := Lib.hid hpre
      have HTK := Lib.hid htk
      clear hz hat htk hpre hy hj hY
      rcases HYC.out with ⟨g, cap, rfl, hent, hcall⟩ | ⟨l, rfl, fn, tmps, assign, body, hy, hR⟩
      · have HC := Lib.hid hcall
        clear hcall HYC
        gi_wp2
        refine ⟨trivial, ?_⟩
        refine ((callsIn_wide (n := 0)).2 HC.out).mono ?_
        rintro e W2 (⟨rfl, hJ2, hS2⟩ | ⟨rfl, hJ2⟩)
        · gi_wp2
          exact ⟨⟨k + 1, int_eq (by simp), by omega, by rw [HTK.out]; exact hJ2, Lib.hid (hs.out.trans hS2)⟩, by simp [intOf]; omega⟩
        · gi_wp2
          refine bodyPost_ret (results_none rfl _ _ _) rfl ?_
          exact ⟨rfl, .inr ⟨_, HP.out, by simp, hJ2⟩⟩
      · have HR := Lib.hid hR
        clear hR HYC
        dsimp only [pairRow] at hy
        gi_wp2
        refine (roundIn_any HR.out).mono ?_
        rintro e W2 (⟨rfl, hJ2, hS2⟩ | ⟨rfl, hJ2⟩)
        · gi_wp2
          exact ⟨⟨k + 1, int_eq (by simp), by omega, by rw [HTK.out]; exact hJ2, Lib.hid (hs.out.trans hS2)⟩, by simp [intOf]; omega⟩
        · gi_wp2
          refine bodyPost_ret (results_none rfl _ _ _) rfl ?_
          exact ⟨rfl, .inr ⟨_, HP.out, by simp, hJ2⟩⟩
    · have hkl : k = d.length := by omega
      subst hkl
      gi_wp2
      refine bodyPost_ret (results_none rfl _ _ _) rfl ?_
      refine ⟨rfl, .inl ?_⟩
      rw [List.take_of_length_le (by rw [pairsL_length]; exact Nat.le_refl _)] at hj
      exact hj
end Go.Proofs.YtnepdjgbfhakmaaDoor

namespace Go.Proofs.YtnepdjgbfhakmaaDoor
set_option linter.unusedVariables false
set_option linter.unusedSimpArgs false
open Go.RowKit Go.Shelf
attribute [local go_sem] Oper.semAt_some

/-- How deep each node stands, of a good tree; else nothing. -/
def deepsL (T : List Nd) : List Int := if checkL T = (-1, 0) then deepL T else []
/-- How Walk ends. -/
def WalkEnd (w : World) (T : List Nd) (e : Ending) (w' : World) : Prop :=
  ∃ (bd : Nat) (S : List Nat), e = .returned (.func (.func 110) #[] #[.pointer (some ⟨bd, 0, none⟩)]) ∧ Below w.heap.size w w' ∧ (∀ k ∈ S, w.heap.size ≤ k ∧ k < w'.heap.size) ∧
    Iter Tryd.prog 110 #[.pointer (some ⟨bd, 0, none⟩)] pairRow S (pairsL (deepsL T)) w'

/-- Bounds on the row. -/
def DeepB (n : Nat) (d : List Int) : Prop := ∀ i, 0 ≤ d.getD i 0 ∧ d.getD i 0 ≤ n
theorem DeepB.mono {n m : Nat} {d : List Int} (h : DeepB n d) (hm : n ≤ m) : DeepB m d := fun i => ⟨(h i).1, by have := (h i).2; omega⟩
theorem DeepB.set {n : Nat} {d : List Int} {v : Int} (h : DeepB n d) (h0 : 0 ≤ v) (h1 : v ≤ n) (k : Nat) : DeepB n (d.set k v) := fun i => by
  by_cases hk : k = i
  · subst hk
    by_cases hl : k < d.length
    · simp [List.getD, hl]; omega
    · rw [List.set_eq_of_length_le (by omega)]; exact h k
  · have : (d.set k v).getD i 0 = d.getD i 0 := by simp [List.getD, List.getElem?_set_ne hk]
    rw [this]; exact h i
theorem DeepB.kids {n : Nat} {v : Int} (h0 : 0 ≤ v) (h1 : v ≤ n) : ∀ (ks d : List Int), DeepB n d → DeepB n (deepK v d ks)
  | [], d, h => h
  | k :: ks, d, h => DeepB.kids h0 h1 ks _ (h.set h0 h1 _)
theorem DeepB.all (T : List Nd) : ∀ n, DeepB n (deepF T n (List.replicate T.length 0))
  | 0 => fun i => by
    have : (List.replicate T.length (0 : Int)).getD i 0 = 0 := by simp [List.getD, List.getElem?_replicate]; split <;> rfl
    rw [deepF, this]; simp
  | n + 1 => by
    have h := DeepB.all T n
    rw [deepF, deepN]
    have h1 := (h n).1
    have h2 := (h n).2
    obtain ⟨z, hz⟩ : ∃ z, (deepF T n (List.replicate T.length 0)).getD n 0 = z := ⟨_, rfl⟩
    rw [hz] at h1 h2 ⊢
    exact DeepB.kids (by omega) (by omega) _ _ (h.mono (by omega))
theorem deepK_snoc (v : Int) : ∀ (ks d : List Int) (k : Int), deepK v d (ks ++ [k]) = (deepK v d ks).set k.toNat v
  | [], d, k => rfl
  | j :: ks, d, k => by rw [List.cons_append, deepK, deepK, deepK_snoc v ks]
/-- What Walk's loops hold. -/
structure WalkI (w W2 : World) (n : Nat) (d : List Int) (wr : World) : Prop where
  row : wr.ownsRow W2.heap.size 3 1 (.slice (some ⟨W2.heap.size, 0, none⟩) n n) n (icells d)
  var : wr.heap[w.heap.size + 1]? = some (.cells #[.slice (some ⟨W2.heap.size, 0, none⟩) n n] 38 (0, 0))
  low : Below w.heap.size w wr
theorem WalkI.below {w W2 : World} {n : Nat} {d : List Int} {wr w' : World} (h : WalkI w W2 n d wr) (hb : Below wr.heap.size wr w') : WalkI w W2 n d w' :=
  ⟨own_below' h.row hb, (hb.block _ (Array.getElem?_eq_some_iff.1 h.var).1).trans h.var, h.low.trans (hb.mono h.low.size)⟩

set_option maxRecDepth 100000 in
set_option maxHeartbeats 4000000 in
theorem walk_calls (A : Option Addr) (c : Nat) (T : List Nd) (w : World) (hT : TreeOk T) (hA : TreeAt w A T) (hm : MxLen w) :
    Calls Tryd.prog 81 #[treeV A T.length c] w (WalkEnd w T) := by
  have hl := hT.1
  obtain ⟨W1, hW1⟩ : ∃ W1, (w.alloc (.cells #[.slice A T.length c] 59)).alloc (.cells #[.slice none 0 0] 38) = W1 := ⟨_, rfl⟩
  have b1 : Below w.heap.size w W1 := by rw [← hW1]; exact ((Below.refl _ _).alloc (Nat.le_refl _) _).alloc (by simp) _
  have v0 : W1.heap[w.heap.size]? = some (.cells #[.slice A T.length c] 59 (0, 0)) := by rw [← hW1]; exact alloc_old (alloc_at rfl _) _
  have v1 : W1.heap[w.heap.size + 1]? = some (.cells #[.slice none 0 0] 38 (0, 0)) := by rw [← hW1]; exact alloc_at (by simp) _
  have HC := Lib.hid (check_calls A c T W1 hT (hA.below b1) (hm.below b1))
  have t0 : W1.cell? ⟨w.heap.size, 0, none⟩ = some (.slice A T.length c) := by simp [World.cell?, v0]
  have HW1 := Lib.hid hW1
  have HB1 := Lib.hid b1
  have HV0 := Lib.hid v0
  have HV1 := Lib.hid v1
  have HA := Lib.hid hA
  have HT := Lib.hid hT
  clear hW1 b1 v0 v1 hA hT hm
  go_enter Tryd.func81, Tryd.ntmps81
  go_upto_region 2 with (fail)
  rw [HW1.out]
  go_wp2_with (fail)
  refine HC.out.mono ?_
  rintro e W2 ⟨rfl, b2⟩
  have HB2 := Lib.hid b2
  have w0 : W2.heap[w.heap.size]? = _ := (b2.block _ (Array.getElem?_eq_some_iff.1 HV0.out).1).trans HV0.out
  have w1 : W2.heap[w.heap.size + 1]? = _ := (b2.block _ (Array.getElem?_eq_some_iff.1 HV1.out).1).trans HV1.out
  have HL := Lib.hid (HB1.out.trans (b2.mono HB1.out.size))
  clear b2 HC t0
  by_cases hg : checkL T = (-1, 0)
  · have e1 : ((checkL T).2 == 0) = true := by rw [hg]; rfl
    have HG := Lib.hid hg
    have HW0 := Lib.hid w0
    have HW2 := Lib.hid w1
    have t0 : W2.cell? ⟨w.heap.size, 0, none⟩ = some (.slice A T.length c) := by simp [World.cell?, w0]
    have t1 : W2.cell? ⟨w.heap.size + 1, 0, none⟩ = some (.slice none 0 0) := by simp [World.cell?, w1]
    have f1 : W2.frozen? ⟨w.heap.size + 1, 0, none⟩ = false := by simp [World.frozen?, w1]
    obtain ⟨i0, hi, hz0, hz1, hz2⟩ := info_parts infoInt
    obtain ⟨ZZ, hZZ, hmk⟩ : ∃ ZZ : Array Value, ZZ.toList = icells (List.replicate T.length 0) ∧ ∀ w : World, (Instr.makeSlice 38 (.int .i64 (T.length : Int)) (.int .i64 (T.length : Int))).run Tryd.prog w = .ok (.slice (some ⟨w.heap.size, 0, none⟩) T.length T.length) (w.alloc (.cells ZZ 3)) := by
      refine ⟨madeCells #[.int .i64 0] T.length, by rw [toList_madeCells_one]; simp [icells], fun w => ?_⟩
      have := run_make (P := Tryd.prog) w 38 3 i0 (.int .i64 0) Tryd.underlying38 hi hz0 .i64 .i64 (T.length : Int) (T.length : Int) (by omega) (Int.le_refl _) (by rw [hz2]; omega) (by omega)
      rw [hz1] at this
      simpa [Value.cells] using this
    have k1 : (W2.alloc (.cells ZZ 3)).cell? ⟨w.heap.size + 1, 0, none⟩ = some (.slice none 0 0) := by simp [World.cell?, alloc_old w1 (.cells ZZ 3)]
    have kf : (W2.alloc (.cells ZZ 3)).frozen? ⟨w.heap.size + 1, 0, none⟩ = false := by simp [World.frozen?, alloc_old w1 (.cells ZZ 3)]
    have ltb : w.heap.size + 1 < W2.heap.size := (Array.getElem?_eq_some_iff.1 w1).1
    have zs : ZZ.size = T.length * 1 := by rw [← Array.length_toList, hZZ]; simp
    obtain ⟨V2, hV2⟩ : ∃ V2, W2.setCell ⟨w.heap.size + 1, 0, none⟩ (.slice (some ⟨W2.heap.size, 0, none⟩) T.length T.length) = V2 := ⟨_, rfl⟩
    have g3 := set_grown W2 (w.heap.size + 1) 0 (.slice (some ⟨W2.heap.size, 0, none⟩) T.length T.length)
    have y1 := heap_setCell_same W2 (w.heap.size + 1) 0 _ _ (.slice (some ⟨W2.heap.size, 0, none⟩) T.length T.length) w1
    have low2 : Below w.heap.size w (W2.setCell ⟨w.heap.size + 1, 0, none⟩ (.slice (some ⟨W2.heap.size, 0, none⟩) T.length T.length)) := HL.out.setCell (by simp) _
    have y0 := (g3.block _ (Array.getElem?_eq_some_iff.1 w0).1 (by simp)).trans w0
    have sz : V2.heap.size = W2.heap.size := by rw [← hV2]; simp [World.setCell]
    rw [hV2] at g3 y1 low2 y0
    obtain ⟨W3, hW3⟩ : ∃ W3, V2.alloc (.cells ZZ 3) = W3 := ⟨_, rfl⟩
    have hinv : WalkI w W2 T.length (List.replicate T.length 0) W3 := by
      rw [← hW3]
      have hrow := World.ownsRow_lit (base := V2.heap.size) (e := 3) (size := 1) V2 ZZ T.length (Nat.le_refl _) (by unfold maxLen; omega) zs
      rw [hZZ, sz] at hrow
      refine ⟨hrow, alloc_old (by simpa using y1) _, low2.alloc low2.size _⟩
    have y0 := alloc_old y0 (.cells ZZ 3)
    rw [hW3] at y0
    have hW3 : (W2.setCell ⟨w.heap.size + 1, 0, none⟩ (.slice (some ⟨W2.heap.size, 0, none⟩) T.length T.length)).alloc (.cells ZZ 3) = W3 := by rw [hV2]; exact hW3
    have HW3 := Lib.hid hW3
    have HINV := Lib.hid hinv
    have HY0 := Lib.hid y0
    have z0 : W3.cell? ⟨w.heap.size, 0, none⟩ = some (.slice A T.length c) := by simp [World.cell?, y0]
    clear hg w0 w1 hi hz0 hz1 hz2 hZZ zs hW3 g3 y1 hinv y0 low2 sz hV2
    go_upto_region 5 with (fail)
    rw [HW3.out]
    clear t0 t1 f1 k1 kf hmk
    go_wp2_with (fail)
    clear z0
    go_loopw [24] (fun v wr => ∃ n : Nat, v = .int .i64 n ∧ n ≤ T.length ∧ Hid (WalkI w W2 T.length (deepF T n (List.replicate T.length 0)) wr)) (fun v _ => T.length - (intOf v).toNat)
    case atStart => exact ⟨0, rfl, by omega, HINV⟩
    case round =>
      obtain ⟨n, rfl, hn, hI⟩ := hrel
      obtain ⟨wo, rfl⟩ : ∃ wo : World, wo = wr := ⟨_, rfl⟩
      by_cases hlt : n < T.length
      · obtain ⟨x, K, kc, hx, hnd⟩ := HA.out.get hlt
        obtain ⟨⟨a, rfl, c0, c1, c2, c3, c4⟩, hK⟩ := hnd.below hI.out.low
        have hkids : kidsOf T n = x.kids := by unfold kidsOf; simp [List.getD, hx]
        have hxl := (HT.out.2 x (List.mem_of_getElem? hx)).2.2
        have hbd := DeepB.all T n
        obtain ⟨d, hd⟩ : ∃ d, deepF T n (List.replicate T.length 0) = d := ⟨_, rfl⟩
        have hdl : d.length = T.length := by rw [← hd, deepF_length, List.length_replicate]
        have hstep : deepF T (n + 1) (List.replicate T.length 0) = deepK (d.getD n 0 + 1) d x.kids := by rw [deepF, hd, deepN, hkids]
        rw [hd] at hI hbd
        have hd0 := (hbd n).1
        have hd1 := (hbd n).2
        have hdk : ∀ j, (deepK (d.getD n 0 + 1) d (x.kids.take j)).getD n 0 = d.getD n 0 := fun j => deepK_far _ _ _ _ (fun k hk => by
          obtain ⟨m, rfl, q1, q2⟩ := ((good_iff T).2 HG.out).kid hlt (by rw [hkids]; exact List.mem_of_mem_take hk)
          simp; omega)
        have hkin : ∀ j, j < x.kids.length → ∃ m : Nat, x.kids.getD j 0 = m ∧ n < m ∧ m < T.length := fun j hj => by
          obtain ⟨m, q0, q1, q2⟩ := ((good_iff T).2 HG.out).kid hlt (k := x.kids[j]) (by rw [hkids]; exact List.getElem_mem hj)
          exact ⟨m, by rw [← q0]; simp [List.getD, hj], q1, q2⟩
        obtain ⟨z, hz⟩ : ∃ z, d.getD n 0 = z := ⟨_, rfl⟩
        rw [hz] at hd0 hd1 hstep hdk
        have HDK := Lib.hid hdk
        have HKIN := Lib.hid hkin
        have HSTEP := Lib.hid hstep
        have HDL := Lib.hid hdl
        have hI5 := hI.out.below ((Below.refl wo.heap.size wo).alloc (Nat.le_refl _) (.cells #[.int .i64 x.kind, .string x.text, .int .i64 x.num, .slice K x.kids.length kc, .int .i64 x.pos] 54))
        have hK5 := hnd.2
        have HK5 := Lib.hid hK5
        have hq : (wo.alloc (.cells #[.int .i64 x.kind, .string x.text, .int .i64 x.num, .slice K x.kids.length kc, .int .i64 x.pos] 54)).cell? ⟨wo.heap.size, 3, none⟩ = some (.slice K x.kids.length kc) := by simp [World.cell?_alloc_new]
        obtain ⟨W5, hW5⟩ : ∃ W5, wo.alloc (.cells #[.int .i64 x.kind, .string x.text, .int .i64 x.num, .slice K x.kids.length kc, .int .i64 x.pos] 54) = W5 := ⟨_, rfl⟩
        rw [hW5] at hI5 hq
        have HW5 := Lib.hid hW5
        have HI5 := Lib.hid hI5
        clear hdk hkin hstep hdl hI5 hK5 hW5 hd hz hbd hkids hx hnd hK hI
        go_upto_region 8 with (fail)
        rw [HW5.out]
        go_wp2_with (fail)
        clear c0 c1 c2 c3 c4 hq
        go_loopw [32] (fun v wi => ∃ j : Nat, v = .int .i64 j ∧ j ≤ x.kids.length ∧ Hid (WalkI w W2 T.length (deepK (z + 1) d (x.kids.take j)) wi)) (fun v _ => x.kids.length - (intOf v).toNat)
        case atStart => exact ⟨0, rfl, by omega, HI5⟩
        case round =>
          obtain ⟨j, rfl, hj, hI⟩ := hrel
          by_cases hlt2 : j < x.kids.length
          · obtain ⟨m, hm1, hm2, hm3⟩ := HKIN.out j hlt2
            obtain ⟨a2, rfl, hcell0⟩ := ints_at HK5.out j hlt2
            have hcell := hI.out.low.cell_keep hcell0
            rw [hm1] at hcell
            clear hcell0
            have q1 : wr.cell? ⟨w.heap.size + 1, 0, none⟩ = some (.slice (some ⟨W2.heap.size, 0, none⟩) T.length T.length) := by simp [World.cell?, hI.out.var]
            have hlen : (deepK (z + 1) d (x.kids.take j)).length = T.length := by rw [deepK_length, HDL.out]
            have qn : wr.cell? ⟨W2.heap.size, n, none⟩ = some (.int .i64 z) := by
              rw [hI.out.row.cellAt n (by omega)]
              have := HDK.out j
              simp only [icells, List.getElem?_map, List.getD] at this ⊢
              rw [List.getElem?_eq_getElem (by omega)] at this ⊢
              simp at this ⊢
              exact this
            obtain ⟨y, qm⟩ : ∃ y, wr.cell? ⟨W2.heap.size, m, none⟩ = some y := by
              rw [hI.out.row.cellAt m (by omega)]
              exact ⟨_, List.getElem?_eq_getElem (by simp; omega)⟩
            have qf := hI.out.row.frozenAt m
            have hst := hI.out.row.stored m (.int .i64 (z + 1))
            have htk : x.kids.take (j + 1) = x.kids.take j ++ [(m : Int)] := take_snoc' _ _ _ (by rw [← hm1]; simp [List.getD, hlt2])
            have hnew : WalkI w W2 T.length (deepK (z + 1) d (x.kids.take (j + 1))) (wr.setCell ⟨W2.heap.size, m, none⟩ (.int .i64 (z + 1))) := by
              refine ⟨?_, (hst.2.block _ (Array.getElem?_eq_some_iff.1 hI.out.var).1 (by simp; omega)).trans hI.out.var, hI.out.low.setCell (Nat.le_trans HL.out.size (Nat.le_refl _)) _⟩
              rw [htk, deepK_snoc, Int.toNat_natCast]
              have e : icells ((deepK (z + 1) d (x.kids.take j)).set m (z + 1)) = (icells (deepK (z + 1) d (x.kids.take j))).set m (.int .i64 (z + 1)) := by simp [icells, List.map_set]
              rw [e]
              exact hst.1
            have HN := Lib.hid (hnew.below ((Below.refl _ _).drew))
            have i1 : (0 : Int) ≤ (m : Int) := by omega
            have i2 : (m : Int) < (T.length : Int) := by omega
            have i3 : (0 : Int) ≤ (n : Int) := by omega
            have i4 : (n : Int) < (T.length : Int) := by omega
            clear hst htk hnew hm1 hI hlen
            go_wp2_with (fail)
            go_still_tail 8, (by kernel_rfl)
            go_wp2_with (fail)
            exact ⟨⟨j + 1, by simp, by omega, HN⟩, by simp [intOf]; omega⟩
          · have hjl : j = x.kids.length := by omega
            have hI6 := hI.out
            rw [hjl, List.take_length, ← HSTEP.out] at hI6
            have HI6 := Lib.hid hI6
            clear hI hI6 hjl
            go_wp2_with (fail)
            exact ⟨⟨n + 1, by simp, by omega, HI6⟩, by simp [intOf]; omega⟩
      · have hnl : n = T.length := by omega
        have hI6 := hI.out
        rw [hnl] at hI6
        have HI6 := Lib.hid hI6
        have HD := Lib.hid (show deepsL T = deepL T by unfold deepsL; rw [if_pos HG.out])
        clear hI hI6 hnl
        go_wp2_with (fail)
        go_ret
        refine ⟨w.heap.size + 1, [w.heap.size + 1, W2.heap.size], rfl, HI6.out.low, fun k hk => ?_, ?_⟩
        · simp only [List.mem_cons, List.not_mem_nil, or_false] at hk
          rcases hk with rfl | rfl
          · exact ⟨by omega, (Array.getElem?_eq_some_iff.1 HI6.out.var).1⟩
          · exact ⟨HL.out.size, (HI6.out.row.lt _ rfl).2⟩
        · rw [HD.out]
          have hlen := deepL_length T
          have := walk_iter (w.heap.size + 1) (some ⟨W2.heap.size, 0, none⟩) T.length (deepL T) [w.heap.size + 1, W2.heap.size] wo (by omega) (by rw [hlen]; simp [World.cell?, HI6.out.var]) (by simp) (cells_own HI6.out.row) (fun a h => by simp at h; subst h; simp)
          exact this
  · have hz : (checkL T).2 = 7 := by
      rcases check_val T with h | h
      · exact absurd h hg
      · exact h
    have e1 : ((checkL T).2 == 0) = false := by rw [hz]; rfl
    have t1 : W2.cell? ⟨w.heap.size + 1, 0, none⟩ = some (.slice none 0 0) := by simp [World.cell?, w1]
    have hd : deepsL T = [] := by unfold deepsL; rw [if_neg hg]
    have HD := Lib.hid hd
    have T1 := Lib.hid t1
    have HLT := Lib.hid (Array.getElem?_eq_some_iff.1 w1).1
    clear hg hz w0 w1 hd t1
    go_wp2_with (fail)
    go_ret
    refine ⟨w.heap.size + 1, [w.heap.size + 1], rfl, HL.out, fun k hk => by rw [List.mem_singleton.1 hk]; exact ⟨by omega, HLT.out⟩, ?_⟩
    rw [HD.out]
    exact walk_iter (w.heap.size + 1) none 0 [] [w.heap.size + 1] W2 (by simp) T1.out (by simp) (fun i hi => by simp [icells] at hi) (fun a h => by cases h)
end Go.Proofs.YtnepdjgbfhakmaaDoor

namespace Go.Proofs.YtnepdjgbfhakmaaDoor
set_option linter.unusedVariables false
set_option linter.unusedSimpArgs false
open Go.RowKit Go.Shelf
attribute [local go_sem] Oper.semAt_some

def maxL (l : List Int) : Int := l.foldl max 0
def depthT (T : List Nd) : Int := maxL (deepsL T)
theorem maxL_snoc (l : List Int) (x : Int) : maxL (l ++ [x]) = max (maxL l) x := by simp [maxL]
theorem pairsL_snd (d : List Int) : (pairsL d).map (·.2) = d := by
  unfold pairsL
  rw [List.map_map]
  apply List.ext_getElem?
  intro i
  by_cases h : i < d.length
  · simp [h, List.getD]
  · rw [List.getElem?_eq_none (show d.length ≤ i by omega), List.getElem?_eq_none (by simp; omega)]
/-- What Depth's loop holds. -/
def DpI (w : World) (pre : List (Nat × Int)) (W : World) : Prop := Boxed W (w.heap.size + 1) 3 (.int .i64 (maxL (pre.map (·.2)))) ∧ Below w.heap.size w W
theorem DpI.abide {B : Nat} {w : World} (hB : w.heap.size ≤ B) : AbideT B (DpI w) := fun _ _ _ h ht => ⟨Boxed.turn h.1 ht, ht.below hB (Nat.le_refl _) h.2⟩

set_option maxRecDepth 100000 in
set_option maxHeartbeats 2000000 in
theorem depth_calls (A : Option Addr) (c : Nat) (T : List Nd) (w : World) (hT : TreeOk T) (hA : TreeAt w A T) (hm : MxLen w) :
    Calls Tryd.prog 49 #[treeV A T.length c] w fun e w' => e = .returned (.int .i64 (depthT T)) ∧ Below w.heap.size w w' := by
  obtain ⟨W1, hW1⟩ : ∃ W1, (w.alloc (.cells #[.slice A T.length c] 59)).alloc (.cells #[.int .i64 0] 3) = W1 := ⟨_, rfl⟩
  have b1 : Below w.heap.size w W1 := by rw [← hW1]; exact ((Below.refl _ _).alloc (Nat.le_refl _) _).alloc (by simp) _
  have v0 : W1.heap[w.heap.size]? = some (.cells #[.slice A T.length c] 59 (0, 0)) := by rw [← hW1]; exact alloc_old (alloc_at rfl _) _
  have v1 : W1.heap[w.heap.size + 1]? = some (.cells #[.int .i64 0] 3 (0, 0)) := by rw [← hW1]; exact alloc_at (by simp) _
  have HC := Lib.hid (walk_calls A c T W1 hT (hA.below b1) (hm.below b1))
  have t0 : W1.cell? ⟨w.heap.size, 0, none⟩ = some (.slice A T.length c) := by simp [World.cell?, v0]
  have HW1 := Lib.hid hW1
  have HB1 := Lib.hid b1
  have HV1 := Lib.hid v1
  clear hW1 b1 v0 v1 hA hT hm
  refine calls_of_wp_marks Tryd.func49 rfl ?_
  simp only [Tryd.ntmps49, List.size_toArray, List.length_cons, List.length_nil, Nat.reduceAdd, Nat.reduceSub, Array.replicate_succ, Array.replicate_zero, List.push_toArray, List.append_toArray, List.nil_append, List.cons_append]
  go_upto_region 2 with (fail)
  rw [HW1.out]
  go_wp2_with (fail)
  refine HC.out.mono ?_
  rintro e W2 ⟨bd, S, rfl, b2, hS, hit⟩
  have i0 : DpI w [] W2 := ⟨(b2.block _ (Array.getElem?_eq_some_iff.1 HV1.out).1).trans HV1.out, HB1.out.trans (b2.mono HB1.out.size)⟩
  have hsz : w.heap.size + 1 < W2.heap.size := (Array.getElem?_eq_some_iff.1 i0.1).1
  clear b2 HC t0
  go_wp2_with (fail)
  refine wp_rangeFunc_iter rfl (enters_of Tryd.func110 (by kernel_rfl) rfl) hit (fun k hk => (hS k hk).2) (fun _ => rfl)
    (DpI w) (fun _ _ _ => False) (DpI.abide (by omega)) (fun _ _ _ _ h _ => h) i0 ?body ?done ?stop
  case body =>
    intro l pre x W W' hpre hlt hlt' hI hI'
    apply Exists.intro
    constructor
    · intro K hK
      simp only [pairRow]
      gi_wp2
      exact hK
    obtain ⟨j1, j2⟩ := hI'
    have a1 := Boxed.cell j1
    have f1 := Boxed.frozen j1
    have J1 := Lib.hid j1
    have J2 := Lib.hid j2
    clear j1 j2 hI hit
    have hSS := hS
    gi_wp2
    have e : max (maxL (pre.map (·.2))) x.2 = maxL ((pre ++ [x]).map (·.2)) := by rw [List.map_append]; exact (maxL_snoc _ _).symm
    refine ⟨Boxed.keeps J1.out _, (SameAt.refl _ _).setCell _ _ (fun hk => ?_), ?_, J2.out.setCell (by simp) _⟩
    · have h1 := (hSS _ hk).1
      have h2 : W1.heap.size = w.heap.size + 2 := by rw [← HW1.out]; simp
      simp only at h1
      omega
    · rw [e]
      exact Boxed.set _ J1.out
  case done =>
    rintro D W hD ⟨j1, j2⟩ hDf
    rw [pairsL_snd] at j1
    have q := Boxed.cell j1
    go_wp2_with (fail)
    exact marks_ret rfl hDf (results_tmp rfl _ _ _) ⟨rfl, below_putObj j2 (by omega) _⟩
  case stop =>
    rintro D c pre W _ _ _ h _
    exact h.elim
end Go.Proofs.YtnepdjgbfhakmaaDoor
