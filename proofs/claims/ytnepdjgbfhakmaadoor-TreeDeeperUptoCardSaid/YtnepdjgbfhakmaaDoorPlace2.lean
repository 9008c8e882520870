/- text.Place: what it answers. -/
import Derived.Test.YtnepdjgbfhakmaaDoorPlace1
import Derived.Test.YtnepdjgbfhakmaaDoorQuote
import Derived.Test.YtnepdjgbfhakmaaDoorText3
import Derived.RangeFuncBox
import Derived.Scope
import Derived.RegionTactic
import Derived.ChangeAlike
import Derived.Deep.CutRange
namespace Go.Proofs.YtnepdjgbfhakmaaDoor
set_option linter.unusedVariables false
set_option linter.unusedSimpArgs false
open Go.RowKit Go.Shelf
attribute [local go_sem] Oper.semAt_some

theorem Boxed.turn {B b : Nat} {W W' : World} {t : TypeId} {v : Value} (h : Boxed W b t v) (ht : Turn B W W') : Boxed W' b t v := ht.block h
theorem Boxed.below {b n : Nat} {W W' : World} {t : TypeId} {v : Value} (h : Boxed W b t v) (hb : Below n W W') (hn : b < n) : Boxed W' b t v := (hb.block b hn).trans h
theorem Boxed.keeps {B b : Nat} {W : World} {t : TypeId} {v : Value} (_h : Boxed W b t v) (v' : Value) : KeepsFrom B W (W.setCell ⟨b, 0, none⟩ v') := (KeepsOthers.setCell W _ _).from B
theorem Boxed.far {b b' : Nat} {W : World} {t : TypeId} {v : Value} (h : Boxed W b t v) (hne : b ≠ b') (v' : Value) : Boxed (W.setCell ⟨b', 0, none⟩ v') b t v := (Below.heap_setCell W _ _ b hne).trans h

def PInv1 (w : World) (L : List UInt8) (a : Nat) (n0 : Nat) (v4 v20 : Value) (W : World) : Prop :=
  ∃ ln fr k : Nat, v4 = .int .i64 ln ∧ v20 = .int .i64 k ∧ k ≤ a ∧ fr ≤ k ∧ ln ≤ k + 1 ∧ nl (L.drop k) k (ln, fr) = nl L 0 (1, 0) ∧
    Boxed W n0 3 (.int .i64 a) ∧ Boxed W (n0 + 1) 3 (.int .i64 0) ∧ Boxed W (n0 + 2) 3 (.int .i64 fr) ∧ Below n0 w W ∧ W.heap.size = n0 + 3

def colI (pre : List (Nat × Nat)) : Nat := 1 + (pre.length - 1)
def lastI (pre : List (Nat × Nat)) : Int := pre.foldl (fun _ x => (x.1 : Int)) (-1)
theorem lastI_snoc (pre : List (Nat × Nat)) (x : Nat × Nat) : lastI (pre ++ [x]) = x.1 := by simp [lastI]
def PInv2 (w : World) (n : Nat) (a fr : Nat) (pre : List (Nat × Nat)) (W : World) : Prop :=
  (∀ x ∈ pre.tail, fr + x.1 ≤ a) ∧ Boxed W n 3 (.int .i64 a) ∧ Boxed W (n + 1) 3 (.int .i64 (colI pre)) ∧ Boxed W (n + 2) 3 (.int .i64 fr) ∧ Boxed W (n + 3) 3 (.int .i64 (lastI pre)) ∧ Below n w W
/-- Left: the last rune lies behind a. -/
def PIx2 (w : World) (n : Nat) (a fr : Nat) (c : Code) (pre : List (Nat × Nat)) (W : World) : Prop :=
  c = .exit 2 ∧ ∃ q x, pre = q ++ [x] ∧ q ≠ [] ∧ a < fr + x.1 ∧ PInv2 w n a fr q W
theorem PInv2.abide {w : World} {n a fr : Nat} {B : Nat} (h1 : n ≤ B) (h2 : n ≤ w.heap.size) : AbideT B (PInv2 w n a fr) :=
  fun _ _ _ ⟨h0, ha, hb, hc, hd, he⟩ ht => ⟨h0, Boxed.turn ha ht, Boxed.turn hb ht, Boxed.turn hc ht, Boxed.turn hd ht, ht.below h1 h2 he⟩
theorem PIx2.abide {w : World} {n a fr : Nat} {B : Nat} (h1 : n ≤ B) (h2 : n ≤ w.heap.size) (c : Code) : AbideT B (PIx2 w n a fr c) :=
  fun _ _ _ ⟨hc, q, x, hp, hq, hx, hi⟩ ht => ⟨hc, q, x, hp, hq, hx, PInv2.abide h1 h2 _ _ _ hi ht⟩

theorem Boxed.putObj {B D : Nat} {W : World} {t : TypeId} {v : Value} (h : Boxed W B t v) (o : Obj) (hne : B ≠ D) : Boxed (W.putObj D o) B t v := (World.putObj_heap_other hne).trans h

theorem place_end {w W9 : World} {a9 : Act} {D n : Nat} {ln y : Int} {R : Ending → World → Prop} (hd : a9.defers = [{ target := .collected D, args := #[] }]) (hD : W9.heap[D]? = some (.deferred (some [])))
    (h4 : a9.tmps[4]?.getD undef = .int .i64 ln) (h5 : a9.tmps[5]?.getD undef = .pointer (some ⟨n, 0, none⟩)) (hb : Boxed W9 n 3 (.int .i64 y)) (hnD : n < D) (hw : w.heap.size ≤ D) (hB : Below w.heap.size w W9)
    (hR : ∀ W, Below w.heap.size w W → R (.returned (.tuple #[.int .i64 ln, .int .i64 y])) W) : bodyPostM Fence.wide 1 Tryd.prog Tryd.f30 R .ret a9 W9 := by
  have hb' := Boxed.putObj hb (.deferred none) (D := D) (by omega)
  have hc := Boxed.cell hb'
  refine marks_ret hd hD ?_ (hR _ (below_putObj hB hw _))
  simp [results, Tryd.results30, go_sem, hc, h4, h5]

set_option maxRecDepth 100000 in
set_option maxHeartbeats 2000000 in
theorem place_calls (A : Option Addr) (c : Nat) (bs : List UInt8) (i : Int) (w : World) (hl : bs.length ≤ 1000000000000) (hcap : bs.length ≤ c) (hc : Cells w A (bcells bs)) :
    Calls Tryd.prog 30 #[.slice A bs.length c, .int .i64 i] w fun e w' =>
      e = .returned (.tuple #[.int .i64 ((placeL bs i).1 : Int), .int .i64 ((placeL bs i).2 : Int)]) ∧ Below w.heap.size w w' := by
  obtain ⟨a, ha⟩ : ∃ a, a = clampN bs i := ⟨_, rfl⟩
  obtain ⟨n0, hn0⟩ : ∃ n0, n0 = w.heap.size := ⟨_, rfl⟩
  have hal : a ≤ bs.length := by rw [ha]; unfold clampN; omega
  have hpl : placeL bs i = ((nl (bs.take a) 0 (1, 0)).1, 1 + colF bs.length (nl (bs.take a) 0 (1, 0)).2 (bs.drop (nl (bs.take a) 0 (1, 0)).2) a) := by rw [ha]; rfl
  have HPL := Lib.hid hpl
  have HN := Lib.hid hn0
  clear hpl hn0
  refine calls_of_wp_marks Tryd.func30 rfl ?_
  simp only [Tryd.ntmps30, List.size_toArray, List.length_cons, List.length_nil, Nat.reduceAdd, Nat.reduceSub, Array.replicate_succ, Array.replicate_zero, List.push_toArray, List.append_toArray, List.nil_append, List.cons_append]
  have hcs : (i < 0 ∧ a = 0) ∨ (0 ≤ i ∧ i ≤ bs.length ∧ i = a) ∨ (bs.length < i ∧ a = bs.length) := by rw [ha]; unfold clampN; omega
  have HCS := Lib.hid hcs
  clear ha hcs
  go_wp2_with (fail)
  refine wp_scope_straight ?_
  go_upto_region 1 with (fail)
  go_cut [15] from 11 to 15 (fun v15 wc => v15 = .int .i64 (a : Int) ∧ wc = (w.alloc (.cells #[.int .i64 (a : Int)] 3)).alloc (.cells #[.int .i64 0] 3))
  case first =>
    go_wp2
    go_meet
    case rel =>
      have h3 := HCS.out
      rw [show max 0 (min i (bs.length : Int)) = (a : Int) by omega]
      exact ⟨rfl, rfl⟩
  case rest =>
    obtain ⟨rfl, rfl⟩ := hcut
    go_wp2_with (fail)
    have hcA : Cells w A (bcells (bs.take a)) := by
      have := hc.take_ a
      rwa [show (bcells bs).take a = bcells (bs.take a) by simp [bcells, List.map_take]] at this
    obtain ⟨L, hL⟩ : ∃ L, L = bs.take a := ⟨_, rfl⟩
    have hLl : L.length = a := by rw [hL]; simp; omega
    rw [← hL] at hcA
    have HL := Lib.hid hL
    have HLL := Lib.hid hLl
    clear hL hLl HCS
    go_loopw [4, 20] (fun v4 v20 wr => PInv1 w L a w.heap.size v4 v20 wr) (fun _ v _ => a - (intOf v).toNat)
    case atStart =>
      refine ⟨1, 0, 0, rfl, rfl, by omega, by omega, by omega, rfl, ?_, ?_, ?_, ?_, by simp⟩
      · exact ((Boxed.new w _ _).alloc _).alloc _
      · have := (Boxed.new (w.alloc (.cells #[.int .i64 (a : Int)] 3)) 3 (.int .i64 0)).alloc (.cells #[.int .i64 0] 3)
        simpa using this
      · have := Boxed.new ((w.alloc (.cells #[.int .i64 (a : Int)] 3)).alloc (.cells #[.int .i64 0] 3)) 3 (.int .i64 0)
        simpa using this
      · exact (((Below.refl _ w).alloc (Nat.le_refl _) _).alloc (by simp) _).alloc (by simp; omega) _
    case round =>
      obtain ⟨ln, fr, k, rfl, rfl, hk, hfr, hln, hnl, hx0, hx1, hx2, hbw, hsz⟩ := hrel
      have HNL := Lib.hid hnl
      have HX1 := Lib.hid hx1
      have HX0 := Lib.hid hx0
      have HX2 := Lib.hid hx2
      have HBW := Lib.hid hbw
      have hd2 := hx2.cell
      have hf2 := hx2.frozen
      by_cases hlt : k < a
      · have hlen := HLL.out
        obtain ⟨aA, rfl, hcell⟩ := bytes_at (hcA.below hbw) k (by omega)
        have hg := gb_lt L k
        have hst := nl_drop L k (ln, fr) (by omega)
        have HST := Lib.hid hst
        clear hnl hx1 hx0 hx2 hbw hlen hst
        by_cases h10 : gb L k = 10
        · have e10 : ((gb L k : Int) == 10) = true := by simp; omega
          have H10 := Lib.hid h10
          clear h10
          go_wp2
          case roundEnd =>
            have hlen := HLL.out
            refine ⟨⟨ln + 1, k + 1, k + 1, by simp, by simp, by omega, by omega, by omega, ?_, ?_, ?_, ?_, ?_, ?_⟩, by simp [intOf]; omega⟩
            · rw [← HNL.out, HST.out, H10.out]; simp
            · exact Boxed.far HX0.out (by omega) _
            · exact Boxed.far HX1.out (by omega) _
            · exact Boxed.set _ HX2.out
            · exact HBW.out.setCell (by simp; omega) _
            · simpa using hsz
        · have e10 : ((gb L k : Int) == 10) = false := by simp; omega
          have H10 := Lib.hid h10
          clear h10
          go_wp2
          case roundEnd =>
            have hlen := HLL.out
            refine ⟨⟨ln, fr, k + 1, rfl, by simp, by omega, by omega, by omega, ?_, HX0.out, HX1.out, HX2.out, HBW.out, hsz⟩, by simp [intOf]; omega⟩
            rw [← HNL.out, HST.out]; simp [H10.out]
      · have ek : k = a := by omega
        subst ek
        have hlen := HLL.out
        have hd1 := hx1.cell
        have hf1 := hx1.frozen
        clear hnl hx1 hx0 hx2 hbw hlen
        have hc0 := hc.below HBW.out
        have hnb := nl_bound L 0 (1, 0) (Nat.le_refl _)
        have hnl0 : (ln, fr) = nl L 0 (1, 0) := by rw [← HNL.out, show k = L.length from HLL.out.symm, List.drop_length]; rfl
        go_upto_region 12 with (fail)
        have hX0 := ((Boxed.far HX0.out (by omega) (.int .i64 1)).alloc (.cells #[.int .i64 (-1)] 3) : Boxed ((wr.setCell ⟨w.heap.size + 1, 0, none⟩ (.int .i64 1)).alloc _) _ _ _)
        have hX1 := ((Boxed.set (.int .i64 1) HX1.out).alloc (.cells #[.int .i64 (-1)] 3))
        have hX2 := ((Boxed.far HX2.out (by omega) (.int .i64 1)).alloc (.cells #[.int .i64 (-1)] 3) : Boxed ((wr.setCell ⟨w.heap.size + 1, 0, none⟩ (.int .i64 1)).alloc _) _ _ _)
        have hX3 := Boxed.new (wr.setCell ⟨w.heap.size + 1, 0, none⟩ (.int .i64 1)) 3 (.int .i64 (-1))
        have hXW := (HBW.out.setCell (p := ⟨w.heap.size + 1, 0, none⟩) (by simp) (.int .i64 1)).alloc (by simp; omega) (.cells #[.int .i64 (-1)] 3)
        have hXs : ((wr.setCell ⟨w.heap.size + 1, 0, none⟩ (.int .i64 1)).alloc (.cells #[.int .i64 (-1)] 3)).heap.size = w.heap.size + 4 := by simp; omega
        rw [show (wr.setCell ⟨w.heap.size + 1, 0, none⟩ (.int .i64 1)).heap.size = w.heap.size + 3 by simpa using hsz] at hX3
        generalize (wr.setCell ⟨w.heap.size + 1, 0, none⟩ (.int .i64 1)).alloc (.cells #[.int .i64 (-1)] 3) = W2 at *
        have hcc := hc.below hXW
        obtain ⟨A', hcut, hcs⟩ := cut_l (P := Tryd.prog) 22 5 1 Tryd.underlying22 size5 A bs.length c fr (by omega) (by omega)
        have hdc := hcs W2 _ (by simp [bcells]; omega) hcc
        have hdc2 : Cells W2 A' (bcells (bs.drop fr)) := by simpa [bcells] using hdc
        have hd2 := hX2.cell
        have hf2 := hX2.frozen
        have hrc := runes_calls A' (c - fr) (bs.drop fr) W2 hdc2
        rw [show (bs.drop fr).length = bs.length - fr by simp] at hrc
        simp only [Int.toNat_natCast] at hcut
        have HR := Lib.hid hrc
        have G0 := Lib.hid hX0
        have G1 := Lib.hid hX1
        have G2 := Lib.hid hX2
        have G3 := Lib.hid hX3
        have GW := Lib.hid hXW
        clear hrc hX0 hX1 hX2 hX3 hXW hc0 hd1 hf1 hdc hdc2 hcs hcc
        refine wp_label ?_
        go_wp2_with (fail)
        refine HR.out.mono ?_
        rintro e w4 ⟨rfl, rfl⟩
        go_wp2_with (fail)
        generalize hw4 : W2.alloc (Obj.cells #[Value.string ⟨(bs.drop fr).toArray⟩] 9) = w4
        have hBx : w4.heap[W2.heap.size]? = some (.cells #[.string ⟨(bs.drop fr).toArray⟩] 9 (0, 0)) := by rw [← hw4]; exact World.alloc_heap_new _ _
        have hit := runes_iter W2.heap.size ⟨(bs.drop fr).toArray⟩ (0, 0) w4 (by show (bs.drop fr).length ≤ _; simp; omega) hBx
        have hsz4 : w4.heap.size = w.heap.size + 5 := by rw [← hw4]; simp; omega
        have hbw4 : Below W2.heap.size W2 w4 := by rw [← hw4]; exact (Below.refl _ _).alloc (Nat.le_refl _) _
        have g0 := Boxed.below G0.out hbw4 (by omega)
        have g1 := Boxed.below G1.out hbw4 (by omega)
        have g2 := Boxed.below G2.out hbw4 (by omega)
        have g3 := Boxed.below G3.out hbw4 (by omega)
        have gw := GW.out.trans (hbw4.mono (by omega))
        rw [hXs] at hBx hit
        clear hw4 HR hcut hbw4 G0 G1 G2 G3 GW
        refine wp_rangeFunc_iter rfl (enters_of Tryd.func67 (by kernel_rfl) rfl) hit (by simp; omega) (fun _ => rfl)
          (PInv2 w w.heap.size k fr) (PIx2 w w.heap.size k fr) (PInv2.abide (by omega) (Nat.le_refl _)) (PIx2.abide (by omega) (Nat.le_refl _)) ⟨by simp, g0, g1, g2, g3, gw⟩ ?body ?done ?stop
        case body =>
          intro l pre x W W' hpre hlt hlt' hI hI'
          apply Exists.intro
          constructor
          · intro K hK
            simp only [runeRow]
            gi_wp2
            exact hK
          obtain ⟨p, r⟩ := x
          have hmem : (p, r) ∈ runes (bs.drop fr) := hpre.subset (by simp)
          have hplt := runes_lt _ _ hmem
          rw [List.length_drop] at hplt
          have hlp : pre.length ≤ bs.length := by
            have h1 := hpre.length_le
            have h2 := runes_length (bs.drop fr)
            simp at h1 h2; omega
          obtain ⟨ht, i0, i1, i2, i3, iw⟩ := hI'
          have d0 := Boxed.cell i0
          have d1 := Boxed.cell i1
          have d2 := Boxed.cell i2
          have d3 := Boxed.cell i3
          have f0 := Boxed.frozen i0
          have f1 := Boxed.frozen i1
          have f2 := Boxed.frozen i2
          have f3 := Boxed.frozen i3
          have hcol : colI pre ≤ bs.length + 1 := by unfold colI; omega
          have I0 := Lib.hid i0
          have I1 := Lib.hid i1
          have I2 := Lib.hid i2
          have I3 := Lib.hid i3
          have IW := Lib.hid iw
          have HT := Lib.hid ht
          clear i0 i1 i2 i3 iw ht hI hmem hpre hit g0 g1 g2 g3 gw hBx
          by_cases hp0 : pre = []
          · have e1 : decide (lastI pre < 0) = true := by simp [hp0, lastI]
            gi_wp2
            refine ⟨Boxed.keeps I3.out _, ⟨by simp, fun j hj => ?_⟩, ?_, Boxed.far I0.out (by omega) _, ?_, Boxed.far I2.out (by omega) _, ?_, IW.out.setCell (by simp) _⟩
            · simp at hj; subst hj; exact Below.heap_setCell _ _ _ _ (by simp)
            · simp
            · have h := Boxed.far I1.out (b' := w.heap.size + 3) (by omega) (.int .i64 p)
              rw [hp0] at h; exact h
            · have h := Boxed.set (.int .i64 p) I3.out
              exact h
          · have e1 : decide (lastI pre < 0) = false := by
              obtain ⟨q, z, hqz⟩ := List.eq_nil_or_concat pre |>.resolve_left hp0
              rw [hqz, List.concat_eq_append, lastI_snoc]; simp
            by_cases hgt : k < fr + p
            · have e2 : decide ((k : Int) < fr + p) = true := by simp; omega
              gi_wp2
              exact ⟨KeepsFrom.refl _ _, rfl, pre, (p, r), rfl, hp0, hgt, HT.out, I0.out, I1.out, I2.out, I3.out, IW.out⟩
            · have e2 : decide ((k : Int) < fr + p) = false := by simp; omega
              gi_wp2
              have k1 := Boxed.keeps (B := w.heap.size + 5) I1.out (.int .i64 ((colI pre : Int) + 1))
              have j0 := Boxed.far I0.out (b' := w.heap.size + 1) (by omega) (.int .i64 ((colI pre : Int) + 1))
              have j1 := Boxed.set (.int .i64 ((colI pre : Int) + 1)) I1.out
              have j2 := Boxed.far I2.out (b' := w.heap.size + 1) (by omega) (.int .i64 ((colI pre : Int) + 1))
              have j3 := Boxed.far I3.out (b' := w.heap.size + 1) (by omega) (.int .i64 ((colI pre : Int) + 1))
              refine ⟨k1.trans (Boxed.keeps j3 _), ⟨by simp, fun j hj => ?_⟩, ?_, Boxed.far j0 (by omega) _, ?_, Boxed.far j2 (by omega) _, ?_, (IW.out.setCell (by simp) _).setCell (by simp) _⟩
              · simp at hj; subst hj
                exact (Below.heap_setCell _ _ _ _ (by simp)).trans (Below.heap_setCell _ _ _ _ (by simp))
              · intro x hx
                cases pre with
                | nil => exact absurd rfl hp0
                | cons y t =>
                  simp only [List.cons_append, List.tail_cons, List.mem_append, List.mem_singleton] at hx
                  rcases hx with hx | rfl
                  · exact HT.out x hx
                  · simp; omega
              · have h := Boxed.far j1 (b' := w.heap.size + 3) (by omega) (.int .i64 p)
                have hc : ((colI (pre ++ [(p, r)]) : Nat) : Int) = (colI pre : Int) + 1 := by
                  cases pre with
                  | nil => exact absurd rfl hp0
                  | cons y t => simp [colI]; omega
                rw [hc]; exact h
              · have h := Boxed.set (.int .i64 p) j3
                rw [lastI_snoc]; exact h
        case done =>
          rintro D W hD ⟨ht, i0, i1, i2, i3, iw⟩ hDf
          have hcd := col_done bs.length fr k (bs.drop fr) (by simp) (by omega) (by simp; omega) ht
          have hln : (runes (bs.drop fr)).length ≤ bs.length := by
            have h2 := runes_length (bs.drop fr)
            simp at h2; omega
          have d0 := Boxed.cell i0
          have d1 := Boxed.cell i1
          have d2 := Boxed.cell i2
          have d3 := Boxed.cell i3
          have f0 := Boxed.frozen i0
          have f1 := Boxed.frozen i1
          have f2 := Boxed.frozen i2
          have f3 := Boxed.frozen i3
          have hcol : colI (runes (bs.drop fr)) ≤ bs.length + 1 := by unfold colI; omega
          obtain ⟨col, hcE⟩ : ∃ col, col = colI (runes (bs.drop fr)) := ⟨_, rfl⟩
          obtain ⟨lz, hlE⟩ : ∃ lz, lz = lastI (runes (bs.drop fr)) := ⟨_, rfl⟩
          have hlz : (runes (bs.drop fr) = [] ∧ lz = -1) ∨ (runes (bs.drop fr) ≠ [] ∧ 0 ≤ lz ∧ fr + lz < bs.length) := by
            by_cases hxs : runes (bs.drop fr) = []
            · exact .inl ⟨hxs, by rw [hlE, hxs]; rfl⟩
            · obtain ⟨q, z, hqz⟩ := List.eq_nil_or_concat (runes (bs.drop fr)) |>.resolve_left hxs
              have hz : z.1 < bs.length - fr := by
                have := runes_lt (bs.drop fr) z (by rw [hqz]; simp)
                simpa using this
              have : lastI (runes (bs.drop fr)) = z.1 := by rw [hqz, List.concat_eq_append, lastI_snoc]
              exact .inr ⟨hxs, by omega, by omega⟩
          have hcase : (lz = -1 ∧ colF bs.length fr (bs.drop fr) k + 1 = col) ∨ (0 ≤ lz ∧ k = bs.length ∧ fr + lz < k ∧ colF bs.length fr (bs.drop fr) k + 1 = col + 1) ∨ (0 ≤ lz ∧ k ≠ bs.length ∧ colF bs.length fr (bs.drop fr) k + 1 = col) := by
            rw [List.length_drop] at hcd
            rcases hlz with ⟨hn, h1⟩ | ⟨hn, h1, h2⟩
            · left
              rw [if_neg (by simp [hn]), hn] at hcd
              refine ⟨h1, ?_⟩
              rw [hcd, hcE, hn]; rfl
            · right
              have hl0 : (runes (bs.drop fr)).length ≠ 0 := fun h => hn (List.eq_nil_of_length_eq_zero h)
              by_cases hk2 : k = bs.length
              · left
                rw [if_pos ⟨by omega, hn⟩] at hcd
                exact ⟨h1, hk2, by omega, by rw [hcd, hcE]; unfold colI; omega⟩
              · right
                rw [if_neg (by omega)] at hcd
                exact ⟨h1, hk2, by rw [hcd, hcE]; unfold colI; omega⟩
          rw [← hcE] at i1 d1 hcol
          rw [← hlE] at i3 d3
          have hlzB : lz ≤ bs.length := by omega
          clear hcE hlE hlz hcd ht
          have I0 := Lib.hid i0
          have I1 := Lib.hid i1
          have I2 := Lib.hid i2
          have I3 := Lib.hid i3
          have GW := Lib.hid iw
          have GD := Lib.hid hDf
          have GS := Lib.hid hD
          clear hDf iw i0 i1 i2 i3 hD hit g0 g1 g2 g3 gw hBx
          rcases hcase with ⟨hA, hB⟩ | ⟨hA, hk2, hA2, hB⟩ | ⟨hA, hk2, hB⟩
          · have e1 : decide (0 ≤ lz) = false := by simp; omega
            have HB := Lib.hid hB
            clear hB
            go_wp2
            go_region
            go_wp2
            have gs := GS.out
            refine place_end (y := col) rfl ((Below.heap_setCell _ _ _ _ (by show D ≠ w.heap.size + 1; omega)).trans GD.out) rfl rfl (Boxed.set _ I1.out) (by omega) (by omega) (GW.out.setCell (p := ⟨w.heap.size + 1, 0, none⟩) (Nat.le_succ _) _).drew (fun W9 hW9 => ⟨?_, hW9⟩)
            rw [HPL.out, ← HL.out, ← hnl0]
            have hb1 := HB.out
            show _ = Ending.returned (.tuple #[.int .i64 (ln : Int), .int .i64 ((1 + colF bs.length fr (bs.drop fr) k : Nat) : Int)])
            rw [show ((1 + colF bs.length fr (bs.drop fr) k : Nat) : Int) = col by omega]
          · have e1 : decide (0 ≤ lz) = true := by simp; omega
            have e2 : ((k : Int) == bs.length) = true := by simp; omega
            have e3 : decide (fr + lz < k) = true := by simp; omega
            have HB := Lib.hid hB
            clear hB
            go_wp2
            go_region
            go_wp2
            have gs := GS.out
            refine place_end (y := (col : Int) + 1) rfl ((Below.heap_setCell _ _ _ _ (by show D ≠ w.heap.size + 1; omega)).trans ((Below.heap_setCell _ _ _ _ (by show D ≠ w.heap.size + 1; omega)).trans GD.out)) rfl rfl (Boxed.set _ (Boxed.set _ I1.out)) (by omega) (by omega) ((GW.out.setCell (p := ⟨w.heap.size + 1, 0, none⟩) (Nat.le_succ _) _).setCell (p := ⟨w.heap.size + 1, 0, none⟩) (Nat.le_succ _) _).drew (fun W9 hW9 => ⟨?_, hW9⟩)
            rw [HPL.out, ← HL.out, ← hnl0]
            have hb1 := HB.out
            show _ = Ending.returned (.tuple #[.int .i64 (ln : Int), .int .i64 ((1 + colF bs.length fr (bs.drop fr) k : Nat) : Int)])
            rw [show ((1 + colF bs.length fr (bs.drop fr) k : Nat) : Int) = (col : Int) + 1 by omega]
          · have e1 : decide (0 ≤ lz) = true := by simp; omega
            have e2 : ((k : Int) == bs.length) = false := by simp; omega
            have HB := Lib.hid hB
            clear hB
            go_wp2
            go_region
            go_wp2
            have gs := GS.out
            refine place_end (y := col) rfl ((Below.heap_setCell _ _ _ _ (by show D ≠ w.heap.size + 1; omega)).trans GD.out) rfl rfl (Boxed.set _ I1.out) (by omega) (by omega) (GW.out.setCell (p := ⟨w.heap.size + 1, 0, none⟩) (Nat.le_succ _) _).drew (fun W9 hW9 => ⟨?_, hW9⟩)
            rw [HPL.out, ← HL.out, ← hnl0]
            have hb1 := HB.out
            show _ = Ending.returned (.tuple #[.int .i64 (ln : Int), .int .i64 ((1 + colF bs.length fr (bs.drop fr) k : Nat) : Int)])
            rw [show ((1 + colF bs.length fr (bs.drop fr) k : Nat) : Int) = col by omega]
        case stop =>
          rintro D c pre W hD hpre hne ⟨rfl, q, x, rfl, hq, hx, ht, i0, i1, i2, i3, iw⟩ hDf
          have hcd := col_stop bs.length fr k (bs.drop fr) q x (by simp) (by omega) hpre hq ht hx
          obtain ⟨q', z, hqz⟩ := List.eq_nil_or_concat q |>.resolve_left hq
          have hlE : lastI q = z.1 := by rw [hqz, List.concat_eq_append, lastI_snoc]
          have hzb : z.1 < bs.length := by
            have := runes_lt (bs.drop fr) z (hpre.subset (by rw [hqz]; simp))
            rw [List.length_drop] at this
            omega
          have hqln : q.length ≤ bs.length := by
            have h1 := hpre.length_le
            have h2 := runes_length (bs.drop fr)
            simp at h1 h2; omega
          have hql : q.length ≠ 0 := fun h => hq (List.eq_nil_of_length_eq_zero h)
          have d0 := Boxed.cell i0
          have d1 := Boxed.cell i1
          have d2 := Boxed.cell i2
          have d3 := Boxed.cell i3
          have f0 := Boxed.frozen i0
          have f1 := Boxed.frozen i1
          have f2 := Boxed.frozen i2
          have f3 := Boxed.frozen i3
          obtain ⟨col, hcE⟩ : ∃ col, col = colI q := ⟨_, rfl⟩
          obtain ⟨lz, hlz⟩ : ∃ lz, lz = lastI q := ⟨_, rfl⟩
          rw [List.length_drop] at hcd
          have hcase : (lz = -1 ∧ colF bs.length fr (bs.drop fr) k + 1 = col) ∨ (0 ≤ lz ∧ k = bs.length ∧ fr + lz < k ∧ colF bs.length fr (bs.drop fr) k + 1 = col + 1) ∨ (0 ≤ lz ∧ k ≠ bs.length ∧ colF bs.length fr (bs.drop fr) k + 1 = col) :=
            .inr (.inr ⟨by omega, by omega, by rw [hcd.1, hcE]; unfold colI; omega⟩)
          have hcol : col ≤ bs.length + 1 := by rw [hcE]; unfold colI; omega
          rw [← hcE] at i1 d1
          rw [← hlz] at i3 d3
          have hlzB : lz ≤ bs.length := by omega
          clear hcE hlE hlz hcd ht hx hpre hqz hq hzb hqln hql hne
          have I0 := Lib.hid i0
          have I1 := Lib.hid i1
          have I2 := Lib.hid i2
          have I3 := Lib.hid i3
          have GW := Lib.hid iw
          have GD := Lib.hid hDf
          have GS := Lib.hid hD
          clear hDf iw i0 i1 i2 i3 hD hit g0 g1 g2 g3 gw hBx
          rcases hcase with ⟨hA, hB⟩ | ⟨hA, hk2, hA2, hB⟩ | ⟨hA, hk2, hB⟩
          · have e1 : decide (0 ≤ lz) = false := by simp; omega
            have HB := Lib.hid hB
            clear hB
            go_wp2
            go_region
            go_wp2
            have gs := GS.out
            refine place_end (y := col) rfl ((Below.heap_setCell _ _ _ _ (by show D ≠ w.heap.size + 1; omega)).trans GD.out) rfl rfl (Boxed.set _ I1.out) (by omega) (by omega) (GW.out.setCell (p := ⟨w.heap.size + 1, 0, none⟩) (Nat.le_succ _) _).drew (fun W9 hW9 => ⟨?_, hW9⟩)
            rw [HPL.out, ← HL.out, ← hnl0]
            have hb1 := HB.out
            show _ = Ending.returned (.tuple #[.int .i64 (ln : Int), .int .i64 ((1 + colF bs.length fr (bs.drop fr) k : Nat) : Int)])
            rw [show ((1 + colF bs.length fr (bs.drop fr) k : Nat) : Int) = col by omega]
          · have e1 : decide (0 ≤ lz) = true := by simp; omega
            have e2 : ((k : Int) == bs.length) = true := by simp; omega
            have e3 : decide (fr + lz < k) = true := by simp; omega
            have HB := Lib.hid hB
            clear hB
            go_wp2
            go_region
            go_wp2
            have gs := GS.out
            refine place_end (y := (col : Int) + 1) rfl ((Below.heap_setCell _ _ _ _ (by show D ≠ w.heap.size + 1; omega)).trans ((Below.heap_setCell _ _ _ _ (by show D ≠ w.heap.size + 1; omega)).trans GD.out)) rfl rfl (Boxed.set _ (Boxed.set _ I1.out)) (by omega) (by omega) ((GW.out.setCell (p := ⟨w.heap.size + 1, 0, none⟩) (Nat.le_succ _) _).setCell (p := ⟨w.heap.size + 1, 0, none⟩) (Nat.le_succ _) _).drew (fun W9 hW9 => ⟨?_, hW9⟩)
            rw [HPL.out, ← HL.out, ← hnl0]
            have hb1 := HB.out
            show _ = Ending.returned (.tuple #[.int .i64 (ln : Int), .int .i64 ((1 + colF bs.length fr (bs.drop fr) k : Nat) : Int)])
            rw [show ((1 + colF bs.length fr (bs.drop fr) k : Nat) : Int) = (col : Int) + 1 by omega]
          · have e1 : decide (0 ≤ lz) = true := by simp; omega
            have e2 : ((k : Int) == bs.length) = false := by simp; omega
            have HB := Lib.hid hB
            clear hB
            go_wp2
            go_region
            go_wp2
            have gs := GS.out
            refine place_end (y := col) rfl ((Below.heap_setCell _ _ _ _ (by show D ≠ w.heap.size + 1; omega)).trans GD.out) rfl rfl (Boxed.set _ I1.out) (by omega) (by omega) (GW.out.setCell (p := ⟨w.heap.size + 1, 0, none⟩) (Nat.le_succ _) _).drew (fun W9 hW9 => ⟨?_, hW9⟩)
            rw [HPL.out, ← HL.out, ← hnl0]
            have hb1 := HB.out
            show _ = Ending.returned (.tuple #[.int .i64 (ln : Int), .int .i64 ((1 + colF bs.length fr (bs.drop fr) k : Nat) : Int)])
            rw [show ((1 + colF bs.length fr (bs.drop fr) k : Nat) : Int) = col by omega]
end Go.Proofs.YtnepdjgbfhakmaaDoor
