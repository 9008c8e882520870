/- Trees: places as function values. -/
import Derived.Test.YtnepdjgbfhakmaaDoorTree6
import Derived.Test.YtnepdjgbfhakmaaDoorQTail
import Derived.Test.YtnepdjgbfhakmaaDoorLaw1
namespace Go.Proofs.YtnepdjgbfhakmaaDoor
set_option linter.unusedVariables false
set_option linter.unusedSimpArgs false
open Go.RowKit Go.Shelf
attribute [local go_sem] Oper.semAt_some

/-- The nodes of a tree are within bounds. -/
def TreeOk (T : List Nd) : Prop := T.length ≤ 2000000 ∧ ∀ x ∈ T, x.ok ∧ x.text.size ≤ 2000000 ∧ x.kids.length ≤ 2000000

/-- A function value that says of each node of a tree whether p holds there: in w and in all that comes behind it. -/
def Place (w : World) (v : Value) (p : List Nd → Nat → Bool) : Prop :=
  ∃ g cap, v = .func (.func g) #[] cap ∧ (∀ args W, (callFunc g args).run Tryd.prog W = .ok (.enter g args) W) ∧
    ∀ (W : World) (A : Option Addr) (c : Nat) (T : List Nd) (i : Nat), Below w.heap.size w W → TreeOk T → TreeAt W A T → i < T.length →
      Calls Tryd.prog g (#[treeV A T.length c, .int .i64 i] ++ cap) W fun e w' => e = .returned (.bool (p T i)) ∧ Below W.heap.size W w'
theorem Place.below {w w' : World} {v : Value} {p : List Nd → Nat → Bool} (h : Place w v p) (hb : Below w.heap.size w w') : Place w' v p := by
  obtain ⟨g, cap, hv, he, hc⟩ := h
  exact ⟨g, cap, hv, he, fun W A c T i hW => hc W A c T i (hb.trans (hW.mono hb.size))⟩
theorem nd_at {T : List Nd} {i : Nat} (h : i < T.length) : ∃ x, T[i]? = some x ∧ x = T.getD i default := by
  refine ⟨T[i], List.getElem?_eq_getElem h, ?_⟩
  simp [List.getD, List.getElem?_eq_getElem h]
abbrev ndK (T : List Nd) (i : Nat) : Int := (T.getD i default).kind

theorem place_isExpr (w : World) : Place w (.func (.func 104) #[] #[]) (fun T i => isExprB (ndK T i)) := by
  refine ⟨_, _, rfl, fun args W => by simp [go_sem], fun W A c T i hW hT hA hi => ?_⟩
  obtain ⟨x, hx, he⟩ := nd_at hi
  have := isExpr_calls A c T i x W (by have := hT.1; omega) hx hA
  rw [he] at this
  exact this

theorem any_take {ks : List Int} {k : Nat} {v : Int} (h : ¬ (ks.take k).contains v = true) (hk : k < ks.length) : (ks.take (k + 1)).contains v = (v == ks.getD k 0) := by
  rw [List.take_succ_eq_append_getElem hk]
  have h' : (ks.take k).contains v = false := by simpa using h
  have hg : ks.getD k 0 = ks[k] := by simp [List.getD, hk]
  rw [hg]
  simp only [List.contains_append, h', Bool.false_or]
  simp [List.contains, List.elem]
  cases hv : v == ks[k] <;> simp_all

set_option maxRecDepth 100000 in
theorem ofC_calls (B : Nat) (K : Option Addr) (kc : Nat) (ks : List Int) (A : Option Addr) (c : Nat) (T : List Nd) (i : Nat) (x : Nd) (w : World) (hl : T.length ≤ 1000000000) (hks : ks.length ≤ 2000000) (hB : w.cell? ⟨B, 0, none⟩ = some (.slice K ks.length kc)) (hK : Ints w K kc ks) (hx : T[i]? = some x) (hT : TreeAt w A T) :
    Calls Tryd.prog 172 #[treeV A T.length c, .int .i64 i, .pointer (some ⟨B, 0, none⟩)] w fun e w' => e = .returned (.bool (ks.contains x.kind)) ∧ Below w.heap.size w w' := by
  have b1 : Below w.heap.size w (w.alloc (.cells #[.slice A T.length c] 59)) := (Below.refl _ _).alloc (Nat.le_refl _) _
  obtain ⟨_, _, ⟨a, rfl, c0, c1, c2, c3, c4⟩, _⟩ := (hT.below b1) i x hx
  have hlt := (List.getElem?_eq_some_iff.1 hx).1
  have hB1 := b1.cell_keep hB
  have t1 : (w.alloc (.cells #[.slice (some a) T.length c] 59)).cell? ⟨w.heap.size, 0, none⟩ = some (.slice (some a) T.length c) := by simp [World.cell?_alloc_new]
  have HK := Lib.hid (hK.below b1)
  obtain ⟨w1, hw1⟩ : ∃ w1, w.alloc (.cells #[.slice (some a) T.length c] 59) = w1 := ⟨_, rfl⟩
  rw [hw1] at c0 c1 c2 c3 c4 b1 hB1 HK t1
  have HW := Lib.hid hw1
  have HB := Lib.hid b1
  clear hx hT hB hK hw1 b1
  go_enter Tryd.func172, Tryd.ntmps172
  go_upto_region 1 with (fail)
  rw [HW.out]
  go_wp2_with (fail)
  go_loopw [10] (fun v wr => ∃ k : Nat, v = .int .i64 k ∧ k ≤ ks.length ∧ Hid (¬ (ks.take k).contains x.kind = true) ∧ w1 = wr) (fun v _ => ks.length - (intOf v).toNat)
  case atStart => exact ⟨0, rfl, by omega, Lib.hid (by simp), rfl⟩
  case round =>
    obtain ⟨k, rfl, hk, hn, rfl⟩ := hrel
    by_cases hlt2 : k < ks.length
    · obtain ⟨a2, rfl, hcell⟩ := ints_at HK.out k hlt2
      have HA := Lib.hid (any_take hn.out hlt2)
      obtain ⟨z, hz⟩ : ∃ z, ks.getD k 0 = z := ⟨_, rfl⟩
      rw [hz] at hcell HA
      have HZ := Lib.hid hz
      clear hz
      by_cases he : x.kind = z
      · have e1 : (x.kind == z) = true := by simpa using he
        have hco : ks.contains x.kind = true := by
          have h1 := HA.out
          rw [e1] at h1
          have : x.kind ∈ ks.take (k + 1) := by simpa using h1
          simpa using List.mem_of_mem_take this
        have HC := Lib.hid hco
        clear he hco
        go_wp2_with (fail)
        go_ret
        exact ⟨ret_val (by rw [HC.out]; rfl), HB.out⟩
      · have e1 : (x.kind == z) = false := by simpa using he
        clear he
        go_wp2_with (fail)
        refine ⟨⟨k + 1, by simp, by omega, Lib.hid ?_, trivial⟩, by simp [intOf]; omega⟩
        rw [HA.out]; simpa using e1
    · have hkl : k = ks.length := by omega
      have hco : ks.contains x.kind = false := by
        have := hn.out
        rw [hkl, List.take_length] at this
        simpa using this
      have HC := Lib.hid hco
      clear hkl hco
      go_wp2_with (fail)
      go_ret
      exact ⟨ret_val (by rw [HC.out]; rfl), HB.out⟩

set_option maxRecDepth 100000 in
theorem of_calls (K : Option Addr) (kc : Nat) (ks : List Int) (w : World) (hks : ks.length ≤ 2000000) (hK : Ints w K kc ks) :
    Calls Tryd.prog 139 #[.slice K ks.length kc] w fun e w' => ∃ v, e = .returned v ∧ Below w.heap.size w w' ∧ Place w' v (fun T i => ks.contains (ndK T i)) := by
  go_enter Tryd.func139, Tryd.ntmps139
  go_wp2
  go_ret
  have b1 : Below w.heap.size w (w.alloc (.cells #[.slice K ks.length kc] 38)) := (Below.refl _ _).alloc (Nat.le_refl _) _
  refine ⟨_, rfl, b1, _, _, rfl, fun args W => by simp [go_sem], fun W A c T i hW hT hA hi => ?_⟩
  obtain ⟨x, hx, he⟩ := nd_at hi
  have hc : (w.alloc (.cells #[.slice K ks.length kc] 38)).cell? ⟨w.heap.size, 0, none⟩ = some (.slice K ks.length kc) := by simp [World.cell?_alloc_new]
  have := ofC_calls w.heap.size K kc ks A c T i x W (by have := hT.1; omega) hks (hW.cell_keep hc) ((hK.below b1).below hW) hx hA
  rw [he] at this
  exact this

def rowsB (p : List Nd → Nat → Bool) (T : List Nd) (i : Nat) : Bool := ndK T i == 2 && (T.getD i default).kids.all fun k => withinB T.length k && p T k.toNat
theorem within_nat {n : Nat} {z : Int} (h : withinB n z = true) : ∃ k : Nat, z = k ∧ k < n := by
  unfold withinB at h
  simp only [Bool.and_eq_true, decide_eq_true_eq] at h
  exact ⟨z.toNat, by omega, by omega⟩

set_option maxRecDepth 100000 in
theorem rowsC_calls (B : Nat) (f : Value) (p : List Nd → Nat → Bool) (A : Option Addr) (c : Nat) (T : List Nd) (i : Nat) (w : World) (hB : w.cell? ⟨B, 0, none⟩ = some f) (hP : Place w f p) (hT : TreeOk T) (hA : TreeAt w A T) (hi : i < T.length) :
    Calls Tryd.prog 173 #[treeV A T.length c, .int .i64 i, .pointer (some ⟨B, 0, none⟩)] w fun e w' => e = .returned (.bool (rowsB p T i)) ∧ Below w.heap.size w w' := by
  obtain ⟨x, hx, hxe⟩ := nd_at hi
  have hl : T.length ≤ 2000000 := hT.1
  have hkl : x.kids.length ≤ 2000000 := (hT.2 x (List.mem_of_getElem? hx)).2.2
  have b1 : Below w.heap.size w (w.alloc (.cells #[.slice A T.length c] 59)) := (Below.refl _ _).alloc (Nat.le_refl _) _
  obtain ⟨K, kc, ⟨a, rfl, c0, _, _, c3, _⟩, hK⟩ := (hA.below b1) i x hx
  have hp : rowsB p T i = (x.kind == 2 && x.kids.all fun k => withinB T.length k && p T k.toNat) := by unfold rowsB ndK; rw [← hxe]
  have t1 : (w.alloc (.cells #[.slice (some a) T.length c] 59)).cell? ⟨w.heap.size, 0, none⟩ = some (.slice (some a) T.length c) := by simp [World.cell?_alloc_new]
  have HB1 := Lib.hid (b1.cell_keep hB)
  have HK := Lib.hid hK
  have HP := Lib.hid (hP.below b1)
  have HA := Lib.hid (hA.below b1)
  have HT1 := Lib.hid t1
  obtain ⟨w1, hw1⟩ : ∃ w1, w.alloc (.cells #[.slice (some a) T.length c] 59) = w1 := ⟨_, rfl⟩
  rw [hw1] at c0 c3 b1 HB1 HK t1 HP HA HT1
  have HW := Lib.hid hw1
  have HB := Lib.hid b1
  have HE := Lib.hid hp
  have HT := Lib.hid hT
  clear hx hT hA hB hP hK hw1 b1 hp hxe
  by_cases hk : x.kind = 2
  · have e1 : (x.kind == 2) = true := by simpa using hk
    have e2 : (x.kind != 2) = false := by simp [hk]
    have HC3 := Lib.hid c3
    have hpq := HE.out
    rw [e1, Bool.true_and] at hpq
    have HE2 := Lib.hid hpq
    clear hk HE hpq
    go_enter Tryd.func173, Tryd.ntmps173
    go_upto_region 1 with (fail)
    rw [HW.out]
    go_wp2_with (fail)
    go_loopw [22] (fun v wr => ∃ k : Nat, v = .int .i64 k ∧ k ≤ x.kids.length ∧ Hid (((x.kids.take k).all fun k => withinB T.length k && p T k.toNat) = true) ∧ Hid (Below w1.heap.size w1 wr)) (fun v _ => x.kids.length - (intOf v).toNat)
    case atStart => exact ⟨0, rfl, by omega, Lib.hid (by simp), Lib.hid (Below.refl _ _)⟩
    case round =>
      obtain ⟨k, rfl, hk, hn, hb⟩ := hrel
      by_cases hlt2 : k < x.kids.length
      · obtain ⟨a2, rfl, hcell⟩ := ints_at (HK.out.below hb.out) k hlt2
        have hts : (x.kids.take (k + 1)).all (fun k => withinB T.length k && p T k.toNat) = (withinB T.length (x.kids.getD k 0) && p T (x.kids.getD k 0).toNat) := by
          have hg : x.kids.getD k 0 = x.kids[k] := by simp [List.getD, hlt2]
          rw [List.take_succ_eq_append_getElem hlt2, List.all_append, hn.out, hg]
          simp
        have hno : (withinB T.length (x.kids.getD k 0) && p T (x.kids.getD k 0).toNat) = false → (x.kids.all fun k => withinB T.length k && p T k.toNat) = false := fun h => by
          have hg : x.kids.getD k 0 = x.kids[k] := by simp [List.getD, hlt2]
          rw [hg] at h
          rw [List.all_eq_false]
          exact ⟨_, List.getElem_mem hlt2, by rw [h]; decide⟩
        obtain ⟨z, hz⟩ : ∃ z, x.kids.getD k 0 = z := ⟨_, rfl⟩
        rw [hz] at hcell hts hno
        have hwi := within_calls (some a) c T.length z wr
        obtain ⟨b, hbe⟩ : ∃ b, withinB T.length z = b := ⟨_, rfl⟩
        rw [hbe] at hwi hts hno
        have HN := Lib.hid hwi
        have HTS := Lib.hid hts
        have HNO := Lib.hid hno
        have t2 := hb.out.cell_keep HT1.out
        clear hz hts hno hwi
        cases b with
        | false =>
          clear hbe
          go_wp2_with (fail)
          refine HN.out.mono ?_
          rintro e w2 ⟨rfl, b2⟩
          have hB3 := HB.out.trans ((hb.out.trans (b2.mono hb.out.size)).mono HB.out.size)
          clear b2
          go_wp2_with (fail)
          go_ret
          exact ⟨ret_val (by rw [HE2.out, HNO.out (by simp)]; rfl), hB3⟩
        | true =>
          obtain ⟨m, rfl, hm⟩ := within_nat hbe
          clear hbe
          go_wp2_with (fail)
          refine HN.out.mono ?_
          rintro e w2 ⟨rfl, b2⟩
          have hB2 := hb.out.trans (b2.mono hb.out.size)
          obtain ⟨g, cap, rfl, eg, hg⟩ := HP.out
          have cc := hg w2 (some a) c T m hB2 HT.out (HA.out.below hB2) hm
          have q1 := hB2.cell_keep HB1.out
          have q2 := hB2.cell_keep HT1.out
          have CC := Lib.hid cc
          have HB2 := Lib.hid hB2
          clear cc b2 hB2 t2 hg
          obtain ⟨b, hbe⟩ : ∃ b, p T m = b := ⟨_, rfl⟩
          simp only [Int.toNat_natCast, Bool.true_and] at HTS HNO
          rw [hbe] at CC HTS HNO
          clear hbe
          go_wp2_with (fail)
          refine CC.out.mono ?_
          rintro e w3 ⟨rfl, b3⟩
          have hB3 := Lib.hid (HB2.out.trans (b3.mono HB2.out.size))
          clear b3 CC q1 q2 HB2
          cases b with
          | true =>
            go_wp2_with (fail)
            exact ⟨⟨k + 1, by simp, by omega, Lib.hid HTS.out, hB3⟩, by simp [intOf]; omega⟩
          | false =>
            go_wp2_with (fail)
            go_ret
            exact ⟨ret_val (by rw [HE2.out, HNO.out (by simp)]; rfl), HB.out.trans (hB3.out.mono HB.out.size)⟩
      · have hkl2 : k = x.kids.length := by omega
        have hall := hn.out
        rw [hkl2, List.take_length] at hall
        have HAL := Lib.hid hall
        clear hkl2 hall
        go_wp2_with (fail)
        go_ret
        exact ⟨ret_val (by rw [HE2.out, HAL.out]; rfl), HB.out.trans (hb.out.mono HB.out.size)⟩
  · have e1 : (x.kind == 2) = false := by simpa using hk
    have hpq := HE.out
    rw [e1, Bool.false_and] at hpq
    have HE2 := Lib.hid hpq
    clear hk HE hpq
    go_enter Tryd.func173, Tryd.ntmps173
    go_upto_region 1 with (fail)
    rw [HW.out]
    go_wp2_with (fail)
    go_ret
    exact ⟨ret_val (by rw [HE2.out]; rfl), HB.out⟩

set_option maxRecDepth 100000 in
theorem rows_place (f : Value) (p : List Nd → Nat → Bool) (w : World) (hP : Place w f p) :
    Calls Tryd.prog 140 #[f] w fun e w' => ∃ v, e = .returned v ∧ Below w.heap.size w w' ∧ Place w' v (rowsB p) := by
  have HP := Lib.hid hP
  obtain ⟨gf, cf, rfl, ef, hf⟩ := hP
  clear ef hf
  obtain ⟨f, hfe⟩ : ∃ f, Value.func (.func gf) #[] cf = f := ⟨_, rfl⟩
  have HFE := Lib.hid hfe
  clear hfe
  go_enter Tryd.func140, Tryd.ntmps140
  go_wp2_with (fail)
  go_ret
  have hP := HP.out
  rw [HFE.out] at hP ⊢
  have b1 : Below w.heap.size w (w.alloc (.cells #[f] 132)) := (Below.refl _ _).alloc (Nat.le_refl _) _
  refine ⟨_, rfl, b1, _, _, rfl, fun args W => by simp [go_sem], fun W A c T i hW hT hA hi => ?_⟩
  have hc : (w.alloc (.cells #[f] 132)).cell? ⟨w.heap.size, 0, none⟩ = some f := by simp [World.cell?_alloc_new]
  exact rowsC_calls w.heap.size f p A c T i W (hW.cell_keep hc) ((hP.below b1).below hW) hT hA hi

set_option maxRecDepth 100000 in
theorem orC_calls (B C : Nat) (f g : Value) (p q : List Nd → Nat → Bool) (A : Option Addr) (c : Nat) (T : List Nd) (i : Nat) (w : World) (hB : w.cell? ⟨B, 0, none⟩ = some f) (hC : w.cell? ⟨C, 0, none⟩ = some g) (hP : Place w f p) (hQ : Place w g q) (hT : TreeOk T) (hA : TreeAt w A T) (hi : i < T.length) :
    Calls Tryd.prog 174 #[treeV A T.length c, .int .i64 i, .pointer (some ⟨B, 0, none⟩), .pointer (some ⟨C, 0, none⟩)] w fun e w' => e = .returned (.bool (p T i || q T i)) ∧ Below w.heap.size w w' := by
  have b1 : Below w.heap.size w (w.alloc (.cells #[.slice A T.length c] 59)) := (Below.refl _ _).alloc (Nat.le_refl _) _
  have t1 : (w.alloc (.cells #[.slice A T.length c] 59)).cell? ⟨w.heap.size, 0, none⟩ = some (.slice A T.length c) := by simp [World.cell?_alloc_new]
  have hB1 := b1.cell_keep hB
  have hC1 := b1.cell_keep hC
  obtain ⟨w1, hw1⟩ : ∃ w1, w.alloc (.cells #[.slice A T.length c] 59) = w1 := ⟨_, rfl⟩
  obtain ⟨f, cf, rfl, ef, hf⟩ := hP
  obtain ⟨g, cg, rfl, eg, hg⟩ := hQ
  rw [hw1] at b1 t1 hB1 hC1
  have CF := hf w1 A c T i b1 hT (hA.below b1) hi
  obtain ⟨x, hx⟩ : ∃ x, p T i = x := ⟨_, rfl⟩
  obtain ⟨y, hy⟩ : ∃ y, q T i = y := ⟨_, rfl⟩
  have CG : ∀ W, Below w1.heap.size w1 W → Calls Tryd.prog g (#[treeV A T.length c, .int .i64 i] ++ cg) W fun e w' => e = .returned (.bool y) ∧ Below W.heap.size W w' := fun W hW => by
    have hb := b1.trans (hW.mono b1.size)
    have := hg W A c T i hb hT (hA.below hb) hi
    rwa [hy] at this
  rw [hx] at CF ⊢
  rw [hy]
  have HF := Lib.hid CF
  have HG := Lib.hid CG
  have HC1 := Lib.hid hC1
  have HT1 := Lib.hid t1
  have HW := Lib.hid hw1
  have HB := Lib.hid b1
  clear hx hy hf hg hT hA hB hC CF CG hw1 b1 hC1
  go_enter Tryd.func174, Tryd.ntmps174
  go_upto_region 1 with (fail)
  rw [HW.out]
  cases x with
  | true =>
    go_wp2_with (fail)
    refine HF.out.mono ?_
    rintro e w2 ⟨rfl, b2⟩
    have hb2 := HB.out.trans (b2.mono HB.out.size)
    clear HF HG b2 t1 hB1
    go_wp2_with (fail)
    go_ret
    exact ⟨rfl, hb2⟩
  | false =>
    go_wp2_with (fail)
    refine HF.out.mono ?_
    rintro e w2 ⟨rfl, b2⟩
    have q1 := b2.cell_keep HC1.out
    have q2 := b2.cell_keep HT1.out
    have HG2 := Lib.hid (HG.out w2 b2)
    have B2 := Lib.hid (HB.out.trans (b2.mono HB.out.size))
    clear HF HG b2 t1 hB1
    go_wp2_with (fail)
    refine HG2.out.mono ?_
    rintro e w3 ⟨rfl, b3⟩
    have hb3 := B2.out.trans (b3.mono B2.out.size)
    clear HG2 b3 q1 q2
    go_wp2_with (fail)
    go_ret
    exact ⟨rfl, hb3⟩

set_option maxRecDepth 100000 in
theorem or_place (f g : Value) (p q : List Nd → Nat → Bool) (w : World) (hP : Place w f p) (hQ : Place w g q) :
    Calls Tryd.prog 142 #[f, g] w fun e w' => ∃ v, e = .returned v ∧ Below w.heap.size w w' ∧ Place w' v (fun T i => p T i || q T i) := by
  have HP := Lib.hid hP
  have HQ := Lib.hid hQ
  obtain ⟨gf, cf, rfl, ef, hf⟩ := hP
  obtain ⟨gg, cg, rfl, eg, hg⟩ := hQ
  clear ef hf eg hg
  obtain ⟨f, hfe⟩ : ∃ f, Value.func (.func gf) #[] cf = f := ⟨_, rfl⟩
  obtain ⟨g, hge⟩ : ∃ g, Value.func (.func gg) #[] cg = g := ⟨_, rfl⟩
  have HFE := Lib.hid hfe
  have HGE := Lib.hid hge
  clear hfe hge
  go_enter Tryd.func142, Tryd.ntmps142
  go_wp2_with (fail)
  go_ret
  have hP := HP.out
  have hQ := HQ.out
  rw [HFE.out] at hP ⊢
  rw [HGE.out] at hQ ⊢
  have b1 : Below w.heap.size w ((w.alloc (.cells #[f] 132)).alloc (.cells #[g] 132)) := ((Below.refl _ _).alloc (Nat.le_refl _) _).alloc (by simp) _
  refine ⟨_, rfl, b1, _, _, rfl, fun args W => by simp [go_sem], fun W A c T i hW hT hA hi => ?_⟩
  have hc : ((w.alloc (.cells #[f] 132)).alloc (.cells #[g] 132)).cell? ⟨w.heap.size, 0, none⟩ = some f := by
    have h1 : (w.alloc (.cells #[f] 132)).cell? ⟨w.heap.size, 0, none⟩ = some f := by simp [World.cell?_alloc_new]
    exact ((Below.refl _ _).alloc (Nat.le_refl _) _).cell_keep h1
  have hc2 : ((w.alloc (.cells #[f] 132)).alloc (.cells #[g] 132)).cell? ⟨w.heap.size + 1, 0, none⟩ = some g := by
    simp
  exact orC_calls w.heap.size (w.heap.size + 1) f g p q A c T i W (hW.cell_keep hc) (hW.cell_keep hc2) ((hP.below b1).below hW) ((hQ.below b1).below hW) hT hA hi
end Go.Proofs.YtnepdjgbfhakmaaDoor
