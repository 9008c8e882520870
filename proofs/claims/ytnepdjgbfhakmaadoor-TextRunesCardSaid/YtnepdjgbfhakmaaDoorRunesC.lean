/- TextRunes: the closures. -/
import Derived.Test.YtnepdjgbfhakmaaDoorRefRunes
import Derived.RangeFuncNested
namespace Go.Proofs.YtnepdjgbfhakmaaDoor
set_option linter.unusedVariables false
set_option linter.unusedSimpArgs false
open Go.RowKit Go.Shelf
attribute [local go_sem] Oper.semAt_some

theorem run_eql_nilFR {P : Program} (W : World) (t : TypeId) (f : Fn) (cs lb : Array Value) {ps rs : Array TypeId} {s : Bool} (hu : P.underlying t = some (.func ps rs s)) :
    (binOp .eql t (.func f cs lb) .nilFunc).run P W = .ok (.bool false) W := by
  have h : ∀ d : Nat, (Op.equalIn (d + 1) t (.func f cs lb) .nilFunc).run P W = .ok false W := fun d => by simp [Op.equalIn, run_underlying hu]
  simp only [binOp]
  simp [Op.equal, Op.maxDepth, h 9999]

abbrev RowT := Nat × Nat × Nat × Bool

/-- What the closures see: the rows, the string, the variables. -/
def RS (w : World) (B bo bn bs bi bw : Nat) (z : Int) (A : Option Addr) (c : Nat) (rs : List RowT) (s : ByteArray) (k : Nat) (W : World) : Prop :=
  Boxed W bo 4 (.bool true) ∧ Boxed W bn 3 (.int .i64 k) ∧ Boxed W bs 3 (.int .i64 z) ∧ Boxed W bi 35 (.func (.func 67) #[] #[.pointer (some ⟨B, 0, none⟩)]) ∧
    Boxed W bw 32 (.slice A rs.length c) ∧ Cells W A (rowCs rs) ∧ W.heap[B]? = some (.cells #[.string s] 9 (0, 0)) ∧ Below w.heap.size w W
/-- All of these lie below block m. -/
def RM (m B bs bi bw : Nat) (A : Option Addr) (n : Nat) : Prop := B < m ∧ bs < m ∧ bi < m ∧ bw < m ∧ ((A = none ∧ n = 0) ∨ ∃ g, A = some ⟨g, 0, none⟩ ∧ g < m)

theorem RS.below {w : World} {B bo bn bs bi bw : Nat} {z : Int} {A : Option Addr} {c : Nat} {rs : List RowT} {s : ByteArray} {k : Nat} {W W' : World} (h : RS w B bo bn bs bi bw z A c rs s k W) (hb : Below W.heap.size W W') : RS w B bo bn bs bi bw z A c rs s k W' := by
  obtain ⟨h1, h2, h3, h4, h5, h6, h7, h8⟩ := h
  exact ⟨Boxed.below h1 hb (Boxed.lt h1), Boxed.below h2 hb (Boxed.lt h2), Boxed.below h3 hb (Boxed.lt h3), Boxed.below h4 hb (Boxed.lt h4), Boxed.below h5 hb (Boxed.lt h5), h6.below hb, (hb.block B (Array.getElem?_eq_some_iff.1 h7).1).trans h7, h8.trans (hb.mono h8.size)⟩

theorem cells_far {W : World} {A : Option Addr} {m b : Nat} {rs : List RowT} (h : Cells W A (rowCs rs)) (hA : (A = none ∧ rs.length = 0) ∨ ∃ g, A = some ⟨g, 0, none⟩ ∧ g < m) (hb : m ≤ b) (v : Value) : Cells (W.setCell ⟨b, 0, none⟩ v) A (rowCs rs) := by
  rcases hA with ⟨rfl, hn⟩ | ⟨g, rfl, hg⟩
  · exact fun i hi => absurd hi (by rw [rowCs_length]; omega)
  · intro i hi
    obtain ⟨a, ha, hc⟩ := h i hi
    cases ha
    refine ⟨_, rfl, ?_⟩
    have he : (⟨g, 0, none⟩ : Addr).add i = ⟨g, i, none⟩ := by unfold Addr.add; split <;> simp_all
    rw [he] at hc ⊢
    exact (World.cell?_of_block (w := W) (Below.heap_setCell _ _ _ _ (by show g ≠ b; omega))).trans hc

/-- A variable beside them is written. -/
theorem RS.far {w : World} {B bo bn bs bi bw : Nat} {z : Int} {A : Option Addr} {c : Nat} {rs : List RowT} {s : ByteArray} {k m b : Nat} {W : World} (h : RS w B bo bn bs bi bw z A c rs s k W) (hm : RM m B bs bi bw A rs.length) (hw : w.heap.size ≤ m) (hb : m ≤ b) (h1 : bo ≠ b) (h2 : bn ≠ b) (v : Value) : RS w B bo bn bs bi bw z A c rs s k (W.setCell ⟨b, 0, none⟩ v) := by
  obtain ⟨g1, g2, g3, g4, g5, g6, g7, g8⟩ := h
  obtain ⟨m1, m2, m3, m4, m5⟩ := hm
  exact ⟨Boxed.other g1 h1 _, Boxed.other g2 h2 _, Boxed.other g3 (by omega) _, Boxed.other g4 (by omega) _, Boxed.other g5 (by omega) _, cells_far g6 m5 hb _, (Below.heap_setCell _ _ _ _ (by show B ≠ b; omega)).trans g7, g8.setCell (p := ⟨b, 0, none⟩) (by show w.heap.size ≤ b; omega) _⟩
theorem RS.ok {w : World} {B bo bn bs bi bw : Nat} {z : Int} {A : Option Addr} {c : Nat} {rs : List RowT} {s : ByteArray} {k m : Nat} {W : World} (h : RS w B bo bn bs bi bw z A c rs s k W) (hm : RM m B bs bi bw A rs.length) (hw : w.heap.size ≤ m) (hb : m ≤ bo) (h2 : bn ≠ bo) : RS w B bo bn bs bi bw z A c rs s k (W.setCell ⟨bo, 0, none⟩ (.bool true)) := by
  obtain ⟨g1, g2, g3, g4, g5, g6, g7, g8⟩ := h
  obtain ⟨m1, m2, m3, m4, m5⟩ := hm
  exact ⟨Boxed.set _ g1, Boxed.other g2 h2 _, Boxed.other g3 (by omega) _, Boxed.other g4 (by omega) _, Boxed.other g5 (by omega) _, cells_far g6 m5 hb _, (Below.heap_setCell _ _ _ _ (by show B ≠ bo; omega)).trans g7, g8.setCell (p := ⟨bo, 0, none⟩) (by show w.heap.size ≤ bo; omega) _⟩
theorem RS.count {w : World} {B bo bn bs bi bw : Nat} {z : Int} {A : Option Addr} {c : Nat} {rs : List RowT} {s : ByteArray} {k m : Nat} {W : World} (h : RS w B bo bn bs bi bw z A c rs s k W) (hm : RM m B bs bi bw A rs.length) (hw : w.heap.size ≤ m) (hb : m ≤ bn) (h2 : bo ≠ bn) : RS w B bo bn bs bi bw z A c rs s (k + 1) (W.setCell ⟨bn, 0, none⟩ (.int .i64 ((k : Int) + 1))) := by
  obtain ⟨g1, g2, g3, g4, g5, g6, g7, g8⟩ := h
  obtain ⟨m1, m2, m3, m4, m5⟩ := hm
  exact ⟨Boxed.other g1 h2 _, by simpa using Boxed.set (.int .i64 ((k : Int) + 1)) g2, Boxed.other g3 (by omega) _, Boxed.other g4 (by omega) _, Boxed.other g5 (by omega) _, cells_far g6 m5 hb _, (Below.heap_setCell _ _ _ _ (by show B ≠ bn; omega)).trans g7, g8.setCell (p := ⟨bn, 0, none⟩) (by show w.heap.size ≤ bn; omega) _⟩

/-- The same without the two variables of a turn. -/
def RB (w : World) (B bs bi bw : Nat) (z : Int) (A : Option Addr) (c : Nat) (rs : List RowT) (s : ByteArray) (W : World) : Prop :=
  Boxed W bs 3 (.int .i64 z) ∧ Boxed W bi 35 (.func (.func 67) #[] #[.pointer (some ⟨B, 0, none⟩)]) ∧
    Boxed W bw 32 (.slice A rs.length c) ∧ Cells W A (rowCs rs) ∧ W.heap[B]? = some (.cells #[.string s] 9 (0, 0)) ∧ Below w.heap.size w W
theorem RB.below {w : World} {B bs bi bw : Nat} {z : Int} {A : Option Addr} {c : Nat} {rs : List RowT} {s : ByteArray} {W W' : World} (h : RB w B bs bi bw z A c rs s W) (hb : Below W.heap.size W W') : RB w B bs bi bw z A c rs s W' := by
  obtain ⟨h3, h4, h5, h6, h7, h8⟩ := h
  exact ⟨Boxed.below h3 hb (Boxed.lt h3), Boxed.below h4 hb (Boxed.lt h4), Boxed.below h5 hb (Boxed.lt h5), h6.below hb, (hb.block B (Array.getElem?_eq_some_iff.1 h7).1).trans h7, h8.trans (hb.mono h8.size)⟩
theorem RB.far {w : World} {B bs bi bw : Nat} {z : Int} {A : Option Addr} {c : Nat} {rs : List RowT} {s : ByteArray} {m b : Nat} {W : World} (h : RB w B bs bi bw z A c rs s W) (hm : RM m B bs bi bw A rs.length) (hw : w.heap.size ≤ m) (hb : m ≤ b) (v : Value) : RB w B bs bi bw z A c rs s (W.setCell ⟨b, 0, none⟩ v) := by
  obtain ⟨g3, g4, g5, g6, g7, g8⟩ := h
  obtain ⟨m1, m2, m3, m4, m5⟩ := hm
  exact ⟨Boxed.other g3 (by omega) _, Boxed.other g4 (by omega) _, Boxed.other g5 (by omega) _, cells_far g6 m5 hb _, (Below.heap_setCell _ _ _ _ (by show B ≠ b; omega)).trans g7, g8.setCell (p := ⟨b, 0, none⟩) (by show w.heap.size ≤ b; omega) _⟩
theorem RS.rb {w : World} {B bo bn bs bi bw : Nat} {z : Int} {A : Option Addr} {c : Nat} {rs : List RowT} {s : ByteArray} {k : Nat} {W : World} (h : RS w B bo bn bs bi bw z A c rs s k W) : RB w B bs bi bw z A c rs s W := h.2.2

theorem runes_row {bs : List UInt8} {pre : List (Nat × Nat)} {x : Nat × Nat} (h : pre ++ [x] <+: runes bs) : ∃ y : RowT, (rows bs)[pre.length]? = some y ∧ y.1 = x.1 ∧ y.2.1 = x.2 := by
  have hat : (runes bs)[pre.length]? = some x := by
    obtain ⟨t, ht⟩ := h
    rw [← ht]; simp
  rw [← rows_runes, List.getElem?_map] at hat
  cases hy : (rows bs)[pre.length]? with
  | none => rw [hy] at hat; cases hat
  | some y => rw [hy] at hat; cases hat; exact ⟨y, rfl, rfl, rfl⟩

theorem rowCs_cell {W : World} {g : Nat} {rs : List RowT} (h : Cells W (some ⟨g, 0, none⟩) (rowCs rs)) {k j : Nat} {x : RowT} (hk : rs[k]? = some x) (hj : j < 4) {v : Value} (hv : (rowC x)[j]? = some v) :
    W.cell? ⟨g, k * 4 + j, none⟩ = some v := by
  have hlt := (List.getElem?_eq_some_iff.1 hk).1
  obtain ⟨a, ha, hc⟩ := h (k * 4 + j) (by rw [rowCs_length]; omega)
  cases ha
  have he : (⟨g, 0, none⟩ : Addr).add (k * 4 + j) = ⟨g, k * 4 + j, none⟩ := by unfold Addr.add; split <;> simp_all
  rw [he] at hc
  rw [hc]
  have h2 := rowCs_at rs k j x hk hj
  rw [hv] at h2
  exact (List.getElem?_eq_some_iff.1 h2).2 ▸ rfl

set_option maxRecDepth 100000 in
theorem textRunes11_calls (bo bk bw g n c k : Nat) (x : RowT) (W : World) (hk : k < n) (hn : n ≤ 100000) (d1 : bo ≠ bk) (d2 : bw ≠ bo) (d3 : bw ≠ bk) (d4 : g ≠ bo) (d5 : g ≠ bk)
    (h1 : Boxed W bo 4 (.bool true)) (h2 : Boxed W bk 3 (.int .i64 k)) (h3 : Boxed W bw 32 (.slice (some ⟨g, 0, none⟩) n c))
    (c1 : W.cell? ⟨g, k * 4, none⟩ = some (.int .i64 x.1)) (c2 : W.cell? ⟨g, k * 4 + 1, none⟩ = some (.int .i32 x.2.1)) :
    Calls Tryd.prog 27 #[.int .i64 x.1, .int .i32 x.2.1, .pointer (some ⟨bo, 0, none⟩), .pointer (some ⟨bk, 0, none⟩), .pointer (some ⟨bw, 0, none⟩)] W fun e W' =>
      e = .returned (.bool true) ∧ W' = (W.setCell ⟨bo, 0, none⟩ (.bool true)).setCell ⟨bk, 0, none⟩ (.int .i64 ((k : Int) + 1)) := by
  have a1 := Boxed.cell h1
  have a2 := Boxed.cell h2
  have a3 := Boxed.cell h3
  have f1 := Boxed.frozen h1
  have f2 := Boxed.frozen h2
  go_enter Tryd.func27, Tryd.ntmps27
  clear h1 h2 h3
  go_wp2
  go_ret
  exact ⟨rfl, rfl⟩

set_option maxRecDepth 100000 in
theorem textRunes2_calls (bn bs k : Nat) (z : Int) (a r : Int) (W : World) (hn : k ≤ 100000) (d1 : bn ≠ bs)
    (h1 : Boxed W bn 3 (.int .i64 k)) (h2 : Boxed W bs 3 (.int .i64 z)) :
    Calls Tryd.prog 28 #[.int .i64 a, .int .i32 r, .pointer (some ⟨bn, 0, none⟩), .pointer (some ⟨bs, 0, none⟩)] W fun e W' =>
      e = .returned (.bool (decide ((k : Int) + 1 ≤ z))) ∧ W' = W.setCell ⟨bn, 0, none⟩ (.int .i64 ((k : Int) + 1)) := by
  have a1 := Boxed.cell h1
  have a2 := Boxed.cell h2
  have f1 := Boxed.frozen h1
  go_enter Tryd.func28, Tryd.ntmps28
  clear h1 h2
  go_wp2
  go_ret
  exact ⟨rfl, rfl⟩

set_option maxRecDepth 100000 in
/-- A round that is not the one at which the inner loop stands. -/
theorem textRunes1_plain (bo bn bw bs bi g n c k : Nat) (z : Int) (x : RowT) (W : World) (hk : k < n) (hn : n ≤ 100000) (d1 : bo ≠ bn) (d2 : bw ≠ bo) (d3 : bw ≠ bn) (d4 : g ≠ bo) (d5 : g ≠ bn) (d6 : bs ≠ bo) (d7 : bs ≠ bn)
    (h1 : Boxed W bo 4 (.bool true)) (h2 : Boxed W bn 3 (.int .i64 k)) (h3 : Boxed W bw 32 (.slice (some ⟨g, 0, none⟩) n c)) (h4 : Boxed W bs 3 (.int .i64 z))
    (c1 : W.cell? ⟨g, k * 4, none⟩ = some (.int .i64 x.1)) (c2 : W.cell? ⟨g, k * 4 + 1, none⟩ = some (.int .i32 x.2.1)) (hz : (k : Int) ≠ z) :
    Calls Tryd.prog 26 #[.int .i64 x.1, .int .i32 x.2.1, .pointer (some ⟨bo, 0, none⟩), .pointer (some ⟨bn, 0, none⟩), .pointer (some ⟨bw, 0, none⟩), .pointer (some ⟨bs, 0, none⟩), .pointer (some ⟨bi, 0, none⟩)] W fun e W' =>
      e = .returned (.bool true) ∧ W' = (W.setCell ⟨bo, 0, none⟩ (.bool true)).setCell ⟨bn, 0, none⟩ (.int .i64 ((k : Int) + 1)) := by
  have a1 := Boxed.cell h1
  have a2 := Boxed.cell h2
  have a3 := Boxed.cell h3
  have a4 := Boxed.cell h4
  have f1 := Boxed.frozen h1
  have f2 := Boxed.frozen h2
  have ez : ((k : Int) == z) = false := by simpa using hz
  go_enter Tryd.func26, Tryd.ntmps26
  clear h1 h2 h3 h4 hz
  go_wp2
  go_ret
  exact ⟨rfl, rfl⟩

theorem rows_eq_runes (bs : List UInt8) : (rows bs).length = (runes bs).length := by rw [← rows_runes, List.length_map]

set_option maxRecDepth 100000 in
set_option maxHeartbeats 400000 in
/-- The round at which the inner loop stands. -/
theorem textRunes1_inner (w : World) (B bo bn bs bi bw m : Nat) (A : Option Addr) (c : Nat) (l : List UInt8) (k : Nat) (x : RowT) (W : World) (hl : l.length ≤ 100000) (hx : (rows l)[k]? = some x)
    (hm : RM m B bs bi bw A (rows l).length) (hw : w.heap.size ≤ m) (d1 : m ≤ bo) (d2 : m ≤ bn) (d3 : bo ≠ bn)
    (h : RS w B bo bn bs bi bw (k : Int) A c (rows l) ⟨l.toArray⟩ k W) :
    Calls Tryd.prog 26 #[.int .i64 x.1, .int .i32 x.2.1, .pointer (some ⟨bo, 0, none⟩), .pointer (some ⟨bn, 0, none⟩), .pointer (some ⟨bw, 0, none⟩), .pointer (some ⟨bs, 0, none⟩), .pointer (some ⟨bi, 0, none⟩)] W fun e W' =>
      e = .returned (.bool true) ∧ RS w B bo bn bs bi bw (k : Int) A c (rows l) ⟨l.toArray⟩ (k + 1) W' ∧ SameAt [B] W W' := by
  have hlt := (List.getElem?_eq_some_iff.1 hx).1
  have hrl := rows_length l
  obtain ⟨m1, m2, m3, m4, m5⟩ := hm
  obtain ⟨g, rfl, hg⟩ := m5.resolve_left (fun h => by have := h.2; omega)
  obtain ⟨h1, h2, h3, h4, h5, h6, h7, h8⟩ := h
  have c1 := rowCs_cell h6 hx (j := 0) (by decide) rfl
  have c2 := rowCs_cell h6 hx (j := 1) (by decide) rfl
  rw [Nat.add_zero] at c1
  have a1 := Boxed.cell h1
  have a2 := Boxed.cell h2
  have a3 := Boxed.cell h5
  have a4 := Boxed.cell h3
  have a5 := Boxed.cell h4
  have f1 := Boxed.frozen h1
  have f2 := Boxed.frozen h2
  have l1 := Boxed.lt h1
  have l2 := Boxed.lt h2
  have l3 := Boxed.lt h3
  have l4 := Boxed.lt h4
  have l5 := Boxed.lt h5
  have lB := (Array.getElem?_eq_some_iff.1 h7).1
  have R0 := Lib.hid (show RS w B bo bn bs bi bw (k : Int) (some ⟨g, 0, none⟩) c (rows l) ⟨l.toArray⟩ k W from ⟨h1, h2, h3, h4, h5, h6, h7, h8⟩)
  have M0 := Lib.hid (show RM m B bs bi bw (some ⟨g, 0, none⟩) (rows l).length from ⟨m1, m2, m3, m4, .inr ⟨g, rfl, hg⟩⟩)
  clear m5 h1 h2 h3 h4 h5 h6 h7 h8
  have HX := Lib.hid hx
  clear hx
  go_enter Tryd.func26, Tryd.ntmps26
  have hlk : k < (rows l).length := hlt
  go_wp2_with (fail)
  obtain ⟨W1, hW1⟩ : ∃ W1, W1 = (W.setCell ⟨bo, 0, none⟩ (.bool true)) := ⟨_, rfl⟩
  have R1 := R0.out.ok M0.out hw d1 (Ne.symm d3)
  rw [← hW1] at R1
  have S1 : SameAt [B] W W1 := by rw [hW1]; exact (SameAt.refl _ _).setCell _ _ (by simp; omega)
  have Z1 : W1.heap.size = W.heap.size := by rw [hW1]; simp
  have hB1 : W1.heap[B]? = some (.cells #[.string ⟨l.toArray⟩] 9 (0, 0)) := R1.2.2.2.2.2.2.1
  have u1 := Boxed.new W1 3 (.int .i64 0)
  have R2 := R1.below (Below.refl _ _ |>.alloc (Nat.le_refl _) (.cells #[.int .i64 0] 3))
  have S2 : SameAt [B] W (W1.alloc (.cells #[.int .i64 0] 3)) := S1.trans (SameAt.of_below ((Below.refl _ _).alloc (Nat.le_refl _) _) (by simp; omega))
  have hB2 : (W1.alloc (.cells #[.int .i64 0] 3)).heap[B]? = some (.cells #[.string ⟨l.toArray⟩] 9 (0, 0)) := R2.2.2.2.2.2.2.1
  have hss : (⟨l.toArray⟩ : ByteArray).size = l.length := by show l.toArray.size = _; simp
  have hcalls := runes_iter B ⟨l.toArray⟩ (0, 0) _ (by rw [hss]; omega) hB2
  rw [show (⟨l.toArray⟩ : ByteArray).data.toList = l from by simp] at hcalls
  have J8 := hcalls (.func (.func 27) #[] #[.pointer (some ⟨bo, 0, none⟩), .pointer (some ⟨W1.heap.size, 0, none⟩), .pointer (some ⟨bw, 0, none⟩)])
    (fun pre V => Boxed V W1.heap.size 3 (.int .i64 pre.length) ∧ RS w B bo bn bs bi bw (k : Int) (some ⟨g, 0, none⟩) c (rows l) ⟨l.toArray⟩ k V ∧ SameAt [B] W V)
    (fun _ _ => False) _ (SameAt.refl _ _) ?hJ (fun _ _ _ h _ => h) ?hY ⟨u1, R2, S2⟩
  case hJ =>
    rintro s V V' ⟨j1, j2, j3⟩ hb
    have lb := (Array.getElem?_eq_some_iff.1 j2.2.2.2.2.2.2.1).1
    exact ⟨Boxed.below j1 hb (Boxed.lt j1), j2.below hb, j3.trans (SameAt.of_below hb (by simpa using lb))⟩
  case hY =>
    rintro pre y V hpre ⟨j1, j2, j3⟩
    obtain ⟨r, hr, hr1, hr2⟩ := runes_row hpre
    have hpl := (List.getElem?_eq_some_iff.1 hr).1
    obtain ⟨i1, i2, i3, i4, i5, i6, i7, i8⟩ := j2
    have e1 := rowCs_cell i6 hr (j := 0) (by decide) rfl
    have e2 := rowCs_cell i6 hr (j := 1) (by decide) rfl
    rw [Nat.add_zero] at e1
    refine .inl ⟨_, _, rfl, enters_of Tryd.func27 (by kernel_rfl) rfl, ?_⟩
    have hc := textRunes11_calls bo W1.heap.size bw g (rows l).length c pre.length r V hpl (by omega) (by omega) (by omega) (by omega) (by omega) (by omega) i1 j1 i5 e1 e2
    rw [hr1, hr2] at hc
    refine hc.mono ?_
    rintro e V2 ⟨rfl, rfl⟩
    have R3 := (show RS w B bo bn bs bi bw (k : Int) (some ⟨g, 0, none⟩) c (rows l) ⟨l.toArray⟩ k V from ⟨i1, i2, i3, i4, i5, i6, i7, i8⟩).ok M0.out hw d1 (Ne.symm d3)
    refine .inl ⟨rfl, ⟨?_, R3.far M0.out hw (by omega) (by omega) (by omega) _, ?_⟩, ?_⟩
    · have := Boxed.set (.int .i64 ((pre.length : Int) + 1)) (Boxed.other j1 (show W1.heap.size ≠ bo by omega) (.bool true))
      simpa using this
    · exact (j3.setCell _ _ (by simp; omega)).setCell _ _ (by simp; omega)
    · exact ((SameAt.refl _ _).setCell _ _ (by simp; omega)).setCell _ _ (by simp; omega)
  rw [Z1, hW1] at J8
  have HJ8 := Lib.hid J8
  clear J8 hcalls R1 R2 S1 S2 u1 hB1 hB2 Z1 hW1 hss a1 a2 a3 a4 a5 f1 f2 c1 c2 HX
  refine HJ8.out.mono ?_
  rintro e W9 ⟨rfl, (⟨j1, j2, j3⟩ | ⟨_, _, _, h⟩)⟩
  · rw [← rows_eq_runes] at j1
    have R9 := Lib.hid j2
    have S9 := Lib.hid j3
    obtain ⟨h1, h2, h3, h4, h5, h6, h7, h8⟩ := j2
    have a0 := Boxed.cell j1
    have a1 := Boxed.cell h1
    have a2 := Boxed.cell h2
    have a3 := Boxed.cell h5
    have f1 := Boxed.frozen h1
    have f2 := Boxed.frozen h2
    have l9 := Boxed.lt j1
    clear h1 h2 h3 h4 h5 h6 h7 h8 j1 j3 HJ8
    go_wp2_with (fail)
    go_ret
    refine ⟨rfl, (R9.out.ok M0.out hw d1 (Ne.symm d3)).count M0.out hw d2 d3, ?_⟩
    exact (S9.out.setCell _ _ (by simp; omega)).setCell _ _ (by simp; omega)
  · exact h.elim
end Go.Proofs.YtnepdjgbfhakmaaDoor
