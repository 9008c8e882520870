/- TextGo: the closure, the range over the string, the walk. -/
import Derived.Test.YtnepdjgbfhakmaaDoorLaw1
import Derived.Test.YtnepdjgbfhakmaaDoorUtf8
import Derived.Laws.RangeAny
namespace Go.Proofs.YtnepdjgbfhakmaaDoor
set_option linter.unusedVariables false
set_option linter.unusedSimpArgs false
open Go.RowKit Go.Shelf
attribute [local go_sem] Oper.semAt_some

def pcells (l : List (Nat × Nat)) : List Value := l.map fun x => .int .i64 (x.1 : Int)
def rcells (l : List (Nat × Nat)) : List Value := l.map fun x => .int .i32 (x.2 : Int)

set_option maxRecDepth 100000 in
theorem textGo1_calls (bk bn bp br gp gr np cp nr cr k : Nat) (x : Nat × Nat) (W : World) (hk : k < np) (hk2 : k < nr) (hnp : np ≤ 100000) (hnr : nr ≤ 100000) (hd1 : bk ≠ bn) (hd2 : bp ≠ bk) (hd3 : bp ≠ bn) (hd4 : br ≠ bk) (hd5 : br ≠ bn)
    (h1 : Boxed W bk 4 (.bool true)) (h2 : Boxed W bn 3 (.int .i64 k)) (h3 : Boxed W bp 38 (.slice (some ⟨gp, 0, none⟩) np cp)) (h4 : Boxed W br 39 (.slice (some ⟨gr, 0, none⟩) nr cr))
    (c1 : W.cell? ⟨gp, k, none⟩ = some (.int .i64 x.1)) (c2 : W.cell? ⟨gr, k, none⟩ = some (.int .i32 x.2)) :
    Calls Tryd.prog 29 #[.int .i64 x.1, .int .i32 x.2, .pointer (some ⟨bk, 0, none⟩), .pointer (some ⟨bn, 0, none⟩), .pointer (some ⟨bp, 0, none⟩), .pointer (some ⟨br, 0, none⟩)] W fun e W' =>
      e = .returned (.bool true) ∧ W' = (W.setCell ⟨bk, 0, none⟩ (.bool true)).setCell ⟨bn, 0, none⟩ (.int .i64 ((k : Int) + 1)) := by
  have a1 := Boxed.cell h1
  have a2 := Boxed.cell h2
  have a3 := Boxed.cell h3
  have a4 := Boxed.cell h4
  have f1 := Boxed.frozen h1
  have f2 := Boxed.frozen h2
  go_enter Tryd.func29, Tryd.ntmps29
  clear h1 h2 h3 h4
  go_wp2
  go_ret
  exact ⟨rfl, rfl⟩

theorem run_next_at {P : Program} (W : World) (b : Nat) (s : ByteArray) (pos : Nat) (ty : TypeId) (hb : W.heap[b]? = some (.stringIter s pos)) (h : pos < s.size) :
    (Instr.next (.pointer (some ⟨b, 0, none⟩)) true ty).run P W = .ok (.tuple #[.bool true, .int .i64 pos, .int .i32 (Utf8.decode s pos).1]) (W.putObj b (.stringIter s (pos + (Utf8.decode s pos).2))) := by
  simp only [Instr.next, getObj, setObj, Sem.run_bind, Sem.run, hb, Result.andThen, h, if_true]
  simp [goInt]
  rfl
theorem run_next_at_end {P : Program} (W : World) (b : Nat) (s : ByteArray) (pos : Nat) (ty : TypeId) (hb : W.heap[b]? = some (.stringIter s pos)) (h : ¬ pos < s.size) :
    (Instr.next (.pointer (some ⟨b, 0, none⟩)) true ty).run P W = .ok (.tuple #[.bool false]) W := by
  simp [Instr.next, getObj, Sem.run, hb, h]

theorem grownBy_putObj (W : World) (b : Nat) (o : Obj) : W.grownBy (W.putObj b o) (some b) :=
  ⟨rfl, rfl, rfl, by simp, fun k _ hne => World.putObj_heap_other (fun e => hne (by rw [e]))⟩
theorem own_ne {W : World} {b1 b2 s1 s2 n1 n2 : Nat} {e1 e2 : TypeId} {v u : Value} {xs ys : List Value} (h : W.ownsRow b1 e1 s1 v n1 xs) (k : W.ownsRow b2 e2 s2 u n2 ys) (hne : e1 ≠ e2) : v.ownBlock = none ∨ v.ownBlock ≠ u.ownBlock := by
  rcases h.2 with ⟨rfl, _⟩ | ⟨g, cap, cur, rfl, _, h1, _⟩
  · exact .inl rfl
  · right
    rcases k.2 with ⟨rfl, _⟩ | ⟨g2, cap2, cur2, rfl, _, h2, _⟩
    · intro h; cases h
    · intro h
      simp [Value.ownBlock] at h
      subst h
      rw [h1] at h2
      simp at h2
      exact hne h2.2

theorem run_eql_nilFunc {P : Program} (W : World) (t : TypeId) (f : Fn) (cs lb : Array Value) {ps rs : Array TypeId} {s : Bool} (hu : P.underlying t = some (.func ps rs s)) :
    (binOp .eql t (.func f cs lb) .nilFunc).run P W = .ok (.bool false) W := by
  have h : ∀ d : Nat, (Op.equalIn (d + 1) t (.func f cs lb) .nilFunc).run P W = .ok false W := fun d => by simp [Op.equalIn, run_underlying hu]
  simp only [binOp]
  simp [Op.equal, Op.maxDepth, h 9999]

theorem Cells.other {W : World} {g b : Nat} {cs : List Value} (h : Cells W (some ⟨g, 0, none⟩) cs) (hne : g ≠ b) (v : Value) : Cells (W.setCell ⟨b, 0, none⟩ v) (some ⟨g, 0, none⟩) cs := fun i hi => by
  obtain ⟨a, ha, hc⟩ := h i hi
  cases ha
  refine ⟨_, rfl, ?_⟩
  rw [add0] at hc ⊢
  exact (World.cell?_of_block (w := W) (Below.heap_setCell _ _ _ _ hne)).trans hc

theorem infoInt : (Tryd.prog.info? 3).map (fun i => (i.zero, i.size, i.bytes)) = some (some (.int .i64 0), 1, 8) := by kernel_rfl
theorem infoRune : (Tryd.prog.info? 21).map (fun i => (i.zero, i.size, i.bytes)) = some (some (.int .i32 0), 1, 4) := by kernel_rfl

/-- The loop over the string: what has been gathered. -/
def GoInv (bs : List UInt8) (w : World) (n : Nat) (wr : World) : Prop :=
  ∃ (pos m : Nat) (pre : List (Nat × Nat)) (v u : Value), pos ≤ bs.length ∧ bs.length ≤ pos + m ∧ pre.length ≤ pos ∧ Hid (runes bs = pre ++ runesF m pos (bs.drop pos)) ∧
    wr.heap[n + 3]? = some (.stringIter ⟨bs.toArray⟩ pos) ∧ Boxed wr (n + 1) 38 v ∧ wr.ownsRow (n + 4) 3 1 v pre.length (pcells pre) ∧
    Boxed wr (n + 2) 39 u ∧ wr.ownsRow (n + 4) 21 1 u pre.length (rcells pre) ∧ wr.heap[n]? = some (.cells #[.string ⟨bs.toArray⟩] 9 (0, 0)) ∧ Below n w wr ∧ n + 4 ≤ wr.heap.size

set_option maxRecDepth 100000 in
set_option maxHeartbeats 1000000 in
theorem textGo_walk (w : World) (A : Option Addr) (c : Nat) (bs : List UInt8) (hl : bs.length ≤ 140737488351232) (hcap : bs.length ≤ c) (hmax : c ≤ maxLen) (h0 : A = none → bs.length = 0 ∧ c = 0) (hc : Cells w A (bcells bs)) (hT : Tz16 w) (hw : 3 < w.heap.size) :
    Calls Tryd.prog 5 #[.slice A bs.length c] w fun e w' => e = .returned (.bool true) ∧ Below w.heap.size w w' := by
  go_enter Tryd.func5, Tryd.ntmps5
  have HC := Lib.hid hc
  by_cases hlen : 4000 < bs.length
  · clear hc
    go_wp2
    go_ret
    exact ⟨rfl, Below.refl _ _⟩
  · have HR := Lib.hid (runes_calls A c bs w hc)
    obtain ⟨w2, hw2⟩ : ∃ w2, w2 = w.alloc (.cells #[.string ⟨bs.toArray⟩] 9) := ⟨_, rfl⟩
    rw [← hw2] at HR
    have hb2 : Below w.heap.size w w2 := by rw [hw2]; exact (Below.refl _ _).alloc (Nat.le_refl _) _
    have hs2 : w2.heap.size = w.heap.size + 1 := by rw [hw2]; simp
    have hBx : w2.heap[w.heap.size]? = some (.cells #[.string ⟨bs.toArray⟩] 9 (0, 0)) := by rw [hw2]; exact World.alloc_heap_new _ _
    have hcv := fun (W : World) (h : Cells W A (bcells bs)) => conv_string (P := Tryd.prog) 22 5 9 Tryd.underlying22 Tryd.underlying5 Tryd.underlying9 c h
    have hnil := fun W f cs lb => run_eql_nilFunc (P := Tryd.prog) W 35 f cs lb Tryd.underlying35
    clear hc hw2
    go_wp2_with (fail)
    refine HR.out.mono ?_
    rintro e w3 ⟨rfl, rfl⟩
    have hb4 := (hb2.alloc (by omega) (.cells #[.slice none 0 0] 38)).alloc (by simp; omega) (.cells #[.slice none 0 0] 39)
    have hcv4 := hcv _ (HC.out.below hb4)
    go_wp2_with (fail)
    obtain ⟨i1, hi1, hp0, hp1, hp2⟩ := info_parts infoInt
    obtain ⟨i2, hi2, hr0, hr1, hr2⟩ := info_parts infoRune
    go_loopw [6, 7] (fun _ _ wr => GoInv bs w w.heap.size wr) (fun _ _ wr => bs.length - wr.iterPos (w.heap.size + 3))
    case atStart =>
      have t1 : (w3.alloc (.cells #[.slice none 0 0] 38)).heap.size = w.heap.size + 2 := by simp; omega
      have t2 : ((w3.alloc (.cells #[.slice none 0 0] 38)).alloc (.cells #[.slice none 0 0] 39)).heap.size = w.heap.size + 3 := by simp; omega
      have u1 := Boxed.new w3 38 (.slice none 0 0)
      have u2 := Boxed.new (w3.alloc (.cells #[.slice none 0 0] 38)) 39 (.slice none 0 0)
      rw [hs2] at u1
      rw [t1] at u2
      refine ⟨0, bs.length, [], .slice none 0 0, .slice none 0 0, by omega, by omega, by simp, Lib.hid rfl, ?_, (u1.alloc _).alloc _, World.ownsRow_nil _ _ _ _, u2.alloc _, World.ownsRow_nil _ _ _ _, ?_, ?_, ?_⟩
      · have h := World.iter_heap ((w3.alloc (.cells #[.slice none 0 0] 38)).alloc (.cells #[.slice none 0 0] 39)) ⟨bs.toArray⟩ 0
        rw [t2] at h
        exact h
      · have hbi : Below w3.heap.size w3 (((w3.alloc (.cells #[.slice none 0 0] 38)).alloc (.cells #[.slice none 0 0] 39)).alloc (.stringIter ⟨bs.toArray⟩ 0)) := (((Below.refl _ _).alloc (Nat.le_refl _) _).alloc (by simp) _).alloc (by simp; omega) _
        exact (hbi.block w.heap.size (by omega)).trans hBx
      · exact hb4.alloc (by rw [t2]; omega) (.stringIter ⟨bs.toArray⟩ 0)
      · show w.heap.size + 4 ≤ (((w3.alloc (.cells #[.slice none 0 0] 38)).alloc (.cells #[.slice none 0 0] 39)).alloc (.stringIter ⟨bs.toArray⟩ 0)).heap.size
        rw [World.size_alloc, t2]
        omega
    case round =>
      obtain ⟨pos, m, pre, v, u, hpos, hm, hpl, hpre, hit, hbv, hov, hbu, hou, hst, hb, hsz⟩ := hrel
      have hmeas : wr.iterPos (w.heap.size + 3) = pos := by simp [World.iterPos, hit]
      have hss : (⟨bs.toArray⟩ : ByteArray).size = bs.length := by show bs.toArray.size = _; simp
      by_cases hlt : pos < bs.length
      · have hnx := run_next_at (P := Tryd.prog) wr (w.heap.size + 3) ⟨bs.toArray⟩ pos 0 hit (by rw [hss]; exact hlt)
        rw [utf8_dec bs pos hlt] at hnx
        have hne : bs.drop pos ≠ [] := by
          intro h
          have := congrArg List.length h
          simp at this; omega
        have hds := dec_size' (bs.drop pos) hne
        rw [List.length_drop] at hds
        have hst2 := runesF_cons m pos (bs.drop pos) hne (by simp; omega)
        rw [hst2, List.drop_drop] at hpre
        clear hst2
        generalize dec (bs.drop pos) = x at *
        obtain ⟨r, z, gd⟩ := x
        simp only at hnx hds hpre
        obtain ⟨wq, hwq⟩ : ∃ wq, wq = wr.putObj (w.heap.size + 3) (.stringIter ⟨bs.toArray⟩ (pos + z)) := ⟨_, rfl⟩
        rw [← hwq] at hnx
        have q1 : wq.heap[w.heap.size + 3]? = some (.stringIter ⟨bs.toArray⟩ (pos + z)) := by rw [hwq]; exact World.putObj_heap_same (by omega)
        have gq : wr.grownBy wq (some (w.heap.size + 3)) := by rw [hwq]; exact grownBy_putObj _ _ _
        have q2 : Boxed wq (w.heap.size + 1) 38 v := by rw [hwq]; exact Boxed.putObj hbv _ (by omega)
        have q3 : Boxed wq (w.heap.size + 2) 39 u := by rw [hwq]; exact Boxed.putObj hbu _ (by omega)
        have q4 := hov.kept gq (by
          cases hvb : v.ownBlock with
          | none => exact .inl rfl
          | some j => exact .inr (fun e => by cases e; have := (hov.lt _ hvb).1; omega))
        have q5 := hou.kept gq (by
          cases hvb : u.ownBlock with
          | none => exact .inl rfl
          | some j => exact .inr (fun e => by cases e; have := (hou.lt _ hvb).1; omega))
        have q6 : wq.heap[w.heap.size]? = some (.cells #[.string ⟨bs.toArray⟩] 9 (0, 0)) := by rw [hwq]; exact (World.putObj_heap_other (by omega)).trans hst
        have q7 : Below w.heap.size w wq := by rw [hwq]; exact below_putObj hb (by omega) _
        have q8 : w.heap.size + 4 ≤ wq.heap.size := by rw [hwq]; simpa using hsz
        clear hit hbv hov hbu hou hst hb hsz gq hwq
        obtain ⟨A1, k1, rfl, hA1, _, _⟩ := own_cells q4
        obtain ⟨A2, k2, rfl, hA2, _, _⟩ := own_cells q5
        have c2 := Boxed.cell q2
        have c3 := Boxed.cell q3
        have f2 := Boxed.frozen q2
        have f3 := Boxed.frozen q3
        have hn4 : w.heap.size + 4 ≤ wq.heap.size := q8
        have m1 := q4.alloc (.cells #[.int .i64 pos] 3)
        have m2 : Cells (wq.alloc (.cells #[.int .i64 pos] 3)) (some ⟨wq.heap.size, 0, none⟩) [.int .i64 pos] := Cells.new _ #[.int .i64 pos] _ _
        go_wp2_with (at_builtin; refine wpList_append_cells _ rfl _ _ 38 rfl (w.heap.size + 4) 3 i1 (.int .i64 0) 1 8 Tryd.underlying38 hi1 hp0 hp1 hp2 rfl (by decide) _ _ _ rfl m1 _ 1 1 [.int .i64 pos] rfl (by simp) m2 (fun h => by cases h) (by simp; rfl) ?c3 ?c4 ?c5 ?_)
        case c3 => unfold maxLen; omega
        case c4 => omega
        case c5 => simp; omega
        intro v2 w5 h5 g5
        obtain ⟨B1, j1, rfl, hB1, _, _⟩ := own_cells h5
        have hpc : pcells pre ++ [.int .i64 (pos : Int)] = pcells (pre ++ [(pos, r)]) := by simp [pcells]
        have hrc : rcells pre ++ [.int .i32 (r : Int)] = rcells (pre ++ [(pos, r)]) := by simp [rcells]
        have hlp := Lib.hid (show pre.length + 1 = (pre ++ [(pos, r)]).length by simp)
        have HRC := Lib.hid hrc
        clear hrc
        have m1lt := fun j hj => m1.lt j hj
        have n2 := Boxed.kept (Boxed.alloc q2 (.cells #[.int .i64 pos] 3)) g5 (fun e => by have := (m1.lt _ e.symm).1; omega)
        have n3 := Boxed.kept (Boxed.alloc q3 (.cells #[.int .i64 pos] 3)) g5 (fun e => by have := (m1.lt _ e.symm).1; omega)
        have n5 := (q5.alloc (.cells #[.int .i64 pos] 3)).kept g5 (own_ne (q5.alloc (.cells #[.int .i64 pos] 3)) m1 (by decide))
        have n1 : w5.heap[w.heap.size + 3]? = some (.stringIter ⟨bs.toArray⟩ (pos + z)) := by
          rw [g5.block _ (by simp; omega) (fun e => by have := (m1.lt _ e.symm).1; omega), ← q1]
          exact Below.heap_alloc _ _ _ (by omega)
        have n6 : w5.heap[w.heap.size]? = some (.cells #[.string ⟨bs.toArray⟩] 9 (0, 0)) := by
          rw [g5.block _ (by simp; omega) (fun e => by have := (m1.lt _ e.symm).1; omega), ← q6]
          exact Below.heap_alloc _ _ _ (by omega)
        have n7 := (q7.alloc (by omega) (.cells #[.int .i64 pos] 3)).grown g5 (by simp; omega) (fun j hj => by have := (m1.lt _ hj).1; omega)
        have n8 : w.heap.size + 4 ≤ w5.heap.size := by have := g5.size; simp at this; omega
        rw [hpc] at h5
        clear q1 q2 q3 q4 q5 q6 q7 m2 c2 c3 f2 f3 hpc
        -- the store of places
        have p2 := Boxed.set (.slice B1 (pre.length + 1) j1) n2
        have p3 := Boxed.other n3 (show w.heap.size + 2 ≠ w.heap.size + 1 by omega) (.slice B1 (pre.length + 1) j1)
        have gs := grownBy_setCell' w5 (w.heap.size + 1) (.slice B1 (pre.length + 1) j1)
        have p4 := h5.kept gs (by
          cases hvb : (Value.slice B1 (pre.length + 1) j1).ownBlock with
          | none => exact .inl rfl
          | some j => exact .inr (fun e => by cases e; have := (h5.lt _ hvb).1; omega))
        have p5 := n5.kept gs (by
          cases hvb : (Value.slice A2 pre.length k2).ownBlock with
          | none => exact .inl rfl
          | some j => exact .inr (fun e => by cases e; have := (n5.lt _ hvb).1; omega))
        have c2 := Boxed.cell n2
        have f2 := Boxed.frozen n2
        have c3 := Boxed.cell p3
        have f3 := Boxed.frozen p3
        have p1 : (w5.setCell ⟨w.heap.size + 1, 0, none⟩ (.slice B1 (pre.length + 1) j1)).heap[w.heap.size + 3]? = some (.stringIter ⟨bs.toArray⟩ (pos + z)) := (Below.heap_setCell _ _ _ _ (by show w.heap.size + 3 ≠ w.heap.size + 1; omega)).trans n1
        have p6 : (w5.setCell ⟨w.heap.size + 1, 0, none⟩ (.slice B1 (pre.length + 1) j1)).heap[w.heap.size]? = some (.cells #[.string ⟨bs.toArray⟩] 9 (0, 0)) := (Below.heap_setCell _ _ _ _ (by show w.heap.size ≠ w.heap.size + 1; omega)).trans n6
        have p7 := n7.setCell (p := ⟨w.heap.size + 1, 0, none⟩) (Nat.le_succ _) (.slice B1 (pre.length + 1) j1)
        have p8 : w.heap.size + 4 ≤ (w5.setCell ⟨w.heap.size + 1, 0, none⟩ (.slice B1 (pre.length + 1) j1)).heap.size := by simpa using n8
        have m3 := p5.alloc (.cells #[.int .i32 r] 21)
        have m4 : Cells ((w5.setCell ⟨w.heap.size + 1, 0, none⟩ (.slice B1 (pre.length + 1) j1)).alloc (.cells #[.int .i32 r] 21)) (some ⟨(w5.setCell ⟨w.heap.size + 1, 0, none⟩ (.slice B1 (pre.length + 1) j1)).heap.size, 0, none⟩) [.int .i32 r] := Cells.new _ #[.int .i32 r] _ _
        have P1 := Lib.hid p1
        have P2 := Lib.hid p2
        have P3 := Lib.hid p3
        have P4 := Lib.hid p4
        have P5 := Lib.hid p5
        have P6 := Lib.hid p6
        have P7 := Lib.hid p7
        have P8 := Lib.hid p8
        have M3 := Lib.hid m3
        have M4 := Lib.hid m4
        have C3 := Lib.hid c3
        have F3 := Lib.hid f3
        clear n1 n2 n3 n5 n6 n7 gs h5 hB1 m1 m1lt hA1 hA2 g5 p1 p2 p3 p4 p5 p6 p7 p8 m3 m4 c3 f3
        go_upto_region 12 with (fail)
        obtain ⟨w6, hw6⟩ : ∃ w6, w6 = w5.setCell ⟨w.heap.size + 1, 0, none⟩ (.slice B1 (pre.length + 1) j1) := ⟨_, rfl⟩
        have p1 := P1.out
        have p2 := P2.out
        have p3 := P3.out
        have p4 := P4.out
        have p5 := P5.out
        have p6 := P6.out
        have p7 := P7.out
        have p8 := P8.out
        have m3 := M3.out
        have m4 := M4.out
        have c3 := C3.out
        have f3 := F3.out
        clear P1 P2 P3 P4 P5 P6 P7 P8 M3 M4 C3 F3
        rw [← hw6] at p1 p2 p3 p4 p5 p6 p7 p8 m3 m4 c3 f3 ⊢
        clear hw6 c2 f2
        go_wp2_with (at_builtin; refine wpList_append_cells _ rfl _ _ 39 rfl (w.heap.size + 4) 21 i2 (.int .i32 0) 1 4 Tryd.underlying39 hi2 hr0 hr1 hr2 rfl (by decide) _ _ _ rfl m3 _ 1 1 [.int .i32 r] rfl (by simp) m4 (fun h => by cases h) (by simp; rfl) ?c3 ?c4 ?c5 ?_)
        case c3 => unfold maxLen; omega
        case c4 => omega
        case c5 => simp; omega
        intro v3 w7 h7 g7
        obtain ⟨B2, j2, rfl, _, _, _⟩ := own_cells h7
        rw [HRC.out] at h7
        have r2 := Boxed.kept (Boxed.alloc p2 (.cells #[.int .i32 r] 21)) g7 (fun e => by have := (m3.lt _ e.symm).1; omega)
        have r3 := Boxed.kept (Boxed.alloc p3 (.cells #[.int .i32 r] 21)) g7 (fun e => by have := (m3.lt _ e.symm).1; omega)
        have r4 := (p4.alloc (.cells #[.int .i32 r] 21)).kept g7 (own_ne (p4.alloc (.cells #[.int .i32 r] 21)) m3 (by decide))
        have r1 : w7.heap[w.heap.size + 3]? = some (.stringIter ⟨bs.toArray⟩ (pos + z)) := by
          rw [g7.block _ (by simp; omega) (fun e => by have := (m3.lt _ e.symm).1; omega), ← p1]
          exact Below.heap_alloc _ _ _ (by omega)
        have r6 : w7.heap[w.heap.size]? = some (.cells #[.string ⟨bs.toArray⟩] 9 (0, 0)) := by
          rw [g7.block _ (by simp; omega) (fun e => by have := (m3.lt _ e.symm).1; omega), ← p6]
          exact Below.heap_alloc _ _ _ (by omega)
        have r7 := (p7.alloc (by omega) (.cells #[.int .i32 r] 21)).grown g7 (by simp; omega) (fun j hj => by have := (m3.lt _ hj).1; omega)
        have r8 : w.heap.size + 4 ≤ w7.heap.size := by have := g7.size; simp at this; omega
        have c4 := Boxed.cell r3
        have f4 := Boxed.frozen r3
        have R1 := Lib.hid r1
        have R2 := Lib.hid r2
        have R3 := Lib.hid r3
        have R4 := Lib.hid r4
        have R6 := Lib.hid r6
        have R7 := Lib.hid r7
        have H7 := Lib.hid h7
        clear p1 p2 p3 p4 p5 p6 p7 m3 m4 c3 f3 r1 r2 r3 r4 r6 r7 h7 g7
        go_wp2_with (fail)
        have gs2 := grownBy_setCell' w7 (w.heap.size + 2) (.slice B2 (pre.length + 1) j2)
        have e3 : (w7.setCell ⟨w.heap.size + 2, 0, none⟩ (.slice B2 (pre.length + 1) j2)).heap[w.heap.size + 3]? = some (.stringIter ⟨bs.toArray⟩ (pos + z)) := (Below.heap_setCell _ _ _ _ (by show w.heap.size + 3 ≠ w.heap.size + 2; omega)).trans R1.out
        have hif : runesF m (pos + z) (bs.drop (pos + z)) = runesF (m - 1) (pos + z) (bs.drop (pos + z)) := runesF_fuel _ _ _ _ (by simp; omega) (by simp; omega)
        refine ⟨⟨pos + z, m - 1, pre ++ [(pos, r)], _, _, by omega, by omega, by simp; omega, Lib.hid (by rw [hpre.out, hif]; simp), e3, Boxed.other R2.out (by omega) _, ?_, Boxed.set _ R3.out, ?_, (Below.heap_setCell _ _ _ _ (by show w.heap.size ≠ w.heap.size + 2; omega)).trans R6.out, R7.out.setCell (p := ⟨w.heap.size + 2, 0, none⟩) (Nat.le_add_right _ 2) _, by simpa using r8⟩, ?_⟩
        · rw [← hlp.out]
          refine R4.out.kept gs2 ?_
          cases hvb : (Value.slice B1 (pre.length + 1) j1).ownBlock with
          | none => exact .inl rfl
          | some j => exact .inr (fun e => by cases e; have := (R4.out.lt _ hvb).1; omega)
        · rw [← hlp.out]
          refine H7.out.kept gs2 ?_
          cases hvb : (Value.slice B2 (pre.length + 1) j2).ownBlock with
          | none => exact .inl rfl
          | some j => exact .inr (fun e => by cases e; have := (H7.out.lt _ hvb).1; omega)
        · rw [hmeas, show (w7.setCell ⟨w.heap.size + 1 + 1, 0, none⟩ (.slice B2 (pre.length + 1) j2)).iterPos (w.heap.size + 3) = pos + z by simp [World.iterPos, show (w7.setCell ⟨w.heap.size + 1 + 1, 0, none⟩ (.slice B2 (pre.length + 1) j2)).heap[w.heap.size + 3]? = _ from e3]]
          omega
      · have hnx := run_next_at_end (P := Tryd.prog) wr (w.heap.size + 3) ⟨bs.toArray⟩ pos 0 hit (by rw [hss]; exact hlt)
        have ek : pos = bs.length := by omega
        rw [ek, List.drop_length, runesF_nil, List.append_nil] at hpre
        have hxs := hpre.out
        rw [← hxs] at hov hou
        obtain ⟨A1, k1, rfl, hA1, hk1, _, hg1⟩ := own_block hov
        obtain ⟨A2, k2, rfl, hA2, hk2, _, hg2⟩ := own_block hou
        have hrl := runes_length bs
        have b8 : Below wr.heap.size wr ((wr.alloc (.cells #[.int .i64 0] 3)).alloc (.cells #[.bool true] 4)) := ((Below.refl _ _).alloc (Nat.le_refl _) _).alloc (by simp) _
        have hBx8 := (b8.block w.heap.size (by omega)).trans hst
        have hcalls := runes_iter w.heap.size ⟨bs.toArray⟩ (0, 0) _ (by rw [hss]; omega) hBx8
        have J8 := hcalls (.func (.func 29) #[] #[.pointer (some ⟨wr.heap.size + 1, 0, none⟩), .pointer (some ⟨wr.heap.size, 0, none⟩), .pointer (some ⟨w.heap.size + 1, 0, none⟩), .pointer (some ⟨w.heap.size + 2, 0, none⟩)])
          (fun pre W => Boxed W (wr.heap.size + 1) 4 (.bool true) ∧ Boxed W wr.heap.size 3 (.int .i64 pre.length) ∧ Boxed W (w.heap.size + 1) 38 (.slice A1 (runes bs).length k1) ∧ Boxed W (w.heap.size + 2) 39 (.slice A2 (runes bs).length k2) ∧ Cells W A1 (pcells (runes bs)) ∧ Cells W A2 (rcells (runes bs)) ∧ Below w.heap.size w W)
          (fun _ _ => False) _ (SameAt.refl _ _) ?hJ (fun _ _ _ h _ => h) ?hY ?h0
        case hJ =>
          rintro s W W' ⟨j1, j2, j3, j4, j5, j6, j7⟩ hb
          exact ⟨Boxed.below j1 hb (Boxed.lt j1), Boxed.below j2 hb (Boxed.lt j2), Boxed.below j3 hb (Boxed.lt j3), Boxed.below j4 hb (Boxed.lt j4), j5.below hb, j6.below hb, j7.trans (hb.mono j7.size)⟩
        case h0 =>
          have u1 := Boxed.new wr 3 (.int .i64 0)
          have u2 := Boxed.new (wr.alloc (.cells #[.int .i64 0] 3)) 4 (.bool true)
          rw [World.size_alloc] at u2
          exact ⟨u2, u1.alloc _, Boxed.below hbv b8 (Boxed.lt hbv), Boxed.below hbu b8 (Boxed.lt hbu), hA1.below b8, hA2.below b8, hb.trans (b8.mono hb.size)⟩
        case hY =>
          rintro pre1 x W1 hpre1 ⟨j1, j2, j3, j4, j5, j6, j7⟩
          simp only at hpre1
          have hat : (runes bs)[pre1.length]? = some x := by
            obtain ⟨t, ht⟩ := hpre1
            rw [← ht]; simp
          have hlt1 := (List.getElem?_eq_some_iff.1 hat).1
          obtain ⟨gp, hgp, hgp2, hgp3⟩ := hg1.resolve_left (fun h => by have := h.2.1; omega)
          obtain ⟨gr, hgr, hgr2, hgr3⟩ := hg2.resolve_left (fun h => by have := h.2.1; omega)
          subst hgp
          subst hgr
          have c1 : W1.cell? ⟨gp, pre1.length, none⟩ = some (.int .i64 x.1) := by
            obtain ⟨a, ha, hc⟩ := j5 pre1.length (by simpa [pcells] using hlt1)
            cases ha
            rw [add0] at hc
            rw [hc]
            have := (List.getElem?_eq_some_iff.1 hat).2
            simp [pcells, this]
          have c2 : W1.cell? ⟨gr, pre1.length, none⟩ = some (.int .i32 x.2) := by
            obtain ⟨a, ha, hc⟩ := j6 pre1.length (by simpa [rcells] using hlt1)
            cases ha
            rw [add0] at hc
            rw [hc]
            have := (List.getElem?_eq_some_iff.1 hat).2
            simp [rcells, this]
          refine .inl ⟨_, _, rfl, enters_of Tryd.func29 (by kernel_rfl) rfl, ?_⟩
          refine (textGo1_calls (wr.heap.size + 1) wr.heap.size (w.heap.size + 1) (w.heap.size + 2) gp gr (runes bs).length k1 (runes bs).length k2 pre1.length x W1 hlt1 hlt1 (by omega) (by omega) (by omega) (by omega) (by omega) (by omega) (by omega) j1 j2 j3 j4 c1 c2).mono ?_
          rintro e W2 ⟨rfl, rfl⟩
          refine .inl ⟨rfl, ⟨?_, ?_, ?_, ?_, ?_, ?_, ?_⟩, ?_⟩
          · exact Boxed.other (Boxed.set _ j1) (by omega) _
          · have := Boxed.set (.int .i64 ((pre1.length : Int) + 1)) (Boxed.other j2 (show wr.heap.size ≠ wr.heap.size + 1 by omega) (.bool true))
            simpa using this
          · exact Boxed.other (Boxed.other j3 (by omega) _) (by omega) _
          · exact Boxed.other (Boxed.other j4 (by omega) _) (by omega) _
          · exact (j5.other (by omega) _).other (by omega) _
          · exact (j6.other (by omega) _).other (by omega) _
          · exact (j7.setCell (p := ⟨wr.heap.size + 1, 0, none⟩) (by show w.heap.size ≤ wr.heap.size + 1; omega) _).setCell (p := ⟨wr.heap.size, 0, none⟩) (by show w.heap.size ≤ wr.heap.size; omega) _
          · exact ((SameAt.refl _ _).setCell _ _ (by simp; omega)).setCell _ _ (by simp; omega)
        have HJ8 := Lib.hid J8
        go_wp2_with (fail)
        refine HJ8.out.mono ?_
        rintro e W9 ⟨rfl, (⟨j1, j2, j3, j4, j5, j6, j7⟩ | ⟨_, _, _, h⟩)⟩
        · have a1 := Boxed.cell j1
          have a2 := Boxed.cell j2
          have a3 := Boxed.cell j3
          have HK := Lib.hid (known_calls W9 (hT.below j7 hw) (by have := j7.size; omega))
          have J7 := Lib.hid j7
          clear j1 j2 j3 j4 j5 j6 j7 hit hbv hov hbu hou hst hb hsz hmeas hss hnx hxs hpre J8 b8 hBx8 hcalls hg1 hg2 hA1 hA2 HJ8
          go_wp2_with (fail)
          refine HK.out.mono ?_
          rintro e w8 ⟨rfl, hb8⟩
          have hbw8 := J7.out.trans (hb8.mono J7.out.size)
          go_wp2
          go_ret
          exact ⟨rfl, hbw8⟩
        · exact h.elim
end Go.Proofs.YtnepdjgbfhakmaaDoor
