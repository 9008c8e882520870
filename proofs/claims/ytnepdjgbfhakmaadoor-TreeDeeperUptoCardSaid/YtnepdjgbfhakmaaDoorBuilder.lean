/- strings.Builder: what its writers do to a builder that a call has made. -/
import Derived.Test.YtnepdjgbfhakmaaDoorIter
import Derived.Test.YtnepdjgbfhakmaaDoorShelf
import Derived.Lib.OthersKept
import Derived.Lib.UnsafeStr
import Derived.Lib.AppendStr
import Derived.Laws.Externs
namespace Go.Proofs.YtnepdjgbfhakmaaDoor
set_option linter.unusedVariables false
set_option linter.unusedSimpArgs false
open Go.RowKit Go.Shelf

theorem infoByte : (Tryd.prog.info? 5).map (fun i => (i.zero, i.size, i.bytes)) = some (some (.int .u8 0), 1, 1) := by kernel_rfl

/-- Block b is a strings.Builder that holds the bytes bs. -/
def Bld (b : Nat) (bs : List UInt8) (w : World) : Prop := Lib.IsBuilderF 89 5 b b (bcells bs) w
/-- What a writer keeps. -/
def BStep (b : Nat) (w w' : World) : Prop := Below b w w' ∧ Lib.OthersKept 5 (some b) w w'

theorem BStep.refl (b : Nat) (w : World) : BStep b w w := ⟨Below.refl _ _, Lib.OthersKept.refl _ _ _⟩
theorem BStep.trans {b : Nat} {x y z : World} (h : BStep b x y) (k : BStep b y z) : BStep b x z := ⟨h.1.trans k.1, h.2.trans k.2⟩
theorem BStep.of_below {b : Nat} {x y : World} (h : Below x.heap.size x y) (hb : b ≤ x.heap.size) : BStep b x y :=
  ⟨h.mono hb, fun k o hk _ _ => (h.block k (Array.getElem?_eq_some_iff.1 hk).1).trans hk⟩
theorem Bld.lt {b : Nat} {bs : List UInt8} {w : World} (h : Bld b bs w) : b < w.heap.size := by
  rcases h with ⟨_, v, hb, _⟩ | ⟨_, v, hb, _⟩ <;> exact (Array.getElem?_eq_some_iff.1 hb).1
theorem BStep.keeps {b B : Nat} {w w' : World} (h : BStep b w w') (hb : ∃ c t f, w.heap[b]? = some (.cells c t f)) : KeepsFrom B w w' :=
  ⟨h.1.size, fun k o' _ hk ho => by
    refine h.2 k o' hk ?_ ?_
    · rintro e; cases e
      obtain ⟨c, t, f, hc⟩ := hb
      rw [hc] at hk; cases hk; cases ho
    · rintro c fz rfl; cases ho⟩
theorem Bld.cells {b : Nat} {bs : List UInt8} {w : World} (h : Bld b bs w) : ∃ c t f, w.heap[b]? = some (.cells c t f) := by
  rcases h with ⟨_, v, hb, _⟩ | ⟨_, v, hb, _⟩ <;> exact ⟨_, _, _, hb⟩
/-- A block of cells of another kind is as it was. -/
theorem BStep.block {b k : Nat} {w w' : World} {c : Array Value} {t : TypeId} {f : Nat × Nat} (h : BStep b w w') (hk : w.heap[k]? = some (.cells c t f)) (ht : t ≠ 5) (hne : k ≠ b) : w'.heap[k]? = some (.cells c t f) :=
  h.2 k _ hk (fun e => hne (Option.some.inj e)) (fun c' f' e => by cases e; exact ht rfl)

set_option maxRecDepth 100000 in
set_option maxHeartbeats 400000 in
theorem copyCheck_fresh (b : Nat) (w : World) (h : w.cell? ⟨b, 0, none⟩ = some (.pointer none)) (hs : w.shape? b = some (89, 2)) (hf : w.frozen? ⟨b, 0, none⟩ = false) :
    Calls Tryd.prog 96 #[.pointer (some ⟨b, 0, none⟩)] w fun e w' => e = .returned (.tuple #[]) ∧ w' = w.setCell ⟨b, 0, none⟩ (.pointer (some ⟨b, 0, none⟩)) := by
  go_enter Tryd.func96, Tryd.ntmps96
  obtain ⟨j, hj, hjs⟩ := Option.map_eq_some_iff.1 (show (Tryd.prog.info? 89).map (·.size) = some 2 by kernel_rfl)
  go_wp2
  rw [Lib.run_to_unsafe w ⟨b, 0, none⟩ Tryd.underlying87 Tryd.underlying143 hj (by rw [hjs]; decide) hs (Nat.zero_lt_succ 1)]
  simp only [Result.andThen]
  rw [Oper.upon_value]
  go_wp2
  rw [run_callFunc_extern Tryd.func124 (by kernel_rfl) (by kernel_rfl) (by kernel_rfl) (e := Extern.AbiNoEscape.same) (by kernel_rfl)]
  rw [Lib.run_noEscape]
  simp only [Result.andThen]
  rw [Oper.upon_value]
  go_wp2
  rw [Lib.run_from_unsafe w ⟨b, 0, none⟩ Tryd.underlying143 Tryd.underlying87 hj hs (by kernel_rfl)]
  simp only [Result.andThen]
  rw [Oper.upon_value]
  go_wp2
  go_end0
  exact ⟨rfl, rfl⟩

set_option maxRecDepth 100000 in
set_option maxHeartbeats 400000 in
theorem copyCheck_used (b : Nat) (w : World) (h : w.cell? ⟨b, 0, none⟩ = some (.pointer (some ⟨b, 0, none⟩))) :
    Calls Tryd.prog 96 #[.pointer (some ⟨b, 0, none⟩)] w fun e w' => e = .returned (.tuple #[]) ∧ w' = w := by
  obtain ⟨j, hj, _⟩ := Option.map_eq_some_iff.1 (show (Tryd.prog.info? 89).map (·.size) = some 2 by kernel_rfl)
  go_enter Tryd.func96, Tryd.ntmps96
  go_wp2
  rw [Lib.run_neq_ptr_same w _ Tryd.underlying87 hj]
  go_wp2
  go_end0
  exact ⟨rfl, rfl⟩

theorem copyCheck_calls (b : Nat) (bs : List Value) (w : World) (h : Lib.IsBuilderF 89 5 b b bs w) :
    Calls Tryd.prog 96 #[.pointer (some ⟨b, 0, none⟩)] w fun e w' => e = .returned (.tuple #[]) ∧ (Lib.BuilderAtF 89 5 b b (.pointer (some ⟨b, 0, none⟩)) bs w' ∧ BStep b w w') := by
  rcases h with h | h
  · refine (copyCheck_fresh b w h.cell0 h.shape h.frozen0).mono ?_
    rintro e w' ⟨rfl, rfl⟩
    exact ⟨rfl, h.used _, (Below.refl b w).setCell (p := ⟨b, 0, none⟩) h.1 _, (Lib.OthersKept.refl _ _ w).setCell ⟨b, 0, none⟩ rfl _⟩
  · refine (copyCheck_used b w h.cell0).mono ?_
    rintro e w' ⟨rfl, rfl⟩
    exact ⟨rfl, h, BStep.refl _ _⟩

theorem heap_lt {w : World} {b : Nat} {o : Obj} (h : w.heap[b]? = some o) : b < w.heap.size := (Array.getElem?_eq_some_iff.1 h).1

set_option maxHeartbeats 1000000 in
set_option maxRecDepth 100000 in
theorem writeByte_calls (b : Nat) (bs : List UInt8) (c : UInt8) (w : World) (h : Bld b bs w) (hlen : bs.length + 1 ≤ 140737488355328) :
    Calls Tryd.prog 68 #[.pointer (some ⟨b, 0, none⟩), .int .u8 (c.toNat : Int)] w fun e w' => e = .returned .nilIface ∧ Bld b (bs ++ [c]) w' ∧ BStep b w w' := by
  obtain ⟨i0, hi, hz0, hz1, hz2⟩ := info_parts infoByte
  have hbl := h.lt
  go_enter Tryd.func68, Tryd.ntmps68
  go_wp2_with (go_at_call 96; refine (copyCheck_calls b _ _ h).mono ?_)
  rintro e w1 ⟨rfl, h1, hst⟩
  obtain ⟨hB, v, hbk, hown, hne⟩ := h1
  have c0 : w1.cell? ⟨b, 0, none⟩ = some (.pointer (some ⟨b, 0, none⟩)) := by rw [Lib.cell_of_heap hbk]; rfl
  have c1 : w1.cell? ⟨b, 1, none⟩ = some v := by rw [Lib.cell_of_heap hbk]; rfl
  have hlt := heap_lt hbk
  go_wp2_with (at_builtin; refine wpList_append_ownF _ rfl _ _ 22 rfl b 5 i0 (.int .u8 0) 1 1 Tryd.underlying22 hi hz0 hz1 hz2 rfl (by decide) _ _ _ rfl (hown.alloc _) ⟨w1.heap.size, 0, none⟩ 1 1 [.int .u8 (c.toNat : Int)] rfl rfl ?c1 ?c2 ?c3 ?c4 ?c5 ?_)
  case c1 =>
    intro j u hj
    match j, hj with
    | 0, hj => simp at hj; subst hj; simp [Addr.add]
  case c2 => intro u hu; simp at hu; subst hu; rfl
  case c3 => simp; unfold maxLen; omega
  case c4 => simp; omega
  case c5 => simp; omega
  intro v' w2 hown' hgrow _
  have hb2 : w2.heap[b]? = some (.cells #[.pointer (some ⟨b, 0, none⟩), v] 89 (0, 0)) := by
    rw [hgrow.block b (by simp; omega) (fun e => hne e.symm), Lib.alloc_old w1 _ b hlt]
    exact hbk
  have d0 : w2.cell? ⟨b, 0, none⟩ = some (.pointer (some ⟨b, 0, none⟩)) := by rw [Lib.cell_of_heap hb2]; rfl
  have d1 : w2.cell? ⟨b, 1, none⟩ = some v := by rw [Lib.cell_of_heap hb2]; rfl
  have f1 : w2.frozen? ⟨b, 1, none⟩ = false := Lib.frozen_of_heap hb2 1
  obtain ⟨g, cap, rfl⟩ : ∃ g cap, v' = .slice (some ⟨g, 0, none⟩) (bs.length + 1) cap := by
    rcases hown'.2 with ⟨_, h0⟩ | ⟨g, cap, cur, fz, hv, _⟩
    · omega
    · exact ⟨g, cap, hv⟩
  go_wp2
  go_ret
  have hcs : bcells bs ++ [.int .u8 (c.toNat : Int)] = bcells (bs ++ [c]) := by simp [bcells]
  refine ⟨rfl, .inr ?_, ?_, ((hst.2.alloc _).grown hgrow (Lib.ownsRowF_kind (hown.alloc _))).setCell ⟨b, 1, none⟩ rfl _⟩
  · rw [← hcs]
    exact Lib.BuilderAtF.put (T := 89) (e := 5) hB hb2 (bs' := bcells bs ++ [.int .u8 (c.toNat : Int)]) (by simpa using hown') (by decide)
  · exact ((hst.1.alloc (by omega) _).grown hgrow (by simp; omega) (fun k hk => (hown.lt k hk).1)).setCell (p := ⟨b, 1, none⟩) hB _

theorem strCells_eq (s : ByteArray) : Lib.strCells s = bcells s.data.toList := by
  unfold Lib.strCells bcells
  first | rfl | simp

set_option maxHeartbeats 1000000 in
set_option maxRecDepth 100000 in
theorem writeString_calls (b : Nat) (bs : List UInt8) (s : ByteArray) (w : World) (h : Bld b bs w) (hlen : bs.length + s.size ≤ 140737488355328) :
    Calls Tryd.prog 70 #[.pointer (some ⟨b, 0, none⟩), .string s] w fun e w' => e = .returned (.tuple #[.int .i64 s.size, .nilIface]) ∧ Bld b (bs ++ s.data.toList) w' ∧ BStep b w w' := by
  obtain ⟨i0, hi, hz0, hz1, hz2⟩ := info_parts infoByte
  have hbl := h.lt
  go_enter Tryd.func70, Tryd.ntmps70
  go_wp2_with (go_at_call 96; refine (copyCheck_calls b _ _ h).mono ?_)
  rintro e w1 ⟨rfl, h1, hst⟩
  obtain ⟨hB, v, hbk, hown, hne⟩ := h1
  have c0 : w1.cell? ⟨b, 0, none⟩ = some (.pointer (some ⟨b, 0, none⟩)) := by rw [Lib.cell_of_heap hbk]; rfl
  have c1 : w1.cell? ⟨b, 1, none⟩ = some v := by rw [Lib.cell_of_heap hbk]; rfl
  have hlt := heap_lt hbk
  go_wp2_with (at_builtin; refine Lib.wpList_append_own_stringF _ rfl _ _ 22 9 rfl b 5 i0 Tryd.underlying22 Tryd.underlying9 hi hz0 hz1 hz2 _ _ _ rfl hown s rfl ?c3 ?c4 ?c5 ?_)
  case c3 => simp; unfold maxLen; omega
  case c4 => simp; omega
  case c5 => omega
  intro v' w2 hown' hgrow _
  have hb2 : w2.heap[b]? = some (.cells #[.pointer (some ⟨b, 0, none⟩), v] 89 (0, 0)) := by
    rw [hgrow.block b hlt (fun e => hne e.symm)]
    exact hbk
  have d0 : w2.cell? ⟨b, 0, none⟩ = some (.pointer (some ⟨b, 0, none⟩)) := by rw [Lib.cell_of_heap hb2]; rfl
  have d1 : w2.cell? ⟨b, 1, none⟩ = some v := by rw [Lib.cell_of_heap hb2]; rfl
  have f1 : w2.frozen? ⟨b, 1, none⟩ = false := Lib.frozen_of_heap hb2 1
  obtain ⟨ao, n', cap, rfl⟩ : ∃ ao n' cap, v' = .slice ao n' cap := by
    rcases hown'.2 with ⟨hv, _⟩ | ⟨g, cap, cur, fz, hv, _⟩
    · exact ⟨_, _, _, hv⟩
    · exact ⟨_, _, _, hv⟩
  go_wp2
  go_ret2
  have hcs : bcells bs ++ Lib.strCells s = bcells (bs ++ s.data.toList) := by rw [strCells_eq]; simp [bcells]
  refine ⟨rfl, .inr ?_, ?_, (hst.2.grown hgrow (Lib.ownsRowF_kind hown)).setCell ⟨b, 1, none⟩ rfl _⟩
  · rw [← hcs]
    exact Lib.BuilderAtF.put (T := 89) (e := 5) hB hb2 (bs' := bcells bs ++ Lib.strCells s) (by simpa [Lib.strCells_length] using hown') (by decide)
  · exact (hst.1.grown hgrow (by omega) (fun k hk => (hown.lt k hk).1)).setCell (p := ⟨b, 1, none⟩) hB _

/-- The bytes of a rune, as string(r) has them. -/
def runeB (r : Int) : List UInt8 := (Utf8.encode r).data.toList

theorem runeB_eq (r : Int) : Lib.encodeRune r = runeB r := by
  unfold runeB Utf8.encode Lib.encodeRune
  by_cases h1 : 0 ≤ r ∧ r ≤ 127
  · have hv : Utf8.valid r = true := by simp [Utf8.valid]; omega
    rw [Lib.encodeRuneZ_one h1.1 h1.2, if_pos hv, if_pos (by omega)]; rfl
  · by_cases h2 : 128 ≤ r ∧ r ≤ 2047
    · have hv : Utf8.valid r = true := by simp [Utf8.valid]; omega
      rw [Lib.encodeRuneZ_two h2.1 h2.2, if_pos hv]
      simp only [if_neg (show ¬ r.toNat < 0x80 by omega), if_pos (show r.toNat < 0x800 by omega), List.map_cons, List.map_nil]
      rw [show (192 + r / 64).toNat = 0xC0 + r.toNat / 64 by omega, show (128 + r % 64).toNat = 0x80 + r.toNat % 64 by omega]
    · by_cases h3 : (2048 ≤ r ∧ r < 55296) ∨ (57343 < r ∧ r ≤ 65535)
      · have hv : Utf8.valid r = true := by simp [Utf8.valid]; omega
        rw [Lib.encodeRuneZ_three h3, if_pos hv]
        simp only [if_neg (show ¬ r.toNat < 0x80 by omega), if_neg (show ¬ r.toNat < 0x800 by omega), if_pos (show r.toNat < 0x10000 by omega), List.map_cons, List.map_nil]
        rw [show (224 + r / 4096).toNat = 0xE0 + r.toNat / 4096 by omega, show (128 + r / 64 % 64).toNat = 0x80 + r.toNat / 64 % 64 by omega, show (128 + r % 64).toNat = 0x80 + r.toNat % 64 by omega]
      · by_cases h4 : 65536 ≤ r ∧ r ≤ 1114111
        · have hv : Utf8.valid r = true := by simp [Utf8.valid]; omega
          rw [Lib.encodeRuneZ_four h4.1 h4.2, if_pos hv]
          simp only [if_neg (show ¬ r.toNat < 0x80 by omega), if_neg (show ¬ r.toNat < 0x800 by omega), if_neg (show ¬ r.toNat < 0x10000 by omega), List.map_cons, List.map_nil]
          rw [show (240 + r / 262144).toNat = 0xF0 + r.toNat / 262144 by omega, show (128 + r / 4096 % 64).toNat = 0x80 + r.toNat / 4096 % 64 by omega, show (128 + r / 64 % 64).toNat = 0x80 + r.toNat / 64 % 64 by omega, show (128 + r % 64).toNat = 0x80 + r.toNat % 64 by omega]
        · have hv : Utf8.valid r = false := by simp [Utf8.valid]; omega
          rw [Lib.encodeRuneZ_bad (by omega), hv]; simp only [Bool.false_eq_true, if_false]; decide +kernel

theorem runeCells_eq (r : Int) : Lib.runeCells r = bcells (runeB r) := by
  rw [← runeB_eq, ← Lib.byteCells_encodeRune]; rfl

theorem runeB_length (r : Int) : 1 ≤ (runeB r).length ∧ (runeB r).length ≤ 4 := by
  rw [← runeB_eq]; unfold Lib.encodeRune; rw [List.length_map]; exact Lib.encodeRuneZ_length r

set_option maxHeartbeats 1000000 in
set_option maxRecDepth 100000 in
theorem writeRune_calls (b : Nat) (bs : List UInt8) (r : Int) (w : World) (h : Bld b bs w) (hr0 : -2147483648 ≤ r) (hr1 : r ≤ 2147483647) (hlen : bs.length + 4 ≤ 140737488355328) :
    Calls Tryd.prog 69 #[.pointer (some ⟨b, 0, none⟩), .int .i32 r] w fun e w' => (∃ n : Int, e = .returned (.tuple #[.int .i64 n, .nilIface])) ∧ Bld b (bs ++ runeB r) w' ∧ BStep b w w' := by
  have hbl := h.lt
  have hrl := runeB_length r
  go_enter Tryd.func69, Tryd.ntmps69
  go_wp2_with (go_at_call 96; refine (copyCheck_calls b _ _ h).mono ?_)
  rintro e w1 ⟨rfl, h1, hst⟩
  obtain ⟨hB, v, hbk, hown, hne⟩ := h1
  have c0 : w1.cell? ⟨b, 0, none⟩ = some (.pointer (some ⟨b, 0, none⟩)) := by rw [Lib.cell_of_heap hbk]; rfl
  have c1 : w1.cell? ⟨b, 1, none⟩ = some v := by rw [Lib.cell_of_heap hbk]; rfl
  have hlt := heap_lt hbk
  have hlen' : (bcells bs).length = bs.length := by simp
  obtain ⟨ao, cap, hv⟩ : ∃ ao cap, v = .slice ao bs.length cap := by
    rcases hown.2 with ⟨hv, hx⟩ | ⟨g, cap, cur, fz, hv, _⟩
    · have : bs.length = 0 := by rw [← hlen', hx]
      exact ⟨none, 0, by rw [hv, this]⟩
    · exact ⟨_, cap, by rw [hv, hlen']⟩
  subst hv
  have hcall := Tryd.utf8_AppendRune_row b (.slice ao bs.length cap) _ (bcells bs) r hr0 hr1 w1 hown (by simp; omega) (by omega)
  have HC := Lib.hid hcall
  have hown2 := Lib.hid hown
  clear hcall hown
  go_wp2_with (go_at_call 97; refine HC.out.mono ?_)
  rintro e w2 ⟨v2, rfl, hown', o, hgrow⟩
  have hb2 : w2.heap[b]? = some (.cells #[.pointer (some ⟨b, 0, none⟩), .slice ao bs.length cap] 89 (0, 0)) := by
    rw [hgrow.block b (by simp; omega) (fun e => hne e.symm), Lib.alloc_old w1 _ b hlt]
    exact hbk
  have d0 : w2.cell? ⟨b, 0, none⟩ = some (.pointer (some ⟨b, 0, none⟩)) := by rw [Lib.cell_of_heap hb2]; rfl
  have d1 : w2.cell? ⟨b, 1, none⟩ = some (.slice ao bs.length cap) := by rw [Lib.cell_of_heap hb2]; rfl
  have f1 : w2.frozen? ⟨b, 1, none⟩ = false := Lib.frozen_of_heap hb2 1
  obtain ⟨g, cap2, rfl⟩ : ∃ g cap2, v2 = .slice (some ⟨g, 0, none⟩) (bs.length + (runeB r).length) cap2 := by
    rw [runeCells_eq] at hown'
    rcases hown'.2 with ⟨_, hx⟩ | ⟨g, cap2, cur, fz, hv2, _⟩
    · exfalso
      rw [bcells_length, bcells_length] at hx; omega
    · exact ⟨g, cap2, by simpa using hv2⟩
  go_wp2
  go_ret2
  have hcs : bcells bs ++ Lib.runeCells r = bcells (bs ++ runeB r) := by rw [runeCells_eq]; simp [bcells]
  refine ⟨⟨_, rfl⟩, .inr ?_, ?_, ((hst.2.alloc _).grown hgrow (Lib.ownsRowF_kind (hown2.out.alloc _))).setCell ⟨b, 1, none⟩ rfl _⟩
  · rw [← hcs]
    exact Lib.BuilderAtF.put (T := 89) (e := 5) hB hb2 (bs' := bcells bs ++ Lib.runeCells r) (by simpa using hown') (by decide)
  · exact ((hst.1.alloc (by omega) _).grown hgrow (by simp; omega) (fun k hk => (hown2.out.lt k hk).1)).setCell (p := ⟨b, 1, none⟩) hB _

/-- The text of a builder. -/
theorem string_calls (b : Nat) (bs : List UInt8) (w : World) (h : Bld b bs w) :
    Calls Tryd.prog 72 #[.pointer (some ⟨b, 0, none⟩)] w fun e w' => e = .returned (.string ⟨bs.toArray⟩) ∧ BStep b w w' := by
  refine (Tryd.Builder_String_any_k b b bs w h (Nat.le_of_lt h.lt)).mono ?_
  rintro e w' ⟨rfl, _, h1, h2⟩
  exact ⟨rfl, h1, h2⟩
/-- A builder that has just been made. -/
theorem Bld.new (w : World) : Bld w.heap.size [] (w.alloc (.cells #[.pointer none, .slice none 0 0] 89)) :=
  .inl ⟨Nat.le_refl _, .slice none 0 0, by simpa using World.alloc_heap_new w _, ⟨by simp [bcells], .inl ⟨rfl, by simp [bcells]⟩⟩, by simp [Value.ownBlock]⟩
end Go.Proofs.YtnepdjgbfhakmaaDoor
