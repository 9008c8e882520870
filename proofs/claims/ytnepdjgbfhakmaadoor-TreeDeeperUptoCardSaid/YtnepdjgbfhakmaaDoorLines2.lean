/- text.Lines: its iterator. -/
import Derived.Test.YtnepdjgbfhakmaaDoorLines1
import Derived.Test.YtnepdjgbfhakmaaDoorIter
import Derived.Lib.IndexLaws
namespace Go.Proofs.YtnepdjgbfhakmaaDoor
set_option linter.unusedVariables false
set_option linter.unusedSimpArgs false
open Go.RowKit Go.Shelf
attribute [local go_sem] Oper.semAt_some

set_option maxRecDepth 100000 in
theorem lines_calls (A : Option Addr) (c : Nat) (bs : List UInt8) (w : World) (hc : Cells w A (bcells bs)) :
    Calls Tryd.prog 36 #[.slice A bs.length c] w fun e w' => e = .returned (.func (.func 74) #[] #[.pointer (some ⟨w.heap.size, 0, none⟩)]) ∧ w' = w.alloc (.cells #[.string ⟨bs.toArray⟩] 9) := by
  have hcv := conv_string (P := Tryd.prog) 22 5 9 Tryd.underlying22 Tryd.underlying5 Tryd.underlying9 c hc
  go_enter Tryd.func36, Tryd.ntmps36
  go_wp2
  go_ret
  exact ⟨rfl, rfl⟩

def lineRow (s : ByteArray) (x : Nat × Nat) : Array Value := #[.int .i64 (x.1 : Int), .string (s.extract x.1 x.2)]

theorem lines_step (s : ByteArray) (i : Nat) (h : i ≤ s.size) :
    (Lib.indexByte (s.extract i s.size).data.toList 10 = -1 ∧ linesF (s.data.toList.drop i) i i = [(i, s.size)]) ∨
    ∃ o : Nat, Lib.indexByte (s.extract i s.size).data.toList 10 = o ∧ i + o < s.size ∧ linesF (s.data.toList.drop i) i i = (i, i + o) :: linesF (s.data.toList.drop (i + o + 1)) (i + o + 1) (i + o + 1) := by
  have hl : (s.extract i s.size).data.toList = s.data.toList.drop i := by
    rw [Lib.extract_data, List.take_of_length_le (by simp)]
  have hln : (s.data.toList.drop i).length = s.size - i := by rw [List.length_drop]; rfl
  rw [hl]
  have hge := Lib.indexByte_ge (s.data.toList.drop i) 10
  by_cases hm : Lib.indexByte (s.data.toList.drop i) 10 = -1
  · left
    refine ⟨hm, ?_⟩
    rw [linesF_none _ _ _ (fun c hc h10 => ?_), hln, show i + (s.size - i) = s.size by omega]
    obtain ⟨k, hk⟩ := List.mem_iff_getElem?.1 hc
    have : c = 10 := UInt8.toNat_inj.1 h10
    subst this
    exact Lib.indexByte_none hm k hk
  · right
    obtain ⟨o, ho⟩ : ∃ o : Nat, Lib.indexByte (s.data.toList.drop i) 10 = o := ⟨(Lib.indexByte (s.data.toList.drop i) 10).toNat, by omega⟩
    obtain ⟨h1, h2⟩ := Lib.indexByte_some ho
    have hlt := (List.getElem?_eq_some_iff.1 h1).1
    refine ⟨o, ho, by omega, ?_⟩
    rw [linesF_some _ i i o (fun c hc h10 => ?_) hlt (by simp [List.getD, h1]), List.drop_drop, show i + (o + 1) = i + o + 1 by omega]
    obtain ⟨k, hk⟩ := List.mem_iff_getElem?.1 hc
    have h10' : c = 10 := UInt8.toNat_inj.1 h10
    subst h10'
    have hko : k < o := by
      have := (List.getElem?_eq_some_iff.1 hk).1
      simp at this; omega
    rw [List.getElem?_take_of_lt hko] at hk
    exact h2 k hko hk

set_option maxRecDepth 100000 in
set_option maxHeartbeats 1000000 in
theorem lines_iter (B : Nat) (s : ByteArray) (f : Nat × Nat) (w : World) (hs : s.size ≤ 9223372036854775000) (hB : w.heap[B]? = some (.cells #[.string s] 9 f)) :
    Iter Tryd.prog 74 #[.pointer (some ⟨B, 0, none⟩)] (lineRow s) [B] (lines s.data.toList) w := by
  intro y J Jx W hS hJ hJx hY h0
  have hBW : W.heap[B]? = some (.cells #[.string s] 9 f) := (hS.2 B (by simp)).trans hB
  refine (callsIn_wide (n := 1)).1 (callsIn_of_wp Tryd.func74 rfl trivial ?_ rfl)
  simp only [Tryd.ntmps74, List.size_toArray, List.length_cons, List.length_nil, Nat.reduceAdd, Nat.reduceSub, Array.replicate_succ, Array.replicate_zero, List.push_toArray, List.append_toArray, List.nil_append, List.cons_append]
  gi_wp2
  gi_loopw [3] (fun v wr => ∃ (i : Nat) (pre : List (Nat × Nat)), v = .int .i64 (i : Int) ∧ i ≤ s.size ∧ Hid (lines s.data.toList = pre ++ linesF (s.data.toList.drop i) i i) ∧ J pre wr ∧ wr.heap[B]? = some (.cells #[.string s] 9 f)) (fun v _ => s.size + 1 - (intOf v).toNat)
  case atStart => exact ⟨0, [], rfl, by omega, rfl, h0, hBW⟩
  case round =>
    obtain ⟨i, pre, rfl, hi, HX, hj, hb⟩ := hrel
    have hcell : wr.cell? ⟨B, 0, none⟩ = some (.string s) := by simp [World.cell?, hb]
    have hix := Tryd.strings_IndexByte (s.extract i s.size) 10 wr
    rw [show ((10 : Int).toNat.toUInt8) = 10 from rfl] at hix
    rcases lines_step s i hi with ⟨hx, hst⟩ | ⟨o, hx, hlt, hst⟩
    · rw [hx] at hix
      have HIX := Lib.hid hix
      rw [hst] at HX
      have hpre : pre ++ [(i, s.size)] <+: lines s.data.toList := by rw [HX.out]; exact List.prefix_rfl
      have hy := hY pre (i, s.size) wr hpre hj
      have HYC := Lib.hid hy
      have HP := Lib.hid hpre
      have HX1 := Lib.hid hx
      clear hx hst hy hpre hj hY hb hix
      rcases HYC.out with ⟨g, cap, rfl, hent, hcall⟩ | ⟨l, rfl, fn, tmps, assign, body, hy, hR⟩
      · have HC := Lib.hid hcall
        clear hcall HYC
        gi_wp2_with (first | (refine ⟨trivial, ?_⟩; gi_at_call 75; refine ((callsIn_wide (n := 0)).2 HIX.out).mono ?_; rintro e w' ⟨rfl, rfl⟩))
        refine ⟨trivial, ?_⟩
        refine ((callsIn_wide (n := 0)).2 HC.out).mono ?_
        rintro e W2 (⟨rfl, hJ2, hS2⟩ | ⟨rfl, hJ2⟩)
        · gi_wp2
          refine bodyPost_ret (results_none rfl _ _ _) rfl ?_
          exact ⟨rfl, .inl (by rw [HX.out]; exact hJ2)⟩
        · gi_wp2
          refine bodyPost_ret (results_none rfl _ _ _) rfl ?_
          exact ⟨rfl, .inr ⟨_, HP.out, by simp, hJ2⟩⟩
      · have HR := Lib.hid hR
        clear hR HYC
        dsimp only [lineRow] at hy
        gi_wp2_with (first | (refine ⟨trivial, ?_⟩; gi_at_call 75; refine ((callsIn_wide (n := 0)).2 HIX.out).mono ?_; rintro e w' ⟨rfl, rfl⟩))
        refine (roundIn_any HR.out).mono ?_
        rintro e W2 (⟨rfl, hJ2, hS2⟩ | ⟨rfl, hJ2⟩)
        · gi_wp2
          refine bodyPost_ret (results_none rfl _ _ _) rfl ?_
          exact ⟨rfl, .inl (by rw [HX.out]; exact hJ2)⟩
        · gi_wp2
          refine bodyPost_ret (results_none rfl _ _ _) rfl ?_
          exact ⟨rfl, .inr ⟨_, HP.out, by simp, hJ2⟩⟩
    · rw [hx] at hix
      have HIX := Lib.hid hix
      rw [hst] at HX
      have HX3 : Hid (lines s.data.toList = (pre ++ [(i, i + o)]) ++ linesF (s.data.toList.drop (i + o + 1)) (i + o + 1) (i + o + 1)) := by
        show _ = _
        rw [HX.out]; simp
      have hpre : pre ++ [(i, i + o)] <+: lines s.data.toList := by rw [HX3.out]; exact List.prefix_append _ _
      have hy := hY pre (i, i + o) wr hpre hj
      have HYC := Lib.hid hy
      have HP := Lib.hid hpre
      have HB := Lib.hid hb
      clear hx hst hy hpre hj hY hb hix HX
      rcases HYC.out with ⟨g, cap, rfl, hent, hcall⟩ | ⟨l, rfl, fn, tmps, assign, body, hy, hR⟩
      · have HC := Lib.hid hcall
        clear hcall HYC
        gi_wp2_with (first | (refine ⟨trivial, ?_⟩; gi_at_call 75; refine ((callsIn_wide (n := 0)).2 HIX.out).mono ?_; rintro e w' ⟨rfl, rfl⟩))
        refine ⟨trivial, ?_⟩
        refine ((callsIn_wide (n := 0)).2 HC.out).mono ?_
        rintro e W2 (⟨rfl, hJ2, hS2⟩ | ⟨rfl, hJ2⟩)
        · have hb2 : W2.heap[B]? = some (.cells #[.string s] 9 f) := (hS2.2 B (by simp)).trans HB.out
          gi_wp2
          exact ⟨⟨i + o + 1, pre ++ [(i, i + o)], int_eq (by omega), by omega, HX3, hJ2, hb2⟩, by simp [intOf]; omega⟩
        · gi_wp2
          refine bodyPost_ret (results_none rfl _ _ _) rfl ?_
          exact ⟨rfl, .inr ⟨_, HP.out, by simp, hJ2⟩⟩
      · have HR := Lib.hid hR
        clear hR HYC
        dsimp only [lineRow] at hy
        gi_wp2_with (first | (refine ⟨trivial, ?_⟩; gi_at_call 75; refine ((callsIn_wide (n := 0)).2 HIX.out).mono ?_; rintro e w' ⟨rfl, rfl⟩))
        refine (roundIn_any HR.out).mono ?_
        rintro e W2 (⟨rfl, hJ2, hS2⟩ | ⟨rfl, hJ2⟩)
        · have hb2 : W2.heap[B]? = some (.cells #[.string s] 9 f) := (hS2.2 B (by simp)).trans HB.out
          gi_wp2
          exact ⟨⟨i + o + 1, pre ++ [(i, i + o)], int_eq (by omega), by omega, HX3, hJ2, hb2⟩, by simp [intOf]; omega⟩
        · gi_wp2
          refine bodyPost_ret (results_none rfl _ _ _) rfl ?_
          exact ⟨rfl, .inr ⟨_, HP.out, by simp, hJ2⟩⟩
end Go.Proofs.YtnepdjgbfhakmaaDoor
