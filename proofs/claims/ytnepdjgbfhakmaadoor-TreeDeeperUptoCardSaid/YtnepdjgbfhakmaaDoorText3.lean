/- text.Runes: what it answers; the contract of the iterator. -/
import Derived.Test.YtnepdjgbfhakmaaDoorText2
namespace Go.Proofs.YtnepdjgbfhakmaaDoor
set_option linter.unusedVariables false
set_option linter.unusedSimpArgs false
open Go.RowKit Go.Shelf
attribute [local go_sem] Oper.semAt_some

set_option maxRecDepth 100000 in
set_option maxHeartbeats 400000 in
theorem runes_calls (A : Option Addr) (c : Nat) (bs : List UInt8) (w : World) (hc : Cells w A (bcells bs)) :
    Calls Tryd.prog 25 #[.slice A bs.length c] w fun e w' => e = .returned (.func (.func 67) #[] #[.pointer (some ⟨w.heap.size, 0, none⟩)]) ∧ w' = w.alloc (.cells #[.string ⟨bs.toArray⟩] 9) := by
  have hcv := conv_string (P := Tryd.prog) 22 5 9 Tryd.underlying22 Tryd.underlying5 Tryd.underlying9 c hc
  go_enter Tryd.func25, Tryd.ntmps25
  go_wp2
  go_ret
  exact ⟨rfl, rfl⟩

def runeRow (x : Nat × Nat) : Array Value := #[.int .i64 (x.1 : Int), .int .i32 (x.2 : Int)]

set_option maxRecDepth 100000 in
set_option maxHeartbeats 1000000 in
theorem runes_iter (B : Nat) (s : ByteArray) (f : Nat × Nat) (w : World) (hs : s.size ≤ 9223372036854775000) (hB : w.heap[B]? = some (.cells #[.string s] 9 f)) :
    Iter Tryd.prog 67 #[.pointer (some ⟨B, 0, none⟩)] runeRow [B] (runes s.data.toList) w := by
  intro y J Jx W hS hJ hJx hY h0
  have hBW : W.heap[B]? = some (.cells #[.string s] 9 f) := (hS.2 B (by simp)).trans hB
  refine (callsIn_wide (n := 1)).1 (callsIn_of_wp Tryd.func67 rfl trivial ?_ rfl)
  simp only [Tryd.ntmps67, List.size_toArray, List.length_cons, List.length_nil, Nat.reduceAdd, Nat.reduceSub, Array.replicate_succ, Array.replicate_zero, List.push_toArray, List.append_toArray, List.nil_append, List.cons_append]
  gi_wp2
  gi_loopw [3] (fun v wr => ∃ (i k : Nat) (pre : List (Nat × Nat)), v = .int .i64 (i : Int) ∧ i ≤ s.size ∧ s.size ≤ i + k ∧ Hid (runes s.data.toList = pre ++ runesF k i (s.data.toList.drop i)) ∧ J pre wr ∧ wr.heap[B]? = some (.cells #[.string s] 9 f)) (fun v _ => s.size - (intOf v).toNat)
  case atStart => exact ⟨0, s.size, [], rfl, by omega, by omega, rfl, h0, hBW⟩
  case round =>
    obtain ⟨i, k, pre, rfl, hi, hk, HX, hj, hb⟩ := hrel
    have hcell : wr.cell? ⟨B, 0, none⟩ = some (.string s) := by simp [World.cell?, hb]
    by_cases hlt : i < s.size
    · have hdec : dec (s.extract i (min s.size (i + 4))).data.toList = dec (s.data.toList.drop i) := by
        rw [Lib.extract_data, ← dec_take (s.data.toList.drop i)]
        by_cases h4 : i + 4 ≤ s.size
        · rw [Nat.min_eq_right h4, show i + 4 - i = 4 by omega]
        · rw [Nat.min_eq_left (by omega), List.take_of_length_le, List.take_of_length_le]
          · simp; omega
          · simp
      have HDC := Lib.hid hdec
      clear hdec
      have hne : s.data.toList.drop i ≠ [] := by
        intro h; have := congrArg List.length h; simp at this; omega
      have HX2 : Hid (runes s.data.toList = pre ++ (i, (dec (s.data.toList.drop i)).1) :: runesF k (i + (dec (s.data.toList.drop i)).2.1) ((s.data.toList.drop i).drop (dec (s.data.toList.drop i)).2.1)) := by
        show _ = _
        rw [HX.out, runesF_cons k i _ hne (by simp; omega)]
      have hsz : ∃ n, n = (dec (s.data.toList.drop i)).2.1 ∧ 1 ≤ n ∧ n ≤ s.size - i := by
        have h := dec_size' _ hne
        have hl : (s.data.toList.drop i).length = s.size - i := by rw [List.length_drop]; rfl
        exact ⟨_, rfl, h.1, by omega⟩
      obtain ⟨n, hn, hn1, hn2⟩ := hsz
      obtain ⟨r, hr⟩ : ∃ r, r = (dec (s.data.toList.drop i)).1 := ⟨_, rfl⟩
      have hrb : r ≤ 1114111 := hr ▸ dec_rune _
      have HD : ∀ (A : Option Addr) (c m e : Nat) (W' : World), m = e - i → e = min s.size (i + 4) → Cells W' A (bcells (s.extract i e).data.toList) → m ≤ c →
          ∃ good : Bool, Calls Tryd.prog 19 #[.slice A m c, .int .i64 0] W' fun e w' => e = .returned (.tuple #[.int .i32 (r : Int), .int .i64 (n : Int), .bool good]) ∧ W' = w' := by
        intro A c m e W' hm he hcs hmc
        have hl : (s.extract i e).data.toList.length = m := by rw [Lib.extract_data]; simp; omega
        have := decode_calls A c (s.extract i e).data.toList 0 W' (by omega) (by omega) hcs
        rw [hl, decAt_zero, he, HDC.out, ← hr, ← hn] at this
        exact ⟨_, this⟩
      rw [← hr, ← hn] at HX2
      have HX3 : Hid (runes s.data.toList = (pre ++ [(i, r)]) ++ runesF k (i + n) (s.data.toList.drop (i + n))) := by
        show _ = _
        rw [HX2.out, List.drop_drop]; simp
      have hpre : pre ++ [(i, r)] <+: runes s.data.toList := by rw [HX3.out]; exact List.prefix_append _ _
      clear HX HX2 HDC hne hn hr
      by_cases h4 : s.size ≤ i + 4
      case' pos =>
        obtain ⟨A, c, W', hcv, hcs, hbl, hszc⟩ := conv_bytes (P := Tryd.prog) 9 22 5 Tryd.underlying9 Tryd.underlying22 Tryd.underlying5 (s.extract i s.size) wr
        obtain ⟨good, hdec⟩ := HD A c (s.size - i) s.size W' rfl (by omega) hcs (by simpa using hszc)
      case' neg =>
        obtain ⟨A, c, W', hcv, hcs, hbl, hszc⟩ := conv_bytes (P := Tryd.prog) 9 22 5 Tryd.underlying9 Tryd.underlying22 Tryd.underlying5 (s.extract i (i + 4)) wr
        obtain ⟨good, hdec⟩ := HD A c (min (i + 4) s.size - i) (i + 4) W' (by omega) (by omega) hcs (by simp at hszc; omega)
      all_goals
        have hb' : W'.heap[B]? = some (.cells #[.string s] 9 f) := (hbl.block B (Array.getElem?_eq_some_iff.1 hb).1).trans hb
        have hy := hY pre (i, r) W' hpre (hJ _ _ _ hj hbl)
        have HYC := Lib.hid hy
        have HDD := Lib.hid hdec
        have HP := Lib.hid hpre
        clear hy hdec HD hcs hszc hb hj hbl hpre hY
        rcases HYC.out with ⟨g, cap, rfl, hent, hcall⟩ | ⟨l, rfl, fn, tmps, assign, body, hy, hR⟩
        · have HC := Lib.hid hcall
          clear hcall HYC
          gi_wp2_with (first | (refine ⟨trivial, ?_⟩; gi_at_call 19; refine ((callsIn_wide (n := 0)).2 HDD.out).mono ?_; rintro e w' ⟨rfl, rfl⟩))
          refine ⟨trivial, ?_⟩
          refine ((callsIn_wide (n := 0)).2 HC.out).mono ?_
          rintro e W2 (⟨rfl, hJ2, hS2⟩ | ⟨rfl, hJ2⟩)
          · have hb2 : W2.heap[B]? = some (.cells #[.string s] 9 f) := (hS2.2 B (by simp)).trans hb'
            gi_wp2
            exact ⟨⟨i + n, k, pre ++ [(i, r)], int_eq (by omega), by omega, by omega, HX3, hJ2, hb2⟩, by simp [intOf]; omega⟩
          · gi_wp2
            refine bodyPost_ret (results_none rfl _ _ _) rfl ?_
            exact ⟨rfl, .inr ⟨_, HP.out, by simp, hJ2⟩⟩
        · have HR := Lib.hid hR
          clear hR HYC
          dsimp only [runeRow] at hy
          gi_wp2_with (first | (refine ⟨trivial, ?_⟩; gi_at_call 19; refine ((callsIn_wide (n := 0)).2 HDD.out).mono ?_; rintro e w' ⟨rfl, rfl⟩))
          refine (roundIn_any HR.out).mono ?_
          rintro e W2 (⟨rfl, hJ2, hS2⟩ | ⟨rfl, hJ2⟩)
          · have hb2 : W2.heap[B]? = some (.cells #[.string s] 9 f) := (hS2.2 B (by simp)).trans hb'
            gi_wp2
            exact ⟨⟨i + n, k, pre ++ [(i, r)], int_eq (by omega), by omega, by omega, HX3, hJ2, hb2⟩, by simp [intOf]; omega⟩
          · gi_wp2
            refine bodyPost_ret (results_none rfl _ _ _) rfl ?_
            exact ⟨rfl, .inr ⟨_, HP.out, by simp, hJ2⟩⟩
    · have hend : runes s.data.toList = pre := by
        rw [HX.out, List.drop_of_length_le (by simp; omega), runesF_nil]; simp
      have HEND := Lib.hid hend
      clear HX hend hY
      gi_wp2
      go_end0
      exact ⟨rfl, .inl (by rw [HEND.out]; exact hj)⟩
end Go.Proofs.YtnepdjgbfhakmaaDoor
