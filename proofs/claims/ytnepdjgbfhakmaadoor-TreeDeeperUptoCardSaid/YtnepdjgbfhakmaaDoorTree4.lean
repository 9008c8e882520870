/- Trees: texts among words, paths, UTF-8. -/
import Derived.Test.YtnepdjgbfhakmaaDoorTree3
namespace Go.Proofs.YtnepdjgbfhakmaaDoor
set_option linter.unusedVariables false
set_option linter.unusedSimpArgs false
open Go.RowKit Go.Shelf
attribute [local go_sem] Oper.semAt_some

def amongB (s l : List UInt8) : Bool := !s.isEmpty && !decide (0 ≤ Lib.indexByte s 32) && Lib.contains (32 :: (l ++ [32])) (32 :: (s ++ [32]))
set_option maxRecDepth 100000 in
theorem among_calls (s l : ByteArray) (w : World) (hs : s.size ≤ 2000000) (hl : l.size ≤ 2000000) (hm : MxLen w) : Calls Tryd.prog 135 #[.string s, .string l] w fun e w' => e = .returned (.bool (amongB s.data.toList l.data.toList)) ∧ w = w' := by
  obtain ⟨m, hm⟩ := hm
  have h1 : (32 :: (s.data.toList ++ [32])) = (⟨#[32]⟩ ++ s ++ ⟨#[32]⟩ : ByteArray).data.toList := by simp
  have h2 : (32 :: (l.data.toList ++ [32])) = (⟨#[32]⟩ ++ l ++ ⟨#[32]⟩ : ByteArray).data.toList := by simp
  have hz : (⟨#[32]⟩ ++ l ++ ⟨#[32]⟩ : ByteArray).size < 4294967281 := by
    simp only [ByteArray.size_append]
    show 1 + l.size + 1 < _
    omega
  have c2 := Tryd.strings_Contains (⟨#[32]⟩ ++ l ++ ⟨#[32]⟩) (⟨#[32]⟩ ++ s ++ ⟨#[32]⟩) m w hz hm
  rw [← h1, ← h2] at c2
  have c1 := Tryd.strings_Contains_one s 32 w
  obtain ⟨a, ha⟩ : ∃ a, decide (0 ≤ Lib.indexByte s.data.toList 32) = a := ⟨_, rfl⟩
  obtain ⟨b, hb⟩ : ∃ b, Lib.contains (32 :: (l.data.toList ++ [32])) (32 :: (s.data.toList ++ [32])) = b := ⟨_, rfl⟩
  obtain ⟨z, hze⟩ : ∃ z, s.toList.isEmpty = z := ⟨_, rfl⟩
  have key : amongB s.data.toList l.data.toList = (!z && !a && b) := by
    unfold amongB
    rw [ha, hb, ← hze, ByteArray.toList_eq]
  rw [ha] at c1
  rw [hb] at c2
  have HK := Lib.hid key
  have C1 := Lib.hid c1
  have C2 := Lib.hid c2
  clear key c1 c2 ha hb h1 h2 hm hz
  go_enter Tryd.func135, Tryd.ntmps135
  cases z with
  | true =>
    go_wp2
    go_ret
    exact ⟨ret_val (by rw [HK.out]; rfl), rfl⟩
  | false =>
    go_wp2_with (fail)
    refine C1.out.mono ?_
    rintro e w' ⟨rfl, rfl⟩
    cases a with
    | true =>
      go_wp2
      go_ret
      exact ⟨ret_val (by rw [HK.out]; rfl), rfl⟩
    | false =>
      go_wp2_with (fail)
      refine C2.out.mono ?_
      rintro e w' ⟨rfl, rfl⟩
      go_wp2
      go_ret
      exact ⟨ret_val (by rw [HK.out]; rfl), rfl⟩

/-- UTF-8 all through. -/
def goodF : Nat → List UInt8 → Bool
  | 0, _ => true
  | _ + 1, [] => true
  | k + 1, b :: t => (dec (b :: t)).2.2 && goodF k ((b :: t).drop (dec (b :: t)).2.1)
def goodB (s : List UInt8) : Bool := goodF s.length s
theorem goodF_nil (k : Nat) : goodF k [] = true := by cases k <;> rfl
theorem goodF_fuel : ∀ (k k' : Nat) (bs : List UInt8), bs.length ≤ k → bs.length ≤ k' → goodF k bs = goodF k' bs
  | k, k', [], _, _ => by rw [goodF_nil, goodF_nil]
  | 0, _, _ :: _, h, _ => by simp at h
  | _ + 1, 0, _ :: _, _, h => by simp at h
  | k + 1, k' + 1, b :: t, h, h' => by
    have hd := dec_size b t
    simp only [goodF]
    rw [goodF_fuel k k' _ (by simp only [List.length_drop, List.length_cons] at *; omega) (by simp only [List.length_drop, List.length_cons] at *; omega)]
theorem goodF_cons (k : Nat) (bs : List UInt8) (h : bs ≠ []) (hk : bs.length ≤ k) : goodF k bs = ((dec bs).2.2 && goodF k (bs.drop (dec bs).2.1)) := by
  cases bs with
  | nil => exact absurd rfl h
  | cons b t =>
    cases k with
    | zero => simp at hk
    | succ k =>
      have hd := dec_size b t
      rw [goodF]
      rw [goodF_fuel k (k + 1) _ (by simp only [List.length_drop, List.length_cons] at *; omega) (by simp only [List.length_drop, List.length_cons] at *; omega)]

set_option maxRecDepth 100000 in
set_option maxHeartbeats 400000 in
theorem good_calls (s : ByteArray) (w : World) (hs : s.size ≤ 2000000) : Calls Tryd.prog 134 #[.string s] w fun e w' => e = .returned (.bool (goodB s.data.toList)) ∧ Below w.heap.size w w' := by
  go_enter Tryd.func134, Tryd.ntmps134
  go_wp2_with (fail)
  go_loopw [3] (fun v wr => ∃ i : Nat, v = .int .i64 i ∧ i ≤ s.size ∧ Hid (goodB s.data.toList = goodF s.size (s.data.toList.drop i)) ∧ Below w.heap.size w wr) (fun v _ => s.size - (intOf v).toNat)
  case atStart => exact ⟨0, rfl, by omega, Lib.hid rfl, Below.refl _ _⟩
  case round =>
    obtain ⟨i, rfl, hi, HG, hb⟩ := hrel
    by_cases hlt : i < s.size
    · have hlen : (s.data.toList.drop i).length = s.size - i := by rw [List.length_drop]; rfl
      have hne : s.data.toList.drop i ≠ [] := fun h => by rw [h] at hlen; simp at hlen; omega
      have hdec : dec (s.extract i (min s.size (i + 4))).data.toList = dec (s.data.toList.drop i) := by
        rw [Lib.extract_data, ← dec_take (s.data.toList.drop i)]
        by_cases h4 : i + 4 ≤ s.size
        · rw [Nat.min_eq_right h4, show i + 4 - i = 4 by omega]
        · rw [Nat.min_eq_left (by omega), List.take_of_length_le, List.take_of_length_le]
          · simp; omega
          · simp
      have hsz := dec_size' _ hne
      have hst := goodF_cons s.size _ hne (by omega)
      rw [hst, List.drop_drop] at HG
      rw [hlen] at hsz
      obtain ⟨A, c, W', hcv, hcs, hbl, hszc⟩ := conv_bytes (P := Tryd.prog) 9 22 5 Tryd.underlying9 Tryd.underlying22 Tryd.underlying5 (s.extract i (min s.size (i + 4))) wr
      have hl2 : (s.extract i (min s.size (i + 4))).data.toList.length = (s.extract i (min s.size (i + 4))).size := rfl
      have hzl : (s.extract i (min s.size (i + 4))).size = min s.size (i + 4) - i := by simp
      have hd := decode_calls A c (s.extract i (min s.size (i + 4))).data.toList 0 W' (by omega) (by omega) hcs
      rw [hl2, decAt_zero, hdec] at hd
      obtain ⟨x, hx⟩ : ∃ x, dec (s.data.toList.drop i) = x := ⟨_, rfl⟩
      rw [hx] at hd HG hsz
      obtain ⟨r, n, g⟩ := x
      simp only at hd HG hsz
      have hb2 := hb.trans (hbl.mono hb.size)
      have HD := Lib.hid hd
      have HB := Lib.hid hb2
      rw [hzl] at hcv HD
      clear hd hx hdec hst hlen hne hcs hl2 hzl hszc hbl hb hb2
      have hmin : (min (s.size : Int) ((i : Int) + 4)).toNat = min s.size (i + 4) := by omega
      cases g with
      | true =>
        go_wp2_with (fail)
        refine HD.out.mono ?_
        rintro e W2 ⟨rfl, rfl⟩
        clear hcv hmin
        go_wp2_with (fail)
        exact ⟨⟨i + n, by simp, by omega, Lib.hid (by rw [HG.out]; rfl), HB.out⟩, by simp [intOf]; omega⟩
      | false =>
        go_wp2_with (fail)
        refine HD.out.mono ?_
        rintro e W2 ⟨rfl, rfl⟩
        clear hcv hmin
        go_wp2_with (fail)
        go_ret
        exact ⟨ret_val (by rw [HG.out]; rfl), HB.out⟩
    · have : i = s.size := by omega
      have hg : goodB s.data.toList = true := by rw [HG.out, List.drop_of_length_le (by show s.data.toList.length ≤ i; have : s.data.toList.length = s.size := rfl; omega), goodF_nil]
      have HG2 := Lib.hid hg
      clear hg HG
      go_wp2_with (fail)
      go_ret
      exact ⟨ret_val (by rw [HG2.out]; rfl), hb⟩
end Go.Proofs.YtnepdjgbfhakmaaDoor
