/- text.Decode and what it calls: what they answer. -/
import Derived.Test.YtnepdjgbfhakmaaDoorBase
namespace Go.Proofs.YtnepdjgbfhakmaaDoor
set_option linter.unusedVariables false
set_option linter.unusedSimpArgs false
open Go.RowKit

def wideN (c : Nat) : Nat := if c < 128 then 1 else if c / 32 = 6 then 2 else if c / 16 = 14 then 3 else if c / 8 = 30 then 4 else 0
def wideR (c : Nat) : Nat := if c < 128 then c else if c / 32 = 6 then c % 32 else if c / 16 = 14 then c % 16 else if c / 8 = 30 then c % 8 else 0

set_option maxRecDepth 100000 in
set_option maxHeartbeats 400000 in
theorem wide_calls (c : Nat) (w : World) (h1 : c < 256) :
    Calls Tryd.prog 64 #[.int .u8 (c : Int)] w fun e w' => e = .returned (.tuple #[.int .i64 (wideN c : Int), .int .i32 (wideR c : Int)]) ∧ w = w' := by
  go_enter Tryd.func64, Tryd.ntmps64
  go_wp2
  all_goals (go_ret2; go_tidy; refine ⟨ret_tup2 (int_eq ?_) (int_eq ?_), rfl⟩)
  all_goals ((try simp only [beq_iff_eq, beq_eq_false_iff_ne, ne_eq] at *); simp only [wideN, wideR]; repeat' split)
  all_goals omega

def fitsB (r n : Nat) : Bool := if n = 1 then true else if n = 2 then decide (128 ≤ r) else if n = 3 then decide (2048 ≤ r ∧ (r < 55296 ∨ 57343 < r)) else decide (65536 ≤ r ∧ r ≤ 1114111)

set_option maxRecDepth 100000 in
set_option maxHeartbeats 400000 in
theorem fits_calls (r n : Nat) (w : World) (h1 : r < 2147483648) (_h2 : n < 5) :
    Calls Tryd.prog 65 #[.int .i32 (r : Int), .int .i64 (n : Int)] w fun e w' => e = .returned (.bool (fitsB r n)) ∧ w = w' := by
  go_enter Tryd.func65, Tryd.ntmps65
  go_wp2
  all_goals (go_ret; go_tidy; refine ⟨ret_val (congrArg Value.bool ?_), rfl⟩)
  all_goals ((try simp only [beq_iff_eq, beq_eq_false_iff_ne, ne_eq] at *); simp only [fitsB]; repeat' split)
  all_goals first | omega | (simp; done) | (rw [Bool.eq_iff_iff]; simp; omega) | (simp; omega)

/-- The digits of the bytes that go on. -/
def conts (r : Nat) : List UInt8 → Option Nat
  | [] => some r
  | c :: t => if c.toNat / 64 = 2 then conts (r * 64 + c.toNat % 64) t else none

/-- The rune that begins a row of bytes, how many bytes it has, and whether it is one. -/
def dec : List UInt8 → Nat × Nat × Bool
  | [] => (0, 0, false)
  | b :: t =>
    if wideN b.toNat = 0 ∨ t.length + 1 < wideN b.toNat then (65533, 1, false) else
    match conts (wideR b.toNat) (t.take (wideN b.toNat - 1)) with
    | none => (65533, 1, false)
    | some r => if fitsB r (wideN b.toNat) then (r, wideN b.toNat, true) else (65533, 1, false)

def decAt (bs : List UInt8) (i : Int) : Nat × Nat × Bool := if i < 0 then (0, 0, false) else dec (bs.drop i.toNat)

set_option maxRecDepth 100000 in
set_option maxHeartbeats 400000 in
theorem decode_out (A : Option Addr) (c : Nat) (bs : List UInt8) (i : Int) (w : World) (hl : bs.length ≤ 9223372036854775807) (h : i < 0 ∨ bs.length ≤ i) :
    Calls Tryd.prog 19 #[.slice A bs.length c, .int .i64 i] w fun e w' => e = .returned (.tuple #[.int .i32 0, .int .i64 0, .bool false]) ∧ w = w' := by
  rcases h with h | h
  all_goals
    go_enter Tryd.func19, Tryd.ntmps19
    go_wp2
    all_goals (go_ret3; exact ⟨rfl, rfl⟩)


theorem wideN_le (c : Nat) : wideN c ≤ 4 := by unfold wideN; repeat' split
                                               all_goals omega
theorem wideR_lt (c : Nat) : wideR c < 128 := by unfold wideR; repeat' split
                                                 all_goals omega

set_option maxRecDepth 100000 in
set_option maxHeartbeats 1000000 in
theorem decode_in (A : Option Addr) (c : Nat) (bs : List UInt8) (i : Nat) (w : World) (hl : bs.length ≤ 9223372036854775807) (hcap : bs.length ≤ c) (h : i < bs.length) (hc : Cells w A (bcells bs)) :
    Calls Tryd.prog 19 #[.slice A bs.length c, .int .i64 (i : Int)] w fun e w' =>
      e = .returned (.tuple #[.int .i32 ((dec (bs.drop i)).1 : Int), .int .i64 ((dec (bs.drop i)).2.1 : Int), .bool (dec (bs.drop i)).2.2]) ∧ w = w' := by
  obtain ⟨a, rfl, hcell⟩ := bytes_at hc i h
  have hb := gb_lt bs i
  have hdrop : bs.drop i = bs[i] :: bs.drop (i + 1) := List.drop_eq_getElem_cons h
  have hgb : gb bs i = bs[i].toNat := by simp [gb, List.getD, h]
  obtain ⟨n, hn⟩ : ∃ n, n = wideN (gb bs i) := ⟨_, rfl⟩
  obtain ⟨R0, hR0⟩ : ∃ R0, R0 = wideR (gb bs i) := ⟨_, rfl⟩
  have hn4 : n ≤ 4 := hn ▸ wideN_le _
  have hR : R0 < 128 := hR0 ▸ wideR_lt _
  have hw : ∀ W, Calls Tryd.prog 64 #[.int .u8 (gb bs i : Int)] W fun e w' => e = .returned (.tuple #[.int .i64 (n : Int), .int .i32 (R0 : Int)]) ∧ W = w' := by
    intro W; rw [hn, hR0]; exact wide_calls _ _ hb
  have hdec : dec (bs.drop i) = if n = 0 ∨ bs.length - i < n then (65533, 1, false) else
      match conts R0 ((bs.drop (i + 1)).take (n - 1)) with
      | none => (65533, 1, false)
      | some r => if fitsB r n then (r, n, true) else (65533, 1, false) := by
    rw [hdrop, dec, ← hgb, ← hn, ← hR0, List.length_drop, show bs.length - (i + 1) + 1 = bs.length - i by omega]
  have HW := Lib.hid hw
  have HD := Lib.hid hdec
  clear hn hR0 hgb hdrop hw hdec hb
  by_cases hz : n = 0 ∨ bs.length - i < n
  · have hd2 : dec (bs.drop i) = (65533, 1, false) := by rw [HD.out, if_pos hz]
    have HD2 := Lib.hid hd2
    clear HD hd2
    rcases hz with rfl | hz
    all_goals
      go_enter Tryd.func19, Tryd.ntmps19
      go_wp2_with (first | (go_at_call 64; refine (HW.out _).mono ?_; rintro e w' ⟨rfl, rfl⟩))
      go_ret3; refine ⟨?_, rfl⟩; rw [HD2.out]; rfl
  · obtain ⟨hz1, hz2⟩ : n ≠ 0 ∧ n ≤ bs.length - i := by omega
    obtain ⟨m, hm1, hm2⟩ : ∃ m, n ≤ m + 1 ∧ m + 1 ≤ n := ⟨n - 1, by omega, by omega⟩
    obtain ⟨A', hcut, hA'⟩ := cut_lh (P := Tryd.prog) 22 5 1 Tryd.underlying22 size5 (some a) bs.length c ((i : Int) + 1) ((i : Int) + n) m (by omega) (by omega) (by omega)
    obtain ⟨L, hL⟩ : ∃ L, L = (bs.drop (i + 1)).take m := ⟨_, rfl⟩
    have hlen : L.length = m := by rw [hL, List.length_take, List.length_drop]; omega
    have hcL : Cells w A' (bcells L) := by
      have h1 := (hA' w (bcells bs) (by simp; omega) hc).take_ m
      have h2 : (List.take m (List.drop (((i : Int) + 1).toNat * 1) (bcells bs))) = bcells L := by
        rw [hL, show (((i : Int) + 1).toNat * 1) = i + 1 by omega]; simp [bcells, List.map_take, List.map_drop]
      rwa [h2] at h1
    have hd2 : dec (bs.drop i) = match conts R0 L with
      | none => (65533, 1, false)
      | some r => if fitsB r n then (r, n, true) else (65533, 1, false) := by rw [HD.out, if_neg hz, show n - 1 = m by omega, ← hL]
    have HD2 := Lib.hid hd2
    have hgt : n ≤ bs.length := by omega
    have hz0 : ((n : Int) == 0) = false := by simp; omega
    have HLn := Lib.hid hlen
    clear HD hd2 hL hA' hz hlen
    go_enter Tryd.func19, Tryd.ntmps19
    go_wp2_with (first | (go_at_call 64; refine (HW.out _).mono ?_; rintro e w' ⟨rfl, rfl⟩))
    clear HW hcut
    go_loop [8, 45] (fun r k => ∃ R K : Nat, r = .int .i32 R ∧ k = .int .i64 K ∧ K ≤ m ∧ R < 128 * 64 ^ K ∧ Hid (conts R (L.drop K) = conts R0 L)) (fun _ k => m - (intOf k).toNat)
    case atStart => exact ⟨R0, 0, rfl, rfl, Nat.zero_le _, by simpa using hR, rfl⟩
    case round =>
      obtain ⟨R, K, rfl, rfl, hK, hRK, HC⟩ := hrel
      have hlen := HLn.out
      by_cases hlt : K < m
      · have hK3 : K = 0 ∨ K = 1 ∨ K = 2 := by omega
        have hRK' : R ≤ 524288 := by rcases hK3 with rfl | rfl | rfl <;> simp at hRK <;> omega
        obtain ⟨a', rfl, hcell'⟩ := bytes_at hcL K (by omega)
        have hg := gb_lt L K
        have hdr : L.drop K = L[K] :: L.drop (K + 1) := List.drop_eq_getElem_cons (by omega)
        have hgb : gb L K = L[K].toNat := by simp [gb, List.getD, hlen, hlt]
        have hst : conts R (L.drop K) = if gb L K / 64 = 2 then conts (R * 64 + gb L K % 64) (L.drop (K + 1)) else none := by rw [hdr, conts, hgb]
        have HS := Lib.hid hst
        clear hlen hdr hgb hst hK3
        have HRK := Lib.hid hRK
        clear hRK
        go_wp2
        · have hne : ((gb L K : Int) / 64 != 2) = true := by assumption
          have hbad : dec (bs.drop i) = (65533, 1, false) := by
            rw [HD2.out, ← HC.out, HS.out, if_neg (by simp at hne; omega)]
          go_ret3; refine ⟨?_, rfl⟩; rw [hbad]; rfl
        · have hne : ((gb L K : Int) / 64 != 2) = false := by assumption
          refine ⟨⟨R * 64 + gb L K % 64, K + 1, int_eq (by omega), int_eq (by omega), by omega, ?_, ?_⟩, by simp [intOf]; omega⟩
          · have := HRK.out; rw [Nat.pow_succ]; omega
          · show conts _ _ = _
            rw [← HC.out, HS.out, if_pos (by simp at hne; omega)]
      · have hKm : K = m := by omega
        have hR31 : R < 2147483648 := by
          have hK3 : K = 0 ∨ K = 1 ∨ K = 2 ∨ K = 3 := by omega
          rcases hK3 with rfl | rfl | rfl | rfl <;> simp at hRK <;> omega
        have hst : conts R0 L = some R := by rw [← HC.out, hKm, List.drop_of_length_le (by omega)]; rfl
        have hd : dec (bs.drop i) = if fitsB R n then (R, n, true) else (65533, 1, false) := by rw [HD2.out, hst]
        have HD3 := Lib.hid hd
        clear hlen hst hd HD2 hKm
        go_wp2_with (first | (go_at_call 65; refine (fits_calls _ _ _ hR31 (by omega)).mono ?_; rintro e w' ⟨rfl, rfl⟩))
        · have hf : (!fitsB R n) = true := by assumption
          go_ret3; refine ⟨?_, rfl⟩; rw [HD3.out, if_neg (by simpa using hf)]; rfl
        · have hf : (!fitsB R n) = false := by assumption
          have hf' : fitsB R n = true := by simpa using hf
          go_ret3; refine ⟨?_, rfl⟩; rw [HD3.out, if_pos hf']; rfl

/-- text.Decode, at every place. -/
theorem decode_calls (A : Option Addr) (c : Nat) (bs : List UInt8) (i : Int) (w : World) (hl : bs.length ≤ 9223372036854775807) (hcap : bs.length ≤ c) (hc : Cells w A (bcells bs)) :
    Calls Tryd.prog 19 #[.slice A bs.length c, .int .i64 i] w fun e w' =>
      e = .returned (.tuple #[.int .i32 ((decAt bs i).1 : Int), .int .i64 ((decAt bs i).2.1 : Int), .bool (decAt bs i).2.2]) ∧ w = w' := by
  by_cases h : i < 0 ∨ bs.length ≤ i
  · refine (decode_out A c bs i w hl h).mono ?_
    rintro e w' ⟨rfl, rfl⟩
    refine ⟨?_, rfl⟩
    have : decAt bs i = (0, 0, false) := by
      unfold decAt
      split
      · rfl
      · rw [List.drop_of_length_le (by omega)]; rfl
    rw [this]; rfl
  · obtain ⟨n, rfl⟩ := Int.eq_ofNat_of_zero_le (show 0 ≤ i by omega)
    have : decAt bs n = dec (bs.drop n) := by unfold decAt; rw [if_neg (by omega)]; rfl
    rw [this]
    exact decode_in A c bs n w hl hcap (by omega) hc
end Go.Proofs.YtnepdjgbfhakmaaDoor
