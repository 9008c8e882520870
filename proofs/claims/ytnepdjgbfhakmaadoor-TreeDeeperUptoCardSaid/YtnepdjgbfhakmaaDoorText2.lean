/- text.Runes: the iterator, and its contract. -/
import Derived.Test.YtnepdjgbfhakmaaDoorText1
import Derived.Test.YtnepdjgbfhakmaaDoorIter
namespace Go.Proofs.YtnepdjgbfhakmaaDoor
set_option linter.unusedVariables false
set_option linter.unusedSimpArgs false
open Go.RowKit Go.Shelf
attribute [local go_sem] Oper.semAt_some

/-- How many bytes a rune takes is told by its first four. -/
theorem dec_take (bs : List UInt8) : dec (bs.take 4) = dec bs := by
  cases bs with
  | nil => rfl
  | cons b t =>
    have h4 := wideN_le b.toNat
    simp only [List.take_succ_cons, dec, List.length_take]
    by_cases h : wideN b.toNat = 0 ∨ t.length + 1 < wideN b.toNat
    · rw [if_pos h, if_pos (by omega)]
    · rw [if_neg h, if_neg (by omega), List.take_take, Nat.min_eq_left (by omega)]

theorem dec_size (b : UInt8) (t : List UInt8) : 1 ≤ (dec (b :: t)).2.1 ∧ (dec (b :: t)).2.1 ≤ t.length + 1 ∧ (dec (b :: t)).2.1 ≤ 4 := by
  have h4 := wideN_le b.toNat
  simp only [dec]
  split
  · simp
  · split
    · simp
    · split
      · simp only; omega
      · simp

theorem dec_size' (bs : List UInt8) (h : bs ≠ []) : 1 ≤ (dec bs).2.1 ∧ (dec bs).2.1 ≤ bs.length ∧ (dec bs).2.1 ≤ 4 := by
  cases bs with
  | nil => exact absurd rfl h
  | cons b t => exact dec_size b t
theorem decAt_zero (bs : List UInt8) : decAt bs 0 = dec bs := by simp [decAt]

theorem fitsB_lt {r n : Nat} (h : fitsB r n = true) (h1 : n = 1 → r < 128) (h2 : n = 2 → r < 2048) (h3 : n = 3 → r < 65536) : r ≤ 1114111 := by
  unfold fitsB at h
  split at h
  · have := h1 ‹_›; omega
  · split at h
    · have := h2 ‹_›; omega
    · split at h
      · have := h3 ‹_›; omega
      · simp at h; omega

theorem conts_bound : ∀ (l : List UInt8) (r r' : Nat), conts r l = some r' → r' < (r + 1) * 64 ^ l.length
  | [], r, r', h => by simp [conts] at h; subst h; simp
  | c :: t, r, r', h => by
    simp only [conts] at h
    split at h
    · have := conts_bound t _ _ h
      have h2 : c.toNat % 64 < 64 := Nat.mod_lt _ (by decide)
      calc r' < (r * 64 + c.toNat % 64 + 1) * 64 ^ t.length := this
        _ ≤ ((r + 1) * 64) * 64 ^ t.length := Nat.mul_le_mul_right _ (by omega)
        _ = (r + 1) * 64 ^ (c :: t).length := by rw [List.length_cons, Nat.pow_succ, Nat.mul_assoc, Nat.mul_comm 64]
    · cases h

/-- A decoded rune is one of Unicode's. -/
theorem dec_rune (bs : List UInt8) : (dec bs).1 ≤ 1114111 := by
  cases bs with
  | nil => simp [dec]
  | cons b t =>
    have hb := b.toNat_lt
    simp only [dec]
    split
    · simp
    · rename_i hn
      split
      · simp
      · rename_i r hr
        split
        · rename_i hf
          have hcb := conts_bound _ _ _ hr
          have hlen : (t.take (wideN b.toNat - 1)).length = wideN b.toNat - 1 := by rw [List.length_take]; omega
          rw [hlen] at hcb
          refine fitsB_lt hf (fun h => ?_) (fun h => ?_) (fun h => ?_)
          · rw [h] at hcb; simp at hcb; unfold wideN at h; unfold wideR at hcb; repeat' split at h
            all_goals first | omega | (simp_all; omega)
          · rw [h] at hcb; simp at hcb; unfold wideN at h; unfold wideR at hcb; repeat' split at h
            all_goals first | omega | (simp_all; omega)
          · rw [h] at hcb; simp at hcb; unfold wideN at h; unfold wideR at hcb; repeat' split at h
            all_goals first | omega | (simp_all; omega)
        · simp

/-- The runes of bytes, each with its place; k: no fewer than there are bytes. -/
def runesF : Nat → Nat → List UInt8 → List (Nat × Nat)
  | 0, _, _ => []
  | _ + 1, _, [] => []
  | k + 1, i, b :: t => (i, (dec (b :: t)).1) :: runesF k (i + (dec (b :: t)).2.1) ((b :: t).drop (dec (b :: t)).2.1)
def runes (bs : List UInt8) : List (Nat × Nat) := runesF bs.length 0 bs

theorem runesF_nil (k i : Nat) : runesF k i [] = [] := by cases k <;> rfl
theorem runesF_fuel : ∀ (k k' i : Nat) (bs : List UInt8), bs.length ≤ k → bs.length ≤ k' → runesF k i bs = runesF k' i bs
  | k, k', i, [], _, _ => by rw [runesF_nil, runesF_nil]
  | 0, _, _, _ :: _, h, _ => by simp at h
  | _ + 1, 0, _, _ :: _, _, h => by simp at h
  | k + 1, k' + 1, i, b :: t, h, h' => by
    have hd := dec_size b t
    simp only [runesF]
    rw [runesF_fuel k k' _ _ (by simp only [List.length_drop, List.length_cons] at *; omega) (by simp only [List.length_drop, List.length_cons] at *; omega)]
theorem runesF_cons (k i : Nat) (bs : List UInt8) (h : bs ≠ []) (hk : bs.length ≤ k) : runesF k i bs = (i, (dec bs).1) :: runesF k (i + (dec bs).2.1) (bs.drop (dec bs).2.1) := by
  cases bs with
  | nil => exact absurd rfl h
  | cons b t =>
    cases k with
    | zero => simp at hk
    | succ k =>
      have hd := dec_size b t
      simp only [runesF]
      rw [runesF_fuel k (k + 1) _ _ (by simp only [List.length_drop, List.length_cons] at *; omega) (by simp only [List.length_drop, List.length_cons] at *; omega)]
end Go.Proofs.YtnepdjgbfhakmaaDoor
