/- A rune's bytes are the bytes it was read from; text.Decode against Go's own decoding. -/
import Derived.Test.YtnepdjgbfhakmaaDoorBuilder
import Derived.Test.YtnepdjgbfhakmaaDoorText2
namespace Go.Proofs.YtnepdjgbfhakmaaDoor
set_option linter.unusedVariables false
set_option linter.unusedSimpArgs false
open Go.RowKit

theorem dec_good {bs : List UInt8} (h : (dec bs).2.2 = true) : ∃ b t, bs = b :: t ∧ wideN b.toNat ≠ 0 ∧ wideN b.toNat ≤ t.length + 1 ∧ (dec bs).2.1 = wideN b.toNat ∧
    conts (wideR b.toNat) (t.take (wideN b.toNat - 1)) = some (dec bs).1 ∧ fitsB (dec bs).1 (wideN b.toNat) = true := by
  cases bs with
  | nil => simp [dec] at h
  | cons b t =>
    refine ⟨b, t, rfl, ?_⟩
    by_cases h1 : wideN b.toNat = 0 ∨ t.length + 1 < wideN b.toNat
    · simp [dec, h1] at h
    · cases h2 : conts (wideR b.toNat) (t.take (wideN b.toNat - 1)) with
      | none => simp [dec, h1, h2] at h
      | some r =>
        by_cases h3 : fitsB r (wideN b.toNat) = true
        · simp [dec, h1, h2, h3]; omega
        · simp [dec, h1, h2, h3] at h
theorem dec_bad {bs : List UInt8} (hne : bs ≠ []) (h : (dec bs).2.2 = false) : dec bs = (65533, 1, false) := by
  cases bs with
  | nil => exact absurd rfl hne
  | cons b t =>
    by_cases h1 : wideN b.toNat = 0 ∨ t.length + 1 < wideN b.toNat
    · simp [dec, h1]
    · cases h2 : conts (wideR b.toNat) (t.take (wideN b.toNat - 1)) with
      | none => simp [dec, h1, h2]
      | some r =>
        by_cases h3 : fitsB r (wideN b.toNat) = true
        · simp [dec, h1, h2, h3] at h
        · simp [dec, h1, h2, h3]

theorem u8_eq {a : UInt8} {z : Int} (h : z = a.toNat) : z.toNat.toUInt8 = a := by
  subst h; simp

theorem runeB_dec {bs : List UInt8} (h : (dec bs).2.2 = true) : runeB (dec bs).1 = bs.take (dec bs).2.1 := by
  obtain ⟨b, t, hb, hn0, hnl, hn, hc, hf⟩ := dec_good h
  rw [hn]
  generalize (dec bs).1 = r at hc hf
  subst hb
  have hbl := b.toNat_lt
  rw [← runeB_eq]
  unfold Lib.encodeRune
  rcases (show b.toNat < 128 ∨ b.toNat / 32 = 6 ∨ b.toNat / 16 = 14 ∨ b.toNat / 8 = 30 by
    unfold wideN at hn0; split at hn0; · omega
    split at hn0; · omega
    split at hn0; · omega
    split at hn0; · omega
    exact absurd rfl hn0) with hk | hk | hk | hk
  · have e1 : wideN b.toNat = 1 := by simp [wideN, hk]
    have e2 : wideR b.toNat = b.toNat := by simp [wideR, hk]
    rw [e1, e2] at hc
    simp [conts] at hc
    subst hc
    rw [e1, Lib.encodeRuneZ_one (by omega) (by omega)]
    simp
  · have e1 : wideN b.toNat = 2 := by simp [wideN, hk]; omega
    have e2 : wideR b.toNat = b.toNat % 32 := by simp [wideR, hk]; omega
    rw [e1, e2] at hc
    rw [e1] at hf hnl
    cases t with
    | nil => simp at hnl
    | cons c1 t =>
      have h1 := c1.toNat_lt
      simp [conts] at hc
      obtain ⟨k1, rfl⟩ := hc
      simp [fitsB] at hf
      rw [e1, Lib.encodeRuneZ_two (by omega) (by omega)]
      simp only [List.map_cons, List.map_nil, List.take_succ_cons, List.take_zero]
      rw [u8_eq (a := b) (by omega), u8_eq (a := c1) (by omega)]
  · have e1 : wideN b.toNat = 3 := by unfold wideN; rw [if_neg (by omega), if_neg (by omega), if_pos hk]
    have e2 : wideR b.toNat = b.toNat % 16 := by unfold wideR; rw [if_neg (by omega), if_neg (by omega), if_pos hk]
    rw [e1, e2] at hc
    rw [e1] at hf hnl
    match t, hnl, hc with
    | c1 :: c2 :: t, _, hc =>
      have h1 := c1.toNat_lt
      have h2 := c2.toNat_lt
      simp [conts] at hc
      obtain ⟨k1, k2, rfl⟩ := hc
      simp [fitsB] at hf
      rw [e1, Lib.encodeRuneZ_three (by omega)]
      simp only [List.map_cons, List.map_nil, List.take_succ_cons, List.take_zero]
      rw [u8_eq (a := b) (by omega), u8_eq (a := c1) (by omega), u8_eq (a := c2) (by omega)]
  · have e1 : wideN b.toNat = 4 := by unfold wideN; rw [if_neg (by omega), if_neg (by omega), if_neg (by omega), if_pos hk]
    have e2 : wideR b.toNat = b.toNat % 8 := by unfold wideR; rw [if_neg (by omega), if_neg (by omega), if_neg (by omega), if_pos hk]
    rw [e1, e2] at hc
    rw [e1] at hf hnl
    match t, hnl, hc with
    | c1 :: c2 :: c3 :: t, _, hc =>
      have h1 := c1.toNat_lt
      have h2 := c2.toNat_lt
      have h3 := c3.toNat_lt
      simp [conts] at hc
      obtain ⟨k1, k2, k3, rfl⟩ := hc
      simp [fitsB] at hf
      rw [e1, Lib.encodeRuneZ_four (by omega) (by omega)]
      simp only [List.map_cons, List.map_nil, List.take_succ_cons, List.take_zero]
      rw [u8_eq (a := b) (by omega), u8_eq (a := c1) (by omega), u8_eq (a := c2) (by omega), u8_eq (a := c3) (by omega)]
end Go.Proofs.YtnepdjgbfhakmaaDoor
