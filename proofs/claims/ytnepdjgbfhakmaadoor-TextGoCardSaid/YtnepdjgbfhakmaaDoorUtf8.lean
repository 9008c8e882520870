/- Go's own range over a string goes by the same places and runes as text.Runes. -/
import Derived.Test.YtnepdjgbfhakmaaDoorText2
namespace Go.Proofs.YtnepdjgbfhakmaaDoor
set_option linter.unusedVariables false
set_option linter.unusedSimpArgs false
open Go.RowKit

/-- The model's decoding, told over the bytes from the place on. -/
def decodeL (l : List UInt8) : Nat × Nat :=
  let at' (k : Nat) : Nat := (l.getD k 0).toNat
  let cont (k : Nat) : Bool := decide (k < l.length) && at' k / 64 == 2
  let b0 := at' 0
  if b0 < 0x80 then (b0, 1)
  else if b0 / 32 == 6 && cont 1 then
    let c := (b0 % 32) * 64 + at' 1 % 64
    if c ≥ 0x80 then (c, 2) else (65533, 1)
  else if b0 / 16 == 14 && cont 1 && cont 2 then
    let c := (b0 % 16) * 4096 + (at' 1 % 64) * 64 + at' 2 % 64
    if c ≥ 0x800 && Utf8.valid c then (c, 3) else (65533, 1)
  else if b0 / 8 == 30 && cont 1 && cont 2 && cont 3 then
    let c := (b0 % 8) * 262144 + (at' 1 % 64) * 4096 + (at' 2 % 64) * 64 + at' 3 % 64
    if c ≥ 0x10000 && Utf8.valid c then (c, 4) else (65533, 1)
  else (65533, 1)

theorem get_drop (bs : List UInt8) (i k : Nat) : (⟨bs.toArray⟩ : ByteArray).get! (i + k) = (bs.drop i).getD k 0 := by
  show bs.toArray[i + k]! = _
  by_cases h : i + k < bs.length
  · simp [List.getD, h]
  · simp [List.getD, List.getElem?_eq_none (show (bs.drop i).length ≤ k by simp; omega), h]
    rfl
theorem decode_decodeL (bs : List UInt8) (i : Nat) : Utf8.decode ⟨bs.toArray⟩ i = decodeL (bs.drop i) := by
  have hs : (⟨bs.toArray⟩ : ByteArray).size = bs.length := by show bs.toArray.size = _; simp
  have hc : ∀ k, decide (i + k < bs.length) = decide (k < (bs.drop i).length) := fun k => by
    rw [Bool.eq_iff_iff]; simp; omega
  unfold Utf8.decode decodeL
  simp only [get_drop, hs, hc]
  rfl

theorem decodeL_dec (b : UInt8) (t : List UInt8) : decodeL (b :: t) = ((dec (b :: t)).1, (dec (b :: t)).2.1) := by
  have hb := b.toNat_lt
  rcases (show b.toNat < 128 ∨ b.toNat / 32 = 6 ∨ b.toNat / 16 = 14 ∨ b.toNat / 8 = 30 ∨ (¬ b.toNat < 128 ∧ ¬ b.toNat / 32 = 6 ∧ ¬ b.toNat / 16 = 14 ∧ ¬ b.toNat / 8 = 30) by omega) with hk | hk | hk | hk | hk
  · have e1 : wideN b.toNat = 1 := by simp [wideN, hk]
    have e2 : wideR b.toNat = b.toNat := by simp [wideR, hk]
    simp [decodeL, dec, e1, e2, hk, conts, fitsB]
  · have n1 : ¬ b.toNat < 128 := by omega
    have n2 : ¬ b.toNat / 16 = 14 := by omega
    have n3 : ¬ b.toNat / 8 = 30 := by omega
    have e1 : wideN b.toNat = 2 := by unfold wideN; rw [if_neg n1, if_pos hk]
    have e2 : wideR b.toNat = b.toNat % 32 := by unfold wideR; rw [if_neg n1, if_pos hk]
    cases t with
    | nil => simp [decodeL, dec, e1, e2, hk, n1, n2, n3]
    | cons c1 t =>
      have hln : ¬ t.length + 1 + 1 < 2 := by omega
      by_cases h1 : c1.toNat / 64 = 2
      · by_cases h2 : 128 ≤ b.toNat % 32 * 64 + c1.toNat % 64
        · simp [decodeL, dec, e1, e2, hk, n1, n2, n3, h1, h2, conts, fitsB, hln]
        · simp [decodeL, dec, e1, e2, hk, n1, n2, n3, h1, h2, conts, fitsB, hln]
      · simp [decodeL, dec, e1, e2, hk, n1, n2, n3, h1, conts, fitsB]
  · have n1 : ¬ b.toNat < 128 := by omega
    have n2 : ¬ b.toNat / 32 = 6 := by omega
    have n3 : ¬ b.toNat / 8 = 30 := by omega
    have e1 : wideN b.toNat = 3 := by unfold wideN; rw [if_neg n1, if_neg n2, if_pos hk]
    have e2 : wideR b.toNat = b.toNat % 16 := by unfold wideR; rw [if_neg n1, if_neg n2, if_pos hk]
    match t with
    | [] => simp [decodeL, dec, e1, e2, hk, n1, n2, n3]
    | [c1] => simp [decodeL, dec, e1, e2, hk, n1, n2, n3]
    | c1 :: c2 :: t =>
      by_cases h1 : c1.toNat / 64 = 2
      · by_cases h2 : c2.toNat / 64 = 2
        · have hv : (b.toNat % 16 * 64 + c1.toNat % 64) * 64 + c2.toNat % 64 = b.toNat % 16 * 4096 + c1.toNat % 64 * 64 + c2.toNat % 64 := by omega
          have hle : b.toNat % 16 * 4096 + c1.toNat % 64 * 64 + c2.toNat % 64 < 65536 := by omega
          have hln : ¬ t.length + 1 + 1 + 1 < 3 := by omega
          have hzc : ((b.toNat : Int) % 16 * 4096 + (c1.toNat : Int) % 64 * 64 + (c2.toNat : Int) % 64) = ((b.toNat % 16 * 4096 + c1.toNat % 64 * 64 + c2.toNat % 64 : Nat) : Int) := by omega
          simp [decodeL, dec, e1, e2, hk, n1, n2, n3, h1, h2, conts, hv, hln]
          rw [hzc]
          generalize b.toNat % 16 * 4096 + c1.toNat % 64 * 64 + c2.toNat % 64 = z at *
          by_cases hf : fitsB z 3 = true
          · have := hf
            simp [fitsB] at this
            have hz : 2048 ≤ z ∧ Utf8.valid z = true := by
              refine ⟨this.1, ?_⟩
              simp [Utf8.valid]; omega
            simp [hf, hz.1, hz.2]
          · have := hf
            simp [fitsB] at this
            have hz : ¬ (2048 ≤ z ∧ Utf8.valid z = true) := by
              rintro ⟨a1, a2⟩
              simp [Utf8.valid] at a2
              omega
            simp [hf, hz]
        · simp [decodeL, dec, e1, e2, hk, n1, n2, n3, h1, h2, conts, fitsB]
      · simp [decodeL, dec, e1, e2, hk, n1, n2, n3, h1, conts, fitsB]
  · have n1 : ¬ b.toNat < 128 := by omega
    have n2 : ¬ b.toNat / 32 = 6 := by omega
    have n3 : ¬ b.toNat / 16 = 14 := by omega
    have e1 : wideN b.toNat = 4 := by unfold wideN; rw [if_neg n1, if_neg n2, if_neg n3, if_pos hk]
    have e2 : wideR b.toNat = b.toNat % 8 := by unfold wideR; rw [if_neg n1, if_neg n2, if_neg n3, if_pos hk]
    match t with
    | [] => simp [decodeL, dec, e1, e2, hk, n1, n2, n3]
    | [c1] => simp [decodeL, dec, e1, e2, hk, n1, n2, n3]
    | [c1, c2] => simp [decodeL, dec, e1, e2, hk, n1, n2, n3]
    | c1 :: c2 :: c3 :: t =>
      by_cases h1 : c1.toNat / 64 = 2
      · by_cases h2 : c2.toNat / 64 = 2
        · by_cases h3 : c3.toNat / 64 = 2
          · have hv : ((b.toNat % 8 * 64 + c1.toNat % 64) * 64 + c2.toNat % 64) * 64 + c3.toNat % 64 = b.toNat % 8 * 262144 + c1.toNat % 64 * 4096 + c2.toNat % 64 * 64 + c3.toNat % 64 := by omega
            have hln : ¬ t.length + 1 + 1 + 1 + 1 < 4 := by omega
            have hzc : ((b.toNat : Int) % 8 * 262144 + (c1.toNat : Int) % 64 * 4096 + (c2.toNat : Int) % 64 * 64 + (c3.toNat : Int) % 64) = ((b.toNat % 8 * 262144 + c1.toNat % 64 * 4096 + c2.toNat % 64 * 64 + c3.toNat % 64 : Nat) : Int) := by omega
            simp [decodeL, dec, e1, e2, hk, n1, n2, n3, h1, h2, h3, conts, hv, hln]
            rw [hzc]
            generalize b.toNat % 8 * 262144 + c1.toNat % 64 * 4096 + c2.toNat % 64 * 64 + c3.toNat % 64 = z at *
            by_cases hf : fitsB z 4 = true
            · have := hf
              simp [fitsB] at this
              have hz : 65536 ≤ z ∧ Utf8.valid z = true := by
                refine ⟨this.1, ?_⟩
                simp [Utf8.valid]; omega
              simp [hf, hz.1, hz.2]
            · have := hf
              simp [fitsB] at this
              have hz : ¬ (65536 ≤ z ∧ Utf8.valid z = true) := by
                rintro ⟨a1, a2⟩
                simp [Utf8.valid] at a2
                omega
              simp [hf, hz]
          · simp [decodeL, dec, e1, e2, hk, n1, n2, n3, h1, h2, h3, conts, fitsB]
        · simp [decodeL, dec, e1, e2, hk, n1, n2, n3, h1, h2, conts, fitsB]
      · simp [decodeL, dec, e1, e2, hk, n1, n2, n3, h1, conts, fitsB]
  · have e1 : wideN b.toNat = 0 := by unfold wideN; rw [if_neg hk.1, if_neg hk.2.1, if_neg hk.2.2.1, if_neg hk.2.2.2]
    simp [decodeL, dec, e1, hk]

/-- Go's own decoding at a place. -/
theorem utf8_dec (bs : List UInt8) (i : Nat) (h : i < bs.length) : Utf8.decode ⟨bs.toArray⟩ i = ((dec (bs.drop i)).1, (dec (bs.drop i)).2.1) := by
  rw [decode_decodeL]
  cases hd : bs.drop i with
  | nil =>
    have := congrArg List.length hd
    simp at this; omega
  | cons b t => exact decodeL_dec b t
end Go.Proofs.YtnepdjgbfhakmaaDoor
