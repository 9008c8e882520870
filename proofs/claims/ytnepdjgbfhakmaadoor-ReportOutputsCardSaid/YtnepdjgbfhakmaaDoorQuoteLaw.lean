/- What text.Quote writes: no bare quote, no line's end. -/
import Derived.Test.YtnepdjgbfhakmaaDoorQuote
namespace Go.Proofs.YtnepdjgbfhakmaaDoor
set_option linter.unusedVariables false
set_option linter.unusedSimpArgs false
open Go.RowKit

/-- A byte behind another. -/
def okB (p c : UInt8) : Bool := decide (32 ≤ c.toNat) && decide (c.toNat ≠ 127) && (decide (c.toNat ≠ 34) || decide (p.toNat = 92))
def chainB : UInt8 → List UInt8 → Bool
  | _, [] => true
  | p, c :: t => okB p c && chainB c t
/-- Good behind whatever stands ahead. -/
def goodB (l : List UInt8) : Bool := chainB 0 l

theorem okB_any {p c : UInt8} (h : okB 0 c = true) : okB p c = true := by
  unfold okB at *
  simp at *
  omega
theorem chainB_any {p : UInt8} {l : List UInt8} (h : goodB l = true) : chainB p l = true := by
  cases l with
  | nil => rfl
  | cons c t =>
    simp only [goodB, chainB, Bool.and_eq_true] at *
    exact ⟨okB_any h.1, h.2⟩
theorem chainB_append : ∀ (p : UInt8) (a b : List UInt8), chainB p a = true → goodB b = true → chainB p (a ++ b) = true
  | _, [], b, _, h => chainB_any h
  | p, c :: t, b, h1, h2 => by
    simp only [List.cons_append, chainB, Bool.and_eq_true] at *
    exact ⟨h1.1, chainB_append c t b h1.2 h2⟩
theorem goodB_flat {α : Type} (f : α → List UInt8) : ∀ l : List α, (∀ x ∈ l, goodB (f x) = true) → goodB (l.flatMap f) = true
  | [], _ => rfl
  | x :: t, h => by
    rw [List.flatMap_cons]
    exact chainB_append _ _ _ (h x (by simp)) (goodB_flat f t (fun y hy => h y (by simp [hy])))
theorem chainB_ge : ∀ (p : UInt8) (l : List UInt8), (∀ c ∈ l, 128 ≤ c.toNat) → chainB p l = true
  | _, [], _ => rfl
  | p, c :: t, h => by
    have h1 := h c (by simp)
    simp only [chainB, Bool.and_eq_true]
    refine ⟨?_, chainB_ge c t (fun y hy => h y (by simp [hy]))⟩
    unfold okB; simp; omega
theorem goodB_small : ∀ r < 128, goodB (quoteR r) = true := by decide +kernel
theorem runeB_ge (r : Nat) (h : 128 ≤ r) : ∀ c ∈ runeB r, 128 ≤ c.toNat := by
  rw [← runeB_eq]
  intro c hc
  unfold Lib.encodeRune at hc
  rw [List.mem_map] at hc
  obtain ⟨z, hz, rfl⟩ := hc
  have hzb : 128 ≤ z ∧ z < 256 := by
    unfold Lib.encodeRuneZ at hz
    split at hz
    · omega
    split at hz
    · simp at hz; omega
    split at hz
    · simp at hz; omega
    split at hz
    · simp at hz; omega
    · simp at hz; omega
  have : z.toNat.toUInt8.toNat = z.toNat := by
    rw [Nat.toUInt8, UInt8.toNat_ofNat']; omega
  omega
theorem goodB_quoteR (r : Nat) : goodB (quoteR r) = true := by
  by_cases h : r < 128
  · exact goodB_small r h
  · have hq : quoteR r = runeB r := by
      unfold quoteR; rw [if_neg (by omega), if_neg (by omega), if_neg (by omega), if_neg (by omega), if_neg (by omega)]
    rw [hq]
    exact chainB_ge _ _ (runeB_ge r (by omega))

theorem chainB_at : ∀ (p : UInt8) (l : List UInt8) (i : Nat), chainB p l = true → i < l.length → okB ((p :: l).getD i 0) (l.getD i 0) = true
  | _, [], i, _, h => by simp at h
  | p, c :: t, 0, h, _ => by
    simp only [chainB, Bool.and_eq_true] at h
    simpa using h.1
  | p, c :: t, i + 1, h, hi => by
    simp only [chainB, Bool.and_eq_true] at h
    have := chainB_at c t i h.2 (by simpa using hi)
    simpa using this

def qBody (bs : List UInt8) : List UInt8 := (runes bs).flatMap fun x => quoteR x.2
theorem quoteL_body (bs : List UInt8) : quoteL bs = 34 :: (qBody bs ++ [34]) := by simp [quoteL, quoteP, qBody]
/-- Each byte between the two quotes, and the one ahead of it. -/
theorem quoteL_at (bs : List UInt8) (i : Nat) (h1 : 1 ≤ i) (h2 : i + 1 < (quoteL bs).length) : okB ((quoteL bs).getD (i - 1) 0) ((quoteL bs).getD i 0) = true := by
  rw [quoteL_body] at *
  obtain ⟨j, rfl⟩ : ∃ j, i = j + 1 := ⟨i - 1, by omega⟩
  simp only [List.length_cons, List.length_append, List.length_nil] at h2
  have hb : goodB (qBody bs) = true := goodB_flat _ _ (fun x _ => goodB_quoteR x.2)
  have h := chainB_at 34 (qBody bs) j (chainB_any hb) (by omega)
  simp only [Nat.add_sub_cancel]
  have e1 : (34 :: (qBody bs ++ [34])).getD (j + 1) 0 = (qBody bs).getD j 0 := by
    rw [List.getD_cons_succ]
    simp only [List.getD]
    rw [List.getElem?_append_left (by omega)]
  have e2 : (34 :: (qBody bs ++ [34])).getD j 0 = (34 :: qBody bs).getD j 0 := by
    have : (34 :: (qBody bs ++ [34])) = (34 :: qBody bs) ++ [34] := rfl
    rw [this]
    simp only [List.getD]
    rw [List.getElem?_append_left (by simp; omega)]
  rw [e1, e2]
  exact h
end Go.Proofs.YtnepdjgbfhakmaaDoor
