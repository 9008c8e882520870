/- Lines: where each begins and ends. -/
import Derived.Test.YtnepdjgbfhakmaaDoorBase
import Derived.Test.YtnepdjgbfhakmaaDoorShelf
namespace Go.Proofs.YtnepdjgbfhakmaaDoor
set_option linter.unusedVariables false
set_option linter.unusedSimpArgs false
open Go.RowKit

/-- The lines of l, which stands at byte i; the first began at f. -/
def linesF : List UInt8 → Nat → Nat → List (Nat × Nat)
  | [], i, f => [(f, i)]
  | c :: t, i, f => if c.toNat = 10 then (f, i) :: linesF t (i + 1) (i + 1) else linesF t (i + 1) f
def lines (bs : List UInt8) : List (Nat × Nat) := linesF bs 0 0

theorem linesF_none : ∀ (l : List UInt8) (i f : Nat), (∀ c ∈ l, c.toNat ≠ 10) → linesF l i f = [(f, i + l.length)]
  | [], i, f, _ => by simp [linesF]
  | c :: t, i, f, h => by
    have h1 := h c (by simp)
    rw [linesF, if_neg h1, linesF_none t (i + 1) f (fun x hx => h x (by simp [hx]))]
    simp; omega
theorem linesF_some : ∀ (l : List UInt8) (i f k : Nat), (∀ c ∈ l.take k, c.toNat ≠ 10) → k < l.length → (l.getD k 0).toNat = 10 → linesF l i f = (f, i + k) :: linesF (l.drop (k + 1)) (i + k + 1) (i + k + 1)
  | [], i, f, k, _, h, _ => by simp at h
  | c :: t, i, f, 0, _, _, h => by
    rw [linesF, if_pos (by simpa using h)]; simp
  | c :: t, i, f, k + 1, h, hk, h2 => by
    have h1 := h c (by simp)
    rw [linesF, if_neg h1, linesF_some t (i + 1) f k (fun x hx => h x (by simp [hx])) (by simpa using hk) (by simpa using h2)]
    simp [show i + 1 + k = i + (k + 1) by omega]
end Go.Proofs.YtnepdjgbfhakmaaDoor
