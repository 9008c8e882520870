/- Trees: fits: what it says; the beginning. -/
import Derived.Test.YtnepdjgbfhakmaaDoorTreeD
namespace Go.Proofs.YtnepdjgbfhakmaaDoor
set_option linter.unusedVariables false
set_option linter.unusedSimpArgs false
open Go.RowKit Go.Shelf
attribute [local go_sem] Oper.semAt_some

theorem range_all {n : Nat} {f : Nat → Bool} (h : ∀ j, j < n → f j = true) : (List.range n).all f = true := by
  rw [List.all_eq_true]
  exact fun j hj => h j (List.mem_range.1 hj)
theorem range_no {n : Nat} {f : Nat → Bool} {j : Nat} (hj : j < n) (h : f j = false) : (List.range n).all f = false := by
  rw [List.all_eq_false]
  exact ⟨j, List.mem_range.2 hj, by rw [h]; decide⟩
theorem upto_succ {k : Nat} {f : Nat → Bool} (h : ∀ j, j < k → f j = true) (hk : f k = true) : ∀ j, j < k + 1 → f j = true := fun j hj => by
  rcases Nat.lt_succ_iff_lt_or_eq.1 hj with h1 | rfl
  · exact h j h1
  · exact hk

def kidN (x : Nd) (j : Nat) : Nat := (x.kids.getD j 0).toNat
def kidInB (T : List Nd) (x : Nd) (j : Nat) : Bool := withinB T.length (x.kids.getD j 0)
def tmplB (T : List Nd) (x : Nd) (j : Nat) : Bool := if j % 2 = 0 then ndK T (kidN x j) == 11 else isExprB (ndK T (kidN x j))
def typeKidB (T : List Nd) (x : Nd) (j : Nat) : Bool := isTypeB (ndK T (kidN x j))
def placeB (T : List Nd) (x : Nd) (ps : List PP) (j : Nat) : Bool := (ps.getD (min j (ps.length - 1)) pAny) T (kidN x j)
def tryB (T : List Nd) (x : Nd) : Bool := x.kind != 61 || ndK T (kidN x 1) != 1 || ndK T (kidN x 2) != 1
def placedB (T : List Nd) (x : Nd) (many : Bool) (ps : List PP) : Bool := (many || ps.length == x.kids.length) && (List.range x.kids.length).all (placeB T x ps) && tryB T x
/-- Does a node not offend, but for where its kids stand? -/
def fitsNd (T : List Nd) (x : Nd) : Bool :=
  saidB x.kind x.text.data.toList x.num && (List.range x.kids.length).all (kidInB T x) &&
    if x.kind = 12 then (List.range x.kids.length).all (tmplB T x) && x.kids.length % 2 == 1
    else if x.kind = 87 then decide (1 < x.kids.length) && (List.range x.kids.length).all (typeKidB T x)
    else if x.kind ∈ placedK then placedB T x (placesP x.kind).1 (placesP x.kind).2 else false
def fitsT (T : List Nd) (i : Nat) : Bool := fitsNd T (T.getD i default)
end Go.Proofs.YtnepdjgbfhakmaaDoor
