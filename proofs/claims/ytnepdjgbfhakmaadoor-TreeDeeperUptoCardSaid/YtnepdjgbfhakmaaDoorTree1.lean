/- Trees: nodes in memory; the small places. -/
import Derived.Test.YtnepdjgbfhakmaaDoorBase
import Derived.Test.YtnepdjgbfhakmaaDoorOwn
import Derived.Test.YtnepdjgbfhakmaaDoorIter
import Derived.RangeFuncBox
namespace Go.Proofs.YtnepdjgbfhakmaaDoor
set_option linter.unusedVariables false
set_option linter.unusedSimpArgs false
open Go.RowKit Go.Shelf
attribute [local go_sem] Oper.semAt_some

theorem cells_fresh (w : World) (cs : Array Value) (t : TypeId) (f : Nat × Nat) : Cells (w.alloc (.cells cs t f)) (some ⟨w.heap.size, 0, none⟩) cs.toList := fun i hi => by
  refine ⟨_, rfl, ?_⟩
  simp only [Array.length_toList] at hi
  have ha : (⟨w.heap.size, 0, none⟩ : Addr).add i = ⟨w.heap.size, i, none⟩ := by unfold Addr.add; split <;> simp_all
  rw [ha, World.cell?_alloc_mark]
  simp [hi]

/-- A node. -/
structure Nd where
  kind : Int
  text : ByteArray
  num : Int
  kids : List Int
  pos : Int
  deriving Inhabited

def icells (l : List Int) : List Value := l.map (.int .i64)
@[simp] theorem icells_length (l : List Int) : (icells l).length = l.length := by simp [icells]
def nodeC (x : Nd) (K : Option Addr) (c : Nat) : List Value := [.int .i64 x.kind, .string x.text, .int .i64 x.num, .slice K x.kids.length c, .int .i64 x.pos]

/-- A list of numbers in memory. -/
def Ints (w : World) (K : Option Addr) (c : Nat) (l : List Int) : Prop := Cells w K (icells l) ∧ l.length ≤ c ∧ (K = none → l.length = 0 ∧ c = 0)
theorem Ints.below {w w' : World} {K : Option Addr} {c : Nat} {l : List Int} (h : Ints w K c l) (hb : Below w.heap.size w w') : Ints w' K c l := ⟨h.1.below hb, h.2⟩
theorem ints_at {w : World} {K : Option Addr} {c : Nat} {l : List Int} (h : Ints w K c l) (i : Nat) (hi : i < l.length) : ∃ a, K = some a ∧ w.cell? (a.add i) = some (.int .i64 (l.getD i 0)) := by
  obtain ⟨a, rfl, hc⟩ := h.1 i (by simpa using hi)
  refine ⟨a, rfl, ?_⟩
  rw [hc]; simp [icells, List.getD, hi]

/-- Numbers are of their kind. -/
def Nd.ok (x : Nd) : Prop := (Lit.int .i64 x.kind).wf = true ∧ (Lit.int .i64 x.num).wf = true ∧ (∀ k ∈ x.kids, (Lit.int .i64 k).wf = true) ∧ (Lit.int .i64 x.pos).wf = true ∧ x.text.size ≤ 140737488351232 ∧ x.kids.length ≤ 140737488351232

/-- Node i of a row. -/
def NodeAt (w : World) (A : Option Addr) (i : Nat) (x : Nd) (K : Option Addr) (c : Nat) : Prop :=
  (∃ a, A = some a ∧ w.cell? (a.add (i * 5)) = some (.int .i64 x.kind) ∧ w.cell? ⟨(a.add (i * 5)).block, (a.add (i * 5)).off + 1, none⟩ = some (.string x.text) ∧ w.cell? ⟨(a.add (i * 5)).block, (a.add (i * 5)).off + 2, none⟩ = some (.int .i64 x.num) ∧ w.cell? ⟨(a.add (i * 5)).block, (a.add (i * 5)).off + 3, none⟩ = some (.slice K x.kids.length c) ∧ w.cell? ⟨(a.add (i * 5)).block, (a.add (i * 5)).off + 4, none⟩ = some (.int .i64 x.pos)) ∧ Ints w K c x.kids
theorem NodeAt.below {w w' : World} {A : Option Addr} {i : Nat} {x : Nd} {K : Option Addr} {c : Nat} (h : NodeAt w A i x K c) (hb : Below w.heap.size w w') : NodeAt w' A i x K c := by
  obtain ⟨⟨a, rfl, h0, h1, h2, h3, h4⟩, hk⟩ := h
  have k : ∀ {b : Addr} {v : Value}, w.cell? b = some v → w'.cell? b = some v := fun h => (hb.cell (World.block_lt_of_cell? w _ h)).trans h
  exact ⟨⟨a, rfl, k h0, k h1, k h2, k h3, k h4⟩, hk.below hb⟩
/-- A row of nodes. -/
def TreeAt (w : World) (A : Option Addr) (T : List Nd) : Prop := ∀ i x, T[i]? = some x → ∃ K c, NodeAt w A i x K c
theorem TreeAt.below {w w' : World} {A : Option Addr} {T : List Nd} (h : TreeAt w A T) (hb : Below w.heap.size w w') : TreeAt w' A T := fun i x hx => by
  obtain ⟨K, c, hn⟩ := h i x hx
  exact ⟨K, c, hn.below hb⟩
theorem TreeAt.alloc {w : World} {A : Option Addr} {T : List Nd} (h : TreeAt w A T) (o : Obj) : TreeAt (w.alloc o) A T := h.below ((Below.refl _ _).alloc (Nat.le_refl _) _)

/-- The tree as a value. -/
abbrev treeV (A : Option Addr) (n c : Nat) : Value := .agg #[.slice A n c]

def isExprB (k : Int) : Bool := decide (10 ≤ k) && decide (k ≤ 34) && k != 21
def isTypeB (k : Int) : Bool := decide (80 ≤ k) && decide (k ≤ 87) && k != 85
def stmtKinds : List Int := [40, 41, 42, 47, 49, 51, 52, 53, 54, 55, 56, 57, 58, 59, 60, 61, 63, 64, 65]
def isStmtB (k : Int) : Bool := stmtKinds.contains k
def isPlainB (x : Nd) : Bool := x.kind == 66 && (x.num == 0 || x.num == 1)
def isLetB (x : Nd) : Bool := x.kind == 40 && x.num == 0
def withinB (n : Nat) (k : Int) : Bool := decide (0 ≤ k) && decide (k < n)

set_option maxRecDepth 100000 in
theorem isExpr_calls (A : Option Addr) (c : Nat) (T : List Nd) (i : Nat) (x : Nd) (w : World) (hl : T.length ≤ 1000000000) (hx : T[i]? = some x) (hT : TreeAt w A T) :
    Calls Tryd.prog 104 #[treeV A T.length c, .int .i64 i] w fun e w' => e = .returned (.bool (isExprB x.kind)) ∧ Below w.heap.size w w' := by
  obtain ⟨K, kc, ⟨a, rfl, c0, c1, c2, c3, c4⟩, hK⟩ := hT.alloc (.cells #[.slice A T.length c] 59) i x hx
  have hlt := (List.getElem?_eq_some_iff.1 hx).1
  go_enter Tryd.func104, Tryd.ntmps104
  clear hx hT
  go_wp2
  all_goals (go_ret; refine ⟨ret_val (congrArg Value.bool ?_), (Below.refl _ _).alloc (Nat.le_refl _) _⟩)
  all_goals (unfold isExprB; rw [Bool.eq_iff_iff]; simp; try omega)

set_option maxRecDepth 100000 in
theorem isType_calls (A : Option Addr) (c : Nat) (T : List Nd) (i : Nat) (x : Nd) (w : World) (hl : T.length ≤ 1000000000) (hx : T[i]? = some x) (hT : TreeAt w A T) :
    Calls Tryd.prog 107 #[treeV A T.length c, .int .i64 i] w fun e w' => e = .returned (.bool (isTypeB x.kind)) ∧ Below w.heap.size w w' := by
  obtain ⟨K, kc, ⟨a, rfl, c0, c1, c2, c3, c4⟩, hK⟩ := hT.alloc (.cells #[.slice A T.length c] 59) i x hx
  have hlt := (List.getElem?_eq_some_iff.1 hx).1
  go_enter Tryd.func107, Tryd.ntmps107
  clear hx hT
  go_wp2
  all_goals (go_ret; refine ⟨ret_val (congrArg Value.bool ?_), (Below.refl _ _).alloc (Nat.le_refl _) _⟩)
  all_goals (unfold isTypeB; rw [Bool.eq_iff_iff]; simp; try omega)

set_option maxRecDepth 100000 in
theorem isStmt_calls (A : Option Addr) (c : Nat) (T : List Nd) (i : Nat) (x : Nd) (w : World) (hl : T.length ≤ 1000000000) (hx : T[i]? = some x) (hT : TreeAt w A T) :
    Calls Tryd.prog 146 #[treeV A T.length c, .int .i64 i] w fun e w' => e = .returned (.bool (isStmtB x.kind)) ∧ Below w.heap.size w w' := by
  obtain ⟨K, kc, ⟨a, rfl, c0, c1, c2, c3, c4⟩, hK⟩ := hT.alloc (.cells #[.slice A T.length c] 59) i x hx
  have hlt := (List.getElem?_eq_some_iff.1 hx).1
  go_enter Tryd.func146, Tryd.ntmps146
  clear hx hT
  go_wp2
  all_goals (go_ret; refine ⟨ret_val (congrArg Value.bool ?_), (Below.refl _ _).alloc (Nat.le_refl _) _⟩)
  all_goals (unfold isStmtB stmtKinds; (try simp only [beq_iff_eq, beq_eq_false_iff_ne, ne_eq] at *); rw [Bool.eq_iff_iff]; simp; try omega)

set_option maxRecDepth 100000 in
theorem isLet_calls (A : Option Addr) (c : Nat) (T : List Nd) (i : Nat) (x : Nd) (w : World) (hl : T.length ≤ 1000000000) (hx : T[i]? = some x) (hT : TreeAt w A T) :
    Calls Tryd.prog 176 #[treeV A T.length c, .int .i64 i] w fun e w' => e = .returned (.bool (isLetB x)) ∧ Below w.heap.size w w' := by
  obtain ⟨K, kc, ⟨a, rfl, c0, c1, c2, c3, c4⟩, hK⟩ := hT.alloc (.cells #[.slice A T.length c] 59) i x hx
  have hlt := (List.getElem?_eq_some_iff.1 hx).1
  go_enter Tryd.func176, Tryd.ntmps176
  clear hx hT
  go_wp2
  all_goals (go_ret; refine ⟨ret_val (congrArg Value.bool ?_), (Below.refl _ _).alloc (Nat.le_refl _) _⟩)
  all_goals (unfold isLetB; simp [*])

set_option maxRecDepth 100000 in
theorem any_calls (A : Option Addr) (c : Nat) (n : Nat) (i : Int) (w : World) :
    Calls Tryd.prog 145 #[treeV A n c, .int .i64 i] w fun e w' => e = .returned (.bool true) ∧ Below w.heap.size w w' := by
  go_enter Tryd.func145, Tryd.ntmps145
  go_wp2
  go_ret
  exact ⟨rfl, by first | exact Below.refl _ _ | exact (Below.refl _ _).alloc (Nat.le_refl _) _⟩
set_option maxRecDepth 100000 in
theorem within_calls (A : Option Addr) (c : Nat) (n : Nat) (i : Int) (w : World) :
    Calls Tryd.prog 85 #[treeV A n c, .int .i64 i] w fun e w' => e = .returned (.bool (withinB n i)) ∧ Below w.heap.size w w' := by
  go_enter Tryd.func85, Tryd.ntmps85
  go_wp2
  all_goals (go_ret; refine ⟨ret_val (congrArg Value.bool ?_), (Below.refl _ _).alloc (Nat.le_refl _) _⟩)
  all_goals (unfold withinB; rw [Bool.eq_iff_iff]; simp; try omega)
end Go.Proofs.YtnepdjgbfhakmaaDoor
