/- Iterators (iter.Seq, iter.Seq2) and loops over them: one contract, told for whatever function value is handed in as yield; one law for the loop. -/
import Derived.Test.YtnepdjgbfhakmaaDoorBase
import Derived.RangeFuncNested
import Derived.RangeFuncBound
import Derived.RangeFuncCalls
import Derived.RangeFuncLeaves
import Derived.Shelf.Abstract
import Derived.OwnWalkIn
import Derived.TacticsInMore
import Derived.LoopNIn
import Derived.LoopIn
import Derived.Shelf.RegionOpen
namespace Go.Proofs.YtnepdjgbfhakmaaDoor
set_option linter.unusedVariables false
set_option linter.unusedSimpArgs false
open Go.RowKit Go.Shelf

/-- From W to W': blocks of cells, and whatever lies below B, are as they were. -/
structure Turn (B : Nat) (W W' : World) : Prop where
  os : W'.os = W.os
  tape : W'.tape = W.tape
  output : W'.output = W.output
  size : W.heap.size ≤ W'.heap.size
  same : ∀ (k : Nat) (o : Obj), W.heap[k]? = some o → (k < B ∨ o.isCells = true) → W'.heap[k]? = some o

theorem Turn.of_below {B : Nat} {W W' : World} (h : Below W.heap.size W W') : Turn B W W' :=
  ⟨h.os, h.tape, h.output, h.size, fun k o hk _ => (h.block k (Array.getElem?_eq_some_iff.1 hk).1).trans hk⟩
theorem Turn.putObj {B l : Nat} {W : World} {o : Obj} (o' : Obj) (hl : W.heap[l]? = some o) (ho : o.isCells = false) (hB : B ≤ l) : Turn B W (W.putObj l o') :=
  ⟨rfl, rfl, rfl, by simp, fun k o2 hk hc => by
    refine (World.putObj_heap_other ?_).trans hk
    rintro rfl
    rw [hl] at hk; cases hk
    rcases hc with hc | hc
    · omega
    · rw [ho] at hc; cases hc⟩
theorem Turn.cell {B : Nat} {W W' : World} (h : Turn B W W') {a : Addr} {v : Value} (hc : W.cell? a = some v) : W'.cell? a = some v := by
  obtain ⟨o, ho, hcs⟩ := cells_of_cell hc
  exact (World.cell?_of_block ((h.same _ o ho (.inr hcs)).trans ho.symm)).trans hc
theorem Turn.frozen {B : Nat} {W W' : World} (h : Turn B W W') {a : Addr} {v : Value} (hc : W.cell? a = some v) : W'.frozen? a = W.frozen? a := by
  obtain ⟨o, ho, hcs⟩ := cells_of_cell hc
  exact World.frozen?_of_block ((h.same _ o ho (.inr hcs)).trans ho.symm)
theorem Turn.cells {B : Nat} {W W' : World} (h : Turn B W W') {A : Option Addr} {cs : List Value} (hc : Cells W A cs) : Cells W' A cs := fun i hi => by
  obtain ⟨a, rfl, hq⟩ := hc i hi
  exact ⟨a, rfl, h.cell hq⟩
theorem Turn.block {B : Nat} {W W' : World} (h : Turn B W W') {k : Nat} {c : Array Value} {t : TypeId} {f : Nat × Nat} (hc : W.heap[k]? = some (.cells c t f)) : W'.heap[k]? = some (.cells c t f) := h.same _ _ hc (.inr rfl)
theorem Turn.below {B n₀ : Nat} {w W W' : World} (h : Turn B W W') (hn : n₀ ≤ B) (hs : n₀ ≤ w.heap.size) (hb : Below n₀ w W) : Below n₀ w W' :=
  hb.trans ⟨h.os, h.tape, h.output, h.size, fun k hk => by
    have hlt : k < W.heap.size := Nat.lt_of_lt_of_le hk (Nat.le_trans hs hb.size)
    rw [h.same k W.heap[k] (Array.getElem?_eq_getElem hlt) (.inl (by omega)), Array.getElem?_eq_getElem hlt]⟩

/-- The blocks of the list S hold what they held. -/
def SameAt (S : List Nat) (W W' : World) : Prop := W.heap.size ≤ W'.heap.size ∧ ∀ k ∈ S, W'.heap[k]? = W.heap[k]?
theorem SameAt.refl (S : List Nat) (W : World) : SameAt S W W := ⟨Nat.le_refl _, fun _ _ => rfl⟩
theorem SameAt.trans {S : List Nat} {A B C : World} (h : SameAt S A B) (k : SameAt S B C) : SameAt S A C := ⟨Nat.le_trans h.1 k.1, fun i hi => (k.2 i hi).trans (h.2 i hi)⟩
theorem SameAt.of_below {S : List Nat} {W W' : World} (h : Below W.heap.size W W') (hS : ∀ k ∈ S, k < W.heap.size) : SameAt S W W' := ⟨h.size, fun k hk => h.block k (hS k hk)⟩
theorem SameAt.of_belowB {S : List Nat} {B : Nat} {W W' : World} (h : Below B W W') (hS : ∀ k ∈ S, k < B) : SameAt S W W' := ⟨h.size, fun k hk => h.block k (hS k hk)⟩
theorem SameAt.setCell {S : List Nat} {W W' : World} (h : SameAt S W W') (a : Addr) (v : Value) (ha : a.block ∉ S) : SameAt S W (W'.setCell a v) :=
  h.trans ⟨by simp [World.setCell], fun k hk => Below.heap_setCell _ _ _ _ (fun e => ha (e ▸ hk))⟩

/-- A call of the function value y with vs in W ends in R: y a closure, or the yield of a loop. -/
def YCall (P : Program) (y : Value) (vs : Array Value) (W : World) (R : Ending → World → Prop) : Prop :=
  (∃ g cap, y = .func (.func g) #[] cap ∧ (∀ args w, (callFunc g args).run P w = .ok (.enter g args) w) ∧ Calls P g (vs ++ cap) W R) ∨
  (∃ l, y = .func (.yield l) #[] #[] ∧ YieldAt Fence.wide 1 P l vs W R)

theorem roundIn_any {n m : Nat} {P : Program} {l : Nat} {f : FuncId} {tmps : Array Value} {assign body : Code} {w : World} {R : Ending → World → Prop}
    (h : RoundIn Fence.wide n P l f tmps assign body w R) : RoundIn Fence.wide m P l f tmps assign body w R := ⟨h.1, fun c cs _ => h.2 c cs (room_wide _)⟩
/-- A contract, used in the body of a round. -/
theorem calls_inRound {n : Nat} {P : Program} {f : FuncId} {args : Array Value} {w : World} {R : Ending → World → Prop} (l : Nat) (h : Calls P f args w R) : CallsIn (Fence.wide.inRound l) n P f args w R :=
  CallsIn.inRound l (callsIn_wide.2 h)

/-- What a caller holds abides new blocks. -/
def Abide {β : Type} (J : β → World → Prop) : Prop := ∀ s W W', J s W → Below W.heap.size W W' → J s W'

/-- How a round may end. -/
def RoundEnd {α : Type} (S : List Nat) (J Jx : List α → World → Prop) (pre : List α) (W1 : World) (e : Ending) (W' : World) : Prop :=
  (e = .returned (.bool true) ∧ J pre W' ∧ SameAt S W1 W') ∨ (e = .returned (.bool false) ∧ Jx pre W')
/-- How the iterator ends: all have come, or a round has said 'no more'. -/
def IterEnd {α : Type} (J Jx : List α → World → Prop) (xs : List α) (e : Ending) (W' : World) : Prop :=
  e = .returned (.tuple #[]) ∧ (J xs W' ∨ ∃ pre, pre <+: xs ∧ pre ≠ [] ∧ Jx pre W')

/-- The contract of an iterator value .func g #[] lb, made in w: it hands yield the rows of xs, one by one, and stops where yield says false. S: the blocks that it reads. -/
def Iter {α : Type} (P : Program) (g : Nat) (lb : Array Value) (encs : α → Array Value) (S : List Nat) (xs : List α) (w : World) : Prop :=
  ∀ (y : Value) (J Jx : List α → World → Prop) (W : World), SameAt S w W → Abide J → Abide Jx →
    (∀ pre x W1, pre ++ [x] <+: xs → J pre W1 → YCall P y (encs x) W1 (RoundEnd S J Jx (pre ++ [x]) W1)) →
    J [] W → Calls P g (#[y] ++ lb) W (IterEnd J Jx xs)

theorem Iter.later {α : Type} {P : Program} {g : Nat} {lb : Array Value} {encs : α → Array Value} {S : List Nat} {xs : List α} {w w' : World} (h : Iter P g lb encs S xs w) (hs : SameAt S w w') : Iter P g lb encs S xs w' :=
  fun y J Jx W hW => h y J Jx W (hs.trans hW)

/-- How the body of a round may be left. -/
def bodyEnd {α : Type} (B : Nat) (S : List Nat) (I : List α → World → Prop) (Ix : Code → List α → World → Prop) (xs : List α) (W : World) : Exit → Act → World → Prop
  | .normal, _, W' => KeepsFrom B W W' ∧ SameAt S W W' ∧ I xs W'
  | .ret, _, W' => KeepsFrom B W W' ∧ Ix .ret xs W'
  | .exit id, _, W' => KeepsFrom B W W' ∧ Ix (.exit id) xs W'
  | .goto t, _, W' => KeepsFrom B W W' ∧ Ix (.goto t) xs W'
  | .panic _, _, _ => False
  | .outgrown, _, _ => False

/-- What the loop's invariant must abide. -/
def AbideT {β : Type} (B : Nat) (J : β → World → Prop) : Prop := ∀ s W W', J s W → Turn B W W' → J s W'

/-- The loop 'for .. := range it { .. }', outside every other loop over an iterator. -/
theorem wp_rangeFunc_iter {P : Program} {α : Type} {g : Operand} {ps : Array Tmp} {assign body : Code} {Q : Exit → Act → World → Prop} {a : Act} {w : World}
    {gf : Nat} {lb : Array Value} (hg : a.eval g = .func (.func gf) #[] lb) (eg : ∀ args w, (callFunc gf args).run P w = .ok (.enter gf args) w)
    {encs : α → Array Value} {S : List Nat} {xs : List α} (hit : Iter P gf lb encs S xs w) (hS : ∀ k ∈ S, k < w.heap.size) (hps : ∀ x, (encs x).size = ps.size)
    (I : List α → World → Prop) (Ix : Code → List α → World → Prop) (hI : AbideT w.heap.size I) (hIx : ∀ c, AbideT w.heap.size (Ix c)) (h0 : I [] w)
    (hbody : ∀ (l : Nat) (pre : List α) (x : α) (W W' : World), pre ++ [x] <+: xs → w.heap.size < W.heap.size → w.heap.size < W'.heap.size → I pre W → I pre W' →
      ∃ a₁ : Act, (∀ K : Act → World → Prop, K a₁ W → assign.wpIn (Fence.wide.inRound l) 1 P (Exit.then K (fun _ _ _ => False)) { tmps := (ps.zip (encs x)).foldl (fun t (p, v) => t.setIfInBounds p v) a.tmps, defers := [] } W) ∧
        body.wpIn (Fence.wide.inRound l) 1 P (bodyEnd w.heap.size S I Ix (pre ++ [x]) W') a₁ W')
    (hdone : ∀ (D : Nat) (W : World), w.heap.size ≤ D → I xs W → W.heap[D]? = some (.deferred (some [])) → Q .normal { a with defers := { target := .collected D, args := #[] } :: a.defers } W)
    (hstop : ∀ (D : Nat) (c : Code) (pre : List α) (W : World), w.heap.size ≤ D → pre <+: xs → pre ≠ [] → Ix c pre W → W.heap[D]? = some (.deferred (some [])) → c.wp P Q { a with defers := { target := .collected D, args := #[] } :: a.defers } W) :
    (Code.rangeFunc g ps assign body).wp P Q a w := by
  refine (wpIn_wide (n := 1)).1 (wpIn_rangeFunc ?_)
  intro fn hfn
  show ∃ l mark w₁ d w₁' f args w₂, (Instr.enterLoop fn a.tmps ps assign body none).run P w = .ok (l, mark) w₁ ∧ _
  obtain ⟨rec, hrec⟩ : ∃ rec : LoopState → Option Code → Loop, rec = fun st pe => { state := st, pending := pe, fn, tmps := a.tmps, params := ps, assign, body, defers := w.heap.size } := ⟨_, rfl⟩
  obtain ⟨W1, hW1⟩ : ∃ W1, (w.alloc (.deferred (some []))).alloc (.loop (rec .ready none)) = W1 := ⟨_, rfl⟩
  have hL1 : W1.heap[w.heap.size + 1]? = some (.loop (rec .ready none)) := by
    rw [← hW1]; have := World.alloc_heap_new (w.alloc (.deferred (some []))) (.loop (rec .ready none)); rwa [World.size_alloc] at this
  have hK1 : W1.heap[w.heap.size]? = some (.deferred (some [])) := by
    rw [← hW1]; exact (Below.heap_alloc _ _ _ (by simp)).trans (World.alloc_heap_new w _)
  have hb1 : Below w.heap.size w W1 := by
    rw [← hW1]; exact (((Below.refl _ w).alloc (Nat.le_refl _) _).alloc (by simp) _)
  have hI1 : I [] W1 := hI _ _ _ h0 (Turn.of_below hb1)
  refine ⟨w.heap.size + 1, [{ target := .collected w.heap.size, args := #[] }], W1, { target := .fn (.func gf) lb, args := #[.func (.yield (w.heap.size + 1)) #[] #[]] }, W1, gf,
    #[.func (.yield (w.heap.size + 1)) #[] #[]] ++ lb, W1, ?_, ?_, ?_, ?_, (fun h => by cases h), ?_⟩
  · rw [← hW1, hrec]; exact run_enterLoop_outer _ _ _ _ _
  · simp only [resolve, hg]
    simp [go_sem]
  · intro f' _; exact trivial
  · simp [invoke, go_sem, eg]
  · refine callsIn_wide.2 ((hit (.func (.yield (w.heap.size + 1)) #[] #[])
      (fun pre W => I pre W ∧ W.heap[w.heap.size + 1]? = some (.loop (rec .ready none)) ∧ W.heap[w.heap.size]? = some (.deferred (some [])))
      (fun pre W => ∃ c, Ix c pre W ∧ W.heap[w.heap.size + 1]? = some (.loop (rec .done (some c))) ∧ W.heap[w.heap.size]? = some (.deferred (some [])))
      W1 (SameAt.of_below hb1 hS)
      (fun s A B hs hb => ⟨hI s A B hs.1 (Turn.of_below hb), (hb.block _ (Array.getElem?_eq_some_iff.1 hs.2.1).1).trans hs.2.1, (hb.block _ (Array.getElem?_eq_some_iff.1 hs.2.2).1).trans hs.2.2⟩)
      (fun s A B hs hb => by
        obtain ⟨c, hc, hl, hk⟩ := hs
        exact ⟨c, hIx c s A B hc (Turn.of_below hb), (hb.block _ (Array.getElem?_eq_some_iff.1 hl).1).trans hl, (hb.block _ (Array.getElem?_eq_some_iff.1 hk).1).trans hk⟩)
      ?_ ⟨hI1, hL1, hK1⟩).mono ?_)
    · rintro pre x W hpre ⟨hi, hl, hk⟩
      have hlt : w.heap.size + 1 < W.heap.size := (Array.getElem?_eq_some_iff.1 hl).1
      have hy := run_yield (P := P) (args := encs x) hl (by rw [hrec]; exact hps x)
      rw [hrec] at hy
      obtain ⟨a₁, hassign, hwb⟩ := hbody (w.heap.size + 1) pre x W (W.putObj (w.heap.size + 1) (.loop { rec .ready none with state := .busy })) hpre (by omega) (by simp; omega) hi (hI _ _ _ hi (Turn.putObj _ hl rfl (by omega)))
      refine .inr ⟨_, rfl, fn, _, assign, body, hy, roundIn_of_wpIn hfn (hassign _ ⟨_, run_beginRound hl (by rw [hrec]), ?_⟩)⟩
      have hl2 : (W.putObj (w.heap.size + 1) (.loop { rec .ready none with state := .busy })).heap[w.heap.size + 1]? = some (.loop { rec .ready none with state := .busy }) := World.putObj_heap_same hlt
      have hk2 : (W.putObj (w.heap.size + 1) (.loop { rec .ready none with state := .busy })).heap[w.heap.size]? = some (.deferred (some [])) := (World.putObj_heap_other (by omega)).trans hk
      have put : ∀ (V : World) (o : Obj), SameAt S V (V.putObj (w.heap.size + 1) o) := fun V o => ⟨by simp, fun k hk => World.putObj_heap_other (by have := hS k hk; omega)⟩
      refine wpIn_mono hwb ?_
      have fin : ∀ (jump : Option Code) (W3 : World), KeepsFrom w.heap.size (W.putObj (w.heap.size + 1) (.loop { rec .ready none with state := .busy })) W3 →
          (Instr.endRound (w.heap.size + 1) jump).run P W3 = .ok (.bool jump.isNone) (W3.putObj (w.heap.size + 1) (.loop (rec (if jump.isNone then .ready else .done) jump))) ∧
          W3.heap[w.heap.size + 1]? = some (.loop { rec .ready none with state := .busy }) ∧
          (W3.putObj (w.heap.size + 1) (.loop (rec (if jump.isNone then .ready else .done) jump))).heap[w.heap.size + 1]? = some (.loop (rec (if jump.isNone then .ready else .done) jump)) ∧
          (W3.putObj (w.heap.size + 1) (.loop (rec (if jump.isNone then .ready else .done) jump))).heap[w.heap.size]? = some (.deferred (some [])) := fun jump W3 hk3 => by
        have hl3 := hk3.same _ _ (by omega) hl2 rfl
        have := run_endRound (P := P) jump hl3
        rw [hrec] at this ⊢
        exact ⟨this, by rw [hrec] at hl3; exact hl3, World.putObj_heap_same (Array.getElem?_eq_some_iff.1 hl3).1, (World.putObj_heap_other (by omega)).trans (hk3.same _ _ (Nat.le_refl _) hk2 rfl)⟩
      rintro e a3 W3 hp
      cases e with
      | normal =>
        obtain ⟨hk3, hkp3, hi3⟩ := hp
        obtain ⟨hr, hl3, hl4, hk4⟩ := fin none W3 hk3
        exact ⟨_, _, hr, .inl ⟨rfl, ⟨hI _ _ _ hi3 (Turn.putObj _ hl3 rfl (by omega)), hl4, hk4⟩, ((put _ _).trans hkp3).trans (put _ _)⟩⟩
      | ret =>
        obtain ⟨hk3, hi3⟩ := hp
        obtain ⟨hr, hl3, hl4, hk4⟩ := fin (some .ret) W3 hk3
        exact ⟨_, _, hr, .inr ⟨rfl, .ret, hIx _ _ _ _ hi3 (Turn.putObj _ hl3 rfl (by omega)), hl4, hk4⟩⟩
      | exit id =>
        obtain ⟨hk3, hi3⟩ := hp
        obtain ⟨hr, hl3, hl4, hk4⟩ := fin (some (.exit id)) W3 hk3
        exact ⟨_, _, hr, .inr ⟨rfl, .exit id, hIx _ _ _ _ hi3 (Turn.putObj _ hl3 rfl (by omega)), hl4, hk4⟩⟩
      | goto t =>
        obtain ⟨hk3, hi3⟩ := hp
        obtain ⟨hr, hl3, hl4, hk4⟩ := fin (some (.goto t)) W3 hk3
        exact ⟨_, _, hr, .inr ⟨rfl, .goto t, hIx _ _ _ _ hi3 (Turn.putObj _ hl3 rfl (by omega)), hl4, hk4⟩⟩
      | panic ch => exact hp.elim
      | outgrown => exact hp.elim
    · rintro e W2 ⟨rfl, (⟨hi, hl, hk⟩ | ⟨pre, hSp, hne, c, hi, hl, hk⟩)⟩
      · exact ⟨none, _, by have := run_endLoop (P := P) hl (by rw [hrec]; simp); rw [hrec] at this; exact this, hdone _ _ (Nat.le_refl _) (hI _ _ _ hi (Turn.putObj _ hl rfl (by omega))) ((World.putObj_heap_other (by omega)).trans hk)⟩
      · exact ⟨some c, _, by have := run_endLoop (P := P) hl (by rw [hrec]; simp); rw [hrec] at this; exact this, wpIn_wide.2 (hstop _ c pre _ (Nat.le_refl _) hSp hne (hIx c _ _ _ hi (Turn.putObj _ hl rfl (by omega))) ((World.putObj_heap_other (by omega)).trans hk))⟩

theorem below_putObj {n D : Nat} {a W : World} (h : Below n a W) (hD : n ≤ D) (o : Obj) : Below n a (W.putObj D o) :=
  h.trans ⟨rfl, rfl, rfl, by simp, fun k hk => World.putObj_heap_other (by omega)⟩
/-- Temporaries written. -/
theorem set_tmps {l : List Value} {k : Nat} {v : Value} : (l.toArray).setIfInBounds k v = (l.set k v).toArray := by simp

/-- A function that holds such a loop: its contract from its body. -/
theorem calls_of_wp_marks {P : Program} {f : FuncId} {fn : Func} {c : Code} {args : Array Value} {w : World} {R : Ending → World → Prop}
    (hf : P.funcs[f]? = some fn) (hb : fn.body = some c)
    (h : c.wp P (bodyPostM Fence.wide 1 P fn R) { tmps := args ++ Array.replicate (fn.ntmps - args.size) undef, defers := [] } w) : Calls P f args w R :=
  callsIn_wide.1 (callsIn_of_wp_marks hf hb trivial (wpIn_wide.2 h) rfl)

/-- Its return, behind one such loop. -/
theorem marks_ret {P : Program} {fn : Func} {R : Ending → World → Prop} {a : Act} {w : World} {v : Value} {D : Nat} (hd : a.defers = [{ target := .collected D, args := #[] }])
    (hD : w.heap[D]? = some (.deferred (some []))) (hr : (results fn a.tmps).run P (w.putObj D (.deferred none)) = .ok v (w.putObj D (.deferred none))) (hR : R (.returned v) (w.putObj D (.deferred none))) :
    bodyPostM Fence.wide 1 P fn R .ret a w := by
  show LeavesInM Fence.wide 1 P fn a.tmps R a.defers .returning w
  rw [hd]
  exact ⟨by simp, .inl ⟨_, _, rfl, run_takeDeferred hD, ⟨_, hr, hR⟩⟩⟩
/-- Its return ahead of every such loop. -/
theorem marks_ret0 {P : Program} {fn : Func} {R : Ending → World → Prop} {a : Act} {w : World} {v : Value} (hd : a.defers = [])
    (hr : (results fn a.tmps).run P w = .ok v w) (hR : R (.returned v) w) : bodyPostM Fence.wide 1 P fn R .ret a w := by
  show LeavesInM Fence.wide 1 P fn a.tmps R a.defers .returning w
  rw [hd]
  exact ⟨_, hr, hR⟩
end Go.Proofs.YtnepdjgbfhakmaaDoor
