/- Words on memory that all texts of this seat use: what a slice's cells hold. -/
import Derived.Test.YtnepdjgbfhakmaaDoorProg
import Derived.WalkKit
import Derived.WalkLawsBesides
import Derived.WalkSpells
import Derived.Lib.Hide
import Derived.Deep.LoopGhost
import Derived.Deep.QuietTactic
import Derived.BigQuiet
import Derived.Deep.DeepCutAuto
import Derived.Deep.DeepMust
import Derived.Deep.DeepFit
import Derived.KernelRfl
import Derived.Lib.ConvBytes
import Derived.Lib.AtoiErrMem
import Derived.Lib.IndexBytes
import Derived.Laws.IdiomStrings
import Derived.Laws.BytesArg
namespace Go.Proofs.YtnepdjgbfhakmaaDoor
set_option linter.unusedVariables false
set_option linter.unusedSimpArgs false
open Go.RowKit

/-- The slice that begins at A holds the cells cs. -/
def Cells (w : World) (A : Option Addr) (cs : List Value) : Prop :=
  ∀ i (h : i < cs.length), ∃ a, A = some a ∧ w.cell? (a.add i) = some cs[i]

theorem Cells.nil (w : World) (A : Option Addr) : Cells w A [] := fun _ h => absurd h (by simp)

theorem Cells.below {w w' : World} {A : Option Addr} {cs : List Value} (h : Cells w A cs) (hb : Below w.heap.size w w') : Cells w' A cs := fun i hi => by
  obtain ⟨a, rfl, hc⟩ := h i hi
  refine ⟨a, rfl, ?_⟩
  exact (hb.cell (World.block_lt_of_cell? w _ hc)).trans hc

/-- Bytes as cells. -/
def bcells (bs : List UInt8) : List Value := bs.map fun b => .int .u8 (b.toNat : Int)
@[simp] theorem bcells_length (bs : List UInt8) : (bcells bs).length = bs.length := by simp [bcells]

/-- Byte number i, as a number. -/
def gb (bs : List UInt8) (i : Nat) : Nat := (bs.getD i 0).toNat
theorem gb_lt (bs : List UInt8) (i : Nat) : gb bs i < 256 := (bs.getD i 0).toNat_lt

theorem bytes_at {w : World} {A : Option Addr} {bs : List UInt8} (h : Cells w A (bcells bs)) (i : Nat) (hi : i < bs.length) :
    ∃ a, A = some a ∧ w.cell? (a.add i) = some (.int .u8 (gb bs i : Int)) := by
  obtain ⟨a, rfl, hc⟩ := h i (by simpa using hi)
  refine ⟨a, rfl, ?_⟩
  rw [hc]; simp [bcells, gb, List.getD, hi]

/-- A type's size in cells. -/
theorem size_parts {P : Program} {e sz : Nat} (h : (P.info? e).map (·.size) = some sz) : ∃ i, P.info? e = some i ∧ i.size = sz := by
  cases hi : P.info? e with
  | none => simp [hi] at h
  | some i => exact ⟨i, rfl, by simpa [hi] using h⟩

theorem add_add (a : Addr) (i j : Nat) : (a.add i).add j = a.add (i + j) := by
  unfold Addr.add
  by_cases h1 : i = 0 <;> by_cases h2 : j = 0 <;> simp [h1, h2, Nat.add_assoc]

theorem Cells.drop_ {w : World} {A : Option Addr} {cs : List Value} (h : Cells w A cs) (c l sz : Nat) (hc : cs.length ≤ c * sz) :
    Cells w (if c = l then A else A.map (·.add (l * sz))) (cs.drop (l * sz)) := fun i hi => by
  simp only [List.length_drop] at hi
  have hne : c ≠ l := by rintro rfl; omega
  obtain ⟨a, rfl, hcell⟩ := h (l * sz + i) (by omega)
  rw [if_neg hne]
  exact ⟨a.add (l * sz), rfl, by rw [add_add, hcell]; simp⟩

theorem Cells.take_ {w : World} {A : Option Addr} {cs : List Value} (h : Cells w A cs) (n : Nat) : Cells w A (cs.take n) := fun i hi => by
  simp only [List.length_take] at hi
  obtain ⟨a, rfl, hcell⟩ := h i (by omega)
  exact ⟨a, rfl, by rw [hcell]; simp⟩

/-- 'xs[l:h]': no case on the capacity: the new address is a letter. -/
theorem cut_lh {P : Program} (t e sz : Nat) (ht : P.underlying t = some (.slice e)) (hi : (P.info? e).map (·.size) = some sz) (A : Option Addr) (n c : Nat) (l h : Int) (m : Nat) (h0 : 0 ≤ l) (hm : h = l + m) (hc : h ≤ c) :
    ∃ A' : Option Addr, (∀ W : World, (Instr.slice t (.slice A n c) (some (.int .i64 l)) (some (.int .i64 h)) none).run P W = .ok (.slice A' m (c - l.toNat)) W) ∧
      ∀ (w : World) (cs : List Value), cs.length ≤ c * sz → Cells w A cs → Cells w A' (cs.drop (l.toNat * sz)) := by
  obtain ⟨i, hi, hsz⟩ := size_parts hi
  refine ⟨if c = l.toNat then A else A.map (·.add (l.toNat * sz)), fun W => ?_, fun w cs hcs hA => hA.drop_ c l.toNat sz hcs⟩
  have hel : P.elem t = e := by simp [Program.elem, ht]
  have hu : P.underlying t = some (.slice (P.elem t)) := by rw [hel]; exact ht
  rw [run_slice_lh W t A n c hu .i64 .i64 l h h0 (by omega) hc, hel]
  simp [sizeOf, typeInfo, hi, hsz, sliced, Result.andThen, show (h.toNat - l.toNat) = m by omega]

/-- 'xs[l:]'. -/
theorem cut_l {P : Program} (t e sz : Nat) (ht : P.underlying t = some (.slice e)) (hi : (P.info? e).map (·.size) = some sz) (A : Option Addr) (n c : Nat) (l : Int) (h0 : 0 ≤ l) (hn : l ≤ n) :
    ∃ A' : Option Addr, (∀ W : World, (Instr.slice t (.slice A n c) (some (.int .i64 l)) none none).run P W = .ok (.slice A' (n - l.toNat) (c - l.toNat)) W) ∧
      ∀ (w : World) (cs : List Value), cs.length ≤ c * sz → Cells w A cs → Cells w A' (cs.drop (l.toNat * sz)) := by
  obtain ⟨i, hi, hsz⟩ := size_parts hi
  refine ⟨if c = l.toNat then A else A.map (·.add (l.toNat * sz)), fun W => ?_, fun w cs hcs hA => hA.drop_ c l.toNat sz hcs⟩
  have hel : P.elem t = e := by simp [Program.elem, ht]
  have hu : P.underlying t = some (.slice (P.elem t)) := by rw [hel]; exact ht
  rw [run_slice_l W t A n c hu .i64 l h0 hn, hel]
  simp [sizeOf, typeInfo, hi, hsz, sliced, Result.andThen]

/-- 'string(b)'. -/
theorem conv_string {P : Program} (src e dst : Nat) (hs : P.underlying src = some (.slice e)) (he : P.underlying e = some (.int .u8)) (hd : P.underlying dst = some .string) {w : World} {A : Option Addr} {l : List UInt8} (cap : Nat) (h : Cells w A (bcells l)) :
    (convert src dst (.slice A l.length cap)).run P w = .ok (.string ⟨l.toArray⟩) w := by
  cases A with
  | none =>
    have hl : l = [] := by
      cases l with
      | nil => rfl
      | cons b t => obtain ⟨a, ha, _⟩ := h 0 (by simp); cases ha
    subst hl
    exact run_convert_bytes_nil w src e hs he 0 cap dst hd
  | some a =>
    refine run_convert_bytes_back w src dst e a cap l hs he hd (fun j hj => ?_)
    obtain ⟨a', ha, hc⟩ := h j (by simpa using hj)
    cases ha
    rw [hc]; simp [bcells]

/-- '[]byte(s)'. -/
theorem conv_bytes {P : Program} (src dst e : Nat) {u : TypeDesc} (hs : P.underlying src = some u) (hd : P.underlying dst = some (.slice e)) (he : P.underlying e = some (.int .u8)) (s : ByteArray) (w : World) :
    ∃ A c W', (convert src dst (.string s)).run P w = .ok (.slice A s.size c) W' ∧ Cells W' A (bcells s.data.toList) ∧ Below w.heap.size w W' ∧ s.size ≤ c :=
  ⟨_, _, _, Lib.run_convert_string_bytes w src dst e s hs hd he, fun i hi => ⟨_, rfl, by
    have hi' : i < s.size := by simpa [bcells] using hi
    have ha : (⟨w.heap.size, 0, none⟩ : Addr).add i = ⟨w.heap.size, i, none⟩ := by unfold Addr.add; split <;> simp_all
    rw [ha, Lib.bytesWorld_cell w e s i hi']
    have h2 : i < s.data.size := hi'
    simp [bcells, List.getD, List.getElem?_eq_getElem (show i < s.data.toList.length by simpa using h2)]⟩, Lib.bytesWorld_below w e s, grownCap_ge _ _ _ _⟩

theorem cell_alloc_keep {w : World} {a : Addr} {v : Value} (h : w.cell? a = some v) (o : Obj) : (w.alloc o).cell? a = some v :=
  (((Below.refl _ w).alloc (Nat.le_refl _) o).cell (World.block_lt_of_cell? w _ h)).trans h

theorem size5 : (Tryd.prog.info? 5).map (·.size) = some 1 := by kernel_rfl

theorem ret_tup3 {a a' b b' c c' : Value} (h1 : a = a') (h2 : b = b') (h3 : c = c') : Ending.returned (.tuple #[a, b, c]) = .returned (.tuple #[a', b', c']) := by rw [h1, h2, h3]
theorem ret_tup2 {a a' b b' : Value} (h1 : a = a') (h2 : b = b') : Ending.returned (.tuple #[a, b]) = .returned (.tuple #[a', b']) := by rw [h1, h2]
theorem ret_val {a a' : Value} (h1 : a = a') : Ending.returned a = .returned a' := by rw [h1]
theorem int_eq {k : IntKind} {a b : Int} (h : a = b) : Value.int k a = .int k b := by rw [h]
end Go.Proofs.YtnepdjgbfhakmaaDoor
