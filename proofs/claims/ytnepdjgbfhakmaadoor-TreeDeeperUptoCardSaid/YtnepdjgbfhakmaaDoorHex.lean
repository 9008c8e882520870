/- strconv.FormatInt at base 16, of the numbers below 128. -/
import Derived.Test.YtnepdjgbfhakmaaDoorBase
import Derived.LoopN
import Derived.RangeFuncRecord
import Derived.Lib.Strings
namespace Go.Proofs.YtnepdjgbfhakmaaDoor
set_option linter.unusedVariables false
set_option linter.unusedSimpArgs false
open Go.RowKit

def hexD (d : Nat) : UInt8 := if d < 10 then UInt8.ofNat (48 + d) else UInt8.ofNat (87 + d)
def hexS (u : Nat) : List UInt8 := if u < 16 then [hexD u] else [hexD (u / 16), hexD (u % 16)]

/-- What is asked of the table of math/bits. -/
def Tz16 (w : World) : Prop := w.cell? ⟨3, 15, none⟩ = some (.int .u8 4)
theorem Tz16.below {n : Nat} {w w' : World} (h : Tz16 w) (hb : Below n w w') (hn : 3 < n) : Tz16 w' := (hb.cell (p := ⟨3, 15, none⟩) hn).trans h

set_option maxRecDepth 100000 in
set_option maxHeartbeats 400000 in
theorem tz16_calls (w : World) (h : Tz16 w) :
    Calls Tryd.prog 160 #[.int .u64 16] w fun e w' => e = .returned (.int .i64 4) ∧ w = w' := by
  unfold Tz16 at h
  have hA : bits BinOp.and IntKind.u64 16 (IntKind.u64.wrap (-16)) = 16 := by decide +kernel
  go_enter Tryd.func160, Tryd.ntmps160
  go_wp2
  go_ret
  exact ⟨rfl, rfl⟩

def digits : ByteArray := ⟨#[48, 49, 50, 51, 52, 53, 54, 55, 56, 57, 97, 98, 99, 100, 101, 102, 103, 104, 105, 106, 107, 108, 109, 110, 111, 112, 113, 114, 115, 116, 117, 118, 119, 120, 121, 122]⟩
theorem digits_fin : ∀ u : Fin 16, digits.data.toList.getD u.val 0 = hexD u.val := by decide +kernel
theorem digits_at (u : Nat) (hu : u < 16) (h : u < digits.size) : digits[u] = hexD u := by
  rw [← digits_fin ⟨u, hu⟩]
  have h2 : u < digits.data.toList.length := h
  simp only [List.getD, List.getElem?_eq_getElem h2]
  rfl

theorem zero_size : Tryd.zeroCells167.size = 65 := by kernel_rfl

theorem cell_zero (w : World) (k : Nat) (hk : k < 65) : (w.alloc (Obj.cells Tryd.zeroCells167 167)).cell? ⟨w.heap.size, k, none⟩ = some (.int .u8 0) := by
  have h1 := World.alloc_heap_new w (Obj.cells Tryd.zeroCells167 167)
  have h2 : ∀ k : Fin 65, Tryd.zeroCells167[k.val]? = some (Value.int .u8 0) := by
    have h3 : Tryd.zeroCells167 = Array.replicate 65 (Value.int .u8 0) := by kernel_rfl
    intro k; rw [h3]; simp
  unfold World.cell?; rw [h1]; exact h2 ⟨k, hk⟩

set_option maxRecDepth 100000 in
set_option maxHeartbeats 1000000 in
theorem formatBits_lo (u : Nat) (hu : u < 16) (w : World) (h : Tz16 w) (hw : 3 < w.heap.size) :
    Calls Tryd.prog 129 #[.slice none 0 0, .int .u64 u, .int .i64 16, .bool false, .bool false] w fun e w' => e = .returned (.tuple #[.slice none 0 0, .string ⟨#[hexD u]⟩]) ∧ Below w.heap.size w w' := by
  go_enter Tryd.func129, Tryd.ntmps129
  have hz64 := cell_zero w 64 (by omega)
  have htz := (tz16_calls (w.alloc (Obj.cells Tryd.zeroCells167 167)) (h.below ((Below.refl w.heap.size w).alloc (Nat.le_refl _) _) (by omega)))
  have HT := Lib.hid htz
  have hconv : ∀ d : UInt8, (convert 22 9 (.slice (some ⟨w.heap.size, 64, none⟩) 1 1)).run Tryd.prog (w.alloc (.cells (Tryd.zeroCells167.setIfInBounds 64 (.int .u8 (d.toNat : Int))) 167)) = .ok (.string ⟨#[d]⟩) (w.alloc (.cells (Tryd.zeroCells167.setIfInBounds 64 (.int .u8 (d.toNat : Int))) 167)) := by
    intro d
    refine conv_string (l := [d]) 22 5 9 Tryd.underlying22 Tryd.underlying5 Tryd.underlying9 1 ?_
    intro i hi
    have hi0 : i = 0 := by simp at hi; omega
    subst hi0
    refine ⟨_, rfl, ?_⟩
    have h1 := World.alloc_heap_new w (Obj.cells (Tryd.zeroCells167.setIfInBounds 64 (.int .u8 (d.toNat : Int))) 167)
    show World.cell? _ ⟨w.heap.size, 64, none⟩ = _
    unfold World.cell?; rw [h1]; simp [zero_size, bcells]
  have hdig := digits_at u hu (by show u < 36; omega)
  unfold digits at hdig
  clear htz
  go_wp2_with (first | (go_at_call 159; go_in) | (go_at_call 160; refine HT.out.mono ?_; rintro e w' ⟨rfl, rfl⟩))
  refine wp_loop_rounds 1 ?_
  rw [rounds_succ]
  go_wp2
  go_ret2
  exact ⟨rfl, (Below.refl _ _).alloc (Nat.le_refl _) _⟩

theorem cell_zero2 (w : World) (k : Nat) (hk : k < 64) (v : Value) : (w.alloc (Obj.cells (Tryd.zeroCells167.setIfInBounds 64 v) 167)).cell? ⟨w.heap.size, k, none⟩ = some (.int .u8 0) := by
  have h1 := World.alloc_heap_new w (Obj.cells (Tryd.zeroCells167.setIfInBounds 64 v) 167)
  have h3 : Tryd.zeroCells167 = Array.replicate 65 (Value.int .u8 0) := by kernel_rfl
  unfold World.cell?; rw [h1, h3]
  show ((Array.replicate 65 (Value.int .u8 0)).setIfInBounds 64 v)[k]? = _
  rw [Array.getElem?_setIfInBounds_ne (by omega), Array.getElem?_replicate, if_pos (by omega)]

theorem and15 : ∀ u : Fin 128, bits BinOp.and IntKind.u64 (u.val : Int) 15 = ((u.val % 16 : Nat) : Int) := by decide +kernel

set_option maxRecDepth 100000 in
set_option maxHeartbeats 1000000 in
theorem formatBits_hi (u : Nat) (hu : 16 ≤ u) (hu2 : u < 128) (w : World) (h : Tz16 w) (hw : 3 < w.heap.size) :
    Calls Tryd.prog 129 #[.slice none 0 0, .int .u64 u, .int .i64 16, .bool false, .bool false] w fun e w' => e = .returned (.tuple #[.slice none 0 0, .string ⟨#[hexD (u / 16), hexD (u % 16)]⟩]) ∧ Below w.heap.size w w' := by
  go_enter Tryd.func129, Tryd.ntmps129
  have hz64 := cell_zero w 64 (by omega)
  have hz63 := fun v => cell_zero2 w 63 (by omega) v
  have htz := (tz16_calls (w.alloc (Obj.cells Tryd.zeroCells167 167)) (h.below ((Below.refl w.heap.size w).alloc (Nat.le_refl _) _) (by omega)))
  have HT := Lib.hid htz
  have ha15 : bits BinOp.and IntKind.u64 (u : Int) 15 = ((u % 16 : Nat) : Int) := and15 ⟨u, hu2⟩
  have hdig1 := digits_at (u / 16) (by omega) (by show u / 16 < 36; omega)
  have hdig2 := digits_at (u % 16) (by omega) (by show u % 16 < 36; omega)
  unfold digits at hdig1 hdig2
  clear htz
  go_wp2_with (first | (go_at_call 159; go_in) | (go_at_call 160; refine HT.out.mono ?_; rintro e w' ⟨rfl, rfl⟩))
  have hconv : ∀ d e : UInt8, (convert 22 9 (.slice (some ⟨w.heap.size, 63, none⟩) 2 2)).run Tryd.prog (w.alloc (.cells ((Tryd.zeroCells167.setIfInBounds 64 (.int .u8 (e.toNat : Int))).setIfInBounds 63 (.int .u8 (d.toNat : Int))) 167)) = .ok (.string ⟨#[d, e]⟩) (w.alloc (.cells ((Tryd.zeroCells167.setIfInBounds 64 (.int .u8 (e.toNat : Int))).setIfInBounds 63 (.int .u8 (d.toNat : Int))) 167)) := by
    intro d e
    refine conv_string (l := [d, e]) 22 5 9 Tryd.underlying22 Tryd.underlying5 Tryd.underlying9 2 ?_
    intro i hi
    have h1 := World.alloc_heap_new w (Obj.cells ((Tryd.zeroCells167.setIfInBounds 64 (.int .u8 (e.toNat : Int))).setIfInBounds 63 (.int .u8 (d.toNat : Int))) 167)
    have hi2 : i = 0 ∨ i = 1 := by simp at hi; omega
    rcases hi2 with rfl | rfl
    · refine ⟨_, rfl, ?_⟩
      show World.cell? _ ⟨w.heap.size, 63, none⟩ = _
      unfold World.cell?; rw [h1]; simp [zero_size, bcells]
    · refine ⟨_, rfl, ?_⟩
      show World.cell? _ ⟨w.heap.size, 64, none⟩ = _
      unfold World.cell?; rw [h1]; simp [zero_size, bcells, Array.getElem_setIfInBounds]
  refine wp_loop_rounds 2 ?_
  rw [rounds_succ]
  go_wp2
  rw [rounds_succ]
  go_wp2
  go_ret2
  exact ⟨rfl, (Below.refl _ _).alloc (Nat.le_refl _) _⟩

set_option maxRecDepth 100000 in
set_option maxHeartbeats 1000000 in
theorem formatInt16_calls (u : Nat) (hu : u < 128) (w : World) (h : Tz16 w) (hw : 3 < w.heap.size) :
    Calls Tryd.prog 71 #[.int .i64 u, .int .i64 16] w fun e w' => e = .returned (.string ⟨(hexS u).toArray⟩) ∧ Below w.heap.size w w' := by
  have hfb : Calls Tryd.prog 129 #[.slice none 0 0, .int .u64 u, .int .i64 16, .bool false, .bool false] w fun e w' => e = .returned (.tuple #[.slice none 0 0, .string ⟨(hexS u).toArray⟩]) ∧ Below w.heap.size w w' := by
    by_cases h16 : u < 16
    · have e : hexS u = [hexD u] := by unfold hexS; rw [if_pos h16]
      rw [e]; exact formatBits_lo u h16 w h hw
    · have e : hexS u = [hexD (u / 16), hexD (u % 16)] := by unfold hexS; rw [if_neg h16]
      rw [e]; exact formatBits_hi u (by omega) hu w h hw
  have HF := Lib.hid hfb
  clear hfb
  go_enter Tryd.func71, Tryd.ntmps71
  go_wp2_with (first | (go_at_call 98; go_in) | (go_at_call 129; refine HF.out.mono ?_; rintro e w' ⟨rfl, hb⟩))
  go_ret
  exact ⟨rfl, hb⟩
end Go.Proofs.YtnepdjgbfhakmaaDoor
