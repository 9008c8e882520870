/- Trees: what a node says. -/
import Derived.Test.YtnepdjgbfhakmaaDoorTree5
namespace Go.Proofs.YtnepdjgbfhakmaaDoor
set_option linter.unusedVariables false
set_option linter.unusedSimpArgs false
open Go.RowKit Go.Shelf
attribute [local go_sem] Oper.semAt_some

def sayL23 : ByteArray := ⟨#[33, 32, 45, 32, 126, 32, 116, 121, 112, 101, 111, 102]⟩
def sayL24 : ByteArray := ⟨#[124, 124, 32, 38, 38, 32, 124, 32, 94, 32, 38, 32, 61, 61, 61, 32, 33, 61, 61, 32, 60, 32, 60, 61, 32, 62, 32, 62, 61, 32, 105, 110, 32, 60, 60, 32, 62, 62, 32, 62, 62, 62, 32, 43, 32, 45, 32, 42, 32, 37]⟩
def sayL26 : ByteArray := ⟨#[61, 32, 43, 61, 32, 45, 61, 32, 42, 61, 32, 37, 61]⟩

/-- What a node may say: by its kind. -/
def saidB (kd : Int) (tx : List UInt8) (nm : Int) : Bool :=
  if kd = 10 then tx.isEmpty && decide (0 ≤ nm) && decide (nm ≤ 9007199254740991) else
  if kd = 81 then tx.isEmpty && decide (-9007199254740991 ≤ nm) && decide (nm ≤ 9007199254740991) else
  if kd = 11 ∨ kd = 82 then nm == 0 && goodB tx else
  if kd = 23 then nm == 0 && amongB tx sayL23.data.toList else
  if kd = 24 then nm == 0 && amongB tx sayL24.data.toList else
  if kd = 26 then nm == 0 && amongB tx sayL26.data.toList else
  if kd = 80 then nm == 0 && pathB tx else
  if kd ∈ [40, 56, 47, 85] then (nm == 0 || nm == 1) && nameB tx else
  if kd = 44 then (nm == 0 || nm == 4) && nameB tx else
  if kd = 66 then (decide (0 ≤ nm) && decide (nm ≤ 7)) && nameB tx else
  if kd ∈ [17, 21, 29, 32, 41, 42, 43, 45, 48, 49, 51, 52, 62, 67] then nm == 0 && nameB tx else
  nm == 0 && tx.isEmpty
theorem shr1 (n : Int) (h0 : -9223372036854775808 ≤ n) (h1 : n ≤ 9223372036854775807) : (n / 2 == 0) = (n == 0 || n == 1) := by
  rw [Bool.eq_iff_iff]
  simp only [beq_iff_eq, Bool.or_eq_true]
  omega
abbrev sayV (kd : Int) (tx : ByteArray) (nm : Int) (K : Option Addr) (n c : Nat) (ps : Int) : Array Value := #[.int .i64 kd, .string tx, .int .i64 nm, .slice K n c, .int .i64 ps]

set_option maxRecDepth 100000 in
theorem said_11 (tx : ByteArray) (nm : Int) (K : Option Addr) (n c : Nat) (ps : Int) (w : World) (hs : tx.size ≤ 2000000) (hn : (Lit.int .i64 nm).wf = true) (hm : MxLen w) :
    Calls Tryd.prog 102 #[.agg (sayV 11 tx nm K n c ps)] w fun e w' => e = .returned (.bool (saidB 11 tx.data.toList nm)) ∧ Below w.heap.size w w' := by
  have b1 : Below w.heap.size w (w.alloc (.cells (sayV 11 tx nm K n c ps) 54)) := (Below.refl _ _).alloc (Nat.le_refl _) _
  have mm := hm.alloc (.cells (sayV 11 tx nm K n c ps) 54)
  have hw := wf64 hn
  have hp : saidB 11 tx.data.toList nm = (nm == 0 && goodB tx.data.toList) := rfl
  by_cases h0 : nm = 0
  · subst h0
    obtain ⟨b, hb⟩ : ∃ b, goodB tx.data.toList = b := ⟨_, rfl⟩
    have hN := good_calls tx (w.alloc (.cells (sayV 11 tx 0 K n c ps) 54)) hs
    rw [hb] at hN hp
    have HN := Lib.hid hN
    have HP := Lib.hid hp
    clear hN hp hb hm mm hn
    go_enter Tryd.func102, Tryd.ntmps102
    go_wp2_with (fail)
    refine HN.out.mono ?_
    rintro e w' ⟨rfl, b2⟩
    have b3 := b1.trans (b2.mono b1.size)
    clear b2
    go_wp2_with (fail)
    go_ret
    exact ⟨ret_val (by rw [HP.out]; simp), b3⟩
  · have e0 : (nm == 0) = false := by simpa using h0
    rw [e0] at hp
    have HP := Lib.hid hp
    clear hp hm mm h0 hn
    go_enter Tryd.func102, Tryd.ntmps102
    go_wp2_with (fail)
    go_ret
    exact ⟨ret_val (by rw [HP.out]; rfl), b1⟩

set_option maxRecDepth 100000 in
theorem said_82 (tx : ByteArray) (nm : Int) (K : Option Addr) (n c : Nat) (ps : Int) (w : World) (hs : tx.size ≤ 2000000) (hn : (Lit.int .i64 nm).wf = true) (hm : MxLen w) :
    Calls Tryd.prog 102 #[.agg (sayV 82 tx nm K n c ps)] w fun e w' => e = .returned (.bool (saidB 82 tx.data.toList nm)) ∧ Below w.heap.size w w' := by
  have b1 : Below w.heap.size w (w.alloc (.cells (sayV 82 tx nm K n c ps) 54)) := (Below.refl _ _).alloc (Nat.le_refl _) _
  have mm := hm.alloc (.cells (sayV 82 tx nm K n c ps) 54)
  have hw := wf64 hn
  have hp : saidB 82 tx.data.toList nm = (nm == 0 && goodB tx.data.toList) := rfl
  by_cases h0 : nm = 0
  · subst h0
    obtain ⟨b, hb⟩ : ∃ b, goodB tx.data.toList = b := ⟨_, rfl⟩
    have hN := good_calls tx (w.alloc (.cells (sayV 82 tx 0 K n c ps) 54)) hs
    rw [hb] at hN hp
    have HN := Lib.hid hN
    have HP := Lib.hid hp
    clear hN hp hb hm mm hn
    go_enter Tryd.func102, Tryd.ntmps102
    go_wp2_with (fail)
    refine HN.out.mono ?_
    rintro e w' ⟨rfl, b2⟩
    have b3 := b1.trans (b2.mono b1.size)
    clear b2
    go_wp2_with (fail)
    go_ret
    exact ⟨ret_val (by rw [HP.out]; simp), b3⟩
  · have e0 : (nm == 0) = false := by simpa using h0
    rw [e0] at hp
    have HP := Lib.hid hp
    clear hp hm mm h0 hn
    go_enter Tryd.func102, Tryd.ntmps102
    go_wp2_with (fail)
    go_ret
    exact ⟨ret_val (by rw [HP.out]; rfl), b1⟩

set_option maxRecDepth 100000 in
theorem said_23 (tx : ByteArray) (nm : Int) (K : Option Addr) (n c : Nat) (ps : Int) (w : World) (hs : tx.size ≤ 2000000) (hn : (Lit.int .i64 nm).wf = true) (hm : MxLen w) :
    Calls Tryd.prog 102 #[.agg (sayV 23 tx nm K n c ps)] w fun e w' => e = .returned (.bool (saidB 23 tx.data.toList nm)) ∧ Below w.heap.size w w' := by
  have b1 : Below w.heap.size w (w.alloc (.cells (sayV 23 tx nm K n c ps) 54)) := (Below.refl _ _).alloc (Nat.le_refl _) _
  have mm := hm.alloc (.cells (sayV 23 tx nm K n c ps) 54)
  have hw := wf64 hn
  have hp : saidB 23 tx.data.toList nm = (nm == 0 && amongB tx.data.toList sayL23.data.toList) := rfl
  by_cases h0 : nm = 0
  · subst h0
    obtain ⟨b, hb⟩ : ∃ b, amongB tx.data.toList sayL23.data.toList = b := ⟨_, rfl⟩
    have hN := among_calls tx sayL23 _ hs (by decide) mm
    rw [hb] at hN hp
    unfold sayL23 at hN
    have HN := Lib.hid hN
    have HP := Lib.hid hp
    clear hN hp hb hm mm hn
    go_enter Tryd.func102, Tryd.ntmps102
    go_wp2_with (fail)
    refine HN.out.mono ?_
    rintro e w' ⟨rfl, rfl⟩
    go_wp2_with (fail)
    go_ret
    exact ⟨ret_val (by rw [HP.out]; simp), b1⟩
  · have e0 : (nm == 0) = false := by simpa using h0
    rw [e0] at hp
    have HP := Lib.hid hp
    clear hp hm mm h0 hn
    go_enter Tryd.func102, Tryd.ntmps102
    go_wp2_with (fail)
    go_ret
    exact ⟨ret_val (by rw [HP.out]; rfl), b1⟩

set_option maxRecDepth 100000 in
theorem said_24 (tx : ByteArray) (nm : Int) (K : Option Addr) (n c : Nat) (ps : Int) (w : World) (hs : tx.size ≤ 2000000) (hn : (Lit.int .i64 nm).wf = true) (hm : MxLen w) :
    Calls Tryd.prog 102 #[.agg (sayV 24 tx nm K n c ps)] w fun e w' => e = .returned (.bool (saidB 24 tx.data.toList nm)) ∧ Below w.heap.size w w' := by
  have b1 : Below w.heap.size w (w.alloc (.cells (sayV 24 tx nm K n c ps) 54)) := (Below.refl _ _).alloc (Nat.le_refl _) _
  have mm := hm.alloc (.cells (sayV 24 tx nm K n c ps) 54)
  have hw := wf64 hn
  have hp : saidB 24 tx.data.toList nm = (nm == 0 && amongB tx.data.toList sayL24.data.toList) := rfl
  by_cases h0 : nm = 0
  · subst h0
    obtain ⟨b, hb⟩ : ∃ b, amongB tx.data.toList sayL24.data.toList = b := ⟨_, rfl⟩
    have hN := among_calls tx sayL24 _ hs (by decide) mm
    rw [hb] at hN hp
    unfold sayL24 at hN
    have HN := Lib.hid hN
    have HP := Lib.hid hp
    clear hN hp hb hm mm hn
    go_enter Tryd.func102, Tryd.ntmps102
    go_wp2_with (fail)
    refine HN.out.mono ?_
    rintro e w' ⟨rfl, rfl⟩
    go_wp2_with (fail)
    go_ret
    exact ⟨ret_val (by rw [HP.out]; simp), b1⟩
  · have e0 : (nm == 0) = false := by simpa using h0
    rw [e0] at hp
    have HP := Lib.hid hp
    clear hp hm mm h0 hn
    go_enter Tryd.func102, Tryd.ntmps102
    go_wp2_with (fail)
    go_ret
    exact ⟨ret_val (by rw [HP.out]; rfl), b1⟩

set_option maxRecDepth 100000 in
theorem said_26 (tx : ByteArray) (nm : Int) (K : Option Addr) (n c : Nat) (ps : Int) (w : World) (hs : tx.size ≤ 2000000) (hn : (Lit.int .i64 nm).wf = true) (hm : MxLen w) :
    Calls Tryd.prog 102 #[.agg (sayV 26 tx nm K n c ps)] w fun e w' => e = .returned (.bool (saidB 26 tx.data.toList nm)) ∧ Below w.heap.size w w' := by
  have b1 : Below w.heap.size w (w.alloc (.cells (sayV 26 tx nm K n c ps) 54)) := (Below.refl _ _).alloc (Nat.le_refl _) _
  have mm := hm.alloc (.cells (sayV 26 tx nm K n c ps) 54)
  have hw := wf64 hn
  have hp : saidB 26 tx.data.toList nm = (nm == 0 && amongB tx.data.toList sayL26.data.toList) := rfl
  by_cases h0 : nm = 0
  · subst h0
    obtain ⟨b, hb⟩ : ∃ b, amongB tx.data.toList sayL26.data.toList = b := ⟨_, rfl⟩
    have hN := among_calls tx sayL26 _ hs (by decide) mm
    rw [hb] at hN hp
    unfold sayL26 at hN
    have HN := Lib.hid hN
    have HP := Lib.hid hp
    clear hN hp hb hm mm hn
    go_enter Tryd.func102, Tryd.ntmps102
    go_wp2_with (fail)
    refine HN.out.mono ?_
    rintro e w' ⟨rfl, rfl⟩
    go_wp2_with (fail)
    go_ret
    exact ⟨ret_val (by rw [HP.out]; simp), b1⟩
  · have e0 : (nm == 0) = false := by simpa using h0
    rw [e0] at hp
    have HP := Lib.hid hp
    clear hp hm mm h0 hn
    go_enter Tryd.func102, Tryd.ntmps102
    go_wp2_with (fail)
    go_ret
    exact ⟨ret_val (by rw [HP.out]; rfl), b1⟩

set_option maxRecDepth 100000 in
theorem said_80 (tx : ByteArray) (nm : Int) (K : Option Addr) (n c : Nat) (ps : Int) (w : World) (hs : tx.size ≤ 2000000) (hn : (Lit.int .i64 nm).wf = true) (hm : MxLen w) :
    Calls Tryd.prog 102 #[.agg (sayV 80 tx nm K n c ps)] w fun e w' => e = .returned (.bool (saidB 80 tx.data.toList nm)) ∧ Below w.heap.size w w' := by
  have b1 : Below w.heap.size w (w.alloc (.cells (sayV 80 tx nm K n c ps) 54)) := (Below.refl _ _).alloc (Nat.le_refl _) _
  have mm := hm.alloc (.cells (sayV 80 tx nm K n c ps) 54)
  have hw := wf64 hn
  have hp : saidB 80 tx.data.toList nm = (nm == 0 && pathB tx.data.toList) := rfl
  by_cases h0 : nm = 0
  · subst h0
    obtain ⟨b, hb⟩ : ∃ b, pathB tx.data.toList = b := ⟨_, rfl⟩
    have hN := path_calls tx _ hs mm
    rw [hb] at hN hp
    have HN := Lib.hid hN
    have HP := Lib.hid hp
    clear hN hp hb hm mm hn
    go_enter Tryd.func102, Tryd.ntmps102
    go_wp2_with (fail)
    refine HN.out.mono ?_
    rintro e w' ⟨rfl, b2⟩
    have b3 := b1.trans (b2.mono b1.size)
    clear b2
    go_wp2_with (fail)
    go_ret
    exact ⟨ret_val (by rw [HP.out]; simp), b3⟩
  · have e0 : (nm == 0) = false := by simpa using h0
    rw [e0] at hp
    have HP := Lib.hid hp
    clear hp hm mm h0 hn
    go_enter Tryd.func102, Tryd.ntmps102
    go_wp2_with (fail)
    go_ret
    exact ⟨ret_val (by rw [HP.out]; rfl), b1⟩

set_option maxRecDepth 100000 in
theorem said_17 (tx : ByteArray) (nm : Int) (K : Option Addr) (n c : Nat) (ps : Int) (w : World) (hs : tx.size ≤ 2000000) (hn : (Lit.int .i64 nm).wf = true) (hm : MxLen w) :
    Calls Tryd.prog 102 #[.agg (sayV 17 tx nm K n c ps)] w fun e w' => e = .returned (.bool (saidB 17 tx.data.toList nm)) ∧ Below w.heap.size w w' := by
  have b1 : Below w.heap.size w (w.alloc (.cells (sayV 17 tx nm K n c ps) 54)) := (Below.refl _ _).alloc (Nat.le_refl _) _
  have mm := hm.alloc (.cells (sayV 17 tx nm K n c ps) 54)
  have hw := wf64 hn
  have hp : saidB 17 tx.data.toList nm = (nm == 0 && nameB tx.data.toList) := rfl
  by_cases h0 : nm = 0
  · subst h0
    obtain ⟨b, hb⟩ : ∃ b, nameB tx.data.toList = b := ⟨_, rfl⟩
    have hN := name_calls tx _ hs mm
    rw [hb] at hN hp
    have HN := Lib.hid hN
    have HP := Lib.hid hp
    clear hN hp hb hm mm hn
    go_enter Tryd.func102, Tryd.ntmps102
    go_wp2_with (fail)
    refine HN.out.mono ?_
    rintro e w' ⟨rfl, rfl⟩
    go_wp2_with (fail)
    go_ret
    exact ⟨ret_val (by rw [HP.out]; simp), b1⟩
  · have e0 : (nm == 0) = false := by simpa using h0
    rw [e0] at hp
    have HP := Lib.hid hp
    clear hp hm mm h0 hn
    go_enter Tryd.func102, Tryd.ntmps102
    go_wp2_with (fail)
    go_ret
    exact ⟨ret_val (by rw [HP.out]; rfl), b1⟩

set_option maxRecDepth 100000 in
theorem said_21 (tx : ByteArray) (nm : Int) (K : Option Addr) (n c : Nat) (ps : Int) (w : World) (hs : tx.size ≤ 2000000) (hn : (Lit.int .i64 nm).wf = true) (hm : MxLen w) :
    Calls Tryd.prog 102 #[.agg (sayV 21 tx nm K n c ps)] w fun e w' => e = .returned (.bool (saidB 21 tx.data.toList nm)) ∧ Below w.heap.size w w' := by
  have b1 : Below w.heap.size w (w.alloc (.cells (sayV 21 tx nm K n c ps) 54)) := (Below.refl _ _).alloc (Nat.le_refl _) _
  have mm := hm.alloc (.cells (sayV 21 tx nm K n c ps) 54)
  have hw := wf64 hn
  have hp : saidB 21 tx.data.toList nm = (nm == 0 && nameB tx.data.toList) := rfl
  by_cases h0 : nm = 0
  · subst h0
    obtain ⟨b, hb⟩ : ∃ b, nameB tx.data.toList = b := ⟨_, rfl⟩
    have hN := name_calls tx _ hs mm
    rw [hb] at hN hp
    have HN := Lib.hid hN
    have HP := Lib.hid hp
    clear hN hp hb hm mm hn
    go_enter Tryd.func102, Tryd.ntmps102
    go_wp2_with (fail)
    refine HN.out.mono ?_
    rintro e w' ⟨rfl, rfl⟩
    go_wp2_with (fail)
    go_ret
    exact ⟨ret_val (by rw [HP.out]; simp), b1⟩
  · have e0 : (nm == 0) = false := by simpa using h0
    rw [e0] at hp
    have HP := Lib.hid hp
    clear hp hm mm h0 hn
    go_enter Tryd.func102, Tryd.ntmps102
    go_wp2_with (fail)
    go_ret
    exact ⟨ret_val (by rw [HP.out]; rfl), b1⟩

set_option maxRecDepth 100000 in
theorem said_29 (tx : ByteArray) (nm : Int) (K : Option Addr) (n c : Nat) (ps : Int) (w : World) (hs : tx.size ≤ 2000000) (hn : (Lit.int .i64 nm).wf = true) (hm : MxLen w) :
    Calls Tryd.prog 102 #[.agg (sayV 29 tx nm K n c ps)] w fun e w' => e = .returned (.bool (saidB 29 tx.data.toList nm)) ∧ Below w.heap.size w w' := by
  have b1 : Below w.heap.size w (w.alloc (.cells (sayV 29 tx nm K n c ps) 54)) := (Below.refl _ _).alloc (Nat.le_refl _) _
  have mm := hm.alloc (.cells (sayV 29 tx nm K n c ps) 54)
  have hw := wf64 hn
  have hp : saidB 29 tx.data.toList nm = (nm == 0 && nameB tx.data.toList) := rfl
  by_cases h0 : nm = 0
  · subst h0
    obtain ⟨b, hb⟩ : ∃ b, nameB tx.data.toList = b := ⟨_, rfl⟩
    have hN := name_calls tx _ hs mm
    rw [hb] at hN hp
    have HN := Lib.hid hN
    have HP := Lib.hid hp
    clear hN hp hb hm mm hn
    go_enter Tryd.func102, Tryd.ntmps102
    go_wp2_with (fail)
    refine HN.out.mono ?_
    rintro e w' ⟨rfl, rfl⟩
    go_wp2_with (fail)
    go_ret
    exact ⟨ret_val (by rw [HP.out]; simp), b1⟩
  · have e0 : (nm == 0) = false := by simpa using h0
    rw [e0] at hp
    have HP := Lib.hid hp
    clear hp hm mm h0 hn
    go_enter Tryd.func102, Tryd.ntmps102
    go_wp2_with (fail)
    go_ret
    exact ⟨ret_val (by rw [HP.out]; rfl), b1⟩

set_option maxRecDepth 100000 in
theorem said_32 (tx : ByteArray) (nm : Int) (K : Option Addr) (n c : Nat) (ps : Int) (w : World) (hs : tx.size ≤ 2000000) (hn : (Lit.int .i64 nm).wf = true) (hm : MxLen w) :
    Calls Tryd.prog 102 #[.agg (sayV 32 tx nm K n c ps)] w fun e w' => e = .returned (.bool (saidB 32 tx.data.toList nm)) ∧ Below w.heap.size w w' := by
  have b1 : Below w.heap.size w (w.alloc (.cells (sayV 32 tx nm K n c ps) 54)) := (Below.refl _ _).alloc (Nat.le_refl _) _
  have mm := hm.alloc (.cells (sayV 32 tx nm K n c ps) 54)
  have hw := wf64 hn
  have hp : saidB 32 tx.data.toList nm = (nm == 0 && nameB tx.data.toList) := rfl
  by_cases h0 : nm = 0
  · subst h0
    obtain ⟨b, hb⟩ : ∃ b, nameB tx.data.toList = b := ⟨_, rfl⟩
    have hN := name_calls tx _ hs mm
    rw [hb] at hN hp
    have HN := Lib.hid hN
    have HP := Lib.hid hp
    clear hN hp hb hm mm hn
    go_enter Tryd.func102, Tryd.ntmps102
    go_wp2_with (fail)
    refine HN.out.mono ?_
    rintro e w' ⟨rfl, rfl⟩
    go_wp2_with (fail)
    go_ret
    exact ⟨ret_val (by rw [HP.out]; simp), b1⟩
  · have e0 : (nm == 0) = false := by simpa using h0
    rw [e0] at hp
    have HP := Lib.hid hp
    clear hp hm mm h0 hn
    go_enter Tryd.func102, Tryd.ntmps102
    go_wp2_with (fail)
    go_ret
    exact ⟨ret_val (by rw [HP.out]; rfl), b1⟩

set_option maxRecDepth 100000 in
theorem said_41 (tx : ByteArray) (nm : Int) (K : Option Addr) (n c : Nat) (ps : Int) (w : World) (hs : tx.size ≤ 2000000) (hn : (Lit.int .i64 nm).wf = true) (hm : MxLen w) :
    Calls Tryd.prog 102 #[.agg (sayV 41 tx nm K n c ps)] w fun e w' => e = .returned (.bool (saidB 41 tx.data.toList nm)) ∧ Below w.heap.size w w' := by
  have b1 : Below w.heap.size w (w.alloc (.cells (sayV 41 tx nm K n c ps) 54)) := (Below.refl _ _).alloc (Nat.le_refl _) _
  have mm := hm.alloc (.cells (sayV 41 tx nm K n c ps) 54)
  have hw := wf64 hn
  have hp : saidB 41 tx.data.toList nm = (nm == 0 && nameB tx.data.toList) := rfl
  by_cases h0 : nm = 0
  · subst h0
    obtain ⟨b, hb⟩ : ∃ b, nameB tx.data.toList = b := ⟨_, rfl⟩
    have hN := name_calls tx _ hs mm
    rw [hb] at hN hp
    have HN := Lib.hid hN
    have HP := Lib.hid hp
    clear hN hp hb hm mm hn
    go_enter Tryd.func102, Tryd.ntmps102
    go_wp2_with (fail)
    refine HN.out.mono ?_
    rintro e w' ⟨rfl, rfl⟩
    go_wp2_with (fail)
    go_ret
    exact ⟨ret_val (by rw [HP.out]; simp), b1⟩
  · have e0 : (nm == 0) = false := by simpa using h0
    rw [e0] at hp
    have HP := Lib.hid hp
    clear hp hm mm h0 hn
    go_enter Tryd.func102, Tryd.ntmps102
    go_wp2_with (fail)
    go_ret
    exact ⟨ret_val (by rw [HP.out]; rfl), b1⟩

set_option maxRecDepth 100000 in
theorem said_42 (tx : ByteArray) (nm : Int) (K : Option Addr) (n c : Nat) (ps : Int) (w : World) (hs : tx.size ≤ 2000000) (hn : (Lit.int .i64 nm).wf = true) (hm : MxLen w) :
    Calls Tryd.prog 102 #[.agg (sayV 42 tx nm K n c ps)] w fun e w' => e = .returned (.bool (saidB 42 tx.data.toList nm)) ∧ Below w.heap.size w w' := by
  have b1 : Below w.heap.size w (w.alloc (.cells (sayV 42 tx nm K n c ps) 54)) := (Below.refl _ _).alloc (Nat.le_refl _) _
  have mm := hm.alloc (.cells (sayV 42 tx nm K n c ps) 54)
  have hw := wf64 hn
  have hp : saidB 42 tx.data.toList nm = (nm == 0 && nameB tx.data.toList) := rfl
  by_cases h0 : nm = 0
  · subst h0
    obtain ⟨b, hb⟩ : ∃ b, nameB tx.data.toList = b := ⟨_, rfl⟩
    have hN := name_calls tx _ hs mm
    rw [hb] at hN hp
    have HN := Lib.hid hN
    have HP := Lib.hid hp
    clear hN hp hb hm mm hn
    go_enter Tryd.func102, Tryd.ntmps102
    go_wp2_with (fail)
    refine HN.out.mono ?_
    rintro e w' ⟨rfl, rfl⟩
    go_wp2_with (fail)
    go_ret
    exact ⟨ret_val (by rw [HP.out]; simp), b1⟩
  · have e0 : (nm == 0) = false := by simpa using h0
    rw [e0] at hp
    have HP := Lib.hid hp
    clear hp hm mm h0 hn
    go_enter Tryd.func102, Tryd.ntmps102
    go_wp2_with (fail)
    go_ret
    exact ⟨ret_val (by rw [HP.out]; rfl), b1⟩

set_option maxRecDepth 100000 in
theorem said_43 (tx : ByteArray) (nm : Int) (K : Option Addr) (n c : Nat) (ps : Int) (w : World) (hs : tx.size ≤ 2000000) (hn : (Lit.int .i64 nm).wf = true) (hm : MxLen w) :
    Calls Tryd.prog 102 #[.agg (sayV 43 tx nm K n c ps)] w fun e w' => e = .returned (.bool (saidB 43 tx.data.toList nm)) ∧ Below w.heap.size w w' := by
  have b1 : Below w.heap.size w (w.alloc (.cells (sayV 43 tx nm K n c ps) 54)) := (Below.refl _ _).alloc (Nat.le_refl _) _
  have mm := hm.alloc (.cells (sayV 43 tx nm K n c ps) 54)
  have hw := wf64 hn
  have hp : saidB 43 tx.data.toList nm = (nm == 0 && nameB tx.data.toList) := rfl
  by_cases h0 : nm = 0
  · subst h0
    obtain ⟨b, hb⟩ : ∃ b, nameB tx.data.toList = b := ⟨_, rfl⟩
    have hN := name_calls tx _ hs mm
    rw [hb] at hN hp
    have HN := Lib.hid hN
    have HP := Lib.hid hp
    clear hN hp hb hm mm hn
    go_enter Tryd.func102, Tryd.ntmps102
    go_wp2_with (fail)
    refine HN.out.mono ?_
    rintro e w' ⟨rfl, rfl⟩
    go_wp2_with (fail)
    go_ret
    exact ⟨ret_val (by rw [HP.out]; simp), b1⟩
  · have e0 : (nm == 0) = false := by simpa using h0
    rw [e0] at hp
    have HP := Lib.hid hp
    clear hp hm mm h0 hn
    go_enter Tryd.func102, Tryd.ntmps102
    go_wp2_with (fail)
    go_ret
    exact ⟨ret_val (by rw [HP.out]; rfl), b1⟩

set_option maxRecDepth 100000 in
theorem said_45 (tx : ByteArray) (nm : Int) (K : Option Addr) (n c : Nat) (ps : Int) (w : World) (hs : tx.size ≤ 2000000) (hn : (Lit.int .i64 nm).wf = true) (hm : MxLen w) :
    Calls Tryd.prog 102 #[.agg (sayV 45 tx nm K n c ps)] w fun e w' => e = .returned (.bool (saidB 45 tx.data.toList nm)) ∧ Below w.heap.size w w' := by
  have b1 : Below w.heap.size w (w.alloc (.cells (sayV 45 tx nm K n c ps) 54)) := (Below.refl _ _).alloc (Nat.le_refl _) _
  have mm := hm.alloc (.cells (sayV 45 tx nm K n c ps) 54)
  have hw := wf64 hn
  have hp : saidB 45 tx.data.toList nm = (nm == 0 && nameB tx.data.toList) := rfl
  by_cases h0 : nm = 0
  · subst h0
    obtain ⟨b, hb⟩ : ∃ b, nameB tx.data.toList = b := ⟨_, rfl⟩
    have hN := name_calls tx _ hs mm
    rw [hb] at hN hp
    have HN := Lib.hid hN
    have HP := Lib.hid hp
    clear hN hp hb hm mm hn
    go_enter Tryd.func102, Tryd.ntmps102
    go_wp2_with (fail)
    refine HN.out.mono ?_
    rintro e w' ⟨rfl, rfl⟩
    go_wp2_with (fail)
    go_ret
    exact ⟨ret_val (by rw [HP.out]; simp), b1⟩
  · have e0 : (nm == 0) = false := by simpa using h0
    rw [e0] at hp
    have HP := Lib.hid hp
    clear hp hm mm h0 hn
    go_enter Tryd.func102, Tryd.ntmps102
    go_wp2_with (fail)
    go_ret
    exact ⟨ret_val (by rw [HP.out]; rfl), b1⟩

set_option maxRecDepth 100000 in
theorem said_48 (tx : ByteArray) (nm : Int) (K : Option Addr) (n c : Nat) (ps : Int) (w : World) (hs : tx.size ≤ 2000000) (hn : (Lit.int .i64 nm).wf = true) (hm : MxLen w) :
    Calls Tryd.prog 102 #[.agg (sayV 48 tx nm K n c ps)] w fun e w' => e = .returned (.bool (saidB 48 tx.data.toList nm)) ∧ Below w.heap.size w w' := by
  have b1 : Below w.heap.size w (w.alloc (.cells (sayV 48 tx nm K n c ps) 54)) := (Below.refl _ _).alloc (Nat.le_refl _) _
  have mm := hm.alloc (.cells (sayV 48 tx nm K n c ps) 54)
  have hw := wf64 hn
  have hp : saidB 48 tx.data.toList nm = (nm == 0 && nameB tx.data.toList) := rfl
  by_cases h0 : nm = 0
  · subst h0
    obtain ⟨b, hb⟩ : ∃ b, nameB tx.data.toList = b := ⟨_, rfl⟩
    have hN := name_calls tx _ hs mm
    rw [hb] at hN hp
    have HN := Lib.hid hN
    have HP := Lib.hid hp
    clear hN hp hb hm mm hn
    go_enter Tryd.func102, Tryd.ntmps102
    go_wp2_with (fail)
    refine HN.out.mono ?_
    rintro e w' ⟨rfl, rfl⟩
    go_wp2_with (fail)
    go_ret
    exact ⟨ret_val (by rw [HP.out]; simp), b1⟩
  · have e0 : (nm == 0) = false := by simpa using h0
    rw [e0] at hp
    have HP := Lib.hid hp
    clear hp hm mm h0 hn
    go_enter Tryd.func102, Tryd.ntmps102
    go_wp2_with (fail)
    go_ret
    exact ⟨ret_val (by rw [HP.out]; rfl), b1⟩

set_option maxRecDepth 100000 in
theorem said_49 (tx : ByteArray) (nm : Int) (K : Option Addr) (n c : Nat) (ps : Int) (w : World) (hs : tx.size ≤ 2000000) (hn : (Lit.int .i64 nm).wf = true) (hm : MxLen w) :
    Calls Tryd.prog 102 #[.agg (sayV 49 tx nm K n c ps)] w fun e w' => e = .returned (.bool (saidB 49 tx.data.toList nm)) ∧ Below w.heap.size w w' := by
  have b1 : Below w.heap.size w (w.alloc (.cells (sayV 49 tx nm K n c ps) 54)) := (Below.refl _ _).alloc (Nat.le_refl _) _
  have mm := hm.alloc (.cells (sayV 49 tx nm K n c ps) 54)
  have hw := wf64 hn
  have hp : saidB 49 tx.data.toList nm = (nm == 0 && nameB tx.data.toList) := rfl
  by_cases h0 : nm = 0
  · subst h0
    obtain ⟨b, hb⟩ : ∃ b, nameB tx.data.toList = b := ⟨_, rfl⟩
    have hN := name_calls tx _ hs mm
    rw [hb] at hN hp
    have HN := Lib.hid hN
    have HP := Lib.hid hp
    clear hN hp hb hm mm hn
    go_enter Tryd.func102, Tryd.ntmps102
    go_wp2_with (fail)
    refine HN.out.mono ?_
    rintro e w' ⟨rfl, rfl⟩
    go_wp2_with (fail)
    go_ret
    exact ⟨ret_val (by rw [HP.out]; simp), b1⟩
  · have e0 : (nm == 0) = false := by simpa using h0
    rw [e0] at hp
    have HP := Lib.hid hp
    clear hp hm mm h0 hn
    go_enter Tryd.func102, Tryd.ntmps102
    go_wp2_with (fail)
    go_ret
    exact ⟨ret_val (by rw [HP.out]; rfl), b1⟩

set_option maxRecDepth 100000 in
theorem said_51 (tx : ByteArray) (nm : Int) (K : Option Addr) (n c : Nat) (ps : Int) (w : World) (hs : tx.size ≤ 2000000) (hn : (Lit.int .i64 nm).wf = true) (hm : MxLen w) :
    Calls Tryd.prog 102 #[.agg (sayV 51 tx nm K n c ps)] w fun e w' => e = .returned (.bool (saidB 51 tx.data.toList nm)) ∧ Below w.heap.size w w' := by
  have b1 : Below w.heap.size w (w.alloc (.cells (sayV 51 tx nm K n c ps) 54)) := (Below.refl _ _).alloc (Nat.le_refl _) _
  have mm := hm.alloc (.cells (sayV 51 tx nm K n c ps) 54)
  have hw := wf64 hn
  have hp : saidB 51 tx.data.toList nm = (nm == 0 && nameB tx.data.toList) := rfl
  by_cases h0 : nm = 0
  · subst h0
    obtain ⟨b, hb⟩ : ∃ b, nameB tx.data.toList = b := ⟨_, rfl⟩
    have hN := name_calls tx _ hs mm
    rw [hb] at hN hp
    have HN := Lib.hid hN
    have HP := Lib.hid hp
    clear hN hp hb hm mm hn
    go_enter Tryd.func102, Tryd.ntmps102
    go_wp2_with (fail)
    refine HN.out.mono ?_
    rintro e w' ⟨rfl, rfl⟩
    go_wp2_with (fail)
    go_ret
    exact ⟨ret_val (by rw [HP.out]; simp), b1⟩
  · have e0 : (nm == 0) = false := by simpa using h0
    rw [e0] at hp
    have HP := Lib.hid hp
    clear hp hm mm h0 hn
    go_enter Tryd.func102, Tryd.ntmps102
    go_wp2_with (fail)
    go_ret
    exact ⟨ret_val (by rw [HP.out]; rfl), b1⟩

set_option maxRecDepth 100000 in
theorem said_52 (tx : ByteArray) (nm : Int) (K : Option Addr) (n c : Nat) (ps : Int) (w : World) (hs : tx.size ≤ 2000000) (hn : (Lit.int .i64 nm).wf = true) (hm : MxLen w) :
    Calls Tryd.prog 102 #[.agg (sayV 52 tx nm K n c ps)] w fun e w' => e = .returned (.bool (saidB 52 tx.data.toList nm)) ∧ Below w.heap.size w w' := by
  have b1 : Below w.heap.size w (w.alloc (.cells (sayV 52 tx nm K n c ps) 54)) := (Below.refl _ _).alloc (Nat.le_refl _) _
  have mm := hm.alloc (.cells (sayV 52 tx nm K n c ps) 54)
  have hw := wf64 hn
  have hp : saidB 52 tx.data.toList nm = (nm == 0 && nameB tx.data.toList) := rfl
  by_cases h0 : nm = 0
  · subst h0
    obtain ⟨b, hb⟩ : ∃ b, nameB tx.data.toList = b := ⟨_, rfl⟩
    have hN := name_calls tx _ hs mm
    rw [hb] at hN hp
    have HN := Lib.hid hN
    have HP := Lib.hid hp
    clear hN hp hb hm mm hn
    go_enter Tryd.func102, Tryd.ntmps102
    go_wp2_with (fail)
    refine HN.out.mono ?_
    rintro e w' ⟨rfl, rfl⟩
    go_wp2_with (fail)
    go_ret
    exact ⟨ret_val (by rw [HP.out]; simp), b1⟩
  · have e0 : (nm == 0) = false := by simpa using h0
    rw [e0] at hp
    have HP := Lib.hid hp
    clear hp hm mm h0 hn
    go_enter Tryd.func102, Tryd.ntmps102
    go_wp2_with (fail)
    go_ret
    exact ⟨ret_val (by rw [HP.out]; rfl), b1⟩

set_option maxRecDepth 100000 in
theorem said_62 (tx : ByteArray) (nm : Int) (K : Option Addr) (n c : Nat) (ps : Int) (w : World) (hs : tx.size ≤ 2000000) (hn : (Lit.int .i64 nm).wf = true) (hm : MxLen w) :
    Calls Tryd.prog 102 #[.agg (sayV 62 tx nm K n c ps)] w fun e w' => e = .returned (.bool (saidB 62 tx.data.toList nm)) ∧ Below w.heap.size w w' := by
  have b1 : Below w.heap.size w (w.alloc (.cells (sayV 62 tx nm K n c ps) 54)) := (Below.refl _ _).alloc (Nat.le_refl _) _
  have mm := hm.alloc (.cells (sayV 62 tx nm K n c ps) 54)
  have hw := wf64 hn
  have hp : saidB 62 tx.data.toList nm = (nm == 0 && nameB tx.data.toList) := rfl
  by_cases h0 : nm = 0
  · subst h0
    obtain ⟨b, hb⟩ : ∃ b, nameB tx.data.toList = b := ⟨_, rfl⟩
    have hN := name_calls tx _ hs mm
    rw [hb] at hN hp
    have HN := Lib.hid hN
    have HP := Lib.hid hp
    clear hN hp hb hm mm hn
    go_enter Tryd.func102, Tryd.ntmps102
    go_wp2_with (fail)
    refine HN.out.mono ?_
    rintro e w' ⟨rfl, rfl⟩
    go_wp2_with (fail)
    go_ret
    exact ⟨ret_val (by rw [HP.out]; simp), b1⟩
  · have e0 : (nm == 0) = false := by simpa using h0
    rw [e0] at hp
    have HP := Lib.hid hp
    clear hp hm mm h0 hn
    go_enter Tryd.func102, Tryd.ntmps102
    go_wp2_with (fail)
    go_ret
    exact ⟨ret_val (by rw [HP.out]; rfl), b1⟩

set_option maxRecDepth 100000 in
theorem said_67 (tx : ByteArray) (nm : Int) (K : Option Addr) (n c : Nat) (ps : Int) (w : World) (hs : tx.size ≤ 2000000) (hn : (Lit.int .i64 nm).wf = true) (hm : MxLen w) :
    Calls Tryd.prog 102 #[.agg (sayV 67 tx nm K n c ps)] w fun e w' => e = .returned (.bool (saidB 67 tx.data.toList nm)) ∧ Below w.heap.size w w' := by
  have b1 : Below w.heap.size w (w.alloc (.cells (sayV 67 tx nm K n c ps) 54)) := (Below.refl _ _).alloc (Nat.le_refl _) _
  have mm := hm.alloc (.cells (sayV 67 tx nm K n c ps) 54)
  have hw := wf64 hn
  have hp : saidB 67 tx.data.toList nm = (nm == 0 && nameB tx.data.toList) := rfl
  by_cases h0 : nm = 0
  · subst h0
    obtain ⟨b, hb⟩ : ∃ b, nameB tx.data.toList = b := ⟨_, rfl⟩
    have hN := name_calls tx _ hs mm
    rw [hb] at hN hp
    have HN := Lib.hid hN
    have HP := Lib.hid hp
    clear hN hp hb hm mm hn
    go_enter Tryd.func102, Tryd.ntmps102
    go_wp2_with (fail)
    refine HN.out.mono ?_
    rintro e w' ⟨rfl, rfl⟩
    go_wp2_with (fail)
    go_ret
    exact ⟨ret_val (by rw [HP.out]; simp), b1⟩
  · have e0 : (nm == 0) = false := by simpa using h0
    rw [e0] at hp
    have HP := Lib.hid hp
    clear hp hm mm h0 hn
    go_enter Tryd.func102, Tryd.ntmps102
    go_wp2_with (fail)
    go_ret
    exact ⟨ret_val (by rw [HP.out]; rfl), b1⟩

set_option maxRecDepth 100000 in
theorem said_40 (tx : ByteArray) (nm : Int) (K : Option Addr) (n c : Nat) (ps : Int) (w : World) (hs : tx.size ≤ 2000000) (hn : (Lit.int .i64 nm).wf = true) (hm : MxLen w) :
    Calls Tryd.prog 102 #[.agg (sayV 40 tx nm K n c ps)] w fun e w' => e = .returned (.bool (saidB 40 tx.data.toList nm)) ∧ Below w.heap.size w w' := by
  have b1 : Below w.heap.size w (w.alloc (.cells (sayV 40 tx nm K n c ps) 54)) := (Below.refl _ _).alloc (Nat.le_refl _) _
  have mm := hm.alloc (.cells (sayV 40 tx nm K n c ps) 54)
  have hw := wf64 hn
  have hp : saidB 40 tx.data.toList nm = ((nm == 0 || nm == 1) && nameB tx.data.toList) := rfl
  have hb2 := shr1 nm hw.1 hw.2
  obtain ⟨t, ht⟩ : ∃ t, (nm == 0 || nm == 1) = t := ⟨_, rfl⟩
  rw [ht] at hp hb2
  cases t with
  | true =>
    obtain ⟨b, hb⟩ : ∃ b, nameB tx.data.toList = b := ⟨_, rfl⟩
    have hN := name_calls tx _ hs mm
    rw [hb] at hN hp
    have HN := Lib.hid hN
    have HP := Lib.hid hp
    clear hN hp hb hm mm hn ht
    go_enter Tryd.func102, Tryd.ntmps102
    go_wp2_with (fail)
    refine HN.out.mono ?_
    rintro e w' ⟨rfl, rfl⟩
    go_wp2_with (fail)
    go_ret
    exact ⟨ret_val (by rw [HP.out]; simp), b1⟩
  | false =>
    have HP := Lib.hid hp
    clear hp hm mm hn ht
    go_enter Tryd.func102, Tryd.ntmps102
    go_wp2_with (fail)
    go_ret
    exact ⟨ret_val (by rw [HP.out]; rfl), b1⟩

set_option maxRecDepth 100000 in
theorem said_56 (tx : ByteArray) (nm : Int) (K : Option Addr) (n c : Nat) (ps : Int) (w : World) (hs : tx.size ≤ 2000000) (hn : (Lit.int .i64 nm).wf = true) (hm : MxLen w) :
    Calls Tryd.prog 102 #[.agg (sayV 56 tx nm K n c ps)] w fun e w' => e = .returned (.bool (saidB 56 tx.data.toList nm)) ∧ Below w.heap.size w w' := by
  have b1 : Below w.heap.size w (w.alloc (.cells (sayV 56 tx nm K n c ps) 54)) := (Below.refl _ _).alloc (Nat.le_refl _) _
  have mm := hm.alloc (.cells (sayV 56 tx nm K n c ps) 54)
  have hw := wf64 hn
  have hp : saidB 56 tx.data.toList nm = ((nm == 0 || nm == 1) && nameB tx.data.toList) := rfl
  have hb2 := shr1 nm hw.1 hw.2
  obtain ⟨t, ht⟩ : ∃ t, (nm == 0 || nm == 1) = t := ⟨_, rfl⟩
  rw [ht] at hp hb2
  cases t with
  | true =>
    obtain ⟨b, hb⟩ : ∃ b, nameB tx.data.toList = b := ⟨_, rfl⟩
    have hN := name_calls tx _ hs mm
    rw [hb] at hN hp
    have HN := Lib.hid hN
    have HP := Lib.hid hp
    clear hN hp hb hm mm hn ht
    go_enter Tryd.func102, Tryd.ntmps102
    go_wp2_with (fail)
    refine HN.out.mono ?_
    rintro e w' ⟨rfl, rfl⟩
    go_wp2_with (fail)
    go_ret
    exact ⟨ret_val (by rw [HP.out]; simp), b1⟩
  | false =>
    have HP := Lib.hid hp
    clear hp hm mm hn ht
    go_enter Tryd.func102, Tryd.ntmps102
    go_wp2_with (fail)
    go_ret
    exact ⟨ret_val (by rw [HP.out]; rfl), b1⟩

set_option maxRecDepth 100000 in
theorem said_47 (tx : ByteArray) (nm : Int) (K : Option Addr) (n c : Nat) (ps : Int) (w : World) (hs : tx.size ≤ 2000000) (hn : (Lit.int .i64 nm).wf = true) (hm : MxLen w) :
    Calls Tryd.prog 102 #[.agg (sayV 47 tx nm K n c ps)] w fun e w' => e = .returned (.bool (saidB 47 tx.data.toList nm)) ∧ Below w.heap.size w w' := by
  have b1 : Below w.heap.size w (w.alloc (.cells (sayV 47 tx nm K n c ps) 54)) := (Below.refl _ _).alloc (Nat.le_refl _) _
  have mm := hm.alloc (.cells (sayV 47 tx nm K n c ps) 54)
  have hw := wf64 hn
  have hp : saidB 47 tx.data.toList nm = ((nm == 0 || nm == 1) && nameB tx.data.toList) := rfl
  have hb2 := shr1 nm hw.1 hw.2
  obtain ⟨t, ht⟩ : ∃ t, (nm == 0 || nm == 1) = t := ⟨_, rfl⟩
  rw [ht] at hp hb2
  cases t with
  | true =>
    obtain ⟨b, hb⟩ : ∃ b, nameB tx.data.toList = b := ⟨_, rfl⟩
    have hN := name_calls tx _ hs mm
    rw [hb] at hN hp
    have HN := Lib.hid hN
    have HP := Lib.hid hp
    clear hN hp hb hm mm hn ht
    go_enter Tryd.func102, Tryd.ntmps102
    go_wp2_with (fail)
    refine HN.out.mono ?_
    rintro e w' ⟨rfl, rfl⟩
    go_wp2_with (fail)
    go_ret
    exact ⟨ret_val (by rw [HP.out]; simp), b1⟩
  | false =>
    have HP := Lib.hid hp
    clear hp hm mm hn ht
    go_enter Tryd.func102, Tryd.ntmps102
    go_wp2_with (fail)
    go_ret
    exact ⟨ret_val (by rw [HP.out]; rfl), b1⟩

set_option maxRecDepth 100000 in
theorem said_85 (tx : ByteArray) (nm : Int) (K : Option Addr) (n c : Nat) (ps : Int) (w : World) (hs : tx.size ≤ 2000000) (hn : (Lit.int .i64 nm).wf = true) (hm : MxLen w) :
    Calls Tryd.prog 102 #[.agg (sayV 85 tx nm K n c ps)] w fun e w' => e = .returned (.bool (saidB 85 tx.data.toList nm)) ∧ Below w.heap.size w w' := by
  have b1 : Below w.heap.size w (w.alloc (.cells (sayV 85 tx nm K n c ps) 54)) := (Below.refl _ _).alloc (Nat.le_refl _) _
  have mm := hm.alloc (.cells (sayV 85 tx nm K n c ps) 54)
  have hw := wf64 hn
  have hp : saidB 85 tx.data.toList nm = ((nm == 0 || nm == 1) && nameB tx.data.toList) := rfl
  have hb2 := shr1 nm hw.1 hw.2
  obtain ⟨t, ht⟩ : ∃ t, (nm == 0 || nm == 1) = t := ⟨_, rfl⟩
  rw [ht] at hp hb2
  cases t with
  | true =>
    obtain ⟨b, hb⟩ : ∃ b, nameB tx.data.toList = b := ⟨_, rfl⟩
    have hN := name_calls tx _ hs mm
    rw [hb] at hN hp
    have HN := Lib.hid hN
    have HP := Lib.hid hp
    clear hN hp hb hm mm hn ht
    go_enter Tryd.func102, Tryd.ntmps102
    go_wp2_with (fail)
    refine HN.out.mono ?_
    rintro e w' ⟨rfl, rfl⟩
    go_wp2_with (fail)
    go_ret
    exact ⟨ret_val (by rw [HP.out]; simp), b1⟩
  | false =>
    have HP := Lib.hid hp
    clear hp hm mm hn ht
    go_enter Tryd.func102, Tryd.ntmps102
    go_wp2_with (fail)
    go_ret
    exact ⟨ret_val (by rw [HP.out]; rfl), b1⟩

set_option maxRecDepth 100000 in
theorem said_44 (tx : ByteArray) (nm : Int) (K : Option Addr) (n c : Nat) (ps : Int) (w : World) (hs : tx.size ≤ 2000000) (hn : (Lit.int .i64 nm).wf = true) (hm : MxLen w) :
    Calls Tryd.prog 102 #[.agg (sayV 44 tx nm K n c ps)] w fun e w' => e = .returned (.bool (saidB 44 tx.data.toList nm)) ∧ Below w.heap.size w w' := by
  have b1 : Below w.heap.size w (w.alloc (.cells (sayV 44 tx nm K n c ps) 54)) := (Below.refl _ _).alloc (Nat.le_refl _) _
  have mm := hm.alloc (.cells (sayV 44 tx nm K n c ps) 54)
  have hw := wf64 hn
  have hp : saidB 44 tx.data.toList nm = ((nm == 0 || nm == 4) && nameB tx.data.toList) := rfl
  have hb2 := andNot4 nm hw.1 hw.2
  obtain ⟨t, ht⟩ : ∃ t, (nm == 0 || nm == 4) = t := ⟨_, rfl⟩
  rw [ht] at hp hb2
  cases t with
  | true =>
    obtain ⟨b, hb⟩ : ∃ b, nameB tx.data.toList = b := ⟨_, rfl⟩
    have hN := name_calls tx _ hs mm
    rw [hb] at hN hp
    have HN := Lib.hid hN
    have HP := Lib.hid hp
    clear hN hp hb hm mm hn ht
    go_enter Tryd.func102, Tryd.ntmps102
    go_wp2_with (fail)
    refine HN.out.mono ?_
    rintro e w' ⟨rfl, rfl⟩
    go_wp2_with (fail)
    go_ret
    exact ⟨ret_val (by rw [HP.out]; simp), b1⟩
  | false =>
    have HP := Lib.hid hp
    clear hp hm mm hn ht
    go_enter Tryd.func102, Tryd.ntmps102
    go_wp2_with (fail)
    go_ret
    exact ⟨ret_val (by rw [HP.out]; rfl), b1⟩

set_option maxRecDepth 100000 in
theorem said_66 (tx : ByteArray) (nm : Int) (K : Option Addr) (n c : Nat) (ps : Int) (w : World) (hs : tx.size ≤ 2000000) (hn : (Lit.int .i64 nm).wf = true) (hm : MxLen w) :
    Calls Tryd.prog 102 #[.agg (sayV 66 tx nm K n c ps)] w fun e w' => e = .returned (.bool (saidB 66 tx.data.toList nm)) ∧ Below w.heap.size w w' := by
  have b1 : Below w.heap.size w (w.alloc (.cells (sayV 66 tx nm K n c ps) 54)) := (Below.refl _ _).alloc (Nat.le_refl _) _
  have mm := hm.alloc (.cells (sayV 66 tx nm K n c ps) 54)
  have hw := wf64 hn
  have hp : saidB 66 tx.data.toList nm = ((decide (0 ≤ nm) && decide (nm ≤ 7)) && nameB tx.data.toList) := rfl
  have hb2 := andNot7 nm hw.1 hw.2
  obtain ⟨t, ht⟩ : ∃ t, (decide (0 ≤ nm) && decide (nm ≤ 7)) = t := ⟨_, rfl⟩
  rw [ht] at hp hb2
  cases t with
  | true =>
    obtain ⟨b, hb⟩ : ∃ b, nameB tx.data.toList = b := ⟨_, rfl⟩
    have hN := name_calls tx _ hs mm
    rw [hb] at hN hp
    have HN := Lib.hid hN
    have HP := Lib.hid hp
    clear hN hp hb hm mm hn ht
    go_enter Tryd.func102, Tryd.ntmps102
    go_wp2_with (fail)
    refine HN.out.mono ?_
    rintro e w' ⟨rfl, rfl⟩
    go_wp2_with (fail)
    go_ret
    exact ⟨ret_val (by rw [HP.out]; simp), b1⟩
  | false =>
    have HP := Lib.hid hp
    clear hp hm mm hn ht
    go_enter Tryd.func102, Tryd.ntmps102
    go_wp2_with (fail)
    go_ret
    exact ⟨ret_val (by rw [HP.out]; rfl), b1⟩

set_option maxRecDepth 100000 in
theorem said_10 (tx : ByteArray) (nm : Int) (K : Option Addr) (n c : Nat) (ps : Int) (w : World) (hs : tx.size ≤ 2000000) (hn : (Lit.int .i64 nm).wf = true) (hm : MxLen w) :
    Calls Tryd.prog 102 #[.agg (sayV 10 tx nm K n c ps)] w fun e w' => e = .returned (.bool (saidB 10 tx.data.toList nm)) ∧ Below w.heap.size w w' := by
  have b1 : Below w.heap.size w (w.alloc (.cells (sayV 10 tx nm K n c ps) 54)) := (Below.refl _ _).alloc (Nat.le_refl _) _
  have mm := hm.alloc (.cells (sayV 10 tx nm K n c ps) 54)
  have hw := wf64 hn
  have hp : saidB 10 tx.data.toList nm = (tx.data.toList.isEmpty && decide (0 ≤ nm) && decide (nm ≤ 9007199254740991)) := rfl
  rw [← ByteArray.toList_eq] at hp
  have HP := Lib.hid hp
  clear hp hm mm hn
  go_enter Tryd.func102, Tryd.ntmps102
  go_wp2
  all_goals (go_ret; refine ⟨ret_val (congrArg Value.bool ?_), b1⟩)
  all_goals (rw [← ByteArray.toList_eq, HP.out]; simp [*]; try omega)

set_option maxRecDepth 100000 in
theorem said_81 (tx : ByteArray) (nm : Int) (K : Option Addr) (n c : Nat) (ps : Int) (w : World) (hs : tx.size ≤ 2000000) (hn : (Lit.int .i64 nm).wf = true) (hm : MxLen w) :
    Calls Tryd.prog 102 #[.agg (sayV 81 tx nm K n c ps)] w fun e w' => e = .returned (.bool (saidB 81 tx.data.toList nm)) ∧ Below w.heap.size w w' := by
  have b1 : Below w.heap.size w (w.alloc (.cells (sayV 81 tx nm K n c ps) 54)) := (Below.refl _ _).alloc (Nat.le_refl _) _
  have mm := hm.alloc (.cells (sayV 81 tx nm K n c ps) 54)
  have hw := wf64 hn
  have hp : saidB 81 tx.data.toList nm = (tx.data.toList.isEmpty && decide (-9007199254740991 ≤ nm) && decide (nm ≤ 9007199254740991)) := rfl
  rw [← ByteArray.toList_eq] at hp
  have HP := Lib.hid hp
  clear hp hm mm hn
  go_enter Tryd.func102, Tryd.ntmps102
  go_wp2
  all_goals (go_ret; refine ⟨ret_val (congrArg Value.bool ?_), b1⟩)
  all_goals (rw [← ByteArray.toList_eq, HP.out]; simp [*]; try omega)

theorem said_no_eq (kd : Int) (tx : List UInt8) (nm : Int) (hno : kd ∉ ([10, 81, 11, 82, 23, 24, 26, 80, 40, 56, 47, 85, 44, 66, 17, 21, 29, 32, 41, 42, 43, 45, 48, 49, 51, 52, 62, 67] : List Int)) : saidB kd tx nm = (nm == 0 && tx.isEmpty) := by
  simp only [List.mem_cons, List.not_mem_nil, or_false, not_or] at hno
  unfold saidB
  simp [hno]
set_option maxRecDepth 100000 in
theorem said_no (kd : Int) (hno : kd ∉ ([10, 81, 11, 82, 23, 24, 26, 80, 40, 56, 47, 85, 44, 66, 17, 21, 29, 32, 41, 42, 43, 45, 48, 49, 51, 52, 62, 67] : List Int)) (tx : ByteArray) (nm : Int) (K : Option Addr) (n c : Nat) (ps : Int) (w : World) :
    Calls Tryd.prog 102 #[.agg (sayV kd tx nm K n c ps)] w fun e w' => e = .returned (.bool (saidB kd tx.data.toList nm)) ∧ Below w.heap.size w w' := by
  have b1 : Below w.heap.size w (w.alloc (.cells (sayV kd tx nm K n c ps) 54)) := (Below.refl _ _).alloc (Nat.le_refl _) _
  have hp := said_no_eq kd tx.data.toList nm hno
  rw [← ByteArray.toList_eq] at hp
  have HP := Lib.hid hp
  have f10 : (kd == 10) = false := by rw [beq_eq_false_iff_ne]; intro e; subst e; exact hno (by decide)
  have f81 : (kd == 81) = false := by rw [beq_eq_false_iff_ne]; intro e; subst e; exact hno (by decide)
  have f11 : (kd == 11) = false := by rw [beq_eq_false_iff_ne]; intro e; subst e; exact hno (by decide)
  have f82 : (kd == 82) = false := by rw [beq_eq_false_iff_ne]; intro e; subst e; exact hno (by decide)
  have f23 : (kd == 23) = false := by rw [beq_eq_false_iff_ne]; intro e; subst e; exact hno (by decide)
  have f24 : (kd == 24) = false := by rw [beq_eq_false_iff_ne]; intro e; subst e; exact hno (by decide)
  have f26 : (kd == 26) = false := by rw [beq_eq_false_iff_ne]; intro e; subst e; exact hno (by decide)
  have f80 : (kd == 80) = false := by rw [beq_eq_false_iff_ne]; intro e; subst e; exact hno (by decide)
  have f40 : (kd == 40) = false := by rw [beq_eq_false_iff_ne]; intro e; subst e; exact hno (by decide)
  have f56 : (kd == 56) = false := by rw [beq_eq_false_iff_ne]; intro e; subst e; exact hno (by decide)
  have f47 : (kd == 47) = false := by rw [beq_eq_false_iff_ne]; intro e; subst e; exact hno (by decide)
  have f85 : (kd == 85) = false := by rw [beq_eq_false_iff_ne]; intro e; subst e; exact hno (by decide)
  have f44 : (kd == 44) = false := by rw [beq_eq_false_iff_ne]; intro e; subst e; exact hno (by decide)
  have f66 : (kd == 66) = false := by rw [beq_eq_false_iff_ne]; intro e; subst e; exact hno (by decide)
  have f17 : (kd == 17) = false := by rw [beq_eq_false_iff_ne]; intro e; subst e; exact hno (by decide)
  have f21 : (kd == 21) = false := by rw [beq_eq_false_iff_ne]; intro e; subst e; exact hno (by decide)
  have f29 : (kd == 29) = false := by rw [beq_eq_false_iff_ne]; intro e; subst e; exact hno (by decide)
  have f32 : (kd == 32) = false := by rw [beq_eq_false_iff_ne]; intro e; subst e; exact hno (by decide)
  have f41 : (kd == 41) = false := by rw [beq_eq_false_iff_ne]; intro e; subst e; exact hno (by decide)
  have f42 : (kd == 42) = false := by rw [beq_eq_false_iff_ne]; intro e; subst e; exact hno (by decide)
  have f43 : (kd == 43) = false := by rw [beq_eq_false_iff_ne]; intro e; subst e; exact hno (by decide)
  have f45 : (kd == 45) = false := by rw [beq_eq_false_iff_ne]; intro e; subst e; exact hno (by decide)
  have f48 : (kd == 48) = false := by rw [beq_eq_false_iff_ne]; intro e; subst e; exact hno (by decide)
  have f49 : (kd == 49) = false := by rw [beq_eq_false_iff_ne]; intro e; subst e; exact hno (by decide)
  have f51 : (kd == 51) = false := by rw [beq_eq_false_iff_ne]; intro e; subst e; exact hno (by decide)
  have f52 : (kd == 52) = false := by rw [beq_eq_false_iff_ne]; intro e; subst e; exact hno (by decide)
  have f62 : (kd == 62) = false := by rw [beq_eq_false_iff_ne]; intro e; subst e; exact hno (by decide)
  have f67 : (kd == 67) = false := by rw [beq_eq_false_iff_ne]; intro e; subst e; exact hno (by decide)
  clear hno hp
  go_enter Tryd.func102, Tryd.ntmps102
  by_cases h0 : nm = 0
  · subst h0
    go_wp2
    all_goals (go_ret; refine ⟨ret_val (congrArg Value.bool ?_), b1⟩)
    all_goals (rw [← ByteArray.toList_eq, HP.out]; simp [*])
  · have e0 : (nm == 0) = false := by simpa using h0
    clear h0
    go_wp2
    all_goals (go_ret; refine ⟨ret_val (congrArg Value.bool ?_), b1⟩)
    all_goals (rw [← ByteArray.toList_eq, HP.out]; simp [*])

theorem said_calls (kd : Int) (tx : ByteArray) (nm : Int) (K : Option Addr) (n c : Nat) (ps : Int) (w : World) (hs : tx.size ≤ 2000000) (hn : (Lit.int .i64 nm).wf = true) (hm : MxLen w) :
    Calls Tryd.prog 102 #[.agg (sayV kd tx nm K n c ps)] w fun e w' => e = .returned (.bool (saidB kd tx.data.toList nm)) ∧ Below w.heap.size w w' := by
  by_cases h : kd ∈ ([10, 81, 11, 82, 23, 24, 26, 80, 40, 56, 47, 85, 44, 66, 17, 21, 29, 32, 41, 42, 43, 45, 48, 49, 51, 52, 62, 67] : List Int)
  · simp only [List.mem_cons, List.not_mem_nil, or_false] at h
    rcases h with rfl | rfl | rfl | rfl | rfl | rfl | rfl | rfl | rfl | rfl | rfl | rfl | rfl | rfl | rfl | rfl | rfl | rfl | rfl | rfl | rfl | rfl | rfl | rfl | rfl | rfl | rfl | rfl
    · exact said_10 tx nm K n c ps w hs hn hm
    · exact said_81 tx nm K n c ps w hs hn hm
    · exact said_11 tx nm K n c ps w hs hn hm
    · exact said_82 tx nm K n c ps w hs hn hm
    · exact said_23 tx nm K n c ps w hs hn hm
    · exact said_24 tx nm K n c ps w hs hn hm
    · exact said_26 tx nm K n c ps w hs hn hm
    · exact said_80 tx nm K n c ps w hs hn hm
    · exact said_40 tx nm K n c ps w hs hn hm
    · exact said_56 tx nm K n c ps w hs hn hm
    · exact said_47 tx nm K n c ps w hs hn hm
    · exact said_85 tx nm K n c ps w hs hn hm
    · exact said_44 tx nm K n c ps w hs hn hm
    · exact said_66 tx nm K n c ps w hs hn hm
    · exact said_17 tx nm K n c ps w hs hn hm
    · exact said_21 tx nm K n c ps w hs hn hm
    · exact said_29 tx nm K n c ps w hs hn hm
    · exact said_32 tx nm K n c ps w hs hn hm
    · exact said_41 tx nm K n c ps w hs hn hm
    · exact said_42 tx nm K n c ps w hs hn hm
    · exact said_43 tx nm K n c ps w hs hn hm
    · exact said_45 tx nm K n c ps w hs hn hm
    · exact said_48 tx nm K n c ps w hs hn hm
    · exact said_49 tx nm K n c ps w hs hn hm
    · exact said_51 tx nm K n c ps w hs hn hm
    · exact said_52 tx nm K n c ps w hs hn hm
    · exact said_62 tx nm K n c ps w hs hn hm
    · exact said_67 tx nm K n c ps w hs hn hm
  · exact said_no kd h tx nm K n c ps w

end Go.Proofs.YtnepdjgbfhakmaaDoor
