/- Trees: marks by bits; isPlain. -/
import Derived.Test.YtnepdjgbfhakmaaDoorTree1
import Derived.Laws.BitsAllLaws
import Derived.Laws.Bits128
namespace Go.Proofs.YtnepdjgbfhakmaaDoor
set_option linter.unusedVariables false
set_option linter.unusedSimpArgs false
open Go.RowKit Go.Shelf
attribute [local go_sem] Oper.semAt_some

theorem bv_andNot {x m : BitVec 64} (h : x &&& ~~~m = 0#64) : x = x &&& m := by
  apply BitVec.eq_of_getLsbD_eq
  intro i hi
  have h1 := congrArg (fun b => b.getLsbD i) h
  simp only [BitVec.getLsbD_and, BitVec.getLsbD_not, hi, BitVec.getLsbD_zero, decide_true, Bool.true_and] at h1 ⊢
  cases hx : x.getLsbD i <;> cases hm : m.getLsbD i <;> simp_all

theorem bits_andNot (n : Int) (m : Nat) : bits .andNot .i64 n (m : Int) = IntKind.i64.wrap (((BitVec.ofInt 64 n &&& ~~~BitVec.ofInt 64 (m : Int)).toNat : Nat) : Int) := rfl
theorem wrap_zero {v : Nat} (hv : v < 18446744073709551616) (h : IntKind.i64.wrap (v : Int) = 0) : v = 0 := by
  rw [IntKind.wrap_i64] at h
  omega
theorem ofInt_small (n : Int) (h0 : -9223372036854775808 ≤ n) (h1 : n ≤ 9223372036854775807) (h : (BitVec.ofInt 64 n).toNat < 16) : 0 ≤ n ∧ n = ((BitVec.ofInt 64 n).toNat : Int) := by
  rw [BitVec.toNat_ofInt] at h ⊢
  omega

theorem andNot_of {n : Int} {m : Nat} (h0 : -9223372036854775808 ≤ n) (h1 : n ≤ 9223372036854775807) (hm : m < 16) (h : bits .andNot .i64 n (m : Int) = 0) : ∃ k : Nat, n = k ∧ k = k &&& m := by
  rw [bits_andNot] at h
  have hz := wrap_zero (BitVec.isLt _) h
  have hb : BitVec.ofInt 64 n &&& ~~~BitVec.ofInt 64 (m : Int) = 0#64 := BitVec.eq_of_toNat_eq (by rw [hz]; rfl)
  have he := congrArg BitVec.toNat (bv_andNot hb)
  rw [BitVec.toNat_and, show (BitVec.ofInt 64 (m : Int)).toNat = m from ofInt_u64 m (by omega)] at he
  have hle : (BitVec.ofInt 64 n).toNat ≤ m := by rw [he]; exact Nat.and_le_right
  have hn := ofInt_small n h0 h1 (by omega)
  exact ⟨_, hn.2, he⟩

theorem andNot1 (n : Int) (h0 : -9223372036854775808 ≤ n) (h1 : n ≤ 9223372036854775807) : (bits .andNot .i64 n 1 == 0) = (n == 0 || n == 1) := by
  rw [Bool.eq_iff_iff]
  simp only [beq_iff_eq, Bool.or_eq_true]
  constructor
  · intro h
    obtain ⟨k, rfl, hk⟩ := andNot_of (m := 1) h0 h1 (by decide) h
    have : k &&& 1 ≤ 1 := Nat.and_le_right
    omega
  · rintro (rfl | rfl) <;> decide +kernel
theorem andNot4 (n : Int) (h0 : -9223372036854775808 ≤ n) (h1 : n ≤ 9223372036854775807) : (bits .andNot .i64 n 4 == 0) = (n == 0 || n == 4) := by
  rw [Bool.eq_iff_iff]
  simp only [beq_iff_eq, Bool.or_eq_true]
  constructor
  · intro h
    obtain ⟨k, rfl, hk⟩ := andNot_of (m := 4) h0 h1 (by decide) h
    have h4 : k &&& 4 ≤ 4 := Nat.and_le_right
    have hk4 : k ≤ 4 := by omega
    have key : ∀ k ≤ 4, k = k &&& 4 → k = 0 ∨ k = 4 := by decide
    rcases key k hk4 hk with rfl | rfl
    · exact .inl rfl
    · exact .inr rfl
  · rintro (rfl | rfl) <;> decide +kernel
theorem andNot7 (n : Int) (h0 : -9223372036854775808 ≤ n) (h1 : n ≤ 9223372036854775807) : (bits .andNot .i64 n 7 == 0) = (decide (0 ≤ n) && decide (n ≤ 7)) := by
  rw [Bool.eq_iff_iff]
  simp only [beq_iff_eq, Bool.and_eq_true, decide_eq_true_eq]
  constructor
  · intro h
    obtain ⟨k, rfl, hk⟩ := andNot_of (m := 7) h0 h1 (by decide) h
    have h7 : k &&& 7 ≤ 7 := Nat.and_le_right
    omega
  · rintro ⟨h2, h3⟩
    obtain ⟨k, rfl⟩ := Int.eq_ofNat_of_zero_le h2
    have key : ∀ k ≤ 7, bits .andNot .i64 ((k : Nat) : Int) 7 = 0 := by decide +kernel
    exact key k (by omega)

theorem wf64 {n : Int} (h : (Lit.int .i64 n).wf = true) : -9223372036854775808 ≤ n ∧ n ≤ 9223372036854775807 := by
  simpa [Lit.wf, show IntKind.i64.min = -9223372036854775808 from rfl, show IntKind.i64.max = 9223372036854775807 from rfl] using h
set_option maxRecDepth 100000 in
theorem isPlain_calls (A : Option Addr) (c : Nat) (T : List Nd) (i : Nat) (x : Nd) (w : World) (hl : T.length ≤ 1000000000) (hx : T[i]? = some x) (hn : (Lit.int .i64 x.num).wf = true) (hT : TreeAt w A T) :
    Calls Tryd.prog 141 #[treeV A T.length c, .int .i64 i] w fun e w' => e = .returned (.bool (isPlainB x)) ∧ Below w.heap.size w w' := by
  obtain ⟨K, kc, ⟨a, rfl, c0, c1, c2, c3, c4⟩, hK⟩ := hT.alloc (.cells #[.slice A T.length c] 59) i x hx
  have hlt := (List.getElem?_eq_some_iff.1 hx).1
  have hw := wf64 hn
  have HB := Lib.hid (andNot1 x.num hw.1 hw.2)
  go_enter Tryd.func141, Tryd.ntmps141
  clear hx hT hn
  go_wp2
  all_goals (go_ret; refine ⟨ret_val (congrArg Value.bool ?_), (Below.refl _ _).alloc (Nat.le_refl _) _⟩)
  all_goals (unfold isPlainB; simp [*]; try exact HB.out)
end Go.Proofs.YtnepdjgbfhakmaaDoor
