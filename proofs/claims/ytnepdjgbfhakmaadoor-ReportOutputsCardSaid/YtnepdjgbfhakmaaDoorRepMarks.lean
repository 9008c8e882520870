/- The bytes of Output. -/
import Derived.Test.YtnepdjgbfhakmaaDoorLaw19
import Derived.Test.YtnepdjgbfhakmaaDoorQuoteLaw
namespace Go.Proofs.YtnepdjgbfhakmaaDoor
set_option linter.unusedVariables false
set_option linter.unusedSimpArgs false
open Go.RowKit Go.Shelf

/-- A byte that neither ends a line nor moves in it. -/
def plainB (c : UInt8) : Bool := c != 9 && c != 10 && c != 13
def plainL (l : List UInt8) : Bool := l.all plainB
theorem plainL_append (a b : List UInt8) : plainL (a ++ b) = (plainL a && plainL b) := by simp [plainL]
theorem plain_small : ∀ r < 128, r ≠ 10 → plainL (showR r) = true := by decide +kernel
theorem plain_showR (r : Nat) (h : r ≠ 10) : plainL (showR r) = true := by
  by_cases h1 : r < 128
  · exact plain_small r h1 h
  · unfold showR
    rw [if_neg (by omega), if_neg (by omega)]
    unfold plainL
    rw [List.all_eq_true]
    intro c hc
    have := runeB_ge r (by omega) c hc
    have e : ∀ n : UInt8, n.toNat < 128 → (c != n) = true := fun n hn => by
      rw [bne_iff_ne]; rintro rfl; omega
    unfold plainB
    rw [e 9 (by decide), e 10 (by decide), e 13 (by decide)]; rfl

theorem wideN_cases (c : Nat) : (wideN c = 1 ∧ wideR c = c) ∨ wideN c ≠ 1 := by
  unfold wideN wideR
  split
  · exact .inl ⟨rfl, rfl⟩
  · right; repeat' split
    all_goals omega
theorem dec_ten (b : UInt8) (t : List UInt8) (h : (dec (b :: t)).1 = 10) : b.toNat = 10 := by
  simp only [dec] at h
  split at h
  · cases h
  · split at h
    · cases h
    · rename_i hn r hc
      split at h
      · rename_i hf
        simp only at h
        subst h
        rcases wideN_cases b.toNat with ⟨h1, h2⟩ | h1
        · rw [h1, h2] at hc
          simpa [conts] using hc
        · unfold fitsB at hf
          rw [if_neg h1] at hf
          split at hf
          · simp at hf
          · split at hf
            · simp at hf
            · simp at hf
      · cases h
theorem runesF_ten : ∀ (k i : Nat) (bs : List UInt8), (∀ c ∈ bs, c.toNat ≠ 10) → ∀ x ∈ runesF k i bs, x.2 ≠ 10
  | 0, _, _, _ => by simp [runesF]
  | _ + 1, _, [], _ => by simp [runesF]
  | k + 1, i, b :: t, h => by
    intro x hx
    simp only [runesF, List.mem_cons] at hx
    rcases hx with rfl | hx
    · exact fun e => h b (by simp) (dec_ten b t e)
    · exact runesF_ten k _ _ (fun c hc => h c (List.drop_subset _ _ hc)) x hx
theorem plain_showP (q : List UInt8) (h : ∀ c ∈ q, c.toNat ≠ 10) : plainL (showP (runes q)) = true := by
  unfold plainL showP
  rw [List.all_eq_true]
  intro c hc
  obtain ⟨x, hx, hcx⟩ := List.mem_flatMap.1 hc
  have := plain_showR x.2 (runesF_ten _ _ _ h x hx)
  exact List.all_eq_true.1 this c hcx

/-- A line holds no line's end. -/
theorem linesF_plain (bs : List UInt8) : ∀ (l : List UInt8) (i f : Nat), bs.drop i = l → f ≤ i → i ≤ bs.length → (∀ c ∈ (bs.drop f).take (i - f), c.toNat ≠ 10) → ∀ x ∈ linesF l i f, ∀ c ∈ cutL bs x, c.toNat ≠ 10
  | [], i, f, h, hf, hi, hp, x, hx => by
    simp [linesF] at hx
    subst hx
    exact hp
  | d :: t, i, f, h, hf, hi, hp, x, hx => by
    have hl := congrArg List.length h
    simp at hl
    have ht : bs.drop (i + 1) = t := by rw [← List.drop_drop, h]; rfl
    rw [linesF] at hx
    split at hx
    · rcases List.mem_cons.1 hx with rfl | hx
      · exact hp
      · exact linesF_plain bs t (i + 1) (i + 1) ht (Nat.le_refl _) (by omega) (by simp) x hx
    · rename_i hd
      refine linesF_plain bs t (i + 1) f ht (by omega) (by omega) (fun c hc => ?_) x hx
      have e : (bs.drop f).take (i + 1 - f) = (bs.drop f).take (i - f) ++ [d] := by
        rw [show i + 1 - f = (i - f) + 1 by omega, List.take_add, List.drop_drop, show f + (i - f) = i by omega, h]
        rfl
      rw [e, List.mem_append] at hc
      rcases hc with hc | hc
      · exact hp c hc
      · simp at hc; subst hc; exact hd
theorem line_plain {bs : List UInt8} {k : Nat} {x : Nat × Nat} (h : (lines bs)[k]? = some x) : ∀ c ∈ cutL bs x, c.toNat ≠ 10 :=
  linesF_plain bs bs 0 0 rfl (Nat.le_refl _) (Nat.zero_le _) (by simp) x (List.mem_of_getElem? h)

theorem plain_dec : ∀ (n : Nat), plainL (Lib.decDigits n) = true := fun n => by
  induction n using Nat.strongRecOn with
  | _ n ih =>
    have hb : ∀ r < 10, plainB (UInt8.ofNat (48 + r)) = true := by decide
    by_cases h : n < 10
    · rw [dd_small h]; unfold plainL; rw [List.all_cons, hb n h]; rfl
    · rw [dd_big h, plainL_append, ih (n / 10) (by omega)]
      unfold plainL; rw [List.all_cons, hb (n % 10) (Nat.mod_lt _ (by decide))]; rfl
theorem plain_itoa (n : Nat) : plainL (Lib.itoa n) = true := by
  unfold Lib.itoa; rw [if_neg (by omega)]; simpa using plain_dec n
theorem plain_repeat : ∀ c : Nat, plainL (Lib.repeatL [32] c) = true
  | 0 => rfl
  | c + 1 => by rw [Lib.repeatL, plainL_append, plain_repeat c]; decide

/-- Three lines, the last one ends in a mark. -/
theorem out_bytes (bs : List UInt8) (at_ : Int) : ∃ a b c : List UInt8, plainL a = true ∧ plainL b = true ∧ plainL c = true ∧ (outS bs 8 at_ ⟨#[]⟩).data.toList = a ++ [10] ++ b ++ [10] ++ c ++ [94, 10] := by
  have hpb := place_bounds bs at_
  obtain ⟨ln, hln⟩ : ∃ ln, (placeL bs at_).1 = ln := ⟨_, rfl⟩
  obtain ⟨cl, hcl⟩ : ∃ cl, (placeL bs at_).2 = cl := ⟨_, rfl⟩
  unfold outS headS showS markS
  rw [if_neg (by decide), hln, hcl]
  rw [hln] at hpb
  obtain ⟨k, rfl⟩ : ∃ k, ln = k + 1 := ⟨ln - 1, by omega⟩
  obtain ⟨x, hx⟩ : ∃ x, (lines bs)[k]? = some x := ⟨_, List.getElem?_eq_getElem (by omega)⟩
  have hlB : lineB bs (k + 1) = cutL bs x := by
    unfold lineB
    rw [show ((k + 1 : Nat) : Int) = (k : Int) + 1 by simp, lineAt_cut hx]
  rw [hlB]
  refine ⟨Lib.itoa (k + 1 : Nat) ++ [58] ++ Lib.itoa cl ++ [58, 32] ++ (wordL 8).data.toList, showP (runes (cutL bs x)), Lib.repeatL [32] (cl - 1), ?_, plain_showP _ (line_plain hx), plain_repeat _, ?_⟩
  · rw [plainL_append, plainL_append, plainL_append, plainL_append, plain_itoa, plain_itoa]
    decide +kernel
  · simp [rowsL]

theorem plain_count {l : List UInt8} (h : plainL l = true) : l.count 10 = 0 := by
  rw [List.count_eq_zero]
  intro hm
  have := List.all_eq_true.1 h 10 hm
  exact absurd this (by decide)
theorem out_counts (bs : List UInt8) (at_ : Int) : (outS bs 8 at_ ⟨#[]⟩).data.toList.count 10 = 3 ∧ (∀ c ∈ (outS bs 8 at_ ⟨#[]⟩).data.toList, c ≠ 9 ∧ c ≠ 13) ∧ 2 ≤ (outS bs 8 at_ ⟨#[]⟩).size ∧ (outS bs 8 at_ ⟨#[]⟩).extract ((outS bs 8 at_ ⟨#[]⟩).size - 2) (outS bs 8 at_ ⟨#[]⟩).size = ⟨#[94, 10]⟩ := by
  obtain ⟨a, b, c, ha, hb, hc, he⟩ := out_bytes bs at_
  generalize outS bs 8 at_ ⟨#[]⟩ = s at *
  have hsz : s.size = (a ++ [10] ++ b ++ [10] ++ c).length + 2 := by
    have h1 := congrArg List.length he
    have h2 : s.data.toList.length = s.size := rfl
    rw [List.length_append] at h1
    rw [← h2, h1]; rfl
  refine ⟨?_, ?_, by omega, ?_⟩
  · rw [he]
    simp [plain_count ha, plain_count hb, plain_count hc]
  · rw [he]
    intro d hd
    have key : ∀ l : List UInt8, plainL l = true → d ∈ l → d ≠ 9 ∧ d ≠ 13 := fun l hl hm => by
      have := List.all_eq_true.1 hl d hm
      simp [plainB] at this
      exact ⟨this.1.1, this.2⟩
    simp only [List.mem_append, List.mem_cons, List.not_mem_nil, or_false] at hd
    rcases hd with ((((hd | hd) | hd) | hd) | hd) | hd
    · exact key _ ha hd
    · subst hd; decide
    · exact key _ hb hd
    · subst hd; decide
    · exact key _ hc hd
    · rcases hd with hd | hd <;> subst hd <;> decide
  · apply ByteArray.ext
    apply Array.ext'
    rw [Lib.extract_data, he, hsz]
    simp
theorem out_size (bs : List UInt8) (e at_ : Int) (tx : ByteArray) (h : bs.length ≤ 100000) (ht : tx.size ≤ 1000000) : (outS bs e at_ tx).size ≤ 2000000 := by
  by_cases he : e = 0
  · unfold outS; rw [if_pos he]; omega
  have hpb := place_bounds bs at_
  have hlc : (lines bs).length ≤ 100001 := by have h1 := lines_count bs; have h2 := List.count_le_length (a := (10 : UInt8)) (l := bs); omega
  obtain ⟨ln, hln⟩ : ∃ ln, (placeL bs at_).1 = ln := ⟨_, rfl⟩
  obtain ⟨cl, hcl⟩ : ∃ cl, (placeL bs at_).2 = cl := ⟨_, rfl⟩
  have h1 := itoa_small (placeL bs at_).1 (by omega)
  have h2 := itoa_small (placeL bs at_).2 (by omega)
  have h3 := word_small e
  unfold outS headS showS markS
  rw [if_neg he]
  rw [hln] at hpb h1
  rw [hcl] at hpb h2
  rw [hln, hcl]
  obtain ⟨k, rfl⟩ : ∃ k, ln = k + 1 := ⟨ln - 1, by omega⟩
  obtain ⟨x, hx⟩ : ∃ x, (lines bs)[k]? = some x := ⟨_, List.getElem?_eq_getElem (by omega)⟩
  have hlB : lineB bs (k + 1) = cutL bs x := by
    unfold lineB
    rw [show ((k + 1 : Nat) : Int) = (k : Int) + 1 by simp, lineAt_cut hx]
  rw [hlB]
  have h4 := showP_length (runes (cutL bs x))
  have h5 := runes_length (cutL bs x)
  have h6 : (cutL bs x).length ≤ bs.length := by simp [cutL]; omega
  have h7 := Lib.repeatL_length [32] (cl - 1)
  generalize showP (runes (cutL bs x)) = S at *
  generalize Lib.repeatL [32] (cl - 1) = R at *
  show (rowsL _).toArray.size ≤ _
  rw [List.size_toArray]
  have q1 : ∀ a : ByteArray, a.data.toList.length = a.size := fun _ => rfl
  simp only [rowsL, List.flatMap_cons, List.flatMap_nil, List.length_append, List.length_singleton, List.append_nil, q1, ByteArray.size_append]
  have q2 : (⟨S.toArray⟩ : ByteArray).size = S.length := by show S.toArray.size = _; simp
  have q3 : (⟨R.toArray⟩ : ByteArray).size = R.length := by show R.toArray.size = _; simp
  rw [q3, h7]
  have q4 : (⟨#[58]⟩ : ByteArray).size = 1 := rfl
  have q5 : (⟨#[58, 32]⟩ : ByteArray).size = 2 := rfl
  have q6 : (⟨#[94]⟩ : ByteArray).size = 1 := rfl
  rw [q4, q5, q6]
  simp only [List.length_singleton]
  omega
end Go.Proofs.YtnepdjgbfhakmaaDoor
