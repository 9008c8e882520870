/- Lines and columns: what text.Place answers, in plain words. -/
import Derived.Test.YtnepdjgbfhakmaaDoorText2
namespace Go.Proofs.YtnepdjgbfhakmaaDoor
set_option linter.unusedVariables false
set_option linter.unusedSimpArgs false

/-- The line, and where it begins, behind the bytes of a list. -/
def nl : List UInt8 → Nat → Nat × Nat → Nat × Nat
  | [], _, s => s
  | c :: t, i, s => nl t (i + 1) (if c.toNat = 10 then (s.1 + 1, i + 1) else s)

/-- How many runes end at a or ahead of it. -/
def colF : Nat → Nat → List UInt8 → Nat → Nat
  | 0, _, _, _ => 0
  | k + 1, p, l, a => if p < a then (if p + (dec l).2.1 ≤ a then 1 else 0) + colF k (p + (dec l).2.1) (l.drop (dec l).2.1) a else 0

def clampN (bs : List UInt8) (i : Int) : Nat := min i.toNat bs.length
def placeL (bs : List UInt8) (i : Int) : Nat × Nat :=
  ((nl (bs.take (clampN bs i)) 0 (1, 0)).1, 1 + colF bs.length (nl (bs.take (clampN bs i)) 0 (1, 0)).2 (bs.drop (nl (bs.take (clampN bs i)) 0 (1, 0)).2) (clampN bs i))

theorem nl_bound : ∀ (l : List UInt8) (i : Nat) (s : Nat × Nat), s.2 ≤ i → (nl l i s).2 ≤ i + l.length ∧ (nl l i s).1 ≤ s.1 + l.length ∧ s.1 ≤ (nl l i s).1
  | [], i, s, h => by simp [nl]; omega
  | c :: t, i, s, h => by
    simp only [nl, List.length_cons]
    split
    · have := nl_bound t (i + 1) (s.1 + 1, i + 1) (by simp)
      simp only at this; omega
    · have := nl_bound t (i + 1) s (by omega)
      omega
theorem nl_drop (l : List UInt8) (k : Nat) (s : Nat × Nat) (h : k < l.length) : nl (l.drop k) k s = nl (l.drop (k + 1)) (k + 1) (if gb l k = 10 then (s.1 + 1, k + 1) else s) := by
  rw [List.drop_eq_getElem_cons h, nl]
  have : gb l k = l[k].toNat := by simp [gb, List.getD, h]
  rw [this]

theorem runesF_ge : ∀ (k p : Nat) (l : List UInt8), ∀ x ∈ runesF k p l, p ≤ x.1
  | 0, _, _ => by simp [runesF]
  | _ + 1, _, [] => by simp [runesF]
  | k + 1, p, b :: t => by
    intro x hx
    simp only [runesF, List.mem_cons] at hx
    rcases hx with rfl | hx
    · exact Nat.le_refl _
    · have := runesF_ge k _ _ x hx; omega

theorem tw_none {l : List (Nat × Nat)} {a : Nat} (h : ∀ x ∈ l, a < x.1) : (l.takeWhile fun x => decide (x.1 ≤ a)).length = 0 := by
  cases l with
  | nil => rfl
  | cons x t =>
    have := h x (by simp)
    rw [List.takeWhile_cons]; simp; omega

/-- Ends of runes, and beginnings of those behind the first. -/
theorem colF_eq : ∀ (k p : Nat) (l : List UInt8) (a : Nat), l ≠ [] → l.length ≤ k → p ≤ a → a ≤ p + l.length →
    colF k p l a = ((runesF k p l).tail.takeWhile fun x => decide (x.1 ≤ a)).length + if a = p + l.length then 1 else 0
  | 0, _, l, _, hl, hk, _, _ => by cases l <;> simp at hl hk
  | k + 1, p, l, a, hl, hk, hp, ha => by
    have hd := dec_size' l hl
    rw [colF, runesF_cons (k + 1) p l hl hk, List.tail_cons]
    obtain ⟨n, hn⟩ : ∃ n, n = (dec l).2.1 := ⟨_, rfl⟩
    rw [← hn] at hd ⊢
    have hge := runesF_ge (k + 1) (p + n) (l.drop n)
    by_cases hpa : p < a
    · rw [if_pos hpa]
      by_cases hl' : l.drop n = []
      · have hln : n = l.length := by
          have := congrArg List.length hl'; simp at this; omega
        rw [hl', runesF_nil]
        have hc : colF k (p + n) [] a = 0 := by
          cases k with
          | zero => rfl
          | succ k => simp [colF]; omega
        rw [hc, hln]
        by_cases h : a = p + l.length
        · rw [if_pos (by omega), if_pos h]; simp
        · rw [if_neg (by omega), if_neg h]; simp
      · by_cases hpn : p + n ≤ a
        · rw [if_pos hpn, colF_eq k (p + n) (l.drop n) a hl' (by rw [List.length_drop]; omega) hpn (by rw [List.length_drop]; omega)]
          rw [runesF_fuel k (k + 1) _ _ (by rw [List.length_drop]; omega) (by rw [List.length_drop]; omega)]
          have hx := runesF_cons (k + 1) (p + n) (l.drop n) hl' (by rw [List.length_drop]; omega)
          have htw : ∀ (x : Nat × Nat) (r : List (Nat × Nat)), x.1 ≤ a → ((x :: r).takeWhile fun x => decide (x.1 ≤ a)).length = (r.takeWhile fun x => decide (x.1 ≤ a)).length + 1 := by
            intro x r h; rw [List.takeWhile_cons, if_pos (by simpa using h), List.length_cons]
          rw [hx, List.tail_cons, htw _ _ hpn, List.length_drop]
          by_cases h : a = p + l.length
          · rw [if_pos h, if_pos (by omega)]; omega
          · rw [if_neg h, if_neg (by omega)]; omega
        · rw [if_neg hpn]
          have hc : colF k (p + n) (l.drop n) a = 0 := by
            cases k with
            | zero => rfl
            | succ k => rw [colF, if_neg (by omega)]
          rw [hc, tw_none (fun x hx => by have := hge x hx; omega), if_neg (by omega)]
    · rw [if_neg hpa, tw_none (fun x hx => by have := hge x hx; omega), if_neg (by
        have : l.length ≠ 0 := fun h => hl (List.eq_nil_of_length_eq_zero h)
        omega)]

theorem runesF_shift (p : Nat) : ∀ (k q : Nat) (l : List UInt8), runesF k (p + q) l = (runesF k q l).map fun x => (p + x.1, x.2)
  | 0, _, _ => rfl
  | _ + 1, _, [] => rfl
  | k + 1, q, b :: t => by
    simp only [runesF, List.map_cons]
    rw [show p + q + (dec (b :: t)).2.1 = p + (q + (dec (b :: t)).2.1) by omega, runesF_shift p k]

theorem runesF_lt : ∀ (k p : Nat) (l : List UInt8), ∀ x ∈ runesF k p l, x.1 < p + l.length
  | 0, _, _ => by simp [runesF]
  | _ + 1, _, [] => by simp [runesF]
  | k + 1, p, b :: t => by
    intro x hx
    have hd := dec_size b t
    simp only [runesF, List.mem_cons] at hx
    rcases hx with rfl | hx
    · simp
    · have := runesF_lt k _ _ x hx
      simp only [List.length_drop, List.length_cons] at *
      omega
theorem runes_lt (l : List UInt8) : ∀ x ∈ runes l, x.1 < l.length := fun x hx => by have := runesF_lt l.length 0 l x hx; omega

theorem tw_all {l : List (Nat × Nat)} {a : Nat} (h : ∀ x ∈ l, x.1 ≤ a) : (l.takeWhile fun x => decide (x.1 ≤ a)) = l := by
  have := List.takeWhile_append_of_pos (p := fun x : Nat × Nat => decide (x.1 ≤ a)) (l₁ := l) (l₂ := []) (by intro x hx; simpa using h x hx)
  simpa using this

theorem runes_ne {l : List UInt8} (h : l ≠ []) : runes l ≠ [] := by
  unfold runes; rw [runesF_cons _ _ l h (Nat.le_refl _)]; simp

theorem col_done (k fr a : Nat) (l : List UInt8) (hk : l.length ≤ k) (hfr : fr ≤ a) (ha : a ≤ fr + l.length) (ht : ∀ x ∈ (runes l).tail, fr + x.1 ≤ a) :
    colF k fr l a = ((runes l).length - 1) + if a = fr + l.length ∧ runes l ≠ [] then 1 else 0 := by
  by_cases hl : l = []
  · subst hl
    simp at ha
    have : colF k fr [] a = 0 := by
      cases k with
      | zero => rfl
      | succ k => rw [colF, if_neg (by omega)]
    rw [this]; simp [runes, runesF]
  · rw [colF_eq k fr l a hl hk hfr ha, runesF_fuel k l.length fr l hk (Nat.le_refl _), show fr = fr + 0 from rfl, runesF_shift fr l.length 0 l, ← List.map_tail, tw_all ?_]
    · have hne : ¬ runes l = [] := runes_ne hl
      simp [runes] at hne ⊢
      simp [hne]
    · intro x hx
      rw [List.mem_map] at hx
      obtain ⟨y, hy, rfl⟩ := hx
      have := ht y hy
      simpa using this

theorem col_stop (k fr a : Nat) (l : List UInt8) (q : List (Nat × Nat)) (x : Nat × Nat) (hk : l.length ≤ k) (hfr : fr ≤ a) (hp : q ++ [x] <+: runes l) (hq : q ≠ []) (ht : ∀ y ∈ q.tail, fr + y.1 ≤ a) (hx : a < fr + x.1) :
    colF k fr l a = q.length - 1 ∧ a < fr + l.length := by
  obtain ⟨r, hr⟩ := hp
  have hm : x ∈ runes l := by rw [← hr]; simp
  have hlt := runes_lt l x hm
  have hl : l ≠ [] := by rintro rfl; simp at hlt
  refine ⟨?_, by omega⟩
  rw [colF_eq k fr l a hl hk hfr (by omega), if_neg (by omega), runesF_fuel k l.length fr l hk (Nat.le_refl _), show fr = fr + 0 from rfl, runesF_shift fr l.length 0 l, ← List.map_tail,
    show runesF l.length 0 l = runes l from rfl, ← hr]
  obtain ⟨q0, qt, rfl⟩ := List.exists_cons_of_ne_nil hq
  simp only [List.cons_append, List.tail_cons, List.map_append, List.append_assoc, List.map_cons, List.length_cons] at *
  rw [List.takeWhile_append_of_pos (by
    intro y hy
    rw [List.mem_map] at hy
    obtain ⟨z, hz, rfl⟩ := hy
    have := ht z hz
    simpa using this), List.takeWhile_cons, if_neg (by simp; omega)]
  simp
end Go.Proofs.YtnepdjgbfhakmaaDoor
