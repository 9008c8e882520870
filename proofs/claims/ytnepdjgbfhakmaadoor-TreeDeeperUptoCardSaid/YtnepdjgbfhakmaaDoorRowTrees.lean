/- Rows of trees that came in. -/
import Derived.Test.YtnepdjgbfhakmaaDoorRowTree
import Derived.Test.YtnepdjgbfhakmaaDoorTreeG
namespace Go.Proofs.YtnepdjgbfhakmaaDoor
set_option linter.unusedVariables false
set_option linter.unusedSimpArgs false
open Go.ChangeShapes Go.WideShapes Go.ChangeAt Go.RowKit Go.Shelf Go.Deep

theorem treeBytes : Tryd.prog.bytesOf 59 = 24 := by kernel_rfl
set_option maxRecDepth 100000 in
/-- A row of trees that came in. -/
theorem trees_in {H : Type} {enc : TypeId × Value → H} {w : World} {base : Nat} {spare : Nat → Bool} {held : Bool} {n : Nat} {v : Value} {x : DataW H × List MemPlace}
    (h : DataW.trod enc Tryd.prog w base spare held n 55 [v] = some x) (hsz : ∀ m ∈ x.1.weights Tryd.prog 55, m ≤ 140737488351232) :
    ∃ (G : Option Addr) (c : Nat) (Ks : List (List Nd)), v = .slice G Ks.length c ∧ Forest w G Ks ∧ Ks.length ≤ c ∧ c ≤ maxLen ∧ (G = none → Ks.length = 0 ∧ c = 0) ∧ Ks.length ≤ Rows.uptoBulk x.1 ∧ Ks.length * 24 ≤ 140737488351232 ∧
      ∀ K ∈ Ks, (∀ y ∈ K, y.ok) ∧ K.length * 64 ≤ 140737488351232 ∧ K.length ≤ Rows.uptoBulk x.1 ∧ ∀ y ∈ K, y.text.size ≤ Rows.uptoBulk x.1 ∧ y.kids.length ≤ Rows.uptoBulk x.1 := by
  rcases slice_fields Tryd.underlying55 Tryd.underlying59 (by kernel_rfl) (by kernel_rfl) h with ⟨hcs, _⟩ | ⟨a, len, cap, m, D, hcs, hl, hm, hlm, hx, hi⟩
  · obtain rfl := List.head_eq_of_cons_eq hcs
    exact ⟨none, 0, [], rfl, fun i x hx => (by cases hx), Nat.le_refl _, by decide, fun _ => ⟨rfl, rfl⟩, by simp, by simp, fun K hK => (by cases hK)⟩
  · obtain rfl := List.head_eq_of_cons_eq hcs
    have hw0 := hsz _ (by rw [hx]; simp only [DataW.weights, Tryd.underlying55]; exact List.mem_cons_self ..)
    rw [treeBytes] at hw0
    have hlen : len * 24 ≤ 140737488351232 := by simp only [List.length_map, List.length_range] at hw0; omega
    have key : ∀ i, ∃ K : List Nd, i < len → (∃ A c, w.cell? (a.add i) = some (.slice A K.length c) ∧ TreeAt w A K) ∧ (∀ y ∈ K, y.ok) ∧ K.length * 64 ≤ 140737488351232 ∧ K.length ≤ Rows.uptoBulk x.1 ∧ ∀ y ∈ K, y.text.size ≤ Rows.uptoBulk x.1 ∧ y.kids.length ≤ Rows.uptoBulk x.1 := fun i => by
      by_cases hil : i < len
      · obtain ⟨ys, n', hD, hf⟩ := hi i (by omega)
        have hwD : ∀ m ∈ (D i).weights Tryd.prog 59, m ≤ 140737488351232 := fun m hm => hsz m (by
          rw [hx]
          simp only [DataW.weights, Tryd.underlying55]
          exact List.mem_cons_of_mem _ (List.mem_append_left _ (weightsAll_mem _ (D i) (List.mem_map.2 ⟨i, List.mem_range.2 hil, rfl⟩) _ hm)))
        rw [hD] at hwD
        obtain ⟨v0, y0, c0, g0, t0⟩ := hf 0 _ rfl
        have w0 := agg_part Tryd.underlying59 hwD (j := 0) rfl (show (ys.map (·.1))[0]? = some y0.1 by simp [g0])
        obtain ⟨A, c, T, rfl, k1, k2, k3, k4, k5, k6, k7, k8⟩ := nodes_in t0 w0
        have hbD : Rows.uptoBulk (D i) ≤ Rows.uptoBulk x.1 := by
          rw [hx]
          exact bulk_elem (List.mem_map.2 ⟨i, List.mem_range.2 hil, rfl⟩)
        rw [hD] at hbD
        have hb0 := bulk_agg (d := y0.1) (l := ys.map (·.1)) (List.mem_of_getElem? (i := 0) (by simp [g0]))
        simp only [List.size_toArray, List.length_cons, List.length_nil, Nat.zero_add, Nat.mul_one, Nat.add_zero] at c0
        exact ⟨T, fun _ => ⟨⟨A, c, c0, k1⟩, k2, k6, by omega, fun y hy => by have := k8 y hy; omega⟩⟩
      · exact ⟨[], fun h => absurd h hil⟩
    obtain ⟨f, hf⟩ := Classical.axiomOfChoice key
    refine ⟨some a, cap, (List.range len).map f, by simp, fun i K hK => ?_, by simpa using hl, hm, (fun h => by cases h), ?_, by simpa using hlen, fun K hK => ?_⟩
    · have hi := (List.getElem?_eq_some_iff.1 hK).1
      simp only [List.length_map, List.length_range] at hi
      have : f i = K := by simpa [hi] using hK
      rw [← this]
      obtain ⟨A, c, q1, q2⟩ := (hf i hi).1
      exact ⟨a, A, c, rfl, q1, q2⟩
    · rw [hx]
      have := bulk_slice ((List.range len).map D) ((List.range (m - len)).map fun j => D (len + j))
      rw [List.length_map] at this ⊢
      exact this
    · obtain ⟨i, hi, rfl⟩ := List.mem_map.1 hK
      exact (hf i (List.mem_range.1 hi)).2
set_option maxRecDepth 100000 in
/-- A row of trees, as an argument. -/
theorem open_trees {H : Type} {enc : TypeId × Value → H} {W : World} {base : Nat} {spare : Nat → Bool} {held : Bool} {r : Reach} {b0 : Nat} {v : Value} {d : DataW H} {p : List MemPlace} {ts : List TypeId} {ds : List (DataW H)} {j : Nat}
    (hv : Value.okWide Tryd.prog W r b0 55 v) (h : DataW.Trod enc Tryd.prog W base spare held 55 v d p)
    (hsz : (DataW.weightsEach Tryd.prog ts ds).all (· ≤ reachBytes) = true) (ht : ts[j]? = some 55) (hd : ds[j]? = some d) :
    ∃ (G : Option Addr) (c : Nat) (Ks : List (List Nd)), v = .slice G Ks.length c ∧ Forest W G Ks ∧ Ks.length ≤ c ∧ c ≤ maxLen ∧ (G = none → Ks.length = 0 ∧ c = 0) ∧ Ks.length ≤ Rows.uptoBulk d ∧ Ks.length * 24 ≤ 140737488351232 ∧
      ∀ K ∈ Ks, (∀ y ∈ K, y.ok) ∧ K.length * 64 ≤ 140737488351232 ∧ K.length ≤ Rows.uptoBulk d ∧ ∀ y ∈ K, y.text.size ≤ Rows.uptoBulk d ∧ y.kids.length ≤ Rows.uptoBulk d := by
  obtain ⟨a, len, cap, rfl⟩ := okWide_slice Tryd.underlying55 hv
  obtain ⟨fuel, hf⟩ := h
  obtain ⟨G, c, Ks, hvv, rest⟩ := trees_in (x := (d, p)) hf (fun m hm => of_decide_eq_true (List.all_eq_true.1 hsz m (DataW.weights_mem_each ht hd m hm)))
  exact ⟨G, c, Ks, hvv, rest⟩
theorem bulk_part {H : Type} {ds : List (DataW H)} {j : Nat} {d : DataW H} (hk : Rows.uptoSmall H ds = true) (hd : ds[j]? = some d) : Rows.uptoBulk d ≤ 1048576 := by
  have h1 : Rows.uptoBulkAll ds ≤ 1048576 := of_decide_eq_true hk
  have := bulk_mem (List.mem_of_getElem? hd)
  omega
end Go.Proofs.YtnepdjgbfhakmaaDoor
