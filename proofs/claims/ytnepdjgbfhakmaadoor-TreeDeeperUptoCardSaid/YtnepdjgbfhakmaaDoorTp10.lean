/- Trees: made trees are as the bounds want them. -/
import Derived.Test.YtnepdjgbfhakmaaDoorTp9
namespace Go.Proofs.YtnepdjgbfhakmaaDoor
set_option linter.unusedVariables false
set_option linter.unusedSimpArgs false

theorem wf_i64 {n : Int} (h0 : -9223372036854775808 ≤ n) (h1 : n ≤ 9223372036854775807) : (Lit.int .i64 n).wf = true := by
  simp [Lit.wf, show IntKind.i64.min = -9223372036854775808 from rfl, show IntKind.i64.max = 9223372036854775807 from rfl]
  omega
theorem wf_wrap (n : Int) : (Lit.int .i64 (IntKind.i64.wrap n)).wf = true := by
  rw [IntKind.wrap_i64]
  exact wf_i64 (by omega) (by omega)
theorem move_ok {d : Int} {x : Nd} (h : x.ok) : (moveNd d x).ok := by
  obtain ⟨h1, h2, h3, h4, h5, h6⟩ := h
  refine ⟨h1, h2, fun k hk => ?_, h4, h5, by simpa [moveNd] using h6⟩
  unfold moveNd at hk
  obtain ⟨z, _, rfl⟩ := List.mem_map.1 hk
  exact wf_wrap _
theorem tail_mem : ∀ (Ks : List (List Nd)) (a : Nat) (y : Nd), y ∈ tailF a Ks → ∃ K ∈ Ks, ∃ x ∈ K, ∃ d : Int, y = moveNd d x
  | [], a, y, h => by cases h
  | K :: Ks, a, y, h => by
    rw [tailF, List.mem_append] at h
    rcases h with h | h
    · obtain ⟨x, hx, rfl⟩ := List.mem_map.1 h
      exact ⟨K, List.mem_cons_self .., x, hx, _, rfl⟩
    · obtain ⟨L, hL, x, hx, d, rfl⟩ := tail_mem Ks _ y h
      exact ⟨L, List.mem_cons_of_mem _ hL, x, hx, d, rfl⟩
theorem ats_len : ∀ (Ks : List (List Nd)) (a : Nat), (atsF a Ks).length ≤ Ks.length
  | [], a => Nat.le_refl _
  | K :: Ks, a => by
    rw [atsF]
    split
    · have := ats_len Ks a; rw [List.length_cons]; omega
    · have := ats_len Ks (a + K.length); rw [List.length_cons, List.length_cons]; omega
theorem make_ok {x : Nd} {Ks : List (List Nd)} (hx : x.ok) (ht : x.text.size ≤ 2000000) (hn : Ks.length ≤ 2000000) (hs : sumL Ks < 2000000) (h : ∀ K ∈ Ks, TreeOk K) : TreeOk (makeL x Ks) := by
  obtain ⟨h1, h2, h3, h4, h5, h6⟩ := hx
  refine ⟨by rw [make_len]; omega, fun y hy => ?_⟩
  rw [makeL_eq] at hy
  rcases List.mem_cons.1 hy with rfl | hy
  · have hl := ats_len Ks 1
    refine ⟨⟨h1, h2, fun k hk => ?_, h4, h5, by simp only; omega⟩, ht, by simp only; omega⟩
    have := ats_in Ks 1 k hk
    exact wf_i64 (by omega) (by omega)
  · obtain ⟨K, hK, z, hz, d, rfl⟩ := tail_mem Ks 1 y hy
    obtain ⟨q1, q2, q3⟩ := (h K hK).2 z hz
    exact ⟨move_ok q1, q2, by simpa [moveNd] using q3⟩
theorem depthT_le {K : List Nd} : 0 ≤ depthT K ∧ depthT K ≤ K.length := by
  unfold depthT deepsL
  split
  · refine ⟨foldl_max_ge _ _, foldl_max_le _ _ (by omega) fun x hx => ?_⟩
    obtain ⟨i, hi, rfl⟩ := List.getElem_of_mem hx
    have := (DeepB.all K K.length i).2
    rw [show deepF K K.length (List.replicate K.length 0) = deepL K from rfl, List.getD, List.getElem?_eq_getElem hi] at this
    exact this
  · exact ⟨Int.le_refl _, by simp [maxL]⟩
end Go.Proofs.YtnepdjgbfhakmaaDoor
