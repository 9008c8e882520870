/- Trees, plain: how deep a list over good trees is. -/
import Derived.Test.YtnepdjgbfhakmaaDoorTp5
import Derived.Test.YtnepdjgbfhakmaaDoorTreeW
namespace Go.Proofs.YtnepdjgbfhakmaaDoor
set_option linter.unusedVariables false
set_option linter.unusedSimpArgs false

def listNd : Nd := ⟨2, ByteArray.empty, 0, [], 0⟩
theorem list_said : saidB 2 ([] : List UInt8) 0 = true := by decide +kernel
theorem list_places : (2 : Int) ∈ placedK ∧ (placesP 2).1 = true ∧ ((placesP 2).2 = [pAny] ∨ (placesP 2).2 = []) := by
  refine ⟨by decide, ?_, ?_⟩ <;> (unfold placesP; simp)
theorem list_fits {T : List Nd} {x : Nd} (hk : x.kind = 2) (ht : x.text.data.toList = []) (hn : x.num = 0) (hi : ∀ k ∈ x.kids, withinB T.length k = true) : fitsNd T x = true := by
  have hin : (List.range x.kids.length).all (kidInB T x) = true := range_all fun j hj => by
    unfold kidInB
    exact hi _ (by rw [List.getD, List.getElem?_eq_getElem hj]; exact List.getElem_mem hj)
  obtain ⟨h1, h2, h3⟩ := list_places
  unfold fitsNd
  rw [hk, ht, hn, list_said, hin, if_neg (by decide), if_neg (by decide), if_pos h1]
  unfold placedB tryB
  rw [hk, h2]
  have : (List.range x.kids.length).all (placeB T x (placesP 2).2) = true := range_all fun j hj => by
    unfold placeB
    rcases h3 with h | h <;> rw [h] <;> simp [pAny]
  rw [this]
  rfl
theorem ats_in : ∀ (Ks : List (List Nd)) (a : Nat), ∀ k ∈ atsF a Ks, (a : Int) ≤ k ∧ k < (a : Int) + (sumL Ks : Int)
  | [], a, k, h => by simp [atsF] at h
  | K :: Ks, a, k, h => by
    rw [atsF] at h
    rw [sumL]
    split at h
    · rename_i he
      have := ats_in Ks a k h
      rw [he, List.length_nil]
      omega
    · rename_i he
      have hp : 0 < K.length := List.length_pos_iff.2 he
      rcases List.mem_cons.1 h with rfl | h
      · omega
      · have := ats_in Ks _ k h
        omega
theorem tail_len : ∀ (Ks : List (List Nd)) (a : Nat), (tailF a Ks).length = sumL Ks
  | [], a => rfl
  | K :: Ks, a => by rw [tailF, sumL, List.length_append, List.length_map, tail_len Ks]
theorem make_len (x : Nd) (Ks : List (List Nd)) : (makeL x Ks).length = 1 + sumL Ks := by rw [makeL_eq, List.length_cons, tail_len]; omega
theorem list_good (Ks : List (List Nd)) (h : ∀ K ∈ Ks, GoodT K ∧ K.length ≤ 2000000) (hn : Ks.length ≤ 6) : checkL (makeL listNd Ks) = (-1, 0) := by
  rcases roots_law listNd Ks h hn with h1 | h1
  · exact h1.2
  · refine absurd ?_ (by rw [h1.1]; decide : ¬ fitsT (makeL listNd Ks) 0 = true)
    unfold fitsT
    have e : (makeL listNd Ks).getD 0 default = { listNd with kids := atsF 1 Ks } := by rw [makeL_eq]; rfl
    rw [e]
    refine list_fits rfl rfl rfl fun k hk => ?_
    have := ats_in Ks 1 k hk
    rw [make_len]
    unfold withinB
    simp only [Bool.and_eq_true, decide_eq_true_eq]
    omega

/-- The row of depths: the trees' own, one deeper. -/
def rowF : List (List Nd) → List Int
  | [] => []
  | K :: Ks => (deepL K).map (· + 1) ++ rowF Ks
theorem rowF_len : ∀ Ks : List (List Nd), (rowF Ks).length = sumL Ks
  | [] => rfl
  | K :: Ks => by rw [rowF, sumL, List.length_append, List.length_map, deepL_length, rowF_len Ks]
theorem deeps_tail : ∀ (Ks : List (List Nd)) (pre : List Nd) (dp : List Int), (∀ K ∈ Ks, GoodT K ∧ K.length ≤ 2000000) → pre.length + Ks.length * 2000000 ≤ 100000000 → dp.length = pre.length →
    (∀ k ∈ atsF pre.length Ks, (dp ++ rowF Ks).getD k.toNat 0 = 1) ∧
    ∀ m, pre.length ≤ m → m < (pre ++ tailF pre.length Ks).length → ∀ k ∈ kidsOf (pre ++ tailF pre.length Ks) m, (dp ++ rowF Ks).getD k.toNat 0 = (dp ++ rowF Ks).getD m 0 + 1
  | [], pre, dp, _, _, _ => ⟨fun k hk => by simp [atsF] at hk, fun m h1 h2 => by simp [tailF] at h2; omega⟩
  | K :: Ks, pre, dp, h, hb, hd => by
    obtain ⟨hg, hK⟩ := h K (List.mem_cons_self ..)
    have hpos := hg.pos
    simp only [List.length_cons] at hb
    have hne : K ≠ [] := by intro he; rw [he] at hpos; simp at hpos
    have ih := deeps_tail Ks (pre ++ K.map (moveNd (pre.length : Int))) (dp ++ (deepL K).map (· + 1)) (fun K' hK' => h K' (List.mem_cons_of_mem _ hK')) (by simp; omega) (by simp [deepL_length, hd])
    rw [List.length_append, List.length_map] at ih
    have hs : Shift K (pre ++ (K.map (moveNd (pre.length : Int)) ++ tailF (pre.length + K.length) Ks)) pre.length := shift_moved hK (by omega) hg (by rw [List.append_assoc])
    rw [atsF, if_neg hne, tailF, rowF]
    rw [← List.append_assoc] at hs
    rw [← List.append_assoc, ← List.append_assoc]
    have hT := deep_to hg
    have cell : ∀ i, i < K.length → (dp ++ (deepL K).map (· + 1) ++ rowF Ks).getD (pre.length + i) 0 = (deepL K).getD i 0 + 1 := fun i hi => by
      rw [List.append_assoc, List.getD, List.getElem?_append_right (by omega), hd, show pre.length + i - pre.length = i by omega, List.getElem?_append_left (by rw [List.length_map, deepL_length]; exact hi)]
      simp [List.getD, show i < (deepL K).length by rw [deepL_length]; exact hi]
    refine ⟨fun k hk => ?_, fun m h1 h2 k hk => ?_⟩
    · rcases List.mem_cons.1 hk with rfl | hk
      · have := cell 0 hpos
        rw [Int.toNat_natCast]
        rw [Nat.add_zero] at this
        rw [this, hT.2.1]
        rfl
      · exact ih.1 k hk
    · by_cases hm : m < pre.length + K.length
      · obtain ⟨i, rfl⟩ : ∃ i, m = pre.length + i := ⟨m - pre.length, by omega⟩
        have hi : i < K.length := by omega
        have hk2 : kidsOf (pre ++ K.map (moveNd (pre.length : Int)) ++ tailF (pre.length + K.length) Ks) (pre.length + i) = (kidsOf K i).map fun k => k + (pre.length : Int) := (hs.2 i hi).2.2.2
        rw [hk2] at hk
        obtain ⟨z, hz, rfl⟩ := List.mem_map.1 hk
        obtain ⟨j, rfl, q1, q2⟩ := hg.kid hi hz
        rw [show ((j : Int) + (pre.length : Int)).toNat = pre.length + j by omega, cell j q2, cell i hi]
        have := hT.2.2 i hi _ hz
        rw [Int.toNat_natCast] at this
        rw [this]
      · exact ih.2 m (by omega) h2 k hk
theorem deep_list (Ks : List (List Nd)) (h : ∀ K ∈ Ks, GoodT K ∧ K.length ≤ 2000000) (hn : Ks.length ≤ 6) : deepL (makeL listNd Ks) = 0 :: rowF Ks := by
  have hg := (good_iff _).2 (list_good Ks h hn)
  have hd := deep_to hg
  have ht := deeps_tail Ks [{ listNd with kids := atsF 1 Ks }] [0] h (by simp; omega) rfl
  have hlen : (0 :: rowF Ks).length = (makeL listNd Ks).length := by rw [make_len, List.length_cons, rowF_len]; omega
  have hD : DeepTo (makeL listNd Ks) (0 :: rowF Ks) (makeL listNd Ks).length := by
    refine ⟨hlen, rfl, fun m hm k hk => ?_⟩
    rw [makeL_eq] at hk hm
    by_cases h0 : m = 0
    · subst h0
      exact ht.1 k hk
    · exact ht.2 m (by simp; omega) hm k hk
  refine List.ext_getElem (by rw [deepL_length, hlen]) fun i h1 h2 => ?_
  rw [deepL_length] at h1
  have hg' : Chain (makeL listNd Ks) [((0 : Nat) : Int)] 0 (makeL listNd Ks).length := hg
  have := deep_one hg' (Nat.le_refl _) hd hD (fun k hk => by
    rw [List.mem_singleton.1 hk, Int.toNat_natCast, hd.2.1]; rfl) i (Nat.zero_le _) h1
  rw [List.getD, List.getD, List.getElem?_eq_getElem (by rw [deepL_length]; exact h1), List.getElem?_eq_getElem h2] at this
  exact this

theorem foldl_max (a b : Int) : ∀ l : List Int, l.foldl max (max a b) = max a (l.foldl max b)
  | [] => rfl
  | x :: l => by rw [List.foldl_cons, List.foldl_cons, Int.max_assoc, foldl_max]
theorem foldl_max_succ : ∀ (l : List Int) (b : Int), (l.map (· + 1)).foldl max (b + 1) = l.foldl max b + 1
  | [], b => rfl
  | x :: l, b => by
    rw [List.map_cons, List.foldl_cons, List.foldl_cons, show max (b + 1) (x + 1) = max b x + 1 by omega, foldl_max_succ]
theorem deep_cons {K : List Nd} (hg : GoodT K) : ∃ l, deepL K = 0 :: l := by
  have h := deep_to hg
  have hp := hg.pos
  cases hd : deepL K with
  | nil => have := deepL_length K; rw [hd] at this; simp at this; omega
  | cons x l =>
    have h0 := h.2.1
    rw [hd] at h0
    simp at h0
    exact ⟨l, by rw [h0]⟩
theorem depth_good {K : List Nd} (hg : GoodT K) : depthT K = maxL (deepL K) := by
  unfold depthT deepsL
  rw [if_pos ((good_iff _).1 hg)]
theorem foldl_row {K : List Nd} (hg : GoodT K) (a : Int) : ((deepL K).map (· + 1)).foldl max a = max a (depthT K + 1) := by
  rw [depth_good hg]
  obtain ⟨l, hl⟩ := deep_cons hg
  rw [hl, List.map_cons, List.foldl_cons, foldl_max]
  congr 1
  have := foldl_max_succ l 0
  rw [show (0 : Int) + 1 = 1 by rfl] at this ⊢
  rw [this]
  rfl
/-- The greatest depth so far. -/
def mostL (Ks : List (List Nd)) : Int := (Ks.map depthT).foldl max (-1)
theorem mostL_snoc (Ks : List (List Nd)) (K : List Nd) : mostL (Ks ++ [K]) = max (mostL Ks) (depthT K) := by simp [mostL]
theorem rows_most : ∀ (Ks : List (List Nd)) (b : Int), (∀ K ∈ Ks, GoodT K) → (rowF Ks).foldl max (b + 1) = (Ks.map depthT).foldl max b + 1
  | [], b, _ => rfl
  | K :: Ks, b, h => by
    rw [rowF, List.foldl_append, foldl_row (h K (List.mem_cons_self ..)), show max (b + 1) (depthT K + 1) = max b (depthT K) + 1 by omega, rows_most Ks _ fun L hL => h L (List.mem_cons_of_mem _ hL)]
    rfl
theorem deeper_law (Ks : List (List Nd)) (h : ∀ K ∈ Ks, GoodT K ∧ K.length ≤ 2000000) (hn : Ks.length ≤ 6) : depthT (makeL listNd Ks) = mostL Ks + 1 := by
  rw [depth_good ((good_iff _).2 (list_good Ks h hn)), deep_list Ks h hn]
  unfold maxL mostL
  rw [List.foldl_cons, ← rows_most Ks (-1) fun K hK => (h K hK).1]
  rfl
theorem foldl_max_ge : ∀ (l : List Int) (b : Int), b ≤ l.foldl max b
  | [], b => Int.le_refl _
  | x :: l, b => by rw [List.foldl_cons]; have := foldl_max_ge l (max b x); omega
theorem foldl_max_le {c : Int} : ∀ (l : List Int) (b : Int), b ≤ c → (∀ x ∈ l, x ≤ c) → l.foldl max b ≤ c
  | [], b, h, _ => h
  | x :: l, b, h, hl => by
    rw [List.foldl_cons]
    have := hl x (List.mem_cons_self ..)
    exact foldl_max_le l _ (by omega) fun y hy => hl y (List.mem_cons_of_mem _ hy)
end Go.Proofs.YtnepdjgbfhakmaaDoor
