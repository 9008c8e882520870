/- Trees, plain: a node over good trees. -/
import Derived.Test.YtnepdjgbfhakmaaDoorTp
namespace Go.Proofs.YtnepdjgbfhakmaaDoor
set_option linter.unusedVariables false
set_option linter.unusedSimpArgs false

/-- The nodes of T stand in T' from d on. -/
def Shift (T T' : List Nd) (d : Nat) : Prop :=
  d + T.length ≤ T'.length ∧ ∀ i, i < T.length → (T'.getD (d + i) default).kind = (T.getD i default).kind ∧ (T'.getD (d + i) default).text = (T.getD i default).text ∧ (T'.getD (d + i) default).num = (T.getD i default).num ∧
    (T'.getD (d + i) default).kids = (T.getD i default).kids.map fun k => k + (d : Int)
def Mono (P : PP) : Prop := ∀ (T T' : List Nd) (d : Nat), Shift T T' d → ∀ k, k < T.length → P T k = true → P T' (d + k) = true

theorem Shift.kind {T T' : List Nd} {d : Nat} (h : Shift T T' d) {k : Nat} (hk : k < T.length) : ndK T' (d + k) = ndK T k := (h.2 k hk).1
theorem mono_of (ks : List Int) : Mono (pOf ks) := fun T T' d h k hk hp => by unfold pOf at *; rw [h.kind hk]; exact hp
theorem mono_E : Mono pE := fun T T' d h k hk hp => by unfold pE at *; rw [h.kind hk]; exact hp
theorem mono_T : Mono pT := fun T T' d h k hk hp => by unfold pT at *; rw [h.kind hk]; exact hp
theorem mono_S : Mono pS := fun T T' d h k hk hp => by unfold pS at *; rw [h.kind hk]; exact hp
theorem mono_Plain : Mono pPlain := fun T T' d h k hk hp => by
  unfold pPlain isPlainB at *
  rw [(h.2 k hk).1, (h.2 k hk).2.2.1]; exact hp
theorem mono_Let : Mono pLet := fun T T' d h k hk hp => by
  unfold pLet isLetB at *
  rw [(h.2 k hk).1, (h.2 k hk).2.2.1]; exact hp
theorem mono_Any : Mono pAny := fun T T' d h k hk hp => rfl
theorem mono_or {p q : PP} (hp : Mono p) (hq : Mono q) : Mono (pOr p q) := fun T T' d h k hk hh => by
  unfold pOr at *
  rw [Bool.or_eq_true] at *
  rcases hh with hh | hh
  · exact .inl (hp T T' d h k hk hh)
  · exact .inr (hq T T' d h k hk hh)
theorem shift_in {T T' : List Nd} {d : Nat} (h : Shift T T' d) {z : Int} (hz : withinB T.length z = true) : withinB T'.length (z + (d : Int)) = true ∧ (z + (d : Int)).toNat = d + z.toNat ∧ z.toNat < T.length := by
  obtain ⟨m, rfl, hm⟩ := within_nat hz
  have := h.1
  refine ⟨?_, by omega, by omega⟩
  unfold withinB
  simp only [Bool.and_eq_true, decide_eq_true_eq]
  omega
theorem mono_rows {p : PP} (hp : Mono p) : Mono (rowsB p) := fun T T' d h k hk hh => by
  unfold rowsB at *
  rw [Bool.and_eq_true] at *
  refine ⟨by rw [h.kind hk]; exact hh.1, ?_⟩
  rw [(h.2 k hk).2.2.2, List.all_map, List.all_eq_true]
  intro z hz
  have h1 := List.all_eq_true.1 hh.2 z hz
  rw [Bool.and_eq_true] at h1
  obtain ⟨s1, s2, s3⟩ := shift_in h h1.1
  simp only [Function.comp, Bool.and_eq_true]
  exact ⟨s1, by rw [s2]; exact hp T T' d h _ s3 h1.2⟩
theorem mono_Spot : Mono isSpotB := fun T T' d h k hk hp => by unfold isSpotB at *; rw [h.kind hk]; exact hp
theorem mono_Exp : Mono isExportedB := fun T T' d h k hk hp => by
  unfold isExportedB at *
  rw [h.kind hk, (h.2 k hk).2.2.1]; exact hp
theorem mono_Mem : Mono isMembersB := fun T T' d h k hk hp => by
  unfold isMembersB at *
  rw [Bool.and_eq_true] at *
  have hpart : Mono partB := fun T T' d h k hk hp => by unfold partB at *; rw [h.kind hk]; exact hp
  refine ⟨mono_rows hpart T T' d h k hk hp.1, ?_⟩
  have h2 := hp.2
  have hr := hp.1
  unfold rowsB at hr
  rw [Bool.and_eq_true] at hr
  have : ctorsN T' (T'.getD (d + k) default).kids = ctorsN T (T.getD k default).kids := by
    rw [(h.2 k hk).2.2.2]
    unfold ctorsN
    rw [List.countP_map]
    refine List.countP_congr fun z hz => ?_
    have h1 := List.all_eq_true.1 hr.2 z hz
    rw [Bool.and_eq_true] at h1
    obtain ⟨s1, s2, s3⟩ := shift_in h h1.1
    simp only [Function.comp]
    rw [s2, h.kind s3]
  rw [this]
  exact h2
theorem getD_map_add (l : List Int) (d : Int) (j : Nat) (hj : j < l.length) : (l.map fun k => k + d).getD j 0 = l.getD j 0 + d := by simp [List.getD, hj]
theorem isPathF_more {T : List Nd} : ∀ (f g i : Nat), f ≤ g → isPathF f T i = true → isPathF g T i = true
  | 0, g, i, _, h => by simp [isPathF] at h
  | f + 1, 0, i, hfg, _ => by omega
  | f + 1, g + 1, i, hfg, h => by
    rw [isPathF] at h ⊢
    by_cases hk : ndK T i = 29
    · rw [if_pos hk] at h ⊢
      by_cases hc : (T.getD i default).kids.length = 1 ∧ withinB T.length ((T.getD i default).kids.getD 0 0) = true
      · rw [if_pos hc] at h ⊢
        exact isPathF_more f g _ (by omega) h
      · rw [if_neg hc] at h
        cases h
    · rw [if_neg hk] at h ⊢
      exact h
theorem isPathF_shift {T T' : List Nd} {d : Nat} (h : Shift T T' d) : ∀ (f i : Nat), i < T.length → isPathF f T i = true → isPathF f T' (d + i) = true
  | 0, i, _, h => by simp [isPathF] at h
  | f + 1, i, hi, hp => by
    rw [isPathF] at hp ⊢
    rw [h.kind hi]
    by_cases hk : ndK T i = 29
    · rw [if_pos hk] at hp ⊢
      by_cases hc : (T.getD i default).kids.length = 1 ∧ withinB T.length ((T.getD i default).kids.getD 0 0) = true
      · rw [if_pos hc] at hp
        obtain ⟨s1, s2, s3⟩ := shift_in h hc.2
        have hk0 : (T'.getD (d + i) default).kids.getD 0 0 = (T.getD i default).kids.getD 0 0 + (d : Int) := by
          rw [(h.2 i hi).2.2.2, getD_map_add _ _ _ (by omega)]
        rw [hk0, if_pos ⟨by rw [(h.2 i hi).2.2.2, List.length_map]; exact hc.1, s1⟩, s2]
        exact isPathF_shift h f _ s3 hp
      · rw [if_neg hc] at hp
        cases hp
    · rw [if_neg hk] at hp ⊢
      exact hp
theorem mono_Path : Mono isPathB := fun T T' d h k hk hp => by
  unfold isPathB at *
  exact isPathF_more T.length T'.length _ (by have := h.1; omega) (isPathF_shift h _ k hk hp)

theorem placesP_61' : placesP 61 = (false, [(pOf [63]), (pOr (pOf [62]) (pOf [1])), (pOr (pOf [63]) (pOf [1]))]) := by
  unfold placesP
  simp
def MonoL (l : List PP) : Prop := ∀ P ∈ l, Mono P
theorem monoL_nil : MonoL [] := fun P h => by cases h
theorem monoL_cons {p : PP} {l : List PP} (hp : Mono p) (hl : MonoL l) : MonoL (p :: l) := fun P h => by
  rcases List.mem_cons.1 h with rfl | h
  · exact hp
  · exact hl P h
theorem monoL_if {c : Prop} [Decidable c] {a b : Bool × List PP} (ha : MonoL a.2) (hb : MonoL b.2) : MonoL (if c then a else b).2 := by split <;> assumption
theorem places_mono (kd : Int) : ∀ P ∈ (placesP kd).2, Mono P := by
  show MonoL (placesP kd).2
  unfold placesP
  repeat' first
    | exact monoL_nil
    | refine monoL_if ?_ ?_
    | refine monoL_cons ?_ ?_
    | with_reducible exact mono_E
    | with_reducible exact mono_T
    | with_reducible exact mono_S
    | with_reducible exact mono_Any
    | with_reducible exact mono_of _
    | with_reducible exact mono_Spot
    | with_reducible exact mono_Path
    | with_reducible exact mono_Mem
    | with_reducible exact mono_Exp
    | with_reducible exact mono_Plain
    | with_reducible exact mono_Let
    | with_reducible refine mono_or ?_ ?_
    | with_reducible refine mono_rows ?_

/-- What fits, fits where it is moved to. -/
theorem fits_shift {T T' : List Nd} {d : Nat} (h : Shift T T' d) {i : Nat} (hi : i < T.length) (hf : fitsT T i = true) : fitsT T' (d + i) = true := by
  unfold fitsT at *
  obtain ⟨h1, h2, h3, h4⟩ := h.2 i hi
  obtain ⟨x, hx⟩ : ∃ x, T.getD i default = x := ⟨_, rfl⟩
  obtain ⟨y, hy⟩ : ∃ y, T'.getD (d + i) default = y := ⟨_, rfl⟩
  rw [hx] at hf h1 h2 h3 h4
  rw [hy] at h1 h2 h3 h4 ⊢
  have hl : y.kids.length = x.kids.length := by rw [h4, List.length_map]
  unfold fitsNd at *
  rw [h1, h2, h3, hl]
  rw [Bool.and_eq_true, Bool.and_eq_true] at *
  obtain ⟨⟨f1, f2⟩, f3⟩ := hf
  have kid : ∀ j, j < x.kids.length → kidInB T' y j = true ∧ kidN y j = d + kidN x j ∧ kidN x j < T.length := fun j hj => by
    have := List.all_eq_true.1 f2 j (List.mem_range.2 hj)
    unfold kidInB at this ⊢
    unfold kidN
    rw [h4, getD_map_add _ _ _ hj]
    exact shift_in h this
  refine ⟨⟨f1, range_all fun j hj => (kid j hj).1⟩, ?_⟩
  split at f3
  · rename_i hk
    rw [if_pos hk]
    rw [Bool.and_eq_true] at *
    refine ⟨range_all fun j hj => ?_, f3.2⟩
    have := List.all_eq_true.1 f3.1 j (List.mem_range.2 hj)
    unfold tmplB at *
    obtain ⟨_, k2, k3⟩ := kid j hj
    rw [k2, h.kind k3]
    exact this
  · rename_i hk
    rw [if_neg hk]
    split at f3
    · rename_i hk2
      rw [if_pos hk2]
      rw [Bool.and_eq_true] at *
      refine ⟨f3.1, range_all fun j hj => ?_⟩
      have := List.all_eq_true.1 f3.2 j (List.mem_range.2 hj)
      unfold typeKidB at *
      obtain ⟨_, k2, k3⟩ := kid j hj
      rw [k2, h.kind k3]
      exact this
    · rename_i hk2
      rw [if_neg hk2]
      split at f3
      · rename_i hk3
        rw [if_pos hk3]
        have hmem := places_mono x.kind
        obtain ⟨ps, hps⟩ : ∃ ps, placesP x.kind = ps := ⟨_, rfl⟩
        rw [hps] at f3 hmem ⊢
        unfold placedB at *
        rw [Bool.and_eq_true, Bool.and_eq_true] at *
        obtain ⟨⟨g1, g2⟩, g3⟩ := f3
        refine ⟨⟨by rw [hl]; exact g1, ?_⟩, ?_⟩
        · rw [hl]
          refine range_all fun j hj => ?_
          have := List.all_eq_true.1 g2 j (List.mem_range.2 hj)
          unfold placeB at *
          obtain ⟨_, k2, k3⟩ := kid j hj
          rw [k2]
          by_cases hlt : min j (ps.2.length - 1) < ps.2.length
          · have hg : ps.2.getD (min j (ps.2.length - 1)) pAny = ps.2[min j (ps.2.length - 1)] := by simp [List.getD, hlt]
            rw [hg] at this ⊢
            exact hmem _ (List.getElem_mem hlt) T T' d h _ k3 this
          · have hg : ps.2.getD (min j (ps.2.length - 1)) pAny = pAny := by
              rw [List.getD, List.getElem?_eq_none (by omega)]
              rfl
            rw [hg]
            rfl
        · unfold tryB at *
          rw [h1]
          by_cases h61 : x.kind = 61
          · rw [h61] at hps
            rw [placesP_61'] at hps
            subst hps
            simp only [Bool.false_or, beq_iff_eq, List.length_cons, List.length_nil] at g1
            obtain ⟨_, k2, k3⟩ := kid 1 (by omega)
            obtain ⟨_, q2, q3⟩ := kid 2 (by omega)
            rw [k2, q2, h.kind k3, h.kind q3]
            exact g3
          · have : (x.kind != 61) = true := by simpa using h61
            rw [this]; rfl
      · cases f3

theorem chain_shift {T T' : List Nd} {d : Nat} (h : Shift T T' d) {ks : List Int} {nx e : Nat} (hc : Chain T ks nx e) : Chain T' (ks.map fun k => k + (d : Int)) (d + nx) (d + e) := by
  induction hc with
  | nil nx => exact .nil _
  | cons ks nx m e hl hf h1 h2 i1 i2 =>
    have hk : kidsOf T' (d + nx) = (kidsOf T nx).map fun k => k + (d : Int) := (h.2 nx hl).2.2.2
    have := Chain.cons (T := T') (ks.map fun k => k + (d : Int)) (d + nx) (d + m) (d + e) (by have := h.1; omega) (fits_shift h hl hf) (by rw [hk]; exact i1) i2
    rw [List.map_cons, show (nx : Int) + (d : Int) = ((d + nx : Nat) : Int) by omega]
    exact this
theorem Chain.append {T : List Nd} {ks ks' : List Int} {nx m e : Nat} (h : Chain T ks nx m) (h' : Chain T ks' m e) : Chain T (ks ++ ks') nx e := by
  induction h with
  | nil nx => exact h'
  | cons ks nx m2 e2 hl hf h1 h2 i1 i2 => exact .cons _ _ _ _ hl hf h1 (i2 h')

/-- Where the trees stand behind a root, and what stands there. -/
def atsF : Nat → List (List Nd) → List Int
  | _, [] => []
  | a, K :: Ks => if K = [] then atsF a Ks else (a : Int) :: atsF (a + K.length) Ks
def tailF : Nat → List (List Nd) → List Nd
  | _, [] => []
  | a, K :: Ks => K.map (moveNd (a : Int)) ++ tailF (a + K.length) Ks
theorem makeF_eq (x : Nd) : ∀ (Ks : List (List Nd)) (rk : List Int) (tl : List Nd), makeF x rk tl Ks = { x with kids := rk ++ atsF (tl.length + 1) Ks } :: (tl ++ tailF (tl.length + 1) Ks)
  | [], rk, tl => by simp [makeF, atsF, tailF]
  | K :: Ks, rk, tl => by
    rw [makeF, atsF, tailF]
    split
    · rename_i h
      subst h
      rw [makeF_eq x Ks]
      simp
    · rw [makeF_eq x Ks]
      simp [show tl.length + 1 + K.length = tl.length + K.length + 1 by omega]
theorem makeL_eq (x : Nd) (Ks : List (List Nd)) : makeL x Ks = { x with kids := atsF 1 Ks } :: tailF 1 Ks := by
  unfold makeL
  rw [makeF_eq]
  simp
theorem shift_moved {K T' pre post : List Nd} (hK : K.length ≤ 2000000) (hp : pre.length ≤ 1000000000) (hg : GoodT K) (hT : T' = pre ++ K.map (moveNd (pre.length : Int)) ++ post) : Shift K T' pre.length := by
  subst hT
  refine ⟨by simp <;> omega, fun i hi => ?_⟩
  have hx : K.getD i default = K[i] := by simp [List.getD, hi]
  have : (pre ++ K.map (moveNd (pre.length : Int)) ++ post).getD (pre.length + i) default = moveNd (pre.length : Int) (K.getD i default) := by
    rw [List.append_assoc, List.getD, List.getElem?_append_right (by omega), show pre.length + i - pre.length = i by omega, List.getElem?_append_left (by simpa using hi)]
    simp [hi]
  rw [this]
  refine ⟨rfl, rfl, rfl, ?_⟩
  refine moveNd_kids fun k hk => ?_
  obtain ⟨m, rfl, q1, q2⟩ := hg.kid hi hk
  omega
theorem tail_chain : ∀ (Ks : List (List Nd)) (pre : List Nd), (∀ K ∈ Ks, GoodT K ∧ K.length ≤ 2000000) → pre.length + Ks.length * 2000000 ≤ 100000000 →
    Chain (pre ++ tailF pre.length Ks) (atsF pre.length Ks) pre.length (pre ++ tailF pre.length Ks).length
  | [], pre, _, _ => by
    simp only [tailF, atsF, List.append_nil]
    exact .nil _
  | K :: Ks, pre, h, hb => by
    obtain ⟨hg, hK⟩ := h K (List.mem_cons_self ..)
    have hpos := hg.pos
    simp only [List.length_cons] at hb
    have hne : K ≠ [] := by intro he; rw [he] at hpos; simp at hpos
    have ih := tail_chain Ks (pre ++ K.map (moveNd (pre.length : Int))) (fun K' hK' => h K' (List.mem_cons_of_mem _ hK')) (by simp; omega)
    rw [List.length_append, List.length_map] at ih
    rw [atsF, if_neg hne, tailF]
    have hs : Shift K (pre ++ (K.map (moveNd (pre.length : Int)) ++ tailF (pre.length + K.length) Ks)) pre.length := shift_moved hK (by omega) hg (by rw [List.append_assoc])
    have hc := chain_shift hs hg
    rw [← List.append_assoc] at hc ⊢
    have e1 : ([0] : List Int).map (fun k => k + (pre.length : Int)) = [(pre.length : Int)] := by simp
    rw [e1, Nat.add_zero] at hc
    exact hc.append ih
/-- What Make makes of good trees: only the root may offend. -/
theorem make_chain (x : Nd) (Ks : List (List Nd)) (h : ∀ K ∈ Ks, GoodT K ∧ K.length ≤ 2000000) (hn : Ks.length ≤ 6) : Chain (makeL x Ks) (kidsOf (makeL x Ks) 0) 1 (makeL x Ks).length := by
  rw [makeL_eq]
  exact tail_chain Ks [{ x with kids := atsF 1 Ks }] h (by simp; omega)
theorem roots_law (x : Nd) (Ks : List (List Nd)) (h : ∀ K ∈ Ks, GoodT K ∧ K.length ≤ 2000000) (hn : Ks.length ≤ 6) :
    (fitsT (makeL x Ks) 0 = true ∧ checkL (makeL x Ks) = (-1, 0)) ∨ (fitsT (makeL x Ks) 0 = false ∧ checkL (makeL x Ks) = (0, 7)) := by
  have hc := make_chain x Ks h hn
  have hl : 0 < (makeL x Ks).length := by rw [makeL_eq]; simp
  by_cases hf : fitsT (makeL x Ks) 0 = true
  · exact .inl ⟨hf, (good_iff _).1 (.cons [] 0 _ _ hl hf hc (.nil _))⟩
  · have hf' : fitsT (makeL x Ks) 0 = false := by simpa using hf
    refine .inr ⟨hf', ?_⟩
    unfold checkL
    rw [if_neg (by omega), if_pos hf']
end Go.Proofs.YtnepdjgbfhakmaaDoor
