/- Trees: Check: what it says. Trees, plain: nodes that stand as a tree; the two ways of looking through them are one. Trees, plain: how deep each node stands; where what stands beneath a node ends. Trees, plain: nodes moved; a node's own tree; a node over trees. -/
import Derived.Test.YtnepdjgbfhakmaaDoorTreeF1
namespace Go.Proofs.YtnepdjgbfhakmaaDoor
set_option linter.unusedVariables false
set_option linter.unusedSimpArgs false

/-- Check's loop: the stack (its top first), the number that comes next. -/
def chkF : Nat → List Nd → List (Nat × Nat) → Nat → Int × Int
  | 0, _, _, _ => (0, 0)
  | _ + 1, T, [], nx => if nx < T.length then ((nx : Int), 7) else (-1, 0)
  | f + 1, T, (n, j) :: st, nx =>
    if j = (T.getD n default).kids.length then chkF f T st nx
    else if (T.getD n default).kids.getD j 0 ≠ (nx : Int) then ((n : Int), 7)
    else if fitsT T nx = false then ((nx : Int), 7)
    else chkF f T ((nx, 0) :: (n, j + 1) :: st) (nx + 1)
def checkL (T : List Nd) : Int × Int :=
  if T.length = 0 then (0, 7) else if fitsT T 0 = false then (0, 7) else chkF (2 * (T.length - 1) + 1 + 1) T [(0, 0)] 1

theorem fits_in {T : List Nd} {i : Nat} (h : fitsT T i = true) : ∀ j, j < (T.getD i default).kids.length → withinB T.length ((T.getD i default).kids.getD j 0) = true := by
  unfold fitsT fitsNd at h
  simp only [Bool.and_eq_true, List.all_eq_true] at h
  exact fun j hj => h.1.2 j (List.mem_range.2 hj)

end Go.Proofs.YtnepdjgbfhakmaaDoor

namespace Go.Proofs.YtnepdjgbfhakmaaDoor
set_option linter.unusedVariables false
set_option linter.unusedSimpArgs false

abbrev kidsOf (T : List Nd) (n : Nat) : List Int := (T.getD n default).kids

/-- The kids ks stand from nx on, each with all beneath it, up to e. -/
inductive Chain (T : List Nd) : List Int → Nat → Nat → Prop
  | nil (nx : Nat) : Chain T [] nx nx
  | cons (ks : List Int) (nx m e : Nat) (hl : nx < T.length) (hf : fitsT T nx = true) (h1 : Chain T (kidsOf T nx) (nx + 1) m) (h2 : Chain T ks m e) : Chain T ((nx : Int) :: ks) nx e

theorem Chain.le {T : List Nd} {ks : List Int} {nx e : Nat} (h : Chain T ks nx e) : nx ≤ e := by
  induction h with
  | nil nx => exact Nat.le_refl _
  | cons ks nx m e hl hf h1 h2 i1 i2 => omega
theorem Chain.lt {T : List Nd} {ks : List Int} {nx e : Nat} (h : Chain T ks nx e) (hn : nx ≤ T.length) : e ≤ T.length := by
  induction h with
  | nil nx => exact hn
  | cons ks nx m e hl hf h1 h2 i1 i2 => exact i2 (i1 (by omega))
theorem Chain.length_le {T : List Nd} {ks : List Int} {nx e : Nat} (h : Chain T ks nx e) : nx + ks.length ≤ e := by
  induction h with
  | nil nx => simp
  | cons ks nx m e hl hf h1 h2 i1 i2 => have := h1.le; simp only [List.length_cons]; omega
theorem Chain.det {T : List Nd} {ks : List Int} {nx e e' : Nat} (h : Chain T ks nx e) (h' : Chain T ks nx e') : e = e' := by
  induction h generalizing e' with
  | nil nx => cases h'; rfl
  | cons ks nx m e hl hf h1 h2 i1 i2 =>
    cases h' with
    | cons _ _ m' _ _ _ k1 k2 =>
      obtain rfl := i1 k1
      exact i2 k2

/-- The reference's look: over the kids. -/
def lookK (rec : Nat → Int × Nat) (n : Nat) : List Int → Nat → Int × Nat
  | [], nx => (-1, nx)
  | k :: ks, nx => if k ≠ (nx : Int) then ((n : Int), nx) else if 0 ≤ (rec nx).1 then rec nx else lookK rec n ks (rec nx).2
/-- The reference's look. -/
def lookF : Nat → List Nd → Nat → Int × Nat
  | 0, _, n => ((n : Int), n + 1)
  | f + 1, T, n => if fitsT T n = false then ((n : Int), n + 1) else lookK (lookF f T) n (kidsOf T n) (n + 1)
def refCheck (T : List Nd) : Int × Int :=
  if T.length = 0 then (0, 7) else
  if 0 ≤ (lookF T.length T 0).1 then ((lookF T.length T 0).1, 7) else
  if (lookF T.length T 0).2 < T.length then (((lookF T.length T 0).2 : Int), 7) else (-1, 0)

theorem getD_at (l : List Int) (j : Nat) (h : j < l.length) : l.getD j 0 = l[j] := by simp [List.getD, h]
theorem fits_kid {T : List Nd} {n : Nat} (h : fitsT T n = true) {k : Int} (hk : k ∈ kidsOf T n) : ∃ m : Nat, k = m ∧ m < T.length := by
  obtain ⟨j, hj, rfl⟩ := List.getElem_of_mem hk
  have := fits_in h j hj
  rw [show (T.getD n default).kids.getD j 0 = (kidsOf T n)[j] from getD_at (kidsOf T n) j hj] at this
  exact within_nat this

/-- Enough turns are enough. -/
theorem lookK_ok {T : List Nd} {rec : Nat → Int × Nat} (hr : ∀ m, m < T.length → m < (rec m).2 ∧ (rec m).2 ≤ T.length ∧ -1 ≤ (rec m).1) (n : Nat) :
    ∀ (ks : List Int) (nx : Nat), nx ≤ T.length → (∀ k ∈ ks, ∃ m : Nat, k = m ∧ m < T.length) → nx ≤ (lookK rec n ks nx).2 ∧ (lookK rec n ks nx).2 ≤ T.length ∧ -1 ≤ (lookK rec n ks nx).1
  | [], nx, hn, _ => ⟨Nat.le_refl _, hn, by simp [lookK]⟩
  | k :: ks, nx, hn, hk => by
    rw [lookK]
    split
    · exact ⟨Nat.le_refl _, hn, by show -1 ≤ (n : Int); omega⟩
    · rename_i hne
      have he : k = (nx : Int) := by simpa using hne
      obtain ⟨m, hm, hl⟩ := hk k (List.mem_cons_self ..)
      have hnl : nx < T.length := by omega
      obtain ⟨h1, h2, h3⟩ := hr nx hnl
      split
      · exact ⟨by omega, h2, h3⟩
      · obtain ⟨k1, k2, k3⟩ := lookK_ok hr n ks (rec nx).2 h2 (fun k hk' => hk k (List.mem_cons_of_mem _ hk'))
        exact ⟨by omega, k2, k3⟩
theorem lookF_ok (T : List Nd) : ∀ (f n : Nat), n < T.length → n < (lookF f T n).2 ∧ (lookF f T n).2 ≤ T.length ∧ -1 ≤ (lookF f T n).1
  | 0, n, h => ⟨by show n < n + 1; omega, by show n + 1 ≤ T.length; omega, by show -1 ≤ (n : Int); omega⟩
  | f + 1, n, h => by
    rw [lookF]
    split
    · exact ⟨by show n < n + 1; omega, by show n + 1 ≤ T.length; omega, by show -1 ≤ (n : Int); omega⟩
    · rename_i hf
      have hf' : fitsT T n = true := by simpa using hf
      obtain ⟨h1, h2, h3⟩ := lookK_ok (fun m hm => lookF_ok T f m hm) n (kidsOf T n) (n + 1) (by omega) (fun k hk => fits_kid hf' hk)
      exact ⟨by omega, h2, h3⟩
theorem lookK_congr {T : List Nd} {rec rec' : Nat → Int × Nat} {lo : Nat} (hr : ∀ m, lo ≤ m → m < T.length → rec m = rec' m ∧ m < (rec m).2 ∧ (rec m).2 ≤ T.length) (n : Nat) :
    ∀ (ks : List Int) (nx : Nat), lo ≤ nx → (∀ k ∈ ks, ∃ m : Nat, k = m ∧ m < T.length) → lookK rec n ks nx = lookK rec' n ks nx
  | [], nx, _, _ => rfl
  | k :: ks, nx, hlo, hk => by
    rw [lookK, lookK]
    split
    · rfl
    · rename_i hne
      have he : k = (nx : Int) := by simpa using hne
      obtain ⟨m, hm, hl⟩ := hk k (List.mem_cons_self ..)
      have hnl : nx < T.length := by omega
      obtain ⟨h1, h2, h3⟩ := hr nx hlo hnl
      rw [← h1]
      split
      · rfl
      · exact lookK_congr hr n ks (rec nx).2 (by omega) (fun k hk' => hk k (List.mem_cons_of_mem _ hk'))
theorem lookF_fuel (T : List Nd) : ∀ (f f' n : Nat), n < T.length → T.length - n ≤ f → T.length - n ≤ f' → lookF f T n = lookF f' T n
  | 0, _, n, h, h1, _ => by omega
  | _ + 1, 0, n, h, _, h2 => by omega
  | f + 1, f' + 1, n, h, h1, h2 => by
    rw [lookF, lookF]
    split
    · rfl
    · rename_i hf
      have hf' : fitsT T n = true := by simpa using hf
      refine lookK_congr (lo := n + 1) (fun m hm hml => ⟨lookF_fuel T f f' m hml (by omega) (by omega), ?_⟩) n _ _ (Nat.le_refl _) (fun k hk => fits_kid hf' hk)
      obtain ⟨k1, k2, _⟩ := lookF_ok T f m hml
      exact ⟨k1, k2⟩

/-- Check's loop: what stands on the stack offends nowhere. -/
def StOk (T : List Nd) (st : List (Nat × Nat)) : Prop := ∀ e ∈ st, e.1 < T.length ∧ fitsT T e.1 = true ∧ e.2 ≤ (kidsOf T e.1).length
theorem chkF_fuel (T : List Nd) : ∀ (f f' : Nat) (st : List (Nat × Nat)) (nx : Nat), StOk T st → nx ≤ T.length → 2 * (T.length - nx) + st.length + 1 ≤ f → 2 * (T.length - nx) + st.length + 1 ≤ f' → chkF f T st nx = chkF f' T st nx
  | 0, _, st, nx, _, _, h, _ => by omega
  | _ + 1, 0, st, nx, _, _, _, h => by omega
  | f + 1, f' + 1, [], nx, _, _, _, _ => by rw [chkF, chkF]
  | f + 1, f' + 1, (n, j) :: st, nx, hs, hn, h1, h2 => by
    rw [chkF, chkF]
    simp only [List.length_cons] at h1 h2
    obtain ⟨a1, a2, a3⟩ := hs (n, j) (List.mem_cons_self ..)
    have hst : StOk T st := fun e he => hs e (List.mem_cons_of_mem _ he)
    split
    · exact chkF_fuel T f f' st nx hst hn (by omega) (by omega)
    · rename_i hj
      have hjl : j < (kidsOf T n).length := by
        have hj' : j ≠ (kidsOf T n).length := hj
        have a3' : j ≤ (kidsOf T n).length := a3
        omega
      split
      · rfl
      · rename_i hk
        obtain ⟨m, hm, hml⟩ := fits_kid a2 (List.getElem_mem hjl)
        have hg : (T.getD n default).kids.getD j 0 = (kidsOf T n)[j] := getD_at (kidsOf T n) j hjl
        have hnl : nx < T.length := by rw [hg] at hk; simp only [ne_eq, Decidable.not_not] at hk; omega
        split
        · rfl
        · rename_i hf
          refine chkF_fuel T f f' _ (nx + 1) ?_ (by omega) (by simp only [List.length_cons]; omega) (by simp only [List.length_cons]; omega)
          intro e he
          rcases List.mem_cons.1 he with rfl | he
          · exact ⟨hnl, by simpa using hf, Nat.zero_le _⟩
          · rcases List.mem_cons.1 he with rfl | he
            · exact ⟨a1, a2, by simp only; omega⟩
            · exact hst e he
/-- What Check's loop says behind a node's kids. -/
def chkA (T : List Nd) (st : List (Nat × Nat)) (r : Int × Nat) : Int × Int := if 0 ≤ r.1 then (r.1, 7) else chkF (2 * (T.length - r.2) + st.length + 1) T st r.2
theorem chk_look (T : List Nd) : ∀ (m f F n j nx : Nat) (st : List (Nat × Nat)), StOk T st → n < T.length → fitsT T n = true → j ≤ (kidsOf T n).length → n < nx → nx ≤ T.length → T.length - nx ≤ m → T.length - nx ≤ f → 2 * (T.length - nx) + st.length + 2 ≤ F →
    chkF F T ((n, j) :: st) nx = chkA T st (lookK (lookF f T) n ((kidsOf T n).drop j) nx) := by
  intro m
  induction m with
  | zero =>
    intro f F n j nx st hs hn hf hj hnx hl hm hfu hF
    obtain ⟨F, rfl⟩ : ∃ F', F = F' + 1 := ⟨F - 1, by omega⟩
    rw [chkF]
    split
    · rename_i h
      rw [List.drop_of_length_le (by rw [h]; exact Nat.le_refl _), lookK]
      show _ = chkF _ _ _ _
      exact chkF_fuel T _ _ st nx hs hl (by omega) (by omega)
    · rename_i h
      have hjl : j < (kidsOf T n).length := by have : j ≠ (kidsOf T n).length := h; omega
      have hg : (T.getD n default).kids.getD j 0 = (kidsOf T n)[j] := getD_at (kidsOf T n) j hjl
      obtain ⟨m', hm', hml⟩ := fits_kid hf (List.getElem_mem hjl)
      rw [List.drop_eq_getElem_cons hjl, lookK, hg, if_pos (by omega), if_pos (by omega)]
      simp [chkA]
  | succ m ih =>
    intro f F n j nx st hs hn hf hj hnx hl hm hfu hF
    obtain ⟨F, rfl⟩ : ∃ F', F = F' + 1 := ⟨F - 1, by omega⟩
    rw [chkF]
    split
    · rename_i h
      rw [List.drop_of_length_le (by rw [h]; exact Nat.le_refl _), lookK]
      show _ = chkF _ _ _ _
      exact chkF_fuel T _ _ st nx hs hl (by omega) (by omega)
    · rename_i h
      have hjl : j < (kidsOf T n).length := by have : j ≠ (kidsOf T n).length := h; omega
      have hg : (T.getD n default).kids.getD j 0 = (kidsOf T n)[j] := getD_at (kidsOf T n) j hjl
      obtain ⟨m', hm', hml⟩ := fits_kid hf (List.getElem_mem hjl)
      rw [List.drop_eq_getElem_cons hjl, lookK, hg]
      by_cases hk : (kidsOf T n)[j] ≠ (nx : Int)
      · rw [if_pos hk, if_pos hk]
        simp [chkA]
      · have hke : (kidsOf T n)[j] = (nx : Int) := by simpa using hk
        have hnl : nx < T.length := by omega
        rw [if_neg hk, if_neg hk]
        obtain ⟨f, rfl⟩ : ∃ f', f = f' + 1 := ⟨f - 1, by omega⟩
        by_cases hft : fitsT T nx = false
        · rw [if_pos hft]
          have : lookF (f + 1) T nx = ((nx : Int), nx + 1) := by rw [lookF, if_pos hft]
          rw [this, if_pos (by simp)]
          simp [chkA]
        · have hft' : fitsT T nx = true := by simpa using hft
          have hs2 : StOk T ((n, j + 1) :: st) := fun e he => by
            rcases List.mem_cons.1 he with rfl | he
            · exact ⟨hn, hf, hjl⟩
            · exact hs e he
          rw [if_neg hft, ih f F nx 0 (nx + 1) ((n, j + 1) :: st) hs2 hnl hft' (Nat.zero_le _) (by omega) (by omega) (by omega) (by omega) (by simp only [List.length_cons]; omega), List.drop_zero]
          have hlk : lookF (f + 1) T nx = lookK (lookF f T) nx (kidsOf T nx) (nx + 1) := by rw [lookF, if_neg hft]
          obtain ⟨o1, o2, o3⟩ := lookF_ok T (f + 1) nx hnl
          rw [← hlk]
          obtain ⟨r, hr⟩ : ∃ r, lookF (f + 1) T nx = r := ⟨_, rfl⟩
          rw [hr] at o1 o2 o3 ⊢
          unfold chkA
          by_cases hb : 0 ≤ r.1
          · rw [if_pos hb, if_pos hb, if_pos hb]
          · rw [if_neg hb, if_neg hb]
            have := ih (f + 1) (2 * (T.length - r.2) + ((n, j + 1) :: st).length + 1) n (j + 1) r.2 st hs hn hf hjl (by omega) o2 (by omega) (by omega) (by simp only [List.length_cons]; omega)
            rw [this]
            rfl
/-- The program's Check is the reference's. -/
theorem check_ref (T : List Nd) : checkL T = refCheck T := by
  unfold checkL refCheck
  by_cases h0 : T.length = 0
  · rw [if_pos h0, if_pos h0]
  · rw [if_neg h0, if_neg h0]
    by_cases hf : fitsT T 0 = false
    · obtain ⟨f, hfe⟩ : ∃ f, T.length = f + 1 := ⟨T.length - 1, by omega⟩
      have : lookF T.length T 0 = (0, 1) := by rw [hfe, lookF, if_pos hf]; rfl
      rw [if_pos hf, this, if_pos (by simp)]
    · have hf' : fitsT T 0 = true := by simpa using hf
      obtain ⟨f, hfe⟩ : ∃ f, T.length = f + 1 := ⟨T.length - 1, by omega⟩
      have hlk : lookF T.length T 0 = lookK (lookF f T) 0 (kidsOf T 0) 1 := by rw [hfe, lookF, if_neg hf]
      have := chk_look T T.length f (2 * (T.length - 1) + 1 + 1) 0 0 1 [] (fun e he => by cases he) (by omega) hf' (Nat.zero_le _) (by omega) (by omega) (by omega) (by omega) (by simp)
      rw [if_neg hf, this, List.drop_zero, ← hlk]
      obtain ⟨o1, o2, o3⟩ := lookF_ok T T.length 0 (by omega)
      unfold chkA
      split
      · rfl
      · rw [chkF]

theorem lookK_chain {T : List Nd} {rec : Nat → Int × Nat} (hr : ∀ m e, m < T.length → rec m = (-1, e) → fitsT T m = true ∧ Chain T (kidsOf T m) (m + 1) e) (h1 : ∀ m, m < T.length → -1 ≤ (rec m).1) (n : Nat) :
    ∀ (ks : List Int) (nx e : Nat), (∀ k ∈ ks, ∃ m : Nat, k = m ∧ m < T.length) → lookK rec n ks nx = (-1, e) → Chain T ks nx e
  | [], nx, e, _, h => by
    rw [lookK] at h
    obtain rfl : nx = e := by simpa using h
    exact .nil nx
  | k :: ks, nx, e, hk, h => by
    rw [lookK] at h
    obtain ⟨m, hm, hl⟩ := hk k (List.mem_cons_self ..)
    split at h
    · have := congrArg Prod.fst h
      simp at this <;> omega
    · rename_i hne
      have he : k = (nx : Int) := by simpa using hne
      have hnl : nx < T.length := by omega
      split at h
      · rename_i hb
        rw [h] at hb
        simp at hb
      · rename_i hb
        have h3 := h1 nx hnl
        have hrn : rec nx = (-1, (rec nx).2) := Prod.ext (by simp; omega) rfl
        obtain ⟨hf, hc⟩ := hr nx _ hnl hrn
        rw [he]
        exact .cons ks nx _ e hnl hf hc (lookK_chain hr h1 n ks _ e (fun k hk' => hk k (List.mem_cons_of_mem _ hk')) h)
theorem lookF_chain (T : List Nd) : ∀ (f n e : Nat), n < T.length → lookF f T n = (-1, e) → fitsT T n = true ∧ Chain T (kidsOf T n) (n + 1) e
  | 0, n, e, _, h => by
    rw [lookF] at h
    have := congrArg Prod.fst h
    simp at this <;> omega
  | f + 1, n, e, hl, h => by
    rw [lookF] at h
    split at h
    · have := congrArg Prod.fst h
      simp at this <;> omega
    · rename_i hf
      have hf' : fitsT T n = true := by simpa using hf
      exact ⟨hf', lookK_chain (fun m e hm hr => lookF_chain T f m e hm hr) (fun m hm => (lookF_ok T f m hm).2.2) n _ _ _ (fun k hk => fits_kid hf' hk) h⟩
theorem chain_lookK {T : List Nd} {ks : List Int} {nx e : Nat} (h : Chain T ks nx e) : ∀ (f n : Nat), T.length - nx ≤ f → lookK (lookF f T) n ks nx = (-1, e) := by
  induction h with
  | nil nx => intro f n _; rw [lookK]
  | cons ks nx m e hl hf h1 h2 i1 i2 =>
    intro f n hfu
    rw [lookK, if_neg (by simp)]
    obtain ⟨f, rfl⟩ : ∃ f', f = f' + 1 := ⟨f - 1, by omega⟩
    have hlk : lookF (f + 1) T nx = (-1, m) := by rw [lookF, if_neg (by simp [hf])]; exact i1 f nx (by omega)
    have := h1.le
    rw [hlk, if_neg (by simp)]
    exact i2 (f + 1) n (by omega)

/-- The nodes are a tree. -/
def GoodT (T : List Nd) : Prop := Chain T [0] 0 T.length
theorem good_iff (T : List Nd) : GoodT T ↔ checkL T = (-1, 0) := by
  rw [check_ref]
  unfold refCheck
  constructor
  · intro h
    have h' : Chain T [((0 : Nat) : Int)] 0 T.length := h
    cases h' with
    | cons _ _ m _ hl hf h1 h2 =>
      cases h2
      obtain ⟨f, hfe⟩ : ∃ f, T.length = f + 1 := ⟨T.length - 1, by omega⟩
      have hlk : lookF T.length T 0 = (-1, T.length) := by
        have := chain_lookK h1 f 0 (by omega)
        conv => lhs; rw [hfe]
        rw [lookF, if_neg (by simp [hf])]
        exact this
      rw [if_neg (by omega), hlk]
      simp
  · intro h
    split at h
    · simp at h
    · rename_i h0
      split at h
      · simp at h
      · rename_i hb
        obtain ⟨o1, o2, o3⟩ := lookF_ok T T.length 0 (by omega)
        split at h
        · simp at h
        · rename_i he
          have hlk : lookF T.length T 0 = (-1, T.length) := Prod.ext (by simp; omega) (by simp; omega)
          obtain ⟨hf, hc⟩ := lookF_chain T _ 0 _ (by omega) hlk
          exact .cons [] 0 T.length T.length (by omega) hf hc (.nil _)
theorem check_val (T : List Nd) : checkL T = (-1, 0) ∨ (checkL T).2 = 7 := by
  rw [check_ref]
  unfold refCheck
  split
  · exact .inr rfl
  · split
    · exact .inr rfl
    · split
      · exact .inr rfl
      · exact .inl rfl
theorem good_kid {T : List Nd} {ks : List Int} {nx e : Nat} (h : Chain T ks nx e) : ∀ i, nx ≤ i → i < e → i < T.length ∧ fitsT T i = true := by
  induction h with
  | nil nx => intro i h1 h2; omega
  | cons ks nx m e hl hf h1 h2 i1 i2 =>
    intro i k1 k2
    by_cases h : i = nx
    · subst h; exact ⟨hl, hf⟩
    · by_cases h' : i < m
      · exact i1 i (by omega) h'
      · exact i2 i (by omega) k2
theorem GoodT.fits {T : List Nd} (h : GoodT T) (i : Nat) (hi : i < T.length) : fitsT T i = true := (good_kid h i (Nat.zero_le _) hi).2
theorem GoodT.pos {T : List Nd} (h : GoodT T) : 0 < T.length := by have := Chain.length_le h; simp at this; omega
end Go.Proofs.YtnepdjgbfhakmaaDoor

namespace Go.Proofs.YtnepdjgbfhakmaaDoor
set_option linter.unusedVariables false
set_option linter.unusedSimpArgs false

/-- The kids of the nodes from a on, n of them. -/
def kidsFrom (T : List Nd) : Nat → Nat → List Int
  | _, 0 => []
  | a, n + 1 => kidsOf T a ++ kidsFrom T (a + 1) n
theorem kidsFrom_add (T : List Nd) : ∀ (n m a : Nat), kidsFrom T a (n + m) = kidsFrom T a n ++ kidsFrom T (a + n) m
  | 0, m, a => by simp [kidsFrom]
  | n + 1, m, a => by
    rw [show n + 1 + m = (n + m) + 1 by omega, kidsFrom, kidsFrom, kidsFrom_add T n m (a + 1), show a + 1 + n = a + (n + 1) by omega, List.append_assoc]
def rangeI : Nat → Nat → List Int
  | _, 0 => []
  | a, n + 1 => (a : Int) :: rangeI (a + 1) n
theorem rangeI_add : ∀ (n m a : Nat), rangeI a (n + m) = rangeI a n ++ rangeI (a + n) m
  | 0, m, a => by simp [rangeI]
  | n + 1, m, a => by
    rw [show n + 1 + m = (n + m) + 1 by omega, rangeI, rangeI, rangeI_add n m (a + 1), show a + 1 + n = a + (n + 1) by omega, List.cons_append]
theorem mem_rangeI : ∀ (n a : Nat) (k : Int), k ∈ rangeI a n ↔ ∃ m : Nat, k = m ∧ a ≤ m ∧ m < a + n
  | 0, a, k => by simp [rangeI] <;> omega
  | n + 1, a, k => by
    rw [rangeI, List.mem_cons, mem_rangeI n (a + 1) k]
    constructor
    · rintro (rfl | ⟨m, rfl, h1, h2⟩)
      · exact ⟨a, rfl, Nat.le_refl _, by omega⟩
      · exact ⟨m, rfl, by omega, by omega⟩
    · rintro ⟨m, rfl, h1, h2⟩
      by_cases h : m = a
      · exact .inl (by rw [h])
      · exact .inr ⟨m, rfl, by omega, by omega⟩
theorem rangeI_nodup : ∀ (n a : Nat), (rangeI a n).Nodup
  | 0, a => List.nodup_nil
  | n + 1, a => by
    rw [rangeI, List.nodup_cons]
    refine ⟨fun h => ?_, rangeI_nodup n (a + 1)⟩
    obtain ⟨m, hm, h1, h2⟩ := (mem_rangeI n (a + 1) a).1 h
    omega
/-- Each node behind the first is the kid of one node alone. -/
theorem chain_perm {T : List Nd} {ks : List Int} {nx e : Nat} (h : Chain T ks nx e) : List.Perm (ks ++ kidsFrom T nx (e - nx)) (rangeI nx (e - nx)) := by
  induction h with
  | nil nx => simp [kidsFrom, rangeI]
  | cons ks nx m e hl hf h1 h2 i1 i2 =>
    have l1 := h1.le
    have l2 := h2.le
    rw [show e - nx = ((m - (nx + 1)) + (e - m)) + 1 by omega, kidsFrom, kidsFrom_add, rangeI, rangeI_add, show nx + 1 + (m - (nx + 1)) = m by omega, List.cons_append]
    refine List.Perm.cons _ ?_
    have p := i1.append i2
    refine List.Perm.trans ?_ p
    simp only [List.append_assoc]
    have q : List.Perm (ks ++ (kidsOf T nx ++ kidsFrom T (nx + 1) (m - (nx + 1)))) ((kidsOf T nx ++ kidsFrom T (nx + 1) (m - (nx + 1))) ++ ks) := List.perm_append_comm
    have q2 := q.append_right (kidsFrom T m (e - m))
    simpa only [List.append_assoc] using q2
theorem good_nodup {T : List Nd} (h : GoodT T) : (kidsFrom T 0 T.length).Nodup := by
  have p := chain_perm h
  rw [Nat.sub_zero] at p
  have := p.nodup_iff.2 (rangeI_nodup _ _)
  exact (List.nodup_append.1 this).2.1
theorem kids_far {T : List Nd} (h : GoodT T) {a b : Nat} (hab : a < b) (hb : b < T.length) {k : Int} (h1 : k ∈ kidsOf T a) : k ∉ kidsOf T b := by
  have := good_nodup h
  rw [show T.length = a + (1 + ((b - a - 1) + (1 + (T.length - b - 1)))) by omega, kidsFrom_add, kidsFrom_add, kidsFrom_add _ (b - a - 1), kidsFrom_add _ 1, show 0 + a + 1 + (b - a - 1) = b by omega, Nat.zero_add] at this
  simp only [kidsFrom, List.append_nil] at this
  intro h2
  have k1 := (List.nodup_append.1 this).2.1
  have k2 := (List.nodup_append.1 k1).2.2
  exact k2 k h1 k (List.mem_append_right _ (List.mem_append_left _ h2)) rfl
theorem kids_nodup {T : List Nd} (h : GoodT T) {a : Nat} (ha : a < T.length) : (kidsOf T a).Nodup := by
  have := good_nodup h
  rw [show T.length = a + (1 + (T.length - a - 1)) by omega, kidsFrom_add, kidsFrom_add, Nat.zero_add] at this
  simp only [kidsFrom, List.append_nil] at this
  exact (List.nodup_append.1 (List.nodup_append.1 this).2.1).1

theorem chain_kids_ge {T : List Nd} {ks : List Int} {nx e : Nat} (h : Chain T ks nx e) : ∀ k ∈ ks, ∃ m : Nat, k = m ∧ nx ≤ m ∧ m < e := by
  induction h with
  | nil nx => intro k hk; cases hk
  | cons ks nx m e hl hf h1 h2 i1 i2 =>
    intro k hk
    have l1 := h1.le
    have l2 := h2.le
    rcases List.mem_cons.1 hk with rfl | hk
    · exact ⟨nx, rfl, Nat.le_refl _, by omega⟩
    · obtain ⟨m', rfl, k1, k2⟩ := i2 k hk
      exact ⟨m', rfl, by omega, k2⟩
/-- What stands beneath a node. -/
theorem chain_at {T : List Nd} {ks : List Int} {nx e : Nat} (h : Chain T ks nx e) : ∀ i, nx ≤ i → i < e → ∃ e', Chain T (kidsOf T i) (i + 1) e' ∧ e' ≤ e := by
  induction h with
  | nil nx => intro i h1 h2; omega
  | cons ks nx m e hl hf h1 h2 i1 i2 =>
    intro i k1 k2
    have l2 := h2.le
    by_cases h : i = nx
    · subst h; exact ⟨m, h1, l2⟩
    · by_cases h' : i < m
      · obtain ⟨e', q1, q2⟩ := i1 i (by omega) h'
        exact ⟨e', q1, by omega⟩
      · exact i2 i (by omega) k2
theorem GoodT.at {T : List Nd} (h : GoodT T) (i : Nat) (hi : i < T.length) : ∃ e, Chain T (kidsOf T i) (i + 1) e ∧ e ≤ T.length := chain_at h i (Nat.zero_le _) hi
theorem GoodT.kid {T : List Nd} (h : GoodT T) {n : Nat} (hn : n < T.length) {k : Int} (hk : k ∈ kidsOf T n) : ∃ m : Nat, k = m ∧ n < m ∧ m < T.length := by
  obtain ⟨e, hc, he⟩ := h.at n hn
  obtain ⟨m, rfl, h1, h2⟩ := chain_kids_ge hc k hk
  exact ⟨m, rfl, by omega, by omega⟩

/-- How deep: the rows of numbers as the loops write them. -/
def deepK (v : Int) : List Int → List Int → List Int
  | d, [] => d
  | d, k :: ks => deepK v (d.set k.toNat v) ks
def deepN (T : List Nd) (d : List Int) (n : Nat) : List Int := deepK (d.getD n 0 + 1) d (kidsOf T n)
def deepF (T : List Nd) : Nat → List Int → List Int
  | 0, d => d
  | n + 1, d => deepN T (deepF T n d) n
def deepL (T : List Nd) : List Int := deepF T T.length (List.replicate T.length 0)
theorem deepK_length (v : Int) : ∀ (ks d : List Int), (deepK v d ks).length = d.length
  | [], d => rfl
  | k :: ks, d => by rw [deepK, deepK_length v ks, List.length_set]
theorem deepF_length (T : List Nd) : ∀ (n : Nat) (d : List Int), (deepF T n d).length = d.length
  | 0, d => rfl
  | n + 1, d => by rw [deepF, deepN, deepK_length, deepF_length T n d]
theorem deepL_length (T : List Nd) : (deepL T).length = T.length := by rw [deepL, deepF_length, List.length_replicate]
theorem deepK_far (v : Int) : ∀ (ks d : List Int) (i : Nat), (∀ k ∈ ks, k.toNat ≠ i) → (deepK v d ks).getD i 0 = d.getD i 0
  | [], d, i, _ => rfl
  | k :: ks, d, i, h => by
    rw [deepK, deepK_far v ks _ i (fun k hk => h k (List.mem_cons_of_mem _ hk))]
    have := h k (List.mem_cons_self ..)
    simp [List.getD, List.getElem?_set_ne this]
theorem deepK_at (v : Int) : ∀ (ks d : List Int) (i : Nat), i < d.length → (∃ k ∈ ks, k.toNat = i) → (deepK v d ks).getD i 0 = v
  | [], d, i, _, h => by obtain ⟨k, hk, _⟩ := h; cases hk
  | k :: ks, d, i, hi, h => by
    rw [deepK]
    by_cases hl : ∃ k ∈ ks, k.toNat = i
    · exact deepK_at v ks _ i (by simpa using hi) hl
    · rw [deepK_far v ks _ i (fun k hk he => hl ⟨k, hk, he⟩)]
      obtain ⟨k', hk', he⟩ := h
      rcases List.mem_cons.1 hk' with rfl | hk'
      · subst he
        simp [List.getD, hi]
      · exact absurd ⟨k', hk', he⟩ hl
/-- A row that says how deep each node stands, up to node n. -/
def DeepTo (T : List Nd) (d : List Int) (n : Nat) : Prop := d.length = T.length ∧ d.getD 0 0 = 0 ∧ ∀ m, m < n → ∀ k ∈ kidsOf T m, d.getD k.toNat 0 = d.getD m 0 + 1
theorem deepF_to {T : List Nd} (h : GoodT T) : ∀ n, n ≤ T.length → DeepTo T (deepF T n (List.replicate T.length 0)) n
  | 0, _ => ⟨by simp [deepF], by simp [deepF, List.getD, List.getElem?_replicate]; split <;> rfl, fun m hm => absurd hm (by omega)⟩
  | n + 1, hn => by
    obtain ⟨h1, h2, h3⟩ := deepF_to h n (by omega)
    obtain ⟨d, hd⟩ : ∃ d, deepF T n (List.replicate T.length 0) = d := ⟨_, rfl⟩
    rw [deepF, hd]
    rw [hd] at h1 h2 h3
    unfold deepN
    have far : ∀ m, m ≤ n → (deepK (d.getD n 0 + 1) d (kidsOf T n)).getD m 0 = d.getD m 0 := fun m hm => deepK_far _ _ _ _ (fun k hk => by
      obtain ⟨m', rfl, q1, q2⟩ := h.kid (by omega) hk
      simp; omega)
    refine ⟨by rw [deepK_length]; exact h1, by rw [far 0 (Nat.zero_le _)]; exact h2, fun m hm k hk => ?_⟩
    obtain ⟨m', rfl, q1, q2⟩ := h.kid (by omega) hk
    rw [far m (by omega)]
    by_cases hmn : m = n
    · subst hmn
      exact deepK_at _ _ _ _ (by rw [h1]; simpa using q2) ⟨_, hk, rfl⟩
    · rw [deepK_far _ _ _ _ (fun k2 hk2 he => ?_)]
      · exact h3 m (by omega) _ hk
      · obtain ⟨m2, rfl, _, _⟩ := h.kid (by omega) hk2
        simp only [Int.toNat_natCast] at he
        subst he
        exact kids_far h (show m < n by omega) (by omega) hk hk2
theorem deep_to {T : List Nd} (h : GoodT T) : DeepTo T (deepL T) T.length := deepF_to h T.length (Nat.le_refl _)
/-- There is one such row. -/
theorem deep_one {T : List Nd} {d d' : List Int} {ks : List Int} {nx e : Nat} (hc : Chain T ks nx e) (he : e ≤ T.length) (h : DeepTo T d T.length) (h' : DeepTo T d' T.length) (hk : ∀ k ∈ ks, d.getD k.toNat 0 = d'.getD k.toNat 0) : ∀ i, nx ≤ i → i < e → d.getD i 0 = d'.getD i 0 := by
  induction hc with
  | nil nx => intro i h1 h2; omega
  | cons ks nx m e hl hf h1 h2 i1 i2 =>
    intro i k1 k2
    have l2 := h2.le
    have h0 := hk nx (List.mem_cons_self ..)
    simp only [Int.toNat_natCast] at h0
    by_cases hi : i = nx
    · rw [hi]; exact h0
    · by_cases h' : i < m
      · refine i1 (by omega) (fun k hk' => ?_) i (by omega) h'
        rw [h.2.2 nx hl k hk', (show DeepTo T d' T.length by assumption).2.2 nx hl k hk', h0]
      · exact i2 he (fun k hk' => hk k (List.mem_cons_of_mem _ hk')) i (by omega) k2
/-- What stands beneath nodes is at least as deep as they. -/
theorem deep_ge {T : List Nd} {d : List Int} (hd : DeepTo T d T.length) {ks : List Int} {nx e : Nat} (hc : Chain T ks nx e) : ∀ v : Int, (∀ k ∈ ks, d.getD k.toNat 0 = v) → ∀ i, nx ≤ i → i < e → v ≤ d.getD i 0 := by
  induction hc with
  | nil nx => intro v _ i h1 h2; omega
  | cons ks nx m e hl hf h1 h2 i1 i2 =>
    intro v hv i k1 k2
    have h0 := hv nx (List.mem_cons_self ..)
    simp only [Int.toNat_natCast] at h0
    by_cases hi : i = nx
    · rw [hi, h0]; exact Int.le_refl _
    · by_cases h' : i < m
      · have := i1 (d.getD nx 0 + 1) (fun k hk => hd.2.2 nx hl k hk) i (by omega) h'
        omega
      · exact i2 v (fun k hk => hv k (List.mem_cons_of_mem _ hk)) i (by omega) k2
/-- The node behind all that stands beneath one is no deeper. -/
theorem deep_behind {T : List Nd} {d : List Int} (hd : DeepTo T d T.length) {ks : List Int} {nx e : Nat} (hc : Chain T ks nx e) : ∀ v : Int, (∀ k ∈ ks, d.getD k.toNat 0 = v) → ∀ i e', nx ≤ i → i < e → Chain T (kidsOf T i) (i + 1) e' → e' < e → d.getD e' 0 ≤ d.getD i 0 := by
  induction hc with
  | nil nx => intro v _ i e' h1 h2; omega
  | cons ks nx m e hl hf h1 h2 i1 i2 =>
    intro v hv i e' k1 k2 hc' he'
    have h0 := hv nx (List.mem_cons_self ..)
    simp only [Int.toNat_natCast] at h0
    have hm : m < e → d.getD m 0 = v := fun hme => by
      cases h2 with
      | nil _ => omega
      | cons ks2 _ m2 _ hl2 hf2 q1 q2 =>
        have := hv m (List.mem_cons_of_mem _ (List.mem_cons_self ..))
        simpa using this
    by_cases hi : i = nx
    · subst hi
      obtain rfl := hc'.det h1
      rw [h0, hm he']
      exact Int.le_refl _
    · by_cases h' : i < m
      · obtain ⟨e2, q1, q2⟩ := chain_at h1 i (by omega) h'
        obtain rfl := hc'.det q1
        by_cases hem : e' < m
        · exact i1 (d.getD nx 0 + 1) (fun k hk => hd.2.2 nx hl k hk) i e' (by omega) h' hc' hem
        · obtain rfl : e' = m := by omega
          have := deep_ge hd h1 (d.getD nx 0 + 1) (fun k hk => hd.2.2 nx hl k hk) i (by omega) h'
          rw [hm he']
          omega
      · exact i2 v (fun k hk => hv k (List.mem_cons_of_mem _ hk)) i e' (by omega) k2 hc' he'

/-- Where what stands beneath a node ends: by the last kids. -/
def endF : Nat → List Nd → Nat → Nat
  | 0, _, n => n + 1
  | f + 1, T, n => if (kidsOf T n).length = 0 then n + 1 else endF f T ((kidsOf T n).getD ((kidsOf T n).length - 1) 0).toNat
def endT (T : List Nd) (n : Nat) : Nat := endF T.length T n
theorem chain_last {T : List Nd} {ks : List Int} {nx e : Nat} (h : Chain T ks nx e) (hne : ks ≠ []) : ∃ m : Nat, ks.getD (ks.length - 1) 0 = m ∧ nx ≤ m ∧ m < T.length ∧ Chain T (kidsOf T m) (m + 1) e := by
  induction h with
  | nil nx => exact absurd rfl hne
  | cons ks nx m e hl hf h1 h2 i1 i2 =>
    cases ks with
    | nil =>
      cases h2
      exact ⟨nx, rfl, Nat.le_refl _, hl, h1⟩
    | cons k ks =>
      obtain ⟨m', q1, q2, q3, q4⟩ := i2 (by simp)
      have := h1.le
      refine ⟨m', ?_, by omega, q3, q4⟩
      rw [← q1]
      simp [List.getD]
theorem endF_chain {T : List Nd} : ∀ (f n e : Nat), n < T.length → T.length - n ≤ f → Chain T (kidsOf T n) (n + 1) e → endF f T n = e
  | 0, n, e, h, hf, hc => by omega
  | f + 1, n, e, h, hf, hc => by
    rw [endF]
    split
    · rename_i h0
      rw [List.eq_nil_of_length_eq_zero h0] at hc
      cases hc
      rfl
    · rename_i h0
      obtain ⟨m, q1, q2, q3, q4⟩ := chain_last hc (by intro h; rw [h] at h0; exact h0 rfl)
      rw [q1]
      exact endF_chain f m e q3 (by omega) q4
theorem endT_chain {T : List Nd} {n e : Nat} (h : n < T.length) (hc : Chain T (kidsOf T n) (n + 1) e) : endT T n = e := endF_chain T.length n e h (by omega) hc
theorem GoodT.endOk {T : List Nd} (h : GoodT T) {n : Nat} (hn : n < T.length) : Chain T (kidsOf T n) (n + 1) (endT T n) ∧ n < endT T n ∧ endT T n ≤ T.length := by
  obtain ⟨e, hc, he⟩ := h.at n hn
  rw [endT_chain hn hc]
  have := hc.le
  exact ⟨hc, by omega, he⟩
end Go.Proofs.YtnepdjgbfhakmaaDoor

namespace Go.Proofs.YtnepdjgbfhakmaaDoor
set_option linter.unusedVariables false
set_option linter.unusedSimpArgs false

theorem wrap_small {n : Int} (h0 : -9223372036854775808 ≤ n) (h1 : n ≤ 9223372036854775807) : IntKind.i64.wrap n = n := by
  rw [IntKind.wrap_i64]; omega

/-- A node whose kids are so much later. -/
def moveNd (d : Int) (x : Nd) : Nd := { x with kids := x.kids.map fun k => IntKind.i64.wrap (k + d) }
theorem moveNd_kids {d : Int} {x : Nd} (h : ∀ k ∈ x.kids, -9223372036854775808 ≤ k + d ∧ k + d ≤ 9223372036854775807) : (moveNd d x).kids = x.kids.map fun k => k + d := by
  unfold moveNd
  simp only
  exact List.map_congr_left fun k hk => wrap_small (h k hk).1 (h k hk).2
theorem moveNd_two {d d' : Int} {x : Nd} (h : ∀ k ∈ x.kids, -9223372036854775808 ≤ k + d ∧ k + d ≤ 9223372036854775807) : moveNd d' (moveNd d x) = moveNd (d + d') x := by
  have := moveNd_kids h
  unfold moveNd at this ⊢
  simp only at this ⊢
  rw [this, List.map_map]
  congr 1
  exact List.map_congr_left fun k hk => by simp [Int.add_assoc]

/-- The nodes from n on, up to e, moved ahead by n. -/
def cutT (T : List Nd) (n e : Nat) : List Nd := ((T.drop n).take (e - n)).map (moveNd (-(n : Int)))
def subT (T : List Nd) (n : Nat) : List Nd := cutT T n (endT T n)

/-- A node over trees: the root's kids so far, what stands behind it. -/
def makeF (x : Nd) : List Int → List Nd → List (List Nd) → List Nd
  | rk, tl, [] => { x with kids := rk } :: tl
  | rk, tl, K :: Ks => if K = [] then makeF x rk tl Ks else makeF x (rk ++ [((tl.length + 1 : Nat) : Int)]) (tl ++ K.map (moveNd ((tl.length + 1 : Nat) : Int))) Ks
def makeL (x : Nd) (Ks : List (List Nd)) : List Nd := makeF x [] [] Ks

theorem drop_take_add {α : Type} (l : List α) (a b c : Nat) (h1 : a ≤ b) (h2 : b ≤ c) : (l.drop a).take (c - a) = (l.drop a).take (b - a) ++ (l.drop b).take (c - b) := by
  rw [show c - a = (b - a) + (c - b) by omega, List.take_add, List.drop_drop, show a + (b - a) = b by omega]

theorem map_shift {T : List Nd} {n nx e i : Nat} (hT : T.length ≤ 2000000) (hg : GoodT T) (hi : i ≤ nx) :
    (cutT T nx e).map (moveNd ((nx - i : Nat) : Int)) = ((T.drop nx).take (e - nx)).map (moveNd (-(i : Int))) := by
  unfold cutT
  rw [List.map_map]
  refine List.map_congr_left fun x hx => ?_
  have hxT : x ∈ T := List.mem_of_mem_drop (List.mem_of_mem_take hx)
  obtain ⟨j, hj, rfl⟩ := List.getElem_of_mem hxT
  rw [Function.comp, moveNd_two]
  · congr 1; omega
  · intro k hk
    by_cases hnl : nx ≤ T.length
    · obtain ⟨m, rfl, h1, h2⟩ := hg.kid (n := j) hj (by simpa [kidsOf, List.getD, hj] using hk)
      omega
    · have : (T.drop nx) = [] := List.drop_of_length_le (by omega)
      rw [this] at hx
      simp at hx

theorem round_aux {T : List Nd} (hT : T.length ≤ 2000000) (hg : GoodT T) (x : Nd) (i : Nat) {ks : List Int} {nx e : Nat} (hc : Chain T ks nx e) :
    i < nx → e ≤ T.length → ∀ (rk : List Int) (tl : List Nd), tl.length = nx - (i + 1) →
      makeF x rk tl (ks.map fun k => subT T k.toNat) = { x with kids := rk ++ ks.map fun k => k - (i : Int) } :: (tl ++ ((T.drop nx).take (e - nx)).map (moveNd (-(i : Int)))) := by
  induction hc with
  | nil nx => intro h1 h2 rk tl ht; simp [makeF]
  | cons ks nx m e hl hf h1 h2 i1 i2 =>
    intro hi he rk tl ht
    have l1 := h1.le
    have l2 := h2.le
    have hend : endT T nx = m := endT_chain hl h1
    have hsub : subT T nx = cutT T nx m := by unfold subT; rw [hend]
    have hlen : (cutT T nx m).length = m - nx := by unfold cutT; simp; omega
    have hne : cutT T nx m ≠ [] := by intro h; rw [h] at hlen; simp at hlen; omega
    rw [List.map_cons, makeF, Int.toNat_natCast, hsub, if_neg hne, ht, show nx - (i + 1) + 1 = nx - i by omega, map_shift (n := nx) hT hg (by omega)]
    rw [i2 (by omega) he _ _ (by simp; omega), drop_take_add T nx m e (by omega) l2]
    simp only [List.map_append, List.append_assoc, List.map_cons, List.singleton_append]
    rw [show (((nx - i : Nat) : Nat) : Int) = (nx : Int) - (i : Int) by omega]
/-- Make of a node and its kids' own trees is its own tree. -/
theorem round_law {T : List Nd} (hT : T.length ≤ 2000000) (hg : GoodT T) (i : Nat) (hi : i < T.length) :
    makeL (T.getD i default) ((kidsOf T i).map fun k => subT T k.toNat) = subT T i := by
  obtain ⟨hc, h1, h2⟩ := hg.endOk hi
  unfold makeL
  rw [round_aux hT hg (T.getD i default) i hc (by omega) h2 [] [] (by simp)]
  unfold subT cutT
  rw [show endT T i - i = (endT T i - (i + 1)) + 1 by omega, List.drop_eq_getElem_cons hi, List.take_succ_cons, List.map_cons]
  have hx : T.getD i default = T[i] := by simp [List.getD, hi]
  congr 1
  have hk := moveNd_kids (d := -(i : Int)) (x := T[i]) (fun k hk => by
    obtain ⟨m, rfl, q1, q2⟩ := hg.kid hi (show k ∈ kidsOf T i by unfold kidsOf; rw [hx]; exact hk)
    omega)
  have : moveNd (-(i : Int)) T[i] = { T[i] with kids := (moveNd (-(i : Int)) T[i]).kids } := rfl
  rw [this, hk, hx]
  unfold kidsOf
  rw [hx]
  rfl
theorem sub_root {T : List Nd} (hT : T.length ≤ 2000000) (hok : ∀ x ∈ T, ∀ k ∈ x.kids, -9223372036854775808 ≤ k ∧ k ≤ 9223372036854775807) (hg : GoodT T) : subT T 0 = T := by
  have he : endT T 0 = T.length := by
    have hg' : Chain T [((0 : Nat) : Int)] 0 T.length := hg
    cases hg' with
    | cons _ _ m _ hl hf h1 h2 =>
      cases h2
      exact endT_chain hl h1
  unfold subT cutT
  rw [he]
  simp only [Nat.sub_zero, List.drop_zero, List.take_length]
  conv => rhs; rw [← List.map_id T]
  refine List.map_congr_left fun x hx => ?_
  have := moveNd_kids (d := -((0 : Nat) : Int)) (x := x) (fun k hk => by have := hok x hx k hk; simp; exact this)
  have h2 : moveNd (-((0 : Nat) : Int)) x = { x with kids := (moveNd (-((0 : Nat) : Int)) x).kids } := rfl
  rw [h2, this]
  simp

/-- How two trees are held against each other. -/
def sameNd (x y : Nd) : Bool := x.kind == y.kind && x.text.data.toList == y.text.data.toList && x.num == y.num && x.kids == y.kids
def sameL (S T : List Nd) : Bool := S.length == T.length && (List.range S.length).all fun i => sameNd (S.getD i default) (T.getD i default)
def treesNd (x y : Nd) : Bool := sameNd x y && (x.pos == y.pos || x.kind == 1 || x.kind == 2)
theorem sameNd_refl (x : Nd) : sameNd x x = true := by unfold sameNd; simp
theorem sameL_refl (T : List Nd) : sameL T T = true := by
  unfold sameL
  simp only [beq_self_eq_true, Bool.true_and, List.all_eq_true]
  intro i _
  exact sameNd_refl _
end Go.Proofs.YtnepdjgbfhakmaaDoor
