/- Trees: paths. -/
import Derived.Test.YtnepdjgbfhakmaaDoorTree4
namespace Go.Proofs.YtnepdjgbfhakmaaDoor
set_option linter.unusedVariables false
set_option linter.unusedSimpArgs false
open Go.RowKit Go.Shelf
attribute [local go_sem] Oper.semAt_some

def fourL : List (List UInt8) := [[110, 117, 108, 108], [117, 110, 100, 101, 102, 105, 110, 101, 100], [116, 114, 117, 101], [102, 97, 108, 115, 101]]
/-- Is a text what a TypeName says? -/
def pathB (s : List UInt8) : Bool := fourL.contains s || (Lib.split s [46]).all nameB
theorem splitB_size (sep : ByteArray) (save : Nat) : ∀ (k : Nat) (s : ByteArray), ∀ x ∈ Lib.splitB sep save k s, x.size ≤ s.size
  | 0, s => by simp [Lib.splitB]
  | k + 1, s => by
    intro x hx
    unfold Lib.splitB at hx
    split at hx
    · simp at hx; subst hx; exact Nat.le_refl _
    · rcases List.mem_cons.1 hx with rfl | hx
      · simp; omega
      · have := splitB_size sep save k _ x hx
        simp at this; omega

set_option maxRecDepth 100000 in
set_option maxHeartbeats 400000 in
theorem path_calls (s : ByteArray) (w : World) (hs : s.size ≤ 2000000) (hm : MxLen w) : Calls Tryd.prog 136 #[.string s] w fun e w' => e = .returned (.bool (pathB s.data.toList)) ∧ Below w.heap.size w w' := by
  by_cases hf : fourL.contains s.data.toList = true
  · have hp : pathB s.data.toList = true := by unfold pathB; rw [hf]; rfl
    have HP := Lib.hid hp
    have hs4 : s = ⟨#[110, 117, 108, 108]⟩ ∨ s = ⟨#[117, 110, 100, 101, 102, 105, 110, 101, 100]⟩ ∨ s = ⟨#[116, 114, 117, 101]⟩ ∨ s = ⟨#[102, 97, 108, 115, 101]⟩ := by
      have h : s.data.toList ∈ fourL := by simpa using hf
      unfold fourL at h
      simp only [List.mem_cons, List.not_mem_nil, or_false] at h
      have key : ∀ l : List UInt8, s.data.toList = l → s = ⟨l.toArray⟩ := fun l h => by subst h; rfl
      rcases h with h | h | h | h
      · exact .inl (key _ h)
      · exact .inr (.inl (key _ h))
      · exact .inr (.inr (.inl (key _ h)))
      · exact .inr (.inr (.inr (key _ h)))
    clear hp hf hm
    rcases hs4 with rfl | rfl | rfl | rfl
    all_goals
      go_enter Tryd.func136, Tryd.ntmps136
      go_wp2
      go_ret
      exact ⟨ret_val (by rw [HP.out]; rfl), Below.refl _ _⟩
  · have hf' : fourL.contains s.data.toList = false := by simpa using hf
    have hno : ∀ l ∈ fourL, (s.toList == l) = false := fun l hl => by
      rw [beq_eq_false_iff_ne]
      exact fun h => hf (by rw [ByteArray.toList_eq] at h; rw [h]; simpa using hl)
    have n0 := hno [110, 117, 108, 108] (by decide)
    have n1 := hno [117, 110, 100, 101, 102, 105, 110, 101, 100] (by decide)
    have n2 := hno [116, 114, 117, 101] (by decide)
    have n3 := hno [102, 97, 108, 115, 101] (by decide)
    obtain ⟨m, hmx⟩ := hm
    have hsp := Tryd.strings_Split s ⟨#[46]⟩ m w (by omega) hmx (by decide)
    obtain ⟨ps, hps⟩ : ∃ ps, Lib.splitB ⟨#[46]⟩ 0 (Lib.countB s ⟨#[46]⟩) s = ps := ⟨_, rfl⟩
    have hlen : Lib.countB s ⟨#[46]⟩ + 1 = ps.length := by rw [← hps]; exact (Lib.splitB_all ⟨#[46]⟩ (by decide) 0 _ s rfl).symm
    have hcnt := Lib.countB_le ⟨#[46]⟩ (by decide) s.size s (Nat.le_refl _)
    have hpl : ps.length ≤ 2000001 := by omega
    have hsize : ∀ x ∈ ps, x.size ≤ 2000000 := fun x hx => by
      rw [← hps] at hx
      exact Nat.le_trans (splitB_size _ _ _ _ x hx) hs
    have hdata : ps.map (·.data.toList) = Lib.split s.data.toList [46] := by
      rw [← hps, Lib.splitB_data]; rfl
    have hp : pathB s.data.toList = ps.all fun x => nameB x.data.toList := by
      unfold pathB
      rw [hf', ← hdata, List.all_map]; rfl
    rw [hps, hlen] at hsp
    have HP := Lib.hid hp
    have HS := Lib.hid hsp
    have HZ := Lib.hid hsize
    have HM := Lib.hid (show MxLen w from ⟨m, hmx⟩)
    have b1 : Below w.heap.size w (w.alloc (.cells (ps.map Value.string).toArray 9)) := (Below.refl _ _).alloc (Nat.le_refl _) _
    have cs := cells_fresh w (ps.map Value.string).toArray 9 (0, 0)
    have CS := Lib.hid cs
    have B1 := Lib.hid b1
    clear hp hsp hsize hmx hdata hps hlen hf hf' hno hcnt cs b1
    go_enter Tryd.func136, Tryd.ntmps136
    go_wp2_with (fail)
    refine HS.out.mono ?_
    rintro e w' ⟨rfl, rfl⟩
    obtain ⟨w1, hw1⟩ : ∃ w1, w.alloc (.cells (ps.map Value.string).toArray 9) = w1 := ⟨_, rfl⟩
    rw [hw1] at CS B1 ⊢
    clear hw1 HS n0 n1 n2 n3
    go_wp2_with (fail)
    go_loopw [14] (fun v wr => ∃ k : Nat, v = .int .i64 k ∧ k ≤ ps.length ∧ Hid ((ps.take k).all (fun x => nameB x.data.toList) = true) ∧ w1 = wr) (fun v _ => ps.length - (intOf v).toNat)
    case atStart => exact ⟨0, rfl, by omega, Lib.hid (by simp), rfl⟩
    case round =>
      obtain ⟨k, rfl, hk, ha, rfl⟩ := hrel
      by_cases hlt : k < ps.length
      · obtain ⟨a, hA, hc⟩ := CS.out k (by simpa using hlt)
        cases hA
        have he : (⟨w.heap.size, 0, none⟩ : Addr).add k = ⟨w.heap.size, k, none⟩ := by unfold Addr.add; split <;> simp_all
        have hcell : w1.cell? ⟨w.heap.size, k, none⟩ = some (.string ps[k]) := by rw [← he, hc]; simp
        have hn := name_calls ps[k] w1 (HZ.out _ (List.getElem_mem hlt)) (HM.out.below B1.out)
        have hts : (ps.take (k + 1)).all (fun x => nameB x.data.toList) = nameB ps[k].data.toList := by
          rw [List.take_succ_eq_append_getElem hlt, List.all_append, ha.out]
          simp
        have hno : nameB ps[k].data.toList = false → (ps.all fun x => nameB x.data.toList) = false := fun h => by
          rw [List.all_eq_false]
          exact ⟨_, List.getElem_mem hlt, by rw [h]; decide⟩
        obtain ⟨b, hbe⟩ : ∃ b, nameB ps[k].data.toList = b := ⟨_, rfl⟩
        rw [hbe] at hn hts hno
        have HN := Lib.hid hn
        have HT := Lib.hid hts
        have HO := Lib.hid hno
        clear hn hts hno hbe hc he
        cases b with
        | true =>
          go_wp2_with (fail)
          refine HN.out.mono ?_
          rintro e w' ⟨rfl, rfl⟩
          go_wp2_with (fail)
          exact ⟨⟨k + 1, by simp, by omega, Lib.hid (by rw [HT.out]), trivial⟩, by simp [intOf]; omega⟩
        | false =>
          go_wp2_with (fail)
          refine HN.out.mono ?_
          rintro e w' ⟨rfl, rfl⟩
          go_wp2_with (fail)
          go_ret
          exact ⟨ret_val (by rw [HP.out, HO.out (by simp)]; rfl), B1.out⟩
      · have hkl : k = ps.length := by omega
        have hall : (ps.all fun x => nameB x.data.toList) = true := by
          have := ha.out
          rwa [hkl, List.take_of_length_le (Nat.le_refl _)] at this
        have HA := Lib.hid hall
        clear hall ha
        go_wp2_with (fail)
        go_ret
        exact ⟨ret_val (by rw [HP.out, HA.out]; rfl), B1.out⟩
end Go.Proofs.YtnepdjgbfhakmaaDoor
