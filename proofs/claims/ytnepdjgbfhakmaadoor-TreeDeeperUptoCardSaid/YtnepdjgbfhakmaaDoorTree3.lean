/- Trees: names, words, texts. -/
import Derived.Test.YtnepdjgbfhakmaaDoorTree2
import Derived.Test.YtnepdjgbfhakmaaDoorText2
import Derived.Test.YtnepdjgbfhakmaaDoorShelf
namespace Go.Proofs.YtnepdjgbfhakmaaDoor
set_option linter.unusedVariables false
set_option linter.unusedSimpArgs false
open Go.RowKit Go.Shelf
attribute [local go_sem] Oper.semAt_some

def digitB (c : UInt8) : Bool := decide (48 ≤ c.toNat) && decide (c.toNat ≤ 57)
def letterB (c : UInt8) : Bool := (decide (97 ≤ c.toNat) && decide (c.toNat ≤ 122)) || (decide (65 ≤ c.toNat) && decide (c.toNat ≤ 90)) || decide (c.toNat = 95) || decide (c.toNat = 36)

set_option maxRecDepth 100000 in
theorem digit_calls (c : UInt8) (w : World) : Calls Tryd.prog 169 #[.int .u8 (c.toNat : Int)] w fun e w' => e = .returned (.bool (digitB c)) ∧ w = w' := by
  have hc := c.toNat_lt
  go_enter Tryd.func169, Tryd.ntmps169
  go_wp2
  all_goals (go_ret; refine ⟨ret_val (congrArg Value.bool ?_), rfl⟩)
  all_goals (unfold digitB; rw [Bool.eq_iff_iff]; simp; try omega)
set_option maxRecDepth 100000 in
theorem letter_calls (c : UInt8) (w : World) : Calls Tryd.prog 171 #[.int .u8 (c.toNat : Int)] w fun e w' => e = .returned (.bool (letterB c)) ∧ w = w' := by
  have hc := c.toNat_lt
  go_enter Tryd.func171, Tryd.ntmps171
  go_wp2
  all_goals (go_ret; refine ⟨ret_val (congrArg Value.bool ?_), rfl⟩)
  all_goals ((try simp only [beq_iff_eq, beq_eq_false_iff_ne, ne_eq] at *); unfold letterB; rw [Bool.eq_iff_iff]; simp; try omega)

/-- The library's variable. -/
def MxLen (w : World) : Prop := ∃ m, w.cell? ⟨1, 0, none⟩ = some (.int .i64 m)
theorem MxLen.below {w w' : World} (h : MxLen w) (hb : Below w.heap.size w w') : MxLen w' := by
  obtain ⟨m, hm⟩ := h
  exact ⟨m, (hb.cell (World.block_lt_of_cell? w _ hm)).trans hm⟩
theorem MxLen.alloc {w : World} (h : MxLen w) (o : Obj) : MxLen (w.alloc o) := h.below ((Below.refl _ _).alloc (Nat.le_refl _) _)

def wordsL : List UInt8 := [32, 98, 114, 101, 97, 107, 32, 99, 97, 116, 99, 104, 32, 99, 108, 97, 115, 115, 32, 99, 111, 110, 115, 116, 32, 99, 111, 110, 115, 116, 114, 117, 99, 116, 111, 114, 32, 99, 111, 110, 116, 105, 110, 117, 101, 32, 101, 108, 115, 101, 32, 101, 110, 117, 109, 32, 101, 120, 112, 111, 114, 116, 32, 101, 120, 116, 101, 110, 100, 115, 32, 102, 97, 108, 115, 101, 32, 102, 105, 110, 97, 108, 108, 121, 32, 102, 111, 114, 32, 102, 117, 110, 99, 116, 105, 111, 110, 32, 105, 102, 32, 105, 109, 112, 108, 101, 109, 101, 110, 116, 115, 32, 105, 110, 32, 105, 110, 116, 101, 114, 102, 97, 99, 101, 32, 108, 101, 116, 32, 110, 97, 109, 101, 115, 112, 97, 99, 101, 32, 110, 101, 119, 32, 110, 117, 108, 108, 32, 111, 102, 32, 112, 117, 98, 108, 105, 99, 32, 114, 101, 97, 100, 111, 110, 108, 121, 32, 114, 101, 116, 117, 114, 110, 32, 115, 117, 112, 101, 114, 32, 116, 104, 105, 115, 32, 116, 104, 114, 111, 119, 32, 116, 114, 117, 101, 32, 116, 114, 121, 32, 116, 121, 112, 101, 32, 116, 121, 112, 101, 111, 102, 32, 117, 110, 100, 101, 102, 105, 110, 101, 100, 32, 119, 104, 105, 108, 101, 32, 97, 115, 32]
def reservedB (s : List UInt8) : Bool := Lib.contains wordsL (32 :: (s ++ [32]))
set_option maxRecDepth 100000 in
theorem reserved_calls (s : ByteArray) (w : World) (hs : s.size ≤ 2000000) (hm : MxLen w) : Calls Tryd.prog 170 #[.string s] w fun e w' => e = .returned (.bool (reservedB s.data.toList)) ∧ w = w' := by
  obtain ⟨m, hm⟩ := hm
  have hl : (32 :: (s.data.toList ++ [32])) = (⟨#[32]⟩ ++ s ++ ⟨#[32]⟩ : ByteArray).data.toList := by simp
  go_enter Tryd.func170, Tryd.ntmps170
  have HL := Lib.hid hl
  clear hl
  go_wp2_with (fail)
  refine (Tryd.strings_Contains _ _ m w (by decide +kernel) hm).mono ?_
  rintro e w' ⟨rfl, rfl⟩
  go_wp2_with (fail)
  go_ret
  exact ⟨ret_val (congrArg Value.bool (by unfold reservedB wordsL; rw [HL.out])), rfl⟩

/-- Is a text a name? -/
def nameB (s : List UInt8) : Bool := !s.isEmpty && !digitB (s.getD 0 0) && !reservedB s && s.all fun c => letterB c || digitB c
theorem ba_get (s : ByteArray) (k : Nat) (h : k < s.size) : s[k] = s.data.toList.getD k 0 := by
  have h2 : k < s.data.toList.length := h
  simp [List.getD, List.getElem?_eq_getElem h2]; rfl

set_option maxRecDepth 100000 in
set_option maxHeartbeats 400000 in
theorem name_calls (s : ByteArray) (w : World) (hs : s.size ≤ 2000000) (hm : MxLen w) : Calls Tryd.prog 137 #[.string s] w fun e w' => e = .returned (.bool (nameB s.data.toList)) ∧ w = w' := by
  go_enter Tryd.func137, Tryd.ntmps137
  rcases Nat.eq_zero_or_pos s.size with hz | hz
  · have he : s.data.toList = [] := List.eq_nil_of_length_eq_zero hz
    have he2 : nameB s.data.toList = false := by rw [he]; rfl
    have HE := Lib.hid he2
    have e1 : s.toList.isEmpty = true := by rw [ByteArray.toList_eq, he]; rfl
    clear he he2 hz
    go_wp2
    go_ret
    exact ⟨ret_val (by rw [HE.out]; rfl), rfl⟩
  · have hlen : s.data.toList.length = s.size := rfl
    have hne : s.data.toList ≠ [] := fun h => by rw [h] at hlen; simp at hlen; omega
    have e1 : s.toList.isEmpty = false := by rw [ByteArray.toList_eq]; simpa using hne
    have hd := digit_calls (s[0]'hz) w
    have hr := reserved_calls s w hs hm
    have hg := ba_get s 0 hz
    have key : nameB s.data.toList = (!digitB (s[0]'hz) && !reservedB s.data.toList && s.data.toList.all fun c => letterB c || digitB c) := by
      unfold nameB
      rw [hg]
      cases h : s.data.toList with
      | nil => exact absurd h hne
      | cons a t => simp
    have HK := Lib.hid key
    have HR := Lib.hid hr
    clear key hr hg hne hlen
    obtain ⟨d, hde⟩ : ∃ d, digitB (s[0]'hz) = d := ⟨_, rfl⟩
    obtain ⟨r, hre⟩ : ∃ r, reservedB s.data.toList = r := ⟨_, rfl⟩
    rw [hde] at hd HK
    rw [hre] at HR HK
    have HD := Lib.hid hd
    clear hd hde hre
    cases d with
    | true =>
      go_wp2_with (fail)
      refine HD.out.mono ?_
      rintro e w' ⟨rfl, rfl⟩
      go_wp2
      go_ret
      exact ⟨ret_val (by rw [HK.out]; rfl), rfl⟩
    | false =>
      cases r with
      | true =>
        go_wp2_with (fail)
        refine HD.out.mono ?_
        rintro e w' ⟨rfl, rfl⟩
        go_wp2_with (fail)
        refine HR.out.mono ?_
        rintro e w' ⟨rfl, rfl⟩
        go_wp2
        go_ret
        exact ⟨ret_val (by rw [HK.out]; rfl), rfl⟩
      | false =>
        go_wp2_with (fail)
        refine HD.out.mono ?_
        rintro e w' ⟨rfl, rfl⟩
        go_wp2_with (fail)
        refine HR.out.mono ?_
        rintro e w' ⟨rfl, rfl⟩
        go_wp2_with (fail)
        clear HD HR e1
        go_loopw [17] (fun v wr => ∃ k : Nat, v = .int .i64 k ∧ k ≤ s.size ∧ Hid ((s.data.toList.take k).all (fun c => letterB c || digitB c) = true) ∧ w = wr) (fun v _ => s.size - (intOf v).toNat)
        case atStart => exact ⟨0, rfl, by omega, Lib.hid (by simp), rfl⟩
        case round =>
          obtain ⟨k, rfl, hk, ha, rfl⟩ := hrel
          by_cases hlt : k < s.size
          · have hkl : k < s.data.toList.length := hlt
            have hl := letter_calls (s[k]'hlt) w
            have hd := digit_calls (s[k]'hlt) w
            have hts : (s.data.toList.take (k + 1)).all (fun c => letterB c || digitB c) = (letterB (s[k]'hlt) || digitB (s[k]'hlt)) := by
              rw [List.take_succ_eq_append_getElem hkl, List.all_append, ha.out]
              simp; rfl
            have hno : (letterB (s[k]'hlt) || digitB (s[k]'hlt)) = false → (s.data.toList.all fun c => letterB c || digitB c) = false := fun h => by
              rw [List.all_eq_false]
              exact ⟨s[k]'hlt, List.getElem_mem hkl, by rw [h]; decide⟩
            obtain ⟨a, hae⟩ : ∃ a, letterB (s[k]'hlt) = a := ⟨_, rfl⟩
            obtain ⟨b, hbe⟩ : ∃ b, digitB (s[k]'hlt) = b := ⟨_, rfl⟩
            rw [hae] at hl hts hno
            rw [hbe] at hd hts hno
            have HL := Lib.hid hl
            have HD := Lib.hid hd
            have HT := Lib.hid hts
            have HN := Lib.hid hno
            clear hl hd hts hno hae hbe
            cases a with
            | true =>
              go_wp2_with (fail)
              refine HL.out.mono ?_
              rintro e w' ⟨rfl, rfl⟩
              go_wp2_with (fail)
              exact ⟨⟨k + 1, by simp, by omega, Lib.hid (by rw [HT.out]; rfl), trivial⟩, by simp [intOf]; omega⟩
            | false =>
              go_wp2_with (fail)
              refine HL.out.mono ?_
              rintro e w' ⟨rfl, rfl⟩
              cases b with
              | true =>
                go_wp2_with (fail)
                refine HD.out.mono ?_
                rintro e w' ⟨rfl, rfl⟩
                go_wp2_with (fail)
                exact ⟨⟨k + 1, by simp, by omega, Lib.hid (by rw [HT.out]; rfl), trivial⟩, by simp [intOf]; omega⟩
              | false =>
                go_wp2_with (fail)
                refine HD.out.mono ?_
                rintro e w' ⟨rfl, rfl⟩
                go_wp2_with (fail)
                go_ret
                exact ⟨ret_val (by rw [HK.out, HN.out rfl]; rfl), rfl⟩
          · have hkl : k = s.size := by omega
            have hall : (s.data.toList.all fun c => letterB c || digitB c) = true := by
              have := ha.out
              rwa [hkl, List.take_of_length_le (show s.data.toList.length ≤ s.size from Nat.le_refl _)] at this
            have HA := Lib.hid hall
            clear hall ha
            go_wp2_with (fail)
            go_ret
            exact ⟨ret_val (by rw [HK.out, HA.out]; rfl), rfl⟩
end Go.Proofs.YtnepdjgbfhakmaaDoor
