/- text.Quote: what it answers. -/
import Derived.Test.YtnepdjgbfhakmaaDoorText3
import Derived.Test.YtnepdjgbfhakmaaDoorBuilder
import Derived.Test.YtnepdjgbfhakmaaDoorHex
namespace Go.Proofs.YtnepdjgbfhakmaaDoor
set_option linter.unusedVariables false
set_option linter.unusedSimpArgs false
open Go.RowKit Go.Shelf
attribute [local go_sem] Oper.semAt_some

/-- A rune in quotes. -/
def quoteR (r : Nat) : List UInt8 :=
  if r = 92 ∨ r = 34 then 92 :: runeB r else if r = 10 then [92, 110] else if r = 13 then [92, 114] else if r = 9 then [92, 116]
  else if r < 32 ∨ r = 127 then [92, 117, 123] ++ hexS r ++ [125] else runeB r
def quoteP (l : List (Nat × Nat)) : List UInt8 := 34 :: l.flatMap fun x => quoteR x.2
def quoteL (bs : List UInt8) : List UInt8 := quoteP (runes bs) ++ [34]

theorem hexS_length (u : Nat) : (hexS u).length ≤ 2 := by unfold hexS; split <;> simp
theorem quoteR_length (r : Nat) : 1 ≤ (quoteR r).length ∧ (quoteR r).length ≤ 6 := by
  have h1 := runeB_length r
  have h2 := hexS_length r
  unfold quoteR
  generalize runeB r = l at *
  generalize hexS r = m at *
  by_cases h3 : r = 92 ∨ r = 34
  · rw [if_pos h3, List.length_cons]; omega
  rw [if_neg h3]
  by_cases h3 : r = 10
  · rw [if_pos h3]; decide
  rw [if_neg h3]
  by_cases h3 : r = 13
  · rw [if_pos h3]; decide
  rw [if_neg h3]
  by_cases h3 : r = 9
  · rw [if_pos h3]; decide
  rw [if_neg h3]
  by_cases h3 : r < 32 ∨ r = 127
  · rw [if_pos h3, List.length_append, List.length_append]; simp; omega
  rw [if_neg h3]; omega
theorem quoteP_length : ∀ l : List (Nat × Nat), (quoteP l).length ≤ 1 + 6 * l.length
  | [] => by simp [quoteP]
  | x :: l => by
    have h1 := quoteR_length x.2
    have h2 := quoteP_length l
    simp [quoteP] at h2 ⊢
    omega
theorem quoteP_snoc (l : List (Nat × Nat)) (x : Nat × Nat) : quoteP (l ++ [x]) = quoteP l ++ quoteR x.2 := by simp [quoteP]
theorem runesF_length : ∀ (k i : Nat) (bs : List UInt8), (runesF k i bs).length ≤ bs.length
  | 0, _, bs => by simp [runesF]
  | _ + 1, _, [] => by simp [runesF]
  | k + 1, i, b :: t => by
    have h := runesF_length k (i + (dec (b :: t)).2.1) ((b :: t).drop (dec (b :: t)).2.1)
    have hd := dec_size b t
    simp only [runesF, List.length_cons, List.length_drop] at *
    omega
theorem runes_length (bs : List UInt8) : (runes bs).length ≤ bs.length := runesF_length _ _ _
theorem runesF_rune : ∀ (k i : Nat) (bs : List UInt8), ∀ x ∈ runesF k i bs, x.2 ≤ 1114111
  | 0, _, bs => by simp [runesF]
  | _ + 1, _, [] => by simp [runesF]
  | k + 1, i, b :: t => by
    intro x hx
    simp only [runesF, List.mem_cons] at hx
    rcases hx with rfl | hx
    · exact dec_rune _
    · exact runesF_rune k _ _ x hx
theorem prefix_mem {α : Type} {pre xs : List α} {x : α} (h : pre ++ [x] <+: xs) : x ∈ xs := h.subset (by simp)

theorem Bld.turn {b B : Nat} {bs : List UInt8} {W W' : World} (h : Bld b bs W) (ht : Turn B W W') : Bld b bs W' := by
  have row : ∀ p, Lib.BuilderAtF 89 5 b b p (bcells bs) W → Lib.BuilderAtF 89 5 b b p (bcells bs) W' := by
    rintro p ⟨hB, v, hb, ⟨hl, hr⟩, hne⟩
    refine ⟨hB, v, ht.block hb, ⟨hl, ?_⟩, hne⟩
    rcases hr with hr | ⟨g, cap, cur, fz, h1, h2, h3, h4⟩
    · exact .inl hr
    · exact .inr ⟨g, cap, cur, fz, h1, h2, ht.block h3, h4⟩
  rcases h with h | h
  · exact .inl (row _ h)
  · exact .inr (row _ h)
theorem Bld.below {b : Nat} {bs : List UInt8} {W W' : World} (h : Bld b bs W) (hb : Below W.heap.size W W') : Bld b bs W' := h.turn (B := 0) (Turn.of_below hb)

/-- What Quote's loop holds. -/
def QInv (n₀ : Nat) (w : World) (b B : Nat) (s : ByteArray) (pre : List (Nat × Nat)) (W : World) : Prop := Bld b (quoteP pre) W ∧ Below n₀ w W ∧ W.heap[B]? = some (.cells #[.string s] 9 (0, 0))

theorem QInv.abide {n₀ : Nat} {w : World} {b B B' : Nat} {s : ByteArray} (hn : n₀ ≤ B) (hw : n₀ ≤ w.heap.size) : AbideT B (QInv n₀ w b B' s) := fun _ _ _ h ht => ⟨h.1.turn ht, ht.below hn hw h.2.1, ht.block h.2.2⟩

set_option maxRecDepth 100000 in
set_option maxHeartbeats 2000000 in
theorem quote_calls (s : ByteArray) (w : World) (hs : s.size ≤ 10000000000000) (hT : Tz16 w) (hw : 3 < w.heap.size) :
    Calls Tryd.prog 32 #[.string s] w fun e w' => e = .returned (.string ⟨(quoteL s.data.toList).toArray⟩) ∧ Below w.heap.size w w' := by
  refine calls_of_wp_marks Tryd.func32 rfl ?_
  simp only [Tryd.ntmps32, List.size_toArray, List.length_cons, List.length_nil, Nat.reduceAdd, Nat.reduceSub, Array.replicate_succ, Array.replicate_zero, List.push_toArray, List.append_toArray, List.nil_append, List.cons_append]
  go_wp2_with (fail)
  refine (writeByte_calls w.heap.size [] 34 _ (Bld.new w) (by simp)).mono ?_
  rintro e w2 ⟨rfl, hb2, hs2⟩
  obtain ⟨A, c, W3, hcv, hcs, hbl, hsz⟩ := conv_bytes (P := Tryd.prog) 9 22 5 Tryd.underlying9 Tryd.underlying22 Tryd.underlying5 s w2
  have hrc := runes_calls A c s.data.toList W3 hcs
  rw [show s.data.toList.length = s.size from rfl, show (⟨s.data.toList.toArray⟩ : ByteArray) = s from by simp] at hrc
  have HR := Lib.hid hrc
  have hb3 := hb2.below hbl
  have hw1 : Below w.heap.size w (w.alloc (.cells #[.pointer none, .slice none 0 0] 89)) := (Below.refl _ _).alloc (Nat.le_refl _) _
  have hbw3 : Below w.heap.size w W3 := (hw1.trans hs2.1).trans (hbl.mono (by have := hs2.1.size; have := hw1.size; omega))
  clear hrc hcs hsz hb2 hs2 hbl
  go_wp2_with (fail)
  refine HR.out.mono ?_
  rintro e w4 ⟨rfl, rfl⟩
  go_wp2_with (fail)
  generalize hw4 : W3.alloc (Obj.cells #[Value.string s] 9) = w4
  have hBx : w4.heap[W3.heap.size]? = some (.cells #[.string s] 9 (0, 0)) := by rw [← hw4]; exact World.alloc_heap_new _ _
  have hit := runes_iter W3.heap.size s (0, 0) w4 (by omega) hBx
  have hbw4 : Below W3.heap.size W3 w4 := by rw [← hw4]; exact (Below.refl _ _).alloc (Nat.le_refl _) _
  have hbld := hb3.below hbw4
  have hbw : Below w.heap.size w w4 := hbw3.trans (hbw4.mono hbw3.size)
  have hlt4 : W3.heap.size < w4.heap.size := heap_lt hBx
  have hwl : w.heap.size < W3.heap.size := hb3.lt
  clear hw4 HR hcv hw1 hb3 hbw3
  refine wp_rangeFunc_iter rfl (enters_of Tryd.func67 (by kernel_rfl) rfl) hit (by simpa using hlt4) (fun _ => rfl)
    (QInv w.heap.size w w.heap.size W3.heap.size s) (fun _ _ _ => False) (QInv.abide hbw.size (Nat.le_refl _)) (fun _ _ _ _ h _ => h) ⟨hbld, hbw, hBx⟩ ?body ?done ?stop
  case body =>
    intro l pre x W W' hpre hlt hlt' hI hI'
    apply Exists.intro
    constructor
    · intro K hK
      simp only [runeRow]
      gi_wp2
      exact hK
    have hmem := prefix_mem hpre
    have hr := runesF_rune _ _ _ x hmem
    obtain ⟨p, r⟩ := x
    simp only at hr
    have hql := quoteP_length pre
    have hpl : pre.length ≤ s.size := by
      have h1 := hpre.length_le
      have h2 := runes_length s.data.toList
      have h3 : s.data.toList.length = s.size := rfl
      simp at h1; omega
    have hTW : Tz16 W' := hT.below hI'.2.1 (by omega)
    have hWs : w.heap.size < W'.heap.size := hI'.1.lt
    have key : ∀ W2, BStep w.heap.size W' W2 → Bld w.heap.size (quoteP pre ++ quoteR r) W2 → KeepsFrom w4.heap.size W' W2 ∧ SameAt [W3.heap.size] W' W2 ∧ QInv w.heap.size w w.heap.size W3.heap.size s (pre ++ [(p, r)]) W2 := by
      intro W2 hs hb
      have hbox := hs.block hI'.2.2 (by decide) (by omega)
      refine ⟨hs.keeps hI'.1.cells, ⟨hs.1.size, fun k hk => ?_⟩, ?_, hI'.2.1.trans hs.1, hbox⟩
      · simp at hk; subst hk; rw [hbox, hI'.2.2]
      · rw [quoteP_snoc]; exact hb
    have KEY := Lib.hid key
    have HB := Lib.hid hI'
    have HT := Lib.hid hTW
    clear key hI' hI hmem hTW hit hBx hbw4 hbld hbw hpre
    have h92 : ((r : Int) == 92) = decide (r = 92) := by rw [Bool.eq_iff_iff]; simp; omega
    rcases (show r = 92 ∨ r = 34 ∨ r = 10 ∨ r = 13 ∨ r = 9 ∨ ((r < 32 ∨ r = 127) ∧ r ≠ 10 ∧ r ≠ 13 ∧ r ≠ 9) ∨ (32 ≤ r ∧ r ≠ 127 ∧ r ≠ 92 ∧ r ≠ 34) by omega) with h | h | h | h | h | ⟨h, hn1, hn2, hn3⟩ | ⟨h, hn1, hn2, hn3⟩
    · obtain rfl : r = 92 := h
      clear h92
      gi_wp2_with (first | (refine ⟨trivial, ?_⟩; gi_at_call 68; refine (calls_inRound l (writeByte_calls _ _ 92 _ HB.out.1 (by omega))).mono ?_; rintro e W2 ⟨rfl, hb2, hs2⟩))
      refine ⟨trivial, ?_⟩
      refine (calls_inRound l (writeRune_calls _ _ 92 _ hb2 (by omega) (by omega) (by simp; omega))).mono ?_
      rintro e W5 ⟨⟨n, rfl⟩, hb5, hs5⟩
      gi_wp2
      exact KEY.out W5 (hs2.trans hs5) (by simpa [quoteR] using hb5)
    · obtain rfl : r = 34 := h
      clear h92
      gi_wp2_with (first | (refine ⟨trivial, ?_⟩; gi_at_call 68; refine (calls_inRound l (writeByte_calls _ _ 92 _ HB.out.1 (by omega))).mono ?_; rintro e W2 ⟨rfl, hb2, hs2⟩))
      refine ⟨trivial, ?_⟩
      refine (calls_inRound l (writeRune_calls _ _ 34 _ hb2 (by omega) (by omega) (by simp; omega))).mono ?_
      rintro e W5 ⟨⟨n, rfl⟩, hb5, hs5⟩
      gi_wp2
      exact KEY.out W5 (hs2.trans hs5) (by simpa [quoteR] using hb5)
    · obtain rfl : r = 10 := h
      clear h92
      gi_wp2_with (first | (refine ⟨trivial, ?_⟩; gi_at_call 70; refine (calls_inRound l (writeString_calls _ _ ⟨#[92, 110]⟩ _ HB.out.1 (by show _ + 2 ≤ _; omega))).mono ?_; rintro e W2 ⟨rfl, hb2, hs2⟩))
      exact KEY.out W2 hs2 hb2
    · obtain rfl : r = 13 := h
      clear h92
      gi_wp2_with (first | (refine ⟨trivial, ?_⟩; gi_at_call 70; refine (calls_inRound l (writeString_calls _ _ ⟨#[92, 114]⟩ _ HB.out.1 (by show _ + 2 ≤ _; omega))).mono ?_; rintro e W2 ⟨rfl, hb2, hs2⟩))
      exact KEY.out W2 hs2 hb2
    · obtain rfl : r = 9 := h
      clear h92
      gi_wp2_with (first | (refine ⟨trivial, ?_⟩; gi_at_call 70; refine (calls_inRound l (writeString_calls _ _ ⟨#[92, 116]⟩ _ HB.out.1 (by show _ + 2 ≤ _; omega))).mono ?_; rintro e W2 ⟨rfl, hb2, hs2⟩))
      exact KEY.out W2 hs2 hb2
    · have e92 : ((r : Int) == 92) = false := by simp; omega
      have e34 : ((r : Int) == 34) = false := by simp; omega
      have e10 : ((r : Int) == 10) = false := by simp; omega
      have e13 : ((r : Int) == 13) = false := by simp; omega
      have e9 : ((r : Int) == 9) = false := by simp; omega
      have hxl := hexS_length r
      have hq : quoteR r = [92, 117, 123] ++ hexS r ++ [125] := by
        unfold quoteR; rw [if_neg (by omega), if_neg hn1, if_neg hn2, if_neg hn3, if_pos h]
      have HQ := Lib.hid hq
      clear h92 hq
      have hcat : ∀ (W6 : World) (l : List UInt8), l.length ≤ 2 → Bld w.heap.size (quoteP pre) W6 → Calls Tryd.prog 70 #[.pointer (some ⟨w.heap.size, 0, none⟩), .string (⟨#[92, 117, 123]⟩ ++ ⟨l.toArray⟩ ++ ⟨#[125]⟩)] W6 fun e w' => e = .returned (.tuple #[.int .i64 (⟨#[92, 117, 123]⟩ ++ ⟨l.toArray⟩ ++ ⟨#[125]⟩ : ByteArray).size, .nilIface]) ∧ Bld w.heap.size (quoteP pre ++ ([92, 117, 123] ++ l ++ [125])) w' ∧ BStep w.heap.size W6 w' := by
        intro W6 l hl hb
        have hd : (⟨#[92, 117, 123]⟩ ++ ⟨l.toArray⟩ ++ ⟨#[125]⟩ : ByteArray).data.toList = [92, 117, 123] ++ l ++ [125] := by simp
        have hz : (⟨#[92, 117, 123]⟩ ++ ⟨l.toArray⟩ ++ ⟨#[125]⟩ : ByteArray).size = l.length + 4 := by
          have := congrArg List.length hd
          simp at this
          show (⟨#[92, 117, 123]⟩ ++ ⟨l.toArray⟩ ++ ⟨#[125]⟩ : ByteArray).data.size = _
          simp
          try omega
        have := writeString_calls w.heap.size (quoteP pre) (⟨#[92, 117, 123]⟩ ++ ⟨l.toArray⟩ ++ ⟨#[125]⟩) W6 hb (by rw [hz]; omega)
        rwa [hd] at this
      have HC := Lib.hid hcat
      clear hcat
      rcases h with h | h
      case' inl => have g32 : decide ((r : Int) < 32) = true := by simp; omega
      case' inr =>
        have g32 : decide ((r : Int) < 32) = false := by simp; omega
        have e127 : ((r : Int) == 127) = true := by simp; omega
      all_goals
        have hr127 : r ≤ 127 := by omega
        clear h
        gi_wp2_with (first | (refine ⟨trivial, ?_⟩; gi_at_call 71; refine (calls_inRound l (formatInt16_calls _ (by omega) _ HT.out (by omega))).mono ?_; rintro e W6 ⟨rfl, hb6⟩))
        refine ⟨trivial, ?_⟩
        refine (calls_inRound l (HC.out W6 (hexS r) hxl (HB.out.1.below hb6))).mono ?_
        rintro e W7 ⟨rfl, hb7, hs7⟩
        gi_wp2
        exact KEY.out W7 ((BStep.of_below hb6 (by omega)).trans hs7) (by rw [HQ.out]; exact hb7)
    · have e92 : ((r : Int) == 92) = false := by simp; omega
      have e34 : ((r : Int) == 34) = false := by simp; omega
      have e10 : ((r : Int) == 10) = false := by simp; omega
      have e13 : ((r : Int) == 13) = false := by simp; omega
      have e9 : ((r : Int) == 9) = false := by simp; omega
      have e127 : ((r : Int) == 127) = false := by simp; omega
      have hq : quoteR r = runeB r := by
        unfold quoteR; rw [if_neg (by omega), if_neg (by omega), if_neg (by omega), if_neg (by omega), if_neg (by omega)]
      have HQ := Lib.hid hq
      clear h92 hq
      gi_wp2_with (first | (refine ⟨trivial, ?_⟩; gi_at_call 69; refine (calls_inRound l (writeRune_calls _ _ _ _ HB.out.1 (by omega) (by omega) (by omega))).mono ?_; rintro e W2 ⟨⟨n, rfl⟩, hb2, hs2⟩))
      exact KEY.out W2 hs2 (by rw [HQ.out]; exact hb2)
  case done =>
    rintro D W hD ⟨hb, hbe, _⟩ hDf
    have hql := quoteP_length (runes s.data.toList)
    have hrl := runes_length s.data.toList
    have hsl : s.data.toList.length = s.size := rfl
    have HD := Lib.hid hDf
    have HBE := Lib.hid hbe
    have hql2 : (quoteP (runes s.data.toList)).length ≤ 1 + 6 * s.size := by omega
    have hwD : w.heap.size ≤ D := by have := hbw.size; omega
    clear hDf hbe hql hrl hsl hit hBx hbw4 hbld hbw
    go_wp2_with (first | (go_at_call 68; refine (writeByte_calls _ _ 34 _ hb (by omega)).mono ?_; rintro e W5 ⟨rfl, hb5, hs5⟩) | (go_at_call 72; refine (string_calls _ _ _ hb5).mono ?_; rintro e W6 ⟨rfl, hs6⟩))
    have hD6 := (hs6.keeps (B := 0) hb5.cells).same D _ (Nat.zero_le _) ((hs5.keeps (B := 0) hb.cells).same D _ (Nat.zero_le _) HD.out rfl) rfl
    exact marks_ret rfl hD6 (results_tmp rfl _ _ _) ⟨rfl, below_putObj ((HBE.out.trans hs5.1).trans hs6.1) hwD _⟩
  case stop =>
    rintro D c pre W _ _ _ h _
    exact h.elim
end Go.Proofs.YtnepdjgbfhakmaaDoor
