/- report.Output: what it answers. -/
import Derived.Test.YtnepdjgbfhakmaaDoorRep1
import Derived.Test.YtnepdjgbfhakmaaDoorLinesD
import Derived.Test.YtnepdjgbfhakmaaDoorRefRunes
import Derived.Lib.SmallJoins
namespace Go.Proofs.YtnepdjgbfhakmaaDoor
set_option linter.unusedVariables false
set_option linter.unusedSimpArgs false
open Go.RowKit Go.Shelf
attribute [local go_sem] Oper.semAt_some

/-- A rune of a line as it is shown. -/
def showR (r : Nat) : List UInt8 := if r = 13 then [] else if r = 9 then [32] else runeB r
def showP (l : List (Nat × Nat)) : List UInt8 := l.flatMap fun x => showR x.2
theorem showP_snoc (l : List (Nat × Nat)) (p r : Nat) : showP (l ++ [(p, r)]) = showP l ++ showR r := by simp [showP]
theorem showP_length (l : List (Nat × Nat)) : (showP l).length ≤ 4 * l.length := by
  induction l with
  | nil => simp [showP]
  | cons x t ih =>
    have : (showR x.2).length ≤ 4 := by
      unfold showR
      split
      · simp
      · split
        · simp
        · exact (runeB_length _).2
    simp [showP] at *
    omega

/-- The place: within the text. -/
theorem nl_count : ∀ (l : List UInt8) (i : Nat) (s : Nat × Nat), (nl l i s).1 = s.1 + l.count 10
  | [], i, s => by simp [nl]
  | c :: t, i, s => by
    rw [nl, nl_count t]
    by_cases h : c.toNat = 10
    · have hc : c = 10 := UInt8.toNat_inj.1 h
      rw [if_pos h, hc, List.count_cons_self]
      simp only; omega
    · have hc : c ≠ 10 := fun e => h (by rw [e]; rfl)
      rw [if_neg h, List.count_cons_of_ne hc]
theorem colF_le : ∀ (k p : Nat) (l : List UInt8) (a : Nat), colF k p l a ≤ k
  | 0, _, _, _ => by simp [colF]
  | k + 1, p, l, a => by
    rw [colF]
    have := colF_le k (p + (dec l).2.1) (l.drop (dec l).2.1) a
    split
    · split <;> omega
    · omega
theorem place_bounds (bs : List UInt8) (i : Int) : 1 ≤ (placeL bs i).1 ∧ (placeL bs i).1 ≤ (lines bs).length ∧ 1 ≤ (placeL bs i).2 ∧ (placeL bs i).2 ≤ bs.length + 1 := by
  have h1 := nl_count (bs.take (clampN bs i)) 0 (1, 0)
  have h2 := lines_count bs
  have h3 : (bs.take (clampN bs i)).count 10 ≤ bs.count 10 := (List.take_sublist _ _).count_le _
  have h4 := colF_le bs.length (nl (bs.take (clampN bs i)) 0 (1, 0)).2 (bs.drop (nl (bs.take (clampN bs i)) 0 (1, 0)).2) (clampN bs i)
  have hp : placeL bs i = ((nl (bs.take (clampN bs i)) 0 (1, 0)).1, 1 + colF bs.length (nl (bs.take (clampN bs i)) 0 (1, 0)).2 (bs.drop (nl (bs.take (clampN bs i)) 0 (1, 0)).2) (clampN bs i)) := rfl
  rw [hp]
  simp only at h1 ⊢
  omega

def lineB (bs : List UInt8) (k : Nat) : List UInt8 := (lineAt bs k).data.toList
/-- Output's text. -/
def headS (bs : List UInt8) (e at_ : Int) : ByteArray := (((⟨(Lib.itoa (placeL bs at_).1).toArray⟩ : ByteArray) ++ ⟨#[58]⟩ ++ ⟨(Lib.itoa (placeL bs at_).2).toArray⟩) ++ ⟨#[58, 32]⟩) ++ wordL e
def showS (bs : List UInt8) (at_ : Int) : ByteArray := ⟨(showP (runes (lineB bs (placeL bs at_).1))).toArray⟩
def markS (bs : List UInt8) (at_ : Int) : ByteArray := (⟨(Lib.repeatL [32] ((placeL bs at_).2 - 1)).toArray⟩ : ByteArray) ++ ⟨#[94]⟩
def outS (bs : List UInt8) (e at_ : Int) (text : ByteArray) : ByteArray := if e = 0 then text else ⟨(rowsL [headS bs e at_, showS bs at_, markS bs at_]).toArray⟩

/-- The table that Itoa reads is as it is laid. -/
def Pw10 (w : World) : Prop := Lib.TabIs Tryd.prog w "internal/strconv.uint64pow10" .u64 Lib.pow10Tab
theorem glob10 : Tryd.prog.globalNamed "internal/strconv.uint64pow10" = some 0 := by kernel_rfl
theorem Pw10.below {w w' : World} (h : Pw10 w) (hb : Below w.heap.size w w') : Pw10 w' := Go.Joins.tab_stays glob10 h hb (Nat.le_refl _)

/-- What the loop over the runes holds. -/
def OInv (w : World) (n0 b B : Nat) (ov : Array Value) (s : ByteArray) (pre : List (Nat × Nat)) (W : World) : Prop :=
  Bld b (showP pre) W ∧ Below n0 w W ∧ W.heap[B]? = some (.cells #[.string s] 9 (0, 0)) ∧ W.heap[n0]? = some (.cells ov 74 (0, 0))
theorem OInv.abide {w : World} {n0 b B B' : Nat} {ov : Array Value} {s : ByteArray} (hn : n0 ≤ B) (hw : n0 ≤ w.heap.size) : AbideT B (OInv w n0 b B' ov s) :=
  fun _ _ _ h ht => ⟨h.1.turn ht, ht.below hn hw h.2.1, ht.block h.2.2.1, ht.block h.2.2.2⟩

/-- What the last statement's calls keep. -/
def OutI (w : World) (b D : Nat) (ov : Array Value) (S : List UInt8) (V : World) : Prop :=
  Bld b S V ∧ Below w.heap.size w V ∧ V.heap[w.heap.size]? = some (.cells ov 74 (0, 0)) ∧ V.heap[D]? = some (.deferred (some []))
theorem OutI.below {w : World} {b D : Nat} {ov : Array Value} {S : List UInt8} {V V' : World} (h : OutI w b D ov S V) (hb : Below V.heap.size V V') : OutI w b D ov S V' :=
  ⟨h.1.below hb, h.2.1.trans (hb.mono h.2.1.size), (hb.block _ (Array.getElem?_eq_some_iff.1 h.2.2.1).1).trans h.2.2.1, (hb.block _ (Array.getElem?_eq_some_iff.1 h.2.2.2).1).trans h.2.2.2⟩
theorem grow_below (w : World) (k : Nat) (os : Array Obj) : Below w.heap.size w (Go.Sort.grow (w.drewN k) os) :=
  ⟨rfl, rfl, rfl, by simp [Go.Sort.grow], fun i hi => by simp [Go.Sort.grow, Array.getElem?_append, hi]⟩
theorem itoa_small (n : Nat) (h : n < 1000000) : (⟨(Lib.itoa n).toArray⟩ : ByteArray).size ≤ 100 := by
  show (Lib.itoa n).toArray.size ≤ _
  rw [List.size_toArray]
  have hi : Lib.itoa (n : Int) = Lib.decDigits n := by
    unfold Lib.itoa; rw [if_neg (by omega)]; simp
  rw [hi]
  have := dd_len 5 n (by simpa using h)
  omega
theorem word_small (e : Int) : (wordL e).size ≤ 100 := by
  unfold wordL
  repeat' split
  all_goals decide
theorem string2_calls (b : Nat) (bs : List UInt8) (w : World) (h : Bld b bs w) :
    Calls Tryd.prog 72 #[.pointer (some ⟨b, 0, none⟩)] w fun e w' => e = .returned (.string ⟨bs.toArray⟩) ∧ Bld b bs w' ∧ BStep b w w' := by
  refine (Tryd.Builder_String_any_k b b bs w h (Nat.le_of_lt h.lt)).mono ?_
  rintro e w' ⟨rfl, h0, h1, h2⟩
  exact ⟨rfl, h0, h1, h2⟩
theorem OutI.step_ {w : World} {b D : Nat} {ov : Array Value} {S : List UInt8} {V V' : World} (h : OutI w b D ov S V) (hb : Bld b S V') (hs : BStep b V V') (hD : b ≤ D ∧ w.heap.size < b) : OutI w b D ov S V' :=
  ⟨hb, h.2.1.trans (hs.1.mono (by omega)), (hs.1.block _ hD.2).trans h.2.2.1, (hs.keeps (B := 0) h.1.cells).same D _ (Nat.zero_le _) h.2.2.2 rfl⟩

set_option maxRecDepth 100000 in
set_option maxHeartbeats 2000000 in
theorem output_calls (A : Option Addr) (c : Nat) (bs : List UInt8) (er at_ : Int) (tx : ByteArray) (w : World) (hl : bs.length ≤ 100000) (hcap : bs.length ≤ c) (hat : -9223372036854775808 ≤ at_ ∧ at_ ≤ 9223372036854775807) (h0 : A = none → bs.length = 0 ∧ c = 0) (hc : Cells w A (bcells bs))
    (hT : Pw10 w) :
    Calls Tryd.prog 54 #[.slice A bs.length c, .agg #[.int .i64 er, .int .i64 at_, .string tx]] w fun e w' => e = .returned (.string (outS bs er at_ tx)) ∧ Below w.heap.size w w' := by
  have HC := Lib.hid hc
  have HO := Lib.hid h0
  clear hc h0
  refine calls_of_wp_marks Tryd.func54 rfl ?_
  simp only [Tryd.ntmps54, List.size_toArray, List.length_cons, List.length_nil, Nat.reduceAdd, Nat.reduceSub, Array.replicate_succ, Array.replicate_zero, List.push_toArray, List.append_toArray, List.nil_append, List.cons_append]
  by_cases he : er = 0
  · have e0 : (er == 0) = true := by simpa using he
    have ho : outS bs er at_ tx = tx := if_pos he
    have HE := Lib.hid ho
    clear he ho
    go_wp2_with (fail)
    refine wp_scope_straight ?_
    go_wp2_with (fail)
    rw [Exit.noGoto_ret]
    exact marks_ret0 rfl (results_tmp rfl _ _ _) ⟨ret_val (by rw [HE.out]; rfl), (Below.refl _ _).alloc (Nat.le_refl _) _⟩
  · have e0 : (er == 0) = false := by simpa using he
    have ho : outS bs er at_ tx = ⟨(rowsL [headS bs er at_, showS bs at_, markS bs at_]).toArray⟩ := if_neg he
    have HE := Lib.hid ho
    clear he ho
    go_wp2_with (fail)
    refine wp_scope_straight ?_
    go_wp2_with (fail)
    have b1 : Below w.heap.size w (w.alloc (.cells #[.int .i64 er, .int .i64 at_, .string tx] 74)) := (Below.refl _ _).alloc (Nat.le_refl _) _
    have o1 := World.alloc_heap_new w (.cells #[.int .i64 er, .int .i64 at_, .string tx] 74)
    refine (place_calls A c bs at_ _ (by omega) hcap (HC.out.below b1)).mono ?_
    rintro e W1 ⟨rfl, b2⟩
    have hpb := place_bounds bs at_
    have hlc : (lines bs).length ≤ 100001 := by have h1 := lines_count bs; have h2 := List.count_le_length (a := (10 : UInt8)) (l := bs); omega
    unfold headS showS markS at HE
    obtain ⟨ln, hln⟩ : ∃ ln, (placeL bs at_).1 = ln := ⟨_, rfl⟩
    obtain ⟨cl, hcl⟩ : ∃ cl, (placeL bs at_).2 = cl := ⟨_, rfl⟩
    rw [hln, hcl] at HE hpb ⊢
    clear hln hcl
    have bw1 := b1.trans (b2.mono b1.size)
    have o2 := (b2.block w.heap.size (by simp)).trans o1
    have s1 : w.heap.size < W1.heap.size := (Array.getElem?_eq_some_iff.1 o2).1
    have BW1 := Lib.hid bw1
    have O2 := Lib.hid o2
    clear b1 o1 b2 bw1 o2
    go_wp2_with (fail)
    refine (textLine_calls A c bs (ln : Int) W1 (by omega) (by omega) (by omega) HO.out (HC.out.below BW1.out)).mono ?_
    rintro e W2 ⟨rfl, b3⟩
    have hyes := line_yes (bs := bs) (n := (ln : Int)) (by omega)
    rw [hyes.1, hyes.2]
    clear hyes
    have bw2 := BW1.out.trans (b3.mono (by omega))
    have o3 := (b3.block w.heap.size s1).trans O2.out
    have s2 : w.heap.size < W2.heap.size := (Array.getElem?_eq_some_iff.1 o3).1
    have BW2 := Lib.hid bw2
    have O3 := Lib.hid o3
    clear b3 bw2 o3 BW1 O2
    obtain ⟨s, hs⟩ : ∃ s, lineAt bs (ln : Int) = s := ⟨_, rfl⟩
    have hsb : lineB bs ln = s.data.toList := by unfold lineB; rw [hs]
    have hsz : s.size ≤ 100000 := by
      obtain ⟨x, hx⟩ : ∃ x, (lines bs)[ln - 1]? = some x := ⟨_, List.getElem?_eq_getElem (by omega)⟩
      have h1 := lineAt_cut hx
      rw [show ((ln - 1 : Nat) : Int) + 1 = (ln : Int) by omega, hs] at h1
      rw [h1]
      show (cutL bs x).toArray.size ≤ _
      simp [cutL]; omega
    rw [hs]
    rw [hsb] at HE
    clear hs hsb
    obtain ⟨A3, c3, W3, hcv, hcs, hbl, hszc⟩ := conv_bytes (P := Tryd.prog) 9 22 5 Tryd.underlying9 Tryd.underlying22 Tryd.underlying5 s (W2.alloc (.cells #[.pointer none, .slice none 0 0] 89))
    have hrc := runes_calls A3 c3 s.data.toList W3 hcs
    rw [show s.data.toList.length = s.size from rfl, show (⟨s.data.toList.toArray⟩ : ByteArray) = s from by simp] at hrc
    have HR := Lib.hid hrc
    have bld3 := (Bld.new W2).below hbl
    have bA : Below W2.heap.size W2 (W2.alloc (.cells #[.pointer none, .slice none 0 0] 89)) := (Below.refl _ _).alloc (Nat.le_refl _) _
    have b3 : Below W2.heap.size W2 W3 := bA.trans (hbl.mono (by simp))
    have z3 : W2.heap.size < W3.heap.size := by have := hbl.size; simp at this; omega
    clear hrc hcs hszc hbl bA
    go_wp2_with (fail)
    refine wp_label ?_
    go_wp2_with (fail)
    refine HR.out.mono ?_
    rintro e W4' ⟨rfl, rfl⟩
    go_wp2_with (fail)
    generalize hw4 : W3.alloc (Obj.cells #[Value.string s] 9) = W4
    have hBx : W4.heap[W3.heap.size]? = some (.cells #[.string s] 9 (0, 0)) := by rw [← hw4]; exact World.alloc_heap_new _ _
    have hit := runes_iter W3.heap.size s (0, 0) W4 (by omega) hBx
    have hbw4 : Below W3.heap.size W3 W4 := by rw [← hw4]; exact (Below.refl _ _).alloc (Nat.le_refl _) _
    have hlt4 : W3.heap.size < W4.heap.size := heap_lt hBx
    have i0 : OInv w w.heap.size W2.heap.size W3.heap.size #[.int .i64 er, .int .i64 at_, .string tx] s [] W4 :=
      ⟨bld3.below hbw4, (BW2.out.trans (b3.mono (by omega))).trans (hbw4.mono (by omega)), hBx, (hbw4.block w.heap.size (by omega)).trans ((b3.block w.heap.size s2).trans O3.out)⟩
    clear hw4 HR hcv bld3 b3 hBx hbw4 BW2 O3
    refine wp_rangeFunc_iter rfl (enters_of Tryd.func67 (by kernel_rfl) rfl) hit (by simpa using hlt4) (fun _ => rfl)
      (OInv w w.heap.size W2.heap.size W3.heap.size #[.int .i64 er, .int .i64 at_, .string tx] s) (fun _ _ _ => False) (OInv.abide (by omega) (Nat.le_refl _)) (fun _ _ _ _ h _ => h) i0 ?body ?done ?stop
    case body =>
      intro l pre x W W' hpre hlt hlt' hI hI'
      apply Exists.intro
      constructor
      · intro K hK
        simp only [runeRow]
        gi_wp2
        exact hK
      have hmem := prefix_mem hpre
      have hr := runesF_rune _ _ _ x hmem
      obtain ⟨p, r⟩ := x
      simp only at hr
      have hql := showP_length pre
      have hpl : pre.length ≤ s.size := by
        have h1 := hpre.length_le
        have h2 := runes_length s.data.toList
        have h3 : s.data.toList.length = s.size := rfl
        simp at h1; omega
      have key : ∀ V, BStep W2.heap.size W' V → Bld W2.heap.size (showP pre ++ showR r) V → KeepsFrom W4.heap.size W' V ∧ SameAt [W3.heap.size] W' V ∧ OInv w w.heap.size W2.heap.size W3.heap.size #[.int .i64 er, .int .i64 at_, .string tx] s (pre ++ [(p, r)]) V := by
        intro V hs hb
        have hbox := hs.block hI'.2.2.1 (by decide) (by omega)
        refine ⟨hs.keeps hI'.1.cells, ⟨hs.1.size, fun k hk => ?_⟩, ?_, hI'.2.1.trans (hs.1.mono (by omega)), hbox, (hs.1.block w.heap.size (by omega)).trans hI'.2.2.2⟩
        · simp at hk; subst hk; rw [hbox, hI'.2.2.1]
        · rw [showP_snoc]; exact hb
      have KEY := Lib.hid key
      have HB := Lib.hid hI'
      have hWs : W2.heap.size < W'.heap.size := hI'.1.lt
      clear key hI' hI hmem hit hpre
      rcases (show r = 13 ∨ r = 9 ∨ (r ≠ 13 ∧ r ≠ 9) by omega) with h | h | ⟨h, h2⟩
      · obtain rfl : r = 13 := h
        gi_wp2_with (fail)
        exact KEY.out W' (BStep.refl _ _) (by simpa [showR] using HB.out.1)
      · obtain rfl : r = 9 := h
        gi_wp2_with (first | (refine ⟨trivial, ?_⟩; gi_at_call 69; refine (calls_inRound l (writeRune_calls _ _ 32 _ HB.out.1 (by omega) (by omega) (by omega))).mono ?_; rintro e V ⟨⟨n, rfl⟩, hb2, hs2⟩))
        exact KEY.out V hs2 (by rw [show showR 9 = runeB 32 by decide +kernel]; exact hb2)
      · have e1 : ((r : Int) == 13) = false := by simp; omega
        have e2 : ((r : Int) == 9) = false := by simp; omega
        gi_wp2_with (first | (refine ⟨trivial, ?_⟩; gi_at_call 69; refine (calls_inRound l (writeRune_calls _ _ _ _ HB.out.1 (by omega) (by omega) (by omega))).mono ?_; rintro e V ⟨⟨n, rfl⟩, hb2, hs2⟩))
        exact KEY.out V hs2 (by unfold showR; rw [if_neg h, if_neg h2]; simpa using hb2)
    case done =>
      rintro D W hD ⟨hb, hbe, hBs, hov⟩ hDf
      obtain ⟨S, hS⟩ : ∃ S, showP (runes s.data.toList) = S := ⟨_, rfl⟩
      have hSl : S.length ≤ 1000000 := by
        have h1 := showP_length (runes s.data.toList)
        have h2 := runes_length s.data.toList
        have h3 : s.data.toList.length = s.size := rfl
        rw [← hS]; omega
      rw [hS] at hb HE
      have i1 : OutI w W2.heap.size D #[.int .i64 er, .int .i64 at_, .string tx] S W := ⟨hb, hbe, hov, hDf⟩
      clear hS hb hbe hBs hov hDf i0 hit
      obtain ⟨S1, hS1⟩ : ∃ S1 : ByteArray, ⟨(Lib.itoa ln).toArray⟩ = S1 := ⟨_, rfl⟩
      obtain ⟨S2, hS2⟩ : ∃ S2 : ByteArray, ⟨(Lib.itoa cl).toArray⟩ = S2 := ⟨_, rfl⟩
      obtain ⟨S3, hS3⟩ : ∃ S3 : ByteArray, wordL er = S3 := ⟨_, rfl⟩
      obtain ⟨S4, hS4⟩ : ∃ S4 : ByteArray, ⟨(Lib.repeatL [32] (cl - 1)).toArray⟩ = S4 := ⟨_, rfl⟩
      rw [hS1, hS2, hS3, hS4] at HE
      have z1 : S1.size ≤ 100 := by rw [← hS1]; exact itoa_small ln (by omega)
      have z2 : S2.size ≤ 100 := by rw [← hS2]; exact itoa_small cl (by omega)
      have z3 : S3.size ≤ 100 := by rw [← hS3]; exact word_small er
      have z4 : S4.size ≤ 100010 := by
        rw [← hS4]
        show (Lib.repeatL [32] (cl - 1)).toArray.size ≤ _
        rw [List.size_toArray, Lib.repeatL_length]
        simp; omega
      have C1 : ∀ p : WI (OutI w W2.heap.size D #[.int .i64 er, .int .i64 at_, .string tx] S), Calls Tryd.prog 88 #[.int .i64 ln] p.w fun e w' => e = .returned (.string S1) ∧ OutI w W2.heap.size D #[.int .i64 er, .int .i64 at_, .string tx] S w' := fun p =>
        (Tryd.strconv_Itoa (ln : Int) (by omega) (by omega) p.w (hT.below p.h.2.1)).mono fun e w' ⟨he, k, os, hw'⟩ => ⟨by rw [he, hS1], p.h.below (hw' ▸ grow_below _ _ _)⟩
      have C2 : ∀ p : WI (OutI w W2.heap.size D #[.int .i64 er, .int .i64 at_, .string tx] S), Calls Tryd.prog 88 #[.int .i64 cl] p.w fun e w' => e = .returned (.string S2) ∧ OutI w W2.heap.size D #[.int .i64 er, .int .i64 at_, .string tx] S w' := fun p =>
        (Tryd.strconv_Itoa (cl : Int) (by omega) (by omega) p.w (hT.below p.h.2.1)).mono fun e w' ⟨he, k, os, hw'⟩ => ⟨by rw [he, hS2], p.h.below (hw' ▸ grow_below _ _ _)⟩
      have C3 : ∀ p : WI (OutI w W2.heap.size D #[.int .i64 er, .int .i64 at_, .string tx] S), Calls Tryd.prog 89 #[.int .i64 er] p.w fun e w' => e = .returned (.string S3) ∧ OutI w W2.heap.size D #[.int .i64 er, .int .i64 at_, .string tx] S w' := fun p =>
        (word_calls er p.w).mono fun e w' ⟨he, hw'⟩ => ⟨by rw [he, hS3], hw' ▸ p.h⟩
      have hbD : W2.heap.size ≤ D ∧ w.heap.size < W2.heap.size := by omega
      have C4 : ∀ p : WI (OutI w W2.heap.size D #[.int .i64 er, .int .i64 at_, .string tx] S), Calls Tryd.prog 72 #[.pointer (some ⟨W2.heap.size, 0, none⟩)] p.w fun e w' => e = .returned (.string ⟨S.toArray⟩) ∧ OutI w W2.heap.size D #[.int .i64 er, .int .i64 at_, .string tx] S w' := fun p =>
        (string2_calls W2.heap.size S p.w p.h.1).mono fun e w' ⟨he, hb, hs⟩ => ⟨he, p.h.step_ hb hs hbD⟩
      have C5 : ∀ p : WI (OutI w W2.heap.size D #[.int .i64 er, .int .i64 at_, .string tx] S), Calls Tryd.prog 90 #[.string ⟨#[32]⟩, .int .i64 ((cl : Int) - 1)] p.w fun e w' => e = .returned (.string S4) ∧ OutI w W2.heap.size D #[.int .i64 er, .int .i64 at_, .string tx] S w' := fun p => by
        have h := Tryd.strings_Repeat ⟨#[32]⟩ (cl - 1) p.w (by omega) (by show 1 * (cl - 1) ≤ _; omega)
        rw [show ((cl - 1 : Nat) : Int) = (cl : Int) - 1 by omega] at h
        exact h.mono fun e w' ⟨he, hb⟩ => ⟨by rw [he]; exact ret_val (by rw [← hS4]), p.h.below hb⟩
      have hcell : ∀ p : WI (OutI w W2.heap.size D #[.int .i64 er, .int .i64 at_, .string tx] S), p.w.cell? ⟨w.heap.size, 0, none⟩ = some (.int .i64 er) := fun p => by simp [World.cell?, p.h.2.2.1]
      have H1 := Lib.hid C1
      have H2 := Lib.hid C2
      have H3 := Lib.hid C3
      have H4 := Lib.hid C4
      have H5 := Lib.hid C5
      have I1 := Lib.hid i1
      clear C1 C2 C3 C4 C5 hS1 hS2 hS3 hS4 i1
      have w1 : IntKind.i64.wrap ((cl : Int) - 1) = (cl : Int) - 1 := IntWalk.i64_in _ (by omega)
      go_wp2_with (fail)
      haveI hne : Nonempty (WI (OutI w W2.heap.size D #[.int .i64 er, .int .i64 at_, .string tx] S)) := ⟨⟨_, I1.out⟩⟩
      refine wp_region_qi 16 (OutI w W2.heap.size D #[.int .i64 er, .int .i64 at_, .string tx] S) (by kernel_rfl) (by kernel_rfl) ⟨I1.out.1, I1.out.2.1.drew, I1.out.2.2.1, I1.out.2.2.2⟩ ?_
      simp only [List.take_succ_cons, List.take_zero, List.drop_succ_cons, List.drop_zero]
      have g1 : ¬ 9223372036854775807 < S1.size + 1 := by omega
      have g2 : ¬ 9223372036854775807 < S1.size + 1 + S2.size := by omega
      have g3 : ¬ 9223372036854775807 < S1.size + 1 + S2.size + 2 := by omega
      have g4 : ¬ 9223372036854775807 < S1.size + 1 + S2.size + 2 + S3.size := by omega
      have g5 : ¬ 9223372036854775807 < S4.size + 1 := by omega
      repeat (quiet_step (first | exact calls_qi (H1.out _) | exact calls_qi (H2.out _) | exact calls_qi (H3.out _) | exact calls_qi (H4.out _) | exact calls_qi (H5.out _)))
      refine wpQuiet_nil ?_
      intro V hV
      obtain ⟨T1, hT1⟩ : ∃ T1 : ByteArray, S1 ++ ⟨#[58]⟩ ++ S2 ++ ⟨#[58, 32]⟩ ++ S3 = T1 := ⟨_, rfl⟩
      obtain ⟨T2, hT2⟩ : ∃ T2 : ByteArray, (⟨S.toArray⟩ : ByteArray) = T2 := ⟨_, rfl⟩
      obtain ⟨T3, hT3⟩ : ∃ T3 : ByteArray, S4 ++ ⟨#[94]⟩ = T3 := ⟨_, rfl⟩
      have y1 : T1.size ≤ 1000 := by
        rw [← hT1]; simp only [ByteArray.size_append]
        show S1.size + 1 + S2.size + 2 + S3.size ≤ _
        omega
      have y2 : T2.size ≤ 1000000 := by rw [← hT2]; show S.toArray.size ≤ _; simpa using hSl
      have y3 : T3.size ≤ 1000000 := by
        rw [← hT3]; simp only [ByteArray.size_append]
        show S4.size + 1 ≤ _
        omega
      rw [hT1, hT2, hT3]
      have hrows := rows_calls (some ⟨V.heap.size, 0, none⟩) 3 [T1, T2, T3] (V.alloc (.cells #[.string T1, .string T2, .string T3] 9)) (by simp) (by
        have q1 : T1.data.toList.length = T1.size := rfl
        have q2 : T2.data.toList.length = T2.size := rfl
        have q3 : T3.data.toList.length = T3.size := rfl
        simp only [rowsL, List.flatMap_cons, List.flatMap_nil, List.length_append, List.length_singleton, List.append_nil]
        omega) (Cells.new V #[.string T1, .string T2, .string T3] 9 (0, 0))
      have hVb : Below w.heap.size w (V.alloc (.cells #[.string T1, .string T2, .string T3] 9)) := hV.2.1.alloc hV.2.1.size _
      have hVd : (V.alloc (.cells #[.string T1, .string T2, .string T3] 9)).heap[D]? = some (.deferred (some [])) := (Below.heap_alloc _ _ _ (Array.getElem?_eq_some_iff.1 hV.2.2.2).1).trans hV.2.2.2
      have HR := Lib.hid hrows
      have HVB := Lib.hid hVb
      have HVD := Lib.hid hVd
      have HTE := Lib.hid (And.intro hT1 (And.intro hT2 hT3))
      clear hrows hVb hVd hV hT1 hT2 hT3 g1 g2 g3 g4 g5 H1 H2 H3 H4 H5 hcell I1 w1 hne
      go_wp2_with (fail)
      refine HR.out.mono ?_
      rintro e V2 ⟨rfl, hb2⟩
      have hD2 := (hb2.block D (Array.getElem?_eq_some_iff.1 HVD.out).1).trans HVD.out
      have hB2 := HVB.out.trans (hb2.mono HVB.out.size)
      have hDw : w.heap.size ≤ D := by omega
      clear HR HVB HVD hb2
      go_wp2_with (fail)
      rw [Exit.noGoto_ret]
      refine marks_ret rfl hD2 (results_tmp rfl _ _ _) ⟨ret_val ?_, below_putObj hB2 hDw _⟩
      rw [HE.out, HTE.out.1, HTE.out.2.1, HTE.out.2.2]
      rfl
    case stop =>
      rintro D c pre W _ _ _ h _
      exact h.elim
end Go.Proofs.YtnepdjgbfhakmaaDoor
