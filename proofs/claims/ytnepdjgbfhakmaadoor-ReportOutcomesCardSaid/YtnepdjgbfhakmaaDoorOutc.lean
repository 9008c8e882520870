/- report.Outcome: what it answers. -/
import Derived.Test.YtnepdjgbfhakmaaDoorRep2
import Derived.Test.YtnepdjgbfhakmaaDoorRefQuote
import Derived.Test.YtnepdjgbfhakmaaDoorOwn
import Derived.Deep.RegionHeld3
import Derived.Deep.AppendLies
import Derived.Deep.DeepCutAuto
import Derived.Deep.CutBlock
namespace Go.Proofs.YtnepdjgbfhakmaaDoor
set_option linter.unusedVariables false
set_option linter.unusedSimpArgs false
open Go.RowKit Go.Shelf
attribute [local go_sem] Oper.semAt_some

theorem step_append_cells {P : Program} {w : World} {ops : Array Oper} {o : Oper} {a : Act} {K : Act → World → Prop} {Q : Exit → Act → World → Prop} {E : Prop} (hgd : o.guard = none) (s x : Operand) (t : TypeId)
    (ho : o.op = .call { callee := .builtin .append, args := #[s, x], argTypes := #[t, t] })
    (base : Nat) (e : TypeId) (i : TypeInfo) (z : Value) (size bytes : Nat) (ht : P.underlying t = some (.slice e)) (hi : P.info? e = some i) (hz : i.zero = some z)
    (hsize : i.size = size) (hby : i.bytes = bytes) (hzs : z.cells.size = size) (hsz : 0 < size)
    (v : Value) (n : Nat) (xs : List Value) (hs : a.eval s = v) (hown : w.ownsRow base e size v n xs)
    (A : Option Addr) (m c : Nat) (news : List Value) (hx : a.eval x = .slice A m c) (hl : news.length = m * size) (hA : Cells w A news) (h0 : A = none → m = 0 ∧ c = 0) (h1 : ∀ u ∈ news, u.oneCell' = true)
    (h63 : n + m ≤ maxLen) (hbytes : (n + m) * bytes ≤ 140737488355328) (hbase : base ≤ w.heap.size)
    (h : ∀ v' w', w'.ownsRow base e size v' (n + m) (xs ++ news) → w.grownBy w' v.ownBlock → K (a.put o.dst v') w') :
    if Region.wanted o (yielded ops a.tmps) = true then Oper.wp P o a w K Q else E := by
  rw [if_pos (by simp [Region.wanted, hgd])]
  obtain ⟨v', w', hr, h2, h3⟩ := run_append_cells (P := P) w base t o.type e i z size bytes ht hi hz hsize hby hzs hsz v n xs hown A m c news hl hA h0 h1 h63 hbytes hbase
  unfold Oper.wp execOp
  simp only [ho, resolve, invoke, builtin, Sem.run_bind, Sem.run_pure, Result.andThen_ok, List.map_toArray, List.map_cons, List.map_nil, hs, hx, hr]
  exact h v' w' h2 h3

theorem own_below {B : Nat} {e : TypeId} {k : Nat} {v : Value} {n : Nat} {xs : List Value} {w w' : World} (h : w.ownsRow B e k v n xs) (hb : Below w.heap.size w w') : w'.ownsRow B e k v n xs :=
  h.kept (row := none) ⟨hb.os, hb.tape, hb.output, hb.size, fun j hj _ => hb.block j hj⟩ (by cases hv : v.ownBlock <;> simp)

/-- The word at an outcome's end. -/
def endS (e : Int) (th : ByteArray) : ByteArray :=
  if e = 1 then ⟨#[100, 111, 110, 101]⟩ else
  if e = 2 then (⟨#[116, 104, 114, 101, 119, 32]⟩ : ByteArray) ++ ⟨(quoteL th.data.toList).toArray⟩ else
  if e = 3 then ⟨#[105, 110, 101, 120, 97, 99, 116]⟩ else
  if e = 4 then ⟨#[102, 117, 101, 108]⟩ else
  if e = 5 then ⟨#[104, 101, 97, 112]⟩ else
  if e = 6 then ⟨#[100, 101, 101, 112]⟩ else ⟨#[110, 111, 110, 101]⟩
theorem end_1 (th : ByteArray) : endS 1 th = ⟨#[100, 111, 110, 101]⟩ := by unfold endS; rw [if_pos (by decide)]
theorem end_2 (th : ByteArray) : endS 2 th = (⟨#[116, 104, 114, 101, 119, 32]⟩ : ByteArray) ++ ⟨(quoteL th.data.toList).toArray⟩ := by unfold endS; rw [if_neg (by decide), if_pos (by decide)]
theorem end_3 (th : ByteArray) : endS 3 th = ⟨#[105, 110, 101, 120, 97, 99, 116]⟩ := by unfold endS; rw [if_neg (by decide), if_neg (by decide), if_pos (by decide)]
theorem end_4 (th : ByteArray) : endS 4 th = ⟨#[102, 117, 101, 108]⟩ := by unfold endS; rw [if_neg (by decide), if_neg (by decide), if_neg (by decide), if_pos (by decide)]
theorem end_5 (th : ByteArray) : endS 5 th = ⟨#[104, 101, 97, 112]⟩ := by unfold endS; rw [if_neg (by decide), if_neg (by decide), if_neg (by decide), if_neg (by decide), if_pos (by decide)]
theorem end_6 (th : ByteArray) : endS 6 th = ⟨#[100, 101, 101, 112]⟩ := by unfold endS; rw [if_neg (by decide), if_neg (by decide), if_neg (by decide), if_neg (by decide), if_neg (by decide), if_pos (by decide)]
theorem end_no {e : Int} (th : ByteArray) (h : e ≠ 1 ∧ e ≠ 2 ∧ e ≠ 3 ∧ e ≠ 4 ∧ e ≠ 5 ∧ e ≠ 6) : endS e th = ⟨#[110, 111, 110, 101]⟩ := by
  unfold endS; rw [if_neg (by omega), if_neg (by omega), if_neg (by omega), if_neg (by omega), if_neg (by omega), if_neg (by omega)]
/-- The outcome's text. -/
def lastS (e : Int) (th : ByteArray) (st : Int) : ByteArray := endS e th ++ ⟨#[32]⟩ ++ ⟨(Lib.itoa st).toArray⟩ ++ ⟨#[32, 115, 116, 101, 112, 115]⟩
def outcS (e : Int) (th : ByteArray) (os : List ByteArray) (st : Int) : ByteArray := ⟨(rowsL (os ++ [lastS e th st])).toArray⟩

theorem infoStr : (Tryd.prog.info? 9).map (fun i => (i.zero, i.size, i.bytes)) = some (some (.string ByteArray.empty), 1, 16) := by kernel_rfl
theorem scells_one (ss : List ByteArray) : ∀ u ∈ scells ss, u.oneCell' = true := by
  intro u hu
  obtain ⟨s, _, rfl⟩ := List.mem_map.1 hu
  rfl

abbrev ocells (e : Int) (th : ByteArray) (A : Option Addr) (n c : Nat) (st cl : Int) : Array Value := #[.int .i64 e, .string th, .slice A n c, .int .i64 st, .int .i64 cl]
theorem quoteL_size (th : ByteArray) : (⟨(quoteL th.data.toList).toArray⟩ : ByteArray).size ≤ 2 + 6 * th.size := by
  show (quoteL th.data.toList).toArray.size ≤ _
  rw [List.size_toArray]
  have h1 := quoteP_length (runes th.data.toList)
  have h2 := runes_length th.data.toList
  have h3 : th.data.toList.length = th.size := rfl
  have h4 : (quoteL th.data.toList).length = (quoteP (runes th.data.toList)).length + 1 := by
    unfold quoteL
    simp
  omega
theorem endS_size (e : Int) (th : ByteArray) : (endS e th).size ≤ 100 + 6 * th.size := by
  have hq := quoteL_size th
  unfold endS
  repeat' split
  all_goals first | (rw [ByteArray.size_append]; show 6 + _ ≤ _; omega) | exact Nat.le_trans (by decide : _ ≤ 100) (Nat.le_add_right _ _)
theorem itoa_size (st : Int) (h : -9223372036854775808 ≤ st ∧ st ≤ 9223372036854775807) : (⟨(Lib.itoa st).toArray⟩ : ByteArray).size ≤ 100 := by
  show (Lib.itoa st).toArray.size ≤ _
  rw [List.size_toArray]
  have hd : ∀ n : Nat, n ≤ 9223372036854775808 → (Lib.decDigits n).length ≤ 20 := fun n hn => dd_len 19 n (Nat.lt_of_le_of_lt hn (by decide))
  unfold Lib.itoa
  split
  · have := hd (-st).toNat (by omega)
    rw [List.length_cons, show st.natAbs = (-st).toNat by omega]
    omega
  · have := hd st.toNat (by omega)
    omega
/-- What holds all through. -/
def OcI (w : World) (e : Int) (th : ByteArray) (A : Option Addr) (n c : Nat) (st cl : Int) (V : World) : Prop := Below w.heap.size w V ∧ V.heap[w.heap.size]? = some (.cells (ocells e th A n c st cl) 80 (0, 0))
theorem OcI.below {w : World} {e : Int} {th : ByteArray} {A : Option Addr} {n c : Nat} {st cl : Int} {V V' : World} (h : OcI w e th A n c st cl V) (hb : Below V.heap.size V V') : OcI w e th A n c st cl V' :=
  ⟨h.1.trans (hb.mono h.1.size), (hb.block _ (Array.getElem?_eq_some_iff.1 h.2).1).trans h.2⟩
theorem OcI.start (w : World) (e : Int) (th : ByteArray) (A : Option Addr) (n c : Nat) (st cl : Int) : OcI w e th A n c st cl (w.alloc (.cells (ocells e th A n c st cl) 80)) :=
  ⟨(Below.refl _ _).alloc (Nat.le_refl _) _, World.alloc_heap_new w _⟩
theorem OcI.alloc {w : World} {e : Int} {th : ByteArray} {A : Option Addr} {n c : Nat} {st cl : Int} {V : World} (h : OcI w e th A n c st cl V) (o : Obj) : OcI w e th A n c st cl (V.alloc o) := h.below ((Below.refl _ _).alloc (Nat.le_refl _) _)
theorem OcI.drew {w : World} {e : Int} {th : ByteArray} {A : Option Addr} {n c : Nat} {st cl : Int} {V : World} (h : OcI w e th A n c st cl V) : OcI w e th A n c st cl V.drew := h.below ((Below.refl _ _).drew)
theorem OcI.lt {w : World} {e : Int} {th : ByteArray} {A : Option Addr} {n c : Nat} {st cl : Int} {V : World} (h : OcI w e th A n c st cl V) : w.heap.size < V.heap.size := (Array.getElem?_eq_some_iff.1 h.2).1

set_option maxRecDepth 100000 in
set_option maxHeartbeats 4000000 in
theorem outcome_calls (e : Int) (th : ByteArray) (A : Option Addr) (c : Nat) (os : List ByteArray) (st cl : Int) (w : World) (hst : -9223372036854775808 ≤ st ∧ st ≤ 9223372036854775807) (hth : th.size ≤ 100000) (hl : os.length ≤ 100000) (hsz : (rowsL os).length ≤ 100000)
    (h0 : A = none → os.length = 0 ∧ c = 0) (hc : Cells w A (scells os)) (hT16 : Tz16 w) (hw16 : 3 < w.heap.size) (hT : Pw10 w) :
    Calls Tryd.prog 62 #[.agg #[.int .i64 e, .string th, .slice A os.length c, .int .i64 st, .int .i64 cl]] w fun x w' => x = .returned (.string (outcS e th os st)) ∧ Below w.heap.size w w' := by
  have HC := Lib.hid hc
  have HN := Lib.hid h0
  have i1 := OcI.start w e th A os.length c st cl
  have HI := Lib.hid i1
  have HTH := Lib.hid (quote_calls th _ (by omega) (hT16.below i1.1 hw16) (Nat.lt_trans hw16 i1.lt))
  clear hc h0 i1 hT16 hw16
  go_enter Tryd.func62, Tryd.ntmps62
  go_upto_block 0 with (fail)
  go_cut [3] from 6 (fun v3 wc => v3 = .string (endS e th) ∧ OcI w e th A os.length c st cl wc)
  case first =>
    rcases (show e = 1 ∨ e = 2 ∨ e = 3 ∨ e = 4 ∨ e = 5 ∨ e = 6 ∨ (e ≠ 1 ∧ e ≠ 2 ∧ e ≠ 3 ∧ e ≠ 4 ∧ e ≠ 5 ∧ e ≠ 6) by omega) with rfl | rfl | rfl | rfl | rfl | rfl | h
    · go_wp2_with (fail)
      go_meet
      exact ⟨by rw [end_1], HI.out⟩
    · have hq := quoteL_size th
      obtain ⟨Q, hQ⟩ : ∃ Q : ByteArray, ⟨(quoteL th.data.toList).toArray⟩ = Q := ⟨_, rfl⟩
      have h2 := end_2 th
      rw [hQ] at HTH h2 hq
      have H2 := Lib.hid h2
      have hk : ¬ 9223372036854775807 < 6 + Q.size := by omega
      clear hQ h2
      go_wp2_with (fail)
      refine HTH.out.mono ?_
      rintro e W2 ⟨rfl, b2⟩
      have i2 := Lib.hid (HI.out.below b2)
      clear b2 HI
      go_wp2_with (fail)
      go_meet
      exact ⟨by rw [H2.out], i2.out⟩
    · go_wp2_with (fail)
      go_meet
      exact ⟨by rw [end_3], HI.out⟩
    · go_wp2_with (fail)
      go_meet
      exact ⟨by rw [end_4], HI.out⟩
    · go_wp2_with (fail)
      go_meet
      exact ⟨by rw [end_5], HI.out⟩
    · go_wp2_with (fail)
      go_meet
      exact ⟨by rw [end_6], HI.out⟩
    · have e1 : (e == 1) = false := by simp; omega
      have e2 : (e == 2) = false := by simp; omega
      have e3 : (e == 3) = false := by simp; omega
      have e4 : (e == 4) = false := by simp; omega
      have e5 : (e == 5) = false := by simp; omega
      have e6 : (e == 6) = false := by simp; omega
      have hn := Lib.hid (end_no th h)
      clear h
      go_wp2_with (fail)
      go_meet
      exact ⟨by rw [hn.out], HI.out⟩
  case rest =>
    obtain ⟨rfl, hI⟩ := hcut
    obtain ⟨S0, hS0⟩ : ∃ S0, endS e th = S0 := ⟨_, rfl⟩
    obtain ⟨S1, hS1⟩ : ∃ S1 : ByteArray, ⟨(Lib.itoa st).toArray⟩ = S1 := ⟨_, rfl⟩
    have z0 : S0.size ≤ 1000000 := by have := endS_size e th; rw [hS0] at this; omega
    have z1 : S1.size ≤ 100 := by have := itoa_size st hst; rwa [hS1] at this
    rw [hS0]
    have hO : outcS e th os st = ⟨(rowsL (os ++ [S0 ++ ⟨#[32]⟩ ++ S1 ++ ⟨#[32, 115, 116, 101, 112, 115]⟩])).toArray⟩ := by unfold outcS lastS; rw [hS0, hS1]
    obtain ⟨T, hT4⟩ : ∃ T : ByteArray, S0 ++ ⟨#[32]⟩ ++ S1 ++ ⟨#[32, 115, 116, 101, 112, 115]⟩ = T := ⟨_, rfl⟩
    have zT : T.size ≤ 2000000 := by
      rw [← hT4]
      simp only [ByteArray.size_append]
      show S0.size + 1 + S1.size + 6 ≤ _
      omega
    rw [hT4] at hO
    have HO := Lib.hid hO
    have IT : ∀ V, OcI w e th A os.length c st cl V → Calls Tryd.prog 88 #[.int .i64 st] V fun x w' => x = .returned (.string S1) ∧ OcI w e th A os.length c st cl w' ∧ Below V.heap.size V w' := fun V h =>
      (Tryd.strconv_Itoa st hst.1 hst.2 V (hT.below h.1)).mono fun x w' ⟨he, k, os', hw'⟩ => ⟨by rw [he, hS1], h.below (hw' ▸ grow_below _ _ _), hw' ▸ grow_below _ _ _⟩
    have RW : ∀ A' c' V, OcI w e th A os.length c st cl V → Cells V A' (scells os ++ [.string T]) → Calls Tryd.prog 87 #[.slice A' (os.length + 1) c'] V fun x w' => x = .returned (.string (outcS e th os st)) ∧ OcI w e th A os.length c st cl w' := fun A' c' V h hc => by
      have hq : T.data.toList.length = T.size := rfl
      have hr := rows_calls A' c' (os ++ [T]) V (by first | (simp; done) | (simp; omega)) (by rw [rowsL_snoc]; simp only [List.length_append, List.length_singleton]; omega) (by simpa [scells] using hc)
      rw [List.length_append, List.length_singleton] at hr
      exact hr.mono fun x w' ⟨he, hb⟩ => ⟨by rw [he, HO.out], h.below hb⟩
    have HIT := Lib.hid IT
    have HRW := Lib.hid RW
    have HT4 := Lib.hid hT4
    have hh : ∀ V, OcI w e th A os.length c st cl V → V.cell? ⟨w.heap.size, 2, none⟩ = some (.slice A os.length c) ∧ V.cell? ⟨w.heap.size, 3, none⟩ = some (.int .i64 st) ∧ OcI w e th A os.length c st cl V := fun V h => ⟨by simp [World.cell?, h.2], by simp [World.cell?, h.2], h⟩
    have HS := Lib.hid hh
    obtain ⟨i0, hi, hz0, hz1, hz2⟩ := info_parts infoStr
    have HF := Lib.hid (And.intro hi (And.intro hz0 (And.intro hz1 hz2)))
    have lt := hI.lt
    have c2 := (hh _ hI).1
    have c3 := (hh _ hI).2.1
    clear IT RW hT4 hh hO hi hz0 hz1 hz2 hS0 hS1
    have k1 : ¬ 9223372036854775807 < S0.size + 1 := by omega
    have k2 : ¬ 9223372036854775807 < S0.size + 1 + S1.size := by omega
    have k3 : ¬ 9223372036854775807 < S0.size + 1 + S1.size + 6 := by omega
    have OW := Lib.hid ((World.ownsRow_made (e := 9) (size := 1) wc #[] 0 (Nat.le_refl _) (by decide) rfl).drew)
    have SL := Lib.hid (show (scells os).length = os.length * 1 by simp [scells])
    have B0 : Below wc.heap.size wc (wc.alloc (.cells #[] 9)).drew := ((Below.refl wc.heap.size wc).alloc (Nat.le_refl _) (.cells #[] 9)).drew
    have mx : maxLen = 9223372036854775807 := rfl
    go_wp2_with (fail)
    go_region_held3 (fun V => V.cell? ⟨w.heap.size, 2, none⟩ = some (.slice A os.length c) ∧ V.cell? ⟨w.heap.size, 3, none⟩ = some (.int .i64 st) ∧ OcI w e th A os.length c st cl V)
      (first
        | exact HS.out _ (by assumption)
        | (refine HS.out _ ?_; repeat (first | assumption | refine OcI.alloc ?_ _ | refine OcI.drew ?_)))
      (first
        | (go_at_call 88; refine (HIT.out _ i2).mono ?_; rintro e' V3 ⟨rfl, i3, b3⟩; have o3 := (own_below o2 b3).alloc (.cells #[.string (S0 ++ ⟨#[32]⟩ ++ S1 ++ ⟨#[32, 115, 116, 101, 112, 115]⟩)] 9); have n3 := Cells.new V3 #[.string (S0 ++ ⟨#[32]⟩ ++ S1 ++ ⟨#[32, 115, 116, 101, 112, 115]⟩)] 9 (0, 0); have b3' := (b2.trans (b3.mono b2.size)).alloc (Nat.le_trans b2.size b3.size) (.cells #[.string (S0 ++ ⟨#[32]⟩ ++ S1 ++ ⟨#[32, 115, 116, 101, 112, 115]⟩)] 9); clear o2 b3 i2 b2)
        | (go_at_call 87; refine (HRW.out _ _ _ i4 k4).mono ?_; rintro e' V5 ⟨rfl, i5⟩)
        | (refine step_append_cells (by rfl) _ _ _ (by rfl) wc.heap.size 9 i0 (.string ByteArray.empty) 1 16 Tryd.underlying78 HF.out.1 HF.out.2.1 HF.out.2.2.1 HF.out.2.2.2 rfl (by decide) (.slice (some ⟨wc.heap.size, 0, none⟩) 0 0) 0 [] (by rfl) OW.out A os.length c (scells os) (by rfl) SL.out (HC.out.below (hI.alloc _).drew.1) HN.out (scells_one os) (by omega) (by omega) B0.size ?_; intro v2 V2 o2 g2; have b2 := B0.grown g2 B0.size (fun k hk => Nat.le_of_eq (Option.some.inj hk)); have i2 := hI.below b2; clear g2)
        | (refine step_append_cells (by rfl) _ _ _ (by rfl) wc.heap.size 9 i0 (.string ByteArray.empty) 1 16 Tryd.underlying78 HF.out.1 HF.out.2.1 HF.out.2.2.1 HF.out.2.2.2 rfl (by decide) v2 (0 + os.length) ([] ++ scells os) (by rfl) o3 (some ⟨V3.heap.size, 0, none⟩) 1 1 [.string (S0 ++ ⟨#[32]⟩ ++ S1 ++ ⟨#[32, 115, 116, 101, 112, 115]⟩)] (by rfl) (by rfl) n3 (fun h => by cases h) (fun u hu => by rw [List.mem_singleton.1 hu]; rfl) (by omega) (by omega) b3'.size ?_; intro v4 V4 o4 g4; have b4 := (b3'.grown g4 b3'.size (fun k hk => (o3.lt k hk).1)); have i4 := hI.below b4; obtain ⟨A4, c4, rfl, k4, _⟩ := own_cells o4; rw [Nat.zero_add, List.nil_append, HT4.out] at *; clear o4 g4 o3 n3 b4))
    go_wp2_with (fail)
    go_ret
    exact ⟨rfl, i5.1⟩
end Go.Proofs.YtnepdjgbfhakmaaDoor
