/- An Outcome that came in. -/
import Derived.Test.YtnepdjgbfhakmaaDoorRowRep
import Derived.Test.YtnepdjgbfhakmaaDoorRep1
import Derived.SliceStrings
import Derived.Deep.Strs
namespace Go.Proofs.YtnepdjgbfhakmaaDoor
set_option linter.unusedVariables false
set_option linter.unusedSimpArgs false
open Go.ChangeShapes Go.WideShapes Go.ChangeAt Go.RowKit Go.Shelf

section
variable {H : Type} {enc : TypeId × Value → H} {P : Program} {w : World} {base : Nat} {spare : Nat → Bool} {held : Bool}
theorem trod_struct5 {t : TypeId} {f0 f1 f2 f3 f4 : Field} {fuel : Nat} {cs : List Value} {x : DataW H × List MemPlace} (ht : P.underlying t = some (.struct #[f0, f1, f2, f3, f4])) (h : DataW.trod enc P w base spare held fuel t cs = some x) :
    ∃ y0 y1 y2 y3 y4 n, x = (.agg [y0.1, y1.1, y2.1, y3.1, y4.1], y0.2 ++ (y1.2 ++ (y2.2 ++ (y3.2 ++ y4.2)))) ∧ cs.length = P.cellsOf t ∧ DataW.trod enc P w base spare held n f0.type ((cs.drop f0.offset).take (P.cellsOf f0.type)) = some y0 ∧
      DataW.trod enc P w base spare held n f1.type ((cs.drop f1.offset).take (P.cellsOf f1.type)) = some y1 ∧ DataW.trod enc P w base spare held n f2.type ((cs.drop f2.offset).take (P.cellsOf f2.type)) = some y2 ∧
      DataW.trod enc P w base spare held n f3.type ((cs.drop f3.offset).take (P.cellsOf f3.type)) = some y3 ∧ DataW.trod enc P w base spare held n f4.type ((cs.drop f4.offset).take (P.cellsOf f4.type)) = some y4 := by
  obtain ⟨xs, n, _, rfl, hl, hlen, hf⟩ := DataW.trod_struct ht h
  match xs, hlen with
  | [y0, y1, y2, y3, y4], _ => exact ⟨y0, y1, y2, y3, y4, n, by simp, hl, by simpa using hf 0 f0 rfl, by simpa using hf 1 f1 rfl, by simpa using hf 2 f2 rfl, by simpa using hf 3 f3 rfl, by simpa using hf 4 f4 rfl⟩
theorem array5 {α : Type} {cs : Array α} (h : cs.size = 5) : ∃ c0 c1 c2 c3 c4, cs = #[c0, c1, c2, c3, c4] := by
  obtain ⟨l⟩ := cs
  match l, h with
  | [c0, c1, c2, c3, c4], _ => exact ⟨c0, c1, c2, c3, c4, rfl⟩
theorem open_agg5 {r : Reach} {b0 : Nat} {t : TypeId} {f0 f1 f2 f3 f4 : Field} {v : Value} {d : DataW H} {p : List MemPlace} (hs : P.underlying t = some (.struct #[f0, f1, f2, f3, f4])) (hone : Go.Deep.oneCellFields P #[f0, f1, f2, f3, f4] = true) (hC : P.cellsOf t = 5)
    (hv : Value.okWide P w r b0 t v) (h : DataW.Trod enc P w base spare held t v d p) :
    ∃ (v0 v1 v2 v3 v4 : Value) (y0 y1 y2 y3 y4 : DataW H × List MemPlace) (n : Nat), v = .agg #[v0, v1, v2, v3, v4] ∧ d = .agg [y0.1, y1.1, y2.1, y3.1, y4.1] ∧ p = y0.2 ++ (y1.2 ++ (y2.2 ++ (y3.2 ++ y4.2))) ∧
      DataW.trod enc P w base spare held n f0.type [v0] = some y0 ∧ DataW.trod enc P w base spare held n f1.type [v1] = some y1 ∧ DataW.trod enc P w base spare held n f2.type [v2] = some y2 ∧ DataW.trod enc P w base spare held n f3.type [v3] = some y3 ∧ DataW.trod enc P w base spare held n f4.type [v4] = some y4 := by
  obtain ⟨cs, rfl, hsz⟩ := okWide_struct hs hv
  obtain ⟨c0, c1, c2, c3, c4, rfl⟩ := array5 (hsz.trans hC)
  obtain ⟨fuel, hf⟩ := h
  obtain ⟨y0, y1, y2, y3, y4, n, hx, _, h0, h1, h2, h3, h4⟩ := trod_struct5 hs hf
  obtain ⟨o0, k0⟩ := Go.Deep.hone_of hone 0 f0 rfl
  obtain ⟨o1, k1⟩ := Go.Deep.hone_of hone 1 f1 rfl
  obtain ⟨o2, k2⟩ := Go.Deep.hone_of hone 2 f2 rfl
  obtain ⟨o3, k3⟩ := Go.Deep.hone_of hone 3 f3 rfl
  obtain ⟨o4, k4⟩ := Go.Deep.hone_of hone 4 f4 rfl
  simp only [Prod.mk.injEq] at hx
  exact ⟨c0, c1, c2, c3, c4, y0, y1, y2, y3, y4, n, rfl, hx.1, hx.2, by simpa [Value.cells, o0, k0] using h0, by simpa [Value.cells, o1, k1] using h1, by simpa [Value.cells, o2, k2] using h2, by simpa [Value.cells, o3, k3] using h3, by simpa [Value.cells, o4, k4] using h4⟩

theorem weights_all_mem {e : TypeId} : ∀ (l : List (DataW H)) (d : DataW H), d ∈ l → ∀ n ∈ d.weights P e, n ∈ DataW.weightsAll P e l
  | x :: l, d, hd, n, hn => by
    rw [DataW.weightsAll, List.mem_append]
    rcases List.mem_cons.1 hd with rfl | h
    · exact .inl hn
    · exact .inr (weights_all_mem l d h n hn)

/-- A slice of strings that came in. -/
theorem strs_in {t e : TypeId} {n : Nat} {v : Value} {x : DataW H × List MemPlace} (ht : P.underlying t = some (.slice e)) (he : P.underlying e = some .string) (hc : P.cellsOf e = 1)
    (h : DataW.trod enc P w base spare held n t [v] = some x) (hsz : ∀ m ∈ x.1.weights P t, m ≤ 140737488351232) :
    ∃ (A : Option Addr) (c : Nat) (os : List ByteArray), v = .slice A os.length c ∧ os.length ≤ c ∧ c ≤ maxLen ∧ (A = none → os.length = 0 ∧ c = 0) ∧ Cells w A (scells os) ∧ ∀ s ∈ os, s.size ≤ 140737488351232 := by
  rcases open_strings ht he hc h with ⟨hcs, _⟩ | ⟨a, len, cap, ss, hcs, _, hl, hm, hss, hx, hcell, _⟩
  · obtain rfl := List.head_eq_of_cons_eq hcs
    exact ⟨none, 0, [], rfl, Nat.le_refl _, by decide, fun _ => ⟨rfl, rfl⟩, fun i hi => by simp [scells] at hi, fun s hs => by cases hs⟩
  · obtain rfl := List.head_eq_of_cons_eq hcs
    have hle : len ≤ ss.length := by rw [hss]; split <;> omega
    have htl : (ss.take len).length = len := by rw [List.length_take]; omega
    refine ⟨some a, cap, ss.take len, by rw [htl], by omega, hm, (fun h => by cases h), fun i hi => ⟨a, rfl, ?_⟩, fun s hs => ?_⟩
    · simp only [scells, List.length_map, List.length_take] at hi
      rw [hcell i (by omega)]
      simp [scells, List.getD, List.getElem?_eq_getElem (show i < ss.length by omega)]
    · refine hsz _ ?_
      rw [hx]
      simp only [DataW.weights, ht]
      refine List.mem_cons_of_mem _ (List.mem_append_left _ (weights_all_mem _ (.lit (.string s.data.toList)) ?_ _ ?_))
      · exact List.mem_map.2 ⟨s, hs, rfl⟩
      · simp [DataW.weights]
end

set_option maxRecDepth 100000 in
theorem open_outcome {H : Type} {enc : TypeId × Value → H} {W : World} {base : Nat} {spare : Nat → Bool} {held : Bool} {r : Reach} {b0 : Nat} {v : Value} {d : DataW H} {p : List MemPlace} {ts : List TypeId} {ds : List (DataW H)} {j : Nat}
    (hv : Value.okWide Tryd.prog W r b0 80 v) (h : DataW.Trod enc Tryd.prog W base spare held 80 v d p)
    (hsz : (DataW.weightsEach Tryd.prog ts ds).all (· ≤ reachBytes) = true) (ht : ts[j]? = some 80) (hd : ds[j]? = some d) :
    ∃ (e : Int) (th : ByteArray) (A : Option Addr) (c : Nat) (os : List ByteArray) (st cl : Int), v = .agg #[.int .i64 e, .string th, .slice A os.length c, .int .i64 st, .int .i64 cl] ∧ th.size ≤ 140737488351232 ∧ (∀ s ∈ os, s.size ≤ 140737488351232) ∧ os.length ≤ c ∧ c ≤ maxLen ∧
      (A = none → os.length = 0 ∧ c = 0) ∧ Cells W A (scells os) ∧ (Lit.int .i64 st).wf = true := by
  obtain ⟨u0, u1, u2, u3, u4, y0, y1, y2, y3, y4, n, rfl, rfl, rfl, t0, t1, t2, t3, t4⟩ := open_agg5 Tryd.underlying80 (by kernel_rfl) (by kernel_rfl) hv h
  obtain ⟨e, hc0, hx0, w0⟩ := DataW.trod_int Tryd.underlying3 t0
  obtain ⟨th, hc1, hx1, _⟩ := DataW.trod_string Tryd.underlying9 t1
  obtain ⟨st, hc3, hx3, w3⟩ := DataW.trod_int Tryd.underlying3 t3
  obtain ⟨cl, hc4, hx4, w4⟩ := DataW.trod_int Tryd.underlying3 t4
  have hz := sized_agg hsz ht hd Tryd.underlying80
  have z1 : th.size ≤ 140737488351232 := by
    rw [hx1] at hz
    have z := sized_string hz (j := 1) (t := 9) rfl rfl
    rwa [Array.length_toList] at z
  obtain ⟨A, c, os, hv2, k1, k2, k3, k4, k5⟩ := strs_in Tryd.underlying78 Tryd.underlying9 (by kernel_rfl) t2 (fun m hm => by
    have h1 := List.all_eq_true.1 hz m (DataW.weights_mem_each (j := 2) (t := 78) (d := y2.1) rfl rfl m hm)
    exact of_decide_eq_true h1)
  simp only [List.cons.injEq, and_true] at hc0 hc1 hc3 hc4
  subst hc0 hc1 hc3 hc4 hv2
  exact ⟨e, th, A, c, os, st, cl, rfl, z1, k5, k1, k2, k3, k4, w3⟩
end Go.Proofs.YtnepdjgbfhakmaaDoor
