/- What the rows of chapter 19 share besides: the laid table of ten's powers. -/
import Derived.Test.YtnepdjgbfhakmaaDoorRow
import Derived.Test.YtnepdjgbfhakmaaDoorRep2
namespace Go.Proofs.YtnepdjgbfhakmaaDoor
set_option linter.unusedVariables false
set_option linter.unusedSimpArgs false
open Go.ChangeShapes Go.WideShapes Go.ChangeAt Go.RowKit Go.Shelf

theorem globType10 : (Tryd.prog.globals[0]?).map (·.type) = some 166 := by kernel_rfl
theorem tab10_eq : (Rows.laid_internal_strconv_uint64pow10 : DataW Unit) = Lib.tabData .u64 Lib.pow10Tab := by kernel_rfl
theorem Pw10.of_laid {W : World} (h : laidMetH Tryd.prog laid3 W) : Pw10 W := by
  rw [MakeChecks.laidMetH_plain _ _ _ (by kernel_rfl)] at h
  obtain ⟨ps, ⟨g0, t0, cs0, f0, p0, q0, _, _, _, _, ⟨g1, t1, cs1, f1, p1, q1, _, _, _, _, ⟨g2, t2, cs2, f2, p2, q2, hg2, ht2, hv2, hd2, _, _⟩, _⟩, _⟩, _, _⟩ := h
  obtain rfl := Option.some.inj (glob10.symm.trans hg2)
  obtain rfl := Option.some.inj (globType10.symm.trans ht2)
  rw [tab10_eq] at hd2
  have hcs := Lib.cells_of_tab Tryd.underlying166 Tryd.underlying147 (by kernel_rfl) (by kernel_rfl) hd2
  unfold Pw10 Lib.TabIs
  rw [hv2, ← hcs]

/-- A struct's parts are no heavier than it. -/
theorem sized_agg {H : Type} {P : Program} {ts : List TypeId} {ds : List (DataW H)} (h : (DataW.weightsEach P ts ds).all (· ≤ reachBytes) = true) {j : Nat} {t : TypeId} {fs : Array Field} {parts : List (DataW H)} (ht : ts[j]? = some t) (hd : ds[j]? = some (.agg parts)) (hu : P.underlying t = some (.struct fs)) :
    (DataW.weightsEach P (fs.toList.map (·.type)) parts).all (· ≤ reachBytes) = true := by
  rw [List.all_eq_true]
  intro n hn
  exact List.all_eq_true.1 h n (DataW.weights_mem_each ht hd n (by simpa [DataW.weights, hu] using hn))

set_option maxRecDepth 100000 in
/-- An Output that came in. -/
theorem open_output {H : Type} {enc : TypeId × Value → H} {W : World} {base : Nat} {spare : Nat → Bool} {held : Bool} {r : Reach} {b0 : Nat} {v : Value} {d : DataW H} {p : List MemPlace} {ts : List TypeId} {ds : List (DataW H)} {j : Nat}
    (hv : Value.okWide Tryd.prog W r b0 74 v) (h : DataW.Trod enc Tryd.prog W base spare held 74 v d p)
    (hsz : (DataW.weightsEach Tryd.prog ts ds).all (· ≤ reachBytes) = true) (ht : ts[j]? = some 74) (hd : ds[j]? = some d) :
    ∃ (er at_ : Int) (tx : ByteArray), v = .agg #[.int .i64 er, .int .i64 at_, .string tx] ∧ (Lit.int .i64 er).wf = true ∧ (Lit.int .i64 at_).wf = true ∧ tx.size ≤ 140737488351232 := by
  obtain ⟨u0, u1, u2, y0, y1, y2, n, rfl, rfl, rfl, t0, t1, t2⟩ := Go.Joins.open_agg3 Tryd.underlying74 (by kernel_rfl) (by kernel_rfl) hv h
  obtain ⟨er, hc0, hx0, w0⟩ := DataW.trod_int Tryd.underlying66 t0
  obtain ⟨at_, hc1, hx1, w1⟩ := DataW.trod_int Tryd.underlying3 t1
  obtain ⟨tx, hc2, hx2, _⟩ := DataW.trod_string Tryd.underlying9 t2
  simp only [List.cons.injEq, and_true] at hc0 hc1 hc2
  subst hc0 hc1 hc2 hx0 hx1 hx2
  have hz := sized_agg hsz ht hd Tryd.underlying74
  have z := sized_string hz (j := 2) (t := 9) rfl rfl
  rw [Array.length_toList] at z
  exact ⟨er, at_, tx, rfl, w0, w1, z⟩
end Go.Proofs.YtnepdjgbfhakmaaDoor
