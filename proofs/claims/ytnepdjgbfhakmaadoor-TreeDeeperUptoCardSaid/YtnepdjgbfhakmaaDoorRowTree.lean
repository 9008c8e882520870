/- Trees that came in. -/
import Derived.Test.YtnepdjgbfhakmaaDoorRow
import Derived.Test.YtnepdjgbfhakmaaDoorTree7
import Derived.Deep.Slices
import Derived.Deep.Fields
import Derived.ChangeSame
import Derived.Deep.DeepHandedRow
import Derived.Shelf.Vars
namespace Go.Proofs.YtnepdjgbfhakmaaDoor
set_option linter.unusedVariables false
set_option linter.unusedSimpArgs false
open Go.ChangeShapes Go.WideShapes Go.ChangeAt Go.RowKit Go.Shelf Go.Deep

/-- What the bound counts. -/
theorem bulk_one {H : Type} (d : DataW H) : 1 ≤ Rows.uptoBulk d := by
  cases d with
  | lit l => cases l <;> simp [Rows.uptoBulk]
  | _ => simp [Rows.uptoBulk]
theorem bulk_mem {H : Type} {d : DataW H} : ∀ {l : List (DataW H)}, d ∈ l → Rows.uptoBulk d ≤ Rows.uptoBulkAll l
  | x :: r, h => by
    rw [Rows.uptoBulkAll]
    rcases List.mem_cons.1 h with rfl | h
    · omega
    · have := bulk_mem h; omega
theorem bulk_len {H : Type} : ∀ (l : List (DataW H)), l.length ≤ Rows.uptoBulkAll l
  | [] => by simp
  | x :: r => by
    rw [Rows.uptoBulkAll, List.length_cons]
    have := bulk_one x; have := bulk_len r; omega
theorem bulk_slice {H : Type} (l sp : List (DataW H)) : l.length ≤ Rows.uptoBulk (.slice l sp) := by
  rw [Rows.uptoBulk]
  have := bulk_len l; omega
theorem bulk_elem {H : Type} {d : DataW H} {l sp : List (DataW H)} (h : d ∈ l) : Rows.uptoBulk d ≤ Rows.uptoBulk (.slice l sp) := by
  rw [Rows.uptoBulk]
  have := bulk_mem h; omega
theorem bulk_agg {H : Type} {d : DataW H} {l : List (DataW H)} (h : d ∈ l) : Rows.uptoBulk d ≤ Rows.uptoBulk (.agg l) := by
  rw [Rows.uptoBulk]
  have := bulk_mem h; omega

section
variable {H : Type} {enc : TypeId × Value → H} {P : Program} {w : World} {base : Nat} {spare : Nat → Bool} {held : Bool}
/-- A slice of structs that came in: each field of each. -/
theorem slice_fields {t e : TypeId} {fs : Array Field} {fuel : Nat} {cs : List Value} {x : DataW H × List MemPlace} (ht : P.underlying t = some (.slice e)) (he : P.underlying e = some (.struct fs))
    (hone : oneCellFields P fs = true) (hC : P.cellsOf e = fs.size) (h : DataW.trod enc P w base spare held fuel t cs = some x) :
    (cs = [.slice none 0 0] ∧ x = (.nil, [])) ∨
    ∃ (a : Addr) (len cap m : Nat) (D : Nat → DataW H), cs = [.slice (some a) len cap] ∧ len ≤ cap ∧ cap ≤ maxLen ∧ len ≤ m ∧
      x.1 = .slice ((List.range len).map D) ((List.range (m - len)).map fun j => D (len + j)) ∧
      ∀ i, i < m → ∃ (ys : List (DataW H × List MemPlace)) (n : Nat), D i = .agg (ys.map (·.1)) ∧
        ∀ (j : Nat) (f : Field), fs[j]? = some f → ∃ (v : Value) (y : DataW H × List MemPlace), w.cell? (a.add (i * fs.size + j)) = some v ∧ ys[j]? = some y ∧ DataW.trod enc P w base spare held n f.type [v] = some y := by
  rcases open_slice ht h with h0 | ⟨a, len, cap, m, n, D, Pl, hcs, hb, hl, hm, hmm, hx, hi⟩
  · exact .inl h0
  · refine .inr ⟨a, len, cap, m, D, hcs, hl, hm, by rw [hmm]; split <;> omega, by rw [hx], fun i him => ?_⟩
    obtain ⟨cs', hc, ht'⟩ := hi i him
    rw [hC] at hc
    obtain ⟨ys, n', hn', hy, hlen, hyl, hf⟩ := DataW.trod_struct he ht'
    obtain ⟨_, hcl, hat⟩ := World.cells?_some hc
    simp only [Prod.mk.injEq] at hy
    refine ⟨ys, n', hy.1, fun j f hj => ?_⟩
    obtain ⟨ho, hk⟩ := hone_of hone j f hj
    have hjl : j < fs.size := (Array.getElem?_eq_some_iff.1 hj).1
    have hcell := hat j hjl
    have hv : cs'[j]? = some (cs'[j]'(by omega)) := List.getElem?_eq_getElem (by omega)
    have h1 := hf j f hj
    rw [ho, hk] at h1
    have hone' : (cs'.drop j).take 1 = [cs'[j]'(by omega)] := by
      rw [List.drop_eq_getElem_cons (by omega)]
      rfl
    rw [hone'] at h1
    have hys : ys[j]? = some (ys[j]'(by omega)) := List.getElem?_eq_getElem (by omega)
    refine ⟨_, _, ?_, hys, h1.trans hys⟩
    rw [← Go.Deep.add_add, hcell, hv]

/-- A slice of numbers that came in. -/
theorem ints_in {t e : TypeId} {n : Nat} {v : Value} {x : DataW H × List MemPlace} (ht : P.underlying t = some (.slice e)) (he : P.underlying e = some (.int .i64)) (hc : P.cellsOf e = 1) (hb : P.bytesOf e = 8)
    (h : DataW.trod enc P w base spare held n t [v] = some x) (hsz : ∀ m ∈ x.1.weights P t, m ≤ 140737488351232) :
    ∃ (A : Option Addr) (c : Nat) (l : List Int), v = .slice A l.length c ∧ Ints w A c l ∧ (∀ k ∈ l, (Lit.int .i64 k).wf = true) ∧ l.length ≤ 140737488351232 ∧ l.length ≤ Rows.uptoBulk x.1 := by
  rcases open_ints ht he hc h with ⟨hcs, _⟩ | ⟨a, l, c, zs, hcs, _, hl, hm, hz, hx, hcell, hwz⟩
  · obtain rfl := List.head_eq_of_cons_eq hcs
    exact ⟨none, 0, [], rfl, ⟨fun i hi => by simp [icells] at hi, Nat.le_refl _, fun _ => ⟨rfl, rfl⟩⟩, fun k hk => (by cases hk), by simp, by simp⟩
  · obtain rfl := List.head_eq_of_cons_eq hcs
    have hle : l ≤ zs.length := by rw [hz]; split <;> omega
    have htl : (zs.take l).length = l := by rw [List.length_take]; omega
    refine ⟨some a, c, zs.take l, by rw [htl], ⟨fun i hi => ⟨a, rfl, ?_⟩, by rw [htl]; exact hl, fun h => by cases h⟩, fun k hk => hwz k (List.mem_of_mem_take hk), ?_, ?_⟩
    · simp only [icells, List.length_map, List.length_take] at hi
      rw [hcell i (by omega)]
      simp [icells, List.getD, List.getElem?_eq_getElem (show i < zs.length by omega)]
    · rw [htl]
      have h1 := hsz _ (by rw [hx]; simp only [DataW.weights, ht]; exact List.mem_cons_self ..)
      rw [hb] at h1
      have h2 : (lits (H := H) .i64 (zs.take l)).length + (lits (H := H) .i64 (zs.drop l)).length = zs.length := by simp [lits]; omega
      omega
    · rw [hx]
      have := bulk_slice (lits (H := H) .i64 (zs.take l)) (lits (H := H) .i64 (zs.drop l))
      rw [show (lits (H := H) .i64 (zs.take l)).length = (zs.take l).length by simp [lits]] at this
      exact this
end

theorem weightsAll_mem {H : Type} {P : Program} {e : TypeId} : ∀ (l : List (DataW H)) (d : DataW H), d ∈ l → ∀ n ∈ d.weights P e, n ∈ DataW.weightsAll P e l
  | x :: l, d, hd, n, hn => by
    rw [DataW.weightsAll, List.mem_append]
    rcases List.mem_cons.1 hd with rfl | h
    · exact .inl hn
    · exact .inr (weightsAll_mem l d h n hn)
theorem agg_part {H : Type} {P : Program} {t : TypeId} {fs : Array Field} {parts : List (DataW H)} (hu : P.underlying t = some (.struct fs)) (h : ∀ m ∈ (DataW.agg parts).weights P t, m ≤ 140737488351232) {j : Nat} {f : Field} {y : DataW H} (hf : fs[j]? = some f) (hy : parts[j]? = some y) :
    ∀ m ∈ y.weights P f.type, m ≤ 140737488351232 := fun m hm => h m (by
  simp only [DataW.weights, hu]
  exact DataW.weights_mem_each (j := j) (t := f.type) (d := y) (by simp [hf]) hy m hm)
theorem nodeBytes : Tryd.prog.bytesOf 54 = 64 := by kernel_rfl
theorem intBytes : Tryd.prog.bytesOf 3 = 8 := by kernel_rfl
set_option maxRecDepth 100000 in
/-- A row of nodes that came in. -/
theorem nodes_in {H : Type} {enc : TypeId × Value → H} {w : World} {base : Nat} {spare : Nat → Bool} {held : Bool} {n : Nat} {v : Value} {x : DataW H × List MemPlace}
    (h : DataW.trod enc Tryd.prog w base spare held n 57 [v] = some x) (hsz : ∀ m ∈ x.1.weights Tryd.prog 57, m ≤ 140737488351232) :
    ∃ (A : Option Addr) (c : Nat) (T : List Nd), v = .slice A T.length c ∧ TreeAt w A T ∧ (∀ y ∈ T, y.ok) ∧ T.length ≤ c ∧ c ≤ maxLen ∧ (A = none → T.length = 0 ∧ c = 0) ∧ T.length * 64 ≤ 140737488351232 ∧ T.length ≤ Rows.uptoBulk x.1 ∧ ∀ y ∈ T, y.text.size ≤ Rows.uptoBulk x.1 ∧ y.kids.length ≤ Rows.uptoBulk x.1 := by
  rcases slice_fields Tryd.underlying57 Tryd.underlying54 (by kernel_rfl) (by kernel_rfl) h with ⟨hcs, _⟩ | ⟨a, len, cap, m, D, hcs, hl, hm, hlm, hx, hi⟩
  · obtain rfl := List.head_eq_of_cons_eq hcs
    exact ⟨none, 0, [], rfl, fun i x hx => (by cases hx), fun y hy => (by cases hy), Nat.le_refl _, by decide, fun _ => ⟨rfl, rfl⟩, by simp, by simp, fun y hy => (by cases hy)⟩
  · obtain rfl := List.head_eq_of_cons_eq hcs
    have hw0 := hsz _ (by rw [hx]; simp only [DataW.weights, Tryd.underlying57]; exact List.mem_cons_self ..)
    rw [nodeBytes] at hw0
    have hlen : len * 64 ≤ 140737488351232 := by simp only [List.length_map, List.length_range] at hw0; omega
    have key : ∀ i, ∃ y : Nd, i < len → (∃ K kc, NodeAt w (some a) i y K kc) ∧ y.ok ∧ y.text.size ≤ Rows.uptoBulk x.1 ∧ y.kids.length ≤ Rows.uptoBulk x.1 := fun i => by
      by_cases hil : i < len
      · obtain ⟨ys, n', hD, hf⟩ := hi i (by omega)
        have hwD : ∀ m ∈ (D i).weights Tryd.prog 54, m ≤ 140737488351232 := fun m hm => hsz m (by
          rw [hx]
          simp only [DataW.weights, Tryd.underlying57]
          exact List.mem_cons_of_mem _ (List.mem_append_left _ (weightsAll_mem _ (D i) (List.mem_map.2 ⟨i, List.mem_range.2 hil, rfl⟩) _ hm)))
        rw [hD] at hwD
        obtain ⟨v0, y0, c0, g0, t0⟩ := hf 0 _ rfl
        obtain ⟨v1, y1, c1, g1, t1⟩ := hf 1 _ rfl
        obtain ⟨v2, y2, c2, g2, t2⟩ := hf 2 _ rfl
        obtain ⟨v3, y3, c3, g3, t3⟩ := hf 3 _ rfl
        obtain ⟨v4, y4, c4, g4, t4⟩ := hf 4 _ rfl
        have w1 := agg_part Tryd.underlying54 hwD (j := 1) rfl (show (ys.map (·.1))[1]? = some y1.1 by simp [g1])
        have w3 := agg_part Tryd.underlying54 hwD (j := 3) rfl (show (ys.map (·.1))[3]? = some y3.1 by simp [g3])
        obtain ⟨kd, e0, _, f0⟩ := DataW.trod_int Tryd.underlying3 t0
        obtain ⟨tx, e1, x1, _⟩ := DataW.trod_string Tryd.underlying9 t1
        obtain ⟨nm, e2, _, f2⟩ := DataW.trod_int Tryd.underlying3 t2
        obtain ⟨ps, e4, _, f4⟩ := DataW.trod_int Tryd.underlying3 t4
        obtain ⟨K, kc, l, e3, hK, f3, hl3, hb3⟩ := ints_in Tryd.underlying38 Tryd.underlying3 (by kernel_rfl) intBytes t3 w3
        simp only [List.cons.injEq, and_true] at e0 e1 e2 e4
        subst e0 e1 e2 e3 e4
        have hts : tx.size ≤ 140737488351232 := by
          have := w1 tx.data.toList.length (by rw [x1]; simp [DataW.weights])
          rwa [Array.length_toList] at this
        have hbD : Rows.uptoBulk (D i) ≤ Rows.uptoBulk x.1 := by
          rw [hx]
          exact bulk_elem (List.mem_map.2 ⟨i, List.mem_range.2 hil, rfl⟩)
        rw [hD] at hbD
        have bt : tx.size ≤ Rows.uptoBulk x.1 := by
          have h1 := bulk_agg (d := y1.1) (l := ys.map (·.1)) (List.mem_of_getElem? (i := 1) (by simp [g1]))
          have e1 : Rows.uptoBulk y1.1 = tx.data.toList.length + 1 := by rw [x1, Rows.uptoBulk]
          rw [Array.length_toList] at e1
          have : tx.size = tx.data.size := rfl
          omega
        have bk : l.length ≤ Rows.uptoBulk x.1 := by
          have h1 := bulk_agg (d := y3.1) (l := ys.map (·.1)) (List.mem_of_getElem? (i := 3) (by simp [g3]))
          omega
        refine ⟨⟨kd, tx, nm, l, ps⟩, fun _ => ⟨⟨K, kc, ⟨a, rfl, ?_⟩, hK⟩, ⟨f0, f2, f3, f4, hts, hl3⟩, bt, bk⟩⟩
        have ad : ∀ j, j ≠ 0 → a.add (i * 5 + j) = ⟨(a.add (i * 5)).block, (a.add (i * 5)).off + j, none⟩ := fun j hj => by
          rw [← add_add]
          conv => lhs; unfold Addr.add
          rw [if_neg hj]
          rfl
        have c1' := c1; have c2' := c2; have c3' := c3; have c4' := c4
        simp only [List.size_toArray, List.length_cons, List.length_nil, Nat.zero_add, Nat.reduceAdd] at c0 c1' c2' c3' c4'
        rw [ad 1 (by decide)] at c1'
        rw [ad 2 (by decide)] at c2'
        rw [ad 3 (by decide)] at c3'
        rw [ad 4 (by decide)] at c4'
        exact ⟨c0, c1', c2', c3', c4'⟩
      · exact ⟨default, fun h => absurd h hil⟩
    obtain ⟨f, hf⟩ := Classical.axiomOfChoice key
    refine ⟨some a, cap, (List.range len).map f, by simp, fun i x hx => ?_, fun y hy => ?_, by simpa using hl, hm, (fun h => by cases h), by simpa using hlen, ?_, fun y hy => ?_⟩
    · have hi := (List.getElem?_eq_some_iff.1 hx).1
      simp only [List.length_map, List.length_range] at hi
      have : f i = x := by simpa [hi] using hx
      rw [← this]
      exact (hf i hi).1
    · obtain ⟨i, hi, rfl⟩ := List.mem_map.1 hy
      exact (hf i (List.mem_range.1 hi)).2.1
    · rw [hx]
      have := bulk_slice ((List.range len).map D) ((List.range (m - len)).map fun j => D (len + j))
      rw [List.length_map] at this ⊢
      exact this
    · obtain ⟨i, hi, rfl⟩ := List.mem_map.1 hy
      exact (hf i (List.mem_range.1 hi)).2.2
def laid2 : List (String × DataW Unit) := [("unicode/utf8.acceptRanges", Rows.laid_unicode_utf8_acceptRanges), ("unicode/utf8.first", Rows.laid_unicode_utf8_first)]
/-- A world for the witness: the door's, the pinned table's cells as they are listed. -/
noncomputable def door2 (os : Os) : World :=
  { World.doorLaid Tryd.prog 34 os with heap := (World.doorLaid Tryd.prog 34 os).heap.modify 4 fun
      | .cells _ t frozen => .cells ((Pinned.utf8FirstZ.map fun n : Nat => Value.int .u8 (n : Int)).toArray) t frozen
      | o => o }
set_option maxRecDepth 100000 in
theorem door_met2 (os : Os) (args : Array Value) : laidMet Tryd.prog laid2 ((door2 os).forCall (fun _ _ => 0) ⟨#[], args, []⟩).memory :=
  laidMet_of_run' 8 (by kernel_rfl) (by kernel_rfl)
theorem mxLen_of {W : World} (h : W.ShapedOpen Tryd.prog) : MxLen W :=
  cell_of_shapedOpen_int (t := 3) (zero := #[.int .i64 0]) h (of_decide_eq_true (by kernel_rfl)) (by kernel_rfl) rfl (by kernel_rfl) (by kernel_rfl) Tryd.underlying3
theorem sizedAgg {H : Type} {P : Program} {ts : List TypeId} {ds : List (DataW H)} (h : (DataW.weightsEach P ts ds).all (· ≤ reachBytes) = true) {j : Nat} {t : TypeId} {fs : Array Field} {parts : List (DataW H)} (ht : ts[j]? = some t) (hd : ds[j]? = some (.agg parts)) (hu : P.underlying t = some (.struct fs)) :
    (DataW.weightsEach P (fs.toList.map (·.type)) parts).all (· ≤ reachBytes) = true := by
  rw [List.all_eq_true]
  intro n hn
  exact List.all_eq_true.1 h n (DataW.weights_mem_each ht hd n (by simpa [DataW.weights, hu] using hn))
theorem open_agg1 {H : Type} {enc : TypeId × Value → H} {P : Program} {w : World} {base : Nat} {spare : Nat → Bool} {held : Bool} {r : Reach} {b0 : Nat} {t : TypeId} {f0 : Field} {v : Value} {d : DataW H} {p : List MemPlace} (hs : P.underlying t = some (.struct #[f0])) (hone : Go.Deep.oneCellFields P #[f0] = true) (hC : P.cellsOf t = 1)
    (hv : Value.okWide P w r b0 t v) (h : DataW.Trod enc P w base spare held t v d p) :
    ∃ (v0 : Value) (y0 : DataW H × List MemPlace) (n : Nat), v = .agg #[v0] ∧ d = .agg [y0.1] ∧ p = y0.2 ∧ DataW.trod enc P w base spare held n f0.type [v0] = some y0 := by
  obtain ⟨cs, rfl, hsz⟩ := okWide_struct hs hv
  obtain ⟨c0, rfl⟩ : ∃ c0, cs = #[c0] := by
    obtain ⟨l⟩ := cs
    match l, hsz.trans hC with
    | [c0], _ => exact ⟨c0, rfl⟩
  obtain ⟨fuel, hf⟩ := h
  obtain ⟨xs, n, _, hx, hl, hlen, hff⟩ := DataW.trod_struct hs hf
  obtain ⟨o0, k0⟩ := Go.Deep.hone_of hone 0 f0 rfl
  match xs, hlen, hx, hff with
  | [y0], _, hx, hff =>
    simp only [Prod.mk.injEq] at hx
    exact ⟨c0, y0, n, rfl, by simpa using hx.1, by simpa using hx.2, by simpa [Value.cells, o0, k0] using hff 0 f0 rfl⟩
set_option maxRecDepth 100000 in
/-- A tree that came in. -/
theorem open_tree {H : Type} {enc : TypeId × Value → H} {W : World} {base : Nat} {spare : Nat → Bool} {held : Bool} {r : Reach} {b0 : Nat} {v : Value} {d : DataW H} {p : List MemPlace} {ts : List TypeId} {ds : List (DataW H)} {j : Nat}
    (hv : Value.okWide Tryd.prog W r b0 59 v) (h : DataW.Trod enc Tryd.prog W base spare held 59 v d p)
    (hsz : (DataW.weightsEach Tryd.prog ts ds).all (· ≤ reachBytes) = true) (ht : ts[j]? = some 59) (hd : ds[j]? = some d) :
    ∃ (A : Option Addr) (c : Nat) (T : List Nd), v = .agg #[.slice A T.length c] ∧ TreeAt W A T ∧ (∀ y ∈ T, y.ok) ∧ T.length ≤ c ∧ c ≤ maxLen ∧ (A = none → T.length = 0 ∧ c = 0) ∧ T.length * 64 ≤ 140737488351232 ∧ T.length ≤ Rows.uptoBulk d ∧ ∀ y ∈ T, y.text.size ≤ Rows.uptoBulk d ∧ y.kids.length ≤ Rows.uptoBulk d := by
  obtain ⟨v0, y0, n, rfl, rfl, rfl, t0⟩ := open_agg1 Tryd.underlying59 (by kernel_rfl) (by kernel_rfl) hv h
  have hz := sizedAgg hsz ht hd Tryd.underlying59
  obtain ⟨A, c, T, rfl, k1, k2, k3, k4, k5, k6, k7, k8⟩ := nodes_in t0 (fun m hm => by
    have h1 := List.all_eq_true.1 hz m (DataW.weights_mem_each (j := 0) (t := 57) (d := y0.1) rfl rfl m hm)
    exact of_decide_eq_true h1)
  have hb := bulk_agg (d := y0.1) (l := [y0.1]) (List.mem_cons_self ..)
  exact ⟨A, c, T, rfl, k1, k2, k3, k4, k5, k6, by omega, fun y hy => by have := k8 y hy; omega⟩
end Go.Proofs.YtnepdjgbfhakmaaDoor
