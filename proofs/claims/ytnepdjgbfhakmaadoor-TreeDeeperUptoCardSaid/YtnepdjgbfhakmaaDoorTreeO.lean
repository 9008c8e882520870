/- Trees that a call has made: rows of nodes of its own, each with a row of kids of its own. -/
import Derived.Test.YtnepdjgbfhakmaaDoorTree8
import Derived.Test.YtnepdjgbfhakmaaDoorOwn
import Derived.Laws.OwnMore
namespace Go.Proofs.YtnepdjgbfhakmaaDoor
set_option linter.unusedVariables false
set_option linter.unusedSimpArgs false
open Go.RowKit Go.Shelf

/-- The cells of nodes. -/
def flatN : List Nd → List (Option Addr × Nat) → List Value
  | x :: T, p :: KS => nodeC x p.1 p.2 ++ flatN T KS
  | _, _ => []
theorem flatN_length : ∀ (T : List Nd) (KS : List (Option Addr × Nat)), KS.length = T.length → (flatN T KS).length = T.length * 5
  | [], [], _ => rfl
  | x :: T, p :: KS, h => by
    rw [flatN, List.length_append, flatN_length T KS (by simpa using h)]
    simp [nodeC]; omega
  | [], _ :: _, h => by simp at h
  | _ :: _, [], h => by simp at h
theorem flatN_append : ∀ (T : List Nd) (KS : List (Option Addr × Nat)) (T' : List Nd) (KS' : List (Option Addr × Nat)), KS.length = T.length → flatN (T ++ T') (KS ++ KS') = flatN T KS ++ flatN T' KS'
  | [], [], _, _, _ => rfl
  | x :: T, p :: KS, T', KS', h => by
    rw [List.cons_append, List.cons_append, flatN, flatN, flatN_append T KS T' KS' (by simpa using h), List.append_assoc]
  | [], _ :: _, _, _, h => by simp at h
  | _ :: _, [], _, _, h => by simp at h
theorem flatN_at : ∀ (T : List Nd) (KS : List (Option Addr × Nat)) (i j : Nat) (x : Nd) (p : Option Addr × Nat), T[i]? = some x → KS[i]? = some p → j < 5 → (flatN T KS)[i * 5 + j]? = (nodeC x p.1 p.2)[j]?
  | [], _, _, _, _, _, h, _, _ => by simp at h
  | _ :: _, [], _, _, _, _, _, h, _ => by simp at h
  | y :: T, q :: KS, 0, j, x, p, h, h', hj => by
    simp at h h'; subst h h'
    rw [flatN, Nat.zero_mul, Nat.zero_add, List.getElem?_append_left (by simp [nodeC]; omega)]
  | y :: T, q :: KS, i + 1, j, x, p, h, h', hj => by
    have ih := flatN_at T KS i j x p (by simpa using h) (by simpa using h') hj
    rw [← ih, flatN, List.getElem?_append_right (by simp [nodeC]; omega)]
    congr 1
    simp [nodeC]; omega
theorem flatN_one (T : List Nd) (KS : List (Option Addr × Nat)) (h : KS.length = T.length) : ∀ u ∈ flatN T KS, u.oneCell' = true := by
  induction T generalizing KS with
  | nil => intro u hu; cases KS <;> simp [flatN] at hu
  | cons x T ih =>
    cases KS with
    | nil => simp at h
    | cons p KS =>
      intro u hu
      rw [flatN, List.mem_append] at hu
      rcases hu with hu | hu
      · simp only [nodeC, List.mem_cons, List.not_mem_nil, or_false] at hu
        rcases hu with rfl | rfl | rfl | rfl | rfl <;> rfl
      · exact ih KS (by simpa using h) u hu

/-- A row of kids of the call's own. -/
def KidOwn (B : Nat) (w : World) (K : Option Addr) (c : Nat) (l : List Int) : Prop := w.ownsRow B 3 1 (.slice K l.length c) l.length (icells l)
def KidsOwn (B : Nat) (w : World) (T : List Nd) (KS : List (Option Addr × Nat)) : Prop := KS.length = T.length ∧ ∀ (i : Nat) (x : Nd) (p : Option Addr × Nat), T[i]? = some x → KS[i]? = some p → KidOwn B w p.1 p.2 x.kids
/-- Nodes of the call's own. -/
def OwnT (B : Nat) (w : World) (v : Value) (T : List Nd) (KS : List (Option Addr × Nat)) : Prop := w.ownsRow B 54 5 v T.length (flatN T KS) ∧ KidsOwn B w T KS

theorem own_below' {B : Nat} {e : TypeId} {k : Nat} {v : Value} {n : Nat} {xs : List Value} {w w' : World} (h : w.ownsRow B e k v n xs) (hb : Below w.heap.size w w') : w'.ownsRow B e k v n xs :=
  h.kept (row := none) ⟨hb.os, hb.tape, hb.output, hb.size, fun j hj _ => hb.block j hj⟩ (by cases hv : v.ownBlock <;> simp)
theorem own_mono {B B' : Nat} {w : World} {e : TypeId} {size : Nat} {v : Value} {n : Nat} {xs : List Value} (h : w.ownsRow B e size v n xs) (hb : B' ≤ B) : w.ownsRow B' e size v n xs := by
  refine ⟨h.1, ?_⟩
  rcases h.2 with hn | ⟨g, cap, cur, hv, hg, rest⟩
  · exact .inl hn
  · exact .inr ⟨g, cap, cur, hv, by omega, rest⟩
/-- Rows of two kinds lie apart. -/
theorem own_apart {B B' : Nat} {w : World} {e e' : TypeId} {s s' n n' : Nat} {v v' : Value} {xs xs' : List Value} (h : w.ownsRow B e s v n xs) (h' : w.ownsRow B' e' s' v' n' xs') (hne : e ≠ e') : v.ownBlock = none ∨ v.ownBlock ≠ v'.ownBlock := by
  rcases h.2 with ⟨rfl, _⟩ | ⟨g, cap, cur, rfl, _, hg, _⟩
  · exact .inl rfl
  · refine .inr fun heq => ?_
    rcases h'.2 with ⟨rfl, _⟩ | ⟨g', cap', cur', rfl, _, hg', _⟩
    · cases heq
    · simp only [Value.ownBlock, Option.some.injEq] at heq
      subst heq
      rw [hg] at hg'
      simp only [Option.some.injEq, Obj.cells.injEq] at hg'
      exact hne hg'.2.1
theorem typesApart : (3 : Nat) ≠ 54 := by decide
theorem KidsOwn.grown {B : Nat} {w w' : World} {T : List Nd} {KS : List (Option Addr × Nat)} {B' s n : Nat} {v : Value} {xs : List Value} (h : KidsOwn B w T KS) (hv : w.ownsRow B' 54 s v n xs) (hg : w.grownBy w' v.ownBlock) : KidsOwn B w' T KS :=
  ⟨h.1, fun i x p hx hp => (h.2 i x p hx hp).kept hg (own_apart (h.2 i x p hx hp) hv typesApart)⟩
theorem below_grown {w w' : World} (hb : Below w.heap.size w w') : w.grownBy w' none := ⟨hb.os, hb.tape, hb.output, hb.size, fun j hj _ => hb.block j hj⟩
theorem KidsOwn.below {B : Nat} {w w' : World} {T : List Nd} {KS : List (Option Addr × Nat)} (h : KidsOwn B w T KS) (hb : Below w.heap.size w w') : KidsOwn B w' T KS :=
  ⟨h.1, fun i x p hx hp => own_below' (h.2 i x p hx hp) hb⟩
theorem OwnT.below {B : Nat} {w w' : World} {v : Value} {T : List Nd} {KS : List (Option Addr × Nat)} (h : OwnT B w v T KS) (hb : Below w.heap.size w w') : OwnT B w' v T KS := ⟨own_below' h.1 hb, h.2.below hb⟩
theorem OwnT.mono {B B' : Nat} {w : World} {v : Value} {T : List Nd} {KS : List (Option Addr × Nat)} (h : OwnT B w v T KS) (hb : B' ≤ B) : OwnT B' w v T KS := ⟨own_mono h.1 hb, h.2.1, fun i x p hx hp => own_mono (h.2.2 i x p hx hp) hb⟩
theorem KidsOwn.mono {B B' : Nat} {w : World} {T : List Nd} {KS : List (Option Addr × Nat)} (h : KidsOwn B w T KS) (hb : B' ≤ B) : KidsOwn B' w T KS := ⟨h.1, fun i x p hx hp => own_mono (h.2 i x p hx hp) hb⟩
theorem OwnT.nil (B : Nat) (w : World) : OwnT B w (.slice none 0 0) [] [] := ⟨World.ownsRow_nil _ _ _ _, rfl, fun i x p hx => by simp at hx⟩
theorem KidsOwn.append {B : Nat} {w : World} {T T' : List Nd} {KS KS' : List (Option Addr × Nat)} (h : KidsOwn B w T KS) (h' : KidsOwn B w T' KS') : KidsOwn B w (T ++ T') (KS ++ KS') := by
  refine ⟨by simp [h.1, h'.1], fun i x p hx hp => ?_⟩
  rw [List.getElem?_append] at hx hp
  rw [h.1] at hp
  split at hx
  · rename_i hi
    rw [if_pos hi] at hp
    exact h.2 i x p hx hp
  · rename_i hi
    rw [if_neg hi] at hp
    exact h'.2 _ x p hx hp

/-- One node more. -/
theorem own_push {B B' : Nat} {w W6 : World} {v v6 : Value} {T : List Nd} {KS : List (Option Addr × Nat)} {y : Nd} {K : Option Addr} {c : Nat} (o : Obj) (h : OwnT B w v T KS) (hK : KidOwn B' w K c y.kids) (hB : B ≤ B')
    (h6 : W6.ownsRow B 54 5 v6 (T.length + 1) (flatN T KS ++ nodeC y K c)) (hg : (w.alloc o).grownBy W6 v.ownBlock) : OwnT B W6 v6 (T ++ [y]) (KS ++ [(K, c)]) := by
  have b : Below w.heap.size w (w.alloc o) := (Below.refl _ _).alloc (Nat.le_refl _) _
  have h1 := h.below b
  have hK1 : KidsOwn B (w.alloc o) [y] [(K, c)] := ⟨rfl, fun i x p hx hp => by
    cases i with
    | zero =>
      simp at hx hp; subst hx hp
      exact own_mono (own_below' hK b) hB
    | succ i => simp at hx⟩
  refine ⟨?_, (h1.2.append hK1).grown h1.1 hg⟩
  rw [flatN_append _ _ _ _ h.2.1, List.length_append]
  simpa [flatN] using h6
theorem kid_ints {B : Nat} {w : World} {K : Option Addr} {c : Nat} {l : List Int} (h : KidOwn B w K c l) : Ints w K c l := by
  obtain ⟨A, c', hv, hc, h1, h2, h3⟩ := own_block h
  cases hv
  refine ⟨hc, h1, fun hn => ?_⟩
  rcases h3 with ⟨_, h4, h5⟩ | ⟨g, hg, _⟩
  · exact ⟨h4, h5⟩
  · rw [hn] at hg; cases hg
/-- Such nodes read as a tree. -/
theorem own_tree {B : Nat} {w : World} {A : Option Addr} {n c : Nat} {T : List Nd} {KS : List (Option Addr × Nat)} (h : OwnT B w (.slice A n c) T KS) : n = T.length ∧ T.length ≤ c ∧ c ≤ maxLen ∧ TreeAt w A T ∧ (A = none → T.length = 0 ∧ c = 0) := by
  obtain ⟨A', c', hv, hc, h1, h2, h3⟩ := own_block h.1
  cases hv
  refine ⟨rfl, h1, h2, fun i x hx => ?_, fun hn => ?_⟩
  · have hi := (List.getElem?_eq_some_iff.1 hx).1
    have hks := h.2.1
    obtain ⟨p, hp⟩ : ∃ p, KS[i]? = some p := ⟨KS[i]'(by omega), List.getElem?_eq_getElem (by omega)⟩
    refine ⟨p.1, p.2, ?_, kid_ints (h.2.2 i x p hx hp)⟩
    rcases h3 with ⟨rfl, h4, _⟩ | ⟨g, rfl, _⟩
    · omega
    · have cell : ∀ j u, j < 5 → (nodeC x p.1 p.2)[j]? = some u → w.cell? ⟨g, i * 5 + j, none⟩ = some u := fun j u hj hu => by
        have := flatN_at T KS i j x p hx hp hj
        rw [hu] at this
        have hcell := World.ownsRow.cells h.1 (g := g) rfl (i * 5 + j) u this
        rwa [add0] at hcell
      refine ⟨⟨g, 0, none⟩, rfl, ?_⟩
      rw [add0]
      exact ⟨by simpa using cell 0 _ (by omega) rfl, cell 1 _ (by omega) rfl, cell 2 _ (by omega) rfl, cell 3 _ (by omega) rfl, cell 4 _ (by omega) rfl⟩
  · rcases h3 with ⟨_, h4, h5⟩ | ⟨g, hg, _⟩
    · exact ⟨h4, h5⟩
    · rw [hn] at hg; cases hg
theorem infoNode : (Tryd.prog.info? 54).map (fun i => (i.zero, i.size, i.bytes)) = some (some (.agg #[.int .i64 0, .string ByteArray.empty, .int .i64 0, .slice none 0 0, .int .i64 0]), 5, 64) := by kernel_rfl
theorem infoInt : (Tryd.prog.info? 3).map (fun i => (i.zero, i.size, i.bytes)) = some (some (.int .i64 0), 1, 8) := by kernel_rfl
theorem infoTree : (Tryd.prog.info? 59).map (fun i => (i.zero, i.size, i.bytes)) = some (some (.agg #[.slice none 0 0]), 1, 24) := by kernel_rfl
theorem icells_one (l : List Int) : ∀ u ∈ icells l, u.oneCell' = true := by
  intro u hu
  obtain ⟨s, _, rfl⟩ := List.mem_map.1 hu
  rfl
theorem TreeAt.get' {w : World} {A : Option Addr} {T : List Nd} (h : TreeAt w A T) {k : Nat} (hk : k < T.length) : ∃ x K c, T[k]? = some x ∧ NodeAt w A k x K c := by
  obtain ⟨K, c, hn⟩ := h k T[k] (List.getElem?_eq_getElem hk)
  exact ⟨T[k], K, c, List.getElem?_eq_getElem hk, hn⟩
theorem drop_cons {α : Type} {l : List α} {i : Nat} {x : α} (h : l[i]? = some x) : l.drop i = x :: l.drop (i + 1) := by
  obtain ⟨h1, rfl⟩ := List.getElem?_eq_some_iff.1 h
  exact List.drop_eq_getElem_cons h1
/-- How much a tree is: counted as long as it is no more than m. -/
def greatF (m : Nat) : Nat → List Nd → Nat
  | n, [] => n
  | n, x :: T => if n ≤ m then greatF m (n + 1 + x.kids.length + x.text.size) T else n
def greatB (m : Nat) (T : List Nd) : Bool := decide (m < greatF m 0 T)
theorem greatF_over (m n : Nat) (T : List Nd) (h : m < n) : greatF m n T = n := by
  cases T with
  | nil => rfl
  | cons x T => rw [greatF, if_neg (by omega)]
theorem greatF_small (m : Nat) : ∀ (T : List Nd) (n : Nat), greatF m n T ≤ m → n ≤ m ∧ n + T.length ≤ m ∧ ∀ x ∈ T, x.kids.length ≤ m ∧ x.text.size ≤ m
  | [], n, h => ⟨h, h, fun x hx => by cases hx⟩
  | y :: T, n, h => by
    rw [greatF] at h
    by_cases hn : n ≤ m
    · rw [if_pos hn] at h
      obtain ⟨h1, h2, h3⟩ := greatF_small m T _ h
      refine ⟨hn, by simp only [List.length_cons]; omega, fun x hx => ?_⟩
      rcases List.mem_cons.1 hx with rfl | hx
      · omega
      · exact h3 x hx
    · rw [if_neg hn] at h
      omega
theorem great_small {m : Nat} {T : List Nd} (h : greatB m T = false) : T.length ≤ m ∧ ∀ x ∈ T, x.kids.length ≤ m ∧ x.text.size ≤ m := by
  unfold greatB at h
  have := greatF_small m T 0 (by simpa using h)
  exact ⟨by omega, this.2.2⟩
theorem alloc_at {w : World} {n : Nat} (h : w.heap.size = n) (o : Obj) : (w.alloc o).heap[n]? = some o := by subst h; exact World.alloc_heap_new w o
theorem alloc_old {w : World} {k : Nat} {o : Obj} (h : w.heap[k]? = some o) (o' : Obj) : (w.alloc o').heap[k]? = some o :=
  (((Below.refl _ w).alloc (Nat.le_refl _) o').block k (Array.getElem?_eq_some_iff.1 h).1).trans h
/-- 'append(s, x...)' in a region that draws its order. -/
theorem step_app {P : Program} {w : World} {ops : Array Oper} {o : Oper} {a : Act} {K : Act → World → Prop} {Q : Exit → Act → World → Prop} {E : Prop} (hgd : o.guard = none) (s x : Operand) (t : TypeId)
    (ho : o.op = .call { callee := .builtin .append, args := #[s, x], argTypes := #[t, t] })
    (base : Nat) (e : TypeId) (i : TypeInfo) (z : Value) (size bytes : Nat) (ht : P.underlying t = some (.slice e)) (hi : P.info? e = some i) (hz : i.zero = some z)
    (hsize : i.size = size) (hby : i.bytes = bytes) (hzs : z.cells.size = size) (hsz : 0 < size)
    (v : Value) (n : Nat) (xs : List Value) (hs : a.eval s = v) (hown : w.ownsRow base e size v n xs)
    (A : Option Addr) (m c : Nat) (news : List Value) (hx : a.eval x = .slice A m c) (hl : news.length = m * size) (hA : Cells w A news) (h0 : A = none → m = 0 ∧ c = 0) (h1 : ∀ u ∈ news, u.oneCell' = true)
    (h63 : n + m ≤ maxLen) (hbytes : (n + m) * bytes ≤ 140737488355328) (hbase : base ≤ w.heap.size)
    (h : ∀ v' w', w'.ownsRow base e size v' (n + m) (xs ++ news) → w.grownBy w' v.ownBlock → K (a.put o.dst v') w') :
    if Region.wanted o (yielded ops a.tmps) = true then Oper.wp P o a w K Q else E := by
  rw [if_pos (by simp [Region.wanted, hgd])]
  obtain ⟨v', w', hr, h2, h3⟩ := run_append_cells (P := P) w base t o.type e i z size bytes ht hi hz hsize hby hzs hsz v n xs hown A m c news hl hA h0 h1 h63 hbytes hbase
  unfold Oper.wp execOp
  simp only [ho, resolve, invoke, builtin, Sem.run_bind, Sem.run_pure, Result.andThen_ok, List.map_toArray, List.map_cons, List.map_nil, hs, hx, hr]
  exact h v' w' h2 h3

end Go.Proofs.YtnepdjgbfhakmaaDoor
