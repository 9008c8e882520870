/- Trees: the places of a kind: what is asked. -/
import Derived.Test.YtnepdjgbfhakmaaDoorTree8
import Derived.Deep.DeepCutAuto
namespace Go.Proofs.YtnepdjgbfhakmaaDoor
set_option linter.unusedVariables false
set_option linter.unusedSimpArgs false
open Go.RowKit Go.Shelf
attribute [local go_sem] Oper.semAt_some

abbrev PP := List Nd → Nat → Bool
def pE : PP := fun T i => isExprB (ndK T i)
def pT : PP := fun T i => isTypeB (ndK T i)
def pS : PP := fun T i => isStmtB (ndK T i)
def pPlain : PP := fun T i => isPlainB (T.getD i default)
def pLet : PP := fun T i => isLetB (T.getD i default)
def pAny : PP := fun _ _ => true
def pOf (ks : List Int) : PP := fun T i => ks.contains (ndK T i)
def pOr (p q : PP) : PP := fun T i => p T i || q T i

theorem place_E (w : World) : Place w (.func (.func 104) #[] #[]) pE := by
  refine ⟨_, _, rfl, fun args W => by simp [go_sem], fun W A c T i hW hT hA hi => ?_⟩
  obtain ⟨x, hx, he⟩ := nd_at hi
  have := isExpr_calls A c T i x W (by have := hT.1; omega) hx hA
  rw [he] at this; exact this
theorem place_T (w : World) : Place w (.func (.func 107) #[] #[]) pT := by
  refine ⟨_, _, rfl, fun args W => by simp [go_sem], fun W A c T i hW hT hA hi => ?_⟩
  obtain ⟨x, hx, he⟩ := nd_at hi
  have := isType_calls A c T i x W (by have := hT.1; omega) hx hA
  rw [he] at this; exact this
theorem place_S (w : World) : Place w (.func (.func 146) #[] #[]) pS := by
  refine ⟨_, _, rfl, fun args W => by simp [go_sem], fun W A c T i hW hT hA hi => ?_⟩
  obtain ⟨x, hx, he⟩ := nd_at hi
  have := isStmt_calls A c T i x W (by have := hT.1; omega) hx hA
  rw [he] at this; exact this
theorem place_Plain (w : World) : Place w (.func (.func 141) #[] #[]) pPlain := by
  refine ⟨_, _, rfl, fun args W => by simp [go_sem], fun W A c T i hW hT hA hi => ?_⟩
  obtain ⟨x, hx, he⟩ := nd_at hi
  have := isPlain_calls A c T i x W (by have := hT.1; omega) hx (hT.2 x (List.mem_of_getElem? hx)).1.2.1 hA
  rw [he] at this; exact this
theorem place_Let (w : World) : Place w (.func (.func 176) #[] #[]) pLet := by
  refine ⟨_, _, rfl, fun args W => by simp [go_sem], fun W A c T i hW hT hA hi => ?_⟩
  obtain ⟨x, hx, he⟩ := nd_at hi
  have := isLet_calls A c T i x W (by have := hT.1; omega) hx hA
  rw [he] at this; exact this
theorem place_Any (w : World) : Place w (.func (.func 145) #[] #[]) pAny := by
  refine ⟨_, _, rfl, fun args W => by simp [go_sem], fun W A c T i hW hT hA hi => ?_⟩
  exact any_calls A c T.length i W
theorem place_Spot (w : World) : Place w (.func (.func 147) #[] #[]) isSpotB := by
  refine ⟨_, _, rfl, fun args W => by simp [go_sem], fun W A c T i hW hT hA hi => ?_⟩
  exact isSpot_calls A c T i W hT hA hi
theorem place_Path (w : World) : Place w (.func (.func 148) #[] #[]) isPathB := by
  refine ⟨_, _, rfl, fun args W => by simp [go_sem], fun W A c T i hW hT hA hi => ?_⟩
  exact isPath_calls A c T i W hT hA hi
theorem place_Mem (w : World) : Place w (.func (.func 149) #[] #[]) isMembersB := by
  refine ⟨_, _, rfl, fun args W => by simp [go_sem], fun W A c T i hW hT hA hi => ?_⟩
  exact isMembers_calls A c T i W hT hA hi
theorem place_Exp (w : World) : Place w (.func (.func 175) #[] #[]) isExportedB := by
  refine ⟨_, _, rfl, fun args W => by simp [go_sem], fun W A c T i hW hT hA hi => ?_⟩
  exact isExported_calls A c T i W hT hA hi

/-- A function value. -/
abbrev FV (g : Nat) (cap : Array Value) : Value := .func (.func g) #[] cap
theorem place_fv {w : World} {v : Value} {p : PP} (h : Place w v p) : ∃ g cap, v = FV g cap := by
  obtain ⟨g, cap, rfl, _⟩ := h
  exact ⟨g, cap, rfl⟩
theorem ofs_calls (ks : List Int) (w : World) (hk : ks.length ≤ 1000) :
    Calls Tryd.prog 139 #[.slice (some ⟨w.heap.size, 0, none⟩) ks.length ks.length] (w.alloc (.cells (icells ks).toArray 3)) fun e V => ∃ g cap, e = .returned (FV g cap) ∧ Below w.heap.size w V ∧ Place V (FV g cap) (pOf ks) := by
  refine (of_calls _ ks.length ks _ (by omega) (Ints.new w ks)).mono ?_
  rintro e V ⟨v, rfl, hb, hp⟩
  obtain ⟨g, cap, rfl⟩ := place_fv hp
  exact ⟨g, cap, rfl, ((Below.refl _ _).alloc (Nat.le_refl _) _).trans (hb.mono (by simp)), hp⟩
theorem rowss_calls (g : Nat) (cap : Array Value) (p : PP) (w : World) (hP : Place w (FV g cap) p) :
    Calls Tryd.prog 140 #[FV g cap] w fun e V => ∃ g' cap', e = .returned (FV g' cap') ∧ Below w.heap.size w V ∧ Place V (FV g' cap') (rowsB p) := by
  refine (rows_place _ p w hP).mono ?_
  rintro e V ⟨v, rfl, hb, hp⟩
  obtain ⟨g, cap, rfl⟩ := place_fv hp
  exact ⟨g, cap, rfl, hb, hp⟩
theorem ors_calls (g : Nat) (cap : Array Value) (p : PP) (h : Nat) (cap2 : Array Value) (q : PP) (w : World) (hP : Place w (FV g cap) p) (hQ : Place w (FV h cap2) q) :
    Calls Tryd.prog 142 #[FV g cap, FV h cap2] w fun e V => ∃ g' cap', e = .returned (FV g' cap') ∧ Below w.heap.size w V ∧ Place V (FV g' cap') (pOr p q) := by
  refine (or_place _ _ p q w hP hQ).mono ?_
  rintro e V ⟨v, rfl, hb, hp⟩
  obtain ⟨g, cap, rfl⟩ := place_fv hp
  exact ⟨g, cap, rfl, hb, hp⟩

/-- Places laid in a row. -/
def AllP (w : World) : List Value → List PP → Prop
  | [], [] => True
  | v :: vs, p :: ps => Place w v p ∧ AllP w vs ps
  | _, _ => False
theorem AllP.below {w w' : World} : ∀ {vs : List Value} {ps : List PP}, AllP w vs ps → Below w.heap.size w w' → AllP w' vs ps
  | [], [], _, _ => trivial
  | _ :: _, _ :: _, h, hb => ⟨h.1.below hb, AllP.below h.2 hb⟩
  | [], _ :: _, h, _ => h
  | _ :: _, [], h, _ => h
theorem AllP.length {w : World} : ∀ {vs : List Value} {ps : List PP}, AllP w vs ps → vs.length = ps.length
  | [], [], _ => rfl
  | _ :: _, _ :: _, h => by simp [AllP.length h.2]
  | [], _ :: _, h => h.elim
  | _ :: _, [], h => h.elim
theorem AllP.at {w : World} : ∀ {vs : List Value} {ps : List PP} {i : Nat} {v : Value} {p : PP}, AllP w vs ps → vs[i]? = some v → ps[i]? = some p → Place w v p
  | v0 :: vs, p0 :: ps, 0, v, p, h, hv, hp => by simp at hv hp; rw [← hv, ← hp]; exact h.1
  | v0 :: vs, p0 :: ps, i + 1, v, p, h, hv, hp => by simp at hv hp; exact AllP.at h.2 hv hp
  | [], [], i, v, p, h, hv, hp => by simp at hv
  | [], _ :: _, _, _, _, h, _, _ => h.elim
  | _ :: _, [], _, _, _, h, _, _ => h.elim
def PlacesAt (w : World) (K : Option Addr) (ps : List PP) : Prop := ∃ vs : List Value, AllP w vs ps ∧ Cells w K vs
theorem PlacesAt.below {w w' : World} {K : Option Addr} {ps : List PP} (h : PlacesAt w K ps) (hb : Below w.heap.size w w') : PlacesAt w' K ps := by
  obtain ⟨vs, h1, h2⟩ := h
  exact ⟨vs, h1.below hb, h2.below hb⟩
theorem PlacesAt.new {w : World} {vs : List Value} {ps : List PP} (h : AllP w vs ps) : PlacesAt (w.alloc (.cells vs.toArray 132)) (some ⟨w.heap.size, 0, none⟩) ps :=
  ⟨vs, h.below ((Below.refl _ _).alloc (Nat.le_refl _) _), by have := cells_fresh w vs.toArray 132 (0, 0); simpa using this⟩
theorem PlacesAt.none (w : World) : PlacesAt w none [] := ⟨[], trivial, fun i hi => absurd hi (by simp)⟩
/-- How places ends: a row of places. -/
def PlacesEnd (w : World) (ps : List PP) (many : Bool) (e : Ending) (w' : World) : Prop :=
  ∃ K c, e = .returned (.tuple #[.slice K ps.length c, .bool many, .bool true]) ∧ Below w.heap.size w w' ∧ PlacesAt w' K ps
theorem these_calls (v : Value) (hv : ∃ K n c, v = .slice K n c) (w : World) : Calls Tryd.prog 144 #[v] w fun e V => e = .returned (.tuple #[v, .bool false, .bool true]) ∧ V = w := by
  obtain ⟨K, n, c, rfl⟩ := hv
  go_enter Tryd.func144, Tryd.ntmps144
  go_wp2
  go_ret3
  exact ⟨rfl, rfl⟩
theorem alls_calls (g : Nat) (cap : Array Value) (w : World) : Calls Tryd.prog 143 #[FV g cap] w fun e V => e = .returned (.tuple #[.slice (some ⟨w.heap.size, 0, none⟩) 1 1, .bool true, .bool true]) ∧ V = w.alloc (.cells #[FV g cap] 132) := by
  go_enter Tryd.func143, Tryd.ntmps143
  go_wp2
  go_ret3
  exact ⟨rfl, rfl⟩
end Go.Proofs.YtnepdjgbfhakmaaDoor
