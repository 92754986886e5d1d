/- A region by a road: each operation in an order that is given; guarded ones too. -/
import Derived.Test.YtpdfcgkeclocoaaPlan
set_option linter.all false
namespace Go.Proofs.Ytpdfcgkeclocoaa
open Go

section
variable {P : Program} {ops : Array Oper} {Q : Exit → Act → World → Prop} {md : Region.Mode} {S : World → Prop}

abbrev Guard := Option (Option Nat × Bool)
/-- Which slot an operation's guard reads, and what it wants. -/
def gOf (l : List Oper) (o : Oper) : Guard := o.guard.map fun x => ((opAt l x.1).dst, x.2)
def wantB (g : Guard) (tmps : Array Value) : Bool := match g with
  | none => true
  | some (d, want) => (match d.bind (tmps[·]?) with | some (.bool b) => some b | _ => none) == some want
theorem wanted_eq {l : List Oper} {o : Oper} (h : ∀ x, o.guard = some x → x.1 < l.length) (tmps : Array Value) : Region.wanted o (yielded l.toArray tmps) = wantB (gOf l o) tmps := by
  unfold Region.wanted wantB gOf
  cases hg : o.guard with
  | none => rfl
  | some x =>
    obtain ⟨j, want⟩ := x
    have hj := h _ hg
    simp only at hj
    have e : l.toArray[j]? = some (opAt l j) := by
      unfold opAt
      rw [List.getElem?_toArray, List.getD_eq_getElem?_getD, List.getElem?_eq_getElem hj]; rfl
    simp only [Option.map_some, yielded, e, Option.bind_some]
    cases ((opAt l j).dst.bind fun x => tmps[x]?) with
    | none => rfl
    | some v => cases v <;> rfl

/-- What is to be shown along a road: 0 reads nothing, 1 reads where S holds, 2 stands alone. -/
def roadO (P : Program) (Q : Exit → Act → World → Prop) (S : World → Prop) : List (Nat × Oper × Guard) → Act → World → Prop
  | [], a, w => Q .normal a w
  | (k, o, g) :: r, a, w =>
    (wantB g a.tmps = false ∧ roadO P Q S r (a.put o.dst undef) w) ∨
    (wantB g a.tmps = true ∧ (if k = 2 then o.wp P a w (fun a' w' => (S w → S w') ∧ roadO P Q S r a' w') Q
      else ∃ v, (∀ w, (k = 1 → S w) → (execOp a.eval o).run P w = .ok (.value v) w) ∧ roadO P Q S r (a.put o.dst v) w))
def roadB (l : List Oper) : List (Nat × Nat) → Array Bool → Bool
  | [], b => Region.ready .any l.toArray b == []
  | (k, i) :: r, b => decide (i < l.length) && (if k = 2 then Region.ready .any l.toArray b == [i] else Region.free .any l.toArray b i && (Region.ready .any l.toArray b).contains i) && roadB l r (b.setIfInBounds i true)
def guardsB (l : List Oper) : Bool := l.all fun o => match o.guard with | none => true | some x => decide (x.1 < l.length)

theorem anyS_road {l : List Oper} (hsel : Region.noSelect l.toArray = true) (hgs : guardsB l = true) (hQ : ∀ c a w d v, Q (.panic c) (a.put (some d) v) w → Q (.panic c) a w) :
    ∀ (L : List (Nat × Nat)) (b : Array Bool) (a : Act) (w : World), S w → roadB l L b = true → roadO P Q S (L.map fun x => (x.1, opAt l x.2, gOf l (opAt l x.2))) a w → anyS P .any l.toArray Q S (fun _ => false) L.length b a w
  | [], b, a, w, _, hb, h => ⟨by simpa [roadB] using hb, h⟩
  | (k, i) :: L, b, a, w, hS, hb, h => by
    simp only [roadB, Bool.and_eq_true, decide_eq_true_eq] at hb
    obtain ⟨⟨hi, hk⟩, hrest⟩ := hb
    have ho : l.toArray[i]? = some (opAt l i) := by
      unfold opAt
      rw [List.getElem?_toArray, List.getD_eq_getElem?_getD, List.getElem?_eq_getElem hi]; rfl
    have hmem : opAt l i ∈ l := by
      unfold opAt
      rw [List.getD_eq_getElem?_getD, List.getElem?_eq_getElem hi]
      exact List.getElem_mem hi
    have hw : ∀ tmps, Region.wanted (opAt l i) (yielded l.toArray tmps) = wantB (gOf l (opAt l i)) tmps := wanted_eq fun x hx => by
      have := List.all_eq_true.1 hgs _ hmem
      rw [hx] at this
      simpa using this
    have hQ' : ∀ v, ∀ c a w, Q (.panic c) (a.put (opAt l i).dst v) w → Q (.panic c) a w := fun v c a w h => by
      cases hd : (opAt l i).dst with
      | none => rw [hd] at h; exact h
      | some d => rw [hd] at h; exact hQ c a w d v h
    rw [List.map_cons] at h
    simp only [roadO] at h
    rw [List.length_cons]
    by_cases h2 : k = 2
    · rw [if_pos h2, beq_iff_eq] at hk
      refine ⟨fun h0 => (by rw [hk] at h0; cases h0), fun j hj => ?_⟩
      rw [hk, List.mem_singleton] at hj
      subst hj
      unfold wpOp
      rw [ho]
      simp only [hw]
      rcases h with ⟨h1, h⟩ | ⟨h1, h⟩
      · rw [h1]
        exact ⟨fun _ h => h, anyS_road hsel hgs hQ L _ _ w hS hrest h⟩
      · rw [h1, if_pos rfl]
        rw [if_pos h2] at h
        exact .inl (Oper.wp_mono (fun a' w' h' => ⟨fun _ => h'.1, anyS_road hsel hgs hQ L _ a' w' (h'.1 hS) hrest h'.2⟩) h)
    · rw [if_neg h2, Bool.and_eq_true] at hk
      rcases h with ⟨h1, h⟩ | ⟨h1, h⟩
      · exact anyS_free (late := fun _ => false) ho (Region.noSelect_spec hsel) (hQ' undef) L.length b a w (Region.free_spec ho hk.1) (by simpa using hk.2) (.inr ⟨(hw _).trans h1, rfl⟩) (anyS_road hsel hgs hQ L _ _ w hS hrest h)
      · rw [if_neg h2] at h
        obtain ⟨v, hy, h⟩ := h
        exact anyS_first (late := fun _ => false) ho (Region.noSelect_spec hsel) (fun j h => by cases h) rfl (hQ' v) L.length b a w (Region.free_spec ho hk.1) (by simpa using hk.2) (.inl ⟨(hw _).trans h1, fun w hw => hy w fun _ => hw⟩) hS (anyS_road hsel hgs hQ L _ _ w hS hrest h)
def roadPlan (l : List Oper) (L : List (Nat × Nat)) : Bool := Region.noSelect l.toArray && guardsB l && roadB l L (Array.replicate l.length false) && L.length == l.length
theorem wp_region_road {id : Nat} {l : List Oper} {a : Act} {w : World} (L : List (Nat × Nat)) (S : World → Prop) (hm : P.follows .mixedOrders = true) (hp : roadPlan l L = true)
    (hQ : ∀ c a w d v, Q (.panic c) (a.put (some d) v) w → Q (.panic c) a w) (hS : S w.drew)
    (h : roadO P Q S (L.map fun x => (x.1, opAt l x.2, gOf l (opAt l x.2))) a w.drew) : (Code.region id l.toArray true).wp P Q a w := by
  simp only [roadPlan, Bool.and_eq_true, beq_iff_eq] at hp
  obtain ⟨⟨⟨h1, h2⟩, h3⟩, h4⟩ := hp
  have := anyS_road h1 h2 hQ L _ a w.drew hS h3 h
  rw [h4] at this
  exact wp_region_any hm (any_of_anyS _ _ _ _ (by simpa using this))

theorem road_nil {a : Act} {w : World} (h : Q .normal a w) : roadO P Q S [] a w := h
theorem road_cold {a : Act} {w : World} {o : Oper} {g : Guard} {r : List (Nat × Oper × Guard)} {v : Value} (hw : wantB g a.tmps = true) (hy : ∀ w, (execOp a.eval o).run P w = .ok (.value v) w) (h : roadO P Q S r (a.put o.dst v) w) : roadO P Q S ((0, o, g) :: r) a w :=
  .inr ⟨hw, by rw [if_neg (by decide)]; exact ⟨v, fun w _ => hy w, h⟩⟩
theorem road_hot {a : Act} {w : World} {o : Oper} {g : Guard} {r : List (Nat × Oper × Guard)} {v : Value} (hw : wantB g a.tmps = true) (hy : ∀ w, S w → (execOp a.eval o).run P w = .ok (.value v) w) (h : roadO P Q S r (a.put o.dst v) w) : roadO P Q S ((1, o, g) :: r) a w :=
  .inr ⟨hw, by rw [if_neg (by decide)]; exact ⟨v, fun w hw => hy w (hw rfl), h⟩⟩
theorem road_step {a : Act} {w : World} {o : Oper} {g : Guard} {r : List (Nat × Oper × Guard)} (hw : wantB g a.tmps = true) (h : ∀ K : Act → World → Prop, (∀ a' w', (S w → S w') → roadO P Q S r a' w' → K a' w') → o.wp P a w K Q) : roadO P Q S ((2, o, g) :: r) a w :=
  .inr ⟨hw, by rw [if_pos rfl]; exact h _ fun a' w' h1 h2 => ⟨h1, h2⟩⟩
theorem road_skip {a : Act} {w : World} {k : Nat} {o : Oper} {g : Guard} {r : List (Nat × Oper × Guard)} (hw : wantB g a.tmps = false) (h : roadO P Q S r (a.put o.dst undef) w) : roadO P Q S ((k, o, g) :: r) a w :=
  .inl ⟨hw, h⟩
end
end Go.Proofs.Ytpdfcgkeclocoaa
