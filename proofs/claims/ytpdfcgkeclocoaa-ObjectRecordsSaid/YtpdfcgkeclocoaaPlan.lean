/- A region by a plan: what reads, in order; the rest in its one order; behind it what only reckons. -/
import Derived.Test.YtpdfcgkeclocoaaFork
set_option linter.all false
namespace Go.Proofs.Ytpdfcgkeclocoaa
open Go

section
variable {P : Program} {ops : Array Oper} {Q : Exit → Act → World → Prop} {md : Region.Mode} {S : World → Prop} {late : Nat → Bool} {E : Act → World → Prop}

/-- The tail has one order; behind it more may come. -/
def tailB2 (md : Region.Mode) (ops : Array Oper) : List Nat → Array Bool → Bool
  | [], _ => true
  | i :: l, b => Region.ready md ops b == [i] && tailB2 md ops l (b.setIfInBounds i true)
def tailE (P : Program) (Q : Exit → Act → World → Prop) (S : World → Prop) (E : Act → World → Prop) : List (Bool × Oper) → Act → World → Prop
  | [], a, w => E a w
  | (lt, o) :: r, a, w => o.wp P a w (fun a' w' => (lt = false → S w → S w') ∧ tailE P Q S E r a' w') Q ∨ (o.asks P a w ∧ LetsOut Q)
theorem anyS_tailE {l : List Oper} (n : Nat) : ∀ (T : List Nat) (b : Array Bool) (a : Act) (w : World), tailB2 md l.toArray T b = true → (∀ i ∈ T, plainB l.toArray i = true) → (∀ a' w', E a' w' → anyS P md l.toArray Q S late n (setAll T b) a' w') →
    tailE P Q S E (T.map fun i => (late i, opAt l i)) a w → anyS P md l.toArray Q S late (T.length + n) b a w
  | [], b, a, w, _, _, hE, h => by
    rw [List.length_nil, Nat.zero_add]
    exact hE a w h
  | i :: T, b, a, w, hb, hp, hE, h => by
    simp only [tailB2, Bool.and_eq_true, beq_iff_eq] at hb
    rw [List.length_cons, show T.length + 1 + n = (T.length + n) + 1 from by omega]
    refine ⟨fun h0 => (by rw [hb.1] at h0; cases h0), fun j hj => ?_⟩
    rw [hb.1, List.mem_singleton] at hj
    subst hj
    obtain ⟨h1, h2⟩ := opAt_of (hp j List.mem_cons_self)
    unfold wpOp
    rw [h1]
    simp only [wanted_plain h2, if_true]
    exact h.imp (fun h => Oper.wp_mono (fun a' w' h' => ⟨h'.1, anyS_tailE n T _ a' w' hb.2 (fun k hk => hp k (List.mem_cons_of_mem _ hk)) hE h'.2⟩) h) id
theorem anyS_free2 {l : List Oper} (hsel : Region.noSelect l.toArray = true) (hQ : ∀ c a w d v, Q (.panic c) (a.put (some d) v) w → Q (.panic c) a w) :
    ∀ (G : List Nat) (b : Array Bool) (a : Act) (w : World), frontB md l.toArray G b = true → (∀ i ∈ G, plainB l.toArray i = true) → Region.ready md l.toArray (setAll G b) = [] →
      frontO P (fun _ => True) (fun a' => Q .normal a' w) (G.map fun i => (false, opAt l i)) a → anyS P md l.toArray Q S late G.length b a w
  | [], b, a, w, _, _, hr, h => ⟨hr, h⟩
  | i :: G, b, a, w, hF, hl, hr, h => by
    obtain ⟨v, hy, hrest⟩ := h
    obtain ⟨ho, hg⟩ := opAt_of (hl i List.mem_cons_self)
    simp only [frontB, Bool.and_eq_true] at hF
    have ih := anyS_free2 hsel hQ G (b.setIfInBounds i true) (a.put (opAt l i).dst v) w hF.2 (fun j hj => hl j (List.mem_cons_of_mem _ hj)) hr hrest
    have hQ' : ∀ c a w, Q (.panic c) (a.put (opAt l i).dst v) w → Q (.panic c) a w := fun c a w h => by
      cases hd : (opAt l i).dst with
      | none => rw [hd] at h; exact h
      | some d => rw [hd] at h; exact hQ c a w d v h
    rw [List.length_cons]
    exact anyS_free (late := late) ho (Region.noSelect_spec hsel) hQ' G.length b a w (Region.free_spec ho hF.1.1) (by simpa using hF.1.2) (.inl ⟨wanted_plain hg, fun w _ => hy w fun _ => trivial⟩) ih
/-- All that a region's table must say for a front F, its hot ones H, a tail T, the late ones L, what comes behind G. -/
def planB2 (l : List Oper) (F H T L G : List Nat) : Bool :=
  let b := setAll F (Array.replicate l.length false)
  Region.noSelect l.toArray && frontB .any l.toArray F (Array.replicate l.length false) && tailB2 .any l.toArray T b && frontB .any l.toArray G (setAll T b) && Region.ready .any l.toArray (setAll G (setAll T b)) == [] &&
  F.length + (T.length + G.length) == l.length &&
  F.all (fun i => plainB l.toArray i && (!H.contains i || (!L.contains i && L.all fun j => waitsB .any l.toArray j i))) && T.all (plainB l.toArray) && G.all (plainB l.toArray)
/-- THE REGION by a plan, with what only reckons behind. -/
theorem wp_region_plan2 {id : Nat} {l : List Oper} {a : Act} {w : World} (F H T L G : List Nat) (S : World → Prop) (hm : P.follows .mixedOrders = true) (hp : planB2 l F H T L G = true)
    (hQ : ∀ c a w d v, Q (.panic c) (a.put (some d) v) w → Q (.panic c) a w) (hS : S w.drew)
    (h : frontO P S (fun a' => tailE P Q S (fun a2 w2 => frontO P (fun _ => True) (fun a3 => Q .normal a3 w2) (G.map fun i => (false, opAt l i)) a2) (T.map fun i => (L.contains i, opAt l i)) a' w.drew) (F.map fun i => (H.contains i, opAt l i)) a) : (Code.region id l.toArray true).wp P Q a w := by
  simp only [planB2, Bool.and_eq_true, beq_iff_eq] at hp
  obtain ⟨⟨⟨⟨⟨⟨⟨⟨h1, h2⟩, h3⟩, h4⟩, h5⟩, h6⟩, h7⟩, h8⟩, h9⟩ := hp
  have := anyS_front2 (md := .any) (late := fun i => L.contains i) h1 hQ (T.length + G.length) _ w.drew hS (fun i => H.contains i) F (Array.replicate l.toArray.size false) a (by simpa using h2) (fun i hi => by
    have := List.all_eq_true.1 h7 i hi
    simp only [Bool.and_eq_true, Bool.not_eq_true', Bool.or_eq_true] at this
    refine ⟨this.1, fun hH => ?_⟩
    rcases this.2 with h | h
    · rw [hH] at h; cases h
    · exact ⟨h.1, fun j hj => List.all_eq_true.1 h.2 j (by simpa using hj)⟩) (fun a' hK => ?_) h
  · rw [h6] at this
    exact wp_region_any hm (any_of_anyS _ _ _ _ (by simpa using this))
  · refine anyS_tailE G.length T _ a' w.drew (by simpa using h3) (fun i hi => List.all_eq_true.1 h8 i hi) (fun a2 w2 hE => ?_) hK
    have := anyS_free2 (late := fun i => L.contains i) (Q := Q) (S := S) h1 hQ G _ a2 w2 (by simpa using h4) (fun i hi => List.all_eq_true.1 h9 i hi) (by simpa using h5) hE
    exact this
theorem etail_nil {a : Act} {w : World} (h : E a w) : tailE P Q S E [] a w := h
theorem etail_cons {a : Act} {w : World} {o : Oper} {r : List (Bool × Oper)} (h : ∀ K : Act → World → Prop, (∀ a' w', (S w → S w') → tailE P Q S E r a' w' → K a' w') → o.wp P a w K Q) : tailE P Q S E ((false, o) :: r) a w :=
  .inl (h _ fun a' w' h1 h2 => ⟨fun _ => h1, h2⟩)
theorem etail_late {a : Act} {w : World} {o : Oper} {r : List (Bool × Oper)} (h : ∀ K : Act → World → Prop, (∀ a' w', tailE P Q S E r a' w' → K a' w') → o.wp P a w K Q) : tailE P Q S E ((true, o) :: r) a w :=
  .inl (h _ fun a' w' h2 => ⟨fun h => (by cases h), h2⟩)
theorem etail_list {a : Act} {w : World} {lt : Bool} {o : Oper} {r : List (Bool × Oper)} (hg : o.guard = none) (h : ∀ K : Act → World → Prop, (∀ a' w', (S w → S w') → tailE P Q S E r a' w' → K a' w') → wpList P #[] (Exit.then K Q) [o] a w) : tailE P Q S E ((lt, o) :: r) a w := by
  have h := h (fun a' w' => (lt = false → S w → S w') ∧ tailE P Q S E r a' w') (fun a' w' h1 h2 => ⟨fun _ => h1, h2⟩)
  unfold wpList at h
  rw [if_pos (wanted_plain hg)] at h
  unfold tailE
  exact h
end
end Go.Proofs.Ytpdfcgkeclocoaa
