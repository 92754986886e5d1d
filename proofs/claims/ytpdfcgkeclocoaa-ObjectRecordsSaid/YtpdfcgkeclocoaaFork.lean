/- A region whose tail has two orders to begin with. -/
import Derived.Test.YtpdfcgkeclocoaaRegion
set_option linter.all false
namespace Go.Proofs.Ytpdfcgkeclocoaa
open Go

section
variable {P : Program} {ops : Array Oper} {Q : Exit → Act → World → Prop} {md : Region.Mode} {S : World → Prop} {late : Nat → Bool}

theorem anyS_front2 {l : List Oper} (hsel : Region.noSelect l.toArray = true) (hQ : ∀ c a w d v, Q (.panic c) (a.put (some d) v) w → Q (.panic c) a w) (n : Nat) (K : Act → Prop) (w : World) (hS : S w) (H : Nat → Bool) :
    ∀ (F : List Nat) (b : Array Bool) (a : Act), frontB md l.toArray F b = true → (∀ i ∈ F, plainB l.toArray i = true ∧ (H i = true → late i = false ∧ ∀ j, late j = true → waitsB md l.toArray j i = true)) → (∀ a', K a' → anyS P md l.toArray Q S late n (setAll F b) a' w) →
      frontO P S K (F.map fun i => (H i, opAt l i)) a → anyS P md l.toArray Q S late (F.length + n) b a w
  | [], b, a, _, _, hT, h => by
    rw [List.length_nil, Nat.zero_add]
    exact hT a h
  | i :: F, b, a, hF, hl, hT, h => by
    obtain ⟨v, hy, hrest⟩ := h
    obtain ⟨ho, hg⟩ := opAt_of (hl i List.mem_cons_self).1
    simp only [frontB, Bool.and_eq_true] at hF
    have ih := anyS_front2 hsel hQ n K w hS H F (b.setIfInBounds i true) (a.put (opAt l i).dst v) hF.2 (fun j hj => hl j (List.mem_cons_of_mem _ hj)) hT hrest
    have hQ' : ∀ c a w, Q (.panic c) (a.put (opAt l i).dst v) w → Q (.panic c) a w := fun c a w h => by
      cases hd : (opAt l i).dst with
      | none => rw [hd] at h; exact h
      | some d => rw [hd] at h; exact hQ c a w d v h
    rw [List.length_cons, show F.length + 1 + n = F.length + n + 1 from by omega]
    cases hH : H i with
    | true =>
      have := (hl i List.mem_cons_self).2 hH
      exact anyS_first (late := late) ho (Region.noSelect_spec hsel) this.2 this.1 hQ' (F.length + n) b a w (Region.free_spec ho hF.1.1) (by simpa using hF.1.2) (.inl ⟨wanted_plain hg, fun w hw => hy w fun _ => hw⟩) hS ih
    | false =>
      exact anyS_free (late := late) ho (Region.noSelect_spec hsel) hQ' (F.length + n) b a w (Region.free_spec ho hF.1.1) (by simpa using hF.1.2) (.inl ⟨wanted_plain hg, fun w _ => hy w fun h => (by rw [hH] at h; cases h)⟩) ih

def forkB (ops : Array Oper) (F H T T' L : List Nat) : Bool :=
  let b := setAll F (Array.replicate ops.size false)
  Region.noSelect ops && frontB .any ops F (Array.replicate ops.size false) &&
  (match T, T' with
   | i :: T, j :: T' => Region.ready .any ops b == [i, j] && tailB .any ops T (b.setIfInBounds i true) && tailB .any ops T' (b.setIfInBounds j true) && T.length == T'.length
   | _, _ => false) && F.length + T.length == ops.size &&
  F.all (fun i => plainB ops i && (!H.contains i || (!L.contains i && L.all fun j => waitsB .any ops j i))) && T.all (plainB ops) && T'.all (plainB ops)

/-- THE REGION by a front and two orders behind it. -/
theorem wp_region_fork {id : Nat} {l : List Oper} {a : Act} {w : World} (F H T T' L : List Nat) (S : World → Prop) (hm : P.follows .mixedOrders = true) (hp : forkB l.toArray F H T T' L = true)
    (hQ : ∀ c a w d v, Q (.panic c) (a.put (some d) v) w → Q (.panic c) a w) (hS : S w.drew)
    (h : frontO P S (fun a' => tailO P Q S (T.map fun i => (L.contains i, opAt l i)) a' w.drew ∧ tailO P Q S (T'.map fun i => (L.contains i, opAt l i)) a' w.drew) (F.map fun i => (H.contains i, opAt l i)) a) : (Code.region id l.toArray true).wp P Q a w := by
  simp only [forkB, Bool.and_eq_true, beq_iff_eq] at hp
  obtain ⟨⟨⟨⟨⟨⟨h1, h2⟩, h3⟩, h4⟩, h5⟩, h6⟩, h7⟩ := hp
  match T, T', h3, h4, h6, h7, h with
  | i :: T, j :: T', h3, h4, h6, h7, h =>
    simp only [Bool.and_eq_true, beq_iff_eq] at h3
    obtain ⟨⟨⟨hr, ht⟩, ht'⟩, hl⟩ := h3
    have := anyS_front2 (md := .any) (late := fun i => L.contains i) h1 hQ (T.length + 1) _ w.drew hS (fun i => H.contains i) F (Array.replicate l.toArray.size false) a h2 (fun i hi => by
      have := List.all_eq_true.1 h5 i hi
      simp only [Bool.and_eq_true, Bool.not_eq_true', Bool.or_eq_true] at this
      refine ⟨this.1, fun hH => ?_⟩
      rcases this.2 with h | h
      · rw [hH] at h; cases h
      · exact ⟨h.1, fun j hj => List.all_eq_true.1 h.2 j (by simpa using hj)⟩) (fun a' hK => ?_) h
    · rw [List.length_cons] at h4
      rw [h4] at this
      exact wp_region_any hm (any_of_anyS _ _ _ _ this)
    · refine ⟨fun h0 => (by rw [hr] at h0; cases h0), fun q hq => ?_⟩
      rw [hr, List.mem_cons, List.mem_singleton] at hq
      unfold wpOp
      rcases hq with rfl | rfl
      · obtain ⟨g1, g2⟩ := opAt_of (List.all_eq_true.1 h6 q List.mem_cons_self)
        rw [g1]
        simp only [wanted_plain g2, if_true]
        exact hK.1.imp (fun h => Oper.wp_mono (fun a' w' h' => ⟨h'.1, anyS_tail T _ a' w' ht (fun k hk => List.all_eq_true.1 h6 k (List.mem_cons_of_mem _ hk)) h'.2⟩) h) (fun h => h)
      · obtain ⟨g1, g2⟩ := opAt_of (List.all_eq_true.1 h7 q List.mem_cons_self)
        rw [g1]
        simp only [wanted_plain g2, if_true]
        rw [hl]
        exact hK.2.imp (fun h => Oper.wp_mono (fun a' w' h' => ⟨h'.1, anyS_tail T' _ a' w' ht' (fun k hk => List.all_eq_true.1 h7 k (List.mem_cons_of_mem _ hk)) h'.2⟩) h) (fun h => h)
end
end Go.Proofs.Ytpdfcgkeclocoaa
