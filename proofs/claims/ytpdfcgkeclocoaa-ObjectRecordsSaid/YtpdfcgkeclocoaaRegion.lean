/- A region that draws its order: what only reads is taken first, in the text's order, under one condition on the world; what writes comes behind, in its own order; the last writes need not keep the condition. -/
import Derived.OrdersHeld
import Derived.WalkKit
import Derived.KernelRfl
set_option linter.all false
namespace Go.Proofs.Ytpdfcgkeclocoaa
open Go

section
variable {P : Program} {ops : Array Oper} {Q : Exit → Act → World → Prop} {md : Region.Mode} {S : World → Prop} {late : Nat → Bool}

/-- Whatever order is picked from here on, and S holds behind every operation that is not late. -/
def anyS (P : Program) (md : Region.Mode) (ops : Array Oper) (Q : Exit → Act → World → Prop) (S : World → Prop) (late : Nat → Bool) : Nat → Array Bool → Act → World → Prop
  | 0, listed, a, w => Region.ready md ops listed = [] ∧ Q .normal a w
  | fuel + 1, listed, a, w =>
    (Region.ready md ops listed = [] → Q .normal a w) ∧
    ∀ i ∈ Region.ready md ops listed, wpOp P ops Q i (fun a' w' => (late i = false → S w → S w') ∧ anyS P md ops Q S late fuel (listed.setIfInBounds i true) a' w') a w

theorem any_of_anyS : ∀ (fuel : Nat) (listed : Array Bool) (a : Act) (w : World), anyS P md ops Q S late fuel listed a w → wpAny P md ops Q fuel listed a w
  | 0, _, _, _, h => h
  | fuel + 1, _, _, _, h => ⟨h.1, fun i hi => wpOp_mono (fun a' w' h' => any_of_anyS fuel _ a' w' h'.2) (h.2 i hi)⟩

/-- Operation i waits for operation d. -/
def waitsB (md : Region.Mode) (ops : Array Oper) (i d : Nat) : Bool := match ops[i]? with
  | some o => o.after.any fun e => Region.binds md e && e.on == d
  | none => false

theorem ready_listed {listed : Array Bool} {i d : Nat} (h : i ∈ Region.ready md ops listed) (hw : waitsB md ops i d = true) : listed.getD d false = true := by
  obtain ⟨_, o, ho, hall⟩ := mem_ready.1 h
  unfold waitsB at hw
  rw [ho] at hw
  obtain ⟨e, he, hb⟩ := Array.any_eq_true'.1 hw
  simp only [Bool.and_eq_true, beq_iff_eq] at hb
  rw [← hb.2]
  exact hall e he hb.1

/-- An operation that yields its value wherever S holds may be taken first, if all late ones wait for it. -/
theorem anyS_first {i : Nat} {oi : Oper} {v : Value} (hi : ops[i]? = some oi) (hsel : ∀ (j : Nat) (o : Oper) cs b, ops[j]? = some o → o.op ≠ .select cs b)
    (hlate : ∀ j, late j = true → waitsB md ops j i = true) (hli : late i = false)
    (hQ : ∀ c a w, Q (.panic c) (a.put oi.dst v) w → Q (.panic c) a w) :
    ∀ (fuel : Nat) (listed : Array Bool) (a : Act) (w : World),
      (∀ j oj, ops[j]? = some oj → j ≠ i → listed.getD j true = false → (∀ e ∈ oj.after, Region.binds md e = true → e.on ≠ i) → oi.apart ops oj = true) →
      i ∈ Region.ready md ops listed → YieldsIf P ops S oi v a → S w →
      anyS P md ops Q S late fuel (listed.setIfInBounds i true) (a.put oi.dst v) w → anyS P md ops Q S late (fuel + 1) listed a w := by
  have notlate : ∀ (listed : Array Bool) (j : Nat), i ∈ Region.ready md ops listed → j ∈ Region.ready md ops listed → late j = false := fun listed j hr hj => by
    cases h : late j with
    | false => rfl
    | true =>
      have h1 := ready_listed hj (hlate j h)
      have h0 := (mem_ready.1 hr).1
      rcases Nat.lt_or_ge i listed.size with h' | h'
      · simp [h'] at h0 h1; rw [h0] at h1; cases h1
      · simp [Array.getElem?_eq_none h'] at h1
  intro fuel
  induction fuel with
  | zero =>
    intro listed a w _ hr hy hS H
    refine ⟨fun h => (by rw [h] at hr; cases hr), fun j hj => ?_⟩
    by_cases hji : j = i
    · subst hji; exact hy.wpOp hi hS ⟨fun _ h => h, H⟩
    · have := ready_mono hj hji
      rw [H.1] at this
      cases this
  | succ fuel ih =>
    intro listed a w hfree hr hy hS H
    refine ⟨fun h => (by rw [h] at hr; cases hr), fun j hj => ?_⟩
    by_cases hji : j = i
    · subst hji; exact hy.wpOp hi hS ⟨fun _ h => h, H⟩
    · have h1 := H.2 j (ready_mono hj hji)
      have hlj := notlate listed j hr hj
      obtain ⟨hjun, oj, hoj, hall⟩ := mem_ready.1 hj
      have hnot : ∀ e ∈ oj.after, Region.binds md e = true → e.on ≠ i := fun e he hb heq => by
        have h1 := hall e he hb
        have h0 := (mem_ready.1 hr).1
        rw [heq] at h1
        rcases Nat.lt_or_ge i listed.size with h' | h'
        · simp [h'] at h0 h1; rw [h0] at h1; cases h1
        · simp [Array.getElem?_eq_none h'] at h1
      have h2 := wpOp_putIf hoj (hfree j oj hoj hji hjun hnot) (fun cs b => hsel i oi cs b hi) (fun cs b => hsel j oj cs b hoj) hQ hy h1
      have hfree' : ∀ k ok, ops[k]? = some ok → k ≠ i → (listed.setIfInBounds j true).getD k true = false →
          (∀ e ∈ ok.after, Region.binds md e = true → e.on ≠ i) → oi.apart ops ok = true := fun k ok hk hki hun hno => by
        refine hfree k ok hk hki ?_ hno
        by_cases hjk : j = k
        · subst hjk; exact hjun
        · rw [getD_set_ne true hjk] at hun; exact hun
      refine wpOp_mono (fun a' w' h3 => ⟨fun _ _ => h3.2.1 hlj hS, ih (listed.setIfInBounds j true) a' w' hfree' (ready_mono hr (Ne.symm hji)) h3.1 (h3.2.1 hlj hS) ?_⟩) h2
      rw [Array.setIfInBounds_comm _ _ hji]
      exact h3.2.2
/-- An operation that yields its value in whatever world may be taken first. -/
theorem anyS_free {i : Nat} {oi : Oper} {v : Value} (hi : ops[i]? = some oi) (hsel : ∀ (j : Nat) (o : Oper) cs b, ops[j]? = some o → o.op ≠ .select cs b)
    (hQ : ∀ c a w, Q (.panic c) (a.put oi.dst v) w → Q (.panic c) a w) :
    ∀ (fuel : Nat) (listed : Array Bool) (a : Act) (w : World),
      (∀ j oj, ops[j]? = some oj → j ≠ i → listed.getD j true = false → (∀ e ∈ oj.after, Region.binds md e = true → e.on ≠ i) → oi.apart ops oj = true) →
      i ∈ Region.ready md ops listed → YieldsIf P ops (fun _ => True) oi v a →
      anyS P md ops Q S late fuel (listed.setIfInBounds i true) (a.put oi.dst v) w → anyS P md ops Q S late (fuel + 1) listed a w := by
  intro fuel
  induction fuel with
  | zero =>
    intro listed a w _ hr hy H
    refine ⟨fun h => (by rw [h] at hr; cases hr), fun j hj => ?_⟩
    by_cases hji : j = i
    · subst hji; exact hy.wpOp hi trivial ⟨fun _ h => h, H⟩
    · have := ready_mono hj hji
      rw [H.1] at this
      cases this
  | succ fuel ih =>
    intro listed a w hfree hr hy H
    refine ⟨fun h => (by rw [h] at hr; cases hr), fun j hj => ?_⟩
    by_cases hji : j = i
    · subst hji; exact hy.wpOp hi trivial ⟨fun _ h => h, H⟩
    · have h1 := H.2 j (ready_mono hj hji)
      obtain ⟨hjun, oj, hoj, hall⟩ := mem_ready.1 hj
      have hnot : ∀ e ∈ oj.after, Region.binds md e = true → e.on ≠ i := fun e he hb heq => by
        have h1 := hall e he hb
        have h0 := (mem_ready.1 hr).1
        rw [heq] at h1
        rcases Nat.lt_or_ge i listed.size with h' | h'
        · simp [h'] at h0 h1; rw [h0] at h1; cases h1
        · simp [Array.getElem?_eq_none h'] at h1
      have h2 := wpOp_putIf hoj (hfree j oj hoj hji hjun hnot) (fun cs b => hsel i oi cs b hi) (fun cs b => hsel j oj cs b hoj) hQ hy h1
      have hfree' : ∀ k ok, ops[k]? = some ok → k ≠ i → (listed.setIfInBounds j true).getD k true = false →
          (∀ e ∈ ok.after, Region.binds md e = true → e.on ≠ i) → oi.apart ops ok = true := fun k ok hk hki hun hno => by
        refine hfree k ok hk hki ?_ hno
        by_cases hjk : j = k
        · subst hjk; exact hjun
        · rw [getD_set_ne true hjk] at hun; exact hun
      refine wpOp_mono (fun a' w' h3 => ⟨h3.2.1, ih (listed.setIfInBounds j true) a' w' hfree' (ready_mono hr (Ne.symm hji)) h3.1 ?_⟩) h2
      rw [Array.setIfInBounds_comm _ _ hji]
      exact h3.2.2

def setAll (l : List Nat) (b : Array Bool) : Array Bool := l.foldl (fun b i => b.setIfInBounds i true) b
/-- The front may be taken so. -/
def frontB (md : Region.Mode) (ops : Array Oper) : List Nat → Array Bool → Bool
  | [], _ => true
  | i :: l, b => Region.free md ops b i && (Region.ready md ops b).contains i && frontB md ops l (b.setIfInBounds i true)
/-- The tail has one order. -/
def tailB (md : Region.Mode) (ops : Array Oper) : List Nat → Array Bool → Bool
  | [], b => Region.ready md ops b == []
  | i :: l, b => Region.ready md ops b == [i] && tailB md ops l (b.setIfInBounds i true)
def plainB (ops : Array Oper) (i : Nat) : Bool := match ops[i]? with
  | some o => o.guard.isNone
  | none => false
def opAt (l : List Oper) (i : Nat) : Oper := l.getD i default
theorem opAt_of {l : List Oper} {i : Nat} (h : plainB l.toArray i = true) : l.toArray[i]? = some (opAt l i) ∧ (opAt l i).guard = none := by
  unfold plainB at h
  cases ho : l.toArray[i]? with
  | none => rw [ho] at h; cases h
  | some o =>
    rw [ho] at h
    have : opAt l i = o := by
      unfold opAt
      rw [List.getD_eq_getElem?_getD]
      rw [List.getElem?_toArray] at ho
      rw [ho]; rfl
    rw [this]
    exact ⟨rfl, by simpa using h⟩

/-- What reads, in order; a hot one under S. -/
def frontO (P : Program) (S : World → Prop) (K : Act → Prop) : List (Bool × Oper) → Act → Prop
  | [], a => K a
  | (hot, o) :: r, a => ∃ v, (∀ w, (hot = true → S w) → (execOp a.eval o).run P w = .ok (.value v) w) ∧ frontO P S K r (a.put o.dst v)
/-- What comes behind, in order; behind a late one S is not asked. -/
def tailO (P : Program) (Q : Exit → Act → World → Prop) (S : World → Prop) : List (Bool × Oper) → Act → World → Prop
  | [], a, w => Q .normal a w
  | (lt, o) :: r, a, w => o.wp P a w (fun a' w' => (lt = false → S w → S w') ∧ tailO P Q S r a' w') Q ∨ (o.asks P a w ∧ LetsOut Q)

theorem wanted_plain {o : Oper} {y : Nat → Option Bool} (h : o.guard = none) : Region.wanted o y = true := by simp [Region.wanted, h]

theorem anyS_tail {l : List Oper} : ∀ (T : List Nat) (b : Array Bool) (a : Act) (w : World), tailB md l.toArray T b = true → (∀ i ∈ T, plainB l.toArray i = true) →
    tailO P Q S (T.map fun i => (late i, opAt l i)) a w → anyS P md l.toArray Q S late T.length b a w
  | [], b, a, w, hb, _, h => ⟨by simpa [tailB] using hb, h⟩
  | i :: T, b, a, w, hb, hp, h => by
    simp only [tailB, Bool.and_eq_true, beq_iff_eq] at hb
    refine ⟨fun h0 => (by rw [hb.1] at h0; cases h0), fun j hj => ?_⟩
    rw [hb.1, List.mem_singleton] at hj
    subst hj
    obtain ⟨h1, h2⟩ := opAt_of (hp j List.mem_cons_self)
    unfold wpOp
    rw [h1]
    simp only [wanted_plain h2, if_true]
    exact h.imp (fun h => Oper.wp_mono (fun a' w' h' => ⟨h'.1, anyS_tail T _ a' w' hb.2 (fun k hk => hp k (List.mem_cons_of_mem _ hk)) h'.2⟩) h) id

theorem anyS_front {l : List Oper} (hsel : Region.noSelect l.toArray = true) (hQ : ∀ c a w d v, Q (.panic c) (a.put (some d) v) w → Q (.panic c) a w) (T : List Nat) (hT' : ∀ i ∈ T, plainB l.toArray i = true) (w : World) (hS : S w) (H : Nat → Bool) :
    ∀ (F : List Nat) (b : Array Bool) (a : Act), frontB md l.toArray F b = true → (∀ i ∈ F, plainB l.toArray i = true ∧ (H i = true → late i = false ∧ ∀ j, late j = true → waitsB md l.toArray j i = true)) → tailB md l.toArray T (setAll F b) = true →
      frontO P S (fun a' => tailO P Q S (T.map fun i => (late i, opAt l i)) a' w) (F.map fun i => (H i, opAt l i)) a → anyS P md l.toArray Q S late (F.length + T.length) b a w
  | [], b, a, _, _, hT, h => by
    rw [List.length_nil, Nat.zero_add]
    exact anyS_tail T b a w hT hT' h
  | i :: F, b, a, hF, hl, hT, h => by
    obtain ⟨v, hy, hrest⟩ := h
    obtain ⟨ho, hg⟩ := opAt_of (hl i List.mem_cons_self).1
    simp only [frontB, Bool.and_eq_true] at hF
    have ih := anyS_front hsel hQ T hT' w hS H F (b.setIfInBounds i true) (a.put (opAt l i).dst v) hF.2 (fun j hj => hl j (List.mem_cons_of_mem _ hj)) hT hrest
    have hQ' : ∀ c a w, Q (.panic c) (a.put (opAt l i).dst v) w → Q (.panic c) a w := fun c a w h => by
      cases hd : (opAt l i).dst with
      | none => rw [hd] at h; exact h
      | some d => rw [hd] at h; exact hQ c a w d v h
    rw [List.length_cons, show F.length + 1 + T.length = F.length + T.length + 1 from by omega]
    cases hH : H i with
    | true =>
      have := (hl i List.mem_cons_self).2 hH
      exact anyS_first (late := late) ho (Region.noSelect_spec hsel) this.2 this.1 hQ' (F.length + T.length) b a w (Region.free_spec ho hF.1.1) (by simpa using hF.1.2) (.inl ⟨wanted_plain hg, fun w hw => hy w fun _ => hw⟩) hS ih
    | false =>
      exact anyS_free (late := late) ho (Region.noSelect_spec hsel) hQ' (F.length + T.length) b a w (Region.free_spec ho hF.1.1) (by simpa using hF.1.2) (.inl ⟨wanted_plain hg, fun w _ => hy w fun h => (by rw [hH] at h; cases h)⟩) ih

/-- All that a region's table must say for a front F, its hot ones H, a tail T, the late ones L. -/
def planB (ops : Array Oper) (F H T L : List Nat) : Bool :=
  Region.noSelect ops && frontB .any ops F (Array.replicate ops.size false) && tailB .any ops T (setAll F (Array.replicate ops.size false)) && F.length + T.length == ops.size &&
  F.all (fun i => plainB ops i && (!H.contains i || (!L.contains i && L.all fun j => waitsB .any ops j i))) && T.all (plainB ops)

/-- THE REGION by a plan. -/
theorem wp_region_plan {id : Nat} {l : List Oper} {a : Act} {w : World} (F H T L : List Nat) (S : World → Prop) (hm : P.follows .mixedOrders = true) (hp : planB l.toArray F H T L = true)
    (hQ : ∀ c a w d v, Q (.panic c) (a.put (some d) v) w → Q (.panic c) a w) (hS : S w.drew)
    (h : frontO P S (fun a' => tailO P Q S (T.map fun i => (L.contains i, opAt l i)) a' w.drew) (F.map fun i => (H.contains i, opAt l i)) a) : (Code.region id l.toArray true).wp P Q a w := by
  simp only [planB, Bool.and_eq_true, beq_iff_eq] at hp
  obtain ⟨⟨⟨⟨⟨h1, h2⟩, h3⟩, h4⟩, h5⟩, h6⟩ := hp
  have := anyS_front (md := .any) (late := fun i => L.contains i) h1 hQ T (fun i hi => List.all_eq_true.1 h6 i hi) w.drew hS (fun i => H.contains i) F (Array.replicate l.toArray.size false) a h2 (fun i hi => by
    have := List.all_eq_true.1 h5 i hi
    simp only [Bool.and_eq_true, Bool.not_eq_true', Bool.or_eq_true] at this
    refine ⟨this.1, fun hH => ?_⟩
    rcases this.2 with h | h
    · rw [hH] at h; cases h
    · exact ⟨h.1, fun j hj => List.all_eq_true.1 h.2 j (by simpa using hj)⟩) h3 h
  rw [h4] at this
  exact wp_region_any hm (any_of_anyS _ _ _ _ this)

theorem front_nil {K : Act → Prop} {a : Act} (h : K a) : frontO P S K [] a := h
theorem front_cons {K : Act → Prop} {a : Act} {o : Oper} {r : List (Bool × Oper)} {v : Value} (hy : ∀ w, (execOp a.eval o).run P w = .ok (.value v) w) (h : frontO P S K r (a.put o.dst v)) : frontO P S K ((false, o) :: r) a :=
  ⟨v, fun w _ => hy w, h⟩
theorem front_hot {K : Act → Prop} {a : Act} {o : Oper} {r : List (Bool × Oper)} {v : Value} (hy : ∀ w, S w → (execOp a.eval o).run P w = .ok (.value v) w) (h : frontO P S K r (a.put o.dst v)) : frontO P S K ((true, o) :: r) a :=
  ⟨v, fun w hw => hy w (hw rfl), h⟩
theorem tailO_nil {a : Act} {w : World} : tailO P Q S [] a w = Q .normal a w := rfl
theorem frontO_nil {K : Act → Prop} {a : Act} : frontO P S K [] a = K a := rfl
theorem tail_nil {a : Act} {w : World} (h : Q .normal a w) : tailO P Q S [] a w := h
theorem tail_cons {a : Act} {w : World} {o : Oper} {r : List (Bool × Oper)} (h : ∀ K : Act → World → Prop, (∀ a' w', (S w → S w') → tailO P Q S r a' w' → K a' w') → o.wp P a w K Q) : tailO P Q S ((false, o) :: r) a w :=
  .inl (h _ fun a' w' h1 h2 => ⟨fun _ => h1, h2⟩)
theorem tail_late {a : Act} {w : World} {o : Oper} {r : List (Bool × Oper)} (h : ∀ K : Act → World → Prop, (∀ a' w', tailO P Q S r a' w' → K a' w') → o.wp P a w K Q) : tailO P Q S ((true, o) :: r) a w :=
  .inl (h _ fun a' w' h2 => ⟨fun h => (by cases h), h2⟩)
/-- An operation of the tail by a law on lists of operations (append). -/
theorem tail_list {a : Act} {w : World} {lt : Bool} {o : Oper} {r : List (Bool × Oper)} (hg : o.guard = none) (h : ∀ K : Act → World → Prop, (∀ a' w', (S w → S w') → tailO P Q S r a' w' → K a' w') → wpList P #[] (Exit.then K Q) [o] a w) : tailO P Q S ((lt, o) :: r) a w := by
  have h := h (fun a' w' => (lt = false → S w → S w') ∧ tailO P Q S r a' w') (fun a' w' h1 h2 => ⟨fun _ => h1, h2⟩)
  unfold wpList at h
  rw [if_pos (wanted_plain hg)] at h
  unfold tailO
  exact h
end
end Go.Proofs.Ytpdfcgkeclocoaa
