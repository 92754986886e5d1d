/- A region that draws its order: one obligation for each operation of its tail, under a condition that all keep. -/
import Derived.Test.YtpdfcgkeclocoaaFork
set_option linter.all false
namespace Go.Proofs.Ytpdfcgkeclocoaa
open Go

section
variable {P : Program} {Q : Exit → Act → World → Prop} {S : World → Prop} {J : (Nat → Bool) → (Nat → Value) → World → Prop}

def updB (d : Nat → Bool) (i : Nat) : Nat → Bool := fun j => if j = i then true else d j
def updV (vs : Nat → Value) (i : Nat) (v : Value) : Nat → Value := fun j => if j = i then v else vs j
/-- The frame with what is done. -/
def frmA (l : List Oper) (d : Nat → Bool) (vs : Nat → Value) : List Nat → Act → Act
  | [], a => a
  | i :: T, a => frmA l d vs T (if d i then a.put (opAt l i).dst (vs i) else a)
/-- The frame with all. -/
def fullA (l : List Oper) (vs : Nat → Value) : List Nat → Act → Act
  | [], a => a
  | i :: T, a => fullA l vs T (a.put (opAt l i).dst (vs i))

theorem put_size (a : Act) (d : Option Tmp) (v : Value) : (a.put d v).tmps.size = a.tmps.size := by
  cases d with
  | none => rfl
  | some d => simp [Act.put]
theorem fullA_size (l : List Oper) (vs : Nat → Value) : ∀ (T : List Nat) (a : Act), (fullA l vs T a).tmps.size = a.tmps.size
  | [], _ => rfl
  | i :: T, a => by rw [fullA, fullA_size l vs T, put_size]
theorem fullA_defers (l : List Oper) (vs : Nat → Value) : ∀ (T : List Nat) (a : Act), (fullA l vs T a).defers = a.defers
  | [], _ => rfl
  | i :: T, a => by rw [fullA, fullA_defers l vs T]; cases (opAt l i).dst <;> rfl
theorem frmA_congr (l : List Oper) {d d' : Nat → Bool} {vs vs' : Nat → Value} : ∀ (T : List Nat) (a : Act), (∀ i ∈ T, d i = d' i ∧ vs i = vs' i) → frmA l d vs T a = frmA l d' vs' T a
  | [], _, _ => rfl
  | i :: T, a, h => by
    rw [frmA, frmA, (h i List.mem_cons_self).1, (h i List.mem_cons_self).2, frmA_congr l T _ fun j hj => h j (List.mem_cons_of_mem _ hj)]
theorem frmA_all (l : List Oper) {d : Nat → Bool} (vs : Nat → Value) : ∀ (T : List Nat) (a : Act), (∀ i ∈ T, d i = true) → frmA l d vs T a = fullA l vs T a
  | [], _, _ => rfl
  | i :: T, a, h => by
    rw [frmA, fullA, if_pos (h i List.mem_cons_self), frmA_all l vs T _ fun j hj => h j (List.mem_cons_of_mem _ hj)]
theorem frmA_none (l : List Oper) (vs : Nat → Value) : ∀ (T : List Nat) (a : Act), frmA l (fun _ => false) vs T a = a
  | [], _ => rfl
  | i :: T, a => by rw [frmA]; exact frmA_none l vs T a

def apartD (l : List Oper) (i j : Nat) : Prop := ∀ d, (opAt l i).dst = some d → (opAt l j).dst ≠ some d
theorem frmA_put (l : List Oper) {d : Nat → Bool} {vs : Nat → Value} (x : Option Tmp) (v : Value) : ∀ (T : List Nat) (a : Act), (∀ j ∈ T, ∀ t, x = some t → (opAt l j).dst ≠ some t) → (frmA l d vs T a).put x v = frmA l d vs T (a.put x v)
  | [], _, _ => rfl
  | i :: T, a, h => by
    rw [frmA, frmA, frmA_put l x v T _ fun j hj => h j (List.mem_cons_of_mem _ hj)]
    congr 1
    split
    · rw [Act.put_comm a v (vs i) (h i List.mem_cons_self)]
    · rfl
theorem frmA_step (l : List Oper) {d : Nat → Bool} {vs : Nat → Value} {i : Nat} (v : Value) : ∀ (T : List Nat) (a : Act), T.Nodup → i ∈ T → d i = false → (∀ j ∈ T, j ≠ i → apartD l i j) →
    frmA l (updB d i) (updV vs i v) T a = (frmA l d vs T a).put (opAt l i).dst v
  | [], _, _, h, _, _ => by cases h
  | k :: T, a, hn, hi, hd, ha => by
    rw [List.nodup_cons] at hn
    by_cases e : k = i
    · subst e
      rw [frmA, frmA, show updB d k k = true from by simp [updB], if_pos rfl, show updV vs k v k = v from by simp [updV], hd, if_neg Bool.false_ne_true]
      have hne : ∀ j ∈ T, j ≠ k := fun j hj e => hn.1 (e ▸ hj)
      rw [frmA_congr l T _ (d' := d) (vs' := vs) fun j hj => by simp [updB, updV, hne j hj]]
      rw [← frmA_put l _ v T a fun j hj t ht => ha j (List.mem_cons_of_mem _ hj) (hne j hj) t ht]
    · have hiT : i ∈ T := by
        rcases List.mem_cons.1 hi with h | h
        · exact absurd h.symm e
        · exact h
      rw [frmA, frmA, show updB d i k = d k from by simp [updB, e], show updV vs i v k = vs k from by simp [updV, e]]
      exact frmA_step l v T _ hn.2 hiT hd fun j hj => ha j (List.mem_cons_of_mem _ hj)

/-- Frames of one size that agree at some places. -/
def agree (L : List Tmp) (a b : Act) : Prop := a.tmps.size = b.tmps.size ∧ ∀ t ∈ L, a.tmps[t]? = b.tmps[t]?
theorem agree.put {L : List Tmp} {a b : Act} (h : agree L a b) (x : Option Tmp) (v : Value) : agree L (a.put x v) (b.put x v) := by
  cases x with
  | none => exact h
  | some d =>
    refine ⟨by rw [put_size, put_size]; exact h.1, fun t ht => ?_⟩
    simp only [Act.put, Array.getElem?_setIfInBounds, h.1, h.2 t ht]
theorem agree.far {L : List Tmp} {a b : Act} (h : agree L a b) (x : Option Tmp) (v : Value) (hx : ∀ d, x = some d → d ∉ L) : agree L a (b.put x v) := by
  cases x with
  | none => exact h
  | some d =>
    refine ⟨by rw [put_size]; exact h.1, fun t ht => ?_⟩
    have hne : d ≠ t := fun e => hx d rfl (e ▸ ht)
    simp only [Act.put, Array.getElem?_setIfInBounds_ne hne, h.2 t ht]
theorem agree.frm (l : List Oper) {L : List Tmp} {d : Nat → Bool} {vs : Nat → Value} : ∀ (T : List Nat) (a b : Act), agree L a b → (∀ j ∈ T, d j = false → ∀ t, (opAt l j).dst = some t → t ∉ L) → agree L (frmA l d vs T a) (fullA l vs T b)
  | [], _, _, h, _ => h
  | i :: T, a, b, h, hx => by
    rw [frmA, fullA]
    refine agree.frm l T _ _ ?_ fun j hj => hx j (List.mem_cons_of_mem _ hj)
    cases hd : d i with
    | true => exact h.put _ _
    | false => exact h.far _ _ (hx i List.mem_cons_self hd)
theorem agree.exec {l : List Oper} {o : Oper} {a b : Act} (h : agree (o.looksAt l.toArray) a b) (hs : ∀ cs b, o.op ≠ .select cs b) : execOp a.eval o = execOp b.eval o :=
  execOp_congr o hs fun x hx => by
    cases x with
    | tmp t =>
      have : t ∈ o.looksAt l.toArray := List.mem_append_left _ (List.mem_filterMap.2 ⟨.tmp t, by simpa using hx, rfl⟩)
      simp [Act.eval, h.2 t this]
    | _ => rfl

/-- Does operation i wait for operation j of the region? -/
def depB (l : List Oper) (i j : Nat) : Bool := (opAt l i).after.any fun e => Region.binds .any e && e.on == j
/-- What operation i owes. -/
def StepR (P : Program) (S : World → Prop) (J : (Nat → Bool) → (Nat → Value) → World → Prop) (l : List Oper) (T : List Nat) (a : Act) (i : Nat) : Prop :=
  ∀ d vs w, J d vs w → S w → d i = false → (∀ j, depB l i j = true → T.contains j = true → d j = true) → ∀ (K : Act → World → Prop) (X : Exit → Act → World → Prop),
    (∀ a' v w', (∀ t, (opAt l i).dst = some t → v = a'.tmps.getD t undef) → a'.defers = a.defers → J (updB d i) (updV vs i v) w' → S w' → K a' w') → (opAt l i).wp P (fullA l vs T a) w K X
def stepsR (P : Program) (S : World → Prop) (J : (Nat → Bool) → (Nat → Value) → World → Prop) (l : List Oper) (T : List Nat) (a : Act) : List Nat → Prop
  | [] => True
  | i :: r => StepR P S J l T a i ∧ stepsR P S J l T a r
theorem stepsR_mem {l : List Oper} {T : List Nat} {a : Act} : ∀ {r : List Nat}, stepsR P S J l T a r → ∀ i ∈ r, StepR P S J l T a i
  | [], _, _, h => by cases h
  | k :: r, h, i, hi => by
    rcases List.mem_cons.1 hi with rfl | hi
    · exact h.1
    · exact stepsR_mem h.2 i hi

/-- What the table must say of the tail: plain operations that write different places, each looking only at what it waits for, in an order in which they can come. -/
def tailR (l : List Oper) (T : List Nat) : Bool :=
  T.all (fun i => plainB l.toArray i && (match (opAt l i).dst with | some d => !((opAt l i).looksAt l.toArray).contains d | none => true) && T.all fun j => i == j || ((match (opAt l i).dst with | some d => (opAt l j).dst != some d | none => true) &&
    (match (opAt l j).dst with | some d => !((opAt l i).looksAt l.toArray).contains d || depB l i j | none => true)))
def topoB (l : List Oper) : List Nat → List Nat → Bool
  | _, [] => true
  | pre, i :: r => !pre.contains i && (opAt l i).after.all (fun e => !Region.binds .any e || pre.contains e.on) && topoB l (i :: pre) r
theorem topo_spec (l : List Oper) (p : Nat → Prop) (d : Nat → Bool) : ∀ (r pre : List Nat), topoB l pre r = true → (∀ j ∈ pre, p j) → (∀ i ∈ r, d i = true → p i) → (∀ i ∈ r, d i = true) ∨ ∃ i ∈ r, d i = false ∧ ∀ e ∈ (opAt l i).after, Region.binds .any e = true → p e.on
  | [], _, _, _, _ => .inl fun _ h => by cases h
  | i :: r, pre, h, hp, hr => by
    simp only [topoB, Bool.and_eq_true, Bool.not_eq_true', Array.all_eq_true_iff_forall_mem, Bool.or_eq_true] at h
    cases hd : d i with
    | false =>
      refine .inr ⟨i, List.mem_cons_self, hd, fun e he hb => hp e.on ?_⟩
      rcases h.1.2 e he with h' | h'
      · rw [hb] at h'; cases h'
      · simpa using h'
    | true =>
      rcases topo_spec l p d r (i :: pre) h.2 (fun j hj => by
        rcases List.mem_cons.1 hj with rfl | hj
        · exact hr j List.mem_cons_self hd
        · exact hp j hj) (fun j hj => hr j (List.mem_cons_of_mem _ hj)) with h' | ⟨k, hk, h1, h2⟩
      · refine .inl fun j hj => ?_
        rcases List.mem_cons.1 hj with rfl | hj
        · exact hd
        · exact h' j hj
      · exact .inr ⟨k, List.mem_cons_of_mem _ hk, h1, h2⟩
theorem topo_nodup (l : List Oper) : ∀ (r pre : List Nat), topoB l pre r = true → r.Nodup ∧ ∀ i ∈ r, i ∉ pre
  | [], _, _ => ⟨List.nodup_nil, fun _ h => by cases h⟩
  | i :: r, pre, h => by
    simp only [topoB, Bool.and_eq_true, Bool.not_eq_true'] at h
    have ih := topo_nodup l r (i :: pre) h.2
    refine ⟨List.nodup_cons.2 ⟨fun hi => ih.2 i hi List.mem_cons_self, ih.1⟩, fun k hk => ?_⟩
    rcases List.mem_cons.1 hk with rfl | hk
    · simpa using h.1.1
    · exact fun hp => ih.2 k hk (List.mem_cons_of_mem _ hp)

def countT (d : Nat → Bool) (T : List Nat) : Nat := (T.filter fun i => !d i).length
theorem countT_zero {d : Nat → Bool} {T : List Nat} (h : countT d T = 0) : ∀ i ∈ T, d i = true := fun i hi => by
  unfold countT at h
  have := List.eq_nil_of_length_eq_zero h
  rw [List.filter_eq_nil_iff] at this
  simpa using this i hi
theorem countT_step {d : Nat → Bool} {i : Nat} : ∀ {T : List Nat}, T.Nodup → i ∈ T → d i = false → countT d T = countT (updB d i) T + 1
  | [], _, h, _ => by cases h
  | k :: T, hn, hi, hd => by
    rw [List.nodup_cons] at hn
    unfold countT
    by_cases e : k = i
    · subst e
      have hne : ∀ j ∈ T, j ≠ k := fun j hj e => hn.1 (e ▸ hj)
      have : T.filter (fun i => !updB d k i) = T.filter fun i => !d i := List.filter_congr fun j hj => by simp [updB, hne j hj]
      rw [List.filter_cons, List.filter_cons, this]
      simp [hd, updB]
    · have hiT : i ∈ T := by
        rcases List.mem_cons.1 hi with h | h
        · exact absurd h.symm e
        · exact h
      have ih := countT_step hn.2 hiT hd
      unfold countT at ih
      have hk : updB d i k = d k := by simp [updB, e]
      rw [List.filter_cons, List.filter_cons, hk]
      split
      · simp [ih]
      · exact ih

theorem wp_frm {l : List Oper} {T : List Nat} {a : Act} {o : Oper} {d : Nat → Bool} {vs : Nat → Value} {w : World} {G : Value → World → Prop}
    (he : execOp (frmA l d vs T a).eval o = execOp (fullA l vs T a).eval o) (hb : ∀ t, o.dst = some t → t < a.tmps.size)
    (h0 : ∀ (K : Act → World → Prop) (X : Exit → Act → World → Prop), (∀ a' v w', (∀ t, o.dst = some t → v = a'.tmps.getD t undef) → a'.defers = a.defers → G v w' → K a' w') → o.wp P (fullA l vs T a) w K X) :
    o.wp P (frmA l d vs T a) w (fun a' w' => ∃ v, a' = (frmA l d vs T a).put o.dst v ∧ G v w') Q := by
  have h := h0 (fun a' w' => a'.defers = (fullA l vs T a).defers ∧ ∃ v, (∀ t, o.dst = some t → v = a'.tmps.getD t undef) ∧ G v w') (fun _ _ _ => False) (fun a' v w' h1 h2 hG => ⟨by rw [fullA_defers]; exact h2, v, h1, hG⟩)
  clear h0
  have key : ∀ (u : Value) (w' : World), (((fullA l vs T a).put o.dst u).defers = (fullA l vs T a).defers ∧ ∃ v, (∀ t, o.dst = some t → v = ((fullA l vs T a).put o.dst u).tmps.getD t undef) ∧ G v w') → ∃ v, (frmA l d vs T a).put o.dst u = (frmA l d vs T a).put o.dst v ∧ G v w' := fun u w' ⟨_, v, hv, hG⟩ => by
    refine ⟨v, ?_, hG⟩
    cases hd : o.dst with
    | none => rfl
    | some t =>
      have hb' := hb t hd
      have hlt : t < (fullA l vs T a).tmps.size := by rw [fullA_size]; exact hb'
      have := hv t hd
      rw [hd] at this
      simp [Act.put, hlt] at this
      rw [this]
  unfold Oper.wp at *
  rw [he]
  generalize (execOp (fullA l vs T a).eval o).run P w = r at *
  cases r with
  | ok n w' =>
    cases n <;> simp only [Oper.upon] at h ⊢
    case value u => exact key u w' h
    case skip => exact key _ w' h
    case defer q =>
      have := congrArg List.length h.1
      cases hd : o.dst <;> simp [Act.put, hd] at this
    case enter f args =>
      refine Calls.mono h fun e w'' he => ?_
      cases e with
      | returned u => exact key u w'' he
      | panicked c => exact he.elim
      | outgrown => obtain ⟨_, _, h⟩ := he; exact h.elim
    case row row args => exact Rows.mono h fun u w'' he => key u w'' he
  | halt x w' =>
    cases x <;> simp only [Oper.upon] at h

theorem tailR_spec {l : List Oper} {T : List Nat} (h : tailR l T = true) : ∀ i ∈ T, plainB l.toArray i = true ∧ (∀ d, (opAt l i).dst = some d → d ∉ (opAt l i).looksAt l.toArray) ∧ ∀ j ∈ T, j ≠ i → apartD l i j ∧ ∀ d, (opAt l j).dst = some d → d ∈ (opAt l i).looksAt l.toArray → depB l i j = true := fun i hi => by
  simp only [tailR, List.all_eq_true, Bool.and_eq_true, Bool.or_eq_true, beq_iff_eq] at h
  refine ⟨(h i hi).1.1, fun d hd hm => ?_, fun j hj hne => ?_⟩
  · have h1 := (h i hi).1.2
    rw [hd] at h1
    have : ((opAt l i).looksAt l.toArray).contains d = true := by simpa using hm
    simp only [this] at h1
    cases h1
  rcases (h i hi).2 j hj with e | ⟨h1, h2⟩
  · exact absurd e.symm hne
  · refine ⟨fun d hd => ?_, fun d hd hm => ?_⟩
    · rw [hd] at h1
      simpa using h1
    · rw [hd] at h2
      simp only [Bool.or_eq_true, Bool.not_eq_true'] at h2
      rcases h2 with h2 | h2
      · have : ((opAt l i).looksAt l.toArray).contains d = true := by simpa using hm
        rw [this] at h2; cases h2
      · exact h2

/-- Operation i waits, through others, for operation t. -/
def reachB (l : List Oper) : Nat → Nat → Nat → Bool
  | 0, _, _ => false
  | f + 1, i, t => (opAt l i).after.any fun e => Region.binds .any e && (e.on == t || reachB l f e.on t)
def closedL (l : List Oper) (listed : Array Bool) : Prop := ∀ i, i < l.length → listed.getD i false = true → ∀ e ∈ (opAt l i).after, Region.binds .any e = true → e.on < l.length ∧ listed.getD e.on false = true
theorem reach_listed {l : List Oper} {listed : Array Bool} (hc : closedL l listed) : ∀ (f i t : Nat), reachB l f i t = true → (∀ e ∈ (opAt l i).after, Region.binds .any e = true → e.on < l.length ∧ listed.getD e.on false = true) → listed.getD t false = true
  | 0, _, _, h, _ => by cases h
  | f + 1, i, t, h, hi => by
    unfold reachB at h
    rw [Array.any_eq_true'] at h
    obtain ⟨e, he, h⟩ := h
    simp only [Bool.and_eq_true, Bool.or_eq_true, beq_iff_eq] at h
    have hl := hi e he h.1
    rcases h.2 with h2 | h2
    · rw [← h2]; exact hl.2
    · exact reach_listed hc f e.on t h2 (hc e.on hl.1 hl.2)

theorem anyS_rely {l : List Oper} {T G : List Nat} {a : Act} (C : Array Bool) (hsel : Region.noSelect l.toArray = true) (ht : tailR l T = true) (htp : topoB l (((List.range l.length).filter fun i => !T.contains i && !G.contains i)) T = true) (hlt : ∀ i ∈ T, i < l.length)
    (hsz : ∀ i ∈ T, ∀ t, (opAt l i).dst = some t → t < a.tmps.size) (hst : stepsR P S J l T a T)
    (hC : C.size = l.length) (hCG : ∀ i, i < l.length → (C.getD i true = false ↔ i ∈ G)) (hdis : ∀ i ∈ T, i ∉ G) (hGT : ∀ g ∈ G, plainB l.toArray g = true ∧ ∀ t ∈ T, reachB l l.length g t = true) (hin : ∀ i, i < l.length → ∀ e ∈ (opAt l i).after, Region.binds .any e = true → e.on < l.length)
    (hend : ∀ d vs w, (∀ i, T.contains i = true → d i = true) → J d vs w → S w → anyS P .any l.toArray Q S (fun _ => false) G.length C (fullA l vs T a) w) :
    ∀ (n : Nat) (d : Nat → Bool) (vs : Nat → Value) (listed : Array Bool) (w : World), countT d T = n → (∀ i, i < l.length → (listed.getD i true = false ↔ (i ∈ T ∧ d i = false) ∨ i ∈ G)) → listed.size = l.length → closedL l listed → J d vs w → S w →
      anyS P .any l.toArray Q S (fun _ => false) (n + G.length) listed (frmA l d vs T a) w := by
  have hread : ∀ (d : Nat → Bool) (listed : Array Bool), (∀ i, i < l.length → (listed.getD i true = false ↔ (i ∈ T ∧ d i = false) ∨ i ∈ G)) → listed.size = l.length → ∀ j, j < l.length → (listed.getD j false = true ↔ ¬ ((j ∈ T ∧ d j = false) ∨ j ∈ G)) := fun d listed hl hs j hj => by
    rw [← hl j hj]
    have hj' : j < listed.size := by omega
    simp [hj']
  have hdep : ∀ i, i ∈ T → ∃ o, l.toArray[i]? = some o ∧ o = opAt l i ∧ (opAt l i).guard = none := fun i hi => by
    have := opAt_of (tailR_spec ht i hi).1
    exact ⟨_, this.1, rfl, this.2⟩
  have hnil : ∀ (d : Nat → Bool) (listed : Array Bool), (∀ i, i < l.length → (listed.getD i true = false ↔ (i ∈ T ∧ d i = false) ∨ i ∈ G)) → listed.size = l.length → Region.ready .any l.toArray listed = [] → ∀ i ∈ T, d i = true := fun d listed hl hs h0 => by
    rcases topo_spec l (fun j => listed.getD j false = true) d T _ htp (fun j hj => by
      simp only [List.mem_filter, List.mem_range, Bool.and_eq_true, Bool.not_eq_true', List.contains_eq_mem, decide_eq_false_iff_not] at hj
      exact (hread d listed hl hs j hj.1).2 fun h => h.elim (fun h => hj.2.1 h.1) (fun h => hj.2.2 h)) (fun i hi hd => (hread d listed hl hs i (hlt i hi)).2 fun h => by
        rcases h with h | h
        · rw [hd] at h; exact absurd h.2 (by simp)
        · exact hdis i hi h) with h | ⟨i, hi, hdi, hdeps⟩
    · exact h
    · exfalso
      have : i ∈ Region.ready .any l.toArray listed := by
        obtain ⟨o, ho, rfl, hg⟩ := hdep i hi
        exact mem_ready.2 ⟨(hl i (hlt i hi)).2 (.inl ⟨hi, hdi⟩), opAt l i, ho, hdeps⟩
      rw [h0] at this
      cases this
  intro n
  induction n with
  | zero =>
    intro d vs listed w hc hl hs hcl hJ hS
    have hall := countT_zero hc
    have hLC : listed = C := by
      apply Array.ext (by rw [hs, hC])
      intro i h1 h2
      have hi : i < l.length := by omega
      have e1 := hl i hi
      have e2 := hCG i hi
      rw [Array.getD_eq_getD_getElem?, Array.getElem?_eq_getElem h1] at e1
      rw [Array.getD_eq_getD_getElem?, Array.getElem?_eq_getElem h2] at e2
      simp only [Option.getD_some] at e1 e2
      have e3 : listed[i] = false ↔ C[i] = false := by
        rw [e1, e2]
        exact ⟨fun h => h.elim (fun h => by rw [hall i h.1] at h; cases h.2) id, .inr⟩
      cases h3 : listed[i] <;> cases h4 : C[i] <;> simp_all
    rw [Nat.zero_add, frmA_all l vs T a hall, hLC]
    exact hend d vs w (fun i hi => hall i (by simpa using hi)) hJ hS
  | succ n ih =>
    intro d vs listed w hc hl hs hcl hJ hS
    rw [show n + 1 + G.length = (n + G.length) + 1 from by omega]
    have hne : ¬ ∀ i ∈ T, d i = true := fun hall => by
      have : countT d T = 0 := by
        unfold countT
        rw [List.length_eq_zero_iff, List.filter_eq_nil_iff]
        intro i hi
        simp [hall i hi]
      omega
    refine ⟨fun h0 => absurd (hnil d listed hl hs h0) hne, fun i hi => ?_⟩
    obtain ⟨h1, o, ho, hafter⟩ := mem_ready.1 hi
    have hil : i < l.length := by have := (Array.getElem?_eq_some_iff.1 ho).1; simpa using this
    rcases (hl i hil).1 h1 with ⟨hiT, hdi⟩ | hiG
    · obtain ⟨o', ho', rfl, hg⟩ := hdep i hiT
      obtain rfl : opAt l i = o := by rw [ho] at ho'; exact (Option.some.inj ho').symm
      have hdeps : ∀ j, depB l i j = true → T.contains j = true → d j = true := fun j hj hjT => by
        unfold depB at hj
        rw [Array.any_eq_true'] at hj
        obtain ⟨e, he, hb⟩ := hj
        simp only [Bool.and_eq_true, beq_iff_eq] at hb
        have h2 := hafter e he hb.1
        rw [hb.2] at h2
        have hjT' : j ∈ T := by simpa using hjT
        have := (hread d listed hl hs j (hlt j hjT')).1 h2
        cases hdj : d j with
        | true => rfl
        | false => exact absurd (.inl ⟨hjT', hdj⟩) this
      have hspec := (tailR_spec ht i hiT).2.2
      have hex : execOp (frmA l d vs T a).eval (opAt l i) = execOp (fullA l vs T a).eval (opAt l i) := by
        refine agree.exec (l := l) (agree.frm l T a a ⟨rfl, fun _ _ => rfl⟩ fun j hj hdj t ht' hm => ?_) (Region.noSelect_spec hsel i _ · · ho)
        by_cases e : j = i
        · subst e
          exact (tailR_spec ht j hj).2.1 t ht' hm
        · have := hdeps j ((hspec j hj e).2 t ht' hm) (by simpa using hj)
          rw [hdj] at this; cases this
      unfold wpOp
      rw [ho]
      simp only [wanted_plain hg, if_true]
      refine .inl ?_
      have hstep := stepsR_mem hst i hiT d vs w hJ hS hdi hdeps
      refine Oper.wp_mono (fun a' w' h' => ?_) (wp_frm (G := fun v w' => J (updB d i) (updV vs i v) w' ∧ S w') hex (hsz i hiT) fun K X hK => hstep K X fun a' v w' h1 h2 h3 h4 => hK a' v w' h1 h2 ⟨h3, h4⟩)
      obtain ⟨v, rfl, hJ', hS'⟩ := h'
      refine ⟨fun _ _ => hS', ?_⟩
      rw [← frmA_step l v T a (topo_nodup l T _ htp).1 hiT hdi fun j hj hne => (hspec j hj hne).1]
      refine ih (updB d i) (updV vs i v) _ w' ?_ ?_ (by simpa using hs) ?_ hJ' hS'
      · have := countT_step (topo_nodup l T _ htp).1 hiT hdi
        omega
      · intro j hj
        by_cases e : i = j
        · subst e
          have hi' : i < listed.size := by rw [hs]; exact hil
          simp [hi', updB, hdis i hiT]
        · rw [getD_set_ne true e, hl j hj]
          simp [updB, show ¬ j = i from fun h => e h.symm]
      · intro j hj hlj e he hb
        refine ⟨hin j hj e he hb, ?_⟩
        by_cases e' : i = j
        · subst e'
          exact getD_set_true (hafter e he hb)
        · rw [getD_set_ne false e'] at hlj
          exact getD_set_true (hcl j hj hlj e he hb).2
    · exfalso
      have hpg := opAt_of (hGT i hiG).1
      obtain rfl : opAt l i = o := by have := hpg.1; rw [ho] at this; exact (Option.some.inj this).symm
      refine hne fun t ht' => ?_
      have := reach_listed hcl l.length i t ((hGT i hiG).2 t ht') fun e he hb => ⟨hin i hil e he hb, hafter e he hb⟩
      have := (hread d listed hl hs t (hlt t ht')).1 this
      cases hdt : d t with
      | true => rfl
      | false => exact absurd (.inl ⟨ht', hdt⟩) this

def dstB (l : List Oper) (T : List Nat) (n : Nat) : Bool := T.all fun i => match (opAt l i).dst with | some t => decide (t < n) | none => true
theorem dstB_spec {l : List Oper} {T : List Nat} {n : Nat} (h : dstB l T n = true) : ∀ i ∈ T, ∀ t, (opAt l i).dst = some t → t < n := fun i hi t ht => by
  have := List.all_eq_true.1 h i hi
  rw [ht] at this
  simpa using this
/-- All that a region's table must say. -/
def relyB (l : List Oper) (F T G : List Nat) : Bool :=
  let b := setAll F (Array.replicate l.length false)
  let c := setAll T b
  Region.noSelect l.toArray && frontB .any l.toArray F (Array.replicate l.length false) && tailR l T && topoB l ((List.range l.length).filter fun i => !T.contains i && !G.contains i) T &&
  T.all (fun i => decide (i < l.length)) && (List.range l.length).all (fun i => (b.getD i true == false) == (T.contains i || G.contains i)) && (List.range l.length).all (fun i => (c.getD i true == false) == G.contains i) &&
  F.length + (T.length + G.length) == l.length && F.all (plainB l.toArray) && T.all (fun i => !G.contains i) && G.all (fun g => plainB l.toArray g && T.all fun t => reachB l l.length g t) &&
  (List.range l.length).all (fun i => (opAt l i).after.all fun e => !Region.binds .any e || decide (e.on < l.length)) && (List.range l.length).all (fun i => (T.contains i || G.contains i) || (opAt l i).after.all fun e => !Region.binds .any e || b.getD e.on false) &&
  frontB .any l.toArray G c && Region.ready .any l.toArray (setAll G c) == []

theorem setAll_size : ∀ (F : List Nat) (b : Array Bool), (setAll F b).size = b.size
  | [], _ => rfl
  | i :: F, b => by
    show (setAll F (b.setIfInBounds i true)).size = _
    rw [setAll_size F, Array.size_setIfInBounds]

/-- What is owed behind the front. -/
structure RelyK (P : Program) (Q : Exit → Act → World → Prop) (S : World → Prop) (J : (Nat → Bool) → (Nat → Value) → World → Prop) (l : List Oper) (T G : List Nat) (a : Act) (w : World) : Prop where
  init : J (fun _ => false) (fun _ => undef) w
  size : dstB l T a.tmps.size = true
  steps : stepsR P S J l T a T
  done : ∀ d vs w', (∀ i, T.contains i = true → d i = true) → J d vs w' → S w' → frontO P S (fun a' => Q .normal a' w') (G.map fun i => (false, opAt l i)) (fullA l vs T a)
/-- THE REGION, its front in order, its tail in whatever order, what only reckons behind it. -/
theorem wp_region_rely {id : Nat} {l : List Oper} {a : Act} {w : World} (F H T G : List Nat) (S : World → Prop) (J : (Nat → Bool) → (Nat → Value) → World → Prop) (hm : P.follows .mixedOrders = true) (hp : relyB l F T G = true)
    (hQ : ∀ c a w d v, Q (.panic c) (a.put (some d) v) w → Q (.panic c) a w) (hS : S w.drew)
    (h : frontO P S (fun a' => RelyK P Q S J l T G a' w.drew) (F.map fun i => (H.contains i, opAt l i)) a) : (Code.region id l.toArray true).wp P Q a w := by
  simp only [relyB, Bool.and_eq_true, beq_iff_eq] at hp
  obtain ⟨⟨⟨⟨⟨⟨⟨⟨⟨⟨⟨⟨⟨⟨h1, h2⟩, h3⟩, h4⟩, h5⟩, h6⟩, h6c⟩, h7⟩, h8⟩, h9⟩, h10⟩, h11⟩, h12⟩, h13⟩, h14⟩ := hp
  have hlt : ∀ i ∈ T, i < l.length := fun i hi => by simpa using List.all_eq_true.1 h5 i hi
  have hin : ∀ i, i < l.length → ∀ e ∈ (opAt l i).after, Region.binds .any e = true → e.on < l.length := fun i hi e he hb => by
    have := Array.all_eq_true_iff_forall_mem.1 (List.all_eq_true.1 h11 i (List.mem_range.2 hi)) e he
    rw [hb] at this
    simpa using this
  have hbs : (setAll F (Array.replicate l.length false)).size = l.length := by rw [setAll_size]; simp
  have hcs : (setAll T (setAll F (Array.replicate l.length false))).size = l.length := by rw [setAll_size, hbs]
  have := anyS_front2 (md := .any) (late := fun _ => false) h1 hQ (T.length + G.length) _ w.drew hS (fun i => H.contains i) F (Array.replicate l.toArray.size false) a (by simpa using h2) (fun i hi => ⟨List.all_eq_true.1 h8 i hi, fun _ => ⟨rfl, fun j hj => by cases hj⟩⟩) (fun a' hK => ?_) h
  · rw [h7] at this
    exact wp_region_any hm (any_of_anyS _ _ _ _ (by simpa using this))
  · have hb := anyS_rely (S := S) (J := J) (Q := Q) (T := T) (G := G) (a := a') (setAll T (setAll F (Array.replicate l.length false))) h1 h3 h4 hlt (dstB_spec hK.size) hK.steps hcs (fun i hi => by
        have := List.all_eq_true.1 h6c i (List.mem_range.2 hi)
        simp only [beq_iff_eq] at this
        constructor
        · intro h0
          rw [h0] at this
          simpa using this.symm
        · intro hiG
          rw [show G.contains i = true from by simpa using hiG] at this
          simpa using this) (fun i hi hG => by
        have := List.all_eq_true.1 h9 i hi
        simp [hG] at this) (fun g hg => by
        have := List.all_eq_true.1 h10 g hg
        simp only [Bool.and_eq_true, List.all_eq_true] at this
        exact this) hin (fun d vs w' hd hJ hS' => by
        have hf := hK.done d vs w' hd hJ hS'
        have := anyS_front2 (md := .any) (late := fun _ => false) (Q := Q) (S := S) h1 hQ 0 _ w' hS' (fun _ => false) G _ _ h13 (fun i hi => ⟨by
          have := List.all_eq_true.1 h10 i hi
          simp only [Bool.and_eq_true] at this
          exact this.1, fun h => by cases h⟩) (fun a'' h => ⟨h14, h⟩) hf
        simpa using this) T.length (fun _ => false) (fun _ => undef) (setAll F (Array.replicate l.length false)) w.drew (by simp [countT]) (fun i hi => by
        have := List.all_eq_true.1 h6 i (List.mem_range.2 hi)
        simp only [beq_iff_eq] at this
        simp only [and_true]
        constructor
        · intro h0
          rw [h0] at this
          simpa using this.symm
        · intro hiT
          have h' : (T.contains i || G.contains i) = true := by simpa using hiT
          rw [h'] at this
          simpa using this) hbs (fun i hi hli e he hb => ⟨hin i hi e he hb, by
        have h0 := List.all_eq_true.1 h12 i (List.mem_range.2 hi)
        have h00 := List.all_eq_true.1 h6 i (List.mem_range.2 hi)
        have hi' : i < (setAll F (Array.replicate l.length false)).size := by rw [hbs]; exact hi
        rw [Array.getD_eq_getD_getElem?, Array.getElem?_eq_getElem hi'] at hli h00
        simp only [Option.getD_some] at hli h00
        rw [hli] at h00
        have h' : (T.contains i || G.contains i) = false := by simpa using h00
        rw [h', Bool.false_or] at h0
        have := Array.all_eq_true_iff_forall_mem.1 h0 e he
        rw [hb] at this
        simpa using this⟩) hK.init hS
    rw [frmA_none] at hb
    simpa using hb
theorem Oper.wp_noQ {o : Oper} {a : Act} {w : World} {K : Act → World → Prop} (h : o.wp P a w (wpList P #[] (Exit.then K fun _ _ _ => False) []) (Exit.then K fun _ _ _ => False)) : o.wp P a w K (fun _ _ _ => False) := h
theorem wp_noX {o : Oper} {a : Act} {w : World} {K : Act → World → Prop} {X : Exit → Act → World → Prop} (h : o.wp P a w K (fun _ _ _ => False)) : o.wp P a w K X := by
  unfold Oper.wp at *
  generalize (execOp a.eval o).run P w = r at *
  cases r with
  | ok n w' =>
    cases n <;> simp only [Oper.upon] at h ⊢ <;> first
      | exact h
      | (refine Calls.mono h fun e w'' he => ?_
         cases e with
         | returned u => exact he
         | panicked c => exact he.elim
         | outgrown => obtain ⟨_, _, h⟩ := he; exact h.elim)
  | halt x w' => cases x <;> simp only [Oper.upon] at h
/-- What an operation owes, by a law on lists of operations (append). -/
theorem step_list {l : List Oper} {T : List Nat} {a : Act} {i : Nat} (hg : (opAt l i).guard.isNone = true)
    (h : ∀ d vs w, J d vs w → S w → d i = false → (∀ j, depB l i j = true → T.contains j = true → d j = true) → ∀ (K : Act → World → Prop) (X : Exit → Act → World → Prop),
      (∀ a' v w', (∀ t, (opAt l i).dst = some t → v = a'.tmps.getD t undef) → a'.defers = a.defers → J (updB d i) (updV vs i v) w' → S w' → K a' w') → wpList P #[] (Exit.then K X) [opAt l i] (fullA l vs T a) w) : StepR P S J l T a i := by
  intro d vs w hJ hS hd hdep K X hK
  have h1 := h d vs w hJ hS hd hdep K (fun _ _ _ => False) hK
  unfold wpList at h1
  rw [if_pos (wanted_plain (by simpa using hg))] at h1
  rcases h1 with h1 | ⟨_, _, _, h1⟩
  · exact wp_noX (Oper.wp_noQ h1)
  · exact h1.elim
end
end Go.Proofs.Ytpdfcgkeclocoaa
