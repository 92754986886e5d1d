import Derived.Test.YtpdfcgkeclocoaaGF
/- Elimination over GF(256): rows with what stands beside them; plain. -/
set_option linter.all false
namespace Go.Proofs.Ytpdfcgkeclocoaa.GF

abbrev Row := List UInt8
def zipXor (r s : Row) : Row := List.zipWith (· ^^^ ·) r s
def scale (c : UInt8) (r : Row) : Row := r.map (times c)
def sumN : Nat → (Nat → UInt8) → UInt8
  | 0, _ => 0
  | n + 1, f => sumN n f ^^^ f n
def at0 (r : Row) (i : Nat) : UInt8 := r.getD i 0
def dot (w : Nat) (r : Row) (x : Nat → UInt8) : UInt8 := sumN w (fun j => times (at0 r j) (x j))

theorem xor4 (a b c d : UInt8) : (a ^^^ b) ^^^ (c ^^^ d) = (a ^^^ c) ^^^ (b ^^^ d) := by
  rw [UInt8.xor_assoc, UInt8.xor_assoc]
  congr 1
  rw [← UInt8.xor_assoc, UInt8.xor_comm b, UInt8.xor_assoc]
theorem sumN_congr {n : Nat} {f g : Nat → UInt8} (h : ∀ j, j < n → f j = g j) : sumN n f = sumN n g := by
  induction n with
  | zero => rfl
  | succ n ih => unfold sumN; rw [ih (fun j hj => h j (by omega)), h n (by omega)]
theorem sumN_xor (n : Nat) (f g : Nat → UInt8) : sumN n (fun j => f j ^^^ g j) = sumN n f ^^^ sumN n g := by
  induction n with
  | zero => show (0 : UInt8) = 0 ^^^ 0; decide
  | succ n ih => unfold sumN; rw [ih, xor4]
theorem sumN_scale (n : Nat) (c : UInt8) (f : Nat → UInt8) : sumN n (fun j => times c (f j)) = times c (sumN n f) := by
  induction n with
  | zero => exact (times_zero_right c).symm
  | succ n ih => unfold sumN; rw [ih, times_add_right]
theorem sumN_zero (n : Nat) (f : Nat → UInt8) (h : ∀ j, j < n → f j = 0) : sumN n f = 0 := by
  induction n with
  | zero => rfl
  | succ n ih => unfold sumN; rw [ih (fun j hj => h j (by omega)), h n (by omega)]; rfl
theorem sumN_one (n i : Nat) (f : Nat → UInt8) (hi : i < n) (h : ∀ j, j < n → j ≠ i → f j = 0) : sumN n f = f i := by
  induction n with
  | zero => omega
  | succ n ih =>
    unfold sumN
    by_cases e : i = n
    · subst e
      rw [sumN_zero i f (fun j hj => h j (by omega) (by omega))]
      simp
    · rw [ih (by omega) (fun j hj hne => h j (by omega) hne), h n (by omega) (fun e' => e e'.symm)]
      simp
theorem sumN_cut (n m : Nat) (f : Nat → UInt8) (hm : n ≤ m) (h : ∀ j, n ≤ j → j < m → f j = 0) : sumN m f = sumN n f := by
  induction m with
  | zero => have : n = 0 := by omega
            subst this; rfl
  | succ m ih =>
    by_cases e : n = m + 1
    · subst e; rfl
    · show sumN m f ^^^ f m = _
      rw [ih (by omega) (fun j h1 h2 => h j h1 (by omega)), h m (by omega) (by omega)]
      simp

theorem zipXor_length {r s : Row} {n : Nat} (hr : r.length = n) (hs : s.length = n) : (zipXor r s).length = n := by simp [zipXor, hr, hs]
theorem scale_length (c : UInt8) (r : Row) : (scale c r).length = r.length := by simp [scale]
theorem at0_zipXor {r s : Row} (h : r.length = s.length) (j : Nat) : at0 (zipXor r s) j = at0 r j ^^^ at0 s j := by
  unfold at0 zipXor
  simp only [List.getD_eq_getElem?_getD, List.getElem?_zipWith]
  by_cases hj : j < r.length
  · rw [List.getElem?_eq_getElem hj, List.getElem?_eq_getElem (h ▸ hj)]; rfl
  · rw [List.getElem?_eq_none (by omega), List.getElem?_eq_none (by omega)]; rfl
theorem at0_scale (c : UInt8) (r : Row) (j : Nat) : at0 (scale c r) j = times c (at0 r j) := by
  unfold at0 scale
  simp only [List.getD_eq_getElem?_getD, List.getElem?_map]
  cases r[j]? with
  | none => exact (times_zero_right c).symm
  | some a => rfl
theorem row_ext {r s : Row} (h : r.length = s.length) (ha : ∀ j, j < r.length → at0 r j = at0 s j) : r = s := by
  apply List.ext_getElem h
  intro i h1 h2
  have := ha i h1
  unfold at0 at this
  simpa [List.getD_eq_getElem?_getD, h1, h2] using this

theorem dot_zipXor (w : Nat) {r s : Row} (h : r.length = s.length) (x : Nat → UInt8) : dot w (zipXor r s) x = dot w r x ^^^ dot w s x := by
  unfold dot
  rw [← sumN_xor]
  exact sumN_congr fun j _ => by rw [at0_zipXor h, times_add_left]
theorem dot_scale (w : Nat) (c : UInt8) (r : Row) (x : Nat → UInt8) : dot w (scale c r) x = times c (dot w r x) := by
  unfold dot
  rw [← sumN_scale]
  exact sumN_congr fun j _ => by rw [at0_scale, times_assoc]
theorem scale_scale (c d : UInt8) (r : Row) : scale c (scale d r) = scale (times c d) r := by
  simp [scale, times_assoc]
theorem scale_one (r : Row) : scale 1 r = r := by
  unfold scale
  conv => rhs; rw [← List.map_id r]
  exact List.map_congr_left fun a _ => times_one_left a
theorem zipXor_self_cancel {r s : Row} (h : r.length = s.length) : zipXor (zipXor r s) s = r := by
  have hl := zipXor_length rfl h.symm
  refine row_ext ?_ fun j _ => ?_
  · rw [zipXor_length hl h.symm]
  · rw [at0_zipXor (by rw [hl, h]), at0_zipXor h, UInt8.xor_assoc]
    simp

/-! ### One step of the elimination -/
abbrev Pair := Row × Row
def d0 : Pair := ([], [])
def swp (n k i : Nat) : Nat := if i = n then k else if i = k then n else i
def lift (c : UInt8) (p : Pair) : Pair := (scale c p.1, scale c p.2)
def takeOff (p : Pair) (g : UInt8) (q : Pair) : Pair := if g = 0 then q else (zipXor q.1 (scale g p.1), zipXor q.2 (scale g p.2))
def pivot (l : List Pair) (k c : Nat) : Pair := lift (inv (at0 (l.getD k d0).1 c)) (l.getD k d0)
def elimRow (l : List Pair) (n k c : Nat) (p : Pair) (i : Nat) : Pair :=
  if i = n then p else takeOff p (at0 (l.getD (swp n k i) d0).1 c) (l.getD (swp n k i) d0)
def elim (l : List Pair) (n k c : Nat) : List Pair := (List.range l.length).map (elimRow l n k c (pivot l k c))

def Wf (w z : Nat) (l : List Pair) : Prop := ∀ i, i < l.length → (l.getD i d0).1.length = w ∧ (l.getD i d0).2.length = z

theorem elim_length (l : List Pair) (n k c : Nat) : (elim l n k c).length = l.length := by simp [elim]
theorem elim_get (l : List Pair) (n k c i : Nat) (hi : i < l.length) : (elim l n k c).getD i d0 = elimRow l n k c (pivot l k c) i := by
  simp [elim, List.getD_eq_getElem?_getD, hi]
theorem swp_lt {n k i N : Nat} (hn : n < N) (hk : k < N) (hi : i < N) : swp n k i < N := by unfold swp; split <;> (try split) <;> omega
theorem swp_swp (n k i : Nat) : swp n k (swp n k i) = i := by
  unfold swp
  by_cases h1 : i = n
  · subst h1
    rw [if_pos rfl]
    by_cases h2 : k = i
    · rw [if_pos h2, h2]
    · rw [if_neg h2, if_pos rfl]
  · rw [if_neg h1]
    by_cases h2 : i = k
    · subst h2; rw [if_pos rfl, if_pos rfl]
    · rw [if_neg h2, if_neg h1, if_neg h2]

theorem Wf.pivot {w z : Nat} {l : List Pair} (h : Wf w z l) {k : Nat} (hk : k < l.length) (c : Nat) : (pivot l k c).1.length = w ∧ (pivot l k c).2.length = z := by
  have := h k hk
  unfold GF.pivot lift
  exact ⟨by rw [scale_length]; exact this.1, by rw [scale_length]; exact this.2⟩
theorem takeOff_length {w z : Nat} {p q : Pair} (g : UInt8) (hp : p.1.length = w ∧ p.2.length = z) (hq : q.1.length = w ∧ q.2.length = z) : (takeOff p g q).1.length = w ∧ (takeOff p g q).2.length = z := by
  unfold takeOff
  split
  · exact hq
  · exact ⟨zipXor_length hq.1 (by rw [scale_length]; exact hp.1), zipXor_length hq.2 (by rw [scale_length]; exact hp.2)⟩
theorem Wf.elim {w z : Nat} {l : List Pair} (h : Wf w z l) {n k : Nat} (hn : n < l.length) (hk : k < l.length) (c : Nat) : Wf w z (elim l n k c) := by
  intro i hi
  rw [elim_length] at hi
  rw [elim_get l n k c i hi]
  unfold elimRow
  split
  · exact h.pivot hk c
  · exact takeOff_length _ (h.pivot hk c) (h _ (swp_lt hn hk hi))

/-- What holds of rows and is kept by sums and multiples. -/
structure Lin (w z : Nat) (R : Pair → Prop) : Prop where
  lift : ∀ c p, p.1.length = w ∧ p.2.length = z → R p → R (lift c p)
  add : ∀ p q : Pair, p.1.length = w ∧ p.2.length = z → q.1.length = w ∧ q.2.length = z → R p → R q → R (zipXor p.1 q.1, zipXor p.2 q.2)

def All (R : Pair → Prop) (l : List Pair) : Prop := ∀ i, i < l.length → R (l.getD i d0)

theorem Lin.takeOff {w z : Nat} {R : Pair → Prop} (h : Lin w z R) {p q : Pair} (g : UInt8) (hp : p.1.length = w ∧ p.2.length = z) (hq : q.1.length = w ∧ q.2.length = z) (rp : R p) (rq : R q) : R (takeOff p g q) := by
  unfold GF.takeOff
  split
  · exact rq
  · exact h.add q (GF.lift g p) hq ⟨by simp only [GF.lift, scale_length]; exact hp.1, by simp only [GF.lift, scale_length]; exact hp.2⟩ rq (h.lift g p hp rp)
theorem Lin.back {w z : Nat} {R : Pair → Prop} (h : Lin w z R) {p q : Pair} (g : UInt8) (hp : p.1.length = w ∧ p.2.length = z) (hq : q.1.length = w ∧ q.2.length = z) (rp : R p) (rq : R (GF.takeOff p g q)) : R q := by
  have hl := takeOff_length g hp hq
  unfold GF.takeOff at rq hl
  split at rq
  · exact rq
  · rename_i hg
    rw [if_neg hg] at hl
    have hs : (GF.lift g p).1.length = w ∧ (GF.lift g p).2.length = z := ⟨by simp only [GF.lift, scale_length]; exact hp.1, by simp only [GF.lift, scale_length]; exact hp.2⟩
    have := h.add _ _ hl hs rq (h.lift g p hp rp)
    simp only [GF.lift] at this hs
    rw [zipXor_self_cancel (by rw [hq.1, hs.1]), zipXor_self_cancel (by rw [hq.2, hs.2])] at this
    exact this

theorem Lin.forth {w z : Nat} {R : Pair → Prop} (h : Lin w z R) {l : List Pair} (hw : Wf w z l) {n k : Nat} (hn : n < l.length) (hk : k < l.length) (c : Nat) (ha : All R l) : All R (GF.elim l n k c) := by
  have rp : R (GF.pivot l k c) := h.lift _ _ (hw k hk) (ha k hk)
  intro i hi
  rw [elim_length] at hi
  rw [elim_get l n k c i hi]
  unfold elimRow
  split
  · exact rp
  · exact h.takeOff _ (hw.pivot hk c) (hw _ (swp_lt hn hk hi)) rp (ha _ (swp_lt hn hk hi))

theorem Lin.unlift {w z : Nat} {R : Pair → Prop} (h : Lin w z R) {p : Pair} {c : UInt8} (hc : c ≠ 0) (hp : p.1.length = w ∧ p.2.length = z) (rp : R (GF.lift c p)) : R p := by
  have := h.lift (inv c) (GF.lift c p) ⟨by simp only [GF.lift, scale_length]; exact hp.1, by simp only [GF.lift, scale_length]; exact hp.2⟩ rp
  simp only [GF.lift, scale_scale, inv_times c hc, scale_one] at this
  exact this

theorem Lin.backAll {w z : Nat} {R : Pair → Prop} (h : Lin w z R) {l : List Pair} (hw : Wf w z l) {n k : Nat} (hn : n < l.length) (hk : k < l.length) (c : Nat) (hc : at0 (l.getD k d0).1 c ≠ 0) (ha : All R (GF.elim l n k c)) : All R l := by
  have rp : R (GF.pivot l k c) := by
    have := ha n (by rw [elim_length]; exact hn)
    rw [elim_get l n k c n hn] at this
    unfold elimRow at this
    rw [if_pos rfl] at this
    exact this
  intro i hi
  by_cases e : i = k
  · subst e
    exact h.unlift (inv_ne _ hc) (hw _ hi) rp
  · have hj := swp_lt hn hk hi
    have := ha (swp n k i) (by rw [elim_length]; exact hj)
    rw [elim_get l n k c _ hj] at this
    unfold elimRow at this
    have hne : swp n k i ≠ n := by
      unfold swp
      split
      · rename_i h1; omega
      · assumption
    rw [if_neg hne, swp_swp] at this
    exact h.back _ (hw.pivot hk c) (hw i hi) rp this

/-! ### The whole elimination -/
/-- The first row from n on whose column c is not 0. -/
def seek (c : Nat) : List Pair → Nat → Option Nat
  | [], _ => none
  | p :: l, i => if at0 p.1 c ≠ 0 then some i else seek c l (i + 1)
def red (all : Bool) : Nat → Nat → Nat → List Pair → Nat × List Pair
  | 0, _, n, l => (n, l)
  | f + 1, c, n, l =>
    if n < l.length then
      match seek c (l.drop n) n with
      | none => if all then red all f (c + 1) n l else (n, l)
      | some k => red all f (c + 1) (n + 1) (elim l n k c)
    else (n, l)

theorem seek_some {c : Nat} {l : List Pair} {i k : Nat} (h : seek c l i = some k) : i ≤ k ∧ k < i + l.length ∧ at0 (l.getD (k - i) d0).1 c ≠ 0 := by
  induction l generalizing i with
  | nil => simp [seek] at h
  | cons p l ih =>
    unfold seek at h
    split at h
    · rename_i hp
      obtain rfl : i = k := by simpa using h
      refine ⟨Nat.le_refl _, by simp, ?_⟩
      rw [Nat.sub_self]
      exact hp
    · obtain ⟨h1, h2, h3⟩ := ih h
      refine ⟨by omega, by simp; omega, ?_⟩
      rw [show k - i = (k - (i + 1)) + 1 from by omega]
      exact h3
theorem seek_none {c : Nat} {l : List Pair} {i : Nat} (h : seek c l i = none) : ∀ j, j < l.length → at0 (l.getD j d0).1 c = 0 := by
  induction l generalizing i with
  | nil => intro j hj; simp at hj
  | cons p l ih =>
    unfold seek at h
    split at h
    · cases h
    · rename_i hp
      intro j hj
      cases j with
      | zero =>
        show at0 p.1 c = 0
        exact Classical.not_not.1 hp
      | succ j => exact ih h j (by simpa using hj)
theorem getD_drop (l : List Pair) (n j : Nat) : (l.drop n).getD j d0 = l.getD (n + j) d0 := by
  simp [List.getD_eq_getElem?_getD, List.getElem?_drop]

theorem red_le (all : Bool) : ∀ (f c n : Nat) (l : List Pair), (red all f c n l).1 ≤ n + f := by
  intro f
  induction f with
  | zero => intro c n l; simp [red]
  | succ f ih =>
    intro c n l
    unfold red
    split
    · split
      · split
        · have := ih (c + 1) n l; omega
        · show n ≤ _; omega
      · have := ih (c + 1) (n + 1) (elim l n ‹Nat› c); omega
    · show n ≤ _; omega
theorem red_full_true : ∀ (f c n : Nat) (l : List Pair), (red true f c n l).1 = n + f → red false f c n l = red true f c n l := by
  intro f
  induction f with
  | zero => intro c n l _; rfl
  | succ f ih =>
    intro c n l h
    unfold red at h ⊢
    split
    · rename_i hn
      rw [if_pos hn] at h
      split
      · rename_i hs
        rw [hs] at h
        simp only [if_true] at h
        have := red_le true f (c + 1) n l
        omega
      · rename_i k hs
        rw [hs] at h
        exact ih _ _ _ (by simp only at h; omega)
    · rfl
theorem red_full_false : ∀ (f c n : Nat) (l : List Pair), (red false f c n l).1 = n + f → red false f c n l = red true f c n l := by
  intro f
  induction f with
  | zero => intro c n l _; rfl
  | succ f ih =>
    intro c n l h
    unfold red at h ⊢
    split
    · rename_i hn
      rw [if_pos hn] at h
      split
      · rename_i hs
        rw [hs] at h
        simp only [Bool.false_eq_true, if_false] at h
        omega
      · rename_i k hs
        rw [hs] at h
        exact ih _ _ _ (by simp only at h; omega)
    · rfl
theorem red_length (all : Bool) : ∀ (f c n : Nat) (l : List Pair), (red all f c n l).2.length = l.length := by
  intro f
  induction f with
  | zero => intro c n l; rfl
  | succ f ih =>
    intro c n l
    unfold red
    split
    · split
      · split
        · exact ih _ _ _
        · rfl
      · rw [ih, elim_length]
    · rfl

/-- The first n columns are those of the unit matrix. -/
def Unit (n : Nat) (l : List Pair) : Prop := n ≤ l.length ∧ ∀ i, i < l.length → ∀ j, j < n → at0 (l.getD i d0).1 j = if i = j then 1 else 0

theorem Unit.step {w z n k : Nat} {l : List Pair} (hw : Wf w z l) (h : Unit n l) (hn : n < l.length) (hk : k < l.length) (hnk : n ≤ k) (hc : at0 (l.getD k d0).1 n ≠ 0) : Unit (n + 1) (elim l n k n) := by
  refine ⟨by rw [elim_length]; omega, fun i hi j hj => ?_⟩
  rw [elim_length] at hi
  rw [elim_get l n k n i hi]
  have hp : ∀ j, at0 (pivot l k n).1 j = times (inv (at0 (l.getD k d0).1 n)) (at0 (l.getD k d0).1 j) := fun j => at0_scale _ _ j
  have hpn : at0 (pivot l k n).1 n = 1 := by rw [hp]; exact inv_times _ hc
  have hpj : ∀ j, j < n → at0 (pivot l k n).1 j = 0 := fun j hj => by rw [hp, h.2 k hk j hj, if_neg (by omega), times_zero_right]
  unfold elimRow
  by_cases ei : i = n
  · subst ei
    rw [if_pos rfl]
    by_cases ej : i = j
    · subst ej; rw [if_pos rfl]; exact hpn
    · rw [if_neg ej]; exact hpj j (by omega)
  · rw [if_neg ei]
    have hsi := swp_lt hn hk hi
    have hlen : (l.getD (swp n k i) d0).1.length = (scale (at0 (l.getD (swp n k i) d0).1 n) (pivot l k n).1).length := by
      rw [scale_length, (hw _ hsi).1, (hw.pivot hk n).1]
    unfold takeOff
    by_cases ej : j = n
    · subst ej
      rw [if_neg ei]
      split
      · assumption
      · rw [at0_zipXor hlen, at0_scale, hpn, times_one_right]
        simp
    · have hjn : j < n := by omega
      have hq : at0 (l.getD (swp n k i) d0).1 j = if i = j then 1 else 0 := by
        rw [h.2 _ hsi j hjn]
        unfold swp
        rw [if_neg ei]
        by_cases e2 : i = k
        · rw [if_pos e2, if_neg (by omega), if_neg (by omega)]
        · rw [if_neg e2]
      split
      · exact hq
      · rw [at0_zipXor hlen, at0_scale, hpj j hjn, times_zero_right, hq]
        simp

/-- What the elimination without leaving out a column comes to. -/
theorem red_false_unit {w z : Nat} : ∀ (f n : Nat) (l : List Pair), Wf w z l → Unit n l → Unit (red false f n n l).1 (red false f n n l).2 ∧ Wf w z (red false f n n l).2 ∧
    ((red false f n n l).1 < n + f → (∀ i, (red false f n n l).1 ≤ i → i < (red false f n n l).2.length → at0 ((red false f n n l).2.getD i d0).1 (red false f n n l).1 = 0)) := by
  intro f
  induction f with
  | zero => intro n l hw h; exact ⟨h, hw, fun hlt => absurd hlt (by simp [red])⟩
  | succ f ih =>
    intro n l hw h
    unfold red
    split
    · rename_i hn
      split
      · rename_i hs
        simp only [Bool.false_eq_true, if_false]
        refine ⟨h, hw, fun _ i h1 h2 => ?_⟩
        have := seek_none hs (i - n) (by simp; omega)
        rw [getD_drop, show n + (i - n) = i from by omega] at this
        exact this
      · rename_i k hs
        obtain ⟨h1, h2, h3⟩ := seek_some hs
        rw [getD_drop, show n + (k - n) = k from by omega] at h3
        have hk : k < l.length := by simp at h2; omega
        obtain ⟨a, b, c⟩ := ih (n + 1) (elim l n k n) (hw.elim hn hk n) (h.step hw hn hk h1 h3)
        exact ⟨a, b, fun hlt => c (by omega)⟩
    · rename_i hn
      exact ⟨h, hw, fun _ i h1 h2 => absurd (show i < l.length from h2) (by omega)⟩

theorem red_forth {w z : Nat} {R : Pair → Prop} (hR : Lin w z R) (all : Bool) : ∀ (f c n : Nat) (l : List Pair), Wf w z l → All R l → All R (red all f c n l).2 := by
  intro f
  induction f with
  | zero => intro c n l _ h; exact h
  | succ f ih =>
    intro c n l hw h
    unfold red
    split
    · rename_i hn
      split
      · split
        · exact ih _ _ _ hw h
        · exact h
      · rename_i k hs
        obtain ⟨h1, h2, h3⟩ := seek_some hs
        have hk : k < l.length := by simp at h2; omega
        exact ih _ _ _ (hw.elim hn hk c) (hR.forth hw hn hk c h)
    · exact h
theorem red_back {w z : Nat} {R : Pair → Prop} (hR : Lin w z R) (all : Bool) : ∀ (f c n : Nat) (l : List Pair), Wf w z l → All R (red all f c n l).2 → All R l := by
  intro f
  induction f with
  | zero => intro c n l _ h; exact h
  | succ f ih =>
    intro c n l hw h
    unfold red at h
    split at h
    · rename_i hn
      split at h
      · split at h
        · exact ih _ _ _ hw h
        · exact h
      · rename_i k hs
        obtain ⟨h1, h2, h3⟩ := seek_some hs
        rw [getD_drop, show n + (k - n) = k from by omega] at h3
        have hk : k < l.length := by simp at h2; omega
        exact hR.backAll hw hn hk c h3 (ih _ _ _ (hw.elim hn hk c) h)
    · exact h

/-! ### Solutions -/
/-- The right side is the left one by x, place by place. -/
def Sol (w z : Nat) (x : Nat → Nat → UInt8) (p : Pair) : Prop := ∀ t, t < z → at0 p.2 t = dot w p.1 (fun j => x j t)
theorem sol_lin (w z : Nat) (x : Nat → Nat → UInt8) : Lin w z (Sol w z x) where
  lift := fun c p _ h t ht => by
    show at0 (scale c p.2) t = dot w (scale c p.1) _
    rw [at0_scale, dot_scale, h t ht]
  add := fun p q hp hq h1 h2 t ht => by
    show at0 (zipXor p.2 q.2) t = dot w (zipXor p.1 q.1) _
    rw [at0_zipXor (by rw [hp.2, hq.2]), dot_zipXor w (by rw [hp.1, hq.1]), h1 t ht, h2 t ht]

theorem dot_unit {w i : Nat} {r : Row} (hi : i < w) (h : ∀ j, j < w → at0 r j = if i = j then 1 else 0) (x : Nat → UInt8) : dot w r x = x i := by
  unfold dot
  rw [sumN_one w i _ hi (fun j hj hne => by rw [h j hj, if_neg (fun e => hne e.symm), times_zero_left]), h i hi, if_pos rfl, times_one_left]
theorem dot_none {w : Nat} {r : Row} (h : ∀ j, j < w → at0 r j = 0) (x : Nat → UInt8) : dot w r x = 0 :=
  sumN_zero w _ fun j hj => by rw [h j hj, times_zero_left]

/-- Full rank: the solution stands there, and what is beyond is 0. -/
theorem full_sol {w z : Nat} {l : List Pair} {x : Nat → Nat → UInt8} (hw : Wf w z l) (h : (red false w 0 0 l).1 = w) (hs : All (Sol w z x) l) :
    (∀ i, i < w → ∀ t, t < z → at0 ((red false w 0 0 l).2.getD i d0).2 t = x i t) ∧ (∀ i, w ≤ i → i < l.length → ∀ t, t < z → at0 ((red false w 0 0 l).2.getD i d0).2 t = 0) := by
  have hu := red_false_unit w 0 l hw ⟨Nat.zero_le _, fun i _ j hj => by omega⟩
  have hf := red_forth (sol_lin w z x) false w 0 0 l hw hs
  have hl := red_length false w 0 0 l
  rw [h] at hu
  generalize (red false w 0 0 l).2 = m at hu hf hl ⊢
  refine ⟨fun i hi t ht => ?_, fun i h1 h2 t ht => ?_⟩
  · have hi' : i < m.length := by have := hu.1.1; omega
    rw [hf i hi' t ht, dot_unit hi (fun j hj => hu.1.2 i hi' j hj)]
  · have hi' : i < m.length := by omega
    rw [hf i hi' t ht, dot_none (fun j hj => by rw [hu.1.2 i hi' j hj, if_neg (by omega)])]

/-- Full rank, and nothing beyond: what stands there is a solution. -/
theorem full_back {w z : Nat} {l : List Pair} (hw : Wf w z l) (h : (red false w 0 0 l).1 = w) (hz : ∀ i, w ≤ i → i < l.length → ∀ t, t < z → at0 ((red false w 0 0 l).2.getD i d0).2 t = 0) :
    All (Sol w z (fun j t => at0 ((red false w 0 0 l).2.getD j d0).2 t)) l := by
  have hu := red_false_unit w 0 l hw ⟨Nat.zero_le _, fun i _ j hj => by omega⟩
  have hl := red_length false w 0 0 l
  refine red_back (sol_lin w z _) false w 0 0 l hw ?_
  rw [h] at hu
  generalize (red false w 0 0 l).2 = m at hu hl hz ⊢
  intro i hi t ht
  by_cases hiw : i < w
  · rw [dot_unit hiw (fun j hj => hu.1.2 i hi j hj)]
  · rw [hz i (by omega) (by omega) t ht, dot_none (fun j hj => by rw [hu.1.2 i hi j hj, if_neg (by omega)])]

/-- All rows make 0 of x alone where x is 0. -/
def Free (w : Nat) (rows : List Row) : Prop := ∀ x : Nat → UInt8, (∀ r ∈ rows, dot w r x = 0) → ∀ j, j < w → x j = 0

def side (z : Nat) (rows : List Row) : List Pair := rows.map fun r => (r, List.replicate z 0)
theorem side_get (z : Nat) (rows : List Row) (i : Nat) (hi : i < rows.length) : (side z rows).getD i d0 = (rows[i], List.replicate z 0) := by
  simp [side, List.getD_eq_getElem?_getD, hi]

theorem at0_replicate (n t : Nat) : at0 (List.replicate n 0) t = 0 := by
  unfold at0
  rw [List.getD_eq_getElem?_getD, List.getElem?_replicate]
  split <;> rfl

/-- The left sides alone decide how far the elimination comes. -/
theorem red_left (all : Bool) : ∀ (f c n : Nat) (l l' : List Pair), l.map (·.1) = l'.map (·.1) → (red all f c n l).1 = (red all f c n l').1 := by
  intro f
  induction f with
  | zero => intro c n l l' _; rfl
  | succ f ih =>
    intro c n l l' h
    have hlen : l.length = l'.length := by have := congrArg List.length h; simpa using this
    have hget : ∀ i, (l.getD i d0).1 = (l'.getD i d0).1 := fun i => by
      have := congrArg (fun m : List Row => m.getD i []) h
      simp only [List.getD_eq_getElem?_getD, List.getElem?_map] at this
      simp only [List.getD_eq_getElem?_getD]
      cases h1 : l[i]? <;> cases h2 : l'[i]? <;> simp [h1, h2] at this ⊢ <;> first | exact this | (simp [d0]; exact this) | skip
    have hseek : ∀ (m m' : List Pair) (i : Nat), m.map (·.1) = m'.map (·.1) → seek c m i = seek c m' i := by
      intro m
      induction m with
      | nil =>
        intro m' i h
        cases m' with
        | nil => rfl
        | cons _ _ => simp at h
      | cons p m ihm =>
        intro m' i h
        cases m' with
        | nil => simp at h
        | cons p' m' =>
          simp only [List.map_cons, List.cons.injEq] at h
          unfold seek
          rw [h.1, ihm m' (i + 1) h.2]
    have hs : seek c (l.drop n) n = seek c (l'.drop n) n := hseek _ _ _ (by rw [List.map_drop, List.map_drop, h])
    unfold red
    rw [hlen, hs]
    split
    · split
      · split
        · exact ih _ _ _ _ h
        · rfl
      · rename_i k _
        refine ih _ _ _ _ ?_
        unfold elim
        rw [hlen, List.map_map, List.map_map]
        refine List.map_congr_left fun i _ => ?_
        simp only [Function.comp, elimRow, pivot, hget]
        split
        · simp only [lift, hget]
        · unfold takeOff
          simp only [hget]
          split
          · exact hget _
          · simp only [lift, hget]
    · rfl

theorem full_free {w : Nat} {l : List Pair} (hl : ∀ r ∈ l.map (·.1), r.length = w) (h : (red false w 0 0 l).1 = w) : Free w (l.map (·.1)) := by
  intro x hx j hj
  have hside : (side 1 (l.map (·.1))).map (·.1) = l.map (·.1) := by unfold side; rw [List.map_map]; exact (List.map_congr_left fun _ _ => rfl).trans (List.map_id _)
  have h' := h
  rw [red_left false w 0 0 l (side 1 (l.map (·.1))) hside.symm] at h'
  have hw : Wf w 1 (side 1 (l.map (·.1))) := fun i hi => by
    have hi' : i < (l.map (·.1)).length := by simpa [side] using hi
    rw [side_get _ _ _ hi']
    exact ⟨hl _ (List.getElem_mem _), by simp⟩
  have hs : All (Sol w 1 (fun j _ => x j)) (side 1 (l.map (·.1))) := fun i hi t ht => by
    have hi' : i < (l.map (·.1)).length := by simpa [side] using hi
    rw [side_get _ _ _ hi']
    show at0 (List.replicate 1 0) t = _
    rw [at0_replicate, hx _ (List.getElem_mem _)]
  have hs0 : All (Sol w 1 (fun _ _ => 0)) (side 1 (l.map (·.1))) := fun i hi t ht => by
    have hi' : i < (l.map (·.1)).length := by simpa [side] using hi
    rw [side_get _ _ _ hi']
    show at0 (List.replicate 1 0) t = _
    rw [at0_replicate]
    exact (sumN_zero w _ fun j _ => times_zero_right _).symm
  have e1 := (full_sol hw h' hs).1 j hj 0 (by omega)
  have e2 := (full_sol hw h' hs0).1 j hj 0 (by omega)
  exact e1.symm.trans e2

theorem free_full {w : Nat} {l : List Pair} (hl : ∀ r ∈ l.map (·.1), r.length = w) (hf : Free w (l.map (·.1))) : (red false w 0 0 l).1 = w := by
  have hside : (side 1 (l.map (·.1))).map (·.1) = l.map (·.1) := by unfold side; rw [List.map_map]; exact (List.map_congr_left fun _ _ => rfl).trans (List.map_id _)
  rw [red_left false w 0 0 l (side 1 (l.map (·.1))) hside.symm]
  have hw : Wf w 1 (side 1 (l.map (·.1))) := fun i hi => by
    have hi' : i < (l.map (·.1)).length := by simpa [side] using hi
    rw [side_get _ _ _ hi']
    exact ⟨hl _ (List.getElem_mem _), by simp⟩
  generalize hm : side 1 (l.map (·.1)) = m at hw
  have hu := red_false_unit w 0 m hw ⟨Nat.zero_le _, fun i _ j hj => by omega⟩
  have hle := red_le false w 0 0 m
  rcases Nat.lt_or_ge (red false w 0 0 m).1 w with hlt | hge
  · exfalso
    generalize hn : (red false w 0 0 m).1 = n at hu hlt
    -- a vector that all rows make 0 of
    let v : Nat → UInt8 := fun j => if j < n then at0 ((red false w 0 0 m).2.getD j d0).1 n else if j = n then 1 else 0
    have hz : All (Sol w 1 (fun j _ => v j)) (red false w 0 0 m).2 ∨ True := .inr trivial
    -- the rows at the end make 0 of v
    have hzero : ∀ i, i < (red false w 0 0 m).2.length → dot w ((red false w 0 0 m).2.getD i d0).1 v = 0 := by
      intro i hi
      unfold dot
      rw [sumN_cut (n + 1) w _ (by omega) (fun j h1 h2 => by
        show times _ (v j) = 0
        simp only [v]
        rw [if_neg (by omega), if_neg (by omega), times_zero_right])]
      show sumN n _ ^^^ times _ (v n) = 0
      have hvn : v n = 1 := by simp [v]
      rw [hvn, times_one_right]
      by_cases hin : i < n
      · rw [sumN_one n i _ hin (fun j hj hne => by rw [hu.1.2 i hi j hj, if_neg (fun e => hne e.symm), times_zero_left]), hu.1.2 i hi i hin, if_pos rfl, times_one_left]
        have hvi : v i = at0 ((red false w 0 0 m).2.getD i d0).1 n := by simp [v, hin]
        rw [hvi]
        simp
      · rw [sumN_zero n _ (fun j hj => by rw [hu.1.2 i hi j hj, if_neg (by omega), times_zero_left]), hu.2.2 (by omega) i (by omega) hi]
        rfl
    -- so do the rows at the begin
    have hR : Lin w 1 (fun p : Pair => dot w p.1 v = 0) := {
      lift := fun c p _ h => by show dot w (scale c p.1) v = 0; rw [dot_scale, h, times_zero_right]
      add := fun p q hp hq h1 h2 => by show dot w (zipXor p.1 q.1) v = 0; rw [dot_zipXor w (by rw [hp.1, hq.1]), h1, h2]; rfl }
    have hb := red_back hR false w 0 0 m hw hzero
    have := hf v (fun r hr => by
      obtain ⟨i, hi, rfl⟩ := List.getElem_of_mem hr
      have := hb i (by rw [← hm]; simpa [side] using hi)
      rw [← hm, side_get _ _ _ hi] at this
      exact this) n hlt
    simp [v] at this
  · omega
end Go.Proofs.Ytpdfcgkeclocoaa.GF
