/- One step of the elimination as the program goes: swap, scale, take off row by row. -/
import Derived.Test.YtpdfcgkeclocoaaLA
set_option linter.all false
namespace Go.Proofs.Ytpdfcgkeclocoaa.GF

theorem getD_eq {α : Type} (l : List α) (i : Nat) (d : α) (h : i < l.length) : l.getD i d = l[i] := by simp [List.getD_eq_getElem?_getD, h]
def swapL {α : Type} (l : List α) (n k : Nat) (x y : α) : List α := (l.set n y).set k x
theorem swapL_map {α β : Type} (f : α → β) (l : List α) (n k : Nat) (x y : α) : (swapL l n k x y).map f = swapL (l.map f) n k (f x) (f y) := by simp [swapL, List.map_set]
theorem swapL_length {α : Type} (l : List α) (n k : Nat) (x y : α) : (swapL l n k x y).length = l.length := by simp [swapL]
theorem swapL_get (l : List Pair) (n k i : Nat) (hn : n < l.length) (hk : k < l.length) (hi : i < l.length) : (swapL l n k l[n] l[k]).getD i d0 = l.getD (swp n k i) d0 := by
  rw [getD_eq _ _ _ (by rw [swapL_length]; exact hi), getD_eq _ _ _ (swp_lt hn hk hi)]
  unfold swapL
  simp only [List.getElem_set]
  unfold swp
  by_cases h1 : k = i
  · subst h1
    by_cases h2 : k = n
    · subst h2; simp
    · simp [h2]
  · by_cases h2 : n = i
    · subst h2; simp [h1]
    · have h1' : ¬ i = k := fun e => h1 e.symm
      have h2' : ¬ i = n := fun e => h2 e.symm
      simp [h1, h2, h1', h2']

/-- Row i loses its multiple of row n. -/
def stepAt (n c i : Nat) (l : List Pair) : List Pair :=
  if i ≠ n ∧ at0 (l.getD i d0).1 c ≠ 0 then l.set i (takeOff (l.getD n d0) (at0 (l.getD i d0).1 c) (l.getD i d0)) else l
def sweep (n c : Nat) : Nat → List Pair → List Pair
  | 0, l => l
  | i + 1, l => stepAt n c i (sweep n c i l)
theorem stepAt_length (n c i : Nat) (l : List Pair) : (stepAt n c i l).length = l.length := by unfold stepAt; split <;> simp
theorem sweep_length (n c i : Nat) (l : List Pair) : (sweep n c i l).length = l.length := by
  induction i with
  | zero => rfl
  | succ i ih => rw [sweep, stepAt_length, ih]
theorem sweep_get (n c : Nat) (l : List Pair) (hn : n < l.length) : ∀ i, i ≤ l.length → ∀ j, j < l.length → (sweep n c i l).getD j d0 = if j < i ∧ j ≠ n then takeOff (l.getD n d0) (at0 (l.getD j d0).1 c) (l.getD j d0) else l.getD j d0 := by
  intro i
  induction i with
  | zero => intro _ j hj; rw [if_neg (by omega)]; rfl
  | succ i ih =>
    intro hi j hj
    have hl := sweep_length n c i l
    have hnn := ih (by omega) n hn
    rw [if_neg (by omega)] at hnn
    have hii := ih (by omega) i (by omega)
    rw [if_neg (by omega)] at hii
    show (stepAt n c i (sweep n c i l)).getD j d0 = _
    unfold stepAt
    rw [hnn, hii]
    by_cases hc : i ≠ n ∧ at0 (l.getD i d0).1 c ≠ 0
    · rw [if_pos hc, getD_eq _ _ _ (by rw [List.length_set, hl]; exact hj), List.getElem_set]
      by_cases hij : i = j
      · subst hij
        rw [if_pos rfl, if_pos ⟨by omega, hc.1⟩]
      · rw [if_neg hij, ← getD_eq _ _ d0 (by rw [hl]; exact hj), ih (by omega) j hj]
        by_cases h : j < i ∧ j ≠ n
        · rw [if_pos h, if_pos ⟨by omega, h.2⟩]
        · rw [if_neg h, if_neg (by omega)]
    · rw [if_neg hc, ih (by omega) j hj]
      by_cases hij : i = j
      · subst hij
        rw [if_neg (by omega)]
        by_cases hin : i = n
        · rw [if_neg (by omega)]
        · have h0 : at0 (l.getD i d0).1 c = 0 := Classical.byContradiction fun h => hc ⟨hin, h⟩
          rw [if_pos ⟨by omega, hin⟩]
          unfold takeOff
          rw [if_pos h0]
      · by_cases h : j < i ∧ j ≠ n
        · rw [if_pos h, if_pos ⟨by omega, h.2⟩]
        · rw [if_neg h, if_neg (by omega)]
/-- The step, as the program goes. -/
theorem elim_eq (l : List Pair) (n k c : Nat) (hn : n < l.length) (hk : k < l.length) :
    sweep n c l.length ((swapL l n k l[n] l[k]).set n (lift (inv (at0 l[k].1 c)) l[k])) = elim l n k c := by
  have hlen : ((swapL l n k l[n] l[k]).set n (lift (inv (at0 l[k].1 c)) l[k])).length = l.length := by rw [List.length_set, swapL_length]
  apply List.ext_getElem
  · rw [sweep_length, hlen, elim_length]
  · intro j h1 h2
    have hj : j < l.length := by rw [elim_length] at h2; exact h2
    rw [← getD_eq _ _ d0 h1, ← getD_eq _ _ d0 h2, elim_get l n k c j hj, sweep_get n c _ (by rw [hlen]; exact hn) l.length (by rw [hlen]; exact Nat.le_refl _) j (by rw [hlen]; exact hj)]
    have hk' : l.getD k d0 = l[k] := getD_eq _ _ _ hk
    have hget : ∀ i, i < l.length → ((swapL l n k l[n] l[k]).set n (lift (inv (at0 l[k].1 c)) l[k])).getD i d0 = if i = n then pivot l k c else l.getD (swp n k i) d0 := fun i hi => by
      rw [getD_eq _ _ _ (by rw [hlen]; exact hi), List.getElem_set]
      by_cases h : n = i
      · subst h; rw [if_pos rfl, if_pos rfl]; unfold pivot; rw [hk']
      · rw [if_neg h, if_neg (fun e => h e.symm), ← getD_eq _ _ d0 (by rw [swapL_length]; exact hi), swapL_get l n k i hn hk hi]
    rw [hget n hn, if_pos rfl, hget j hj]
    unfold elimRow
    by_cases h : j = n
    · rw [if_neg (by omega), if_pos h, if_pos h]
    · rw [if_pos ⟨hj, h⟩, if_neg h, if_neg h]
theorem seek_first {c : Nat} : ∀ (l : List Pair) (i m : Nat), (∀ j, j < m → at0 (l.getD j d0).1 c = 0) → m < l.length → at0 (l.getD m d0).1 c ≠ 0 → seek c l i = some (i + m) := by
  intro l
  induction l with
  | nil => intro i m _ h; simp at h
  | cons p l ih =>
    intro i m h0 hm hne
    unfold seek
    cases m with
    | zero =>
      have hne1 : at0 p.1 c ≠ 0 := hne
      rw [if_pos hne1]; rfl
    | succ m =>
      have := h0 0 (by omega)
      rw [if_neg (by intro h; exact h this), ih (i + 1) m (fun j hj => h0 (j + 1) (by omega)) (by simpa using hm) hne]
      congr 1
      omega
theorem seek_no {c : Nat} : ∀ (l : List Pair) (i : Nat), (∀ j, j < l.length → at0 (l.getD j d0).1 c = 0) → seek c l i = none := by
  intro l
  induction l with
  | nil => intro i _; rfl
  | cons p l ih =>
    intro i h0
    unfold seek
    have := h0 0 (by simp)
    rw [if_neg (by intro h; exact h this), ih (i + 1) (fun j hj => h0 (j + 1) (by simpa using hj))]
end Go.Proofs.Ytpdfcgkeclocoaa.GF
