/- Plain laws: a block can always be made of its own symbols; where each record stands. -/
import Derived.Test.YtpdfcgkeclocoaaMint
set_option linter.all false
namespace Go.Proofs.Ytpdfcgkeclocoaa
open Go.RowKit GF

/-- As many rows as columns, and independent: solved. -/
theorem solveP_ok {n z : Nat} {ms ds : List Row} (hl : ms.length = ds.length) (hn : ms.length = n) (hr : rankOf n ms = n) : ∃ c, solveP n z ms ds = .ok c := by
  have h1 : (red true n 0 0 (prep n z ms ds)).1 = n := by
    rw [← red_left true n 0 0 (bare n ms) (prep n z ms ds) (by rw [bare_fst, prep_fst hl])]
    exact hr
  have h2 : red false n 0 0 (prep n z ms ds) = red true n 0 0 (prep n z ms ds) := red_full_true n 0 0 _ (by rw [h1]; omega)
  have h3 : ¬ (red false n 0 0 (prep n z ms ds)).1 < n := by rw [h2, h1]; omega
  have h4 : restBad n (red false n 0 0 (prep n z ms ds)).2 = false := by
    unfold restBad
    rw [List.drop_of_length_le (by rw [red_length, prep_length hl]; omega)]
    rfl
  unfold solveP
  rw [if_neg h3, h4]
  exact ⟨_, rfl⟩
theorem newBlock_err5 {z : Nat} {src : List Row} {q : Nat} (h : newBlock z src = .error q) : q = 5 := by
  unfold newBlock at h
  cases hf : findJ src.length with
  | none =>
    rw [hf] at h
    injection h with h
    exact h.symm
  | some j =>
    rw [hf] at h
    have hg := findJ_good hf
    unfold goodJ at hg
    rw [beq_iff_eq] at hg
    have hk : (matrix src.length j (List.range src.length)).length = Lk src.length := by
      rw [matrix_length, List.length_range]; unfold Lk Wk; omega
    obtain ⟨c, hc⟩ := solveP_ok (z := z) (ms := matrix src.length j (List.range src.length)) (ds := List.replicate (Sk src.length + 2) [] ++ src) (by rw [matrix_length]; simp) hk hg
    unfold newV at h
    simp only at h
    rw [show partsP src.length j z (List.range src.length) src = .ok c from hc] at h
    cases h
theorem newObj_err5 {s : Shp} {d : List UInt8} {q : Nat} (h : newObj s d = .error q) : q = 5 := by
  unfold newObj at h
  suffices hh : ∀ n q, objGo s.z (cutS s d) n = .error q → q = 5 by
    cases hg : objGo s.z (cutS s d) (blkN s) with
    | error q' =>
      rw [hg] at h
      injection h with h
      rw [← h]; exact hh _ _ hg
    | ok bs => rw [hg] at h; cases h
  intro n
  induction n with
  | zero => intro q h; cases h
  | succ n ih =>
    intro q h
    unfold objGo at h
    cases hg : objGo s.z (cutS s d) n with
    | error q' =>
      rw [hg] at h
      injection h with h
      rw [← h]; exact ih _ hg
    | ok bs =>
      rw [hg] at h
      simp only at h
      cases h2 : newBlock s.z ((cutS s d).getD n []) with
      | error q' =>
        rw [h2] at h
        injection h with h
        rw [← h]; exact newBlock_err5 h2
      | ok x => rw [h2] at h; cases h
def b00 : BlockD := ⟨0, 0, 0, []⟩
theorem newBlock_k {z : Nat} {src : List Row} {b : BlockD} (h : newBlock z src = .ok b) : b.k = src.length := by
  unfold newBlock at h
  cases hf : findJ src.length with
  | none => rw [hf] at h; cases h
  | some j =>
    rw [hf] at h
    unfold newV at h
    simp only at h
    split at h
    · cases h
    · injection h with h
      rw [← h]
theorem objGo_k {z : Nat} {l : List (List Row)} : ∀ {n : Nat} {bs : List BlockD}, objGo z l n = .ok bs → ∀ i, i < n → (bs.getD i b00).k = (l.getD i []).length
  | 0, bs, h, i, hi => by omega
  | n + 1, bs, h, i, hi => by
    unfold objGo at h
    cases h1 : objGo z l n with
    | error q => rw [h1] at h; cases h
    | ok cs =>
      rw [h1] at h
      simp only at h
      cases h2 : newBlock z (l.getD n []) with
      | error q => rw [h2] at h; cases h
      | ok b =>
        rw [h2] at h
        injection h with h
        have hl := objGo_length h1
        rw [← h]
        by_cases e : i < n
        · rw [List.getD_eq_getElem?_getD, List.getElem?_append_left (by omega), ← List.getD_eq_getElem?_getD]
          exact objGo_k h1 i e
        · obtain rfl : i = n := by omega
          rw [List.getD_eq_getElem?_getD, List.getElem?_append_right (by omega), hl]
          simp only [Nat.sub_self, List.getElem?_cons_zero, Option.getD_some]
          exact newBlock_k h2
theorem newObj_k {s : Shp} {d : List UInt8} {o : ObjD} (h : newObj s d = .ok o) (i : Nat) (hi : i < blkN s) : (o.bs.getD i b00).k = kN s i := by
  unfold newObj at h
  cases hg : objGo s.z (cutS s d) (blkN s) with
  | error q' => rw [hg] at h; cases h
  | ok bs =>
    rw [hg] at h
    injection h with h
    rw [← h]
    show (bs.getD i b00).k = _
    rw [objGo_k hg i hi]
    exact (cutS_get hi).1
theorem recsB_get (s : Shp) (ip iq till : Int) (n : Nat) (b : BlockD) (m e : Nat) (h : e < m) : (recsB s ip iq till n b m)[e]? = some (recOf s ip iq till n e (symB b e)) := by
  unfold recsB
  rw [List.getElem?_map, List.getElem?_range h]
  rfl
theorem recsGo_get (o : ObjD) (ip iq till : Int) (ex : Nat) : ∀ (N b e : Nat), b < N → e < (o.bs.getD b b00).k + ex → (recsGo o ip iq till ex N)[(recsGo o ip iq till ex b).length + e]? = some (recOf o.sh ip iq till b e (symB (o.bs.getD b b00) e))
  | 0, b, e, hb, _ => by omega
  | N + 1, b, e, hb, he => by
    rw [show recsGo o ip iq till ex (N + 1) = recsGo o ip iq till ex N ++ recsB o.sh ip iq till N (o.bs.getD N b00) ((o.bs.getD N b00).k + ex) from rfl]
    by_cases h : b < N
    · have ih := recsGo_get o ip iq till ex N b e h he
      rw [List.getElem?_append_left (List.getElem?_eq_some_iff.1 ih).1]
      exact ih
    · obtain rfl : b = N := by omega
      rw [List.getElem?_append_right (by omega), show (recsGo o ip iq till ex b).length + e - (recsGo o ip iq till ex b).length = e from by omega]
      exact recsB_get _ _ _ _ _ _ _ _ he
theorem recsGo_step (o : ObjD) (ip iq till : Int) (ex b : Nat) : (recsGo o ip iq till ex (b + 1)).length = (recsGo o ip iq till ex b).length + ((o.bs.getD b b00).k + ex) := by
  show (recsGo o ip iq till ex b ++ recsB _ _ _ _ _ _ _).length = _
  rw [List.length_append, recsB_length]
  rfl
end Go.Proofs.Ytpdfcgkeclocoaa
