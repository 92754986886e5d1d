/- An array of rows that is written. -/
import Derived.Test.YtpdfcgkeclocoaaSeek
import Derived.Test.YtpdfcgkeclocoaaLA2
set_option linter.all false
namespace Go.Proofs.Ytpdfcgkeclocoaa
open Go.RowKit GF

/-- The block g holds values of one cell each that are xs; M: what may turn. -/
def Arr {α : Type} (K : Kd α) (t : TypeId) (M : Blocks) (w : World) (g cap : Nat) (xs : List α) : Prop :=
  ∃ vs : List Value, Blk w g t vs ∧ vs.length = cap ∧ xs.length ≤ cap ∧ ∀ i (h : i < xs.length), ∃ u, vs[i]? = some u ∧ K.R M w [u] xs[i]
section
variable {α : Type} {K : Kd α} {t : TypeId} {M : Blocks} {w w' : World} {g cap : Nat} {xs : List α}
theorem Arr.lt (h : Arr K t M w g cap xs) : g < w.heap.size := by
  obtain ⟨vs, hb, _⟩ := h
  exact hb.lt
theorem Arr.at_ (h : Arr K t M w g cap xs) {i : Nat} (hi : i < xs.length) : ∃ u, w.cell? ⟨g, i, none⟩ = some u ∧ K.R M w [u] xs[i] := by
  obtain ⟨vs, hb, _, _, hv⟩ := h
  obtain ⟨u, h1, h2⟩ := hv i hi
  exact ⟨u, by rw [hb.cell, h1], h2⟩
theorem Arr.frozen (h : Arr K t M w g cap xs) (i : Nat) : w.frozen? ⟨g, i, none⟩ = false := by
  obtain ⟨vs, hb, _⟩ := h
  exact hb.frozen i
theorem Arr.keep (h : Arr K t M w g cap xs) (hb : ∀ b, b < w.heap.size → ¬ M b → w'.heap[b]? = w.heap[b]?) (hg : w'.heap[g]? = w.heap[g]?) : Arr K t M w' g cap xs := by
  obtain ⟨vs, h1, h2, h3, h4⟩ := h
  refine ⟨vs, h1.same hg, h2, h3, fun i hi => ?_⟩
  obtain ⟨u, h5, h6⟩ := h4 i hi
  exact ⟨u, h5, K.keep h6 hb⟩
theorem Arr.below (h : Arr K t M w g cap xs) (hb : Below w.heap.size w w') : Arr K t M w' g cap xs := h.keep (fun b hb' _ => hb.block b hb') (hb.block g h.lt)
theorem Arr.drew (h : Arr K t M w g cap xs) : Arr K t M w.drew g cap xs := h.below (Below.refl _ _).drew
theorem Arr.set_ (h : Arr K t M w g cap xs) (hM : M g) {i : Nat} (hi : i < xs.length) {u : Value} {y : α} (hu : K.R M w [u] y) : Arr K t M (w.setCell ⟨g, i, none⟩ u) g cap (xs.set i y) := by
  obtain ⟨vs, h1, h2, h3, h4⟩ := h
  have hk : ∀ b, b < w.heap.size → ¬ M b → (w.setCell ⟨g, i, none⟩ u).heap[b]? = w.heap[b]? := fun b _ hn => Below.heap_setCell w _ u b (fun e => hn (by rw [e]; exact hM))
  refine ⟨vs.set i u, h1.set_ i u, by rw [List.length_set, h2], by rw [List.length_set]; exact h3, fun j hj => ?_⟩
  rw [List.length_set] at hj
  rw [List.getElem?_set]
  by_cases e : i = j
  · subst e
    rw [if_pos rfl, if_pos (by omega)]
    refine ⟨u, rfl, ?_⟩
    rw [List.getElem_set_self]
    exact K.keep hu hk
  · rw [if_neg e]
    obtain ⟨v, h5, h6⟩ := h4 j hj
    refine ⟨v, h5, ?_⟩
    rw [List.getElem_set_ne e]
    exact K.keep h6 hk
theorem Arr.far (h : Arr K t M w g cap xs) {p : Addr} (hM : M p.block) (hg : g ≠ p.block) (u : Value) : Arr K t M (w.setCell p u) g cap xs :=
  h.keep (fun b _ hn => Below.heap_setCell w p u b (fun e => hn (by rw [e]; exact hM))) (Below.heap_setCell w p u g hg)
theorem Arr.sl {bytes : Nat} {M' : Blocks} (h : Arr K t M w g cap xs) (hcap : cap ≤ 9223372036854775807) (hl : xs.length * bytes ≤ 140737488355328) (hm : ∀ b, M' b → M b) (hg : ¬ M' g) (hs : K.size = 1) : (KSl bytes K).R M' w [.slice (some ⟨g, 0, none⟩) xs.length cap] xs := by
  obtain ⟨vs, h1, h2, h3, h4⟩ := h
  refine KSl.mk h3 hcap hl (fun e => by cases e) fun _ => ⟨_, rfl, h1.lt, hg, fun j hj => ?_⟩
  obtain ⟨u, h5, h6⟩ := h4 j hj
  refine ⟨[u], K.anti h6 fun b _ hb => hm b hb, fun i v hv => ?_⟩
  match i, hv with
  | 0, hv =>
    rw [hs, Nat.mul_one, add_plain, show (⟨g, j, none⟩ : Addr).add 0 = ⟨g, j, none⟩ from rfl]
    obtain rfl : u = v := by simpa using hv
    rw [h1.cell, h5]
end
/-- What the call owns, as an array. -/
theorem Own.arr {α : Type} {K : Kd α} {e : TypeId} {B : Nat} {M : Blocks} {w : World} {v : Value} {xs : List α} (h : Own K e B M w v xs) (hs : K.size = 1) (hn : 0 < xs.length) :
    ∃ g cap, v = .slice (some ⟨g, 0, none⟩) xs.length cap ∧ B ≤ g ∧ cap ≤ 9223372036854775807 ∧ Arr K e (fun b => M b ∨ b = g) w g cap xs := by
  obtain ⟨css, hl, hown, hr⟩ := h
  rcases hown.2 with ⟨rfl, hn0⟩ | ⟨g, cap, cur, rfl, hB, hh, h1, h2, h3, h4⟩
  · omega
  · refine ⟨g, cap, rfl, hB, by simp only [maxLen] at h2; omega, cur.toList, by unfold Blk; simpa using hh, by simp [h3, hs], h1, fun i hi => ?_⟩
    have hri := hr i (by omega) hi
    have hli := K.len hri
    rw [hs] at hli
    obtain ⟨u, hu⟩ := List.length_eq_one_iff.1 hli
    rw [hu] at hri
    refine ⟨u, ?_, K.anti hri fun b _ hb => hb.imp id (fun e => by rw [e]; rfl)⟩
    have hsz : ∀ c ∈ css, c.length = K.size := fun c hc => by
      obtain ⟨q, hq, rfl⟩ := List.getElem_of_mem hc
      exact K.len (hr q hq (by omega))
    have h5 := flatten_get hsz (j := i) (i := 0) (by omega) (by omega)
    rw [hu, ← h4, List.getElem?_take] at h5
    rw [hs, Nat.mul_one, Nat.add_zero, if_pos (by omega)] at h5
    rw [h5]; rfl
end Go.Proofs.Ytpdfcgkeclocoaa
