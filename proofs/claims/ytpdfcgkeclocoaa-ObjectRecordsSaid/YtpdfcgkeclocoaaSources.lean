/- The walk of seed.Sources. -/
import Derived.Test.YtpdfcgkeclocoaaTRow
set_option linter.all false
namespace Go.Proofs.Ytpdfcgkeclocoaa
open Go.RowKit GF
attribute [local go_sem ↓] Go.wp_at_zero Go.wp_at_succ

theorem sources_any (k : Nat) (h2 : k ≤ 40) (w : World) :
    Calls Try.prog 137 #[.int .i64 k] w (RetOwn KNat 3 w (List.range k)) := by
  have e1 : (if (40 : Int) < (k : Int) then (40 : Int) else (k : Int)) = (k : Int) := if_neg (by omega)
  have e1' : (if 40 < k then (40 : Int) else (k : Int)) = (k : Int) := if_neg (by omega)
  have e2 : (if 0 < k then (k : Int) else 0) = (k : Int) := by split <;> omega
  have e3 : (if 0 < (k : Int) then (k : Int) else 0) = (k : Int) := by split <;> omega
  go_enter Try.func137, Try.ntmps137
  go_wp2_with fail
  go_loopw [3, 8] (fun o i wr => ∃ n : Nat, n ≤ k ∧ i = .int .i64 n ∧ Own KNat 3 w.heap.size (old w) wr o (List.range n) ∧ Below w.heap.size w wr) (fun _ i _ => k - (intOf i).toNat)
  case atStart => exact ⟨0, Nat.zero_le _, rfl, Own.nil, Below.refl _ _⟩
  case round =>
    obtain ⟨n, hn, rfl, ho, hbel⟩ := hrel
    have hsz := hbel.size
    by_cases hlt : n < k
    · have hob : ∀ g, u3.ownBlock = some g → w.heap.size ≤ g ∧ g < wr.heap.size := fun g hg => ho.block hg
      have hown := ho.below (below_one wr (.cells #[.int .i64 n] 3))
      have hnew := KSl.of_blk1 (bytes := 8) (K := KNat) (M := fun g => old w g ∨ u3.ownBlock = some g) (l := [n]) (Blk.new wr 3 [.int .i64 n]) (by
        rintro (h | h)
        · have : wr.heap.size < w.heap.size := h; omega
        · have := (hob _ h).2; omega) rfl (by simp) (by simp) (fun i h1 h2 => by
        obtain rfl : i = 0 := by simp at h1; omega
        exact ⟨by simp, by simp [IsInt]; omega⟩)
      clear e1 e1' e2 e3
      go_wp2_with (at_builtin; refine wpList_app elemInt rfl _ _ rfl rfl rfl hown hnew ?c1 ?c2 ?c3 ?c4 ?_)
      case c1 => simp; omega
      case c2 => simp; omega
      case c3 => simp; omega
      case c4 => intro g hg; have : g < w.heap.size := hg; simp; omega
      intro v' w6 hown2 hgrow hob2
      rw [← List.range_succ] at hown2
      clear hnew hown
      go_wp2
      go_roundw
      case rel => exact ⟨n + 1, by omega, by go_num, hown2, (hbel.alloc (by omega) _).grown hgrow (by simp; omega) (fun g hg => (hob g hg).1)⟩
      case measure => simp [intOf]; omega
    · have e : n = k := by omega
      subst e
      go_wp2
      go_ret
      exact ⟨_, rfl, ho, hbel⟩
end Go.Proofs.Ytpdfcgkeclocoaa
