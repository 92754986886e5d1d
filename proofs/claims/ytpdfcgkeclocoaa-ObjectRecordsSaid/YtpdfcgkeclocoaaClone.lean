/- slices.Clone of rows. -/
import Derived.Test.YtpdfcgkeclocoaaDrop
import Derived.WalkSpells
set_option linter.all false
namespace Go.Proofs.Ytpdfcgkeclocoaa
open Go.RowKit GF
attribute [local go_sem ↓] Go.wp_at_zero Go.wp_at_succ

/-- What the call owns reads as nothing. -/
theorem Own.empty {α : Type} (K : Kd α) (e : TypeId) (M : Blocks) (w : World) : Own K e w.heap.size M (w.alloc (.cells #[] e)) (.slice (some ⟨w.heap.size, 0, none⟩) 0 0) [] :=
  ⟨[], rfl, ⟨by simp, .inr ⟨w.heap.size, 0, #[], rfl, Nat.le_refl _, heap_alloc_new w _, by simp [maxLen], by simp [maxLen], by simp, by simp⟩⟩, fun i h => absurd h (by simp)⟩

set_option maxRecDepth 100000 in
set_option maxHeartbeats 400000 in
theorem clone_rows (v : Value) (rs : List Row) (M : Blocks) (w : World) (hM : ∀ g, M g → g < w.heap.size) (hlen : rs.length ≤ 1000000) (h : KRows.R M w [v] rs) :
    Calls Try.prog 228 #[v] w fun e w' => ∃ v', e = .returned v' ∧ Own KBs 131 w.heap.size M w' v' rs ∧ Below w.heap.size w w' := by
  obtain ⟨A, c, rfl, hlc, _, _, hn0, _⟩ := KSl.val h
  cases A with
  | none =>
    have : c = 0 := hn0 rfl
    subst this
    have e0 : rs = [] := List.eq_nil_of_length_eq_zero (by omega)
    subst e0
    clear hn0
    have hnil := fun (w : World) => Lib.run_eql_slice_nil (P := Try.prog) w 134 131 none 0 0 0 0 Try.underlying134
    go_enter Try.func228, Try.ntmps228
    go_wp2
    go_ret
    exact ⟨_, rfl, Own.nil, Below.refl _ _⟩
  | some ad =>
    have hown := Own.empty KBs 131 M w
    have hown2 := Own.anti (M' := M) hown fun _ _ h => h
    have hy : KRows.R (fun g => M g ∨ (Value.slice (some ⟨w.heap.size, 0, none⟩) 0 0).ownBlock = some g) (w.alloc (.cells #[] 131)) [.slice (some ad) rs.length c] rs := Kd.below (KRows.anti h fun g hg hm => by
      rcases hm with hm | hm
      · exact hm
      · have : w.heap.size = g := by simpa [Value.ownBlock] using hm
        omega) (below_one w _)
    clear hn0 hown
    have hnil := fun (w : World) => Lib.run_eql_slice_nil (P := Try.prog) w 134 131 (some ad) rs.length c 0 0 Try.underlying134
    go_enter Try.func228, Try.ntmps228
    go_wp2_with (at_builtin; refine wpList_app elemRow rfl _ _ rfl rfl rfl hown2 hy ?c1 ?c2 ?c3 ?c4 ?_)
    case c1 => simp; omega
    case c2 => simp; omega
    case c3 => simp
    case c4 => intro g hg; have := hM g hg; simp; omega
    intro v' w2 ho hgrow hob
    clear hown2 hy
    go_wp2
    go_ret
    exact ⟨_, rfl, by simpa using ho, ((Below.refl _ _).alloc (Nat.le_refl _) _).grown hgrow (by simp) (fun g hg => by simp [Value.ownBlock] at hg; omega)⟩
end Go.Proofs.Ytpdfcgkeclocoaa
