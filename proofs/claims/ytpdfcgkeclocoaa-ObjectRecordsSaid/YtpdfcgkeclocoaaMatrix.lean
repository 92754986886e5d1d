/- The walk of precode.Matrix. -/
import Derived.Test.YtpdfcgkeclocoaaHigh
set_option linter.all false
namespace Go.Proofs.Ytpdfcgkeclocoaa
open Go.RowKit GF
attribute [local go_sem ↓] Go.wp_at_zero Go.wp_at_succ

def matrix (k j : Nat) (esis : List Nat) : List Row := low k ++ high k ++ esis.map (symRow k j)

set_option maxRecDepth 100000 in
set_option maxHeartbeats 1000000 in
theorem matrix_any (k j : Nat) (h1 : 1 ≤ k) (h2 : k ≤ 40) (hj : j ≤ 255) (esis : List Nat) (v : Value) (w : World) (h : (KSl 8 KNat).R noB w [v] esis) (he : ∀ x ∈ esis, x < 16777216) (hlen : esis.length ≤ 1000000) :
    Calls Try.prog 185 #[.agg #[.int .i64 k, .int .i64 (Sk k), .int .i64 2], .int .i64 j, v] w (RetOwn KBs 131 w (matrix k j esis)) := by
  have hlow := low_any k h1 h2
  have hhigh := high_any k h1 h2
  have hrow := fun (esi : Nat) (hx : esi < 16777216) => tuple_row k j esi h1 h2 hj hx
  have hsl := symRow_length k j
  have hLk : 0 < Lk k ∧ Lk k ≤ 60 := by unfold Lk Wk Sk; omega
  have hlw : (low k).length ≤ 7 := by simp [low, Sk]; omega
  have hhi : (high k).length = 2 := by simp [high]
  obtain ⟨A, cp, rfl, _⟩ := KSl.val h
  have hm : matrix k j esis = low k ++ high k ++ esis.map (symRow k j) := rfl
  generalize matrix k j esis = mx at *
  generalize low k = lo at *
  generalize high k = hi at *
  generalize symRow k j = f at *
  generalize Lk k = L at *
  generalize Sk k = S at *
  have HM : Hid (mx = lo ++ hi ++ esis.map f) := hm
  have HLL : Hid (lo.length ≤ 7 ∧ hi.length = 2) := ⟨hlw, hhi⟩
  clear hm hlw hhi
  go_enter Try.func185, Try.ntmps185
  go_wp2_with fail
  have hx : Blk (w.alloc (.cells #[.int .i64 k, .int .i64 S, .int .i64 2] 155)) w.heap.size 155 [.int .i64 k, .int .i64 S, .int .i64 2] := (Blk.new w _ _)
  have hbel0 : Below w.heap.size w (w.alloc (.cells #[.int .i64 k, .int .i64 S, .int .i64 2] 155)) := below_one _ _
  have hsz0 : (w.alloc (.cells #[.int .i64 k, .int .i64 S, .int .i64 2] 155)).heap.size = w.heap.size + 1 := by simp
  generalize w.alloc (.cells #[.int .i64 k, .int .i64 S, .int .i64 2] 155) = wa at *
  have hc0 := hx.cell 0
  have hc1 := hx.cell 1
  have hc2 := hx.cell 2
  simp only [List.getElem?_cons_zero, List.getElem?_cons_succ] at hc0 hc1 hc2
  have hlt := hx.lt
  clear hsz0
  refine wp_region_plan [0, 2] [0, 2] [1, 3, 4, 5] [5] (fun w' => w'.cell? ⟨w.heap.size, 0, none⟩ = some (.int .i64 k) ∧ w'.cell? ⟨w.heap.size, 1, none⟩ = some (.int .i64 S) ∧ w'.cell? ⟨w.heap.size, 2, none⟩ = some (.int .i64 2)) (by kernel_rfl) (by kernel_rfl) (fun _ _ _ _ _ h => h) ⟨hc0, hc1, hc2⟩ ?_
  simp only [List.map_cons, List.map_nil, opAt, List.getD_cons_zero, List.getD_cons_succ, List.contains_cons, List.contains_nil, Nat.reduceBEq, Bool.or_false, Bool.or_true]
  apply front_hot
  · intro w9 hS
    obtain ⟨hS0, hS1, hS2⟩ := hS
    go_simp
    with_reducible rfl
  go_simp
  apply front_hot
  · intro w9 hS
    obtain ⟨hS0, hS1, hS2⟩ := hS
    go_simp
    with_reducible rfl
  go_simp
  refine front_nil ?_
  refine tail_cons (fun K hK => ?_)
  go_simp
  refine (hlow _).mono ?_
  rintro e w1 ⟨v1, rfl, ho1, hb1⟩
  have hb1' : Below wa.heap.size wa w1 := (Below.refl _ _).drew.trans hb1
  have hsz1 := hb1'.size
  have hd0 := cell_below hb1' _ _ hc0
  have hd1 := cell_below hb1' _ _ hc1
  have hd2 := cell_below hb1' _ _ hc2
  refine hK _ _ (fun _ => ⟨hd0, hd1, hd2⟩) ?_
  clear hK K
  go_simp
  refine tail_cons (fun K hK => ?_)
  go_simp
  refine (hhigh _).mono ?_
  rintro e w2 ⟨v2, rfl, ho2, hb2⟩
  have hsz2 := hb2.size
  have he0 := cell_below hb2 _ _ hd0
  have he1 := cell_below hb2 _ _ hd1
  have he2 := cell_below hb2 _ _ hd2
  refine hK _ _ (fun _ => ⟨he0, he1, he2⟩) ?_
  clear hK K
  go_simp
  have hob1 : ∀ g, v1.ownBlock = some g → wa.heap.size ≤ g ∧ g < w1.heap.size := fun g hg => ho1.block hg
  have hob2 : ∀ g, v2.ownBlock = some g → w1.heap.size ≤ g ∧ g < w2.heap.size := fun g hg => ho2.block hg
  have hy := ho2.sl (bytes := 24) (M' := fun g => old wa g ∨ v1.ownBlock = some g) (by have := HLL.out.2; omega) (fun g _ hm => by
    show g < w1.heap.size
    rcases hm with hm | hm
    · have : g < wa.heap.size := hm; omega
    · exact (hob1 g hm).2) (fun g hg hm => by
    have h1 := hob2 g hg
    rcases hm with hm | hm
    · have : g < wa.heap.size := hm; omega
    · have := (hob1 g hm).2; omega)
  have hown := ho1.below hb2
  refine tail_list rfl (fun K hK => ?_)
  refine wpList_app elemRow rfl _ _ rfl rfl rfl hown hy ?c1 ?c2 ?c3 ?c4 ?_
  case c1 => have := HLL.out; omega
  case c2 => have := HLL.out; omega
  case c3 => show wa.heap.size ≤ _; omega
  case c4 => intro g hg; have : g < wa.heap.size := hg; omega
  intro v3 w3 ho3 hgrow hob3
  have hb3 : Below wa.heap.size wa w3 := (hb1'.trans (hb2.mono hsz1)).grown hgrow (by omega) (fun g hg => (hob1 g hg).1)
  have hsz3 := hb3.size
  have hf0 := cell_below hb3 _ _ hc0
  have hf1 := cell_below hb3 _ _ hc1
  have hf2 := cell_below hb3 _ _ hc2
  clear hy hown ho1 ho2 hgrow hob1 hob2 hob3 he0 he1 he2 hd0 hd1 hd2 hb1 hb1' hb2 hsz1 hsz2
  go_simp
  refine hK _ _ (fun _ => ⟨hf0, hf1, hf2⟩) ?_
  clear hK K
  go_simp
  refine tail_late (fun K hK => ?_)
  go_simp
  refine hK _ _ ?_
  clear hK K
  go_simp
  refine tail_nil ?_
  go_wp2_with fail
  have hesi := Kd.below h hbel0
  go_loopw [7, 18] (fun o i wr => ∃ n : Nat, n ≤ esis.length ∧ i = .int .i64 n ∧ Own KBs 131 wa.heap.size (old wa) wr o (lo ++ hi ++ (esis.take n).map f) ∧ Below wa.heap.size wa wr) (fun _ i _ => esis.length - (intOf i).toNat)
  case atStart => exact ⟨0, Nat.zero_le _, rfl, (show Own KBs 131 wa.heap.size (old wa) w3 v3 (lo ++ hi ++ []) by rw [List.append_nil]; exact ho3), hb3⟩
  case round =>
    obtain ⟨n, hn, rfl, ho, hbel⟩ := hrel
    have hsz := hbel.size
    by_cases hlt' : n < esis.length
    · obtain ⟨ad, rfl, hcell⟩ := KSl.nat hesi hlt'
      have hcell' := cell_below hbel _ _ hcell
      have hg0 := cell_below hbel _ _ hc0
      have hg1 := cell_below hbel _ _ hc1
      have hg2 := cell_below hbel _ _ hc2
      have hlt3 : w.heap.size < wr.heap.size := by omega
      have hr := hrow _ (he _ (List.getElem_mem hlt')) wr
      have hfl := hsl esis[n]
      have hst : lo ++ hi ++ (esis.take (n + 1)).map f = (lo ++ hi ++ (esis.take n).map f) ++ [f esis[n]] := by
        rw [List.take_succ_eq_append_getElem hlt', List.map_append, ← List.append_assoc]; rfl
      have hll : (lo ++ hi ++ (esis.take n).map f).length ≤ 9 + n := by
        have := HLL.out; simp [List.length_append, List.length_map, List.length_take]; omega
      have HS : Hid (lo ++ hi ++ (esis.take (n + 1)).map f = (lo ++ hi ++ (esis.take n).map f) ++ [f esis[n]]) := hst
      have HL2 : Hid ((lo ++ hi ++ (esis.take n).map f).length ≤ 9 + n) := hll
      obtain ⟨xs, hxs⟩ : ∃ xs, xs = lo ++ hi ++ (esis.take n).map f := ⟨_, rfl⟩
      rw [← hxs] at HS HL2 ho
      clear hxs
      clear hst hll hcell hf0 hf1 hf2 hlow hhigh
      generalize esis[n] = x at *
      generalize f x = fx at *
      have hfx : 0 < fx.length := by omega
      clear hfl
      go_wp2_with fail
      refine hr.mono ?_
      rintro e w4 ⟨v4, rfl, hv4, hb4⟩
      have hsz4 := hb4.size
      have hob : ∀ g, u7.ownBlock = some g → wa.heap.size ≤ g ∧ g < wr.heap.size := fun g hg => ho.block hg
      have hv1 := KBs.one hv4 v4 (by simp)
      have hown := (ho.below hb4).below (below_one w4 (.cells #[v4] 131))
      have hnew := KSl.of_blk1 (bytes := 24) (K := KBs) (M := fun g => old wa g ∨ u7.ownBlock = some g) (l := [fx]) (Blk.new w4 131 [v4]) (by
        rintro (h | h)
        · have : w4.heap.size < wa.heap.size := h; omega
        · have := (hob _ h).2; omega) rfl (by simp) (by simp) (fun i h1 h2 => by
        obtain rfl : i = 0 := by simp at h1; omega
        refine Kd.below (KBs.anti hv4 fun g _ hg => ?_) (below_one w4 _)
        show g < wr.heap.size
        rcases hg with h | h
        · have : g < wa.heap.size := h; omega
        · exact (hob g h).2)
      obtain ⟨A4, c4, rfl, _⟩ := KSl.val hv4
      clear hrow hsl ho hr hv4
      go_wp2_with (at_builtin; refine wpList_app elemRow rfl _ _ rfl rfl rfl hown hnew ?c1 ?c2 ?c3 ?c4 ?_)
      case c1 => have := HL2.out; simp only [List.length_singleton]; omega
      case c2 => have := HL2.out; simp only [List.length_singleton]; omega
      case c3 => simp; omega
      case c4 => intro g hg; have : g < wa.heap.size := hg; simp; omega
      intro v' w6 hown2 hgrow hob2
      rw [← HS.out] at hown2
      have hb6 : Below wa.heap.size wa w6 := ((hbel.trans (hb4.mono hsz)).alloc (by omega) _).grown hgrow (by simp; omega) (fun g hg => (hob g hg).1)
      clear hnew hown
      go_wp2
      go_roundw
      case rel => exact ⟨n + 1, by omega, by go_num, hown2, hb6⟩
      case measure => simp [intOf]; omega
    · have e : n = esis.length := by omega
      subst e
      rw [List.take_of_length_le (Nat.le_refl _), ← HM.out] at ho
      go_wp2
      go_ret
      exact ⟨_, rfl, (ho.from (by omega)).anti (fun g _ (hg : g < w.heap.size) => by show g < wa.heap.size; omega), hbel0.trans (hbel.mono (by omega))⟩
end Go.Proofs.Ytpdfcgkeclocoaa
