/- The walk of solve.Rank. -/
import Derived.Test.YtpdfcgkeclocoaaReduce
import Derived.Test.YtpdfcgkeclocoaaFork
set_option linter.all false
namespace Go.Proofs.Ytpdfcgkeclocoaa
open Go.RowKit GF
attribute [local go_sem ↓] Go.wp_at_zero Go.wp_at_succ

theorem run_make_rows (n : Nat) (h : n ≤ 1000000) (w : World) :
    (Instr.makeSlice 134 (.int .i64 (n : Int)) (.int .i64 (n : Int))).run Try.prog w = .ok (.slice (some ⟨w.heap.size, 0, none⟩) n n) (w.alloc (.cells (madeCells #[.slice none 0 0] n) 131)) :=
  run_make_row' 134 131 (.slice none 0 0) 24 Try.underlying134 (by kernel_rfl) rfl .i64 .i64 n (by omega) (by omega) w

def bare (n : Nat) (rs : List Row) : List Pair := rs.map fun r => (sumRows n [r], [])
def rankOf (n : Nat) (rs : List Row) : Nat := (red true n 0 0 (bare n rs)).1

theorem Arr.anti {α : Type} {K : Kd α} {t : TypeId} {M M' : Blocks} {w : World} {g cap : Nat} {xs : List α} (h : Arr K t M w g cap xs) (hm : ∀ b, b < w.heap.size → M' b → M b) : Arr K t M' w g cap xs := by
  obtain ⟨vs, h1, h2, h3, h4⟩ := h
  exact ⟨vs, h1, h2, h3, fun i hi => by obtain ⟨u, hu, hr⟩ := h4 i hi; exact ⟨u, hu, K.anti hr hm⟩⟩
theorem fitAll_length (n : Nat) (rs : List Row) : (fitAll n rs).length = rs.length := by simp [fitAll]
theorem bare_length (n : Nat) (rs : List Row) : (bare n rs).length = rs.length := by simp [bare]
theorem bare_fst (n : Nat) (rs : List Row) : (bare n rs).map (·.1) = fitAll n rs := by simp [bare, fitAll]
theorem bare_snd (n : Nat) (rs : List Row) : (bare n rs).map (·.2) = List.replicate rs.length [] := by
  induction rs with
  | nil => rfl
  | cons r rs ih => simp only [bare, List.map_cons, List.length_cons, List.replicate_succ] at ih ⊢; rw [ih]
theorem st_bare {gm cm gd n : Nat} {rs : List Row} {w : World} (ham : Arr KBs 131 (fun b => b = gm ∨ b = gd ∨ noB b) w gm cm (fitAll n rs)) (hd : Blk w gd 131 (List.replicate rs.length (.slice none 0 0))) : St gm gd cm rs.length n 0 noB w w (bare n rs) where
  wf := fun i hi => by
    rw [List.getD_eq_getElem?_getD, List.getElem?_eq_getElem hi]
    simp [bare, sumRows_length]
  am := by rw [bare_fst]; exact ham
  ad := by
    rw [bare_snd]
    exact ⟨_, hd, by simp, by simp, fun i hi => ⟨.slice none 0 0, by rw [List.length_replicate] at hi; simp [List.getElem?_replicate, hi], by rw [List.getElem_replicate]; exact KSl.nil⟩⟩
  upd := Upd.refl _ _

set_option maxRecDepth 100000 in
set_option maxHeartbeats 1000000 in
theorem rank_any (n : Nat) (hn : n ≤ 300) (v : Value) (rs : List Row) (w : World) (h : KRows.R noB w [v] rs) (h0 : 0 < rs.length) (hlen : rs.length ≤ 1000000) :
    Calls Try.prog 183 #[.int .i64 n, v] w fun e w' => e = .returned (.int .i64 (rankOf n rs)) ∧ Below w.heap.size w w' := by
  obtain ⟨A, cp, rfl, _⟩ := KSl.val h
  have hfit := solve_fit_any n (by omega) (.slice A rs.length cp) rs
  have hmk := run_make_rows rs.length hlen
  have e1 : (if (300 : Int) < (n : Int) then (300 : Int) else (n : Int)) = (n : Int) := if_neg (by omega)
  have e1' : (if 300 < n then (300 : Int) else (n : Int)) = (n : Int) := if_neg (by omega)
  have e2 : (if 0 < n then (n : Int) else 0) = (n : Int) := by split <;> omega
  have e3 : (if 0 < (n : Int) then (n : Int) else 0) = (n : Int) := by split <;> omega
  go_enter Try.func183, Try.ntmps183
  go_wp2_with fail
  refine wp_region_fork [0, 1, 2, 4, 5] [] [3, 6, 7, 8] [6, 3, 7, 8] [8] (fun _ => True) (by kernel_rfl) (by kernel_rfl) (fun _ _ _ _ _ h => h) trivial ?_
  simp only [List.map_cons, List.map_nil, opAt, List.getD_cons_zero, List.getD_cons_succ, List.contains_cons, List.contains_nil, Nat.reduceBEq, Bool.or_false, Bool.or_true]
  iterate 5
    apply front_cons
    · intro w9
      go_simp
      with_reducible rfl
    go_simp
  refine front_nil ⟨?_, ?_⟩
  · refine tail_cons (fun K hK => ?_)
    go_simp
    refine (hfit _ (Kd.below h (Below.refl _ _).drew) hlen).mono ?_
    rintro e w1 ⟨v1, rfl, ho1, hb1⟩
    have hb1' : Below w.heap.size w w1 := (Below.refl _ _).drew.trans hb1
    have hsz1 := hb1'.size
    obtain ⟨gm, cm, rfl, hgm, hcm, ham⟩ := ho1.arr rfl (by rw [fitAll_length]; exact h0)
    have hgm' : w.heap.size ≤ gm := hgm
    have hgml := ham.lt
    rw [fitAll_length]
    have hd := Blk.made w1 131 (.slice none 0 0) rs.length
    have ham2 := (ham.anti (M' := fun b => b = gm ∨ b = w1.heap.size ∨ noB b) (fun b hb hm => by
      rcases hm with hm | hm | hm
      · exact .inr hm
      · omega
      · exact hm.elim)).below (below_one w1 (.cells (madeCells #[.slice none 0 0] rs.length) 131))
    have hst := st_bare ham2 hd
    have hred := reduce_any gm w1.heap.size cm rs.length n 0 noB (by omega) (by omega) (by omega) (bare n rs) rs.length (bare_length n rs) h0 hlen true _ (fun _ h => h.elim) hst
    have hrk : rankOf n rs = (red true n 0 0 (bare n rs)).1 := rfl
    rw [← hrk] at hred
    generalize rankOf n rs = rk at *
    clear hst ham2 hd ham ho1 hfit h
    refine hK _ _ (fun h => h) ?_
    clear hK K
    go_simp
    refine tail_cons (fun K hK => ?_)
    go_simp
    refine hK _ _ (fun h => h) ?_
    clear hK K
    go_simp
    refine tail_cons (fun K hK => ?_)
    go_simp
    refine hred.mono ?_
    rintro e w3 ⟨rfl, hst3⟩
    have hbl : Below w.heap.size w w3 := (hb1'.alloc (by omega) _).trans ⟨hst3.upd.os, hst3.upd.tape, hst3.upd.output, hst3.upd.size, fun b hb => hst3.upd.block b (by simp; omega) (by omega)⟩
    refine hK _ _ (fun h => h) ?_
    clear hK K
    go_simp
    refine tail_late (fun K hK => ?_)
    go_simp
    refine hK _ _ ?_
    clear hK K
    go_simp
    refine tail_nil ?_
    go_wp2
    go_ret
    exact ⟨rfl, hbl⟩
  · refine tail_cons (fun K hK => ?_)
    go_simp
    have hd0 := Blk.made w.drew 131 (.slice none 0 0) rs.length
    have hbd : Below w.heap.size w (w.drew.alloc (.cells (madeCells #[.slice none 0 0] rs.length) 131)) := (Below.refl _ _).drew.alloc (Nat.le_refl _) _
    have hwd0 : (w.drew.alloc (.cells (madeCells #[.slice none 0 0] rs.length) 131)).heap.size = w.heap.size + 1 := by simp
    have hft := hfit _ (Kd.below h hbd) hlen
    clear hfit
    refine hK _ _ (fun h => h) ?_
    clear hK K
    go_simp
    refine tail_cons (fun K hK => ?_)
    go_simp
    refine hft.mono ?_
    rintro e w1 ⟨v1, rfl, ho1, hb1⟩
    have hsz1 := hb1.size
    have hbl0 : Below w.heap.size w w1 := hbd.trans (hb1.mono (by omega))
    obtain ⟨gm, cm, rfl, hgm, hcm, ham⟩ := ho1.arr rfl (by rw [fitAll_length]; exact h0)
    have hgml := ham.lt
    rw [fitAll_length]
    have hd := hd0.below hb1
    have ham2 := (ham.anti (M' := fun b => b = gm ∨ b = w.heap.size ∨ noB b) (fun b hb hm => by
      rcases hm with hm | hm | hm
      · exact .inr hm
      · left; show b < _; omega
      · exact hm.elim))
    have hst := st_bare ham2 hd
    have hred := reduce_any gm w.heap.size cm rs.length n 0 noB (by omega) (by omega) (by omega) (bare n rs) rs.length (bare_length n rs) h0 hlen true _ (fun _ h => h.elim) hst
    have hrk : rankOf n rs = (red true n 0 0 (bare n rs)).1 := rfl
    rw [← hrk] at hred
    generalize rankOf n rs = rk at *
    clear hst ham2 hd ham ho1 h hft hd0
    refine hK _ _ (fun h => h) ?_
    clear hK K
    go_simp
    refine tail_cons (fun K hK => ?_)
    go_simp
    refine hred.mono ?_
    rintro e w3 ⟨rfl, hst3⟩
    have hbl : Below w.heap.size w w3 := hbl0.trans ⟨hst3.upd.os, hst3.upd.tape, hst3.upd.output, hst3.upd.size, fun b hb => hst3.upd.block b (by omega) (by omega)⟩
    refine hK _ _ (fun h => h) ?_
    clear hK K
    go_simp
    refine tail_late (fun K hK => ?_)
    go_simp
    refine hK _ _ ?_
    clear hK K
    go_simp
    refine tail_nil ?_
    go_wp2
    go_ret
    exact ⟨rfl, hbl⟩
end Go.Proofs.Ytpdfcgkeclocoaa
