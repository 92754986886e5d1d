/- The walks of params.Right and of package tuple. -/
import Derived.Test.YtpdfcgkeclocoaaParams
import Derived.Test.YtpdfcgkeclocoaaRowSum
set_option linter.all false
namespace Go.Proofs.Ytpdfcgkeclocoaa
open Go.RowKit
attribute [local go_sem ↓] Go.wp_at_zero Go.wp_at_succ

theorem Own.from {α : Type} {K : Kd α} {e : TypeId} {B B' : Nat} {M : Blocks} {w : World} {v : Value} {xs : List α} (h : Own K e B M w v xs) (hB : B' ≤ B) : Own K e B' M w v xs := by
  obtain ⟨css, hl, ⟨h1, h2⟩, hr⟩ := h
  refine ⟨css, hl, ⟨h1, ?_⟩, hr⟩
  rcases h2 with h2 | ⟨g, cap, cur, rfl, hb, r⟩
  · exact .inl h2
  · exact .inr ⟨g, cap, cur, rfl, by omega, r⟩

theorem params_right (k : Nat) (h1 : 1 ≤ k) (h2 : k ≤ 40) (w : World) : Calls Try.prog 231 #[.agg #[.int .i64 k, .int .i64 (Sk k), .int .i64 2]] w fun e w' => e = .returned (.bool true) ∧ Below w.heap.size w w' := by
  have hof := params_of_yes k h1 h2
  go_enter Try.func231, Try.ntmps231
  go_wp2_with fail
  refine (hof _).mono ?_
  rintro e w1 ⟨rfl, hb⟩
  clear hof
  have hx : Blk w1 w.heap.size 155 [.int .i64 k, .int .i64 (Sk k), .int .i64 2] := (Blk.new w _ _).below (hb.mono (Nat.le_refl _))
  have hlt := hx.lt
  have hc0 := hx.cell 0
  have hc1 := hx.cell 1
  have hc2 := hx.cell 2
  simp only [List.getElem?_cons_zero, List.getElem?_cons_succ] at hc0 hc1 hc2
  go_wp2
  go_ret
  exact ⟨rfl, ((((Below.refl _ _).alloc (Nat.le_refl _) _).trans (hb.mono (by simp))).alloc (by omega) _)⟩

theorem params_W' (k : Nat) (h2 : k ≤ 40) (w : World) : Calls Try.prog 222 #[.agg #[.int .i64 k, .int .i64 (Sk k), .int .i64 2]] w fun e w' => e = .returned (.int .i64 (Wk k : Nat)) ∧ Below w.heap.size w w' := by
  refine (params_W k (Sk k) 2 (by omega) (by unfold Sk; omega) w).mono ?_
  rintro e w1 ⟨rfl, rfl⟩
  exact ⟨ret_int (by unfold Wk; simp), below_one _ _⟩
theorem params_L' (k : Nat) (h2 : k ≤ 40) (w : World) : Calls Try.prog 184 #[.agg #[.int .i64 k, .int .i64 (Sk k), .int .i64 2]] w fun e w' => e = .returned (.int .i64 (Lk k : Nat)) ∧ Below w.heap.size w w' := by
  refine (params_L k (Sk k) 2 (by omega) (by unfold Sk; omega) (by omega) w).mono ?_
  rintro e w1 ⟨rfl, hb⟩
  exact ⟨ret_int (by unfold Lk Wk; simp), hb⟩
theorem params_of_no (k : Int) (h : k < 1 ∨ 40 < k) (w : World) : Calls Try.prog 129 #[.int .i64 k] w fun e w' => e = .returned (.tuple #[.agg #[.int .i64 0, .int .i64 0, .int .i64 0], .int .i64 1]) ∧ Below w.heap.size w w' := by
  rcases h with h | h
  all_goals go_enter Try.func129, Try.ntmps129
  all_goals go_wp2
  all_goals exact bodyPost_ret (v := .tuple #[.agg #[.int .i64 0, .int .i64 0, .int .i64 0], .int .i64 1]) (by simp [results, Try.results129, go_sem]) rfl ⟨rfl, (below_one _ _)⟩

/-! ### The parts of a symbol -/
def tupY (j esi : Nat) : UInt32 := UInt32.ofNat (j * 65537 + esi * 31)
def probe (met : List Bool) (w : Nat) : Nat → Nat → Nat
  | 0, x => x
  | f + 1, x => if met.getD x false then probe met w f ((x + 1) % w) else x
def partsStep (w a b : Nat) (s : List Bool × List Nat) (i : Nat) : List Bool × List Nat :=
  let x := probe s.1 w w ((b + i * a) % w)
  (s.1.set x true, s.2 ++ [x])
def partsSt (w a b n : Nat) : List Bool × List Nat := (List.range n).foldl (partsStep w a b) (List.replicate w false, [])
theorem partsSt_succ (w a b n : Nat) : partsSt w a b (n + 1) = partsStep w a b (partsSt w a b n) n := by
  unfold partsSt; rw [List.range_succ, List.foldl_append]; rfl
theorem partsSt_len (w a b n : Nat) : (partsSt w a b n).1.length = w ∧ (partsSt w a b n).2.length = n := by
  induction n with
  | zero => simp [partsSt]
  | succ n ih => rw [partsSt_succ]; simp [partsStep, ih.1, ih.2]
theorem probe_lt (met : List Bool) (w : Nat) (hw : 0 < w) : ∀ (f x : Nat), x < w → probe met w f x < w
  | 0, _, h => h
  | f + 1, x, h => by
    unfold probe
    split
    · exact probe_lt met w hw f _ (Nat.mod_lt _ hw)
    · exact h
theorem partsSt_lt (w a b n : Nat) (hw : 0 < w) : ∀ x ∈ (partsSt w a b n).2, x < w := by
  induction n with
  | zero => simp [partsSt]
  | succ n ih =>
    rw [partsSt_succ]
    intro x hx
    simp only [partsStep, List.mem_append, List.mem_singleton] at hx
    rcases hx with hx | rfl
    · exact ih x hx
    · exact probe_lt _ _ hw _ _ (Nat.mod_lt _ hw)
theorem count_set (l : List Bool) : ∀ (x : Nat), (l.set x true).count true ≤ l.count true + 1 := by
  induction l with
  | nil => intro x; simp
  | cons c l ih =>
    intro x
    cases x with
    | zero => cases c <;> simp
    | succ x => have := ih x; simp only [List.set_cons_succ, List.count_cons]; omega
theorem partsSt_count (w a b n : Nat) : (partsSt w a b n).1.count true ≤ n := by
  induction n with
  | zero => simp [partsSt, List.count_replicate]
  | succ n ih => rw [partsSt_succ]; exact Nat.le_trans (count_set _ _) (by omega)
/-- From x on, fewer than f steps off, stands one that is not yet met. -/
def Reach (met : List Bool) (w f x : Nat) : Prop := ∃ j, j < f ∧ met.getD ((x + j) % w) true = false
theorem reach_of (met : List Bool) (w n : Nat) (hl : met.length = w) (hc : met.count true ≤ n) (hn : n < w) (x : Nat) (hx : x < w) : Reach met w w x := by
  have : ∃ q, ∃ h : q < met.length, met[q] = false := by
    apply Classical.byContradiction
    intro hno
    have : met.count true = met.length := by
      rw [List.count_eq_length]
      intro c hc
      obtain ⟨q, hq, rfl⟩ := List.getElem_of_mem hc
      cases h : met[q]
      · exact absurd ⟨q, hq, h⟩ hno
      · rfl
    omega
  obtain ⟨q, hq, h⟩ := this
  refine ⟨(q + w - x) % w, Nat.mod_lt _ (by omega), ?_⟩
  have e : (x + (q + w - x) % w) % w = q := by
    rw [Nat.add_mod, Nat.mod_mod, ← Nat.add_mod, show x + (q + w - x) = q + w from by omega, Nat.add_mod_right, Nat.mod_eq_of_lt (by omega)]
  rw [e, List.getD_eq_getElem?_getD, List.getElem?_eq_getElem hq, h]
  rfl
theorem reach_zero {met : List Bool} {w x : Nat} : ¬ Reach met w 0 x := fun ⟨_, h, _⟩ => absurd h (Nat.not_lt_zero _)
theorem reach_step {met : List Bool} {w f x : Nat} (hx : x < w) (hl : met.length = w) (h : Reach met w (f + 1) x) (hm : met.getD x false = true) : Reach met w f ((x + 1) % w) := by
  obtain ⟨j, hj, h⟩ := h
  cases j with
  | zero =>
    rw [Nat.add_zero, Nat.mod_eq_of_lt hx] at h
    rw [List.getD_eq_getElem?_getD, List.getElem?_eq_getElem (by omega)] at h hm
    simp at h hm
    rw [h] at hm; cases hm
  | succ j =>
    refine ⟨j, by omega, ?_⟩
    rw [show ((x + 1) % w + j) % w = (x + (j + 1)) % w from by rw [Nat.add_mod, Nat.mod_mod, ← Nat.add_mod]; congr 1; omega]
    exact h
def partsD (k : Nat) (y : UInt32) : Nat := min (Wk k) (degree (rand y 0 1048576))
def parts (k j esi : Nat) : List Nat :=
  (partsSt (Wk k) (1 + rand (tupY j esi) 1 (Wk k - 1)) (rand (tupY j esi) 2 (Wk k)) (partsD k (tupY j esi))).2 ++ [Wk k + rand (tupY j esi) 3 2]
theorem parts_ne (k j esi : Nat) : 0 < (parts k j esi).length := by simp [parts]
theorem parts_len (k j esi : Nat) : (parts k j esi).length ≤ Wk k + 1 := by
  simp only [parts, List.length_append, (partsSt_len _ _ _ _).2, List.length_singleton, partsD]; omega
theorem parts_lt (k j esi : Nat) (hk : 1 ≤ k) : ∀ x ∈ parts k j esi, x < Lk k := by
  intro x hx
  simp only [parts, List.mem_append, List.mem_singleton] at hx
  rcases hx with hx | rfl
  · exact Nat.lt_of_lt_of_le (partsSt_lt _ _ _ _ (by unfold Wk; omega) x hx) (by unfold Lk; omega)
  · have := rand_lt (tupY j esi) 3 2 (by omega); unfold Lk; omega

theorem probe_yes {met : List Bool} {w f x : Nat} (h : met.getD x false = true) : probe met w (f + 1) x = probe met w f ((x + 1) % w) := by rw [probe, if_pos h]
theorem probe_no {met : List Bool} {w f x : Nat} (h : met.getD x false = false) : probe met w f x = x := by
  cases f with
  | zero => rfl
  | succ f => rw [probe, if_neg (by rw [h]; simp)]
def KNat : Kd Nat := KMap KInt (fun n : Nat => (n : Int))
theorem elemInt : Elem Try.prog 22 3 KNat.size 8 := Elem.mk' (z := .int .i64 0) Try.underlying22 (by kernel_rfl) (by decide) rfl
theorem run_make_bools (n : Nat) (h : n ≤ 140737488355328) (w : World) :
    (Instr.makeSlice 278 (.int .i64 (n : Int)) (.int .i64 (n : Int))).run Try.prog w = .ok (.slice (some ⟨w.heap.size, 0, none⟩) n n) (w.alloc (.cells (madeCells #[.bool false] n) 4)) :=
  run_make_row' 278 4 (.bool false) 1 Try.underlying278 (by kernel_rfl) rfl .i64 .i64 n (by omega) (by omega) w

theorem tupY_of (j esi : Nat) : ((j : Int) * 65537 + (esi : Int) * 31) % (4294967296 : Int) = ((tupY j esi).toNat : Int) := by
  unfold tupY
  rw [UInt32.toNat_ofNat']
  omega

end Go.Proofs.Ytpdfcgkeclocoaa
