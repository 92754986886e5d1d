/- The walks of package params, and of random. -/
import Derived.Test.YtpdfcgkeclocoaaProg
import Derived.Test.YtpdfcgkeclocoaaWords
import Derived.BigQuiet
import Derived.Deep.RegionWith
import Derived.Deep.DrawnRows
import Derived.LoopTactic
import Derived.Deep.QuietTactic
set_option linter.all false
namespace Go.Proofs.Ytpdfcgkeclocoaa
open Go.RowKit
attribute [local go_sem ↓] Go.wp_at_zero Go.wp_at_succ

def stir (x : UInt32) : UInt32 :=
  let x := x ^^^ x >>> 16
  let x := x * 2146121005
  let x := x ^^^ x >>> 15
  let x := x * 2221713035
  x ^^^ x >>> 16
theorem stir_any (x : UInt32) (w : World) : Calls Try.prog 119 #[.int .u32 x.toNat] w fun e w' => e = .returned (.int .u32 (stir x).toNat) ∧ w = w' := by
  have hx := x.toNat_lt
  go_enter Try.func119, Try.ntmps119
  go_wp2
  go_ret
  refine ⟨ret_int ?_, rfl⟩
  simp only [shr32_16, shr32_15, x32, mul32_first, mul32_second, stir]

def rand (y i : UInt32) (m : Nat) : Nat := if m < 1 then 0 else (stir (stir y + i * 2654435769)).toNat % m
theorem rand_lt (y i : UInt32) (m : Nat) (h : 0 < m) : rand y i m < m := by
  unfold rand; rw [if_neg (by omega)]; exact Nat.mod_lt _ h
set_option maxRecDepth 10000 in
theorem rand_any (y i : UInt32) (m : Nat) (hm : (m : Int) ≤ 9223372036854775807) (w : World) : Calls Try.prog 90 #[.int .u32 y.toNat, .int .u32 i.toNat, .int .i64 m] w fun e w' => e = .returned (.int .i64 (rand y i m)) ∧ w = w' := by
  by_cases h : m < 1
  · have : m = 0 := by omega
    subst this
    go_enter Try.func90, Try.ntmps90
    go_wp2
    go_ret
    exact ⟨rfl, rfl⟩
  · have hi := i.toNat_lt
    have hr1 : rand y i m = (stir (stir y + i * 2654435769)).toNat % m := by
      show rand y i m = _
      unfold rand; rw [if_neg h]
    have e1 := mul32_golden i
    generalize i * 2654435769 = u at e1 hr1
    have e2 := add32 (stir y) u
    generalize stir y + u = s at e2 hr1
    have hz := (stir s).toNat_lt
    have hm0 : (0 : Int) < (m : Int) := by omega
    have hr : Hid (rand y i m = (stir s).toNat % m) := hr1
    clear hr1
    go_enter Try.func90, Try.ntmps90
    go_wp2_with fail
    refine (stir_any _ _).mono ?_; rintro e w' ⟨rfl, rfl⟩
    go_wp2_with fail
    refine (stir_any _ _).mono ?_; rintro e w' ⟨rfl, rfl⟩
    go_wp2_with fail
    go_ret
    exact ⟨ret_int (by rw [hr.out, Int.natCast_emod]), rfl⟩

def degSteps : List Int := [5243, 529531, 704294, 791675, 844104, 879057, 904023]
def degree (v : Nat) : Nat := 1 + (degSteps.filter fun s => s ≤ (v : Int)).length

/-- A block of whole numbers. -/
def intsV (l : List Int) : List Value := l.map fun x => .int .i64 x
theorem steps_any (w : World) : Calls Try.prog 252 #[] w fun e w' => e = .returned (.slice (some ⟨w.heap.size, 0, none⟩) 7 7) ∧ Blk w' w.heap.size 3 (intsV degSteps) ∧ Below w.heap.size w w' := by
  go_enter Try.func252, Try.ntmps252
  go_wp2
  go_ret
  exact ⟨rfl, Blk.new w _ (intsV degSteps), below_one _ _⟩

theorem degree_step {v : Nat} {k : Nat} (h : k < degSteps.length) : (1 + ((degSteps.take (k + 1)).filter fun s => s ≤ (v : Int)).length) = (1 + ((degSteps.take k).filter fun s => s ≤ (v : Int)).length) + (if degSteps[k] ≤ (v : Int) then 1 else 0) := by
  rw [List.take_succ_eq_append_getElem h, List.filter_append, List.length_append, Nat.add_assoc]
  congr 2
  by_cases hc : degSteps[k] ≤ (v : Int) <;> simp [hc]

set_option maxHeartbeats 400000 in
theorem degree_any (v : Nat) (hv : v ≤ 1048575) (w : World) : Calls Try.prog 232 #[.int .i64 v] w fun e w' => e = .returned (.int .i64 (degree v)) ∧ Below w.heap.size w w' := by
  have e1 : (if (1048575 : Int) < (v : Int) then (1048575 : Int) else (v : Int)) = (v : Int) := if_neg (by omega)
  have e1' : (if (1048575 : Nat) < v then (1048575 : Int) else (v : Int)) = (v : Int) := if_neg (by omega)
  have e2 : (if 0 < v then (v : Int) else 0) = (v : Int) := by split <;> omega
  have e3 : (if 0 < (v : Int) then (v : Int) else 0) = (v : Int) := by split <;> omega
  go_enter Try.func232, Try.ntmps232
  go_wp2_with fail
  refine (steps_any w).mono ?_
  rintro e w1 ⟨rfl, hblk, hb1⟩
  clear e1 e1' e2 e3
  have hblt := hblk.lt
  go_wp2
  generalize hB : w.heap.size = B at *
  have HV : Hid (v ≤ 1048575) := hv
  go_loop [3, 11] (fun n i => ∃ k : Nat, k ≤ 7 ∧ i = .int .i64 k ∧ n = .int .i64 (1 + ((degSteps.take k).filter fun s => s ≤ (v : Int)).length : Nat)) (fun _ i => 7 - (intOf i).toNat)
  case atStart => exact ⟨0, Nat.zero_le _, rfl, rfl⟩
  case round =>
    obtain ⟨k, hk, rfl, rfl⟩ := hrel
    by_cases hlt : k < 7
    · have hcell := hblk.cell k
      have hge : (intsV degSteps)[k]? = some (.int .i64 (degSteps[k]'hlt)) := by rw [intsV, List.getElem?_map, List.getElem?_eq_getElem (show k < degSteps.length from hlt)]; rfl
      rw [hge] at hcell
      have hstep := degree_step (v := v) (k := k) hlt
      generalize hq : ((degSteps.take k).filter fun s => s ≤ (v : Int)).length = q at hstep
      generalize hq' : ((degSteps.take (k + 1)).filter fun s => s ≤ (v : Int)).length = q' at hstep
      have hq7 : q ≤ 7 := by
        rw [← hq]
        exact Nat.le_trans (List.length_filter_le _ _) (Nat.le_trans (List.length_take_le _ _) (by omega))
      have HQ : Hid (((degSteps.take (k + 1)).filter fun s => s ≤ (v : Int)).length = q') := hq'
      clear hq hq' hge
      generalize degSteps[k]'hlt = d at hcell hstep
      have HS : Hid (1 + q' = 1 + q + if d ≤ (v : Int) then 1 else 0) := hstep
      clear hstep
      by_cases hd : d ≤ (v : Int)
      · go_wp2
        go_round
        case rel => exact ⟨k + 1, by omega, by go_num, val_int (by have := HS.out; rw [if_pos hd] at this; rw [HQ.out]; omega)⟩
        case measure => simp [intOf]; omega
      · go_wp2
        go_round
        case rel => exact ⟨k + 1, by omega, by go_num, val_int (by have := HS.out; rw [if_neg hd] at this; rw [HQ.out]; omega)⟩
        case measure => simp [intOf]; omega
    · have e : k = 7 := by omega
      subst e
      go_wp2
      go_ret
      exact ⟨rfl, hb1⟩

def Sk (k : Nat) : Nat := 2 + k / 8
def Wk (k : Nat) : Nat := k + Sk k
def Lk (k : Nat) : Nat := Wk k + 2

theorem params_W (a b c : Nat) (ha : a ≤ 1000) (hb : b ≤ 1000) (w : World) : Calls Try.prog 222 #[.agg #[.int .i64 a, .int .i64 b, .int .i64 c]] w fun e w' => e = .returned (.int .i64 ((a : Int) + (b : Int))) ∧ w.alloc (.cells #[.int .i64 a, .int .i64 b, .int .i64 c] 155) = w' := by
  go_enter Try.func222, Try.ntmps222
  go_wp2
  go_ret
  exact ⟨rfl, rfl⟩
theorem params_L (a b c : Nat) (ha : a ≤ 1000) (hb : b ≤ 1000) (hc : c ≤ 1000) (w : World) : Calls Try.prog 184 #[.agg #[.int .i64 a, .int .i64 b, .int .i64 c]] w fun e w' => e = .returned (.int .i64 (a + b + c : Nat)) ∧ Below w.heap.size w w' := by
  go_enter Try.func184, Try.ntmps184
  go_wp2_with fail
  go_region_with (go_at_call 222; refine (params_W a b c ha hb _).mono ?_; rintro e w' ⟨rfl, rfl⟩)
  all_goals go_wp2
  all_goals go_ret
  all_goals exact ⟨ret_int (by simp; rw [IntKind.wrap_i64]; omega), (((Below.refl _ _).alloc (Nat.le_refl _) _).alloc (by simp) _).drew⟩
theorem params_of_yes (k : Nat) (h1 : 1 ≤ k) (h2 : k ≤ 40) (w : World) : Calls Try.prog 129 #[.int .i64 k] w fun e w' => e = .returned (.tuple #[.agg #[.int .i64 k, .int .i64 (Sk k), .int .i64 2], .int .i64 0]) ∧ Below w.heap.size w w' := by
  go_enter Try.func129, Try.ntmps129
  go_wp2
  exact bodyPost_ret (v := .tuple #[.agg #[.int .i64 k, .int .i64 (Sk k), .int .i64 2], .int .i64 0]) (by simp [results, Try.results129, go_sem, Sk]) rfl ⟨rfl, (below_one _ _)⟩
end Go.Proofs.Ytpdfcgkeclocoaa
