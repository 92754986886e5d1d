/- The walks of fountainlaw24.alive and MintBeyond. -/
import Derived.Test.YtpdfcgkeclocoaaMint
set_option linter.all false
namespace Go.Proofs.Ytpdfcgkeclocoaa
open Go.RowKit GF
attribute [local go_sem ↓] Go.wp_at_zero Go.wp_at_succ

theorem num24_any (x : Int) (w : World) : Calls Try.prog 89 #[.int .i64 x] w fun e w' => e = .returned (.int .i64 x) ∧ w = w' := by
  go_enter Try.func89, Try.ntmps89
  go_wp2
  go_ret
  exact ⟨rfl, rfl⟩
theorem alive24_any (w : World) : Calls Try.prog 30 #[] w fun e w' => e = .returned (.bool true) ∧ Below w.heap.size w w' := by
  have hok : (⟨1, 1, 1⟩ : Shp).Ok := ⟨by decide, by decide, by decide, by decide, by decide, by decide⟩
  have hi0 : IsInt 0 := by unfold IsInt; omega
  have hf := fun (W : World) => fresh_any ⟨1, 1, 1⟩ hok 0 0 0 0 0 (.slice none 0 0) [] W hi0 hi0 hi0 hi0 hi0 KSl.nil (by simp)
  have he : freshO ⟨1, 1, 1⟩ 0 0 0 0 [] = .error 4 := by
    have h : (match freshO ⟨1, 1, 1⟩ 0 0 0 0 [] with | .error q => q | .ok _ => 0) = 4 := by decide +kernel
    cases hc : freshO ⟨1, 1, 1⟩ 0 0 0 0 [] with
    | ok r => rw [hc] at h; simp at h
    | error q => rw [hc] at h; rw [← h]
  rw [he] at hf
  have hes := esi_any 1 1
  have hge : 40 ≤ esiO 1 1 := Nat.le_add_right _ _
  generalize esiO 1 1 = z at *
  clear he
  go_enter Try.func30, Try.ntmps30
  go_wp2_with fail
  refine (hf _).mono ?_
  rintro e w1 ⟨cs, q, rfl, hb1, hc, rfl⟩
  rw [hc]
  clear hf
  unfold zeroRec
  go_wp2_with fail
  refine (hes _).mono ?_
  rintro e w2 ⟨rfl, rfl⟩
  have e1 : decide ((40 : Int) ≤ (z : Int)) = true := by simp; omega
  go_wp2_with fail
  refine (num24_any _ _).mono ?_
  rintro e w2 ⟨rfl, rfl⟩
  go_wp2
  go_ret
  exact ⟨rfl, hb1.alloc hb1.size _⟩
theorem beyond_any (a b : Int) (w : World) : Calls Try.prog 7 #[.int .i64 a, .int .i64 b] w fun e w' => e = .returned (.bool true) ∧ Below w.heap.size w w' := by
  have ha := alive24_any
  have hes := esi_any a b
  have hge : 40 ≤ esiO a b := Nat.le_add_right _ _
  have hlt : esiO a b < 16777216 := by
    have := rand_lt (UInt32.ofNat (a % 4294967296).toNat) (UInt32.ofNat (b % 4294967296).toNat) 16777176 (by decide)
    unfold esiO; omega
  generalize esiO a b = z at *
  go_enter Try.func7, Try.ntmps7
  go_wp2_with fail
  refine (ha _).mono ?_
  rintro e w1 ⟨rfl, hb1⟩
  go_wp2_with fail
  refine (hes _).mono ?_
  rintro e w2 ⟨rfl, rfl⟩
  have e1 : decide ((40 : Int) ≤ (z : Int)) = true := by simp; omega
  have e2 : decide ((z : Int) < (16777216 : Int)) = true := by simp; omega
  go_wp2
  go_ret
  exact ⟨rfl, hb1⟩
end Go.Proofs.Ytpdfcgkeclocoaa
