/- string(b), fountainref14.SameRecord, fountainlaw13.num, Small. -/
import Derived.Test.YtpdfcgkeclocoaaRef1
import Derived.Test.YtpdfcgkeclocoaaKit
import Derived.Laws.BytesArg
import Derived.Laws.IdiomStrings
set_option linter.all false
namespace Go.Proofs.Ytpdfcgkeclocoaa
open Go.RowKit GF
attribute [local go_sem ↓] Go.wp_at_zero Go.wp_at_succ

theorem KBs.str {M : Blocks} {w : World} {A : Option Addr} {c : Nat} {d : List UInt8} (h : KBs.R M w [.slice A d.length c] d) : (convert 37 9 (.slice A d.length c)).run Try.prog w = .ok (.string ⟨d.toArray⟩) w := by
  cases A with
  | none =>
    have hd : d = [] := by
      obtain ⟨A', c', e, h1, -, -, h4, -⟩ := KSl.val h
      injection e with e1 _ _
      have := h4 e1.symm
      exact List.eq_nil_of_length_eq_zero (by omega)
    subst hd
    exact run_convert_bytes_nil w _ _ Try.underlying37 Try.underlying5 _ _ _ Try.underlying9
  | some a =>
    refine run_convert_bytes_back w _ _ _ a c d Try.underlying37 Try.underlying5 Try.underlying9 fun j hj => ?_
    obtain ⟨ad, e, hc⟩ := KBs.byte h hj
    cases e
    exact hc
theorem num13_any (x : Int) (w : World) : Calls Try.prog 21 #[.int .i64 x] w fun e w' => e = .returned (.int .i64 x) ∧ w = w' := by
  go_enter Try.func21, Try.ntmps21
  go_wp2
  go_ret
  exact ⟨rfl, rfl⟩
set_option maxHeartbeats 1000000 in
theorem same_yes (ca cb : List Value) (r : RecD) (w : World) (ha : KRec.R noB w ca r) (hb : KRec.R noB w cb r) :
    Calls Try.prog 29 #[.agg ca.toArray, .agg cb.toArray] w fun e w' => e = .returned (.bool true) ∧ Below w.heap.size w w' := by
  obtain ⟨va, rfl, ha, -⟩ := ha
  obtain ⟨vb, rfl, hb, -⟩ := hb
  obtain ⟨A, c, rfl, -⟩ := KSl.val ha
  obtain ⟨B, d, rfl, -⟩ := KSl.val hb
  obtain ⟨p, n, ⟨b, z, m⟩, bl, e, g, t, dd⟩ := r
  simp only at *
  have hs1 := fun W (hW : Below w.heap.size w W) => KBs.str (Kd.below ha hW)
  have hs2 := fun W (hW : Below w.heap.size w W) => KBs.str (Kd.below hb hW)
  have hw2 : Below w.heap.size w ((w.alloc (.cells #[.int .i64 p, .int .i64 n, .int .i64 b, .int .i64 z, .int .i64 m, .int .i64 bl, .int .i64 e, .bool g, .int .i64 t, .slice A dd.length c] 39)).alloc (.cells #[.int .i64 p, .int .i64 n, .int .i64 b, .int .i64 z, .int .i64 m, .int .i64 bl, .int .i64 e, .bool g, .int .i64 t, .slice B dd.length d] 39)) := (below_one w _).alloc (by simp) _
  have k1 := hs1 _ hw2
  have k2 := hs2 _ hw2
  clear hs1 hs2 ha hb
  go_enter Try.func29, Try.ntmps29
  go_wp2
  go_ret
  exact ⟨rfl, hw2⟩
theorem small_any (b z m : Int) (w : World) : Calls Try.prog 18 #[.agg #[.int .i64 b, .int .i64 z, .int .i64 m]] w fun e w' => (∃ x, e = .returned (.bool x)) ∧ Below w.heap.size w w' := by
  by_cases d1 : b ≤ 300
  · by_cases d2 : m ≤ 10
    · have h1 : decide (b ≤ 300) = true := by simpa using d1
      have h2 : decide (m ≤ 10) = true := by simpa using d2
      have hbl : ∃ n : Nat, ∀ W, Calls Try.prog 23 #[.agg #[.int .i64 b, .int .i64 z, .int .i64 m]] W fun e w' => e = .returned (.int .i64 (n : Nat)) ∧ Below W.heap.size W w' := by
        by_cases hr : (⟨b, z, m⟩ : ShapeD).right
        · obtain ⟨s, hs, e⟩ := ShapeD.shp hr
          injection e with e1 e2 e3
          subst e1 e2 e3
          exact ⟨_, refBlocks_yes s hs⟩
        · exact ⟨0, refBlocks_no b z m hr⟩
      obtain ⟨n, hbl⟩ := hbl
      clear d1 d2
      go_enter Try.func18, Try.ntmps18
      go_wp2_with fail
      refine (hbl _).mono ?_
      rintro e w' ⟨rfl, hb⟩
      go_wp2
      go_ret
      exact ⟨⟨_, rfl⟩, (below_one w _).trans (hb.mono (by simp))⟩
    · have h1 : decide (b ≤ 300) = true := by simpa using d1
      have h2 : decide (m ≤ 10) = false := by simpa using d2
      clear d1 d2
      go_enter Try.func18, Try.ntmps18
      go_wp2
      go_ret
      exact ⟨⟨_, rfl⟩, below_one w _⟩
  · have h1 : decide (b ≤ 300) = false := by simpa using d1
    clear d1
    go_enter Try.func18, Try.ntmps18
    go_wp2
    go_ret
    exact ⟨⟨_, rfl⟩, below_one w _⟩
end Go.Proofs.Ytpdfcgkeclocoaa
