/- The walk of seed.Find. -/
import Derived.Test.YtpdfcgkeclocoaaRank
import Derived.Test.YtpdfcgkeclocoaaSources
import Derived.Test.YtpdfcgkeclocoaaMatrix
import Derived.Test.YtpdfcgkeclocoaaRely
set_option linter.all false
namespace Go.Proofs.Ytpdfcgkeclocoaa
open Go.RowKit GF
attribute [local go_sem ↓] Go.wp_at_zero Go.wp_at_succ

def goodJ (k j : Nat) : Bool := rankOf (Lk k) (matrix k j (List.range k)) == Lk k
def findJ (k : Nat) : Option Nat := (List.range 256).find? (goodJ k)
theorem findJ_some {k j : Nat} (hj : j < 256) (h : goodJ k j = true) (hb : ∀ i, i < j → goodJ k i = false) : findJ k = some j := by
  unfold findJ
  rw [List.find?_eq_some_iff_getElem]
  refine ⟨h, j, by simpa using hj, by simp, fun i hi => ?_⟩
  simp [hb i hi]
theorem findJ_none {k : Nat} (hb : ∀ i, i < 256 → goodJ k i = false) : findJ k = none := by
  unfold findJ
  rw [List.find?_eq_none]
  intro i hi
  simp [hb i (by simpa using hi)]
theorem findJ_le {k j : Nat} (h : findJ k = some j) : j ≤ 255 := by
  have := List.mem_of_find?_eq_some h
  simp at this; omega
theorem findJ_good {k j : Nat} (h : findJ k = some j) : goodJ k j = true := List.find?_some h

def findV : Option Nat → Int × Int
  | some j => (j, 0)
  | none => (0, 5)
def findE (k : Nat) : Int × Int := findV (findJ k)

theorem find_no (k : Int) (h : k < 1 ∨ 40 < k) (w : World) : Calls Try.prog 134 #[.int .i64 k] w fun e w' => e = .returned (.tuple #[.int .i64 0, .int .i64 1]) ∧ Below w.heap.size w w' := by
  have hof := params_of_no k h
  clear h
  go_enter Try.func134, Try.ntmps134
  go_wp2_with fail
  refine (hof _).mono ?_
  rintro e w1 ⟨rfl, hb⟩
  go_wp2
  go_ret2
  exact ⟨rfl, hb.alloc (hb.size) _⟩
theorem matrix_length (k j : Nat) (l : List Nat) : (matrix k j l).length = Sk k + 2 + l.length := by simp [matrix, low, high]; omega

set_option maxRecDepth 100000 in
set_option maxHeartbeats 400000 in
theorem find_yes (k : Nat) (h1 : 1 ≤ k) (h2 : k ≤ 40) (w : World) : Calls Try.prog 134 #[.int .i64 k] w fun e w' => e = .returned (.tuple #[.int .i64 (findE k).1, .int .i64 (findE k).2]) ∧ Below w.heap.size w w' := by
  have hof := params_of_yes k h1 h2
  have hL := params_L' k h2
  have hsrc := sources_any k h2
  have hmat := fun (j : Nat) (hj : j ≤ 255) (v : Value) (W : World) (hv : (KSl 8 KNat).R noB W [v] (List.range k)) => matrix_any k j h1 h2 hj (List.range k) v W hv (fun x hx => by simp at hx; omega) (by simp; omega)
  have hrank := fun (j : Nat) (v : Value) (W : World) (hv : KRows.R noB W [v] (matrix k j (List.range k))) => rank_any (Lk k) (by unfold Lk Wk Sk; omega) v _ W hv (by rw [matrix_length]; unfold Sk; omega) (by rw [matrix_length]; simp [Sk]; omega)
  have hml := fun j => matrix_length k j (List.range k)
  simp only [List.length_range] at hml
  have hsk : Sk k ≤ 7 := by unfold Sk; omega
  have hgd := fun j => show goodJ k j = (rankOf (Lk k) (matrix k j (List.range k)) == Lk k) from rfl
  have hfs := fun j => findJ_some (k := k) (j := j)
  have hfn := findJ_none (k := k)
  have hfe : findE k = findV (findJ k) := rfl
  have hlk : Lk k ≤ 60 := by unfold Lk Wk Sk; omega
  generalize findE k = fe at *
  generalize goodJ k = good at *
  generalize findJ k = fj at *
  generalize matrix k = mx at *
  generalize rankOf (Lk k) = rk at *
  generalize Lk k = L at *
  generalize hS0 : Sk k = S0 at *
  clear hS0
  have HE : Hid (fe = findV fj) := hfe
  have HG : Hid (∀ j, good j = (rk (mx j (List.range k)) == L)) := hgd
  have HM : Hid (∀ j, (mx j (List.range k)).length = S0 + 2 + k) := hml
  clear hfe hgd hml
  go_enter Try.func134, Try.ntmps134
  go_wp2_with fail
  refine (hof _).mono ?_
  rintro e w1 ⟨rfl, hb1⟩
  clear hof
  go_wp2_with fail
  have hx : Blk (w1.alloc (.cells #[.int .i64 k, .int .i64 S0, .int .i64 2] 155)) w1.heap.size 155 [.int .i64 k, .int .i64 S0, .int .i64 2] := (Blk.new w1 _ _)
  have hbel0 : Below w.heap.size w (w1.alloc (.cells #[.int .i64 k, .int .i64 S0, .int .i64 2] 155)) := hb1.alloc hb1.size _
  have hsz0 : (w1.alloc (.cells #[.int .i64 k, .int .i64 S0, .int .i64 2] 155)).heap.size = w1.heap.size + 1 := by simp
  generalize w1.alloc (.cells #[.int .i64 k, .int .i64 S0, .int .i64 2] 155) = wa at *
  have hlt0 : w1.heap.size < wa.heap.size := by omega
  clear hsz0
  go_loopw [15] (fun i wr => ∃ n : Nat, n ≤ 256 ∧ i = .int .i64 n ∧ (∀ q, q < n → good q = false) ∧ Below wa.heap.size wa wr) (fun i _ => 256 - (intOf i).toNat)
  case atStart => exact ⟨0, Nat.zero_le _, rfl, fun q h => absurd h (Nat.not_lt_zero _), Below.refl _ _⟩
  case round =>
    obtain ⟨n, hn, rfl, hbad, hbel⟩ := hrel
    have HB : Hid (∀ q, q < n → good q = false) := hbad
    clear hbad
    have hsz := hbel.size
    by_cases hlt : n < 256
    · have hxr := hx.below hbel
      have hc0 := hxr.cell 0
      have hc1 := hxr.cell 1
      have hc2 := hxr.cell 2
      simp only [List.getElem?_cons_zero, List.getElem?_cons_succ] at hc0 hc1 hc2
      have hltr := hxr.lt
      have hmn := hmat n (by omega)
      have hrn := hrank n
      have hgn := HG.out n
      have hml := HM.out n
      generalize mx n (List.range k) = mm at *
      generalize rk mm = rr at *
      have hmb : mm.length ≤ 60 := by omega
      clear hmat hrank HG HM hml
      go_upto_region 7 with fail
      refine wp_region_rely [0, 2, 3, 4, 8] [0, 2, 8] [1, 5, 6, 7, 9, 10] [] (fun w' => w'.cell? ⟨w1.heap.size, 0, none⟩ = some (.int .i64 k) ∧ w'.cell? ⟨w1.heap.size, 1, none⟩ = some (.int .i64 S0) ∧ w'.cell? ⟨w1.heap.size, 2, none⟩ = some (.int .i64 2))
        (fun d vs w' => Below wr.heap.size wr w' ∧ (d 1 = true → vs 1 = .int .i64 L) ∧ (d 5 = true → (KSl 8 KNat).R noB w' [vs 5] (List.range k)) ∧ (d 6 = true → KRows.R noB w' [vs 6] mm) ∧ (d 7 = true → vs 7 = .int .i64 rr) ∧ (d 9 = true → vs 9 = .int .i64 L) ∧ (d 10 = true → vs 10 = .bool ((rr : Int) == (L : Int))))
        (by kernel_rfl) (by kernel_rfl) (fun _ _ _ _ _ h => h) ⟨hc0, hc1, hc2⟩ ?_
      simp only [List.map_cons, List.map_nil, opAt, List.getD_cons_zero, List.getD_cons_succ, List.contains_cons, List.contains_nil, Nat.reduceBEq, Bool.or_false, Bool.or_true]
      apply front_hot
      · intro w9 hS
        obtain ⟨hS0, hS1, hS2⟩ := hS
        go_simp
        with_reducible rfl
      go_simp
      apply front_hot
      · intro w9 hS
        obtain ⟨hS0, hS1, hS2⟩ := hS
        go_simp
        with_reducible rfl
      go_simp
      iterate 2
        apply front_cons
        · intro w9
          go_simp
          with_reducible rfl
        go_simp
      apply front_hot
      · intro w9 hS
        obtain ⟨hS0, hS1, hS2⟩ := hS
        go_simp
        with_reducible rfl
      go_simp
      refine front_nil ⟨⟨(Below.refl _ _).drew, by simp, by simp, by simp, by simp, by simp, by simp⟩, rfl, ⟨?_, ?_, ?_, ?_, ?_, ?_, trivial⟩, ?_⟩
      · intro d vs w5 hJ hS hd hdep K X hK
        simp only [fullA, opAt, List.getD_cons_zero, List.getD_cons_succ] at hK ⊢
        go_simp
        refine (hL _).mono ?_
        rintro e w6 ⟨rfl, hb⟩
        have j0 := hJ.1
        have j1 := hJ.2.1
        have j5 := hJ.2.2.1
        have j6 := hJ.2.2.2.1
        have j7 := hJ.2.2.2.2.1
        have j9 := hJ.2.2.2.2.2.1
        have j10 := hJ.2.2.2.2.2.2
        have s0 := hS.1
        have s1 := hS.2.1
        have s2 := hS.2.2
        refine hK _ (.int .i64 L) _ (fun t ht => by cases ht; rfl) rfl ⟨j0.trans (hb.mono j0.size), ?_, ?_, ?_, ?_, ?_, ?_⟩ ⟨cell_below hb _ _ s0, cell_below hb _ _ s1, cell_below hb _ _ s2⟩
        · simp [updV]
        · exact fun h => Kd.below (j5 h) hb
        · exact fun h => Kd.below (j6 h) hb
        · exact j7
        · exact j9
        · exact j10
      · intro d vs w5 hJ hS hd hdep K X hK
        simp only [fullA, opAt, List.getD_cons_zero, List.getD_cons_succ] at hK ⊢
        go_simp
        refine (hsrc _).mono ?_
        rintro e w6 ⟨v, rfl, ho, hb⟩
        have j0 := hJ.1
        have j1 := hJ.2.1
        have j5 := hJ.2.2.1
        have j6 := hJ.2.2.2.1
        have j7 := hJ.2.2.2.2.1
        have j9 := hJ.2.2.2.2.2.1
        have j10 := hJ.2.2.2.2.2.2
        have s0 := hS.1
        have s1 := hS.2.1
        have s2 := hS.2.2
        refine hK _ v _ (fun t ht => by cases ht; rfl) rfl ⟨j0.trans (hb.mono j0.size), ?_, ?_, ?_, ?_, ?_, ?_⟩ ⟨cell_below hb _ _ s0, cell_below hb _ _ s1, cell_below hb _ _ s2⟩
        · exact j1
        · exact fun _ => ho.sl (by simp; omega) (fun _ _ h => h.elim) (fun _ _ h => h)
        · exact fun h => Kd.below (j6 h) hb
        · exact j7
        · exact j9
        · exact j10
      · intro d vs w5 hJ hS hd hdep K X hK
        have d5 := hdep 5 (by kernel_rfl) rfl
        simp only [fullA, opAt, List.getD_cons_zero, List.getD_cons_succ] at hK ⊢
        have j0 := hJ.1
        have j1 := hJ.2.1
        have j5 := hJ.2.2.1
        have j6 := hJ.2.2.2.1
        have j7 := hJ.2.2.2.2.1
        have j9 := hJ.2.2.2.2.2.1
        have j10 := hJ.2.2.2.2.2.2
        have s0 := hS.1
        have s1 := hS.2.1
        have s2 := hS.2.2
        have h5 := hmn _ _ (j5 d5)
        go_simp
        refine h5.mono ?_
        rintro e w6 ⟨v, rfl, ho, hb⟩
        refine hK _ v _ (fun t ht => by cases ht; rfl) rfl ⟨j0.trans (hb.mono j0.size), ?_, ?_, ?_, ?_, ?_, ?_⟩ ⟨cell_below hb _ _ s0, cell_below hb _ _ s1, cell_below hb _ _ s2⟩
        · exact j1
        · exact fun h => Kd.below (j5 h) hb
        · exact fun _ => ho.sl (by omega) (fun _ _ h => h.elim) (fun _ _ h => h)
        · exact j7
        · exact j9
        · exact j10
      · intro d vs w5 hJ hS hd hdep K X hK
        have d1 := hdep 1 (by kernel_rfl) rfl
        have d6 := hdep 6 (by kernel_rfl) rfl
        simp only [fullA, opAt, List.getD_cons_zero, List.getD_cons_succ] at hK ⊢
        have j0 := hJ.1
        have j1 := hJ.2.1
        have j5 := hJ.2.2.1
        have j6 := hJ.2.2.2.1
        have j7 := hJ.2.2.2.2.1
        have j9 := hJ.2.2.2.2.2.1
        have j10 := hJ.2.2.2.2.2.2
        have s0 := hS.1
        have s1 := hS.2.1
        have s2 := hS.2.2
        have h6 := hrn _ _ (j6 d6)
        have h1 := j1 d1
        go_simp
        refine h6.mono ?_
        rintro e w6 ⟨rfl, hb⟩
        refine hK _ (.int .i64 rr) _ (fun t ht => by cases ht; rfl) rfl ⟨j0.trans (hb.mono j0.size), ?_, ?_, ?_, ?_, ?_, ?_⟩ ⟨cell_below hb _ _ s0, cell_below hb _ _ s1, cell_below hb _ _ s2⟩
        · exact j1
        · exact fun h => Kd.below (j5 h) hb
        · exact fun h => Kd.below (j6 h) hb
        · simp [updV]
        · exact j9
        · exact j10
      · intro d vs w5 hJ hS hd hdep K X hK
        simp only [fullA, opAt, List.getD_cons_zero, List.getD_cons_succ] at hK ⊢
        go_simp
        refine (hL _).mono ?_
        rintro e w6 ⟨rfl, hb⟩
        have j0 := hJ.1
        have j1 := hJ.2.1
        have j5 := hJ.2.2.1
        have j6 := hJ.2.2.2.1
        have j7 := hJ.2.2.2.2.1
        have j9 := hJ.2.2.2.2.2.1
        have j10 := hJ.2.2.2.2.2.2
        have s0 := hS.1
        have s1 := hS.2.1
        have s2 := hS.2.2
        refine hK _ (.int .i64 L) _ (fun t ht => by cases ht; rfl) rfl ⟨j0.trans (hb.mono j0.size), ?_, ?_, ?_, ?_, ?_, ?_⟩ ⟨cell_below hb _ _ s0, cell_below hb _ _ s1, cell_below hb _ _ s2⟩
        · exact j1
        · exact fun h => Kd.below (j5 h) hb
        · exact fun h => Kd.below (j6 h) hb
        · exact j7
        · simp [updV]
        · exact j10
      · intro d vs w5 hJ hS hd hdep K X hK
        have d7 := hdep 7 (by kernel_rfl) rfl
        have d9 := hdep 9 (by kernel_rfl) rfl
        simp only [fullA, opAt, List.getD_cons_zero, List.getD_cons_succ] at hK ⊢
        have j0 := hJ.1
        have j1 := hJ.2.1
        have j5 := hJ.2.2.1
        have j6 := hJ.2.2.2.1
        have j7 := hJ.2.2.2.2.1
        have j9 := hJ.2.2.2.2.2.1
        have h7 := j7 d7
        have h9 := j9 d9
        clear hJ
        go_simp
        refine hK _ (.bool ((rr : Int) == (L : Int))) _ (fun t ht => by cases ht; rfl) rfl ⟨j0, j1, j5, j6, fun _ => h7, fun _ => h9, by simp [updV]⟩ hS
      · intro d vs w5 hd hJ hS
        have j0 := hJ.1
        have h10 := hJ.2.2.2.2.2.2 (hd 10 rfl)
        clear hJ
        have hb5 : Below w.heap.size w w5 := hbel0.trans ((hbel.trans (j0.mono hsz)).mono hbel0.size)
        have hb25 : Below wa.heap.size wa w5 := hbel.trans (j0.mono hsz)
        simp only [List.map_nil]
        refine front_nil ?_
        simp only [fullA, opAt, List.getD_cons_zero, List.getD_cons_succ]
        by_cases hrl : rr = L
        · have hg : ((rr : Int) == (L : Int)) = true := beq_iff_eq.2 (by omega)
          have hgood : good n = true := by rw [hgn]; exact beq_iff_eq.2 hrl
          have hfj := hfs n hlt hgood HB.out
          rw [hfj] at HE
          have HE2 : Hid (fe = ((n : Int), 0)) := HE.out
          rw [hg] at h10
          clear hfs hfn hgn hgood hrl hg HE hfj
          go_simp
          go_wp2
          go_ret2
          exact ⟨by rw [HE2.out]; rfl, hb5⟩
        · have hg : ((rr : Int) == (L : Int)) = false := beq_eq_false_iff_ne.2 (by omega)
          have hgood : good n = false := by rw [hgn]; exact beq_eq_false_iff_ne.2 hrl
          have HB2 : Hid (∀ q, q < n + 1 → good q = false) := fun q hq => by
            by_cases e : q = n
            · rw [e]; exact hgood
            · exact HB.out q (by omega)
          rw [hg] at h10
          clear hfs hfn hgn hgood hrl hg HE
          go_simp
          go_wp2
          go_roundw
          case rel => exact ⟨n + 1, by omega, by go_num, HB2.out, hb25⟩
          case measure => simp [intOf]; omega
    · have e : n = 256 := by omega
      subst e
      have hfj := hfn HB.out
      rw [hfj] at HE
      have HE2 : Hid (fe = ((0 : Int), 5)) := HE.out
      clear hfs hfn HE hfj
      go_wp2
      go_ret2
      exact ⟨by rw [HE2.out]; rfl, hbel0.trans (hbel.mono hbel0.size)⟩
end Go.Proofs.Ytpdfcgkeclocoaa
