/- The walks of fountainref1: RightShape, Symbols, Blocks, K. -/
import Derived.Test.YtpdfcgkeclocoaaSplit
import Derived.Test.YtpdfcgkeclocoaaPlan
set_option linter.all false
namespace Go.Proofs.Ytpdfcgkeclocoaa
open Go.RowKit GF
attribute [local go_sem ↓] Go.wp_at_zero Go.wp_at_succ

theorem refRight_yes (b z m : Int) (h : (⟨b, z, m⟩ : ShapeD).right) (w : World) : Calls Try.prog 27 #[.agg #[.int .i64 b, .int .i64 z, .int .i64 m]] w fun e w' => e = .returned (.bool true) ∧ Below w.heap.size w w' := by
  obtain ⟨⟨h1, h2⟩, ⟨h3, h4⟩, h5, h6⟩ := h
  simp only at h1 h2 h3 h4 h5 h6
  have d1 : decide (1 ≤ b) = true := by simpa using h1
  have d2 : decide (b ≤ 4000) = true := by simpa using h2
  have d3 : decide (1 ≤ z) = true := by simpa using h3
  have d4 : decide (z ≤ 64) = true := by simpa using h4
  have d5 : decide (1 ≤ m) = true := by simpa using h5
  have d6 : decide (m ≤ 40) = true := by simpa using h6
  go_enter Try.func27, Try.ntmps27
  go_wp2
  go_ret
  exact ⟨rfl, below_one _ _⟩
theorem refRight_no (b z m : Int) (h : ¬ (⟨b, z, m⟩ : ShapeD).right) (w : World) : Calls Try.prog 27 #[.agg #[.int .i64 b, .int .i64 z, .int .i64 m]] w fun e w' => e = .returned (.bool false) ∧ Below w.heap.size w w' := by
  unfold ShapeD.right at h
  simp only at h
  have hh : decide (1 ≤ b) = false ∨ (decide (1 ≤ b) = true ∧ decide (b ≤ 4000) = false) ∨ (decide (1 ≤ b) = true ∧ decide (b ≤ 4000) = true ∧ decide (1 ≤ z) = false) ∨ (decide (1 ≤ b) = true ∧ decide (b ≤ 4000) = true ∧ decide (1 ≤ z) = true ∧ decide (z ≤ 64) = false) ∨
      (decide (1 ≤ b) = true ∧ decide (b ≤ 4000) = true ∧ decide (1 ≤ z) = true ∧ decide (z ≤ 64) = true ∧ decide (1 ≤ m) = false) ∨ (decide (1 ≤ b) = true ∧ decide (b ≤ 4000) = true ∧ decide (1 ≤ z) = true ∧ decide (z ≤ 64) = true ∧ decide (1 ≤ m) = true ∧ decide (m ≤ 40) = false) := by
    simp only [decide_eq_true_eq, decide_eq_false_iff_not]
    omega
  clear h
  rcases hh with h1 | ⟨h1, h2⟩ | ⟨h1, h2, h3⟩ | ⟨h1, h2, h3, h4⟩ | ⟨h1, h2, h3, h4, h5⟩ | ⟨h1, h2, h3, h4, h5, h6⟩
  all_goals
    go_enter Try.func27, Try.ntmps27
    go_wp2
    go_ret
    exact ⟨rfl, below_one _ _⟩

theorem refSymbols_yes (s : Shp) (h : s.Ok) (w : World) : Calls Try.prog 82 #[.agg #[.int .i64 s.b, .int .i64 s.z, .int .i64 s.m]] w fun e w' => e = .returned (.int .i64 (symN s : Nat)) ∧ Below w.heap.size w w' := by
  have hr := refRight_yes _ _ _ (Shp.right h)
  have h1 := h.b1
  have h2 := h.b2
  have h3 := h.z1
  have h4 := h.z2
  have hd : ((s.b : Int) - 1) / (s.z : Int) = (((s.b - 1) / s.z : Nat) : Int) := by rw [Int.natCast_ediv]; congr 1; omega
  have hq : (s.b - 1) / s.z ≤ 100000 := Nat.le_trans (Nat.div_le_self _ _) (by omega)
  have e : (s.b - 1) / s.z + 1 = symN s := rfl
  generalize symN s = n at *
  generalize (s.b - 1) / s.z = q at *
  have HD : Hid (((s.b : Int) - 1) / (s.z : Int) = (q : Int)) := hd
  have HE : Hid (q + 1 = n) := e
  have hq2 : 0 ≤ ((s.b : Int) - 1) / (s.z : Int) ∧ ((s.b : Int) - 1) / (s.z : Int) ≤ 100000 := by rw [hd]; omega
  have hb0 : ((s.z : Int) == 0) = false := beq_eq_false_iff_ne.2 (by omega)
  clear hd e
  go_enter Try.func82, Try.ntmps82
  go_wp2_with fail
  refine (hr _).mono ?_
  rintro e w1 ⟨rfl, hb⟩
  have hx : Blk w1 w.heap.size 32 [.int .i64 s.b, .int .i64 s.z, .int .i64 s.m] := (Blk.new w _ _).below (hb.mono (Nat.le_refl _))
  have hc0 := hx.cell 0
  have hc1 := hx.cell 1
  simp only [List.getElem?_cons_zero, List.getElem?_cons_succ] at hc0 hc1
  have hlt := hx.lt
  clear hr
  go_wp2
  go_ret
  exact ⟨ret_int (by rw [HD.out, ← HE.out]; simp), (below_one w _).trans (hb.mono (by simp))⟩
set_option maxHeartbeats 400000 in
theorem refBlocks_yes (s : Shp) (h : s.Ok) (w : World) : Calls Try.prog 23 #[.agg #[.int .i64 s.b, .int .i64 s.z, .int .i64 s.m]] w fun e w' => e = .returned (.int .i64 (blkN s : Nat)) ∧ Below w.heap.size w w' := by
  have hr := refRight_yes _ _ _ (Shp.right h)
  have hs := refSymbols_yes s h
  have hsl := symN_le h
  have h5 := h.m1
  have h6 := h.m2
  have hd : ((symN s : Int) - 1) / (s.m : Int) = (((symN s - 1) / s.m : Nat) : Int) := by rw [Int.natCast_ediv]; congr 1; omega
  have hq : (symN s - 1) / s.m ≤ 100000 := Nat.le_trans (Nat.div_le_self _ _) (by omega)
  have e : (symN s - 1) / s.m + 1 = blkN s := rfl
  generalize blkN s = n at *
  generalize (symN s - 1) / s.m = q at *
  generalize symN s = y at *
  have HD : Hid (((y : Int) - 1) / (s.m : Int) = (q : Int)) := hd
  have HE : Hid (q + 1 = n) := e
  have hq2 : 0 ≤ ((y : Int) - 1) / (s.m : Int) ∧ ((y : Int) - 1) / (s.m : Int) ≤ 100000 := by rw [hd]; omega
  have hb0 : s.m ≠ 0 := by omega
  have hw1 : IntKind.i64.wrap ((y : Int) - 1) = (y : Int) - 1 := IntWalk.i64_in _ (by omega)
  have hw2 : IntKind.i64.wrap (((y : Int) - 1).tdiv (s.m : Int)) = (q : Int) := by rw [IntWalk.i64_quo _ _ ⟨by omega, by omega, by omega⟩]; exact hd
  have hw3 : IntKind.i64.wrap ((q : Int) + 1) = (n : Int) := by rw [IntWalk.i64_in _ (by omega)]; omega
  clear hd e
  go_enter Try.func23, Try.ntmps23
  go_wp2_with fail
  refine (hr _).mono ?_
  rintro e w1 ⟨rfl, hb⟩
  have hx : Blk w1 w.heap.size 32 [.int .i64 s.b, .int .i64 s.z, .int .i64 s.m] := (Blk.new w _ _).below (hb.mono (Nat.le_refl _))
  have hbw : Below w.heap.size w w1 := (below_one w _).trans (hb.mono (by simp))
  have hc0 := hx.cell 0
  have hc1 := hx.cell 1
  have hc2 := hx.cell 2
  simp only [List.getElem?_cons_zero, List.getElem?_cons_succ] at hc0 hc1 hc2
  have hlt := hx.lt
  clear hr
  go_upto_region 3 with fail
  refine wp_region_plan2 [0, 3, 4] [0, 4] [1] [] [2, 5, 6, 7] (fun w' => w'.cell? ⟨w.heap.size, 0, none⟩ = some (.int .i64 s.b) ∧ w'.cell? ⟨w.heap.size, 1, none⟩ = some (.int .i64 s.z) ∧ w'.cell? ⟨w.heap.size, 2, none⟩ = some (.int .i64 s.m)) (by kernel_rfl) (by kernel_rfl) (fun _ _ _ _ _ h => h) ⟨hc0, hc1, hc2⟩ ?_
  simp only [List.map_cons, List.map_nil, opAt, List.getD_cons_zero, List.getD_cons_succ, List.contains_cons, List.contains_nil, Nat.reduceBEq, Bool.or_false, Bool.or_true]
  apply front_hot
  · intro w9 hS
    obtain ⟨hS0, hS1, hS2⟩ := hS
    go_simp
    with_reducible rfl
  go_simp
  apply front_cons
  · intro w9
    go_simp
    with_reducible rfl
  go_simp
  apply front_hot
  · intro w9 hS
    obtain ⟨hS0, hS1, hS2⟩ := hS
    go_simp
    with_reducible rfl
  go_simp
  refine front_nil ?_
  refine etail_cons (fun K hK => ?_)
  go_simp
  refine (hs _).mono ?_
  rintro e w2 ⟨rfl, hb2⟩
  have hb2' : Below w1.heap.size w1 w2 := (Below.refl _ _).drew.trans hb2
  refine hK _ _ (fun _ => ⟨cell_below hb2' _ _ hc0, cell_below hb2' _ _ hc1, cell_below hb2' _ _ hc2⟩) ?_
  clear hK K
  go_simp
  refine etail_nil ?_
  iterate 4
    apply front_cons
    · intro w9
      go_simp
      with_reducible rfl
    go_simp
  refine front_nil ?_
  go_wp2_with fail
  go_ret
  exact ⟨rfl, hbw.trans (hb2'.mono hbw.size)⟩
theorem refBlocks_no (b z m : Int) (h : ¬ (⟨b, z, m⟩ : ShapeD).right) (w : World) : Calls Try.prog 23 #[.agg #[.int .i64 b, .int .i64 z, .int .i64 m]] w fun e w' => e = .returned (.int .i64 0) ∧ Below w.heap.size w w' := by
  have hr := refRight_no b z m h
  clear h
  go_enter Try.func23, Try.ntmps23
  go_wp2_with fail
  refine (hr _).mono ?_
  rintro e w1 ⟨rfl, hb⟩
  go_wp2
  go_ret
  exact ⟨rfl, (below_one w _).trans (hb.mono (by simp))⟩
set_option maxHeartbeats 1000000 in
theorem refK_yes (s : Shp) (h : s.Ok) (i : Nat) (hi : i < blkN s) (w : World) : Calls Try.prog 26 #[.agg #[.int .i64 s.b, .int .i64 s.z, .int .i64 s.m], .int .i64 i] w fun e w' => e = .returned (.int .i64 (kN s i : Nat)) ∧ Below w.heap.size w w' := by
  have hbl := refBlocks_yes s h
  have hs := refSymbols_yes s h
  have hsl := symN_le h
  have hbn := blkN_le h
  have hk := kN_le h i
  have e1 : ((symN s : Nat) : Int) % ((blkN s : Nat) : Int) = ((symN s % blkN s : Nat) : Int) := by rw [Int.natCast_emod]
  have e2 : ((symN s : Nat) : Int) / ((blkN s : Nat) : Int) = ((symN s / blkN s : Nat) : Int) := by rw [Int.natCast_ediv]
  have hkn : kN s i = if i < symN s % blkN s then symN s / blkN s + 1 else symN s / blkN s := rfl
  generalize hq : symN s / blkN s = q at *
  generalize hr : symN s % blkN s = r at *
  generalize kN s i = kk at *
  generalize blkN s = n at *
  generalize symN s = y at *
  clear hq hr
  have HK : Hid (kk = if i < r then q + 1 else q) := hkn
  have hqb : q ≤ 40 := by split at hkn <;> omega
  have E1 : Hid ((y : Int) % (n : Int) = (r : Int)) := e1
  have E2 : Hid ((y : Int) / (n : Int) = (q : Int)) := e2
  have hn0 : n ≠ 0 := by omega
  have hw2 : IntKind.i64.wrap ((y : Int) / (n : Int)) = (q : Int) := by rw [e2]; exact IntWalk.i64_in _ (by omega)
  have hw3 : (y : Int).tmod (n : Int) = (r : Int) := by rw [Int.tmod_eq_emod_of_nonneg (by omega)]; exact e1
  have hdi : decide ((i : Int) < 0) = false := by simp
  have hdn : decide ((n : Int) ≤ (i : Int)) = false := by simp; omega
  clear e1 e2 hkn
  go_enter Try.func26, Try.ntmps26
  go_wp2_with fail
  refine (hbl _).mono ?_
  rintro e w1 ⟨rfl, hb⟩
  have hx : Blk w1 w.heap.size 32 [.int .i64 s.b, .int .i64 s.z, .int .i64 s.m] := (Blk.new w _ _).below (hb.mono (Nat.le_refl _))
  have hbw : Below w.heap.size w w1 := (below_one w _).trans (hb.mono (by simp))
  have hc0 := hx.cell 0
  have hc1 := hx.cell 1
  have hc2 := hx.cell 2
  simp only [List.getElem?_cons_zero, List.getElem?_cons_succ] at hc0 hc1 hc2
  have hlt := hx.lt
  go_upto_region 3 with fail
  refine wp_region_plan2 [0, 2] [0, 2] [1, 3] [] [4, 5] (fun w' => w'.cell? ⟨w.heap.size, 0, none⟩ = some (.int .i64 s.b) ∧ w'.cell? ⟨w.heap.size, 1, none⟩ = some (.int .i64 s.z) ∧ w'.cell? ⟨w.heap.size, 2, none⟩ = some (.int .i64 s.m)) (by kernel_rfl) (by kernel_rfl) (fun _ _ _ _ _ h => h) ⟨hc0, hc1, hc2⟩ ?_
  simp only [List.map_cons, List.map_nil, opAt, List.getD_cons_zero, List.getD_cons_succ, List.contains_cons, List.contains_nil, Nat.reduceBEq, Bool.or_false, Bool.or_true]
  iterate 2
    apply front_hot
    · intro w9 hS
      obtain ⟨hS0, hS1, hS2⟩ := hS
      go_simp
      with_reducible rfl
    go_simp
  refine front_nil ?_
  refine etail_cons (fun K hK => ?_)
  go_simp
  refine (hs _).mono ?_
  rintro e w2 ⟨rfl, hb2⟩
  have hb2' : Below w1.heap.size w1 w2 := (Below.refl _ _).drew.trans hb2
  have hsz2 := hb2'.size
  refine hK _ _ (fun _ => ⟨cell_below hb2' _ _ hc0, cell_below hb2' _ _ hc1, cell_below hb2' _ _ hc2⟩) ?_
  clear hK K
  go_simp
  refine etail_cons (fun K hK => ?_)
  go_simp
  refine (hbl _).mono ?_
  rintro e w3 ⟨rfl, hb3⟩
  have hb3' : Below w1.heap.size w1 w3 := hb2'.trans (hb3.mono hsz2)
  refine hK _ _ (fun _ => ⟨cell_below hb3' _ _ hc0, cell_below hb3' _ _ hc1, cell_below hb3' _ _ hc2⟩) ?_
  clear hK K
  go_simp
  refine etail_nil ?_
  iterate 2
    apply front_cons
    · intro w9
      go_simp
      with_reducible rfl
    go_simp
  refine front_nil ?_
  have hd0 := cell_below hb3' _ _ hc0
  have hd1 := cell_below hb3' _ _ hc1
  have hd2 := cell_below hb3' _ _ hc2
  have hsz3 := hb3'.size
  go_upto_region 4 with fail
  refine wp_region_plan2 [0, 1, 3] [1, 3] [2, 4] [] [5, 6] (fun w' => w'.cell? ⟨w.heap.size, 0, none⟩ = some (.int .i64 s.b) ∧ w'.cell? ⟨w.heap.size, 1, none⟩ = some (.int .i64 s.z) ∧ w'.cell? ⟨w.heap.size, 2, none⟩ = some (.int .i64 s.m)) (by kernel_rfl) (by kernel_rfl) (fun _ _ _ _ _ h => h) ⟨hd0, hd1, hd2⟩ ?_
  simp only [List.map_cons, List.map_nil, opAt, List.getD_cons_zero, List.getD_cons_succ, List.contains_cons, List.contains_nil, Nat.reduceBEq, Bool.or_false, Bool.or_true]
  apply front_cons
  · intro w9
    go_simp
    with_reducible rfl
  go_simp
  iterate 2
    apply front_hot
    · intro w9 hS
      obtain ⟨hS0, hS1, hS2⟩ := hS
      go_simp
      with_reducible rfl
    go_simp
  refine front_nil ?_
  refine etail_cons (fun K hK => ?_)
  go_simp
  refine (hs _).mono ?_
  rintro e w4 ⟨rfl, hb4⟩
  have hb4' : Below w3.heap.size w3 w4 := (Below.refl _ _).drew.trans hb4
  have hsz4 := hb4'.size
  refine hK _ _ (fun _ => ⟨cell_below hb4' _ _ hd0, cell_below hb4' _ _ hd1, cell_below hb4' _ _ hd2⟩) ?_
  clear hK K
  go_simp
  refine etail_cons (fun K hK => ?_)
  go_simp
  refine (hbl _).mono ?_
  rintro e w5 ⟨rfl, hb5⟩
  have hb5' : Below w3.heap.size w3 w5 := hb4'.trans (hb5.mono hsz4)
  refine hK _ _ (fun _ => ⟨cell_below hb5' _ _ hd0, cell_below hb5' _ _ hd1, cell_below hb5' _ _ hd2⟩) ?_
  clear hK K hbl hs
  have hfin : Below w.heap.size w w5 := hbw.trans ((hb3'.trans (hb5'.mono hsz3)).mono hbw.size)
  go_simp
  refine etail_nil ?_
  iterate 2
    apply front_cons
    · intro w9
      go_simp
      with_reducible rfl
    go_simp
  refine front_nil ?_
  by_cases hir : i < r
  · have hd : decide ((i : Int) < (r : Int)) = true := by simpa using hir
    go_wp2_with fail
    go_ret
    exact ⟨ret_int (by rw [HK.out, if_pos hir]; simp), hfin⟩
  · have hd : decide ((i : Int) < (r : Int)) = false := by simpa using hir
    go_wp2_with fail
    go_ret
    exact ⟨ret_int (by rw [HK.out, if_neg hir]), hfin⟩
end Go.Proofs.Ytpdfcgkeclocoaa
