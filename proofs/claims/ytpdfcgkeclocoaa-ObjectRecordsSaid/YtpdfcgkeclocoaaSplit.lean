/- The walks of package split: Right, Symbols, Blocks, K. -/
import Derived.Test.YtpdfcgkeclocoaaKit
set_option linter.all false
namespace Go.Proofs.Ytpdfcgkeclocoaa
open Go.RowKit GF
attribute [local go_sem ↓] Go.wp_at_zero Go.wp_at_succ

def symN (s : Shp) : Nat := (s.b - 1) / s.z + 1
def blkN (s : Shp) : Nat := (symN s - 1) / s.m + 1
def kN (s : Shp) (i : Nat) : Nat := if i < symN s % blkN s then symN s / blkN s + 1 else symN s / blkN s
theorem symN_le {s : Shp} (h : s.Ok) : 1 ≤ symN s ∧ symN s ≤ 4000 := by
  have := h.b2; have := h.b1; have := h.z1
  unfold symN
  have : (s.b - 1) / s.z ≤ s.b - 1 := Nat.div_le_self _ _
  generalize (s.b - 1) / s.z = q at *
  omega
theorem blkN_le {s : Shp} (h : s.Ok) : 1 ≤ blkN s ∧ blkN s ≤ symN s := by
  have := symN_le h
  unfold blkN
  have : (symN s - 1) / s.m ≤ symN s - 1 := Nat.div_le_self _ _
  generalize (symN s - 1) / s.m = q at *
  omega
/-- Each block has a source symbol, and no more than there may be. -/
theorem kN_le {s : Shp} (h : s.Ok) (i : Nat) : 1 ≤ kN s i ∧ kN s i ≤ 40 := by
  have h1 := symN_le h
  have h2 := blkN_le h
  have h3 : 1 ≤ symN s / blkN s := (Nat.le_div_iff_mul_le (by omega)).2 (by omega)
  have h4 : symN s ≤ s.m * blkN s := by
    have e : symN s - 1 = s.m * ((symN s - 1) / s.m) + (symN s - 1) % s.m := (Nat.div_add_mod _ _).symm
    have := Nat.mod_lt (symN s - 1) h.m1
    have e2 : s.m * blkN s = s.m * ((symN s - 1) / s.m) + s.m := by unfold blkN; rw [Nat.mul_add, Nat.mul_one]
    omega
  have hm := h.m2
  unfold kN
  split
  · rename_i hlt
    refine ⟨by omega, ?_⟩
    have e : symN s = blkN s * (symN s / blkN s) + symN s % blkN s := (Nat.div_add_mod _ _).symm
    have : blkN s * (symN s / blkN s) < blkN s * s.m := by rw [Nat.mul_comm (blkN s) s.m]; omega
    have := Nat.lt_of_mul_lt_mul_left this
    omega
  · refine ⟨h3, ?_⟩
    have : symN s / blkN s ≤ s.m := Nat.div_le_of_le_mul (by rw [Nat.mul_comm]; exact h4)
    omega

theorem within_yes (a m : Int) (h1 : 1 ≤ a) (h2 : a ≤ m) (w : World) : Calls Try.prog 126 #[.int .i64 a, .int .i64 m] w fun e w' => e = .returned (.bool true) ∧ w = w' := by
  have hd : decide (1 ≤ a) = true := by simpa using h1
  have hd2 : decide (a ≤ m) = true := by simpa using h2
  go_enter Try.func126, Try.ntmps126
  go_wp2
  go_ret
  exact ⟨rfl, rfl⟩
theorem within_no (a m : Int) (h : a < 1 ∨ m < a) (w : World) : Calls Try.prog 126 #[.int .i64 a, .int .i64 m] w fun e w' => e = .returned (.bool false) ∧ w = w' := by
  by_cases h1 : 1 ≤ a
  · have h2 : ¬ a ≤ m := by omega
    have hd : decide (1 ≤ a) = true := by simpa using h1
    have hd2 : decide (a ≤ m) = false := by simpa using h2
    clear h
    go_enter Try.func126, Try.ntmps126
    go_wp2
    go_ret
    exact ⟨rfl, rfl⟩
  · have hd : decide (1 ≤ a) = false := by simpa using h1
    clear h
    go_enter Try.func126, Try.ntmps126
    go_wp2
    go_ret
    exact ⟨rfl, rfl⟩

/-- A shape by value. -/
def ShapeD.v (s : ShapeD) : Value := .agg #[.int .i64 s.bytes, .int .i64 s.size, .int .i64 s.most]
theorem right_yes (b z m : Int) (h : (⟨b, z, m⟩ : ShapeD).right) (w : World) : Calls Try.prog 73 #[.agg #[.int .i64 b, .int .i64 z, .int .i64 m]] w fun e w' => e = .returned (.bool true) ∧ Below w.heap.size w w' := by
  obtain ⟨⟨h1, h2⟩, ⟨h3, h4⟩, h5, h6⟩ := h
  simp only at h1 h2 h3 h4 h5 h6
  go_enter Try.func73, Try.ntmps73
  go_wp2_with fail
  refine (within_yes b 4000 h1 h2 _).mono ?_
  rintro e w' ⟨rfl, rfl⟩
  go_wp2_with fail
  refine (within_yes z 64 h3 h4 _).mono ?_
  rintro e w' ⟨rfl, rfl⟩
  go_wp2_with fail
  refine (within_yes m 40 h5 h6 _).mono ?_
  rintro e w' ⟨rfl, rfl⟩
  go_wp2
  go_ret
  exact ⟨rfl, below_one _ _⟩
theorem right_no (b z m : Int) (h : ¬ (⟨b, z, m⟩ : ShapeD).right) (w : World) : Calls Try.prog 73 #[.agg #[.int .i64 b, .int .i64 z, .int .i64 m]] w fun e w' => e = .returned (.bool false) ∧ Below w.heap.size w w' := by
  unfold ShapeD.right at h
  simp only at h
  by_cases hb : 1 ≤ b ∧ b ≤ 4000
  · by_cases hz : 1 ≤ z ∧ z ≤ 64
    · have hm : m < 1 ∨ 40 < m := by omega
      clear h
      go_enter Try.func73, Try.ntmps73
      go_wp2_with fail
      refine (within_yes b 4000 hb.1 hb.2 _).mono ?_
      rintro e w' ⟨rfl, rfl⟩
      go_wp2_with fail
      refine (within_yes z 64 hz.1 hz.2 _).mono ?_
      rintro e w' ⟨rfl, rfl⟩
      go_wp2_with fail
      refine (within_no m 40 hm _).mono ?_
      rintro e w' ⟨rfl, rfl⟩
      go_wp2
      go_ret
      exact ⟨rfl, below_one _ _⟩
    · have hz' : z < 1 ∨ 64 < z := by omega
      clear h hz
      go_enter Try.func73, Try.ntmps73
      go_wp2_with fail
      refine (within_yes b 4000 hb.1 hb.2 _).mono ?_
      rintro e w' ⟨rfl, rfl⟩
      go_wp2_with fail
      refine (within_no z 64 hz' _).mono ?_
      rintro e w' ⟨rfl, rfl⟩
      go_wp2
      go_ret
      exact ⟨rfl, below_one _ _⟩
  · have hb' : b < 1 ∨ 4000 < b := by omega
    clear h hb
    go_enter Try.func73, Try.ntmps73
    go_wp2_with fail
    refine (within_no b 4000 hb' _).mono ?_
    rintro e w' ⟨rfl, rfl⟩
    go_wp2
    go_ret
    exact ⟨rfl, below_one _ _⟩

theorem up_any (a b : Nat) (h1 : 1 ≤ a) (h2 : 1 ≤ b) (h3 : a ≤ 100000) (h4 : b ≤ 100000) (w : World) : Calls Try.prog 127 #[.int .i64 a, .int .i64 b] w fun e w' => e = .returned (.int .i64 ((a - 1) / b + 1 : Nat)) ∧ w = w' := by
  have hd : ((a : Int) - 1) / (b : Int) = (((a - 1) / b : Nat) : Int) := by rw [Int.natCast_ediv]; congr 1; omega
  have hq : (a - 1) / b ≤ 100000 := Nat.le_trans (Nat.div_le_self _ _) (by omega)
  generalize (a - 1) / b = q at *
  have HD : Hid (((a : Int) - 1) / (b : Int) = (q : Int)) := hd
  have hq2 : 0 ≤ ((a : Int) - 1) / (b : Int) ∧ ((a : Int) - 1) / (b : Int) ≤ 100000 := by rw [hd]; omega
  clear hd
  have hb0 : ((b : Int) == 0) = false := beq_eq_false_iff_ne.2 (by omega)
  go_enter Try.func127, Try.ntmps127
  go_wp2
  go_ret
  exact ⟨ret_int (by rw [HD.out]; simp), rfl⟩

theorem Shp.right {s : Shp} (h : s.Ok) : (⟨(s.b : Int), (s.z : Int), (s.m : Int)⟩ : ShapeD).right := by
  obtain ⟨h1, h2, h3, h4, h5, h6⟩ := h
  exact ⟨⟨by simp only; omega, by simp only; omega⟩, ⟨by simp only; omega, by simp only; omega⟩, by simp only; omega, by simp only; omega⟩

theorem symbols_yes (s : Shp) (h : s.Ok) (w : World) : Calls Try.prog 128 #[.agg #[.int .i64 s.b, .int .i64 s.z, .int .i64 s.m]] w fun e w' => e = .returned (.int .i64 (symN s : Nat)) ∧ Below w.heap.size w w' := by
  have hr := right_yes _ _ _ (Shp.right h)
  have hu := up_any s.b s.z h.b1 h.z1 (by have := h.b2; omega) (by have := h.z2; omega)
  have e : (s.b - 1) / s.z + 1 = symN s := rfl
  rw [e] at hu
  generalize symN s = n at *
  clear e
  go_enter Try.func128, Try.ntmps128
  go_wp2_with fail
  refine (hr _).mono ?_
  rintro e w1 ⟨rfl, hb⟩
  have hx : Blk w1 w.heap.size 32 [.int .i64 s.b, .int .i64 s.z, .int .i64 s.m] := (Blk.new w _ _).below (hb.mono (Nat.le_refl _))
  have hc0 := hx.cell 0
  have hc1 := hx.cell 1
  simp only [List.getElem?_cons_zero, List.getElem?_cons_succ] at hc0 hc1
  have hlt := hx.lt
  clear hr
  go_wp2_with fail
  refine (hu _).mono ?_
  rintro e w' ⟨rfl, rfl⟩
  go_wp2
  go_ret
  exact ⟨rfl, (below_one w _).trans (hb.mono (by simp))⟩
theorem symbols_no (b z m : Int) (h : ¬ (⟨b, z, m⟩ : ShapeD).right) (w : World) : Calls Try.prog 128 #[.agg #[.int .i64 b, .int .i64 z, .int .i64 m]] w fun e w' => e = .returned (.int .i64 0) ∧ Below w.heap.size w w' := by
  have hr := right_no b z m h
  clear h
  go_enter Try.func128, Try.ntmps128
  go_wp2_with fail
  refine (hr _).mono ?_
  rintro e w1 ⟨rfl, hb⟩
  go_wp2
  go_ret
  exact ⟨rfl, (below_one w _).trans (hb.mono (by simp))⟩

set_option maxHeartbeats 400000 in
theorem blocks_yes (s : Shp) (h : s.Ok) (w : World) : Calls Try.prog 74 #[.agg #[.int .i64 s.b, .int .i64 s.z, .int .i64 s.m]] w fun e w' => e = .returned (.int .i64 (blkN s : Nat)) ∧ Below w.heap.size w w' := by
  have hr := right_yes _ _ _ (Shp.right h)
  have hs := symbols_yes s h
  have hsl := symN_le h
  have hu := up_any (symN s) s.m hsl.1 h.m1 (by omega) (by have := h.m2; omega)
  have e : (symN s - 1) / s.m + 1 = blkN s := rfl
  rw [e] at hu
  generalize blkN s = n at *
  generalize symN s = y at *
  clear e
  go_enter Try.func74, Try.ntmps74
  go_wp2_with fail
  refine (hr _).mono ?_
  rintro e w1 ⟨rfl, hb⟩
  have hx : Blk w1 w.heap.size 32 [.int .i64 s.b, .int .i64 s.z, .int .i64 s.m] := (Blk.new w _ _).below (hb.mono (Nat.le_refl _))
  have hb0 : Below w.heap.size w w1 := (below_one w _).trans (hb.mono (by simp))
  have hc0 := hx.cell 0
  have hc1 := hx.cell 1
  have hc2 := hx.cell 2
  simp only [List.getElem?_cons_zero, List.getElem?_cons_succ] at hc0 hc1 hc2
  have hlt := hx.lt
  clear hr
  go_upto_region 3 with fail
  refine wp_region_plan [0, 2, 3] [0, 3] [1, 4, 5] [] (fun w' => w'.cell? ⟨w.heap.size, 0, none⟩ = some (.int .i64 s.b) ∧ w'.cell? ⟨w.heap.size, 1, none⟩ = some (.int .i64 s.z) ∧ w'.cell? ⟨w.heap.size, 2, none⟩ = some (.int .i64 s.m)) (by kernel_rfl) (by kernel_rfl) (fun _ _ _ _ _ h => h) ⟨hc0, hc1, hc2⟩ ?_
  simp only [List.map_cons, List.map_nil, opAt, List.getD_cons_zero, List.getD_cons_succ, List.contains_cons, List.contains_nil, Nat.reduceBEq, Bool.or_false, Bool.or_true]
  apply front_hot
  · intro w9 hS
    obtain ⟨hS0, hS1, hS2⟩ := hS
    go_simp
    with_reducible rfl
  go_simp
  apply front_cons
  · intro w9
    go_simp
    with_reducible rfl
  go_simp
  apply front_hot
  · intro w9 hS
    obtain ⟨hS0, hS1, hS2⟩ := hS
    go_simp
    with_reducible rfl
  go_simp
  refine front_nil ?_
  refine tail_cons (fun K hK => ?_)
  go_simp
  refine (hs _).mono ?_
  rintro e w2 ⟨rfl, hb2⟩
  have hb2' : Below w1.heap.size w1 w2 := (Below.refl _ _).drew.trans hb2
  have hd0 := cell_below hb2' _ _ hc0
  have hd1 := cell_below hb2' _ _ hc1
  have hd2 := cell_below hb2' _ _ hc2
  refine hK _ _ (fun _ => ⟨hd0, hd1, hd2⟩) ?_
  clear hK K
  go_simp
  refine tail_cons (fun K hK => ?_)
  go_simp
  refine (hu _).mono ?_
  rintro e w' ⟨rfl, rfl⟩
  refine hK _ _ (fun h => h) ?_
  clear hK K
  go_simp
  refine tail_cons (fun K hK => ?_)
  go_simp
  refine hK _ _ (fun h => h) ?_
  clear hK K
  go_simp
  refine tail_nil ?_
  go_wp2_with fail
  go_ret
  exact ⟨rfl, hb0.trans (hb2'.mono hb0.size)⟩
theorem blocks_no (b z m : Int) (h : ¬ (⟨b, z, m⟩ : ShapeD).right) (w : World) : Calls Try.prog 74 #[.agg #[.int .i64 b, .int .i64 z, .int .i64 m]] w fun e w' => e = .returned (.int .i64 0) ∧ Below w.heap.size w w' := by
  have hr := right_no b z m h
  clear h
  go_enter Try.func74, Try.ntmps74
  go_wp2_with fail
  refine (hr _).mono ?_
  rintro e w1 ⟨rfl, hb⟩
  go_wp2
  go_ret
  exact ⟨rfl, (below_one w _).trans (hb.mono (by simp))⟩

set_option maxHeartbeats 400000 in
theorem k_yes (s : Shp) (h : s.Ok) (i : Nat) (hi : i < blkN s) (w : World) : Calls Try.prog 76 #[.agg #[.int .i64 s.b, .int .i64 s.z, .int .i64 s.m], .int .i64 i] w fun e w' => e = .returned (.int .i64 (kN s i : Nat)) ∧ Below w.heap.size w w' := by
  have hbl := blocks_yes s h
  have hs := symbols_yes s h
  have hsl := symN_le h
  have hbn := blkN_le h
  have hk := kN_le h i
  have e1 : ((symN s : Nat) : Int) % ((blkN s : Nat) : Int) = ((symN s % blkN s : Nat) : Int) := by rw [Int.natCast_emod]
  have e2 : ((symN s : Nat) : Int) / ((blkN s : Nat) : Int) = ((symN s / blkN s : Nat) : Int) := by rw [Int.natCast_ediv]
  have hkn : kN s i = if i < symN s % blkN s then symN s / blkN s + 1 else symN s / blkN s := rfl
  generalize hq : symN s / blkN s = q at *
  generalize hr : symN s % blkN s = r at *
  generalize kN s i = kk at *
  generalize blkN s = n at *
  generalize symN s = y at *
  clear hq hr
  have HK : Hid (kk = if i < r then q + 1 else q) := hkn
  have hqb : q ≤ 40 := by split at hkn <;> omega
  have E1 : Hid ((y : Int) % (n : Int) = (r : Int)) := e1
  have E2 : Hid ((y : Int) / (n : Int) = (q : Int)) := e2
  have hn0 : ((n : Int) == 0) = false := beq_eq_false_iff_ne.2 (by omega)
  have l1 : 0 ≤ (y : Int) / (n : Int) ∧ (y : Int) / (n : Int) ≤ 40 := by rw [e2]; omega
  have hdi : decide ((i : Int) < 0) = false := by simp
  clear e1 e2 hkn
  by_cases hir : i < r
  · have hd : (i : Int) < (y : Int) % (n : Int) := by rw [E1.out]; omega
    go_enter Try.func76, Try.ntmps76
    go_wp2_with fail
    refine (hbl _).mono ?_
    rintro e w1 ⟨rfl, hb⟩
    have hx : Blk w1 w.heap.size 32 [.int .i64 s.b, .int .i64 s.z, .int .i64 s.m] := (Blk.new w _ _).below (hb.mono (Nat.le_refl _))
    have hb0 : Below w.heap.size w w1 := (below_one w _).trans (hb.mono (by simp))
    have hc0 := hx.cell 0
    have hc1 := hx.cell 1
    have hc2 := hx.cell 2
    simp only [List.getElem?_cons_zero, List.getElem?_cons_succ] at hc0 hc1 hc2
    have hlt := hx.lt
    clear hbl
    go_wp2_with fail
    refine (hs _).mono ?_
    rintro e w2 ⟨rfl, hb2⟩
    clear hs
    go_wp2
    go_ret
    exact ⟨ret_int (by rw [HK.out, if_pos hir, E2.out]; simp), hb0.trans (hb2.mono hb0.size)⟩
  · have hd : ¬ (i : Int) < (y : Int) % (n : Int) := by rw [E1.out]; omega
    go_enter Try.func76, Try.ntmps76
    go_wp2_with fail
    refine (hbl _).mono ?_
    rintro e w1 ⟨rfl, hb⟩
    have hx : Blk w1 w.heap.size 32 [.int .i64 s.b, .int .i64 s.z, .int .i64 s.m] := (Blk.new w _ _).below (hb.mono (Nat.le_refl _))
    have hb0 : Below w.heap.size w w1 := (below_one w _).trans (hb.mono (by simp))
    have hc0 := hx.cell 0
    have hc1 := hx.cell 1
    have hc2 := hx.cell 2
    simp only [List.getElem?_cons_zero, List.getElem?_cons_succ] at hc0 hc1 hc2
    have hlt := hx.lt
    clear hbl
    go_wp2_with fail
    refine (hs _).mono ?_
    rintro e w2 ⟨rfl, hb2⟩
    clear hs
    go_wp2
    go_ret
    exact ⟨ret_int (by rw [HK.out, if_neg hir, E2.out]), hb0.trans (hb2.mono hb0.size)⟩
end Go.Proofs.Ytpdfcgkeclocoaa
