/- The walks of package rows. -/
import Derived.Test.YtpdfcgkeclocoaaField2
import Derived.Test.YtpdfcgkeclocoaaLA
import Derived.Deep.RegionHeld3
import Derived.StillTailTactics
import Derived.Deep.RegionLaw
import Derived.Deep.DrawnRows
import Derived.Deep.DeepCutAuto
import Derived.Laws.MakeOwn
import Derived.Deep.OwnRows
set_option linter.all false
namespace Go.Proofs.Ytpdfcgkeclocoaa
open Go.RowKit GF
attribute [local go_sem ↓] Go.wp_at_zero Go.wp_at_succ

theorem run_make_row8 (n : Nat) (h : n ≤ 140737488355328) (w : World) :
    (Instr.makeSlice 131 (.int .i64 (n : Int)) (.int .i64 (n : Int))).run Try.prog w = .ok (.slice (some ⟨w.heap.size, 0, none⟩) n n) (w.alloc (.cells (madeCells #[.int .u8 0] n) 5)) :=
  run_make_row' 131 5 (.int .u8 0) 1 Try.underlying131 (by kernel_rfl) rfl .i64 .i64 n (by omega) (by omega) w

theorem set_next {α β : Type} (f : α → β) (l : List α) (k : Nat) (z x : β) (h : k < l.length) (hx : x = f l[k]) :
    ((l.take k).map f ++ List.replicate (l.length - k) z).set k x = (l.take (k + 1)).map f ++ List.replicate (l.length - (k + 1)) z := by
  subst hx
  rw [List.set_append_right _ _ (by simp; omega), List.take_succ_eq_append_getElem h, List.map_append, List.append_assoc]
  congr 1
  have e : l.length - k = (l.length - (k + 1)) + 1 := by omega
  rw [e, List.replicate_succ]
  simp [show min k l.length = k from by omega]

theorem mul_two (x y : UInt8) (g : Nat) (W : World) (h : Blk W g 5 [.int .u8 x.toNat, .int .u8 y.toNat]) :
    Calls Try.prog 258 #[.slice (some ⟨g, 0, none⟩) 2 2] W fun e w' => e = .returned (.int .u8 (times x y).toNat) ∧ W = w' := by
  have := mul_any _ [x, y] W (KBs.of_blk (l := [x, y]) h (fun h => h) (by simp))
  simpa [mulAll, times_one_left] using this
theorem add_two (x y : UInt8) (g : Nat) (W : World) (h : Blk W g 5 [.int .u8 x.toNat, .int .u8 y.toNat]) :
    Calls Try.prog 230 #[.slice (some ⟨g, 0, none⟩) 2 2] W fun e w' => e = .returned (.int .u8 (x ^^^ y).toNat) ∧ W = w' := by
  have := add_any _ [x, y] W (KBs.of_blk (l := [x, y]) h (fun h => h) (by simp))
  simpa [addAll] using this

set_option maxHeartbeats 400000 in
theorem scale_any (c : UInt8) (v : Value) (l : List UInt8) (w : World) (h : KBs.R noB w [v] l) : Calls Try.prog 248 #[.int .u8 c.toNat, v] w (Ret KBs w (scale c l)) := by
  obtain ⟨A, cp, rfl, hlc, hc, hl47, _⟩ := KSl.val h
  have hmk := run_make_row8 l.length (by omega)
  go_enter Try.func248, Try.ntmps248
  go_wp2_with fail
  generalize hB : w.heap.size = B
  go_loopw [13] (fun i wr => ∃ k : Nat, k ≤ l.length ∧ i = .int .i64 k ∧ Blk wr B 5 (((l.take k).map (times c) ++ List.replicate (l.length - k) 0).map encB) ∧ Below B w wr) (fun i _ => l.length - (intOf i).toNat)
  case atStart =>
    refine ⟨0, Nat.zero_le _, rfl, ?_, ?_⟩
    · subst hB
      have := Blk.made w 5 (.int .u8 0) l.length
      simpa [encB] using this
    · subst hB; exact (Below.refl _ _).alloc (Nat.le_refl _) _
  case round =>
    obtain ⟨k, hk, rfl, hb, hbel⟩ := hrel
    subst hB
    by_cases hlt : k < l.length
    · obtain ⟨ad, rfl, hcell⟩ := KBs.byte h hlt
      have hcell' := cell_below hbel _ _ hcell
      have hlt' := hb.lt
      have hout : wr.cell? ⟨w.heap.size, k, none⟩ = some (.int .u8 0) := by
        rw [hb.cell, List.getElem?_map, List.getElem?_append_right (by simp; omega)]
        simp [show min k l.length = k from by omega, List.getElem?_replicate, encB, show ¬ l.length - k = 0 from by omega]
      have hfr := hb.frozen k
      have hset := fun (u : Value) (o : Obj) => (hb.set_ k u).alloc o
      clear hcell hmk
      go_wp2_with (go_at_call 258; refine (mul_two c l[k] _ _ (Blk.new wr 5 [.int .u8 c.toNat, .int .u8 l[k].toNat])).mono ?_; rintro e w' ⟨rfl, rfl⟩)
      go_roundw
      case rel =>
        refine ⟨k + 1, by omega, by go_num, ?_, ?_⟩
        · have := hset (.int .u8 (times c l[k]).toNat) (.cells #[.int .u8 c.toNat, .int .u8 l[k].toNat] 5)
          rw [show (.int .u8 (times c l[k]).toNat : Value) = encB (times c l[k]) from rfl, map_set_encB, set_next (times c) l k 0 _ hlt rfl] at this
          exact this
        · exact (hbel.setCell (Nat.le_refl _) _).alloc (by simp; omega) _
      case measure => simp [intOf]; omega
    · have e : k = l.length := by omega
      subst e
      go_wp2
      go_ret
      refine ⟨_, rfl, ?_, hbel⟩
      rw [List.take_of_length_le (Nat.le_refl _), Nat.sub_self, List.replicate_zero, List.append_nil] at hb
      have := KBs.of_blk (M := old w) hb (Nat.lt_irrefl _) (by simp; omega)
      simpa [scale] using this

/-! ### Sum -/
def xorInto : Row → Row → Row
  | [], _ => []
  | o, [] => o
  | a :: o, b :: r => (a ^^^ b) :: xorInto o r
theorem xorInto_nil (o : Row) : xorInto o [] = o := by cases o <;> rfl
theorem xorInto_length (o r : Row) : (xorInto o r).length = o.length := by
  induction o generalizing r with
  | nil => rfl
  | cons a o ih => cases r with
    | nil => rfl
    | cons b r => simp [xorInto, ih]
theorem xorInto_take (o r : Row) (i : Nat) (h1 : i < o.length) (h2 : i < r.length) : xorInto o (r.take (i + 1)) = (xorInto o (r.take i)).set i (o[i] ^^^ r[i]) := by
  induction o generalizing r i with
  | nil => simp at h1
  | cons a o ih => cases r with
    | nil => simp at h2
    | cons b r => cases i with
      | zero => simp [xorInto, xorInto_nil]
      | succ i =>
        simp only [List.take_succ_cons, xorInto, List.set_cons_succ, List.getElem_cons_succ]
        rw [ih r i (by simpa using h1) (by simpa using h2)]
theorem xorInto_get (o r : Row) (i : Nat) (h1 : i < o.length) : (xorInto o (r.take i))[i]'(by rw [xorInto_length]; exact h1) = o[i] := by
  induction o generalizing r i with
  | nil => simp at h1
  | cons a o ih => cases r with
    | nil => simp [xorInto_nil]
    | cons b r => cases i with
      | zero => simp [xorInto]
      | succ i => simp only [List.take_succ_cons, xorInto, List.getElem_cons_succ]; exact ih r i (by simpa using h1)
theorem xorInto_all (o r : Row) (n : Nat) (h : n = min o.length r.length) : xorInto o (r.take n) = xorInto o r := by
  induction o generalizing r n with
  | nil => rfl
  | cons a o ih => cases r with
    | nil => simp [xorInto_nil]
    | cons b r =>
      have : n = min o.length r.length + 1 := by simp at h; omega
      subst this
      simp only [List.take_succ_cons, xorInto]
      rw [ih r _ rfl]
def sumRows (n : Nat) (l : List Row) : Row := l.foldl xorInto (List.replicate n 0)
theorem foldl_length (l : List Row) (o : Row) : (l.foldl xorInto o).length = o.length := by
  induction l generalizing o with
  | nil => rfl
  | cons r l ih => rw [List.foldl_cons, ih, xorInto_length]
theorem sumRows_length (n : Nat) (l : List Row) : (sumRows n l).length = n := by rw [sumRows, foldl_length, List.length_replicate]
theorem sumRows_step {n : Nat} {l : List Row} {k : Nat} (h : k < l.length) : sumRows n (l.take (k + 1)) = xorInto (sumRows n (l.take k)) l[k] := by
  unfold sumRows; rw [List.take_succ_eq_append_getElem h, List.foldl_append]; rfl

set_option maxRecDepth 100000 in
set_option maxHeartbeats 400000 in
theorem sum_any (n : Nat) (hn : n ≤ 1000) (v : Value) (rs : List Row) (w : World) (h : KRows.R noB w [v] rs) : Calls Try.prog 190 #[.int .i64 n, v] w (Ret KBs w (sumRows n rs)) := by
  obtain ⟨A, cp, rfl, hlc, hc, hl47, _⟩ := KSl.val h
  have hmk := run_make_row8 n (by omega)
  have e1 : (if (1000 : Int) < (n : Int) then (1000 : Int) else (n : Int)) = (n : Int) := if_neg (by omega)
  have e2 : (if 0 < n then (n : Int) else 0) = (n : Int) := by split <;> omega
  have e3 : (if 0 < (n : Int) then (n : Int) else 0) = (n : Int) := by split <;> omega
  go_enter Try.func190, Try.ntmps190
  go_wp2_with fail
  generalize hB : w.heap.size = B
  go_loopw [15] (fun i wr => ∃ k : Nat, k ≤ rs.length ∧ i = .int .i64 k ∧ Blk wr B 5 ((sumRows n (rs.take k)).map encB) ∧ Below B w wr) (fun i _ => rs.length - (intOf i).toNat)
  case atStart =>
    refine ⟨0, Nat.zero_le _, rfl, ?_, ?_⟩
    · subst hB
      have := Blk.made w 5 (.int .u8 0) n
      simpa [encB, sumRows] using this
    · subst hB; exact (Below.refl _ _).alloc (Nat.le_refl _) _
  case round =>
    obtain ⟨k, hk, rfl, hb, hbel⟩ := hrel
    subst hB
    by_cases hlt : k < rs.length
    · obtain ⟨ad, vj, rfl, hc1, hr2⟩ := KSl.at1 h rfl hlt
      have hc1' := cell_below hbel _ _ hc1
      obtain ⟨A2, c2, rfl, h21, h22, h23, _⟩ := KSl.val hr2
      have hol := sumRows_length n (rs.take k)
      have HS := sumRows_step (n := n) hlt
      generalize sumRows n (rs.take k) = o at hb hol HS
      generalize hrk : rs[k] = r at h21 h23 hr2 HS hc1'
      clear hc1 hmk hrk h
      obtain ⟨wo, rfl⟩ : ∃ wo : World, wo = wr := ⟨_, rfl⟩
      have HH : Hid (sumRows n (rs.take (k + 1)) = xorInto o r) := HS
      clear HS
      obtain ⟨m, hm⟩ : ∃ m, m = min n r.length := ⟨_, rfl⟩
      have e4 : (if r.length < n then (r.length : Int) else (n : Int)) = (m : Int) := by split <;> omega
      have HM : Hid (m = min n r.length) := hm
      have hmn : m ≤ n := by omega
      have hmr : m ≤ r.length := by omega
      have HL : Hid (o.length = n) := hol
      clear hm hol
      go_wp2_with fail
      go_loopw [8, 24] (fun _ i wi => ∃ q : Nat, q ≤ m ∧ i = .int .i64 q ∧ Blk wi w.heap.size 5 ((xorInto o (r.take q)).map encB) ∧ Below w.heap.size w wi) (fun _ i _ => m - (intOf i).toNat)
      case atStart => exact ⟨0, Nat.zero_le _, rfl, by rw [List.take_zero, xorInto_nil]; exact hb, hbel⟩
      case round =>
        obtain ⟨q, hq, rfl, hbi, hbeli⟩ := hrel
        by_cases hqm : q < m
        · obtain ⟨ad2, rfl, hcell⟩ := KBs.byte hr2 (i := q) (by omega)
          have hcell2 := cell_below hbeli _ _ hcell
          have hqo : q < o.length := by rw [HL.out]; omega
          have hqx : q < (xorInto o (r.take q)).length := by rw [xorInto_length]; exact hqo
          have hout : wr.cell? ⟨w.heap.size, q, none⟩ = some (.int .u8 (o[q].toNat : Nat)) := by
            rw [hbi.cell, List.getElem?_map, List.getElem?_eq_getElem hqx, xorInto_get o r q hqo]
            rfl
          have hfr := hbi.frozen q
          have hlt' := hbi.lt
          have i1 : (0 : Int) ≤ (q : Int) := by omega
          have i2 : (q : Int) < (n : Int) := by omega
          have i3 : (q : Int) < (r.length : Int) := by omega
          have hqn : q < n := by omega
          have hqr : q < r.length := by omega
          clear hcell hc1' hb hbel
          go_wp2_with fail
          go_region_with (go_at_call 230; refine (add_two o[q] r[q] _ _ ?_).mono ?_; (first | exact Blk.new _ _ _ | exact (Blk.new _ _ _).drew); rintro e w' ⟨rfl, rfl⟩)
          all_goals go_wp2
          all_goals
            go_roundw
            case rel =>
              refine ⟨q + 1, by omega, by go_num, ?_, (((hbeli.setCell (Nat.le_refl _) _).alloc (by simp; omega) _).drew)⟩
              have := ((hbi.set_ q (encB (o[q] ^^^ r[q]))).alloc (.cells #[.int .u8 (o[q].toNat : Nat), .int .u8 (r[q].toNat : Nat)] 5)).drew
              rw [map_set_encB, ← xorInto_take o r q hqo hqr, encB, UInt8.toNat_xor] at this
              exact this
            case measure => simp [intOf]; omega
        · have e : q = m := by omega
          subst e
          go_wp2
          go_roundw
          case rel =>
            refine ⟨k + 1, by omega, by go_num, ?_, hbeli⟩
            rw [HH.out, ← xorInto_all o r q (by rw [HL.out]; exact HM.out)]
            exact hbi
          case measure => simp [intOf]; omega
    · have e : k = rs.length := by omega
      subst e
      go_wp2
      go_ret
      refine ⟨_, rfl, ?_, hbel⟩
      rw [List.take_of_length_le (Nat.le_refl _)] at hb
      have := KBs.of_blk (M := old w) hb (Nat.lt_irrefl _) (by rw [sumRows_length]; omega)
      rwa [sumRows_length] at this

set_option maxHeartbeats 400000 in
theorem fit_any (n : Nat) (hn : n ≤ 1000) (v : Value) (r : Row) (w : World) (h : KBs.R noB w [v] r) : Calls Try.prog 143 #[.int .i64 n, v] w (Ret KBs w (sumRows n [r])) := by
  have ho := KBs.one h v (by simp)
  have hs := sum_any n hn (.slice (some ⟨w.heap.size, 0, none⟩) 1 1) [r] (w.alloc (.cells #[v] 131)) (KSl.of_blk1 (l := [r]) (Blk.new w 131 [v]) (fun h => h) rfl (by simp) (by simp) (fun i h1 h2 => by
    obtain rfl : i = 0 := by simp at h1; omega
    exact Kd.below h (below_one w _)))
  obtain ⟨A, cp, rfl, _⟩ := KSl.val h
  go_enter Try.func143, Try.ntmps143
  go_wp2_with (go_at_call 190; refine hs.mono ?_; rintro e w' ⟨v', rfl, hv, hb⟩)
  go_ret
  exact ⟨_, rfl, KBs.anti hv (fun g _ hg => by simp [old] at hg ⊢; omega), (below_one w _).trans (hb.mono (by simp))⟩

/-- A row less a multiple of another one of its length. -/
def takeOne (r : Row) (c : UInt8) (p : Row) : Row := sumRows r.length [r, scale c p]
set_option maxHeartbeats 400000 in
theorem without_any (v p : Value) (r q : Row) (c : UInt8) (w : World) (hl : r.length ≤ 1000) (h : KBs.R noB w [v] r) (hp : KBs.R noB w [p] q) : Calls Try.prog 249 #[v, .int .u8 c.toNat, p] w (Ret KBs w (takeOne r c q)) := by
  have ho := KBs.one h v (by simp)
  have hs := scale_any c p q w hp
  have hsum : ∀ (w1 : World) (x : Value), KBs.R (old w) w1 [x] (scale c q) → Below w.heap.size w w1 → Calls Try.prog 190 #[.int .i64 (r.length : Nat), .slice (some ⟨w1.heap.size, 0, none⟩) 2 2] (w1.alloc (.cells #[v, x] 131)) (Ret KBs (w1.alloc (.cells #[v, x] 131)) (takeOne r c q)) := fun w1 x hx hb =>
    sum_any r.length hl _ [r, scale c q] _ (KSl.of_blk1 (l := [r, scale c q]) (Blk.new w1 131 [v, x]) (fun h => h) rfl (by simp) (by simp) (fun i h1 h2 => by
      match i, h1 with
      | 0, _ => exact Kd.below (Kd.below h hb) (below_one w1 _)
      | 1, _ => exact Kd.below (Kd.drop hx) (below_one w1 _)
      | i + 2, h1 => exact absurd h1 (by simp)))
  obtain ⟨A, cp, rfl, _⟩ := KSl.val h
  obtain ⟨A2, cp2, rfl, _⟩ := KSl.val hp
  go_enter Try.func249, Try.ntmps249
  go_wp2_with fail
  refine hs.mono ?_
  rintro e w1 ⟨x, rfl, hx, hb⟩
  have hx1 := KBs.one hx x (by simp)
  have hsum1 := hsum w1 x hx hb
  clear hsum hs
  obtain ⟨A3, cp3, rfl, _⟩ := KSl.val hx
  go_wp2_with fail
  refine hsum1.mono ?_
  rintro e w2 ⟨y, rfl, hy, hb2⟩
  go_wp2_with fail
  go_ret
  have hb1 := hb.size
  exact ⟨_, rfl, KBs.anti hy (fun g _ hg => by simp [old] at hg ⊢; omega), below_add hb ((below_one w1 _).trans (hb2.mono (by simp))) (by omega)⟩

theorem elemRow : Elem Try.prog 134 131 KBs.size 24 := Elem.mk' (z := .slice none 0 0) Try.underlying134 (by kernel_rfl) (by decide) rfl
def fitAll (n : Nat) (rs : List Row) : List Row := rs.map fun r => sumRows n [r]

set_option maxHeartbeats 400000 in
theorem solve_fit_any (n : Nat) (hn : n ≤ 1000) (v : Value) (rs : List Row) (w : World) (h : KRows.R noB w [v] rs) (hlen : rs.length ≤ 1000000) : Calls Try.prog 221 #[.int .i64 n, v] w (RetOwn KBs 131 w (fitAll n rs)) := by
  obtain ⟨A, cp, rfl, hlc, hc, hl47, _⟩ := KSl.val h
  go_enter Try.func221, Try.ntmps221
  go_wp2
  generalize hB : w.heap.size = B
  go_loopw [5, 10] (fun o i wr => ∃ k : Nat, k ≤ rs.length ∧ i = .int .i64 k ∧ Own KBs 131 B (old w) wr o (fitAll n (rs.take k)) ∧ Below B w wr) (fun _ i _ => rs.length - (intOf i).toNat)
  case atStart => exact ⟨0, Nat.zero_le _, rfl, Own.nil, Below.refl _ _⟩
  case round =>
    obtain ⟨k, hk, rfl, ho, hbel⟩ := hrel
    subst hB
    by_cases hlt : k < rs.length
    · obtain ⟨ad, vj, rfl, hc1, hv⟩ := KSl.at1 h rfl hlt
      have hc1' := cell_below hbel _ _ hc1
      have hfit := fit_any n hn vj rs[k] wr (Kd.below hv hbel)
      have hs : fitAll n (rs.take (k + 1)) = fitAll n (rs.take k) ++ [sumRows n [rs[k]]] := by
        unfold fitAll; rw [List.take_succ_eq_append_getElem hlt, List.map_append]; rfl
      have hlenk : (fitAll n (rs.take k)).length = k := by unfold fitAll; rw [List.length_map, List.length_take]; omega
      have hvone := KBs.one hv vj (by simp)
      obtain ⟨A2, c2, rfl, _⟩ := KSl.val hv
      have HS : Hid (fitAll n (rs.take (k + 1)) = fitAll n (rs.take k) ++ [sumRows n [rs[k]]]) := hs
      clear hs hc1 h hv
      go_wp2_with fail
      refine hfit.mono ?_
      rintro e w1 ⟨x, rfl, hx, hb1⟩
      have hB1 := hb1.size
      have hB0 := hbel.size
      have hown := (ho.below hb1).below (below_one w1 (.cells #[x] 131))
      have hnew := KSl.of_blk1 (bytes := 24) (K := KBs) (M := fun g => old w g ∨ u5.ownBlock = some g) (l := [sumRows n [rs[k]]]) (Blk.new w1 131 [x]) (by
        rintro (h | h)
        · simp [old] at h; omega
        · have := (ho.block h).2; omega) rfl (by simp) (by simp) (fun i h1 h2 => by
        obtain rfl : i = 0 := by simp at h1; omega
        refine Kd.below (KBs.anti hx fun g _ hg => ?_) (below_one w1 _)
        rcases hg with h | h
        · exact old_mono hB0 g h
        · exact (ho.block h).2)
      obtain ⟨A3, cp3, rfl, _⟩ := KSl.val hx
      go_wp2_with (at_builtin; refine wpList_app elemRow rfl _ _ rfl rfl rfl hown hnew ?c1 ?c2 ?c3 ?c4 ?_)
      case c1 => rw [hlenk]; simp; omega
      case c2 => rw [hlenk]; simp; omega
      case c3 => simp; omega
      case c4 => intro g hg; simp [old] at hg ⊢; omega
      intro v' w2 hown2 hgrow hob
      rw [← HS.out] at hown2
      have hbel2 : Below w.heap.size w w2 := ((hbel.trans (hb1.mono hB0)).alloc (by omega) _).grown hgrow (by simp; omega) (fun g hg => (ho.block hg).1)
      clear hown hnew hfit hx ho
      go_wp2
      go_roundw
      case rel => exact ⟨k + 1, by omega, by go_num, hown2, hbel2⟩
      case measure => simp [intOf]; omega
    · have e : k = rs.length := by omega
      subst e
      go_wp2
      go_ret
      rw [List.take_of_length_le (Nat.le_refl _)] at ho
      exact ⟨_, rfl, ho, hbel⟩
end Go.Proofs.Ytpdfcgkeclocoaa
