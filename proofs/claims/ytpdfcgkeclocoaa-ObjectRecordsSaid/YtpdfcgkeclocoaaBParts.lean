/- The walk of block.Parts. -/
import Derived.Test.YtpdfcgkeclocoaaSolve
import Derived.Test.YtpdfcgkeclocoaaFind
import Derived.Test.YtpdfcgkeclocoaaPlan
set_option linter.all false
namespace Go.Proofs.Ytpdfcgkeclocoaa
open Go.RowKit GF
attribute [local go_sem ↓] Go.wp_at_zero Go.wp_at_succ

/-- A value and an error in one. -/
def TupE {α : Type} (K : Kd α) (z : Value) (M : Blocks) (w' : World) (x : Except Nat α) (t : Value) : Prop :=
  ∃ (v' : Value) (n : Nat), t = .tuple #[v', .int .i64 n] ∧ (match x with | .ok y => K.R M w' [v'] y ∧ n = 0 | .error q => v' = z ∧ n = q)
theorem RetE.tup {α : Type} {K : Kd α} {z : Value} {w : World} {x : Except Nat α} {e : Ending} {w' : World} (h : RetE K z w x e w') : ∃ t, e = .returned t ∧ TupE K z (old w) w' x t ∧ Below w.heap.size w w' := by
  obtain ⟨v', n, h1, h2, h3⟩ := h
  exact ⟨_, h1, ⟨v', n, rfl, h3⟩, h2⟩
theorem TupE.ret {α : Type} {K : Kd α} {z : Value} {w : World} {x : Except Nat α} {w' : World} {v' : Value} {n : Nat} (h : match x with | .ok y => K.R (old w) w' [v'] y ∧ n = 0 | .error q => v' = z ∧ n = q) (hb : Below w.heap.size w w') : RetE K z w x (.returned (.tuple #[v', .int .i64 n])) w' := ⟨v', n, rfl, hb, h⟩
theorem TupE.mono {α : Type} {K : Kd α} {z : Value} {M M' : Blocks} {w w' : World} {x : Except Nat α} {t : Value} (h : TupE K z M w x t) (hb : Below w.heap.size w w') (hm : ∀ g, g < w.heap.size → M' g → M g) : TupE K z M' w' x t := by
  obtain ⟨v', n, h1, h2⟩ := h
  refine ⟨v', n, h1, ?_⟩
  cases x with
  | ok y => exact ⟨Kd.below (K.anti h2.1 hm) hb, h2.2⟩
  | error q => exact h2

/-- The parts of a block of some symbols. -/
def partsP (k j size : Nat) (esis : List Nat) (data : List Row) : Except Nat (List Row) := solveP (Lk k) size (matrix k j esis) (List.replicate (Sk k + 2) [] ++ data)

theorem Own.nils (t : TypeId) (M : Blocks) (w : World) (n : Nat) (h : n ≤ 1000) : Own KBs t w.heap.size M (w.alloc (.cells (madeCells #[.slice none 0 0] n) t)) (.slice (some ⟨w.heap.size, 0, none⟩) n n) (List.replicate n []) := by
  have hb := Blk.made w t (.slice none 0 0) n
  have hf : (List.replicate n [Value.slice none 0 0]).flatten = List.replicate n (.slice none 0 0) := by
    induction n with
    | zero => rfl
    | succ n ih => rw [List.replicate_succ, List.flatten_cons, ih (by omega) (Blk.made w t (.slice none 0 0) n), List.replicate_succ]; rfl
  refine ⟨List.replicate n [Value.slice none 0 0], by simp, ⟨?_, .inr ⟨w.heap.size, n, (List.replicate n (Value.slice none 0 0)).toArray, by simp, Nat.le_refl _, hb, by simp, by simp [maxLen]; omega, ?_, ?_⟩⟩, fun i h1 h2 => ?_⟩
  · rw [hf]; simp; exact (Nat.mul_one n).symm
  · simp; exact (Nat.mul_one n).symm
  · rw [hf]; simp; exact Nat.min_eq_right (Nat.le_of_eq (Nat.mul_one n).symm)
  · rw [List.getElem_replicate, List.getElem_replicate]; exact KSl.nil

set_option maxRecDepth 100000 in
set_option maxHeartbeats 1000000 in
theorem bparts_any (k j size : Nat) (h1 : 1 ≤ k) (h2 : k ≤ 40) (hj : j ≤ 255) (hz1 : 1 ≤ size) (hz2 : size ≤ 64) (ve vd : Value) (esis : List Nat) (data : List Row) (w : World) (he : (KSl 8 KNat).R noB w [ve] esis) (hd : KRows.R noB w [vd] data)
    (hl : esis.length = data.length) (hx : ∀ x ∈ esis, x < 16777216) (hlen : esis.length ≤ 100000) :
    Calls Try.prog 135 #[.agg #[.int .i64 k, .int .i64 (Sk k), .int .i64 2], .int .i64 j, .int .i64 size, ve, vd] w (RetE KRows (.slice none 0 0) w (partsP k j size esis data)) := by
  have hL := params_L' k h2
  have hmat := fun (W : World) (hW : (KSl 8 KNat).R noB W [ve] esis) => matrix_any k j h1 h2 hj esis ve W hW hx (by omega)
  have hml := matrix_length k j esis
  have hlk : 1 ≤ Lk k ∧ Lk k ≤ 60 := by unfold Lk Wk Sk; omega
  have hdl : (List.replicate (Sk k + 2) [] ++ data : List Row).length = Sk k + 2 + data.length := by simp
  have hsol := fun (vm vd : Value) (W : World) (hm : KRows.R noB W [vm] (matrix k j esis)) (hd : KRows.R noB W [vd] (List.replicate (Sk k + 2) [] ++ data)) => solve_any (Lk k) size hlk.1 (by omega) hz1 (by omega) vm vd _ _ W hm hd (by rw [hml, hdl, hl]) (by rw [hml]; omega) (by rw [hml]; unfold Sk; omega)
  have hp : partsP k j size esis data = solveP (Lk k) size (matrix k j esis) (List.replicate (Sk k + 2) [] ++ data) := rfl
  rw [← hp] at hsol
  have hsk : Sk k ≤ 7 := by unfold Sk; omega
  generalize partsP k j size esis data = out at *
  generalize hdd : (List.replicate (Sk k + 2) [] ++ data : List Row) = dl at *
  generalize matrix k j esis = mx at *
  generalize Lk k = L at *
  generalize Sk k = S0 at *
  have HDD : Hid ((List.replicate (S0 + 2) [] ++ data : List Row) = dl) := hdd
  have hmb : mx.length ≤ 100100 := by omega
  have hdb : dl.length ≤ 100100 := by omega
  have hdab : data.length ≤ 100000 := by omega
  have HL : Hid (esis.length = data.length) := hl
  have hmk := run_make_rows (S0 + 2) (by omega)
  obtain ⟨Ae, ce, rfl, _⟩ := KSl.val he
  obtain ⟨Ad, cd, rfl, _⟩ := KSl.val hd
  have hcast : ((S0 + 2 : Nat) : Int) = (S0 : Int) + 2 := by omega
  rw [hcast] at hmk
  clear hml hdl hdd hl hp hcast
  go_enter Try.func135, Try.ntmps135
  go_wp2_with fail
  have hx0 : Blk (w.alloc (.cells #[.int .i64 k, .int .i64 S0, .int .i64 2] 155)) w.heap.size 155 [.int .i64 k, .int .i64 S0, .int .i64 2] := (Blk.new w _ _)
  have hbel0 : Below w.heap.size w (w.alloc (.cells #[.int .i64 k, .int .i64 S0, .int .i64 2] 155)) := below_one _ _
  have hsz0 : (w.alloc (.cells #[.int .i64 k, .int .i64 S0, .int .i64 2] 155)).heap.size = w.heap.size + 1 := by simp
  generalize w.alloc (.cells #[.int .i64 k, .int .i64 S0, .int .i64 2] 155) = wa at *
  have hwa : wa.heap.size = w.heap.size + 1 := hsz0
  have hown := Own.nils 131 noB wa (S0 + 2) (by omega)
  have hxb := hx0.below (below_one wa (.cells (madeCells #[.slice none 0 0] (S0 + 2)) 131))
  have hbel1 : Below w.heap.size w (wa.alloc (.cells (madeCells #[.slice none 0 0] (S0 + 2)) 131)) := hbel0.alloc (by omega) _
  have hsz1 : (wa.alloc (.cells (madeCells #[.slice none 0 0] (S0 + 2)) 131)).heap.size = wa.heap.size + 1 := by simp
  rw [hwa] at hown hsz1
  generalize wa.alloc (.cells (madeCells #[.slice none 0 0] (S0 + 2)) 131) = wb at *
  have hc0 := hxb.cell 0
  have hc1 := hxb.cell 1
  have hc2 := hxb.cell 2
  simp only [List.getElem?_cons_zero, List.getElem?_cons_succ] at hc0 hc1 hc2
  have heb := Kd.below he hbel1
  have hdb1 : KRows.R (fun g => noB g ∨ (Value.slice (some ⟨w.heap.size + 1, 0, none⟩) (S0 + 2) (S0 + 2)).ownBlock = some g) wb [.slice Ad data.length cd] data := Kd.below (KRows.anti hd fun g hg hm => by
    rcases hm with hm | hm
    · exact hm
    · have : w.heap.size + 1 = g := by simpa [Value.ownBlock] using hm
      omega) hbel1
  have hszb : w.heap.size + 2 ≤ wb.heap.size := by omega
  clear hsz0 hx0 hbel0 hmk hwa hsz1 he hd hxb
  refine wp_region_plan2 [0, 2, 3, 4, 5, 7, 8] [0, 3] [1, 6, 9, 10] [] [11, 12, 13, 14] (fun w' => w'.cell? ⟨w.heap.size, 0, none⟩ = some (.int .i64 k) ∧ w'.cell? ⟨w.heap.size, 1, none⟩ = some (.int .i64 S0) ∧ w'.cell? ⟨w.heap.size, 2, none⟩ = some (.int .i64 2)) (by kernel_rfl) (by kernel_rfl) (fun _ _ _ _ _ h => h) ⟨hc0, hc1, hc2⟩ ?_
  simp only [List.map_cons, List.map_nil, opAt, List.getD_cons_zero, List.getD_cons_succ, List.contains_cons, List.contains_nil, Nat.reduceBEq, Bool.or_false, Bool.or_true]
  apply front_hot
  · intro w9 hS
    obtain ⟨hS0, hS1, hS2⟩ := hS
    go_simp
    with_reducible rfl
  go_simp
  apply front_cons
  · intro w9
    go_simp
    with_reducible rfl
  go_simp
  apply front_hot
  · intro w9 hS
    obtain ⟨hS0, hS1, hS2⟩ := hS
    go_simp
    with_reducible rfl
  go_simp
  iterate 4
    apply front_cons
    · intro w9
      go_simp
      with_reducible rfl
    go_simp
  refine front_nil ?_
  refine etail_cons (fun K hK => ?_)
  go_simp
  refine (hL _).mono ?_
  rintro e w1 ⟨rfl, hb1⟩
  have hb1' : Below wb.heap.size wb w1 := (Below.refl _ _).drew.trans hb1
  have hsz1 := hb1'.size
  refine hK _ _ (fun _ => ⟨cell_below hb1' _ _ hc0, cell_below hb1' _ _ hc1, cell_below hb1' _ _ hc2⟩) ?_
  clear hK K
  go_simp
  refine etail_cons (fun K hK => ?_)
  go_simp
  refine (hmat _ (Kd.below heb hb1')).mono ?_
  rintro e w2 ⟨v2, rfl, ho2, hb2⟩
  have hb2' : Below wb.heap.size wb w2 := hb1'.trans (hb2.mono hsz1)
  have hsz2 := hb2.size
  refine hK _ _ (fun _ => ⟨cell_below hb2' _ _ hc0, cell_below hb2' _ _ hc1, cell_below hb2' _ _ hc2⟩) ?_
  clear hK K
  go_simp
  refine etail_list rfl (fun K hK => ?_)
  refine wpList_app elemRow rfl _ _ rfl rfl rfl (hown.below hb2') (Kd.below hdb1 hb2') ?c1 ?c2 ?c3 ?c4 ?_
  case c1 => simp; omega
  case c2 => simp; omega
  case c3 => omega
  case c4 => exact fun _ h => h.elim
  intro v3 w3 ho3 hgrow0 hob3
  have hgrow : w2.grownBy w3 (some (w.heap.size + 1)) := hgrow0
  clear hgrow0
  rw [HDD.out] at ho3
  have hb3u : Upd (fun g => g = w.heap.size + 1) w2 w3 := Upd.grown hgrow (fun b hb _ => by
    exact (Option.some.inj hb).symm)
  have hm2 := ho2.sl (bytes := 24) (M' := fun g => g = w.heap.size + 1) (by omega) (fun g _ (hg : g = w.heap.size + 1) => by show g < w1.heap.size; omega) (fun g hg (hm : g = w.heap.size + 1) => by have := (ho2.block hg).1; omega)
  have hm3 := Kd.drop (Kd.upd hm2 hb3u)
  have hd3 := ho3.sl (bytes := 24) (M' := noB) (by omega) (fun _ _ h => h.elim) (fun _ _ h => h)
  have hb3 : Below w.heap.size w w3 := (hbel1.trans (hb2'.mono (by omega))).grown hgrow (by omega) (fun g hg => by
    have := Option.some.inj hg
    omega)
  have hcell : ∀ i x, wb.cell? ⟨w.heap.size, i, none⟩ = some x → w3.cell? ⟨w.heap.size, i, none⟩ = some x := fun i x hx => by
    refine (World.cell?_of_block (hb3u.block w.heap.size (by omega) (by omega))).trans (cell_below hb2' _ _ hx)
  have d0 := hcell _ _ hc0
  have d1 := hcell _ _ hc1
  have d2 := hcell _ _ hc2
  clear ho3 hgrow hob3 ho2 hm2 hown hdb1 hcell
  go_simp
  refine hK _ _ (fun _ => ⟨d0, d1, d2⟩) ?_
  clear hK K
  go_simp
  refine etail_cons (fun K hK => ?_)
  go_simp
  refine (hsol v2 v3 w3 hm3 hd3).mono ?_
  rintro e w4 ⟨v4, q, rfl, hb4, hx4⟩
  have hsz3 := hb3.size
  have hb4' : Below w.heap.size w w4 := hb3.trans (hb4.mono hsz3)
  have hfin : RetE KRows (.slice none 0 0) w out (.returned (.tuple #[v4, .int .i64 q])) w4 := by
    refine ⟨v4, q, rfl, hb4', ?_⟩
    cases out with
    | ok y => exact ⟨KRows.anti hx4.1 (fun g _ (hg : g < w.heap.size) => by show g < w3.heap.size; omega), hx4.2⟩
    | error e => exact hx4
  refine hK _ _ (fun _ => ⟨cell_below hb4 _ _ d0, cell_below hb4 _ _ d1, cell_below hb4 _ _ d2⟩) ?_
  clear hK K
  have hv4 : v4.oneCell' = true := by
    cases out with
    | ok y => exact KRows.one hx4.1 v4 (by simp)
    | error e => rw [hx4.1]; rfl
  clear hx4 hsol hL hmat
  go_simp
  refine etail_nil ?_
  iterate 4
    apply front_cons
    · intro w9
      go_simp
      with_reducible rfl
    go_simp
  refine front_nil ?_
  go_wp2
  go_ret2
  exact hfin
end Go.Proofs.Ytpdfcgkeclocoaa
