/- The walks of package drops. -/
import Derived.Test.YtpdfcgkeclocoaaKit
import Derived.Test.YtpdfcgkeclocoaaTRow
set_option linter.all false
namespace Go.Proofs.Ytpdfcgkeclocoaa
open Go.RowKit GF
attribute [local go_sem ↓] Go.wp_at_zero Go.wp_at_succ

/-- A symbol of a block's parts. -/
def dropOf (k j size : Nat) (c : List Row) (esi : Nat) : Row := sumRows size ((parts k j esi).map fun x => c.getD x [])
theorem dropOf_length (k j size : Nat) (c : List Row) (esi : Nat) : (dropOf k j size c esi).length = size := sumRows_length _ _

theorem KRows.at_ {M : Blocks} {w : World} {A : Option Addr} {c : Nat} {l : List Row} (h : KRows.R M w [.slice A l.length c] l) {i : Nat} (hi : i < l.length) : ∃ ad u, A = some ad ∧ w.cell? (ad.add i) = some u ∧ KBs.R M w [u] l[i] := KSl.at1 h rfl hi

set_option maxRecDepth 100000 in
set_option maxHeartbeats 1000000 in
theorem drop_any (k j size : Nat) (h1 : 1 ≤ k) (h2 : k ≤ 40) (hj : j ≤ 255) (hz1 : 1 ≤ size) (hz2 : size ≤ 64) (v : Value) (c : List Row) (esi : Nat) (he : esi < 16777216) (w : World) (h : KRows.R noB w [v] c) (hc : c.length = Lk k) :
    Calls Try.prog 145 #[.agg #[.int .i64 k, .int .i64 (Sk k), .int .i64 2], .int .i64 j, .int .i64 size, v, .int .i64 esi] w (Ret KBs w (dropOf k j size c esi)) := by
  obtain ⟨A, cp, rfl, hlc, _⟩ := KSl.val h
  have hP := tuple_parts k j esi h1 h2 hj he
  have hL := params_L' k h2
  have hne := parts_ne k j esi
  have hlen := parts_len k j esi
  have hplt := parts_lt k j esi h1
  have hwk : Wk k ≤ 50 := by unfold Wk Sk; omega
  have hdo : dropOf k j size c esi = sumRows size ((parts k j esi).map fun x => c.getD x []) := rfl
  have hlk : Lk k ≤ 60 := by unfold Lk Wk Sk; omega
  generalize dropOf k j size c esi = out at *
  generalize parts k j esi = ps at *
  have HC : Hid (c.length = Lk k) := hc
  have hcb : c.length ≤ 60 := by omega
  have HD : Hid (out = sumRows size (ps.map fun x => c.getD x [])) := hdo
  clear hdo
  have hplc : ∀ x ∈ ps, x < c.length := fun x hx => by rw [hc]; exact hplt x hx
  have HPL : Hid (∀ x ∈ ps, x < c.length) := hplc
  rw [← hc] at hL
  clear hplt hplc hc
  generalize Lk k = L at *
  have hn0 : ((ps.length : Int) == 0) = false := beq_eq_false_iff_ne.2 (by omega)
  have hcc : ((c.length : Int) != (c.length : Int)) = false := by simp
  have hz3 : decide ((size : Int) < 1) = false := by simp; omega
  have hz4 : decide ((64 : Int) < (size : Int)) = false := by simp; omega
  go_enter Try.func145, Try.ntmps145
  go_wp2_with fail
  refine (hP _).mono ?_
  rintro e w1 ⟨v1, rfl, ho, hb1⟩
  have hx : Blk w1 w.heap.size 155 [.int .i64 k, .int .i64 (Sk k), .int .i64 2] := (Blk.new w _ _).below (hb1.mono (Nat.le_refl _))
  have hlt := hx.lt
  have hb01 : Below w.heap.size w w1 := (below_one w _).trans (hb1.mono (by simp))
  have hc0 := hx.cell 0
  have hc1 := hx.cell 1
  have hc2 := hx.cell 2
  simp only [List.getElem?_cons_zero, List.getElem?_cons_succ] at hc0 hc1 hc2
  have hps := ho.sl (bytes := 8) (M' := noB) (by omega) (fun _ _ h => h.elim) (fun _ _ h => h)
  obtain ⟨A1, c1, rfl, hl1, _⟩ := KSl.val hps
  clear hP ho
  go_wp2_with fail
  refine (hL _).mono ?_
  rintro e w2 ⟨rfl, hb2⟩
  have hb02 : Below w.heap.size w w2 := hb01.trans (hb2.mono hb01.size)
  have hps2 := Kd.below hps hb2
  have hv2 := Kd.below h hb02
  clear hc0 hc1 hc2 hL hps hx h
  go_wp2_with fail
  go_loopw [12, 39] (fun o i wr => ∃ n : Nat, n ≤ ps.length ∧ i = .int .i64 n ∧ Own KBs 131 w2.heap.size noB wr o ((ps.take n).map fun x => c.getD x []) ∧ Below w2.heap.size w2 wr) (fun _ i _ => ps.length - (intOf i).toNat)
  case atStart => exact ⟨0, Nat.zero_le _, rfl, Own.nil, Below.refl _ _⟩
  case round =>
    obtain ⟨n, hn, rfl, ho, hbel⟩ := hrel
    have hsz := hbel.size
    by_cases hlt' : n < ps.length
    · obtain ⟨ad, rfl, hcell⟩ := KSl.nat hps2 hlt'
      have hcell' := cell_below hbel _ _ hcell
      have hxl := HPL.out _ (List.getElem_mem hlt')
      have hst : (ps.take (n + 1)).map (fun x => c.getD x []) = (ps.take n).map (fun x => c.getD x []) ++ [c.getD ps[n] []] := by
        rw [List.take_succ_eq_append_getElem hlt', List.map_append]; rfl
      have hll : ((ps.take n).map fun x => c.getD x []).length ≤ 60 := by rw [List.length_map, List.length_take]; omega
      have HS : Hid ((ps.take (n + 1)).map (fun x => c.getD x []) = (ps.take n).map (fun x => c.getD x []) ++ [c.getD ps[n] []]) := hst
      have HLL : Hid (((ps.take n).map fun x => c.getD x []).length ≤ 60) := hll
      clear hst hll hcell
      generalize (ps.take n).map (fun x => c.getD x []) = xs at *
      generalize ps[n] = x at *
      obtain ⟨adr, u, rfl, hcu, hu⟩ := KRows.at_ hv2 hxl
      have hcu' := cell_below hbel _ _ hcu
      have hg : c.getD x [] = c[x] := getD_eq _ _ _ hxl
      rw [hg] at HS
      have hu' := Kd.below hu hbel
      have hfar : KBs.R (fun g => noB g ∨ u12.ownBlock = some g) wr [u] c[x] := KBs.keep (w := w2) (KBs.anti hu fun g hg hm => by
        rcases hm with hm | hm
        · exact hm
        · have := (ho.block hm).1; omega) fun g hg _ => hbel.block g hg
      obtain ⟨A2, c2, rfl, _⟩ := KSl.val hu
      clear hg hcu hu hu'
      generalize c[x] = cx at *
      go_wp2_with (at_builtin; refine wpList_app1 elemRow rfl _ _ rfl rfl rfl ho hfar ?c1 ?c2 ?c3 ?c4 ?_)
      case c1 => have := HLL.out; omega
      case c2 => omega
      case c3 => omega
      case c4 => exact fun g h => h.elim
      intro v' w6 hown2 hb6 hob2
      rw [← HS.out] at hown2
      clear ho hfar
      go_wp2
      go_roundw
      case rel => exact ⟨n + 1, by omega, by go_num, hown2, hbel.trans hb6⟩
      case measure => simp [intOf]; omega
    · have e : n = ps.length := by omega
      subst e
      rw [List.take_of_length_le (Nat.le_refl _)] at ho
      have hll : (ps.map fun x => c.getD x []).length ≤ 60 := by rw [List.length_map]; omega
      have hrows := ho.sl (bytes := 24) (M' := noB) (by omega) (fun _ _ h => h.elim) (fun _ _ h => h)
      have hsum := sum_any size (by omega) u12 _ wr hrows
      rw [← HD.out] at hsum
      clear hrows ho HD
      go_wp2_with fail
      refine hsum.mono ?_
      rintro e w7 ⟨v7, rfl, hv7, hb7⟩
      have hbw := hb02.trans (hbel.mono hb02.size)
      have hbws := hbw.size
      go_wp2
      go_ret
      exact ⟨_, rfl, KBs.anti hv7 (fun g _ (hg : g < w.heap.size) => by show g < wr.heap.size; omega), hbw.trans (hb7.mono (by omega))⟩

set_option maxRecDepth 100000 in
set_option maxHeartbeats 1000000 in
theorem drops_any (k j size : Nat) (h1 : 1 ≤ k) (h2 : k ≤ 40) (hj : j ≤ 255) (hz1 : 1 ≤ size) (hz2 : size ≤ 64) (v : Value) (c : List Row) (ve : Value) (esis : List Nat) (he : ∀ x ∈ esis, x < 16777216) (w : World) (h : KRows.R noB w [v] c) (hc : c.length = Lk k) (hes : (KSl 8 KNat).R noB w [ve] esis) (hel : esis.length ≤ 1000000) :
    Calls Try.prog 136 #[.agg #[.int .i64 k, .int .i64 (Sk k), .int .i64 2], .int .i64 j, .int .i64 size, v, ve] w (RetOwn KBs 131 w (esis.map (dropOf k j size c))) := by
  have hdrop := fun (esi : Nat) (hx : esi < 16777216) (W : World) (hW : KRows.R noB W [v] c) => drop_any k j size h1 h2 hj hz1 hz2 v c esi hx W hW hc
  have hdl := fun esi => dropOf_length k j size c esi
  generalize dropOf k j size c = f at *
  obtain ⟨A, cp, rfl, _⟩ := KSl.val h
  obtain ⟨Ae, ce, rfl, _⟩ := KSl.val hes
  clear hc
  go_enter Try.func136, Try.ntmps136
  go_wp2_with fail
  have hx : Blk (w.alloc (.cells #[.int .i64 k, .int .i64 (Sk k), .int .i64 2] 155)) w.heap.size 155 [.int .i64 k, .int .i64 (Sk k), .int .i64 2] := (Blk.new w _ _)
  have hbel0 : Below w.heap.size w (w.alloc (.cells #[.int .i64 k, .int .i64 (Sk k), .int .i64 2] 155)) := below_one _ _
  have hsz0 : (w.alloc (.cells #[.int .i64 k, .int .i64 (Sk k), .int .i64 2] 155)).heap.size = w.heap.size + 1 := by simp
  generalize w.alloc (.cells #[.int .i64 k, .int .i64 (Sk k), .int .i64 2] 155) = wa at *
  have hesa := Kd.below hes hbel0
  have hva := Kd.below h hbel0
  have HSZ : Hid (wa.heap.size = w.heap.size + 1) := hsz0
  have hlt0 : w.heap.size < wa.heap.size := by omega
  clear hsz0 h hes
  go_loopw [11, 17] (fun o i wr => ∃ n : Nat, n ≤ esis.length ∧ i = .int .i64 n ∧ Own KBs 131 wa.heap.size (old wa) wr o ((esis.take n).map f) ∧ Below wa.heap.size wa wr) (fun _ i _ => esis.length - (intOf i).toNat)
  case atStart => exact ⟨0, Nat.zero_le _, rfl, Own.nil, Below.refl _ _⟩
  case round =>
    obtain ⟨n, hn, rfl, ho, hbel⟩ := hrel
    have hsz := hbel.size
    by_cases hlt' : n < esis.length
    · obtain ⟨ad, rfl, hcell⟩ := KSl.nat hesa hlt'
      have hcell' := cell_below hbel _ _ hcell
      have hxb := hx.below hbel
      have hc0 := hxb.cell 0
      have hc1 := hxb.cell 1
      have hc2 := hxb.cell 2
      simp only [List.getElem?_cons_zero, List.getElem?_cons_succ] at hc0 hc1 hc2
      have hd := hdrop _ (he _ (List.getElem_mem hlt')) wr (Kd.below hva hbel)
      have hfl := hdl esis[n]
      have hst : (esis.take (n + 1)).map f = (esis.take n).map f ++ [f esis[n]] := by
        rw [List.take_succ_eq_append_getElem hlt', List.map_append]; rfl
      have hll : ((esis.take n).map f).length ≤ 1000000 := by rw [List.length_map, List.length_take]; omega
      have HS : Hid ((esis.take (n + 1)).map f = (esis.take n).map f ++ [f esis[n]]) := hst
      have HLL : Hid (((esis.take n).map f).length ≤ 1000000) := hll
      have hlt3 : w.heap.size < wr.heap.size := by omega
      clear hst hll hcell
      generalize (esis.take n).map f = xs at *
      generalize esis[n] = x at *
      generalize f x = fx at *
      have hfx : ((fx.length : Int) == 0) = false := beq_eq_false_iff_ne.2 (by omega)
      clear hfl
      go_wp2_with fail
      refine hd.mono ?_
      rintro e w4 ⟨v4, rfl, hv4, hb4⟩
      have hsz4 := hb4.size
      have hlif := Own.lift ho (fun g (hg : g < wa.heap.size) => by omega) hv4
      have ho4 := ho.below hb4
      obtain ⟨A4, c4, rfl, _⟩ := KSl.val hv4
      clear hd ho
      go_wp2_with (at_builtin; refine wpList_app1 elemRow rfl _ _ rfl rfl rfl ho4 hlif ?c1 ?c2 ?c3 ?c4 ?_)
      case c1 => exact HLL.out
      case c2 => omega
      case c3 => omega
      case c4 => exact fun g (h : g < wa.heap.size) => by omega
      intro v' w6 hown2 hb6 hob2
      rw [← HS.out] at hown2
      clear ho4 hlif
      go_wp2
      go_roundw
      case rel => exact ⟨n + 1, by omega, by go_num, hown2, (hbel.trans (hb4.mono hsz)).trans hb6⟩
      case measure => simp [intOf]; omega
    · have e : n = esis.length := by omega
      subst e
      rw [List.take_of_length_le (Nat.le_refl _)] at ho
      go_wp2
      go_ret
      exact ⟨_, rfl, (ho.from (by omega)).anti (fun g _ (hg : g < w.heap.size) => by show g < wa.heap.size; omega), hbel0.trans (hbel.mono (by omega))⟩
end Go.Proofs.Ytpdfcgkeclocoaa
