/- The walk of tuple.Row. -/
import Derived.Test.YtpdfcgkeclocoaaParts
set_option linter.all false
namespace Go.Proofs.Ytpdfcgkeclocoaa
open Go.RowKit GF
attribute [local go_sem ↓] Go.wp_at_zero Go.wp_at_succ

/-- A row of n elements that has ones at some places. -/
def onesOn (n : Nat) (l : List Nat) : Row := l.foldl (fun r x => r.set x 1) (List.replicate n 0)
theorem onesOn_length (n : Nat) (l : List Nat) : (onesOn n l).length = n := by
  have : ∀ (l : List Nat) (r : Row), (l.foldl (fun r x => r.set x 1) r).length = r.length := by
    intro l
    induction l with
    | nil => intro r; rfl
    | cons x l ih => intro r; rw [List.foldl_cons, ih, List.length_set]
  rw [onesOn, this, List.length_replicate]
theorem onesOn_step {n : Nat} {l : List Nat} {i : Nat} (h : i < l.length) : onesOn n (l.take (i + 1)) = (onesOn n (l.take i)).set l[i] 1 := by
  unfold onesOn
  rw [List.take_succ_eq_append_getElem h, List.foldl_append]
  rfl
def symRow (k j esi : Nat) : Row := onesOn (Lk k) (parts k j esi)
theorem symRow_length (k j esi : Nat) : (symRow k j esi).length = Lk k := onesOn_length _ _

theorem KSl.nat {M : Blocks} {w : World} {A : Option Addr} {c : Nat} {l : List Nat} (h : (KSl 8 KNat).R M w [.slice A l.length c] l) {i : Nat} (hi : i < l.length) : ∃ ad, A = some ad ∧ w.cell? (ad.add i) = some (.int .i64 (l[i] : Nat)) := by
  obtain ⟨ad, u, e, hc, hr, _⟩ := KSl.at1 h rfl hi
  simp only [List.cons.injEq, and_true] at hr
  exact ⟨ad, e, by rw [hc, hr]⟩

set_option maxHeartbeats 1000000 in
theorem tuple_row (k j esi : Nat) (h1 : 1 ≤ k) (h2 : k ≤ 40) (hj : j ≤ 255) (he : esi < 16777216) (w : World) :
    Calls Try.prog 225 #[.agg #[.int .i64 k, .int .i64 (Sk k), .int .i64 2], .int .i64 j, .int .i64 esi] w (Ret KBs w (symRow k j esi)) := by
  have hP := tuple_parts k j esi h1 h2 hj he
  have hL := params_L' k h2
  have hlk : Lk k ≤ 60 := by unfold Lk Wk Sk; omega
  have hmk := run_make_row8 (Lk k) (by omega)
  have hne := parts_ne k j esi
  have hlen := parts_len k j esi
  have hplt := parts_lt k j esi h1
  have hwk : Wk k ≤ 50 := by unfold Wk Sk; omega
  have hsr : symRow k j esi = onesOn (Lk k) (parts k j esi) := rfl
  generalize symRow k j esi = sr at *
  generalize parts k j esi = ps at *
  generalize Lk k = L at *
  go_enter Try.func225, Try.ntmps225
  go_wp2_with fail
  refine (hP _).mono ?_
  rintro e w1 ⟨v, rfl, ho, hb1⟩
  have hx : Blk w1 w.heap.size 155 [.int .i64 k, .int .i64 (Sk k), .int .i64 2] := (Blk.new w _ _).below (hb1.mono (Nat.le_refl _))
  have hlt := hx.lt
  have hc0 := hx.cell 0
  have hc1 := hx.cell 1
  have hc2 := hx.cell 2
  simp only [List.getElem?_cons_zero, List.getElem?_cons_succ] at hc0 hc1 hc2
  have hps := ho.sl (bytes := 8) (M' := noB) (by omega) (fun _ _ h => h.elim) (fun _ _ h => h)
  obtain ⟨A, cp, rfl, _⟩ := KSl.val hps
  clear hP ho
  go_wp2_with fail
  refine (hL _).mono ?_
  rintro e w2 ⟨rfl, hb2⟩
  have hps2 := Kd.below hps hb2
  clear hc0 hc1 hc2 hL hps hx
  go_wp2_with fail
  generalize hB : w2.heap.size = B
  have hbel0 : Below w.heap.size w w2 := (((Below.refl _ _).alloc (Nat.le_refl _) _).trans (hb1.mono (by simp))).trans (hb2.mono (by omega))
  go_loopw [23] (fun i wr => ∃ n : Nat, n ≤ ps.length ∧ i = .int .i64 n ∧ Blk wr B 5 ((onesOn L (ps.take n)).map encB) ∧ Below B w2 wr) (fun i _ => ps.length - (intOf i).toNat)
  case atStart =>
    refine ⟨0, Nat.zero_le _, rfl, ?_, ?_⟩
    · subst hB
      have := Blk.made w2 5 (.int .u8 0) L
      simpa [encB, onesOn] using this
    · subst hB; exact (Below.refl _ _).alloc (Nat.le_refl _) _
  case round =>
    obtain ⟨n, hn, rfl, hb, hbel⟩ := hrel
    subst hB
    by_cases hlt : n < ps.length
    · obtain ⟨ad, rfl, hcell⟩ := KSl.nat hps2 hlt
      have hcell' := cell_below hbel _ _ hcell
      have hlt' := hb.lt
      have hst := onesOn_step (n := L) hlt
      have hxL := hplt _ (List.getElem_mem hlt)
      have hol := onesOn_length L (ps.take n)
      have hset := hb.set_ ps[n] (.int .u8 1)
      have hfr := hb.frozen ps[n]
      have hout : ∃ u, wr.cell? ⟨w2.heap.size, ps[n], none⟩ = some u := by
        rw [hb.cell, List.getElem?_eq_getElem (by rw [List.length_map, hol]; exact hxL)]; exact ⟨_, rfl⟩
      obtain ⟨u, hout⟩ := hout
      have HS : Hid (onesOn L (ps.take (n + 1)) = (onesOn L (ps.take n)).set ps[n] 1) := hst
      clear hst hcell hol hmk hplt
      generalize ps[n] = x at *
      rw [show (.int .u8 1 : Value) = encB 1 from rfl, map_set_encB, ← HS.out] at hset
      go_wp2
      go_roundw
      case rel => exact ⟨n + 1, by omega, by go_num, hset, hbel.setCell (Nat.le_refl _) _⟩
      case measure => simp [intOf]; omega
    · have e : n = ps.length := by omega
      subst e
      go_wp2
      go_ret
      rw [List.take_of_length_le (Nat.le_refl _), ← hsr] at hb
      have hsl : sr.length = L := by rw [hsr, onesOn_length]
      have := KBs.of_blk (M := old w) hb (fun (h : _ < _) => by have := hbel0.size; omega) (by omega)
      rw [hsl] at this
      exact ⟨_, rfl, this, hbel0.trans (hbel.mono hbel0.size)⟩
end Go.Proofs.Ytpdfcgkeclocoaa
