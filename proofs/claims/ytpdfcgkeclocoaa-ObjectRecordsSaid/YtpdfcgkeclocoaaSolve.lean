/- The walk of solve.Solve. -/
import Derived.Test.YtpdfcgkeclocoaaRank
import Derived.Test.YtpdfcgkeclocoaaClone
set_option linter.all false
namespace Go.Proofs.Ytpdfcgkeclocoaa
open Go.RowKit GF
attribute [local go_sem ↓] Go.wp_at_zero Go.wp_at_succ

def prep (n z : Nat) (ms ds : List Row) : List Pair := List.zip (fitAll n ms) (fitAll z ds)
/-- Does something stand beside a row that is behind the first n? -/
def restBad (n : Nat) (l : List Pair) : Bool := (l.drop n).any fun p => p.2.any (· != 0)
def solveP (n z : Nat) (ms ds : List Row) : Except Nat (List Row) :=
  if (red false n 0 0 (prep n z ms ds)).1 < n then .error 4
  else if restBad n (red false n 0 0 (prep n z ms ds)).2 then .error 4
  else .ok (((red false n 0 0 (prep n z ms ds)).2.take n).map (·.2))
theorem fitAll_length' (n : Nat) (rs : List Row) : (fitAll n rs).length = rs.length := by simp [fitAll]
theorem prep_length {n z : Nat} {ms ds : List Row} (h : ms.length = ds.length) : (prep n z ms ds).length = ms.length := by simp [prep, fitAll_length', h]
theorem prep_fst {n z : Nat} {ms ds : List Row} (h : ms.length = ds.length) : (prep n z ms ds).map (·.1) = fitAll n ms := List.map_fst_zip (by simp [fitAll_length', h])
theorem prep_snd {n z : Nat} {ms ds : List Row} (h : ms.length = ds.length) : (prep n z ms ds).map (·.2) = fitAll z ds := List.map_snd_zip (by simp [fitAll_length', h])
theorem prep_wf (n z : Nat) (ms ds : List Row) : Wf n z (prep n z ms ds) := fun i hi => by
  rw [getD_eq _ _ _ hi]
  simp [prep, fitAll, sumRows_length]
theorem restBad_iff (n : Nat) (l : List Pair) : restBad n l = true ↔ ∃ k, n + k < l.length ∧ (l.getD (n + k) d0).2.any (· != 0) = true := by
  unfold restBad
  rw [List.any_eq_true]
  constructor
  · rintro ⟨p, hp, h⟩
    obtain ⟨i, hi, rfl⟩ := List.getElem_of_mem hp
    rw [List.length_drop] at hi
    refine ⟨i, by omega, ?_⟩
    rw [getD_eq _ _ _ (by omega)]
    rw [List.getElem_drop] at h
    exact h
  · rintro ⟨k, hk, h⟩
    rw [getD_eq _ _ _ hk] at h
    refine ⟨l[n + k], ?_, h⟩
    rw [List.mem_iff_getElem]
    exact ⟨k, by rw [List.length_drop]; omega, by rw [List.getElem_drop]⟩
theorem KSl.take {α : Type} {bytes : Nat} {K : Kd α} {M : Blocks} {w : World} {A : Option Addr} {c : Nat} {l : List α} (h : (KSl bytes K).R M w [.slice A l.length c] l) (n : Nat) (hn : n ≤ l.length) : (KSl bytes K).R M w [.slice A n c] (l.take n) := by
  obtain ⟨A', c', e, h1, h2, h3, h4, h5⟩ := KSl.val h
  injection e with e1 _ e2
  subst e1; subst e2
  have hl : (l.take n).length = n := by rw [List.length_take]; omega
  have hb : n * bytes ≤ l.length * bytes := Nat.mul_le_mul_right _ hn
  have := KSl.mk (bytes := bytes) (K := K) (M := M) (w := w) (A := A) (c := c) (l := l.take n) (by omega) h2 (by rw [hl]; omega) h4 (fun hp => by
    obtain ⟨ad, e, g1, g2, g3⟩ := h5 (by omega)
    refine ⟨ad, e, g1, g2, fun j hj => ?_⟩
    obtain ⟨ecs, q1, q2⟩ := g3 j (by omega)
    exact ⟨ecs, by rw [List.getElem_take]; exact q1, q2⟩)
  rwa [hl] at this

theorem nonzero_byte (x : UInt8) (w : World) : Calls Try.prog 227 #[.int .u8 x.toNat] w fun e w' => e = .returned (.bool (x != 0)) ∧ w = w' := by
  go_enter Try.func227, Try.ntmps227
  go_wp2
  go_ret
  exact ⟨ret_bool (by rw [u8_ne0]), rfl⟩
/-- Is a row not 0? -/
theorem row_any (v : Value) (r : Row) (w : World) (h : KBs.R noB w [v] r) :
    Calls Try.prog 226 #[v, .func (.func 227) #[] #[]] w fun e w' => e = .returned (.bool (r.any (· != 0))) ∧ Below w.heap.size w w' := by
  obtain ⟨A, c, rfl, hlc, hc, _⟩ := KSl.val h
  have := contains_byte 227 #[] (enters_of Try.func227 (by kernel_rfl) rfl) A r.length c (by omega) (fun j => .int .u8 (r.getD j 0).toNat) (fun j => r.getD j 0 != 0) w (fun hp => by
    obtain ⟨ad, e, _⟩ := KBs.byte h hp
    refine ⟨ad, e, fun j hj => ?_⟩
    obtain ⟨ad', e', hc⟩ := KBs.byte h hj
    obtain rfl : ad = ad' := by rw [e] at e'; exact Option.some.inj e'
    rw [hc, getD_eq _ _ _ hj]) (fun i hi W hW => by
    refine (nonzero_byte (r.getD i 0) W).mono ?_
    rintro e w' ⟨rfl, rfl⟩
    exact ⟨rfl, Below.refl _ _⟩)
  refine this.mono ?_
  rintro e w' ⟨rfl, hb⟩
  refine ⟨ret_bool ?_, hb⟩
  rw [Bool.eq_iff_iff, anyTo_iff, List.any_eq_true]
  constructor
  · rintro ⟨i, hi, h⟩
    rw [getD_eq _ _ _ hi] at h
    exact ⟨_, List.getElem_mem hi, h⟩
  · rintro ⟨x, hx, h⟩
    obtain ⟨i, hi, rfl⟩ := List.getElem_of_mem hx
    exact ⟨i, hi, by rw [getD_eq _ _ _ hi]; exact h⟩

theorem red_false_le {w z : Nat} {l : List Pair} (hw : Wf w z l) (h : ¬ (red false w 0 0 l).1 < w) : w ≤ l.length := by
  have hu := red_false_unit (z := z) w 0 l hw ⟨Nat.zero_le _, fun i _ j hj => absurd hj (Nat.not_lt_zero _)⟩
  have h1 := hu.1.1
  rw [red_length] at h1
  omega

set_option maxRecDepth 100000 in
set_option maxHeartbeats 1000000 in
theorem solve_any (n z : Nat) (hn1 : 1 ≤ n) (hn : n ≤ 300) (hz1 : 1 ≤ z) (hz : z ≤ 1000) (vm vd : Value) (ms ds : List Row) (w : World) (hm : KRows.R noB w [vm] ms) (hd : KRows.R noB w [vd] ds) (hl : ms.length = ds.length) (h0 : 0 < ms.length) (hlen : ms.length ≤ 1000000) :
    Calls Try.prog 186 #[.int .i64 n, .int .i64 z, vm, vd] w (RetE KRows (.slice none 0 0) w (solveP n z ms ds)) := by
  obtain ⟨Am, cm0, rfl, _⟩ := KSl.val hm
  obtain ⟨Ad, cd0, rfl, _⟩ := KSl.val hd
  have hfm := solve_fit_any n (by omega) (.slice Am ms.length cm0) ms
  have hfd := solve_fit_any z (by omega) (.slice Ad ds.length cd0) ds
  have hpl := prep_length (n := n) (z := z) hl
  have hp1 := prep_fst (n := n) (z := z) hl
  have hp2 := prep_snd (n := n) (z := z) hl
  have hwf := prep_wf n z ms ds
  have hle := red_false_le hwf
  have hrl := red_length false n 0 0 (prep n z ms ds)
  have hsol : solveP n z ms ds = if (red false n 0 0 (prep n z ms ds)).1 < n then .error 4 else if restBad n (red false n 0 0 (prep n z ms ds)).2 then .error 4 else .ok (((red false n 0 0 (prep n z ms ds)).2.take n).map (·.2)) := rfl
  have hfml := fitAll_length' n ms
  have hfdl := fitAll_length' z ds
  generalize solveP n z ms ds = out at *
  have hrd := fun gm gd cm cd X hg hL hn0 hbig => reduce_any gm gd cm cd n z X hg (by omega) hz (prep n z ms ds) ms.length hL hn0 hbig false
  rw [← hp1] at hfm hfml
  rw [← hp2] at hfd hfdl
  rw [hpl] at hrl hle
  generalize prep n z ms ds = l at *
  generalize red false n 0 0 l = rd at *
  clear hp1 hp2
  have HO : Hid (out = if rd.1 < n then .error 4 else if restBad n rd.2 then .error 4 else .ok ((rd.2.take n).map (·.2))) := hsol
  have HL : Hid (ms.length = ds.length) := hl
  have HPL : Hid (l.length = ms.length) := hpl
  have HRL : Hid (rd.2.length = ms.length) := hrl
  have HFM : Hid ((l.map (·.1)).length = ms.length) := hfml
  have HFD : Hid ((l.map (·.2)).length = ds.length) := hfdl
  have e1 : decide ((n : Int) < 1) = false := by simp; omega
  have e2 : decide ((300 : Int) < (n : Int)) = false := by simp; omega
  have e3 : decide ((z : Int) < 1) = false := by simp; omega
  have e4 : decide ((1000 : Int) < (z : Int)) = false := by simp; omega
  have e5 : ((ms.length : Int) != (ds.length : Int)) = false := by rw [bne_eq_false_iff_eq]; omega
  clear hsol hl hpl hrl hfml hfdl
  go_enter Try.func186, Try.ntmps186
  go_wp2_with fail
  refine (hfm _ hm hlen).mono ?_
  rintro e w1 ⟨v1, rfl, ho1, hb1⟩
  have hd1 := Kd.below hd hb1
  have hsz1 := hb1.size
  obtain ⟨gm, cm, rfl, hgm, hcm, ham⟩ := ho1.arr rfl (by rw [HFM.out]; exact h0)
  have hgml := ham.lt
  rw [HFM.out]
  clear hfm ho1
  go_wp2_with fail
  refine (hfd _ hd1 (by rw [← HL.out]; exact hlen)).mono ?_
  rintro e w2 ⟨v2, rfl, ho2, hb2⟩
  have hsz2 := hb2.size
  obtain ⟨gd, cd, rfl, hgd, hcd, had⟩ := ho2.arr rfl (by rw [HFD.out, ← HL.out]; exact h0)
  have hgdl := had.lt
  rw [HFD.out, ← HL.out]
  have hgd' : w1.heap.size ≤ gd := hgd
  have hgm' : w.heap.size ≤ gm := hgm
  have ham2 := (ham.anti (M' := fun b => b = gm ∨ b = gd ∨ old w b) (fun b hb hm => by
    rcases hm with hm | hm | hm
    · exact .inr hm
    · omega
    · exact .inl hm)).below hb2
  have had2 := had.anti (M' := fun b => b = gm ∨ b = gd ∨ old w b) (fun b hb hm => by
    rcases hm with rfl | hm | hm
    · left; exact hgml
    · exact .inr hm
    · left; show b < w1.heap.size; have : b < w.heap.size := hm; omega)
  have hst : St gm gd cm cd n z (old w) w2 w2 l := ⟨hwf, ham2, had2, Upd.refl _ _⟩
  have hred := hrd gm gd cm cd (old w) (by omega) HPL.out h0 hlen w2 (fun b (hb : b < w.heap.size) => by omega) hst
  have hb02 : Below w.heap.size w w2 := hb1.trans (hb2.mono hsz1)
  clear ham ham2 had had2 hst hfd ho2 hrd hd1 hm hd
  obtain ⟨rk, l2⟩ := rd
  simp only at hred HO HRL hle
  go_wp2_with fail
  refine hred.mono ?_
  rintro e w3 ⟨rfl, hst3⟩
  have hb3 : Below w.heap.size w w3 := hb02.trans ⟨hst3.upd.os, hst3.upd.tape, hst3.upd.output, hst3.upd.size, fun b hb => hst3.upd.block b (by omega) (by omega)⟩
  have hsz3 := hst3.upd.size
  clear hred
  by_cases hrk : rk < n
  · have HO2 : Hid (out = .error 4) := HO.out.trans (if_pos hrk)
    clear HO
    go_wp2
    go_ret2
    rw [HO2.out]
    exact RetE.err_ hb3
  · have HO2 : Hid (out = if restBad n l2 then .error 4 else .ok ((l2.take n).map (·.2))) := HO.out.trans (if_neg hrk)
    have hnl := hle hrk
    have had3 := hst3.ad
    have hcap := hst3.cap
    have hcapd : ms.length ≤ cd := by have := HRL.out; omega
    have hrows : KRows.R (old w) w3 [.slice (some ⟨gd, 0, none⟩) (l2.map (·.2)).length cd] (l2.map (·.2)) := had3.sl hcd (by rw [List.length_map, HRL.out]; omega) (fun b hb => .inr (.inr hb)) (fun (h : gd < w.heap.size) => by omega) rfl
    have hmem : ∀ i (h : i < l2.length), ∃ u, w3.cell? ⟨gd, i, none⟩ = some u ∧ KBs.R (old w) w3 [u] l2[i].2 := fun i h => by
      obtain ⟨u, h1, h2⟩ := had3.at_ (i := i) (by rw [List.length_map]; exact h)
      rw [List.getElem_map] at h2
      exact ⟨u, h1, KBs.anti h2 fun b _ hb => .inr (.inr hb)⟩
    have HM : Hid (∀ i (h : i < l2.length), ∃ u, w3.cell? ⟨gd, i, none⟩ = some u ∧ KBs.R (old w) w3 [u] l2[i].2) := hmem
    have hncd : n ≤ cd := by omega
    have hncI : (n : Int) ≤ (cd : Int) := by omega
    have hnlI : (n : Int) ≤ (ms.length : Int) := by omega
    have hwf2 := hst3.wf
    clear had3 hmem HO hcap hle hst3
    have hfin : ∀ (W : World), Below w.heap.size w W → Below w3.heap.size w3 W → Calls Try.prog 228 #[.slice (some ⟨gd, 0, none⟩) n cd] W fun e w' => ∃ v', e = .returned v' ∧ Own KBs 131 W.heap.size (old w) w' v' ((l2.take n).map (·.2)) ∧ Below W.heap.size W w' := fun W hW hW3 => by
      have h1 := KSl.take hrows n (by rw [List.length_map, HRL.out]; exact hnl)
      rw [← List.map_take] at h1
      have h2 := clone_rows (.slice (some ⟨gd, 0, none⟩) n cd) ((l2.take n).map (·.2)) (old w) W (fun g (hg : g < w.heap.size) => by have := hW.size; omega) (by rw [List.length_map, List.length_take]; omega) (Kd.below h1 hW3)
      exact h2
    have hlen2 : ((l2.take n).map (·.2)).length ≤ 300 := by rw [List.length_map, List.length_take]; omega
    clear hrows hwf hwf2
    by_cases hcn : cd = n
    · subst hcn
      have hln : ms.length = cd := by omega
      have HB : Hid (restBad cd l2 = false) := by
        show restBad cd l2 = false
        cases hb : restBad cd l2 with
        | false => rfl
        | true =>
          obtain ⟨k, hk, _⟩ := (restBad_iff cd l2).1 hb
          have := HRL.out; omega
      have HO3 : Hid (out = .ok ((l2.take cd).map (·.2))) := by show out = _; rw [HO2.out, HB.out]; rfl
      have hf := hfin w3 hb3 (Below.refl _ _)
      have HLN : Hid (ms.length = cd) := hln
      have hle1 : ms.length ≤ cd := by omega
      generalize (l2.take cd).map (·.2) = res at *
      clear hfin HO2 hln
      go_wp2_with fail
      go_loop [49] (fun i => i = .int .i64 0) (fun _ => 0)
      case atStart => rfl
      case round =>
        subst hrel
        go_wp2_with fail
        refine hf.mono ?_
        rintro e w4 ⟨v4, rfl, ho4, hb4⟩
        have hr := ho4.sl (bytes := 24) (M' := old w) (by omega) (fun _ _ h => h) (fun g hg (hm : g < w.heap.size) => by have := (ho4.block hg).1; have := hb3.size; omega)
        go_wp2_with fail
        go_ret2
        rw [HO3.out]
        exact RetE.mk_ (hb3.trans (hb4.mono hb3.size)) hr
    · have hcnI : ¬ cd = n := hcn
      go_wp2_with fail
      go_loopw [49] (fun i wr => ∃ q : Nat, q ≤ ms.length - n ∧ i = .int .i64 q ∧ (∀ k, k < q → (l2.getD (n + k) d0).2.any (· != 0) = false) ∧ Below w3.heap.size w3 wr) (fun i _ => (ms.length - n) - (intOf i).toNat)
      case atStart => exact ⟨0, Nat.zero_le _, rfl, fun k h => absurd h (Nat.not_lt_zero _), Below.refl _ _⟩
      case round =>
        obtain ⟨q, hq, rfl, hbad, hbel⟩ := hrel
        have HBD : Hid (∀ k, k < q → (l2.getD (n + k) d0).2.any (· != 0) = false) := hbad
        clear hbad
        have hsz := hbel.size
        have hbw : Below w.heap.size w wr := hb3.trans (hbel.mono hb3.size)
        by_cases hqm : q < ms.length - n
        · have hnq : n + q < l2.length := by have := HRL.out; omega
          obtain ⟨u, hcu, hu⟩ := HM.out (n + q) hnq
          have hcu' := cell_below hbel _ _ hcu
          have hany := row_any u l2[n + q].2 wr (Kd.below (Kd.drop hu) hbel)
          have hg : l2.getD (n + q) d0 = l2[n + q] := getD_eq _ _ _ hnq
          have HGD : Hid (l2.getD (n + q) d0 = l2[n + q]) := hg
          obtain ⟨A, c, rfl, _⟩ := KSl.val hu
          clear hcu hu hg
          have hqI : (q : Int) < (ms.length : Int) - (n : Int) := by omega
          cases hb : l2[n + q].2.any (· != 0) with
          | true =>
            rw [hb] at hany
            have HB : Hid (restBad n l2 = true) := (restBad_iff n l2).2 ⟨q, hnq, by rw [HGD.out]; exact hb⟩
            have HO3 : Hid (out = .error 4) := by show out = _; rw [HO2.out, HB.out]; rfl
            generalize l2[n + q].2 = r at *
            clear hb HO2 hfin HGD
            go_wp2_with fail
            refine hany.mono ?_
            rintro e w4 ⟨rfl, hb4⟩
            go_wp2
            go_ret2
            rw [HO3.out]
            exact RetE.err_ (hbw.trans (hb4.mono hbw.size))
          | false =>
            rw [hb] at hany
            have HBD2 : Hid (∀ k, k < q + 1 → (l2.getD (n + k) d0).2.any (· != 0) = false) := fun k hk => by
              by_cases e : k = q
              · rw [e, HGD.out]; exact hb
              · exact HBD.out k (by omega)
            generalize l2[n + q].2 = r at *
            clear hb HGD hfin
            go_wp2_with fail
            refine hany.mono ?_
            rintro e w4 ⟨rfl, hb4⟩
            go_wp2
            go_roundw
            case rel => exact ⟨q + 1, by omega, by go_num, HBD2.out, hbel.trans (hb4.mono hsz)⟩
            case measure => simp [intOf]; omega
        · have e : q = ms.length - n := by omega
          have HB : Hid (restBad n l2 = false) := by
            show restBad n l2 = false
            cases hb : restBad n l2 with
            | false => rfl
            | true =>
              obtain ⟨k, hk, h1⟩ := (restBad_iff n l2).1 hb
              have := HRL.out
              rw [HBD.out k (by omega)] at h1; cases h1
          have HO3 : Hid (out = .ok ((l2.take n).map (·.2))) := by show out = _; rw [HO2.out, HB.out]; rfl
          have hf := hfin wr hbw hbel
          have hqI : ¬ (q : Int) < (ms.length : Int) - (n : Int) := by omega
          have hq2 : ms.length - n ≤ q := by omega
          generalize (l2.take n).map (·.2) = res at *
          clear hfin HO2 e HBD hqm
          go_wp2_with fail
          refine hf.mono ?_
          rintro e w4 ⟨v4, rfl, ho4, hb4⟩
          have hr := ho4.sl (bytes := 24) (M' := old w) (by omega) (fun _ _ h => h) (fun g hg (hm : g < w.heap.size) => by have := (ho4.block hg).1; have := hbw.size; omega)
          go_wp2_with fail
          go_ret2
          rw [HO3.out]
          exact RetE.mk_ (hbw.trans (hb4.mono hbw.size)) hr
end Go.Proofs.Ytpdfcgkeclocoaa
