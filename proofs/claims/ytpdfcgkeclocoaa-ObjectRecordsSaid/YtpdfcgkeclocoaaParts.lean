/- The walk of tuple.Parts. -/
import Derived.Test.YtpdfcgkeclocoaaTuple
set_option linter.all false
namespace Go.Proofs.Ytpdfcgkeclocoaa
open Go.RowKit
attribute [local go_sem ↓] Go.wp_at_zero Go.wp_at_succ

set_option maxHeartbeats 1000000 in
theorem tuple_parts (k j esi : Nat) (h1 : 1 ≤ k) (h2 : k ≤ 40) (hj : j ≤ 255) (he : esi < 16777216) (w : World) :
    Calls Try.prog 191 #[.agg #[.int .i64 k, .int .i64 (Sk k), .int .i64 2], .int .i64 j, .int .i64 esi] w (RetOwn KNat 3 w (parts k j esi)) := by
  have hright := params_right k h1 h2
  have hW := params_W' k h2
  have hrand := fun (y i : UInt32) (m : Nat) (hm : (m : Int) ≤ 9223372036854775807) => rand_any y i m hm
  have hwk : Wk k ≤ 50 := by unfold Wk Sk; omega
  have hwk3 : 3 ≤ Wk k := by unfold Wk Sk; omega
  have hmk := run_make_bools (Wk k) (by omega)
  have htY := tupY_of j esi
  rw [show ((j : Int) * 65537 + (esi : Int) * 31) % (4294967296 : Int) = (j : Int) * 65537 + (esi : Int) * 31 from by omega] at htY
  have hdeg : rand (tupY j esi) 0 1048576 ≤ 1048575 := by have := rand_lt (tupY j esi) 0 1048576 (by omega); omega
  have hDg := degree_any _ hdeg
  have hr0 : ∀ w, Calls Try.prog 90 #[.int .u32 (tupY j esi).toNat, .int .u32 0, .int .i64 1048576] w fun e w' => e = .returned (.int .i64 (rand (tupY j esi) 0 1048576)) ∧ w = w' := hrand (tupY j esi) 0 1048576 (by omega)
  have hr1 : ∀ w, Calls Try.prog 90 #[.int .u32 (tupY j esi).toNat, .int .u32 1, .int .i64 ((Wk k : Nat) - 1 : Int)] w fun e w' => e = .returned (.int .i64 (rand (tupY j esi) 1 (Wk k - 1))) ∧ w = w' := by
    rw [show ((Wk k : Nat) - 1 : Int) = ((Wk k - 1 : Nat) : Int) from by omega]
    exact hrand (tupY j esi) 1 (Wk k - 1) (by omega)
  have hr2 : ∀ w, Calls Try.prog 90 #[.int .u32 (tupY j esi).toNat, .int .u32 2, .int .i64 ((Wk k) : Nat)] w fun e w' => e = .returned (.int .i64 (rand (tupY j esi) 2 (Wk k))) ∧ w = w' := hrand (tupY j esi) 2 (Wk k) (by omega)
  have hr3 : ∀ w, Calls Try.prog 90 #[.int .u32 (tupY j esi).toNat, .int .u32 3, .int .i64 2] w fun e w' => e = .returned (.int .i64 (rand (tupY j esi) 3 2)) ∧ w = w' := hrand (tupY j esi) 3 2 (by omega)
  have ha := rand_lt (tupY j esi) 1 (Wk k - 1) (by omega)
  have hb := rand_lt (tupY j esi) 2 (Wk k) (by omega)
  have hc := rand_lt (tupY j esi) 3 2 (by omega)
  have e1 : (if degree (rand (tupY j esi) 0 1048576) < Wk k then ((degree (rand (tupY j esi) 0 1048576) : Nat) : Int) else ((Wk k : Nat) : Int)) = (partsD k (tupY j esi) : Int) := by
    unfold partsD; split <;> omega
  have hdw : partsD k (tupY j esi) ≤ Wk k := by unfold partsD; omega
  have hparts : parts k j esi = (partsSt (Wk k) (1 + rand (tupY j esi) 1 (Wk k - 1)) (rand (tupY j esi) 2 (Wk k)) (partsD k (tupY j esi))).2 ++ [Wk k + rand (tupY j esi) 3 2] := rfl
  generalize hGy : tupY j esi = y at *
  generalize hGr0 : rand y 0 1048576 = r0 at *
  generalize hGr1 : rand y 1 (Wk k - 1) = r1 at *
  generalize hGr2 : rand y 2 (Wk k) = r2 at *
  generalize hGr3 : rand y 3 2 = r3 at *
  generalize hGd : degree r0 = dg at *
  generalize hGD : partsD k y = d at *
  generalize hGP : parts k j esi = ps at *
  generalize hGW : Wk k = W at *
  clear hGy hGr0 hGr1 hGr2 hGr3 hGd hGD hGP hGW hrand
  have HP : Hid (ps = (partsSt W (1 + r1) r2 d).2 ++ [W + r3]) := hparts
  clear hparts
  go_enter Try.func191, Try.ntmps191
  go_wp2_with fail
  refine (hright _).mono ?_
  rintro e w1 ⟨rfl, hb1⟩
  have hx : Blk w1 w.heap.size 155 [.int .i64 k, .int .i64 (Sk k), .int .i64 2] := (Blk.new w _ _).below (hb1.mono (Nat.le_refl _))
  have hlt := hx.lt
  have hc0 := hx.cell 0
  have hc1 := hx.cell 1
  have hc2 := hx.cell 2
  simp only [List.getElem?_cons_zero, List.getElem?_cons_succ] at hc0 hc1 hc2
  go_wp2_with fail
  refine (hW _).mono ?_
  rintro e w2 ⟨rfl, hb2⟩
  go_wp2_with fail
  have HY : Hid ((j : Int) * 65537 + (esi : Int) * 31 = (y.toNat : Int)) := htY
  clear htY
  refine (hr0 _).mono ?_
  rintro e w' ⟨rfl, rfl⟩
  go_wp2_with fail
  refine (hDg _).mono ?_
  rintro e w3 ⟨rfl, hb3⟩
  go_wp2_with fail
  refine (hr2 _).mono ?_
  rintro e w' ⟨rfl, rfl⟩
  go_wp2_with fail
  refine (hr1 _).mono ?_
  rintro e w' ⟨rfl, rfl⟩
  go_wp2_with fail
  have hx3 := (hx.below hb2).below hb3
  have hlt3 := hx3.lt
  have hbel0 : Below w.heap.size w w3 := (((Below.refl _ _).alloc (Nat.le_refl _) _).trans (hb1.mono (by simp))).trans ((hb2.trans (hb3.mono hb2.size)).mono (by omega))
  have hsz3 := hbel0.size
  generalize hBm : w3.heap.size = Bm
  clear hb1 hb2 hx hlt hc0 hc1 hc2 hr0 hr1 hr2 hmk hDg hW hright hdeg
  go_loopw [13, 62] (fun o i wr => ∃ n : Nat, n ≤ d ∧ i = .int .i64 n ∧ Blk wr Bm 4 ((partsSt W (1 + r1) r2 n).1.map Value.bool) ∧ Own KNat 3 (Bm + 1) (fun g => g < Bm + 1) wr o (partsSt W (1 + r1) r2 n).2 ∧ Below Bm w3 wr) (fun _ i _ => d - (intOf i).toNat)
  case atStart =>
    refine ⟨0, Nat.zero_le _, rfl, ?_, Own.nil, ?_⟩
    · subst hBm
      have := Blk.made w3 4 (.bool false) W
      simpa [partsSt] using this
    · subst hBm; exact (Below.refl _ _).alloc (Nat.le_refl _) _
  case round =>
    obtain ⟨n, hn, rfl, hmet, ho, hbel⟩ := hrel
    have hmlt := hmet.lt
    by_cases hlt : n < d
    · have hml := (partsSt_len W (1 + r1) r2 n).1
      have hol := (partsSt_len W (1 + r1) r2 n).2
      have hcnt := partsSt_count W (1 + r1) r2 n
      have hstep := partsSt_succ W (1 + r1) r2 n
      unfold partsStep at hstep
      generalize (partsSt W (1 + r1) r2 n) = s0 at *
      obtain ⟨met, outs⟩ := s0
      simp only at hmet ho hml hol hcnt hstep
      have HS : Hid (partsSt W (1 + r1) r2 (n + 1) = (met.set (probe met W W ((r2 + n * (1 + r1)) % W)) true, outs ++ [probe met W W ((r2 + n * (1 + r1)) % W)])) := hstep
      clear hstep
      have hx0 : (r2 + n * (1 + r1)) % W < W := Nat.mod_lt _ (by omega)
      have hreach := reach_of met W n hml hcnt (by omega) _ hx0
      have HH : Hid (met.length = W ∧ outs.length = n) := ⟨hml, hol⟩
      have hprod : n * (1 + r1) ≤ 50 * 50 := Nat.mul_le_mul (by omega) (by omega)
      clear hml hol hcnt
      obtain ⟨q, hq⟩ : ∃ q, q = n * (1 + r1) := ⟨_, rfl⟩
      rw [← hq] at hprod hx0 hreach
      have hqi : (n : Int) * (1 + (r1 : Int)) = (q : Int) := by rw [hq]; simp
      obtain ⟨x0, hx0e⟩ : ∃ x0, x0 = (r2 + q) % W := ⟨_, rfl⟩
      rw [← hx0e] at hx0 hreach
      have hrem : ((r2 : Int) + (q : Int)).tmod (W : Int) = (x0 : Int) := by
        rw [Int.tmod_eq_emod_of_nonneg (by omega), hx0e, Int.natCast_emod, Int.natCast_add]
      have HX : Hid (partsSt W (1 + r1) r2 (n + 1) = (met.set (probe met W W x0) true, outs ++ [probe met W W x0])) := by rw [hx0e, hq]; exact HS.out
      clear HS hq hx0e
      obtain ⟨wo, rfl⟩ : ∃ wo : World, wo = wr := ⟨_, rfl⟩
      go_wp2_with fail
      go_loopg [15] W (fun f at' wi => ∃ x : Nat, at' = .int .i64 x ∧ x < W ∧ Reach met W f x ∧ probe met W W x0 = probe met W f x ∧ wi = wo)
      case atStart => exact ⟨x0, rfl, hx0, hreach, rfl, rfl⟩
      case round =>
        obtain ⟨x, rfl, hxW, hre, hpr, rfl⟩ := hrel
        have hcell := hmet.cell x
        rw [List.getElem?_map, List.getElem?_eq_getElem (by rw [HH.out.1]; exact hxW)] at hcell
        have hgd : met.getD x false = met[x]'(by rw [HH.out.1]; exact hxW) := by rw [List.getD_eq_getElem?_getD, List.getElem?_eq_getElem (by rw [HH.out.1]; exact hxW)]; rfl
        simp only [Option.map_some] at hcell
        generalize met[x]'(by rw [HH.out.1]; exact hxW) = c at hcell hgd
        have hfr := hmet.frozen x
        cases c with
        | true =>
          obtain ⟨f', rfl⟩ : ∃ f', gk = f' + 1 := by
            cases gk with
            | zero => exact absurd hre reach_zero
            | succ f' => exact ⟨f', rfl⟩
          have hre' := reach_step hxW HH.out.1 hre hgd
          rw [probe_yes hgd] at hpr
          have HQ : Hid (Reach met W f' ((x + 1) % W) ∧ probe met W W x0 = probe met W f' ((x + 1) % W)) := ⟨hre', hpr⟩
          have hrem2 : ((x : Int) + 1).tmod (W : Int) = (((x + 1) % W : Nat) : Int) := by
            rw [Int.tmod_eq_emod_of_nonneg (by omega), Int.natCast_emod, Int.natCast_add]; rfl
          have hmm : (x + 1) % W < W := Nat.mod_lt _ (by omega)
          clear hre hre' hpr hgd hreach
          go_wp2_with fail
          go_roundg f'
          case measure => omega
          case rel => exact ⟨(x + 1) % W, by (first | rfl | exact val_int hrem2), hmm, HQ.out.1, HQ.out.2, rfl⟩
        | false =>
          rw [probe_no hgd] at hpr
          have HQ : Hid (probe met W W x0 = x) := hpr
          clear hre hpr hgd hreach
          have hob : ∀ g, u13.ownBlock = some g → Bm + 1 ≤ g ∧ g < wr.heap.size := fun g hg => ho.block hg
          have hown := (Own.upd ho ((Upd.set_ wr ⟨Bm, x, none⟩ (.bool true)).mono (M' := fun g => g < Bm + 1) (fun g _ (h : g = Bm) => by show g < Bm + 1; omega)) (fun g hg (h : g < Bm + 1) => by have := hob g hg; omega)).below (below_one _ (.cells #[.int .i64 x] 3))
          have hnew : (KSl 8 KNat).R (fun g => g < Bm + 1 ∨ u13.ownBlock = some g) ((wr.setCell ⟨Bm, x, none⟩ (.bool true)).alloc (.cells #[.int .i64 x] 3)) [.slice (some ⟨wr.heap.size, 0, none⟩) 1 1] [x] := by
            have hsz : (wr.setCell ⟨Bm, x, none⟩ (.bool true)).heap.size = wr.heap.size := by simp
            have := KSl.of_blk1 (bytes := 8) (K := KNat) (M := fun g => g < Bm + 1 ∨ u13.ownBlock = some g) (l := [x]) (Blk.new (wr.setCell ⟨Bm, x, none⟩ (.bool true)) 3 [.int .i64 x]) (by
              rw [hsz]
              rintro (h | h)
              · omega
              · have := (hob _ h).2; omega) rfl (by simp) (by simp) (fun i h1 h2 => by
              obtain rfl : i = 0 := by simp at h1; omega
              exact ⟨rfl, by simp [IsInt]; omega⟩)
            rw [hsz] at this
            exact this
          have hset := hmet.set_ x (.bool true)
          rw [show (Value.bool true) = Value.bool true from rfl, ← List.map_set] at hset
          go_wp2_with (at_builtin; refine wpList_app elemInt rfl _ _ rfl rfl rfl hown hnew ?c1 ?c2 ?c3 ?c4 ?_)
          case c1 => rw [HH.out.2]; simp; omega
          case c2 => rw [HH.out.2]; simp; omega
          case c3 => simp; omega
          case c4 => intro g hg; simp; omega
          intro v' w2 hown2 hgrow hob2
          clear hnew hown ho
          go_wp2
          go_roundw
          case rel =>
            refine ⟨n + 1, by omega, by go_num, ?_, ?_, ?_⟩
            · rw [HX.out, HQ.out]
              have hs2 := hset.alloc (.cells #[.int .i64 x] 3)
              exact hs2.same (hgrow.block Bm (by simp; omega) (fun e => by have := (hob _ e.symm).1; omega))
            · rw [HX.out, HQ.out]; exact hown2
            · exact ((hbel.setCell (by simp) _).alloc (by simp; omega) _).grown hgrow (by simp; omega) (fun g hg => by have := hob g hg; omega)
          case measure => simp [intOf]; omega
    · have e : n = d := by omega
      subst e
      have hcx := (hx3.below (by rw [hBm]; exact hbel)).cell 2
      have hol := (partsSt_len W (1 + r1) r2 n).2
      have HPL : Hid ((partsSt W (1 + r1) r2 n).2.length = n) := hol
      clear hol
      have hob : ∀ g, u13.ownBlock = some g → Bm + 1 ≤ g ∧ g < wr.heap.size := fun g hg => ho.block hg
      have hown := ho.below (below_one wr (.cells #[.int .i64 ((W : Int) + (r3 : Int))] 3))
      have hnew := KSl.of_blk1 (bytes := 8) (K := KNat) (M := fun g => g < Bm + 1 ∨ u13.ownBlock = some g) (l := [W + r3]) (Blk.new wr 3 [.int .i64 ((W : Int) + (r3 : Int))]) (by
          rintro (h | h)
          · omega
          · have := (hob _ h).2; omega) rfl (by simp) (by simp) (fun i h1 h2 => by
          obtain rfl : i = 0 := by simp at h1; omega
          exact ⟨by simp, by simp [IsInt]; omega⟩)
      go_wp2_with fail
      refine (hr3 _).mono ?_
      rintro e w' ⟨rfl, rfl⟩
      go_wp2_with (at_builtin; refine wpList_app elemInt rfl _ _ rfl rfl rfl hown hnew ?c1 ?c2 ?c3 ?c4 ?_)
      case c1 => rw [HPL.out]; simp; omega
      case c2 => rw [HPL.out]; simp; omega
      case c3 => simp; omega
      case c4 => intro g hg; simp; omega
      intro v' w2 hown2 hgrow hob2
      rw [← HP.out] at hown2
      go_wp2
      go_ret
      refine ⟨_, rfl, (hown2.from (by omega)).anti (fun g _ (hg : g < w.heap.size) => by show g < Bm + 1; omega), ?_⟩
      have h3 : Below w.heap.size w wr := hbel0.trans (hbel.mono (by omega))
      exact (h3.alloc (by omega) _).grown hgrow (by simp; omega) (fun g hg => by have := hob g hg; omega)
end Go.Proofs.Ytpdfcgkeclocoaa
