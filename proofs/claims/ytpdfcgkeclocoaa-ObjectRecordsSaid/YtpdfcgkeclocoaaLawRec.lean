/- The walk of fountainlaw13.ObjectRecords. -/
import Derived.Test.YtpdfcgkeclocoaaRecs
import Derived.Test.YtpdfcgkeclocoaaRoad
import Derived.Test.YtpdfcgkeclocoaaLive13
set_option linter.all false
namespace Go.Proofs.Ytpdfcgkeclocoaa
open Go.RowKit GF
attribute [local go_sem ↓] Go.wp_at_zero Go.wp_at_succ

set_option maxHeartbeats 1000000 in
theorem objRecords_early (b z m : Int) (A : Option Addr) (dl c : Nat) (ip iq extra till : Int) (w : World)
    (h : ¬ (⟨b, z, m⟩ : ShapeD).right ∨ (dl : Int) ≠ b ∨ extra < 0 ∨ 5 < extra) :
    Calls Try.prog 6 #[.agg #[.int .i64 b, .int .i64 z, .int .i64 m], .slice A dl c, .agg #[.int .i64 ip, .int .i64 iq], .int .i64 extra, .int .i64 till] w fun e w' => e = .returned (.bool true) ∧ Below w.heap.size w w' := by
  obtain ⟨r, hr, hh⟩ : ∃ r : Bool, (∀ W, Calls Try.prog 27 #[.agg #[.int .i64 b, .int .i64 z, .int .i64 m]] W fun e w' => e = .returned (.bool r) ∧ Below W.heap.size W w') ∧
      (r = false ∨ (r = true ∧ ((dl : Int) != b) = true) ∨ (r = true ∧ ((dl : Int) != b) = false ∧ decide (extra < 0) = true) ∨ (r = true ∧ ((dl : Int) != b) = false ∧ decide (extra < 0) = false ∧ decide (5 < extra) = true)) := by
    by_cases hr : (⟨b, z, m⟩ : ShapeD).right
    · refine ⟨true, refRight_yes b z m hr, ?_⟩
      simp only [decide_eq_true_eq, decide_eq_false_iff_not, bne_iff_ne, bne_eq_false_iff_eq, Bool.true_eq_false, false_or, true_and]
      have : (dl : Int) ≠ b ∨ extra < 0 ∨ 5 < extra := h.resolve_left fun hn => hn hr
      omega
    · exact ⟨false, refRight_no b z m hr, .inl rfl⟩
  have ha := alive13_any
  have hsm := small_any b z m
  have hx := (Blk.new w 32 [.int .i64 b, .int .i64 z, .int .i64 m]).alloc (.cells #[.int .i64 ip, .int .i64 iq] 36)
  have hbx : Below w.heap.size w ((w.alloc (.cells #[.int .i64 b, .int .i64 z, .int .i64 m] 32)).alloc (.cells #[.int .i64 ip, .int .i64 iq] 36)) := (below_one w _).alloc (by simp) _
  clear h
  go_enter Try.func6, Try.ntmps6
  go_upto_region 1 with fail
  generalize (w.alloc (.cells #[.int .i64 b, .int .i64 z, .int .i64 m] 32)).alloc (.cells #[.int .i64 ip, .int .i64 iq] 36) = wx at *
  go_wp2_with fail
  refine (ha _).mono ?_
  rintro e w1 ⟨rfl, hb1⟩
  have hx1 := hx.below hb1
  have hbw1 := hbx.trans (hb1.mono hbx.size)
  have c0 := hx1.cell 0
  have c1 := hx1.cell 1
  have c2 := hx1.cell 2
  simp only [List.getElem?_cons_zero, List.getElem?_cons_succ] at c0 c1 c2
  have hlt := hx1.lt
  clear ha hx
  go_wp2_with fail
  refine (hsm _).mono ?_
  rintro e w2 ⟨⟨x, rfl⟩, hb2⟩
  have hx2 := hx1.below hb2
  have hbw2 := hbw1.trans (hb2.mono hbw1.size)
  have d0 := hx2.cell 0
  have d1 := hx2.cell 1
  have d2 := hx2.cell 2
  simp only [List.getElem?_cons_zero, List.getElem?_cons_succ] at d0 d1 d2
  have hlt2 := hx2.lt
  clear hsm c0 c1 c2
  cases x with
  | false =>
    clear hr hh
    go_wp2
    go_ret
    exact ⟨rfl, hbw2⟩
  | true =>
    go_wp2_with fail
    refine (hr _).mono ?_
    rintro e w3 ⟨rfl, hb3⟩
    have hx3 := hx2.below hb3
    have hbw3 := hbw2.trans (hb3.mono hbw2.size)
    have f0 := hx3.cell 0
    simp only [List.getElem?_cons_zero] at f0
    have hlt3 := hx3.lt
    clear hr d0 d1 d2
    rcases hh with rfl | ⟨rfl, h1⟩ | ⟨rfl, h1, h2⟩ | ⟨rfl, h1, h2, h3⟩
    all_goals
      go_wp2
      go_ret
      exact ⟨rfl, hbw3⟩

set_option maxRecDepth 100000 in
set_option maxHeartbeats 4000000 in
theorem objRecords_main (s : Shp) (hs : s.Ok) (v : Value) (d : List UInt8) (ip iq : Int) (ex : Nat) (till : Int) (w : World) (hd : KBs.R noB w [v] d) (hlen : d.length = s.b) (hex : ex ≤ 5) (hip : IsInt ip) (hiq : IsInt iq) (htl : IsInt till) :
    Calls Try.prog 6 #[.agg #[.int .i64 s.b, .int .i64 s.z, .int .i64 s.m], v, .agg #[.int .i64 ip, .int .i64 iq], .int .i64 ex, .int .i64 till] w fun e w' => e = .returned (.bool true) ∧ Below w.heap.size w w' := by
  have ha := alive13_any
  have hsm := small_any s.b s.z s.m
  have hr := refRight_yes _ _ _ (Shp.right hs)
  have hbl := refBlocks_yes s hs
  have hk := refK_yes s hs
  have hkn := kN_le hs
  have hbn := blkN_le hs
  have hsn := symN_le hs
  have hb2 := hs.b2
  have hnew := fun W (hW : KBs.R noB W [v] d) => newObj_any s hs v d W hW hlen
  have herr := fun q => newObj_err5 (s := s) (d := d) (q := q)
  have hnbk := fun o => newObj_blocks (s := s) (d := d) (o := o)
  have hnk := fun o => newObj_k (s := s) (d := d) (o := o)
  have hnsh := fun o => newObj_sh (s := s) (d := d) (o := o)
  have HC : Hid (clampE (ex : Int) = ex) := by
    show clampE (ex : Int) = ex
    unfold clampE
    rw [if_neg (by omega), if_neg (by omega)]
    omega
  have hl1 : ((d.length : Int) != (s.b : Int)) = false := by rw [hlen]; simp
  have hx0 : decide ((ex : Int) < 0) = false := by simp
  have hx5 : decide ((5 : Int) < (ex : Int)) = false := by simp; omega
  obtain ⟨A, c, rfl, -⟩ := KSl.val hd
  generalize newObj s d = no at *
  have hbN : blkN s ≤ 4000 := by omega
  obtain ⟨N, hN⟩ : ∃ N, N = blkN s := ⟨_, rfl⟩
  rw [← hN] at hbl hk hbN hnbk hnk
  clear hN hbn hsn hlen
  have hx := (Blk.new w 32 [.int .i64 s.b, .int .i64 s.z, .int .i64 s.m]).alloc (.cells #[.int .i64 ip, .int .i64 iq] 36)
  have hy : Blk ((w.alloc (.cells #[.int .i64 s.b, .int .i64 s.z, .int .i64 s.m] 32)).alloc (.cells #[.int .i64 ip, .int .i64 iq] 36)) (w.heap.size + 1) 36 [.int .i64 ip, .int .i64 iq] := by
    have := Blk.new (w.alloc (.cells #[.int .i64 s.b, .int .i64 s.z, .int .i64 s.m] 32)) 36 [.int .i64 ip, .int .i64 iq]
    simpa using this
  have hbx : Below w.heap.size w ((w.alloc (.cells #[.int .i64 s.b, .int .i64 s.z, .int .i64 s.m] 32)).alloc (.cells #[.int .i64 ip, .int .i64 iq] 36)) := (below_one w _).alloc (by simp) _
  go_enter Try.func6, Try.ntmps6
  go_upto_region 1 with fail
  generalize (w.alloc (.cells #[.int .i64 s.b, .int .i64 s.z, .int .i64 s.m] 32)).alloc (.cells #[.int .i64 ip, .int .i64 iq] 36) = wx at *
  generalize hg1 : w.heap.size + 1 = g1 at *
  clear hg1
  go_wp2_with fail
  refine (ha _).mono ?_
  rintro e w1 ⟨rfl, hb1⟩
  have hx1 := hx.below hb1
  have hy1 := hy.below hb1
  have hbw1 := hbx.trans (hb1.mono hbx.size)
  have c0 := hx1.cell 0
  have c1 := hx1.cell 1
  have c2 := hx1.cell 2
  simp only [List.getElem?_cons_zero, List.getElem?_cons_succ] at c0 c1 c2
  have hlt := hx1.lt
  clear ha hx hy hb1 hbx
  go_wp2_with fail
  refine (hsm _).mono ?_
  rintro e w2 ⟨⟨x, rfl⟩, hb2⟩
  have hx2 := hx1.below hb2
  have hy2 := hy1.below hb2
  have hbw2 := hbw1.trans (hb2.mono hbw1.size)
  have d0 := hx2.cell 0
  have d1 := hx2.cell 1
  have d2 := hx2.cell 2
  simp only [List.getElem?_cons_zero, List.getElem?_cons_succ] at d0 d1 d2
  have hlt2 := hx2.lt
  clear hsm c0 c1 c2 hx1 hy1 hb2
  cases x with
  | false =>
    clear hr hbl hk
    go_wp2
    go_ret
    exact ⟨rfl, hbw2⟩
  | true =>
    go_wp2_with fail
    refine (hr _).mono ?_
    rintro e w3 ⟨rfl, hb3⟩
    have hx3 := hx2.below hb3
    have hy3 := hy2.below hb3
    have hbw3 := hbw2.trans (hb3.mono hbw2.size)
    have f0 := hx3.cell 0
    have f1 := hx3.cell 1
    have f2 := hx3.cell 2
    simp only [List.getElem?_cons_zero, List.getElem?_cons_succ] at f0 f1 f2
    have hlt3 := hx3.lt
    have hn3 := hnew w3 (Kd.below hd hbw3)
    clear hr d0 d1 d2 hx2 hy2 hnew hd hb3
    go_wp2_with fail
    refine hn3.mono ?_
    rintro e w4 hr4
    cases no with
    | error q =>
      obtain ⟨rfl, hb4⟩ := hr4.no_
      have hq := herr q rfl
      subst hq
      have hbw4 := hbw3.trans (hb4.mono hbw3.size)
      clear hr4 hn3 hbl hk herr
      go_wp2_with fail
      refine (num13_any _ _).mono ?_
      rintro e w5 ⟨rfl, rfl⟩
      go_wp2_with fail
      refine (num13_any _ _).mono ?_
      rintro e w5 ⟨rfl, rfl⟩
      go_wp2
      go_ret
      exact ⟨rfl, hbw4⟩
    | ok o =>
      obtain ⟨v4, rfl, hb4, hv4⟩ := hr4.ok_
      have hbs := hnbk o rfl
      have hok := hnk o rfl
      have hsh := hnsh o rfl
      have hrc := recs_any v4 o ip iq (ex : Int) till w4 (Kd.drop hv4) hip hiq htl (by omega)
      have hrs : recsO o ip iq (ex : Int) till = recsGo o ip iq till ex N := by
        unfold recsO
        rw [HC.out, hbs]
      rw [hrs] at hrc
      have hrl := recsGo_length o ip iq till ex (fun b hb => by
        obtain ⟨i, hi, rfl⟩ := List.getElem_of_mem hb
        have := hok i (by omega)
        rw [getD_eq _ _ _ hi] at this
        rw [this]; exact (hkn i).2) (by omega) N (by omega)
      have hget := fun b e (hb : b < N) (he : e < kN s b + ex) => recsGo_get o ip iq till ex N b e hb (by rw [hok b hb]; exact he)
      have hstep := fun b (hb : b < N) => show (recsGo o ip iq till ex (b + 1)).length = (recsGo o ip iq till ex b).length + (kN s b + ex) by rw [recsGo_step, hok b hb]
      have hz0 : (recsGo o ip iq till ex 0).length = 0 := rfl
      have hsyo := fun (n esi : Int) W (hW : KObjP.R noB W [v4] o) => objSym_any v4 o n esi W hW (by omega)
      have hsyv := fun b e (hb : b < N) (he : e < kN s b + ex) => show objSym o (b : Int) (e : Int) = .ok (symB (o.bs.getD b b00) e) by
        have := (hkn b).2
        unfold objSym
        rw [if_pos ⟨by omega, by omega, by omega, by omega⟩]
        rfl
      have hsyN : objSym o (N : Int) 0 = .error 1 := by unfold objSym; rw [if_neg (by omega)]
      have hsyM : objSym o (-1) 0 = .error 1 := by unfold objSym; rw [if_neg (by omega)]
      have hsyL : objSym o 0 16777216 = .error 1 := by unfold objSym; rw [if_neg (by omega)]
      rw [hsh] at hget
      obtain ⟨go, hgo⟩ : ∃ go : Nat → Nat, ∀ n, go n = (recsGo o ip iq till ex n).length := ⟨_, fun _ => rfl⟩
      simp only [← hgo] at hget hstep hz0
      generalize hrr : recsGo o ip iq till ex N = rs at *
      have HGN : Hid (go N = rs.length) := by show go N = rs.length; rw [hgo, hrr]
      have HGET : Hid (∀ b e, b < N → e < kN s b + ex → rs[go b + e]? = some (recOf s ip iq till b e (symB (o.bs.getD b b00) e))) := hget
      have HSTEP : Hid (∀ b, b < N → go (b + 1) = go b + (kN s b + ex)) := hstep
      have HZ0 : Hid (go 0 = 0) := hz0
      have HSYV : Hid (∀ b e, b < N → e < kN s b + ex → objSym o (b : Int) (e : Int) = .ok (symB (o.bs.getD b b00) e)) := hsyv
      have HSYN : Hid (objSym o (N : Int) 0 = .error 1) := hsyN
      have HSYM : Hid (objSym o (-1) 0 = .error 1) := hsyM
      have HSYL : Hid (objSym o 0 16777216 = .error 1) := hsyL
      obtain ⟨g, u, rfl, -⟩ := KObjP.val hv4
      have hx4 := hx3.below hb4
      have hy4 := hy3.below hb4
      have hbw4 := hbw3.trans (hb4.mono hbw3.size)
      have e0 := hy4.cell 0
      have e1 := hy4.cell 1
      simp only [List.getElem?_cons_zero, List.getElem?_cons_succ] at e0 e1
      have hlt4 := hy4.lt
      clear hr4 hn3 herr hnbk hnk hnsh hrs hget hstep hz0 hsyv hsyN hsyM hsyL hgo hrr f0 f1 f2 hx3 hy3 hok hsh
      go_wp2_with fail
      refine (num13_any _ _).mono ?_
      rintro e w5 ⟨rfl, rfl⟩
      go_wp2_with fail
      refine hrc.mono ?_
      rintro e w5 ⟨v5, rfl, ho5, hb5⟩
      have hl5 := ho5.sl (bytes := 96) (M' := noB) (by omega) (fun _ _ h => h.elim) (fun _ _ h => h)
      obtain ⟨A5, c5, rfl, -⟩ := KSl.val hl5
      have hx5' := hx4.below hb5
      have hy5 := hy4.below hb5
      have hbw5 := hbw4.trans (hb5.mono hbw4.size)
      have hob5 := Kd.drop (Kd.below hv4 hb5)
      clear hrc ho5 e0 e1 hx4 hy4 hv4 hb5 hb4
      go_wp2_with fail
      go_loopw [15, 16] (fun n i wr => ∃ b : Nat, b ≤ N ∧ i = .int .i64 b ∧ n = .int .i64 (go b) ∧ Below w5.heap.size w5 wr) (fun _ i _ => N - (intOf i).toNat)
      case atStart => exact ⟨0, Nat.zero_le _, rfl, by rw [HZ0.out]; rfl, Below.refl _ _⟩
      case round =>
        obtain ⟨b, hb, rfl, rfl, hbel⟩ := hrel
        have hxr := hx5'.below hbel
        have hyr := hy5.below hbel
        have hbwr := hbw5.trans (hbel.mono hbw5.size)
        have e0 := hxr.cell 0
        have e1 := hxr.cell 1
        have e2 := hxr.cell 2
        simp only [List.getElem?_cons_zero, List.getElem?_cons_succ] at e0 e1 e2
        have hltr := hxr.lt
        go_wp2_with fail
        refine (hbl _).mono ?_
        rintro e w6 ⟨rfl, hb6⟩
        have hbe6 := hbel.trans (hb6.mono hbel.size)
        have hx6 := hx5'.below hbe6
        have hy6 := hy5.below hbe6
        clear hxr hyr e0 e1 e2 hb6
        by_cases hlt' : b < N
        · have hdd : decide ((b : Int) < (N : Int)) = true := by simpa using hlt'
          go_wp2_with fail
          go_loopw [15, 17] (fun n i wr => ∃ e : Nat, e ≤ kN s b + ex ∧ i = .int .i64 e ∧ n = .int .i64 ((go b + e : Nat) : Int) ∧ Below w6.heap.size w6 wr) (fun _ i _ => kN s b + ex - (intOf i).toNat)
          case atStart => exact ⟨0, Nat.zero_le _, rfl, rfl, Below.refl _ _⟩
          case round =>
            obtain ⟨e, he, rfl, rfl, hbe⟩ := hrel
            have hbwi := hbe6.trans (hbe.mono hbe6.size)
            have hxi := hx5'.below hbwi
            have hyi := hy5.below hbwi
            have e0 := hxi.cell 0
            have e1 := hxi.cell 1
            have e2 := hxi.cell 2
            simp only [List.getElem?_cons_zero, List.getElem?_cons_succ] at e0 e1 e2
            have hlti := hxi.lt
            have hk40 := hkn b
            have hsum : IntKind.i64.wrap ((kN s b : Int) + (ex : Int)) = (kN s b : Int) + (ex : Int) := IntWalk.i64_in _ (by omega)
            go_wp2_with fail
            refine (hk b hlt' _).mono ?_
            rintro e' w7 ⟨rfl, hb7⟩
            have hbe7 := hbe.trans (hb7.mono hbe.size)
            have hbw7 := hbe6.trans (hbe7.mono hbe6.size)
            clear hxi hyi e0 e1 e2 hb7 hbwi
            by_cases hle : e < kN s b + ex
            · have hde : decide ((e : Int) < (kN s b : Int) + (ex : Int)) = true := by simp only [decide_eq_true_eq]; omega
              have hsy := hsyo b e w7 (Kd.below hob5 hbw7)
              rw [HSYV.out b e hlt' hle] at hsy
              have hgt := HGET.out b e hlt' hle
              go_wp2_with fail
              refine hsy.mono ?_
              rintro e' w8 hr8
              obtain ⟨v8, rfl, hb8, hv8⟩ := hr8.ok_
              have hidx : go b + e < rs.length := (List.getElem?_eq_some_iff.1 hgt).1
              obtain ⟨gbe, hgbe⟩ : ∃ n : Nat, n = go b + e := ⟨_, rfl⟩
              have HGE : Hid (gbe = go b + e) := hgbe
              rw [← hgbe] at hgt hidx
              have hre : rs[gbe] = recOf s ip iq till b e (symB (o.bs.getD b b00) e) := (List.getElem?_eq_some_iff.1 hgt).2
              obtain ⟨ad, u5, rfl, hu, hok, q0, q1, q2, q3, q4, q5, q6, q7, q8, q9⟩ := KRecs.at_ hl5 hidx
              rw [hre] at hu hok q0 q1 q2 q3 q4 q5 q6 q7 q8
              generalize symB (o.bs.getD b b00) e = row at *
              simp only [recOf] at hu hok q0 q1 q2 q3 q4 q5 q6 q7 q8
              have hbw8 := hbw7.trans (hb8.mono hbw7.size)
              have hxi := hx5'.below hbw8
              have hyi := hy5.below hbw8
              have hu8 := Kd.below hu hbw8
              have hv8' := Kd.drop hv8
              obtain ⟨Au, cu, rfl, -⟩ := KSl.val hu
              obtain ⟨A8, c8, rfl, -⟩ := KSl.val hv8
              have hSof : ∀ W, Below w8.heap.size w8 W → (W.cell? (ad.add (gbe * 10)) = some (.int .i64 ip) ∧ W.cell? ⟨(ad.add (gbe * 10)).block, (ad.add (gbe * 10)).off + 1, none⟩ = some (.int .i64 iq) ∧
                  W.cell? ⟨(ad.add (gbe * 10)).block, (ad.add (gbe * 10)).off + 2, none⟩ = some (.int .i64 s.b) ∧ W.cell? ⟨(ad.add (gbe * 10)).block, (ad.add (gbe * 10)).off + 3, none⟩ = some (.int .i64 s.z) ∧
                  W.cell? ⟨(ad.add (gbe * 10)).block, (ad.add (gbe * 10)).off + 4, none⟩ = some (.int .i64 s.m) ∧ W.cell? ⟨(ad.add (gbe * 10)).block, (ad.add (gbe * 10)).off + 5, none⟩ = some (.int .i64 b) ∧
                  W.cell? ⟨(ad.add (gbe * 10)).block, (ad.add (gbe * 10)).off + 6, none⟩ = some (.int .i64 e) ∧ W.cell? ⟨(ad.add (gbe * 10)).block, (ad.add (gbe * 10)).off + 7, none⟩ = some (.bool false) ∧
                  W.cell? ⟨(ad.add (gbe * 10)).block, (ad.add (gbe * 10)).off + 8, none⟩ = some (.int .i64 till) ∧ W.cell? ⟨(ad.add (gbe * 10)).block, (ad.add (gbe * 10)).off + 9, none⟩ = some (.slice Au row.length cu) ∧
                  W.cell? ⟨g1, 0, none⟩ = some (.int .i64 ip) ∧ W.cell? ⟨g1, 1, none⟩ = some (.int .i64 iq) ∧ W.cell? ⟨w.heap.size, 0, none⟩ = some (.int .i64 s.b) ∧ W.cell? ⟨w.heap.size, 1, none⟩ = some (.int .i64 s.z) ∧ W.cell? ⟨w.heap.size, 2, none⟩ = some (.int .i64 s.m)) := fun W hW => by
                have hW5 := hbw8.trans (hW.mono hbw8.size)
                exact ⟨cell_below hW5 _ _ q0, cell_below hW5 _ _ q1, cell_below hW5 _ _ q2, cell_below hW5 _ _ q3, cell_below hW5 _ _ q4, cell_below hW5 _ _ q5, cell_below hW5 _ _ q6, cell_below hW5 _ _ q7, cell_below hW5 _ _ q8, cell_below hW5 _ _ q9,
                  (hy5.below hW5).cell 0, (hy5.below hW5).cell 1, (hx5'.below hW5).cell 0, (hx5'.below hW5).cell 1, (hx5'.below hW5).cell 2⟩
              have hsame := fun W (hW : Below w8.heap.size w8 W) => same_yes [.int .i64 ip, .int .i64 iq, .int .i64 s.b, .int .i64 s.z, .int .i64 s.m, .int .i64 b, .int .i64 e, .bool false, .int .i64 till, .slice Au row.length cu] [.int .i64 ip, .int .i64 iq, .int .i64 s.b, .int .i64 s.z, .int .i64 s.m, .int .i64 b, .int .i64 e, .bool false, .int .i64 till, .slice A8 row.length c8] ⟨ip, iq, ⟨s.b, s.z, s.m⟩, b, e, false, till, row⟩ W ⟨_, rfl, Kd.below hu8 hW, hok⟩ ⟨_, rfl, Kd.below hv8' hW, hok⟩
              have hlt8 := hxi.lt
              have hlt81 := hyi.lt
              have hidx2 : decide ((rs.length : Int) ≤ (gbe : Int)) = false := by simp only [decide_eq_false_iff_not]; omega
              have hidx3 : decide (rs.length ≤ gbe) = false := by simp only [decide_eq_false_iff_not]; omega
              have hgc : (go b : Int) + (e : Int) = (gbe : Int) := by omega
              clear hgbe q0 q1 q2 q3 q4 q5 q6 q7 q8 q9 hr8 hsy hgt hre hu hu8 hv8 hv8' hxi hyi hok hbl hk hsyo
              go_upto_region 16 with fail
              have hrlen : rs.length ≤ 560000 := by omega
              clear hgc
              refine wp_region_road [(0, 0), (2, 1), (0, 2), (0, 3), (0, 4), (0, 5), (0, 6), (0, 7), (0, 8), (0, 9), (0, 10), (0, 11), (0, 12), (1, 13), (1, 14), (1, 15), (0, 16), (0, 17), (0, 18), (0, 19), (0, 20), (2, 21), (0, 22), (0, 23)] (fun W => Below w8.heap.size w8 W) (by kernel_rfl) (by kernel_rfl) (fun _ _ _ _ _ h => h) (Below.refl _ _).drew ?_
              simp only [List.map_cons, List.map_nil, opAt, gOf, Option.map_some, Option.map_none, List.getD_cons_zero, List.getD_cons_succ]
              apply road_cold rfl
              · intro w9
                go_simp
                with_reducible rfl
              go_simp
              refine road_step rfl (fun K hK => ?_)
              go_simp
              refine (num13_any _ _).mono ?_
              rintro e' w9 ⟨rfl, rfl⟩
              refine hK _ _ (fun h => h) ?_
              clear hK K
              go_simp
              iterate 11
                apply road_cold rfl
                · intro w9
                  go_simp
                  with_reducible rfl
                go_simp
              iterate 3
                apply road_hot rfl
                · intro w9 hS
                  obtain ⟨hS0, hS1, hS2, hS3, hS4, hS5, hS6, hS7, hS8, hS9, hS10, hS11, hS12, hS13, hS14⟩ := hSof _ hS
                  go_simp
                  with_reducible rfl
                go_simp
              iterate 5
                apply road_cold rfl
                · intro w9
                  go_simp
                  with_reducible rfl
                go_simp
              refine road_step rfl (fun K hK => ?_)
              go_simp
              refine (hsame _ (Below.refl _ _).drew).mono ?_
              rintro e' w9 ⟨rfl, hb9⟩
              have hb9' : Below w8.heap.size w8 w9 := (Below.refl _ _).drew.trans hb9
              have hbe9 := hbe7.trans ((hb8.trans (hb9'.mono hb8.size)).mono hbe7.size)
              have hwr1 : IntKind.i64.wrap ((gbe : Int) + 1) = (go b : Int) + ((e : Int) + 1) := by rw [IntWalk.i64_in _ (by omega)]; have := HGE.out; omega
              refine hK _ _ (fun h => h.trans (hb9.mono h.size)) ?_
              clear hK K
              go_simp
              iterate 2
                apply road_cold rfl
                · intro w9
                  go_simp
                  with_reducible rfl
                go_simp
              refine road_nil ?_
              go_wp2_with fail
              go_roundw
              case rel => exact ⟨e + 1, by omega, by go_num, by go_num, hbe9⟩
              case measure => simp [intOf]; omega
            · have hde : decide ((e : Int) < (kN s b : Int) + (ex : Int)) = false := by simp only [decide_eq_false_iff_not]; omega
              have e' : e = kN s b + ex := by omega
              subst e'
              have hst := HSTEP.out b hlt'
              go_wp2_with fail
              go_roundw
              case rel => exact ⟨b + 1, by omega, by go_num, by rw [hst]; go_num, hbw7⟩
              case measure => simp [intOf]; omega
        · have e : b = N := by omega
          subst e
          have hdd : decide ((b : Int) < (b : Int)) = false := by simp
          have hbw6 := hbw5.trans (hbe6.mono hbw5.size)
          have e0 := hx6.cell 0
          have e1 := hx6.cell 1
          have e2 := hx6.cell 2
          simp only [List.getElem?_cons_zero, List.getElem?_cons_succ] at e0 e1 e2
          have hlt6 := hx6.lt
          clear hk hl5
          go_wp2_with fail
          refine (hbl _).mono ?_
          rintro e' w7 ⟨rfl, hb7⟩
          have hbe7 := hbe6.trans (hb7.mono hbe6.size)
          have hs1 := hsyo b 0 w7 (Kd.below hob5 hbe7)
          rw [HSYN.out] at hs1
          clear hbl e0 e1 e2 hx6 hy6
          go_wp2_with fail
          refine hs1.mono ?_
          rintro e' w8 hr8
          obtain ⟨rfl, hb8⟩ := hr8.no_
          have hbe8 := hbe7.trans (hb8.mono hbe7.size)
          have hs2 := hsyo (-1) 0 w8 (Kd.below hob5 hbe8)
          rw [HSYM.out] at hs2
          clear hs1 hr8
          go_wp2_with fail
          refine hs2.mono ?_
          rintro e' w9 hr9
          obtain ⟨rfl, hb9⟩ := hr9.no_
          have hbe9 := hbe8.trans (hb9.mono hbe8.size)
          have hs3 := hsyo 0 16777216 w9 (Kd.below hob5 hbe9)
          rw [HSYL.out] at hs3
          clear hs2 hr9 hsyo
          go_wp2_with fail
          refine hs3.mono ?_
          rintro e' w10 hr10
          obtain ⟨rfl, hb10⟩ := hr10.no_
          have hbe10 := hbe9.trans (hb10.mono hbe9.size)
          have hfin := hbw5.trans (hbe10.mono hbw5.size)
          have hgn : go b = rs.length := HGN.out
          clear hs3 hr10
          go_wp2_with fail
          refine (num13_any _ _).mono ?_
          rintro e' w11 ⟨rfl, rfl⟩
          go_wp2_with fail
          refine (num13_any _ _).mono ?_
          rintro e' w11 ⟨rfl, rfl⟩
          go_wp2_with fail
          refine (num13_any _ _).mono ?_
          rintro e' w11 ⟨rfl, rfl⟩
          go_wp2
          go_ret
          exact ⟨rfl, hfin⟩
theorem objRecords_any (b z m : Int) (A : Option Addr) (dl c : Nat) (ip iq extra till : Int) (w : World) (hd : dl ≤ 4000 → ∃ d, d.length = dl ∧ KBs.R noB w [.slice A dl c] d) (hip : IsInt ip) (hiq : IsInt iq) (htl : IsInt till) :
    Calls Try.prog 6 #[.agg #[.int .i64 b, .int .i64 z, .int .i64 m], .slice A dl c, .agg #[.int .i64 ip, .int .i64 iq], .int .i64 extra, .int .i64 till] w fun e w' => e = .returned (.bool true) ∧ Below w.heap.size w w' := by
  by_cases hr : (⟨b, z, m⟩ : ShapeD).right
  · by_cases hl : (dl : Int) = b
    · by_cases hx : 0 ≤ extra ∧ extra ≤ 5
      · obtain ⟨s, hs, e⟩ := ShapeD.shp hr
        injection e with e1 e2 e3
        subst e1 e2 e3
        obtain ⟨ex, rfl⟩ : ∃ n : Nat, extra = (n : Int) := ⟨extra.toNat, by omega⟩
        have := hs.b2
        obtain ⟨d, hdl, hd⟩ := hd (by omega)
        exact objRecords_main s hs _ d ip iq ex till w hd (by omega) (by omega) hip hiq htl
      · exact objRecords_early b z m A dl c ip iq extra till w (by omega)
    · exact objRecords_early b z m A dl c ip iq extra till w (.inr (.inl hl))
  · exact objRecords_early b z m A dl c ip iq extra till w (.inl hr)
end Go.Proofs.Ytpdfcgkeclocoaa
