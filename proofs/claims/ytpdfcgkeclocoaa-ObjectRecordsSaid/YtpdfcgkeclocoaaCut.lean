/- The walk of split.Cut. -/
import Derived.Test.YtpdfcgkeclocoaaSplit
import Derived.Test.YtpdfcgkeclocoaaDrop
set_option linter.all false
namespace Go.Proofs.Ytpdfcgkeclocoaa
open Go.RowKit GF
attribute [local go_sem ↓] Go.wp_at_zero Go.wp_at_succ

/-- The first n rows of z bytes of some bytes, and what is left. -/
def chop (z : Nat) : Nat → List UInt8 → List Row × List UInt8
  | 0, d => ([], d)
  | n + 1, d => let r := chop z n d; (r.1 ++ [sumRows z [r.2.take z]], r.2.drop z)
/-- The rows of the blocks up to i. -/
def cutGo (s : Shp) : Nat → List UInt8 → List (List Row) × List UInt8
  | 0, d => ([], d)
  | i + 1, d => let r := cutGo s i d; let q := chop s.z (kN s i) r.2; (r.1 ++ [q.1], q.2)
def cutS (s : Shp) (d : List UInt8) : List (List Row) := (cutGo s (blkN s) d).1
theorem chop_length (z n : Nat) (d : List UInt8) : (chop z n d).1.length = n := by
  induction n with
  | zero => rfl
  | succ n ih => simp [chop, ih]
theorem chop_row (z n : Nat) (d : List UInt8) : ∀ r ∈ (chop z n d).1, r.length = z := by
  induction n with
  | zero => simp [chop]
  | succ n ih =>
    intro r hr
    simp only [chop, List.mem_append, List.mem_singleton] at hr
    rcases hr with hr | rfl
    · exact ih r hr
    · exact sumRows_length _ _
theorem cutGo_length (s : Shp) (i : Nat) (d : List UInt8) : (cutGo s i d).1.length = i := by
  induction i with
  | zero => rfl
  | succ i ih => simp [cutGo, ih]
theorem chop_left (z n : Nat) (d : List UInt8) : (chop z n d).2.length ≤ d.length := by
  induction n with
  | zero => exact Nat.le_refl _
  | succ n ih => simp [chop]; omega
theorem cutGo_left (s : Shp) (i : Nat) (d : List UInt8) : (cutGo s i d).2.length ≤ d.length := by
  induction i with
  | zero => exact Nat.le_refl _
  | succ i ih => simp only [cutGo]; exact Nat.le_trans (chop_left _ _ _) ih
abbrev KRowss : Kd (List (List Row)) := KSl 24 KRows
theorem elemRows : Elem Try.prog 129 134 KRows.size 24 := Elem.mk' (z := .slice none 0 0) Try.underlying129 (by kernel_rfl) (by decide) rfl

/-- A slice's beginning, and what is behind. -/
theorem KBs.take {M : Blocks} {w : World} {A : Option Addr} {c : Nat} {d : List UInt8} (h : KBs.R M w [.slice A d.length c] d) (n : Nat) (hn : n ≤ d.length) : KBs.R M w [.slice A n c] (d.take n) := by
  obtain ⟨A', c', e, h1, h2, h3, h4, h5⟩ := KSl.val h
  injection e with e1 _ e2
  subst e1; subst e2
  have hl : (d.take n).length = n := by rw [List.length_take]; omega
  have := KSl.mk (bytes := 1) (K := KByte) (M := M) (w := w) (A := A) (c := c) (l := d.take n) (by omega) h2 (by omega) h4 (fun hp => by
    obtain ⟨ad, e, g1, g2, g3⟩ := h5 (by omega)
    refine ⟨ad, e, g1, g2, fun j hj => ?_⟩
    obtain ⟨ecs, q1, q2⟩ := g3 j (by omega)
    exact ⟨ecs, by rw [List.getElem_take]; exact q1, q2⟩)
  rwa [hl] at this
theorem KBs.drop {M : Blocks} {w : World} {A : Option Addr} {c : Nat} {d : List UInt8} (h : KBs.R M w [.slice A d.length c] d) (n : Nat) (hn : n ≤ d.length) (A2 : Option Addr) (hA : n < d.length → ∀ ad, A = some ad → A2 = some (ad.add n)) (hA0 : A = none → A2 = none) (hA1 : ∀ ad, A = some ad → ∃ ad2, A2 = some ad2) : KBs.R M w [.slice A2 (d.length - n) (c - n)] (d.drop n) := by
  obtain ⟨A', c', e, h1, h2, h3, h4, h5⟩ := KSl.val h
  injection e with e1 _ e2
  subst e1; subst e2
  have hl : (d.drop n).length = d.length - n := by rw [List.length_drop]
  have := KSl.mk (bytes := 1) (K := KByte) (M := M) (w := w) (A := A2) (c := c - n) (l := d.drop n) (by omega) (by omega) (by omega) (fun e => by
    cases A with
    | none => have := h4 rfl; omega
    | some ad => obtain ⟨_, h⟩ := hA1 ad rfl; rw [e] at h; cases h) (fun hp => by
    obtain ⟨ad, e, g1, g2, g3⟩ := h5 (by omega)
    refine ⟨ad.add n, hA (by omega) ad e, by rw [add_block]; exact g1, by rw [add_block]; exact g2, fun j hj => ?_⟩
    obtain ⟨ecs, q1, q2⟩ := g3 (n + j) (by omega)
    refine ⟨ecs, by rw [List.getElem_drop]; exact q1, ?_⟩
    have e2 : (ad.add n).add (j * KByte.size) = ad.add ((n + j) * KByte.size) := by rw [add_of_add]; congr 1; show n + j * 1 = (n + j) * 1; omega
    rw [e2]; exact q2)
  rwa [hl] at this

set_option maxRecDepth 100000 in
set_option maxHeartbeats 2000000 in
theorem cut_yes (s : Shp) (h : s.Ok) (v : Value) (d : List UInt8) (w : World) (hd : KBs.R noB w [v] d) (hl : d.length = s.b) :
    Calls Try.prog 80 #[.agg #[.int .i64 s.b, .int .i64 s.z, .int .i64 s.m], v] w (RetE KRowss (.slice none 0 0) w (.ok (cutS s d))) := by
  obtain ⟨A, cp, rfl, hlc, hcc, _, hA0, hA1⟩ := KSl.val hd
  have hb1 := h.b1
  obtain ⟨ad, rfl, _⟩ := hA1 (by omega)
  have hr := right_yes _ _ _ (Shp.right h)
  have hbl := blocks_yes s h
  have hk := k_yes s h
  have hkn := kN_le h
  have hbn := blkN_le h
  have hsn := symN_le h
  have hfit := fun (r : Row) (W : World) (v : Value) (hv : KBs.R noB W [v] r) => fit_any s.z (by have := h.z2; omega) v r W hv
  have hz1 := h.z1
  have hz2 := h.z2
  have hcs : cutS s d = (cutGo s (blkN s) d).1 := rfl
  have HL : Hid (d.length = s.b) := hl
  have hne : ((d.length : Int) != (s.b : Int)) = false := by rw [bne_eq_false_iff_eq]; omega
  generalize cutS s d = out at *
  have HO : Hid (out = (cutGo s (blkN s) d).1) := hcs
  have hBn : blkN s ≤ 4000 := by omega
  clear hcs hl hA0 hA1 hbn hsn
  generalize blkN s = N at *
  go_enter Try.func80, Try.ntmps80
  go_wp2_with fail
  refine (hr _).mono ?_
  rintro e w1 ⟨rfl, hb⟩
  have hx : Blk w1 w.heap.size 32 [.int .i64 s.b, .int .i64 s.z, .int .i64 s.m] := (Blk.new w _ _).below (hb.mono (Nat.le_refl _))
  have hb01 : Below w.heap.size w w1 := (below_one w _).trans (hb.mono (by simp))
  have hc0 := hx.cell 0
  have hc1 := hx.cell 1
  have hc2 := hx.cell 2
  simp only [List.getElem?_cons_zero, List.getElem?_cons_succ] at hc0 hc1 hc2
  have hlt := hx.lt
  clear hr
  go_wp2_with fail
  refine (hbl _).mono ?_
  rintro e w2 ⟨rfl, hb2⟩
  have hx2 := hx.below hb2
  have hb02 : Below w.heap.size w w2 := hb01.trans (hb2.mono hb01.size)
  have hlt2 := hx2.lt
  clear hbl hx hc0 hc1 hc2 hlt hb hb01 hb2
  go_wp2_with fail
  go_loopw [1, 6, 22] (fun dv o i wr => ∃ (n c : Nat) (A : Addr), n ≤ N ∧ i = .int .i64 n ∧ dv = .slice (some A) (cutGo s n d).2.length c ∧ KBs.R noB w [dv] (cutGo s n d).2 ∧ Own KRows 134 w2.heap.size (old w2) wr o (cutGo s n d).1 ∧ Below w2.heap.size w2 wr) (fun _ _ i _ => N - (intOf i).toNat)
  case atStart => exact ⟨0, cp, ad, Nat.zero_le _, rfl, rfl, hd, Own.nil, Below.refl _ _⟩
  case round =>
    obtain ⟨n, c, A, hn, rfl, rfl, hdr, ho, hbel⟩ := hrel
    have hsz := hbel.size
    have hsz02 := hb02.size
    have hxr := hx2.below hbel
    have hc0 := hxr.cell 0
    have hc1 := hxr.cell 1
    have hc2 := hxr.cell 2
    simp only [List.getElem?_cons_zero, List.getElem?_cons_succ] at hc0 hc1 hc2
    have hlt := hxr.lt
    by_cases hlt' : n < N
    · have hgl := cutGo_length s n d
      have hglr := cutGo_left s n d
      have hst : cutGo s (n + 1) d = ((cutGo s n d).1 ++ [(chop s.z (kN s n) (cutGo s n d).2).1], (chop s.z (kN s n) (cutGo s n d).2).2) := rfl
      have HS : Hid (cutGo s (n + 1) d = ((cutGo s n d).1 ++ [(chop s.z (kN s n) (cutGo s n d).2).1], (chop s.z (kN s n) (cutGo s n d).2).2)) := hst
      have hkc := hk n hlt' wr
      have hkb := hkn n
      generalize kN s n = kk at *
      generalize hg : cutGo s n d = g0 at *
      have HG : Hid (g0.1.length = n) := hgl
      clear hst hgl hk hkn hg
      obtain ⟨o0, r0⟩ := g0
      simp only at hdr ho HS HG hglr
      obtain ⟨wo, rfl⟩ : ∃ wo : World, wo = wr := ⟨_, rfl⟩
      go_wp2_with fail
      refine hkc.mono ?_
      rintro e w3 ⟨rfl, hb3⟩
      have hb23 : Below w2.heap.size w2 w3 := hbel.trans (hb3.mono hsz)
      have hb03 : Below w.heap.size w w3 := hb02.trans (hb23.mono hsz02)
      have hsz3 := hb3.size
      have hx3 := hxr.below hb3
      have ho3 := ho.below hb3
      clear hkc hc0 hc1 hc2 hxr ho
      go_wp2_with fail
      go_loopw [1, 8, 9, 28] (fun dv l _ i wi => ∃ (m c : Nat) (A : Addr), m ≤ kk ∧ i = .int .i64 m ∧ dv = .slice (some A) (chop s.z m r0).2.length c ∧ KBs.R noB w [dv] (chop s.z m r0).2 ∧ Own KBs 131 w3.heap.size (old w3) wi l (chop s.z m r0).1 ∧ Below w3.heap.size w3 wi) (fun _ _ _ i _ => kk - (intOf i).toNat)
      case atStart => exact ⟨0, c, A, Nat.zero_le _, rfl, rfl, hdr, Own.nil, Below.refl _ _⟩
      case round =>
        obtain ⟨m, c', A', hm, rfl, rfl, hdi, hl, hbi⟩ := hrel
        have hszi := hbi.size
        have hxi := hx3.below hbi
        have hd0 := hxi.cell 0
        have hd1 := hxi.cell 1
        have hd2 := hxi.cell 2
        simp only [List.getElem?_cons_zero, List.getElem?_cons_succ] at hd0 hd1 hd2
        have hlti := hxi.lt
        by_cases hmk : m < kk
        · have hcl := chop_length s.z m r0
          have hclf := chop_left s.z m r0
          have hcst : chop s.z (m + 1) r0 = ((chop s.z m r0).1 ++ [sumRows s.z [(chop s.z m r0).2.take s.z]], (chop s.z m r0).2.drop s.z) := rfl
          have HCS : Hid (chop s.z (m + 1) r0 = ((chop s.z m r0).1 ++ [sumRows s.z [(chop s.z m r0).2.take s.z]], (chop s.z m r0).2.drop s.z)) := hcst
          generalize chop s.z m r0 = q0 at *
          have HQ : Hid (q0.1.length = m) := hcl
          clear hcst hcl
          obtain ⟨l0, t0⟩ := q0
          simp only at hdi hl HCS HQ hclf
          obtain ⟨_, _, ee, hlc', hcc', _⟩ := KSl.val hdi
          simp only [Value.slice.injEq, true_and] at ee
          obtain ⟨rfl, rfl⟩ := ee
          obtain ⟨y, hy⟩ : ∃ y, y = min s.z t0.length := ⟨_, rfl⟩
          have hyl : y ≤ t0.length := by omega
          have hyc : y ≤ c' := by omega
          have hyI : (y : Int) ≤ (c' : Int) := by omega
          have e4 : (if t0.length < s.z then (t0.length : Int) else (s.z : Int)) = (y : Int) := by split <;> omega
          have e5 : (if s.z < t0.length then (s.z : Int) else (t0.length : Int)) = (y : Int) := by split <;> omega
          have hyt : t0.take s.z = t0.take y := by rw [hy]; rw [List.take_eq_take_iff]; omega
          have hyd : t0.drop s.z = t0.drop y := by
            rw [hy]
            by_cases h : s.z ≤ t0.length
            · rw [Nat.min_eq_left h]
            · rw [Nat.min_eq_right (by omega), List.drop_of_length_le (by omega), List.drop_of_length_le (by omega)]
          rw [hyt, hyd] at HCS
          clear hyt hyd hy
          have hbwi : Below w.heap.size w wr := hb03.trans (hbi.mono hb03.size)
          have hft := fun W (hW : Below w.heap.size w W) => hfit (t0.take y) W (.slice (some A') y c') (by
            have h1 := KBs.take hdi y hyl
            exact Kd.below h1 hW)
          have hdrop := fun A2 h1 h2 h3 => KBs.drop hdi y hyl A2 h1 h2 h3
          have HDL : Hid ((t0.drop y).length = t0.length - y) := List.length_drop
          generalize t0.drop y = t1 at *
          generalize hsm : sumRows s.z [t0.take y] = rr at *
          clear hfit hsm hdi
          go_upto_region 13 with fail
          refine wp_region_plan [0, 1, 2, 3, 4, 5] [2] [6, 7, 8, 9] [9] (fun w' => w'.cell? ⟨w.heap.size, 1, none⟩ = some (.int .i64 s.z)) (by kernel_rfl) (by kernel_rfl) (fun _ _ _ _ _ h => h) hd1 ?_
          simp only [List.map_cons, List.map_nil, opAt, List.getD_cons_zero, List.getD_cons_succ, List.contains_cons, List.contains_nil, Nat.reduceBEq, Bool.or_false, Bool.or_true]
          iterate 2
            apply front_cons
            · intro w9
              go_simp
              with_reducible rfl
            go_simp
          apply front_hot
          · intro w9 hS
            go_simp
            with_reducible rfl
          go_simp
          iterate 3
            apply front_cons
            · intro w9
              go_simp
              with_reducible rfl
            go_simp
          refine front_nil ?_
          refine tail_cons (fun K hK => ?_)
          go_simp
          refine (hft _ hbwi.drew).mono ?_
          rintro e w4 ⟨v4, rfl, hv4, hb4⟩
          have hb34 : Below wr.heap.size wr w4 := (Below.refl _ _).drew.trans hb4
          have hf1 := cell_below hb34 _ _ hd1
          have hv4' : KBs.R (old wr) w4 [v4] rr := hv4
          have hlif := Own.lift hl (fun g (hg : g < w3.heap.size) => by omega) hv4'
          have hl4 := hl.below hb34
          have hsz4 := hb34.size
          obtain ⟨A4, c4, rfl, _⟩ := KSl.val hv4
          refine hK _ _ (fun _ => hf1) ?_
          clear hK K
          go_simp
          refine tail_cons (fun K hK => ?_)
          go_simp
          have hf1' := cell_below (below_one w4 (.cells #[.slice A4 rr.length c4] 131)) _ _ hf1
          refine hK _ _ (fun _ => hf1') ?_
          clear hK K
          go_simp
          refine tail_list rfl (fun K hK => ?_)
          refine wpList_app1 elemRow rfl _ _ rfl rfl rfl hl4 hlif ?c1 ?c2 ?c3 ?c4 ?_
          case c1 => rw [HQ.out]; omega
          case c2 => omega
          case c3 => omega
          case c4 => exact fun g (h : g < w3.heap.size) => by omega
          intro v' w6 hown2 hb6 hob2
          have hf6 : w6.cell? ⟨w.heap.size, 1, none⟩ = some (.int .i64 s.z) := (hb6.cell (p := ⟨w.heap.size, 1, none⟩) (by show w.heap.size < w3.heap.size; omega)).trans (cell_below hb34 _ _ hd1)
          clear hl4 hlif hl hv4 hv4' hf1 hf1'
          go_simp
          refine hK _ _ (fun _ => hf6) ?_
          clear hK K
          go_simp
          refine tail_late (fun K hK => ?_)
          go_simp
          refine hK _ _ ?_
          clear hK K
          go_simp
          refine tail_nil ?_
          have hb36 : Below w3.heap.size w3 w6 := (hbi.trans (hb34.mono hszi)).trans hb6
          by_cases hyc0 : c' = y
          · subst hyc0
            have hdd := hdrop (some A') (fun h => by omega) (fun h => by cases h) (fun _ _ => ⟨_, rfl⟩)
            rw [Nat.sub_self] at hdd
            clear hdrop
            have hz0 : t0.length - c' = 0 := by omega
            have ht1 : t1.length = 0 := by rw [HDL.out]; exact hz0
            rw [hz0] at hdd
            have HT : Hid (t1.length = 0) := ht1
            clear hz0 ht1
            go_wp2_with fail
            go_roundw
            case rel =>
              exact ⟨m + 1, 0, A', by omega, by go_num, by rw [HCS.out]; show _ = Value.slice (some A') t1.length 0; rw [HT.out], by rw [HCS.out]; exact hdd, by rw [HCS.out]; exact hown2, hb36⟩
            case measure => simp [intOf]; omega
          · have hdd := hdrop (some (A'.add y)) (fun _ ad h => by rw [Option.some.inj h]) (fun h => by cases h) (fun _ _ => ⟨_, rfl⟩)
            clear hdrop
            go_wp2_with fail
            go_roundw
            case rel =>
              exact ⟨m + 1, c' - y, A'.add y, by omega, by go_num, by rw [HCS.out]; show _ = Value.slice (some (A'.add y)) t1.length (c' - y); rw [HDL.out], by rw [HCS.out]; exact hdd, by rw [HCS.out]; exact hown2, hb36⟩
            case measure => simp [intOf]; omega
        · have e : m = kk := by omega
          subst e
          have hcl := chop_length s.z m r0
          generalize chop s.z m r0 = q0 at *
          obtain ⟨l0, t0⟩ := q0
          simp only at hdi hl HS hcl
          have HQ : Hid (l0.length = m) := hcl
          have hor := ho3.below hbi
          have hob := fun g (hg : u6.ownBlock = some g) => ho3.block hg
          have hy := hl.sl (bytes := 24) (M' := fun g => old w2 g ∨ u6.ownBlock = some g) (by rw [hcl]; omega) (fun g _ hg => by
            show g < w3.heap.size
            rcases hg with hg | hg
            · have : g < w2.heap.size := hg; omega
            · exact (hob g hg).2) (fun g hg hm => by
            have h1 := (hl.block hg).1
            rcases hm with hm | hm
            · have : g < w2.heap.size := hm; omega
            · have := (hob g hm).2; omega)
          obtain ⟨A8, c8, rfl, _⟩ := KSl.val hy
          clear hl ho3 hcl
          go_wp2_with (at_builtin; refine wpList_app1 elemRows rfl _ _ rfl rfl rfl hor hy ?c1 ?c2 ?c3 ?c4 ?_)
          case c1 => rw [HG.out]; omega
          case c2 => omega
          case c3 => omega
          case c4 => exact fun g (h : g < w2.heap.size) => by omega
          intro v' w6 hown2 hb6 hob2
          have hb26 := (hb23.trans (hbi.mono (by omega))).trans hb6
          clear hor hy
          go_wp2
          go_roundw
          case rel => exact ⟨n + 1, c', A', by omega, by go_num, by rw [HS.out], by rw [HS.out]; exact hdi, by rw [HS.out]; exact hown2, hb26⟩
          case measure => simp [intOf]; omega
    · have e : n = N := by omega
      subst e
      rw [← HO.out] at ho
      have hol : out.length ≤ 4000 := by rw [HO.out, cutGo_length]; exact hBn
      have hbw := hb02.trans (hbel.mono hsz02)
      have hres := ho.sl (bytes := 24) (M' := old w) (by omega) (fun g _ (hg : g < w.heap.size) => by show g < w2.heap.size; omega) (fun g hg (hm : g < w.heap.size) => by have := (ho.block hg).1; omega)
      obtain ⟨A8, c8, rfl, _⟩ := KSl.val hres
      clear ho
      go_wp2
      go_ret2
      exact RetE.mk_ hbw hres

set_option maxHeartbeats 400000 in
theorem cut_no (b z m : Int) (h : ¬ (⟨b, z, m⟩ : ShapeD).right) (v : Value) (d : List UInt8) (w : World) (hd : KBs.R noB w [v] d) :
    Calls Try.prog 80 #[.agg #[.int .i64 b, .int .i64 z, .int .i64 m], v] w (RetE KRowss (.slice none 0 0) w (.error 1)) := by
  obtain ⟨A, cp, rfl, _⟩ := KSl.val hd
  have hr := right_no b z m h
  clear h
  go_enter Try.func80, Try.ntmps80
  go_wp2_with fail
  refine (hr _).mono ?_
  rintro e w1 ⟨rfl, hb⟩
  have hb01 : Below w.heap.size w w1 := (below_one w _).trans (hb.mono (by simp))
  go_wp2
  go_ret2
  exact RetE.err_ hb01
set_option maxHeartbeats 400000 in
theorem cut_size (b z m : Int) (h : (⟨b, z, m⟩ : ShapeD).right) (v : Value) (d : List UInt8) (w : World) (hd : KBs.R noB w [v] d) (hl : (d.length : Int) ≠ b) :
    Calls Try.prog 80 #[.agg #[.int .i64 b, .int .i64 z, .int .i64 m], v] w (RetE KRowss (.slice none 0 0) w (.error 10)) := by
  obtain ⟨A, cp, rfl, _⟩ := KSl.val hd
  have hr := right_yes b z m h
  have hne : ((d.length : Int) != b) = true := by rw [bne_iff_ne]; exact hl
  clear h hl
  go_enter Try.func80, Try.ntmps80
  go_wp2_with fail
  refine (hr _).mono ?_
  rintro e w1 ⟨rfl, hb⟩
  have hx : Blk w1 w.heap.size 32 [.int .i64 b, .int .i64 z, .int .i64 m] := (Blk.new w _ _).below (hb.mono (Nat.le_refl _))
  have hb01 : Below w.heap.size w w1 := (below_one w _).trans (hb.mono (by simp))
  have hc0 := hx.cell 0
  simp only [List.getElem?_cons_zero] at hc0
  have hlt := hx.lt
  go_wp2
  go_ret2
  exact RetE.err_ hb01
end Go.Proofs.Ytpdfcgkeclocoaa
