/- The walk of precode.Low. -/
import Derived.Test.YtpdfcgkeclocoaaTRow
import Derived.Test.YtpdfcgkeclocoaaRegion
import Derived.BigQuiet
import Derived.Deep.QuietTactic
import Derived.IntWalk
set_option linter.all false
namespace Go.Proofs.Ytpdfcgkeclocoaa
open Go.RowKit GF
attribute [local go_sem ↓] Go.wp_at_zero Go.wp_at_succ

def lowHit (s i c : Nat) : Bool := c % s == i || (c / s + c + 1) % s == i
def lowBase (n s i : Nat) (k : Nat) : Row := (List.range k).foldl (fun r c => if lowHit s i c then r.set c 1 else r) (List.replicate n 0)
theorem lowBase_length (n s i k : Nat) : (lowBase n s i k).length = n := by
  induction k with
  | zero => simp [lowBase]
  | succ k ih =>
    unfold lowBase at ih ⊢
    rw [List.range_succ, List.foldl_append]
    simp only [List.foldl_cons, List.foldl_nil]
    split
    · rw [List.length_set]; exact ih
    · exact ih
theorem lowBase_succ (n s i k : Nat) : lowBase n s i (k + 1) = if lowHit s i k then (lowBase n s i k).set k 1 else lowBase n s i k := by
  unfold lowBase; rw [List.range_succ, List.foldl_append]; rfl
def lowRow (k i : Nat) : Row := ((lowBase (Lk k) (Sk k) i k).set (k + i) 1).set (Wk k + i % 2) 1
theorem lowRow_length (k i : Nat) : (lowRow k i).length = Lk k := by simp [lowRow, lowBase_length]
def low (k : Nat) : List Row := (List.range (Sk k)).map (lowRow k)
theorem low_step (f : Nat → Row) (i : Nat) : (List.range (i + 1)).map f = (List.range i).map f ++ [f i] := by rw [List.range_succ, List.map_append]; rfl

theorem below_drewN {B : Nat} {a w : World} (h : Below B a w) (n : Nat) : Below B a (w.drewN n) := ⟨h.os, h.tape, h.output, h.size, h.block⟩
set_option maxRecDepth 100000 in
set_option maxHeartbeats 1000000 in
theorem low_any (k : Nat) (h1 : 1 ≤ k) (h2 : k ≤ 40) (w : World) :
    Calls Try.prog 223 #[.agg #[.int .i64 k, .int .i64 (Sk k), .int .i64 2]] w (RetOwn KBs 131 w (low k)) := by
  have hright := params_right k h1 h2
  have hL := params_L' k h2
  have hW := params_W' k h2
  have hlk : Lk k = k + Sk k + 2 := by unfold Lk Wk; rfl
  have hwk : Wk k = k + Sk k := by unfold Wk; rfl
  have hsk : 2 ≤ Sk k ∧ Sk k ≤ 7 := by unfold Sk; omega
  have hmk := run_make_row8 (Lk k) (by omega)
  have hrow : ∀ i, lowRow k i = ((lowBase (Lk k) (Sk k) i k).set (k + i) 1).set (Wk k + i % 2) 1 := fun i => rfl
  have hlow : low k = (List.range (Sk k)).map (lowRow k) := rfl
  have hlen := lowRow_length k
  generalize low k = lw at *
  generalize lowRow k = f at *
  generalize Lk k = L at *
  generalize Wk k = W at *
  generalize Sk k = S at *
  have HLW : Hid (L = k + S + 2 ∧ W = k + S) := ⟨hlk, hwk⟩
  have hL60 : L ≤ 60 := by omega
  clear hlk hwk
  go_enter Try.func223, Try.ntmps223
  go_wp2_with fail
  refine (hright _).mono ?_
  rintro e w1 ⟨rfl, hb1⟩
  have hx : Blk w1 w.heap.size 155 [.int .i64 k, .int .i64 S, .int .i64 2] := (Blk.new w _ _).below (hb1.mono (Nat.le_refl _))
  have hlt := hx.lt
  have hc0 := hx.cell 0
  have hc1 := hx.cell 1
  have hc2 := hx.cell 2
  simp only [List.getElem?_cons_zero, List.getElem?_cons_succ] at hc0 hc1 hc2
  have hbel0 : Below w.heap.size w w1 := ((Below.refl _ _).alloc (Nat.le_refl _) _).trans (hb1.mono (by simp))
  have hsz0 := hbel0.size
  have HR : Hid ((∀ i, f i = ((lowBase L S i k).set (k + i) 1).set (W + i % 2) 1) ∧ lw = (List.range S).map f ∧ ∀ i, (f i).length = L) := ⟨hrow, hlow, hlen⟩
  clear hrow hlow hlen hright hb1
  go_wp2_with fail
  go_loopw [3, 12] (fun o i wr => ∃ n : Nat, n ≤ S ∧ i = .int .i64 n ∧ Own KBs 131 w1.heap.size (old w1) wr o ((List.range n).map f) ∧ Below w1.heap.size w1 wr) (fun _ i _ => S - (intOf i).toNat)
  case atStart => exact ⟨0, Nat.zero_le _, rfl, Own.nil, Below.refl _ _⟩
  case round =>
    obtain ⟨n, hn, rfl, ho, hbel⟩ := hrel
    have hsz := hbel.size
    have hd0 := cell_below hbel _ _ hc0
    have hd1 := cell_below hbel _ _ hc1
    have hd2 := cell_below hbel _ _ hc2
    by_cases hlt' : n < S
    · go_wp2_with fail
      refine (hL _).mono ?_
      rintro e w2 ⟨rfl, hb2⟩
      have hsz2 := hb2.size
      have he0 := cell_below hb2 _ _ hd0
      have he1 := cell_below hb2 _ _ hd1
      have he2 := cell_below hb2 _ _ hd2
      have hlt2 : w.heap.size < w2.heap.size := by omega
      clear hd0 hd1 hd2
      go_wp2_with fail
      go_loopw [20] (fun c wi => ∃ q : Nat, q ≤ k ∧ c = .int .i64 q ∧ Blk wi w2.heap.size 5 ((lowBase L S n q).map encB) ∧ Below w2.heap.size w2 wi) (fun c _ => k - (intOf c).toNat)
      case atStart =>
        refine ⟨0, Nat.zero_le _, rfl, ?_, (Below.refl _ _).alloc (Nat.le_refl _) _⟩
        have := Blk.made w2 5 (.int .u8 0) L
        simpa [encB, lowBase] using this
      case round =>
        obtain ⟨q, hq, rfl, hb, hbi⟩ := hrel
        have hszi := hbi.size
        have hi0 := cell_below hbi _ _ he0
        have hi1 := cell_below hbi _ _ he1
        have hi2 := cell_below hbi _ _ he2
        have hblt := hb.lt
        by_cases hqk : q < k
        · have hbs := lowBase_succ L S n q
          have hit : lowHit S n q = (q % S == n || (q / S + q + 1) % S == n) := rfl
          obtain ⟨m, hm⟩ : ∃ m, m = q % S := ⟨_, rfl⟩
          obtain ⟨d, hd⟩ : ∃ d, d = q / S := ⟨_, rfl⟩
          obtain ⟨m2, hm2⟩ : ∃ m2, m2 = (d + q + 1) % S := ⟨_, rfl⟩
          have hd40 : d ≤ 40 := by rw [hd]; exact Nat.le_trans (Nat.div_le_self _ _) (by omega)
          rw [← hm, ← hd, ← hm2] at hit
          have hmS : m < S := by rw [hm]; exact Nat.mod_lt _ (by omega)
          have hmS2 : m2 < S := by rw [hm2]; exact Nat.mod_lt _ (by omega)
          have hrem1 : ((q : Int)).tmod (S : Int) = (m : Int) := by
            rw [Int.tmod_eq_emod_of_nonneg (by omega), hm, Int.natCast_emod]
          have hdiv1 : ((q : Int)).tdiv (S : Int) = (d : Int) := by
            rw [Int.tdiv_eq_ediv_of_nonneg (by omega), hd, Int.natCast_ediv]
          have hrem2 : ((d : Int) + (q : Int) + 1).tmod (S : Int) = (m2 : Int) := by
            rw [Int.tmod_eq_emod_of_nonneg (by omega), hm2, Int.natCast_emod]; simp
          clear hm hd hm2
          have hsum1 : IntKind.i64.wrap ((d : Int) + (q : Int)) = (d : Int) + (q : Int) := IntWalk.i64_in _ (by omega)
          have hsum2 : IntKind.i64.wrap ((d : Int) + (q : Int) + 1) = (d : Int) + (q : Int) + 1 := IntWalk.i64_in _ (by omega)
          have hS0 : ¬ ((S : Int) = 0) := by omega
          have hqb : q < (lowBase L S n q).length := by rw [lowBase_length]; have := HLW.out; omega
          have hfr := hb.frozen q
          have hset := hb.set_ q (encB 1)
          rw [map_set_encB] at hset
          have hout : ∃ u, wr.cell? ⟨w2.heap.size, q, none⟩ = some u := by
            rw [hb.cell, List.getElem?_eq_getElem (by rw [List.length_map]; exact hqb)]; exact ⟨_, rfl⟩
          obtain ⟨u, hout⟩ := hout
          have hqL : q < L := by rw [lowBase_length] at hqb; exact hqb
          have HB : Hid (lowBase L S n (q + 1) = if lowHit S n q then (lowBase L S n q).set q 1 else lowBase L S n q) := hbs
          have HI : Hid (lowHit S n q = (m == n || m2 == n)) := hit
          clear hbs hit
          by_cases hg : m = n
          · have hgi : ((m : Int) == (n : Int)) = true := by rw [hg]; simp
            go_wp2_with fail
            go_quiet (fail)
            clear hsum1 hsum2 hrem1 hrem2 hdiv1 
            go_wp2_with fail
            go_roundw
            case rel =>
              refine ⟨q + 1, by omega, by go_num, ?_, below_drewN (hbi.setCell (Nat.le_refl _) _) _⟩
              rw [HB.out, HI.out, if_pos (by simp [hg])]
              exact hset.drewN _
            case measure => simp [intOf]; omega
          · have hgi : ((m : Int) == (n : Int)) = false := by simp; omega
            have HG : Hid (¬ m = n) := hg
            clear hg
            by_cases hg2 : m2 = n
            · have hgi2 : ((m2 : Int) == (n : Int)) = true := by rw [hg2]; simp
              have HG2 : Hid (m2 = n) := hg2
              clear hg2
              go_wp2_with fail
              go_quiet (fail)
              clear hsum1 hsum2 hrem1 hrem2 hdiv1 
              go_wp2_with fail
              go_roundw
              case rel =>
                refine ⟨q + 1, by omega, by go_num, ?_, below_drewN (hbi.setCell (Nat.le_refl _) _) _⟩
                rw [HB.out, HI.out, if_pos (by simp [HG2.out])]
                exact hset.drewN _
              case measure => simp [intOf]; omega
            · have hgi2 : ((m2 : Int) == (n : Int)) = false := by simp; omega
              have HG2 : Hid (¬ m2 = n) := hg2
              clear hg2
              go_wp2_with fail
              go_quiet (fail)
              clear hsum1 hsum2 hrem1 hrem2 hdiv1 
              go_wp2_with fail
              go_roundw
              case rel =>
                refine ⟨q + 1, by omega, by go_num, ?_, below_drewN hbi _⟩
                rw [HB.out, HI.out, if_neg (by simp [HG.out, HG2.out])]
                exact hb.drewN _
              case measure => simp [intOf]; omega
        · have e : q = k := by omega
          subst e
          have hbl := lowBase_length L S n q
          have hqn : q + n < L := by have := HLW.out; omega
          have hqi : (q : Int) + (n : Int) < (L : Int) := by omega
          have hq0 : (0 : Int) ≤ (q : Int) + (n : Int) := by omega
          have hqt : ((q : Int) + (n : Int)).toNat = q + n := by omega
          have hfr := hb.frozen (q + n)
          have hset := hb.set_ (q + n) (encB 1)
          rw [map_set_encB] at hset
          have hout : ∃ u, wr.cell? ⟨w2.heap.size, q + n, none⟩ = some u := by
            rw [hb.cell, List.getElem?_eq_getElem (by rw [List.length_map, hbl]; exact hqn)]; exact ⟨_, rfl⟩
          obtain ⟨u, hout⟩ := hout
          clear hbl
          go_wp2_with fail
          have hbj : Below w2.heap.size w2 (wr.setCell ⟨w2.heap.size, q + n, none⟩ (.int .u8 1)) := hbi.setCell (Nat.le_refl _) _
          have hsj : Blk (wr.setCell ⟨w2.heap.size, q + n, none⟩ (.int .u8 1)) w2.heap.size 5 (((lowBase L S n q).set (q + n) 1).map encB) := hset
          generalize wr.setCell ⟨w2.heap.size, q + n, none⟩ (.int .u8 1) = wj at *
          have hj0 := cell_below hbj _ _ he0
          have hj1 := cell_below hbj _ _ he1
          have hj2 := cell_below hbj _ _ he2
          have hszj := hbj.size
          have hltj := hsj.lt
          clear hout hfr hset hb hbi hi0 hi1 hi2
          obtain ⟨m3, hm3⟩ : ∃ m3, m3 = n % 2 := ⟨_, rfl⟩
          have hrem3 : (n : Int).tmod 2 = (m3 : Int) := by rw [Int.tmod_eq_emod_of_nonneg (by omega), hm3]; omega
          have hrem3' : (n : Int) % 2 = (m3 : Int) := by omega
          have hm32 : m3 < 2 := by omega
          have HM3 : Hid (m3 = n % 2) := hm3
          clear hm3
          refine wp_region_plan [0, 1, 3, 4, 5, 6] [1, 5] [2, 7, 8, 9] [9] (fun w' => w'.cell? ⟨w.heap.size, 0, none⟩ = some (.int .i64 q) ∧ w'.cell? ⟨w.heap.size, 1, none⟩ = some (.int .i64 S) ∧ w'.cell? ⟨w.heap.size, 2, none⟩ = some (.int .i64 2)) (by kernel_rfl) (by kernel_rfl) (fun _ _ _ _ _ h => h) ⟨hj0, hj1, hj2⟩ ?_
          simp only [List.map_cons, List.map_nil, opAt, List.getD_cons_zero, List.getD_cons_succ, List.contains_cons, List.contains_nil, Nat.reduceBEq, Bool.or_false, Bool.or_true, Bool.or_self]
          apply front_cons
          · intro w9
            go_simp
            with_reducible rfl
          go_simp
          apply front_hot
          · intro w9 hS
            obtain ⟨hS0, hS1, hS2⟩ := hS
            go_simp
            with_reducible rfl
          go_simp
          apply front_cons
          · intro w9
            go_simp
            with_reducible rfl
          go_simp
          apply front_cons
          · intro w9
            go_simp
            with_reducible rfl
          go_simp
          apply front_hot
          · intro w9 hS
            obtain ⟨hS0, hS1, hS2⟩ := hS
            go_simp
            with_reducible rfl
          go_simp
          apply front_cons
          · intro w9
            go_simp
            with_reducible rfl
          go_simp
          refine front_nil ?_
          refine tail_cons (fun K hK => ?_)
          go_simp
          refine (hW _).mono ?_
          rintro e w4 ⟨rfl, hb4⟩
          have hbw4 : Below wj.heap.size wj w4 := (Below.refl _ _).drew.trans hb4
          have hk0 := cell_below hbw4 _ _ hj0
          have hk1 := cell_below hbw4 _ _ hj1
          have hk2 := cell_below hbw4 _ _ hj2
          have hs4 := hsj.below hbw4
          have hsz4 := hbw4.size
          have hW0 : (0 : Int) ≤ (W : Int) + (m3 : Int) := by omega
          have hW1 : (W : Int) + (m3 : Int) < (L : Int) := by have := HLW.out; omega
          have hW2 : ((W : Int) + (m3 : Int)).toNat = W + m3 := by omega
          have hfr := hs4.frozen (W + m3)
          have hset := hs4.set_ (W + m3) (encB 1)
          rw [map_set_encB] at hset
          have hout : ∃ u, w4.cell? ⟨w2.heap.size, W + m3, none⟩ = some u := by
            rw [hs4.cell, List.getElem?_eq_getElem (by rw [List.length_map, List.length_set, lowBase_length]; omega)]; exact ⟨_, rfl⟩
          obtain ⟨u, hout⟩ := hout
          have hWL : W + m3 < L := by omega
          have hWw : IntKind.i64.wrap ((W : Int) + (m3 : Int)) = (W : Int) + (m3 : Int) := IntWalk.i64_in _ (by omega)
          refine hK _ _ (fun _ => ⟨hk0, hk1, hk2⟩) ?_
          clear hK K
          go_simp
          refine tail_cons (fun K hK => ?_)
          go_simp
          refine hK _ _ (fun h => h) ?_
          clear hK K
          go_simp
          refine tail_cons (fun K hK => ?_)
          go_simp
          refine hK _ _ (fun h => h) ?_
          clear hK K
          go_simp
          refine tail_late (fun K hK => ?_)
          go_simp
          refine hK _ _ ?_
          clear hK K
          go_simp
          refine tail_nil ?_
          have hbw2 : Below w2.heap.size w2 (w4.setCell ⟨w2.heap.size, W + m3, none⟩ (.int .u8 1)) := (hbj.trans (hbw4.mono hszj)).setCell (Nat.le_refl _) _
          have hs5 : Blk (w4.setCell ⟨w2.heap.size, W + m3, none⟩ (.int .u8 1)) w2.heap.size 5 ((((lowBase L S n q).set (q + n) 1).set (W + m3) 1).map encB) := hset
          clear hset hout hfr hWw hW0 hW1 hW2 hrem3 hrem3' hk0 hk1 hk2 hj0 hj1 hj2
          generalize w4.setCell ⟨w2.heap.size, W + m3, none⟩ (.int .u8 1) = w5 at *
          have hbo5 := below_add hb2 hbw2 hb2.size
          have hsz5 := hbo5.size
          have hsz52 := hbw2.size
          have hfn : f n = (((lowBase L S n q).set (q + n) 1).set (W + m3) 1) := by rw [HR.out.1, HM3.out]
          have hfl := HR.out.2.2 n
          rw [← hfn] at hs5
          have hob : ∀ g, u3.ownBlock = some g → w1.heap.size ≤ g ∧ g < w2.heap.size := fun g hg => ⟨(ho.block hg).1, Nat.lt_of_lt_of_le (ho.block hg).2 hb2.size⟩
          have hrv := KBs.of_blk (M := fun g => old w1 g ∨ u3.ownBlock = some g) hs5 (by
            rintro (h | h)
            · have : w2.heap.size < w1.heap.size := h; omega
            · have := (hob _ h).2; omega) (by omega)
          rw [hfl] at hrv
          have hown := (ho.below hbo5).below (below_one w5 (.cells #[.slice (some ⟨w2.heap.size, 0, none⟩) L L] 131))
          have hnew := KSl.of_blk1 (bytes := 24) (K := KBs) (M := fun g => old w1 g ∨ u3.ownBlock = some g) (l := [f n]) (Blk.new w5 131 [.slice (some ⟨w2.heap.size, 0, none⟩) L L]) (by
            rintro (h | h)
            · have : w5.heap.size < w1.heap.size := h; omega
            · have := (hob _ h).2; omega) rfl (by simp) (by simp) (fun i h1 h2 => by
            obtain rfl : i = 0 := by simp at h1; omega
            exact Kd.below hrv (below_one w5 _))
          have HFL : Hid (((List.range n).map f).length = n) := show ((List.range n).map f).length = n by simp
          clear hfl hfn hrv hs5 ho
          go_wp2_with (at_builtin; refine wpList_app elemRow rfl _ _ rfl rfl rfl hown hnew ?c1 ?c2 ?c3 ?c4 ?_)
          case c1 => rw [HFL.out]; simp; omega
          case c2 => rw [HFL.out]; simp; omega
          case c3 => simp; omega
          case c4 => intro g hg; have : g < w1.heap.size := hg; simp; omega
          intro v' w6 hown2 hgrow hob2
          rw [← low_step f n] at hown2
          clear hnew hown
          go_wp2
          go_roundw
          case rel =>
            refine ⟨n + 1, by omega, by go_num, hown2, ?_⟩
            exact ((hbel.trans (hbo5.mono hsz)).alloc (by omega) _).grown hgrow (by simp; omega) (fun g hg => (hob g hg).1)
          case measure => simp [intOf]; omega
    · have e : n = S := by omega
      subst e
      go_wp2
      go_ret
      refine ⟨_, rfl, ?_, hbel0.trans (hbel.mono hsz0)⟩
      rw [HR.out.2.1]
      exact (ho.from hsz0).anti (fun g _ (hg : g < w.heap.size) => by show g < w1.heap.size; omega)
end Go.Proofs.Ytpdfcgkeclocoaa
