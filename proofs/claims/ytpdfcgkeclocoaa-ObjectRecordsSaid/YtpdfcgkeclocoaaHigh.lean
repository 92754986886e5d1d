/- The walk of precode.High. -/
import Derived.Test.YtpdfcgkeclocoaaLow
set_option linter.all false
namespace Go.Proofs.Ytpdfcgkeclocoaa
open Go.RowKit GF
attribute [local go_sem ↓] Go.wp_at_zero Go.wp_at_succ

def highAt (h c : Nat) : UInt8 := pow2 (rand (UInt32.ofNat c) (UInt32.ofNat (h + 7)) 255)
def highBase (n h : Nat) (q : Nat) : Row := (List.range q).foldl (fun r c => r.set c (highAt h c)) (List.replicate n 0)
theorem highBase_succ (n h q : Nat) : highBase n h (q + 1) = (highBase n h q).set q (highAt h q) := by
  unfold highBase; rw [List.range_succ, List.foldl_append]; rfl
theorem highBase_length (n h q : Nat) : (highBase n h q).length = n := by
  induction q with
  | zero => simp [highBase]
  | succ q ih => rw [highBase_succ, List.length_set, ih]
def highRow (k h : Nat) : Row := (highBase (Lk k) h (Wk k)).set (Wk k + h) 1
theorem highRow_length (k h : Nat) : (highRow k h).length = Lk k := by simp [highRow, highBase_length]
def high (k : Nat) : List Row := (List.range 2).map (highRow k)

theorem rand_nat (a b m : Nat) (ha : a < 4294967296) (hb : b < 4294967296) (hm : (m : Int) ≤ 9223372036854775807) (w : World) :
    Calls Try.prog 90 #[.int .u32 (a : Nat), .int .u32 (b : Nat), .int .i64 m] w fun e w' => e = .returned (.int .i64 (rand (UInt32.ofNat a) (UInt32.ofNat b) m)) ∧ w = w' := by
  have h := rand_any (UInt32.ofNat a) (UInt32.ofNat b) m hm w
  rwa [UInt32.toNat_ofNat_of_lt' ha, UInt32.toNat_ofNat_of_lt' hb] at h

set_option maxRecDepth 100000 in
set_option maxHeartbeats 1000000 in
theorem high_any (k : Nat) (h1 : 1 ≤ k) (h2 : k ≤ 40) (w : World) :
    Calls Try.prog 224 #[.agg #[.int .i64 k, .int .i64 (Sk k), .int .i64 2]] w (RetOwn KBs 131 w (high k)) := by
  have hright := params_right k h1 h2
  have hL := params_L' k h2
  have hW := params_W' k h2
  have hlk : Lk k = Wk k + 2 := by unfold Lk; rfl
  have hwk : Wk k ≤ 50 := by unfold Wk Sk; omega
  have hmk := run_make_row8 (Lk k) (by omega)
  have hrow : ∀ i, highRow k i = ((highBase (Lk k) i (Wk k)).set (Wk k + i) 1) := fun i => rfl
  have hlow : high k = (List.range 2).map (highRow k) := rfl
  have hlen := highRow_length k
  generalize high k = lw at *
  generalize highRow k = f at *
  generalize Lk k = L at *
  generalize Wk k = W at *
  generalize Sk k = S at *
  have HLW : Hid (L = W + 2) := hlk
  have hL60 : L ≤ 60 := by omega
  clear hlk
  go_enter Try.func224, Try.ntmps224
  go_wp2_with fail
  refine (hright _).mono ?_
  rintro e w1 ⟨rfl, hb1⟩
  have hx : Blk w1 w.heap.size 155 [.int .i64 k, .int .i64 S, .int .i64 2] := (Blk.new w _ _).below (hb1.mono (Nat.le_refl _))
  have hlt := hx.lt
  have hc0 := hx.cell 0
  have hc1 := hx.cell 1
  have hc2 := hx.cell 2
  simp only [List.getElem?_cons_zero, List.getElem?_cons_succ] at hc0 hc1 hc2
  have hbel0 : Below w.heap.size w w1 := ((Below.refl _ _).alloc (Nat.le_refl _) _).trans (hb1.mono (by simp))
  have hsz0 := hbel0.size
  have HR : Hid ((∀ i, f i = ((highBase L i W).set (W + i) 1)) ∧ lw = (List.range 2).map f ∧ ∀ i, (f i).length = L) := ⟨hrow, hlow, hlen⟩
  clear hrow hlow hlen hright hb1
  go_wp2_with fail
  go_loopw [3, 12] (fun o i wr => ∃ n : Nat, n ≤ 2 ∧ i = .int .i64 n ∧ Own KBs 131 w1.heap.size (old w1) wr o ((List.range n).map f) ∧ Below w1.heap.size w1 wr) (fun _ i _ => 2 - (intOf i).toNat)
  case atStart => exact ⟨0, Nat.zero_le _, rfl, Own.nil, Below.refl _ _⟩
  case round =>
    obtain ⟨n, hn, rfl, ho, hbel⟩ := hrel
    have hsz := hbel.size
    have hd0 := cell_below hbel _ _ hc0
    have hd1 := cell_below hbel _ _ hc1
    have hd2 := cell_below hbel _ _ hc2
    by_cases hlt' : n < 2
    · go_wp2_with fail
      refine (hL _).mono ?_
      rintro e w2 ⟨rfl, hb2⟩
      have hsz2 := hb2.size
      have he0 := cell_below hb2 _ _ hd0
      have he1 := cell_below hb2 _ _ hd1
      have he2 := cell_below hb2 _ _ hd2
      have hlt2 : w.heap.size < w2.heap.size := by omega
      clear hd0 hd1 hd2
      have hbm : Blk (w2.alloc (.cells (madeCells #[.int .u8 0] L) 5)) w2.heap.size 5 ((highBase L n 0).map encB) := by
        have := Blk.made w2 5 (.int .u8 0) L
        simpa [encB, highBase] using this
      go_wp2_with fail
      refine (hW _).mono ?_
      rintro e w3 ⟨rfl, hb3⟩
      have hbm3 := hbm.below hb3
      have hb23 : Below w2.heap.size w2 w3 := ((Below.refl _ _).alloc (Nat.le_refl _) _).trans (hb3.mono (by simp))
      have hsz3 := hb23.size
      have hlt3 := hbm3.lt
      clear hbm hb3 hmk
      go_wp2_with fail
      go_loopw [20] (fun c wi => ∃ q : Nat, q ≤ W ∧ c = .int .i64 q ∧ Blk wi w2.heap.size 5 ((highBase L n q).map encB) ∧ Below w2.heap.size w2 wi) (fun c _ => W - (intOf c).toNat)
      case atStart => exact ⟨0, Nat.zero_le _, rfl, hbm3, hb23⟩
      case round =>
        obtain ⟨q, hq, rfl, hb, hbi⟩ := hrel
        have hszi := hbi.size
        have hi0 := cell_below hbi _ _ he0
        have hi1 := cell_below hbi _ _ he1
        have hi2 := cell_below hbi _ _ he2
        have hblt := hb.lt
        by_cases hqk : q < W
        · have hbs := highBase_succ L n q
          have hqb : q < (highBase L n q).length := by rw [highBase_length]; have := HLW.out; omega
          have hfr := hb.frozen q
          have hset := hb.set_ q (encB (highAt n q))
          rw [map_set_encB, ← hbs] at hset
          have hout : ∃ u, wr.cell? ⟨w2.heap.size, q, none⟩ = some u := by
            rw [hb.cell, List.getElem?_eq_getElem (by rw [List.length_map]; exact hqb)]; exact ⟨_, rfl⟩
          obtain ⟨u, hout⟩ := hout
          have hqL : q < L := by rw [highBase_length] at hqb; exact hqb
          have hr := rand_nat q (n + 7) 255 (by omega) (by omega) (by omega) wr
          have hrl := rand_lt (UInt32.ofNat q) (UInt32.ofNat (n + 7)) 255 (by omega)
          have hat : highAt n q = pow2 (rand (UInt32.ofNat q) (UInt32.ofNat (n + 7)) 255) := rfl
          have hp := pow2_any (rand (UInt32.ofNat q) (UInt32.ofNat (n + 7)) 255) wr (by omega)
          rw [← hat] at hp
          generalize rand (UInt32.ofNat q) (UInt32.ofNat (n + 7)) 255 = rr at *
          generalize highAt n q = xx at *
          rw [Int.natCast_add] at hr
          clear hbs hat
          go_wp2_with fail
          refine hr.mono ?_
          rintro e w' ⟨rfl, rfl⟩
          go_wp2_with fail
          refine hp.mono ?_
          rintro e w' ⟨rfl, rfl⟩
          clear hr hp
          go_wp2_with fail
          go_roundw
          case rel => exact ⟨q + 1, by omega, by go_num, hset, hbi.setCell (Nat.le_refl _) _⟩
          case measure => simp [intOf]; omega
        · have e : q = W := by omega
          subst e
          go_wp2_with fail
          refine (hW _).mono ?_
          rintro e w4 ⟨rfl, hb4⟩
          have hs4 := hb.below hb4
          have hb24 := hbi.trans (hb4.mono hszi)
          have hsz4 := hb24.size
          have hlt4 := hs4.lt
          have hbl := highBase_length L n q
          have hqn : q + n < L := by have := HLW.out; omega
          have hqi : (q : Int) + (n : Int) < (L : Int) := by omega
          have hq0 : (0 : Int) ≤ (q : Int) + (n : Int) := by omega
          have hqt : ((q : Int) + (n : Int)).toNat = q + n := by omega
          have hfr := hs4.frozen (q + n)
          have hset := hs4.set_ (q + n) (encB 1)
          rw [map_set_encB] at hset
          have hout : ∃ u, w4.cell? ⟨w2.heap.size, q + n, none⟩ = some u := by
            rw [hs4.cell, List.getElem?_eq_getElem (by rw [List.length_map, hbl]; exact hqn)]; exact ⟨_, rfl⟩
          obtain ⟨u, hout⟩ := hout
          clear hbl
          have hbw2 : Below w2.heap.size w2 (w4.setCell ⟨w2.heap.size, q + n, none⟩ (.int .u8 1)) := hb24.setCell (Nat.le_refl _) _
          have hbo5 := below_add hb2 hbw2 hb2.size
          have hsz5 := hbo5.size
          have hsz52 := hbw2.size
          have hfn : f n = ((highBase L n q).set (q + n) 1) := by rw [HR.out.1]
          have hfl := HR.out.2.2 n
          have hs5 := hset
          rw [← hfn] at hs5
          have hob : ∀ g, u3.ownBlock = some g → w1.heap.size ≤ g ∧ g < w2.heap.size := fun g hg => ⟨(ho.block hg).1, Nat.lt_of_lt_of_le (ho.block hg).2 hb2.size⟩
          have hrv := KBs.of_blk (M := fun g => old w1 g ∨ u3.ownBlock = some g) hs5 (by
            rintro (h | h)
            · have : w2.heap.size < w1.heap.size := h; omega
            · have := (hob _ h).2; omega) (by omega)
          rw [hfl] at hrv
          have hsame : (w4.setCell ⟨w2.heap.size, q + n, none⟩ (.int .u8 1)).heap.size = w4.heap.size := by simp
          have hown := (ho.below hbo5).below (below_one _ (.cells #[.slice (some ⟨w2.heap.size, 0, none⟩) L L] 131))
          have hnew := KSl.of_blk1 (bytes := 24) (K := KBs) (M := fun g => old w1 g ∨ u3.ownBlock = some g) (l := [f n]) (Blk.new (w4.setCell ⟨w2.heap.size, q + n, none⟩ (.int .u8 1)) 131 [.slice (some ⟨w2.heap.size, 0, none⟩) L L]) (by
            rintro (h | h)
            · have : (w4.setCell ⟨w2.heap.size, q + n, none⟩ (.int .u8 1)).heap.size < w1.heap.size := h; omega
            · have := (hob _ h).2; omega) rfl (by simp) (by simp) (fun i h1 h2 => by
            obtain rfl : i = 0 := by simp at h1; omega
            exact Kd.below hrv (below_one _ _))
          rw [hsame] at hnew
          have HFL : Hid (((List.range n).map f).length = n) := show ((List.range n).map f).length = n by simp
          clear hfl hfn hrv hs5 ho hsame hs4 hb4
          go_wp2_with (at_builtin; refine wpList_app elemRow rfl _ _ rfl rfl rfl hown hnew ?c1 ?c2 ?c3 ?c4 ?_)
          case c1 => rw [HFL.out]; simp; omega
          case c2 => rw [HFL.out]; simp; omega
          case c3 => simp; omega
          case c4 => intro g hg; have : g < w1.heap.size := hg; simp; omega
          intro v' w6 hown2 hgrow hob2
          rw [← low_step f n] at hown2
          clear hnew hown
          go_wp2
          go_roundw
          case rel =>
            refine ⟨n + 1, by omega, by go_num, hown2, ?_⟩
            exact ((hbel.trans (hbo5.mono hsz)).alloc (by omega) _).grown hgrow (by simp; omega) (fun g hg => (hob g hg).1)
          case measure => simp [intOf]; omega
    · have e : n = 2 := by omega
      subst e
      go_wp2
      go_ret
      refine ⟨_, rfl, ?_, hbel0.trans (hbel.mono hsz0)⟩
      rw [HR.out.2.1]
      exact (ho.from hsz0).anti (fun g _ (hg : g < w.heap.size) => by show g < w1.heap.size; omega)
end Go.Proofs.Ytpdfcgkeclocoaa
