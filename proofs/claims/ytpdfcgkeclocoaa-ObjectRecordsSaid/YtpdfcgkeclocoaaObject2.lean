/- The walks of object.Symbol, Records. -/
import Derived.Test.YtpdfcgkeclocoaaObject
set_option linter.all false
namespace Go.Proofs.Ytpdfcgkeclocoaa
open Go.RowKit GF
attribute [local go_sem ↓] Go.wp_at_zero Go.wp_at_succ

theorem KObjP.val {M : Blocks} {w : World} {v : Value} {o : ObjD} (h : KObjP.R M w [v] o) : ∃ g u, v = .pointer (some ⟨g, 0, none⟩) ∧ g < w.heap.size ∧ ¬ M g ∧ (KSl 8 KBlockP).R M w [u] o.bs ∧ o.sh.Ok ∧
    w.cell? ⟨g, 0, none⟩ = some (.int .i64 o.sh.b) ∧ w.cell? ⟨g, 1, none⟩ = some (.int .i64 o.sh.z) ∧ w.cell? ⟨g, 2, none⟩ = some (.int .i64 o.sh.m) ∧ w.cell? ⟨g, 3, none⟩ = some u := by
  obtain ⟨g, ecs, rfl, hlt, hm, ⟨u, rfl, hu, hok⟩, hc⟩ := KPtr.val h
  exact ⟨g, u, rfl, hlt, hm, hu, hok, hc 0 _ rfl, hc 1 _ rfl, hc 2 _ rfl, hc 3 _ rfl⟩
theorem KBlocks.at_ {M : Blocks} {w : World} {A : Option Addr} {c : Nat} {l : List BlockD} (h : (KSl 8 KBlockP).R M w [.slice A l.length c] l) {i : Nat} (hi : i < l.length) : ∃ ad u, A = some ad ∧ w.cell? (ad.add i) = some u ∧ KBlockP.R M w [u] l[i] := KSl.at1 h rfl hi

def symB (b : BlockD) (esi : Nat) : Row := dropOf b.k b.j b.size b.c esi
/-- Any symbol. -/
def objSym (o : ObjD) (n esi : Int) : Except Nat Row :=
  if 0 ≤ n ∧ n < o.bs.length ∧ 0 ≤ esi ∧ esi < 16777216 then .ok (symB (o.bs.getD n.toNat ⟨0, 0, 0, []⟩) esi.toNat) else .error 1
theorem objSym_any (v : Value) (o : ObjD) (n esi : Int) (w : World) (h : KObjP.R noB w [v] o) (hbig : o.bs.length ≤ 1000000) :
    Calls Try.prog 24 #[v, .int .i64 n, .int .i64 esi] w (RetE KBs (.slice none 0 0) w (objSym o n esi)) := by
  obtain ⟨g, u, rfl, hlt, -, hu, -, -, -, -, hc3⟩ := KObjP.val h
  obtain ⟨A, c, rfl, hlc, hcc, -⟩ := KSl.val hu
  by_cases hn0 : n < 0
  · have ho : objSym o n esi = .error 1 := by unfold objSym; rw [if_neg (by omega)]
    have e1 : decide (n < 0) = true := by simpa using hn0
    rw [ho]
    clear ho h
    go_enter Try.func24, Try.ntmps24
    go_wp2
    go_ret2
    exact RetE.err_ (Below.refl _ _)
  · have e1 : decide (n < 0) = false := by simpa using hn0
    by_cases hn1 : n < o.bs.length
    · obtain ⟨m, rfl⟩ : ∃ m : Nat, n = (m : Int) := ⟨n.toNat, by omega⟩
      have hm : m < o.bs.length := by omega
      obtain ⟨ad, ub, rfl, hcb, hb⟩ := KBlocks.at_ hu hm
      have e2 : decide ((o.bs.length : Int) ≤ (m : Int)) = false := by simp; omega
      have hsym : Calls Try.prog 83 #[ub, .int .i64 esi] w (RetE KBs (.slice none 0 0) w (objSym o (m : Int) esi)) := by
        unfold objSym
        by_cases he : 0 ≤ esi ∧ esi < 16777216
        · rw [if_pos ⟨by omega, by omega, he.1, he.2⟩]
          obtain ⟨q, rfl⟩ : ∃ q : Nat, esi = (q : Int) := ⟨esi.toNat, by omega⟩
          have := symbol_yes ub o.bs[m] q (by omega) w hb
          rw [Int.toNat_natCast, Int.toNat_natCast, getD_eq _ _ _ hm]
          exact this
        · rw [if_neg (by omega)]
          exact symbol_no ub _ esi (by omega) w hb
      obtain ⟨gb, _, rfl, -⟩ := KPtr.val hb
      generalize objSym o (m : Int) esi = out at *
      clear h hb hu hn0
      go_enter Try.func24, Try.ntmps24
      go_wp2_with fail
      refine hsym.mono ?_
      rintro e w2 ⟨v2, q, rfl, hb2, hx2⟩
      have hv2 : v2.oneCell' = true := by
        cases out with
        | ok y => exact KBs.one hx2.1 v2 (by simp)
        | error e => rw [hx2.1]; rfl
      have hfin : RetE KBs (.slice none 0 0) w out (.returned (.tuple #[v2, .int .i64 q])) w2 := ⟨v2, q, rfl, hb2, hx2⟩
      clear hx2 hsym
      go_wp2
      go_ret2
      exact hfin
    · have ho : objSym o n esi = .error 1 := by unfold objSym; rw [if_neg (by omega)]
      have e2 : decide ((o.bs.length : Int) ≤ n) = true := by simp; omega
      rw [ho]
      clear ho h
      go_enter Try.func24, Try.ntmps24
      go_wp2
      go_ret2
      exact RetE.err_ (Below.refl _ _)

/-! ### Records -/
def recOf (s : Shp) (ip iq : Int) (till : Int) (n e : Nat) (r : Row) : RecD := ⟨ip, iq, ⟨s.b, s.z, s.m⟩, n, e, false, till, r⟩
def recsB (s : Shp) (ip iq till : Int) (n : Nat) (b : BlockD) (m : Nat) : List RecD := (List.range m).map fun e => recOf s ip iq till n e (symB b e)
/-- The records of the blocks up to n. -/
def recsGo (o : ObjD) (ip iq till : Int) (ex : Nat) : Nat → List RecD
  | 0 => []
  | n + 1 => recsGo o ip iq till ex n ++ recsB o.sh ip iq till n (o.bs.getD n ⟨0, 0, 0, []⟩) ((o.bs.getD n ⟨0, 0, 0, []⟩).k + ex)
def clampE (extra : Int) : Nat := if extra < 0 then 0 else if 100 < extra then 100 else extra.toNat
def recsO (o : ObjD) (ip iq extra till : Int) : List RecD := recsGo o ip iq till (clampE extra) o.bs.length
theorem recsB_step (s : Shp) (ip iq till : Int) (n : Nat) (b : BlockD) (m : Nat) : recsB s ip iq till n b (m + 1) = recsB s ip iq till n b m ++ [recOf s ip iq till n m (symB b m)] := by
  unfold recsB; rw [List.range_succ, List.map_append]; rfl
theorem recsB_length (s : Shp) (ip iq till : Int) (n : Nat) (b : BlockD) (m : Nat) : (recsB s ip iq till n b m).length = m := by simp [recsB]
theorem elemRec : Elem Try.prog 33 39 KRec.size 96 := Elem.mk' (z := .agg #[.int .i64 0, .int .i64 0, .int .i64 0, .int .i64 0, .int .i64 0, .int .i64 0, .int .i64 0, .bool false, .int .i64 0, .slice none 0 0]) Try.underlying33 (by kernel_rfl) (by decide) rfl
theorem recsGo_length (o : ObjD) (ip iq till : Int) (ex : Nat) (hk : ∀ b ∈ o.bs, b.k ≤ 40) (hx : ex ≤ 100) : ∀ n, n ≤ o.bs.length → (recsGo o ip iq till ex n).length ≤ n * 140
  | 0, _ => by simp [recsGo]
  | n + 1, hn => by
    have ih := recsGo_length o ip iq till ex hk hx n (by omega)
    rw [recsGo, List.length_append, recsB_length, getD_eq _ _ _ (show n < o.bs.length by omega)]
    have := hk _ (List.getElem_mem (show n < o.bs.length by omega))
    omega

set_option maxRecDepth 100000 in
set_option maxHeartbeats 2000000 in
theorem recs_any (v : Value) (o : ObjD) (ip iq extra till : Int) (w : World) (h : KObjP.R noB w [v] o) (hip : IsInt ip) (hiq : IsInt iq) (htl : IsInt till) (hbig : o.bs.length ≤ 4000) :
    Calls Try.prog 28 #[v, .agg #[.int .i64 ip, .int .i64 iq], .int .i64 extra, .int .i64 till] w (RetOwn KRec 39 w (recsO o ip iq extra till)) := by
  obtain ⟨g, u, rfl, hlt, -, hu, hok, hc0, hc1, hc2, hc3⟩ := KObjP.val h
  have hbk : ∀ b ∈ o.bs, b.k ≤ 40 := fun b hb => by
    obtain ⟨i, hi, rfl⟩ := List.getElem_of_mem hb
    obtain ⟨A, c, rfl, -⟩ := KSl.val hu
    obtain ⟨ad, ub, _, _, hb⟩ := KBlocks.at_ hu hi
    obtain ⟨_, _, _, _, _, _, hbo, _⟩ := KBlockP.val hb
    exact hbo.k2
  have hx100 : clampE extra ≤ 100 := by unfold clampE; split <;> (try split) <;> omega
  have hrl := recsGo_length o ip iq till (clampE extra) hbk hx100
  have hro : recsO o ip iq extra till = recsGo o ip iq till (clampE extra) o.bs.length := rfl
  have hr0 : recsGo o ip iq till (clampE extra) 0 = [] := rfl
  have hrs := fun n => show recsGo o ip iq till (clampE extra) (n + 1) = recsGo o ip iq till (clampE extra) n ++ recsB o.sh ip iq till n (o.bs.getD n ⟨0, 0, 0, []⟩) ((o.bs.getD n ⟨0, 0, 0, []⟩).k + clampE extra) from rfl
  obtain ⟨mn, e1⟩ : ∃ mn : Int, (if (100 : Int) < extra then (100 : Int) else extra) = mn := ⟨_, rfl⟩
  have e2 : (if 0 < mn then mn else 0) = ((clampE extra : Nat) : Int) := by
    have hcl : ((clampE extra : Nat) : Int) = if extra < 0 then 0 else if 100 < extra then 100 else extra := by
      unfold clampE
      split
      · rfl
      · split
        · rfl
        · omega
    rw [hcl]
    rcases Int.lt_or_le extra 0 with h1 | h1
    · have hm : mn = extra := by rw [← e1, if_neg (by omega)]
      rw [hm, if_pos h1, if_neg (by omega)]
    · rcases Int.lt_or_le 100 extra with h2 | h2
      · have hm : mn = 100 := by rw [← e1, if_pos h2]
        rw [hm, if_neg (show ¬ extra < 0 by omega), if_pos h2]; rfl
      · have hm : mn = extra := by rw [← e1, if_neg (by omega)]
        rw [hm, if_neg (show ¬ extra < 0 by omega), if_neg (show ¬ (100 : Int) < extra by omega)]
        by_cases h3 : 0 < extra
        · rw [if_pos h3]
        · rw [if_neg h3]; omega
  obtain ⟨A, c, rfl, hlc, hcc, -⟩ := KSl.val hu
  have HRO : Hid (recsO o ip iq extra till = recsGo o ip iq till (clampE extra) o.bs.length) := hro
  generalize recsO o ip iq extra till = out at *
  generalize recsGo o ip iq till (clampE extra) = rg at *
  generalize clampE extra = x at *
  have HR0 : Hid (rg 0 = []) := hr0
  have HRS : Hid (∀ n, rg (n + 1) = rg n ++ recsB o.sh ip iq till n (o.bs.getD n ⟨0, 0, 0, []⟩) ((o.bs.getD n ⟨0, 0, 0, []⟩).k + x)) := hrs
  have HRL : Hid (∀ n, n ≤ o.bs.length → (rg n).length ≤ n * 140) := hrl
  have HBK : Hid (∀ b ∈ o.bs, b.k ≤ 40) := hbk
  have HOK : Hid o.sh.Ok := hok
  clear hro hr0 hrs hrl hbk h hok
  go_enter Try.func28, Try.ntmps28
  go_wp2_with fail
  have hx := Blk.new w 36 [.int .i64 ip, .int .i64 iq]
  have hbe := below_one w (.cells #[.int .i64 ip, .int .i64 iq] 36)
  have hszx : (w.alloc (.cells #[.int .i64 ip, .int .i64 iq] 36)).heap.size = w.heap.size + 1 := by simp
  generalize w.alloc (.cells #[.int .i64 ip, .int .i64 iq] 36) = wa at *
  have hsx : w.heap.size < wa.heap.size := by omega
  have hga : g < wa.heap.size := by omega
  have hua := Kd.below hu hbe
  clear hszx
  go_loopw [9, 22] (fun out' i wr => ∃ n : Nat, n ≤ o.bs.length ∧ i = .int .i64 n ∧ Own KRec 39 wa.heap.size (old w) wr out' (rg n) ∧ Below wa.heap.size wa wr) (fun _ i _ => o.bs.length - (intOf i).toNat)
  case atStart => exact ⟨0, Nat.zero_le _, rfl, by rw [HR0.out]; exact Own.nil, Below.refl _ _⟩
  case round =>
    obtain ⟨n, hn, rfl, ho, hbel⟩ := hrel
    have hsz := hbel.size
    by_cases hlt' : n < o.bs.length
    · obtain ⟨ad, ub, rfl, hcb, hb⟩ := KBlocks.at_ hua hlt'
      have hcb' := cell_below hbel _ _ hcb
      have hb' := Kd.below hb hbel
      have hst := HRS.out n
      rw [getD_eq _ _ _ hlt'] at hst
      have hbk := HBK.out _ (List.getElem_mem hlt')
      have hsy := fun (e : Nat) (he : e < 16777216) (W : World) (hW : KBlockP.R noB W [ub] o.bs[n]) => symbol_yes ub o.bs[n] e he W hW
      have hdl := fun e => dropOf_length o.bs[n].k o.bs[n].j o.bs[n].size o.bs[n].c e
      have hrb0 : recsB o.sh ip iq till n o.bs[n] 0 = [] := rfl
      have hrbs := fun m => recsB_step o.sh ip iq till n o.bs[n] m
      have hrbl := fun m => recsB_length o.sh ip iq till n o.bs[n] m
      have hrl := HRL.out n hn
      generalize o.bs[n] = b at *
      obtain ⟨gb, _, rfl, _, _, _, hbo, hk0, _⟩ := KBlockP.val hb'
      have HST : Hid (rg (n + 1) = rg n ++ recsB o.sh ip iq till n b (b.k + x)) := hst
      have HB0 : Hid (recsB o.sh ip iq till n b 0 = []) := hrb0
      have HBS : Hid (∀ m, recsB o.sh ip iq till n b (m + 1) = recsB o.sh ip iq till n b m ++ [recOf o.sh ip iq till n m (symB b m)]) := hrbs
      have HBL : Hid (∀ m, (recsB o.sh ip iq till n b m).length = m) := hrbl
      have HSY : Hid (∀ (e : Nat), e < 16777216 → ∀ (W : World), KBlockP.R noB W [.pointer (some ⟨gb, 0, none⟩)] b → Calls Try.prog 83 #[.pointer (some ⟨gb, 0, none⟩), .int .i64 e] W (RetE KBs (.slice none 0 0) W (.ok (symB b e)))) := hsy
      clear hst hrb0 hrbs hrbl hsy hdl hcb hbo
      obtain ⟨wo, rfl⟩ : ∃ wo : World, wo = wr := ⟨_, rfl⟩
      go_wp2_with fail
      go_loopw [9, 12, 13, 14, 36] (fun out' _ _ _ i wi => ∃ m : Nat, m ≤ b.k + x ∧ i = .int .i64 m ∧ Own KRec 39 wa.heap.size (old w) wi out' (rg n ++ recsB o.sh ip iq till n b m) ∧ Below wa.heap.size wa wi) (fun _ _ _ _ i _ => (b.k + x) - (intOf i).toNat)
      case atStart => exact ⟨0, Nat.zero_le _, rfl, by rw [HB0.out, List.append_nil]; exact ho, hbel⟩
      case round =>
        obtain ⟨m, hm, rfl, hoi, hbi⟩ := hrel
        have hszi := hbi.size
        by_cases hmk : m < b.k + x
        · have hsy := HSY.out m (by omega) wr (Kd.below hb hbi)
          have hst : rg n ++ recsB o.sh ip iq till n b (m + 1) = (rg n ++ recsB o.sh ip iq till n b m) ++ [recOf o.sh ip iq till n m (symB b m)] := by rw [HBS.out, List.append_assoc]
          have hll : (rg n ++ recsB o.sh ip iq till n b m).length ≤ 1000000 := by rw [List.length_append, HBL.out]; omega
          have HS2 : Hid (rg n ++ recsB o.sh ip iq till n b (m + 1) = (rg n ++ recsB o.sh ip iq till n b m) ++ [recOf o.sh ip iq till n m (symB b m)]) := hst
          have HL2 : Hid ((rg n ++ recsB o.sh ip iq till n b m).length ≤ 1000000) := hll
          obtain ⟨xs, hxs⟩ : ∃ xs, xs = rg n ++ recsB o.sh ip iq till n b m := ⟨_, rfl⟩
          rw [← hxs] at HS2 HL2 hoi
          clear hst hll hxs
          generalize symB b m = r at *
          have hbwi : Below w.heap.size w wr := hbe.trans (hbi.mono (by omega))
          have hxr := hx.below hbi
          have hxc0 := hxr.cell 0
          have hxc1 := hxr.cell 1
          simp only [List.getElem?_cons_zero, List.getElem?_cons_succ] at hxc0 hxc1
          have hg0 := cell_below hbwi _ _ hc0
          have hg1 := cell_below hbwi _ _ hc1
          have hg2 := cell_below hbwi _ _ hc2
          go_wp2_with fail
          refine hsy.mono ?_
          rintro e w3 hr3
          obtain ⟨v3, rfl, hb3, hv3⟩ := hr3.ok_
          have hsz3 := hb3.size
          have hoi3 := hoi.below hb3
          have hlif := Own.lift hoi (fun g (hg : g < w.heap.size) => by omega) hv3
          have hm0 := cell_below hb3 _ _ hxc0
          have hm1 := cell_below hb3 _ _ hxc1
          have hn0 := cell_below hb3 _ _ hg0
          have hn1 := cell_below hb3 _ _ hg1
          have hn2 := cell_below hb3 _ _ hg2
          obtain ⟨A3, c3, rfl, -⟩ := KSl.val hv3
          have hrec : KRec.R (fun g => old w g ∨ u9.ownBlock = some g) w3 [.int .i64 ip, .int .i64 iq, .int .i64 o.sh.b, .int .i64 o.sh.z, .int .i64 o.sh.m, .int .i64 n, .int .i64 m, .bool false, .int .i64 till, .slice A3 r.length c3] (recOf o.sh ip iq till n m r) :=
            ⟨_, rfl, hlif, hip, hiq, by have := HOK.out; have h1 := this.b2; have h2 := this.z2; have h3 := this.m2; exact ⟨by simp only [recOf, IsInt]; omega, by simp only [recOf, IsInt]; omega, by simp only [recOf, IsInt]; omega⟩, by simp only [recOf, IsInt]; omega, by simp only [recOf, IsInt]; omega, htl⟩
          clear hsy hr3 hv3 hoi hlif hxc0 hxc1 hg0 hg1 hg2
          go_upto_region 11 with fail
          refine wp_region_plan2 [0, 1, 2, 3, 4, 5, 6, 7, 8, 9, 10] [1, 5] [11, 12] [] [13] (fun w' => w'.cell? ⟨w.heap.size, 0, none⟩ = some (.int .i64 ip) ∧ w'.cell? ⟨w.heap.size, 1, none⟩ = some (.int .i64 iq) ∧ w'.cell? ⟨g, 0, none⟩ = some (.int .i64 o.sh.b) ∧ w'.cell? ⟨g, 1, none⟩ = some (.int .i64 o.sh.z) ∧ w'.cell? ⟨g, 2, none⟩ = some (.int .i64 o.sh.m)) (by kernel_rfl) (by kernel_rfl) (fun _ _ _ _ _ h => h) ⟨hm0, hm1, hn0, hn1, hn2⟩ ?_
          simp only [List.map_cons, List.map_nil, opAt, List.getD_cons_zero, List.getD_cons_succ, List.contains_cons, List.contains_nil, Nat.reduceBEq, Bool.or_false, Bool.or_true]
          apply front_cons
          · intro w9
            go_simp
            with_reducible rfl
          go_simp
          apply front_hot
          · intro w9 hS
            obtain ⟨hS0, hS1, hS2, hS3, hS4⟩ := hS
            go_simp
            with_reducible rfl
          go_simp
          iterate 3
            apply front_cons
            · intro w9
              go_simp
              with_reducible rfl
            go_simp
          apply front_hot
          · intro w9 hS
            obtain ⟨hS0, hS1, hS2, hS3, hS4⟩ := hS
            go_simp
            with_reducible rfl
          go_simp
          iterate 5
            apply front_cons
            · intro w9
              go_simp
              with_reducible rfl
            go_simp
          refine front_nil ?_
          refine etail_cons (fun K hK => ?_)
          go_simp
          have hbd : Below w3.heap.size w3 w3.drew := (Below.refl _ _).drew
          have hba := hbd.alloc (Nat.le_refl _) (.cells #[.int .i64 ip, .int .i64 iq, .int .i64 o.sh.b, .int .i64 o.sh.z, .int .i64 o.sh.m, .int .i64 n, .int .i64 m, .bool false, .int .i64 till, .slice A3 r.length c3] 39)
          refine hK _ _ (fun _ => ⟨cell_below hba _ _ hm0, cell_below hba _ _ hm1, cell_below hba _ _ hn0, cell_below hba _ _ hn1, cell_below hba _ _ hn2⟩) ?_
          clear hK K
          go_simp
          refine etail_list rfl (fun K hK => ?_)
          refine wpList_app1 (w1 := w3.drew) elemRec rfl _ _ rfl rfl rfl (hoi3.below hbd) (Kd.below hrec hbd) ?c1 ?c2 ?c3 ?c4 ?_
          case c1 => exact HL2.out
          case c2 => omega
          case c3 => show wa.heap.size ≤ w3.heap.size; omega
          case c4 => exact fun g (h : g < w.heap.size) => by show g < w3.heap.size; omega
          intro v' w6 hown2 hb6 hob2
          have hb36 : Below wa.heap.size w3 w6 := ⟨hb6.os, hb6.tape, hb6.output, hb6.size, hb6.block⟩
          have hcl : ∀ p : Addr, p.block < wa.heap.size → ∀ y, w3.cell? p = some y → w6.cell? p = some y := fun p hp y hy => (hb36.cell hp).trans hy
          have hq0 := hcl ⟨w.heap.size, 0, none⟩ hsx _ hm0
          have hq1 := hcl ⟨w.heap.size, 1, none⟩ hsx _ hm1
          have hq2 := hcl ⟨g, 0, none⟩ hga _ hn0
          have hq3 := hcl ⟨g, 1, none⟩ hga _ hn1
          have hq4 := hcl ⟨g, 2, none⟩ hga _ hn2
          rw [← HS2.out] at hown2
          clear hoi3 hrec hcl hbd hba hm0 hm1 hn0 hn1 hn2
          go_simp
          refine hK _ _ (fun _ => ⟨hq0, hq1, hq2, hq3, hq4⟩) ?_
          clear hK K
          go_simp
          refine etail_nil ?_
          apply front_cons
          · intro w9
            go_simp
            with_reducible rfl
          go_simp
          refine front_nil ?_
          go_wp2
          go_roundw
          case rel => exact ⟨m + 1, by omega, by go_num, hown2, (hbi.trans (hb3.mono hszi)).trans hb36⟩
          case measure => simp [intOf]; omega
        · have e : m = b.k + x := by omega
          subst e
          rw [← HST.out] at hoi
          go_wp2
          go_roundw
          case rel => exact ⟨n + 1, by omega, by go_num, hoi, hbi⟩
          case measure => simp [intOf]; omega
    · have e : n = o.bs.length := by omega
      subst e
      rw [← HRO.out] at ho
      go_wp2
      go_ret
      exact ⟨_, rfl, ho.from (by omega), hbe.trans (hbel.mono (by omega))⟩
end Go.Proofs.Ytpdfcgkeclocoaa
