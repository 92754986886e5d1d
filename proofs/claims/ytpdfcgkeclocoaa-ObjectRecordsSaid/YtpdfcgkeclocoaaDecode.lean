/- The walk of object.Decode. -/
import Derived.Test.YtpdfcgkeclocoaaObject2
import Derived.Test.YtpdfcgkeclocoaaDecB
import Derived.Laws.StructEq
set_option linter.all false
namespace Go.Proofs.Ytpdfcgkeclocoaa
open Go.RowKit GF
attribute [local go_sem ↓] Go.wp_at_zero Go.wp_at_succ

theorem eq_shape_yes (a b c : Int) (w : World) : (binOp .eql 32 (.agg #[.int .i64 a, .int .i64 b, .int .i64 c]) (.agg #[.int .i64 a, .int .i64 b, .int .i64 c])).run Try.prog w = .ok (.bool true) w := by
  go_simp
theorem eq_shape_no (a b c a' b' c' : Int) (h : (⟨a, b, c⟩ : ShapeD) ≠ ⟨a', b', c'⟩) (w : World) : (binOp .eql 32 (.agg #[.int .i64 a, .int .i64 b, .int .i64 c]) (.agg #[.int .i64 a', .int .i64 b', .int .i64 c'])).run Try.prog w = .ok (.bool false) w := by
  by_cases h1 : a = a'
  · subst h1
    by_cases h2 : b = b'
    · subst h2
      have h3 : c ≠ c' := fun e => h (by rw [e])
      have e : (c == c') = false := by simpa using h3
      clear h
      go_simp
    · have e : (b == b') = false := by simpa using h2
      clear h
      go_simp
  · have e : (a == a') = false := by simpa using h1
    clear h
    go_simp
theorem KRecs.at_ {M : Blocks} {w : World} {A : Option Addr} {c : Nat} {l : List RecD} (h : KRecs.R M w [.slice A l.length c] l) {i : Nat} (hi : i < l.length) : ∃ ad u, A = some ad ∧ KBs.R M w [u] l[i].data ∧ (IsInt l[i].peer ∧ IsInt l[i].number ∧ l[i].sh.ok ∧ IsInt l[i].block ∧ IsInt l[i].esi ∧ IsInt l[i].till) ∧
    w.cell? (ad.add (i * 10)) = some (.int .i64 l[i].peer) ∧ w.cell? ⟨(ad.add (i * 10)).block, (ad.add (i * 10)).off + 1, none⟩ = some (.int .i64 l[i].number) ∧
    w.cell? ⟨(ad.add (i * 10)).block, (ad.add (i * 10)).off + 2, none⟩ = some (.int .i64 l[i].sh.bytes) ∧ w.cell? ⟨(ad.add (i * 10)).block, (ad.add (i * 10)).off + 3, none⟩ = some (.int .i64 l[i].sh.size) ∧ w.cell? ⟨(ad.add (i * 10)).block, (ad.add (i * 10)).off + 4, none⟩ = some (.int .i64 l[i].sh.most) ∧
    w.cell? ⟨(ad.add (i * 10)).block, (ad.add (i * 10)).off + 5, none⟩ = some (.int .i64 l[i].block) ∧ w.cell? ⟨(ad.add (i * 10)).block, (ad.add (i * 10)).off + 6, none⟩ = some (.int .i64 l[i].esi) ∧ w.cell? ⟨(ad.add (i * 10)).block, (ad.add (i * 10)).off + 7, none⟩ = some (.bool l[i].gone) ∧
    w.cell? ⟨(ad.add (i * 10)).block, (ad.add (i * 10)).off + 8, none⟩ = some (.int .i64 l[i].till) ∧ w.cell? ⟨(ad.add (i * 10)).block, (ad.add (i * 10)).off + 9, none⟩ = some u := by
  obtain ⟨A', c', e, _, _, _, _, h5⟩ := KSl.val h
  injection e with e1 _ _
  subst e1
  obtain ⟨ad, rfl, _, _, hc⟩ := h5 (by omega)
  obtain ⟨ecs, ⟨u, rfl, hu, hok⟩, hcell⟩ := hc i hi
  exact ⟨ad, u, rfl, hu, hok, hcell.first _ rfl, hcell.spell 0 _ rfl, hcell.spell 1 _ rfl, hcell.spell 2 _ rfl, hcell.spell 3 _ rfl, hcell.spell 4 _ rfl, hcell.spell 5 _ rfl, hcell.spell 6 _ rfl, hcell.spell 7 _ rfl, hcell.spell 8 _ rfl⟩

def Shp.d (s : Shp) : ShapeD := ⟨s.b, s.z, s.m⟩
def isOf (s : ShapeD) (n : Int) (r : RecD) : Bool := decide (r.sh = s) && !r.gone && decide (r.block = n)
/-- A block's symbols. -/
def picks (s : ShapeD) (n : Int) (l : List RecD) : List DropD := (l.filter (isOf s n)).map fun r => (r.esi, r.data)
theorem picks_snoc (s : ShapeD) (n : Int) (l : List RecD) (r : RecD) : picks s n (l ++ [r]) = if isOf s n r then picks s n l ++ [(r.esi, r.data)] else picks s n l := by
  unfold picks
  rw [List.filter_append, List.map_append]
  cases h : isOf s n r <;> simp [h]
theorem picks_length (s : ShapeD) (n : Int) (l : List RecD) : (picks s n l).length ≤ l.length := by
  unfold picks; rw [List.length_map]; exact List.length_filter_le _ _
def decStep (bs : List (List Row)) : Except Nat (List Row) → Except Nat (List (List Row))
  | .error q => .error q
  | .ok x => .ok (bs ++ [x])
/-- The blocks up to n that records tell. -/
def decGo (s : Shp) (l : List RecD) : Nat → Except Nat (List (List Row))
  | 0 => .ok []
  | n + 1 => match decGo s l n with
    | .error q => .error q
    | .ok bs => decStep bs (decB (kN s n) s.z (picks s.d n l))
def decV2 (s : Shp) : Except Nat (List (List Row)) → Except Nat (List UInt8)
  | .error q => .error q
  | .ok bs => .ok (joinS s bs)
/-- What records tell. -/
def decodeO (s : Shp) (l : List RecD) : Except Nat (List UInt8) := decV2 s (decGo s l (blkN s))
theorem decGo_err {s : Shp} {l : List RecD} {q : Nat} : ∀ {n m : Nat}, n ≤ m → decGo s l n = .error q → decGo s l m = .error q
  | n, 0, hm, h => by
    obtain rfl : n = 0 := Nat.le_zero.1 hm
    exact h
  | n, m + 1, hm, h => by
    by_cases e : n = m + 1
    · rw [← e]; exact h
    · unfold decGo
      rw [decGo_err (m := m) (by omega) h]
theorem decB_ok {k size : Nat} {l : List DropD} {x : List Row} (h : decB k size l = .ok x) : x.length = k ∧ ∀ r ∈ x, r.length = size := by
  unfold decB at h
  split at h
  · cases h
  · split at h
    · cases h
    · cases hf : findJ k with
      | none => rw [hf] at h; cases h
      | some j =>
        rw [hf] at h
        unfold decV at h
        simp only at h
        split at h
        · cases h
        · injection h with h
          rw [← h]
          refine ⟨by simp, fun r hr => ?_⟩
          obtain ⟨e, _, rfl⟩ := List.mem_map.1 hr
          exact dropOf_length _ _ _ _ _
theorem decB_err {k size : Nat} {l : List DropD} {q : Nat} (h : decB k size l = .error q) : q = 1 ∨ q = 10 ∨ q = 5 ∨ q = 4 := by
  unfold decB at h
  split at h
  · injection h with h; exact .inl h.symm
  · split at h
    · injection h with h; exact .inr (.inl h.symm)
    · cases hf : findJ k with
      | none => rw [hf] at h; injection h with h; exact .inr (.inr (.inl h.symm))
      | some j =>
        rw [hf] at h
        unfold decV at h
        simp only at h
        split at h
        · rename_i hp
          injection h with h
          subst h
          exact .inr (.inr (.inr (solveP_err hp)))
        · cases h
theorem decGo_fit {s : Shp} {l : List RecD} : ∀ {n : Nat} {bs : List (List Row)}, decGo s l n = .ok bs → bs.length = n ∧ (∀ i (h : i < bs.length), bs[i].length = kN s i) ∧ ∀ rs ∈ bs, ∀ r ∈ rs, r.length = s.z
  | 0, bs, h => by
    injection h with h
    subst h
    exact ⟨rfl, fun i h => absurd h (by simp), fun rs h => absurd h (by simp)⟩
  | n + 1, bs, h => by
    unfold decGo at h
    cases h1 : decGo s l n with
    | error q => rw [h1] at h; cases h
    | ok cs =>
      rw [h1] at h
      simp only at h
      cases h2 : decB (kN s n) s.z (picks s.d n l) with
      | error q => rw [h2] at h; cases h
      | ok x =>
        rw [h2] at h
        injection h with h
        subst h
        obtain ⟨g1, g2, g3⟩ := decGo_fit h1
        obtain ⟨k1, k2⟩ := decB_ok h2
        refine ⟨by simp [g1], fun i hi => ?_, fun rs hrs => ?_⟩
        · by_cases e : i < cs.length
          · rw [List.getElem_append_left e]; exact g2 i e
          · obtain rfl : i = cs.length := by simp at hi; omega
            rw [List.getElem_append_right (Nat.le_refl _)]
            simp only [Nat.sub_self, List.getElem_cons_zero]
            rw [g1]; exact k1
        · rcases List.mem_append.1 hrs with hrs | hrs
          · exact g3 rs hrs
          · rw [List.mem_singleton] at hrs
            rw [hrs]; exact k2
theorem elemDrop : Elem Try.prog 130 133 KDrop.size 32 := Elem.mk' (z := .agg #[.int .i64 0, .slice none 0 0]) Try.underlying130 (by kernel_rfl) (by decide) rfl

theorem decode_no (b z m : Int) (h : ¬ (⟨b, z, m⟩ : ShapeD).right) (v : Value) (hv : v.oneCell' = true) (w : World) : Calls Try.prog 19 #[.agg #[.int .i64 b, .int .i64 z, .int .i64 m], v] w fun e w' => e = .returned (.tuple #[.slice none 0 0, .int .i64 1]) ∧ Below w.heap.size w w' := by
  have hr := right_no b z m h
  clear h
  go_enter Try.func19, Try.ntmps19
  go_wp2_with fail
  refine (hr _).mono ?_
  rintro e w1 ⟨rfl, hb⟩
  have hb01 : Below w.heap.size w w1 := (below_one w _).trans (hb.mono (by simp))
  go_wp2
  go_ret2
  exact ⟨rfl, hb01⟩

set_option maxRecDepth 100000 in
set_option maxHeartbeats 4000000 in
theorem decode_any (s : Shp) (h : s.Ok) (v : Value) (l : List RecD) (w : World) (hl : KRecs.R noB w [v] l) (hlen : l.length ≤ 100000) :
    Calls Try.prog 19 #[.agg #[.int .i64 s.b, .int .i64 s.z, .int .i64 s.m], v] w (RetE KBs (.slice none 0 0) w (decodeO s l)) := by
  have hr := right_yes _ _ _ (Shp.right h)
  have hbl := blocks_yes s h
  have hk := k_yes s h
  have hkn := kN_le h
  have hbn := blkN_le h
  have hsn := symN_le h
  have hz1 := h.z1
  have hz2 := h.z2
  have hdec := fun (k : Nat) (h1 : 1 ≤ k) (h2 : k ≤ 40) (v : Value) (l : List DropD) (W : World) (hW : KDrops.R noB W [v] l) (hn : l.length ≤ 100000) => decB_any k s.z h1 h2 hz1 hz2 v l W hW hn
  have hjoin := fun (v : Value) (bs : List (List Row)) (hf : Blocks.Fit s bs) (W : World) (hW : KRowss.R noB W [v] bs) => join_any s h v bs hf W hW
  have hdo : decodeO s l = decV2 s (decGo s l (blkN s)) := rfl
  have hg0 : decGo s l 0 = .ok [] := rfl
  have hgs := fun n bs (hn : decGo s l n = .ok bs) => show decGo s l (n + 1) = decStep bs (decB (kN s n) s.z (picks s.d n l)) by unfold decGo; rw [hn]
  have hge := fun n m q (hnm : n ≤ m) => decGo_err (s := s) (l := l) (q := q) (n := n) (m := m) hnm
  have hgf := fun n bs => decGo_fit (s := s) (l := l) (n := n) (bs := bs)
  obtain ⟨A, cp, rfl, -⟩ := KSl.val hl
  generalize decodeO s l = out at *
  generalize decGo s l = go at *
  have HO : Hid (out = decV2 s (go (blkN s))) := hdo
  have HG0 : Hid (go 0 = .ok []) := hg0
  have HGS : Hid (∀ n bs, go n = .ok bs → go (n + 1) = decStep bs (decB (kN s n) s.z (picks s.d n l))) := hgs
  have HGE : Hid (∀ n m q, n ≤ m → go n = .error q → go m = .error q) := hge
  have HGF : Hid (∀ n bs, go n = .ok bs → bs.length = n ∧ (∀ i (h : i < bs.length), bs[i].length = kN s i) ∧ ∀ rs ∈ bs, ∀ r ∈ rs, r.length = s.z) := hgf
  have hbN : blkN s ≤ 4000 := by omega
  obtain ⟨N, hN⟩ : ∃ N, N = blkN s := ⟨_, rfl⟩
  rw [← hN] at hbl hk hbN HO
  have HN : Hid (N = blkN s) := hN
  clear hdo hg0 hgs hge hgf hsn hbn hN
  go_enter Try.func19, Try.ntmps19
  go_wp2_with fail
  refine (hr _).mono ?_
  rintro e w1 ⟨rfl, hb⟩
  have hx : Blk w1 w.heap.size 32 [.int .i64 s.b, .int .i64 s.z, .int .i64 s.m] := (Blk.new w _ _).below (hb.mono (Nat.le_refl _))
  have hb01 : Below w.heap.size w w1 := (below_one w _).trans (hb.mono (by simp))
  have hc0 := hx.cell 0
  have hc1 := hx.cell 1
  have hc2 := hx.cell 2
  simp only [List.getElem?_cons_zero, List.getElem?_cons_succ] at hc0 hc1 hc2
  have hlt := hx.lt
  clear hr
  go_wp2_with fail
  refine (hbl _).mono ?_
  rintro e w2 ⟨rfl, hb2⟩
  have hx2 := hx.below hb2
  have hb02 : Below w.heap.size w w2 := hb01.trans (hb2.mono hb01.size)
  have hlt2 := hx2.lt
  have hsz02 := hb02.size
  clear hbl hx hc0 hc1 hc2 hlt hb hb01 hb2
  go_wp2_with fail
  go_loopw [6, 18] (fun o i wr => ∃ (n : Nat) (bs : List (List Row)), n ≤ N ∧ i = .int .i64 n ∧ go n = .ok bs ∧ Own KRows 134 w2.heap.size (old w2) wr o bs ∧ Below w2.heap.size w2 wr) (fun _ i _ => N - (intOf i).toNat)
  case atStart => exact ⟨0, [], Nat.zero_le _, rfl, HG0.out, Own.nil, Below.refl _ _⟩
  case round =>
    obtain ⟨n, bs, hn, rfl, hgo, ho, hbel⟩ := hrel
    have HGO : Hid (go n = .ok bs) := hgo
    have hbl := (HGF.out n bs hgo).1
    have HBL : Hid (bs.length = n) := hbl
    clear hgo hbl
    have hsz := hbel.size
    have hxr := hx2.below hbel
    have hc0 := hxr.cell 0
    have hc1 := hxr.cell 1
    have hc2 := hxr.cell 2
    simp only [List.getElem?_cons_zero, List.getElem?_cons_succ] at hc0 hc1 hc2
    have hlt := hxr.lt
    have hbw := hb02.trans (hbel.mono hsz02)
    by_cases hlt' : n < N
    · obtain ⟨wo, rfl⟩ : ∃ wo : World, wo = wr := ⟨_, rfl⟩
      go_wp2_with fail
      go_loopw [8, 23] (fun d i wi => ∃ m : Nat, m ≤ l.length ∧ i = .int .i64 m ∧ Own KDrop 133 wo.heap.size noB wi d (picks s.d n (l.take m)) ∧ Below wo.heap.size wo wi) (fun _ i _ => l.length - (intOf i).toNat)
      case atStart => exact ⟨0, Nat.zero_le _, rfl, Own.nil, Below.refl _ _⟩
      case round =>
        obtain ⟨m, hm, rfl, hd, hbi⟩ := hrel
        have hszi := hbi.size
        have hbwi := hbw.trans (hbi.mono hbw.size)
        have hxi := hxr.below hbi
        have hd0 := hxi.cell 0
        have hd1 := hxi.cell 1
        have hd2 := hxi.cell 2
        simp only [List.getElem?_cons_zero, List.getElem?_cons_succ] at hd0 hd1 hd2
        have hlti := hxi.lt
        by_cases hml : m < l.length
        · obtain ⟨ad, u, rfl, hu, hok, q0, q1, q2, q3, q4, q5, q6, q7, q8, q9⟩ := KRecs.at_ hl hml
          have r0 := cell_below hbwi _ _ q0
          have r1 := cell_below hbwi _ _ q1
          have r2 := cell_below hbwi _ _ q2
          have r3 := cell_below hbwi _ _ q3
          have r4 := cell_below hbwi _ _ q4
          have r5 := cell_below hbwi _ _ q5
          have r6 := cell_below hbwi _ _ q6
          have r7 := cell_below hbwi _ _ q7
          have r8 := cell_below hbwi _ _ q8
          have r9 := cell_below hbwi _ _ q9
          have hst := picks_snoc s.d n (l.take m) l[m]
          rw [← List.take_succ_eq_append_getElem hml] at hst
          have hpl := picks_length s.d n (l.take m)
          rw [List.length_take] at hpl
          have HS : Hid (picks s.d n (l.take (m + 1)) = if isOf s.d n l[m] then picks s.d n (l.take m) ++ [(l[m].esi, l[m].data)] else picks s.d n (l.take m)) := hst
          have HIO : Hid (isOf s.d n l[m] = (decide (l[m].sh = s.d) && !l[m].gone && decide (l[m].block = (n : Int)))) := rfl
          clear hst q0 q1 q2 q3 q4 q5 q6 q7 q8 q9
          generalize picks s.d n (l.take m) = ps at *
          generalize isOf s.d n l[m] = io at *
          generalize l[m] = r at *
          have hpl2 : ps.length ≤ 1000000 := by omega
          obtain ⟨rp, rn, ⟨rb, rz, rm⟩, rbl, re, rg, rt, rd⟩ := r
          simp only at hu hok r0 r1 r2 r3 r4 r5 r6 r7 r8 r9 HS HIO
          obtain ⟨Au, cu, rfl, -⟩ := KSl.val hu
          have hupd := hbi.trans ((below_one wr (.cells #[.int .i64 rp, .int .i64 rn, .int .i64 rb, .int .i64 rz, .int .i64 rm, .int .i64 rbl, .int .i64 re, .bool rg, .int .i64 rt, .slice Au rd.length cu] 39)).mono hszi)
          have hd' := hd.below (below_one wr (.cells #[.int .i64 rp, .int .i64 rn, .int .i64 rb, .int .i64 rz, .int .i64 rm, .int .i64 rbl, .int .i64 re, .bool rg, .int .i64 rt, .slice Au rd.length cu] 39))
          by_cases hsh : (⟨rb, rz, rm⟩ : ShapeD) = s.d
          · injection hsh with f1 f2 f3
            subst f1 f2 f3
            have heq := eq_shape_yes s.b s.z s.m
            have hdec0 : decide ((⟨s.b, s.z, s.m⟩ : ShapeD) = s.d) = true := decide_eq_true rfl
            rw [hdec0, Bool.true_and] at HIO
            cases rg with
            | true =>
              have HS2 : Hid (picks s.d n (l.take (m + 1)) = ps) := by
                show _ = _
                rw [HS.out, HIO.out]; rfl
              clear HS HIO hd hdec0
              go_wp2
              go_roundw
              case rel => exact ⟨m + 1, by omega, by go_num, by rw [HS2.out]; exact hd', hupd⟩
              case measure => simp [intOf]; omega
            | false =>
              by_cases hbn : rbl = (n : Int)
              · subst hbn
                have HS2 : Hid (picks s.d n (l.take (m + 1)) = ps ++ [(re, rd)]) := by
                  show _ = _
                  rw [HS.out, HIO.out]; simp
                have hub : ∀ g, u8.ownBlock = some g → wo.heap.size ≤ g := fun g hg => (hd.block hg).1
                have hsz0 := hbw.size
                have hlif : KDrop.R (fun g => noB g ∨ u8.ownBlock = some g) (wr.alloc (.cells #[.int .i64 rp, .int .i64 rn, .int .i64 s.b, .int .i64 s.z, .int .i64 s.m, .int .i64 (n : Int), .int .i64 re, .bool false, .int .i64 rt, .slice Au rd.length cu] 39)) [.int .i64 re, .slice Au rd.length cu] (re, rd) :=
                  ⟨_, rfl, Kd.below (KBs.anti (M' := fun g => noB g ∨ u8.ownBlock = some g) hu fun g hg hm => by
                    rcases hm with h | h
                    · exact h
                    · have := hub g h; omega) (hbwi.trans ((below_one wr _).mono hbwi.size)), hok.2.2.2.2.1⟩
                clear HS HIO hd hdec0 hub hu
                have hbox := Blk.new wr 39 [.int .i64 rp, .int .i64 rn, .int .i64 s.b, .int .i64 s.z, .int .i64 s.m, .int .i64 (n : Int), .int .i64 re, .bool false, .int .i64 rt, .slice Au rd.length cu]
                have e6 := hbox.cell 6
                have e9 := hbox.cell 9
                simp only [List.getElem?_cons_zero, List.getElem?_cons_succ] at e6 e9
                have hlb := hbox.lt
                have hszb := hupd.size
                clear hbox
                go_upto_region 12 with fail
                generalize wr.alloc (.cells #[.int .i64 rp, .int .i64 rn, .int .i64 s.b, .int .i64 s.z, .int .i64 s.m, .int .i64 (n : Int), .int .i64 re, .bool false, .int .i64 rt, .slice Au rd.length cu] 39) = wb at *
                go_wp2_with (at_builtin; refine wpList_app1 (w1 := wb) elemDrop rfl _ _ rfl rfl rfl hd' hlif ?c1 ?c2 ?c3 ?c4 ?_)
                case c1 => omega
                case c2 => omega
                case c3 => exact hupd.size
                case c4 => exact fun g h => h.elim
                intro v' w6 hown2 hb6 hob2
                have hup2 := hupd.trans hb6
                clear hlif hd' hob2
                go_wp2_with fail
                go_roundw
                case rel => exact ⟨m + 1, by omega, by go_num, by rw [HS2.out]; exact hown2, hup2⟩
                case measure => simp [intOf]; omega
              · have HS2 : Hid (picks s.d n (l.take (m + 1)) = ps) := by
                  show _ = _
                  rw [HS.out, HIO.out]; simp [hbn]
                have hbe : (rbl == (n : Int)) = false := by simpa using hbn
                clear HS HIO hd hdec0 hbn
                go_wp2
                go_roundw
                case rel => exact ⟨m + 1, by omega, by go_num, by rw [HS2.out]; exact hd', hupd⟩
                case measure => simp [intOf]; omega
          · have heq := eq_shape_no rb rz rm s.b s.z s.m hsh
            have HS2 : Hid (picks s.d n (l.take (m + 1)) = ps) := by
              show _ = _
              rw [HS.out, HIO.out, decide_eq_false hsh]; rfl
            clear hsh HS HIO hd
            go_wp2
            go_roundw
            case rel => exact ⟨m + 1, by omega, by go_num, by rw [HS2.out]; exact hd', hupd⟩
            case measure => simp [intOf]; omega
        · have e : m = l.length := by omega
          subst e
          rw [List.take_of_length_le (Nat.le_refl _)] at hd
          have hpl := picks_length s.d n l
          have hdl := hd.sl (bytes := 32) (M' := noB) (by omega) (fun _ _ h => h.elim) (fun _ _ h => h)
          have hkn1 := hk n hlt'
          obtain ⟨hk1, hk2⟩ := hkn n
          have hdc := fun W (hW : Below wr.heap.size wr W) => hdec (kN s n) hk1 hk2 u8 _ W (Kd.below hdl hW) (by omega)
          have HGN : Hid (go (n + 1) = decStep bs (decB (kN s n) s.z (picks s.d n l))) := HGS.out n bs HGO.out
          have herr := fun q => decB_err (k := kN s n) (size := s.z) (l := picks s.d n l) (q := q)
          have how := ho.below hbi
          have hbi' : Below w2.heap.size wo wr := hbi.mono hsz
          have hbow := hbel.trans hbi'
          have hbo : ∀ g, u6.ownBlock = some g → w2.heap.size ≤ g := fun g hg => (ho.block hg).1
          generalize decB (kN s n) s.z (picks s.d n l) = db at *
          clear hd hdl hdec hpl hkn ho
          go_upto_region 14 with fail
          refine wp_region_plan2 [0, 1, 3, 4, 5] [0, 4] [2, 6] [] [7, 8, 9, 10, 11] (fun w' => w'.cell? ⟨w.heap.size, 0, none⟩ = some (.int .i64 s.b) ∧ w'.cell? ⟨w.heap.size, 1, none⟩ = some (.int .i64 s.z) ∧ w'.cell? ⟨w.heap.size, 2, none⟩ = some (.int .i64 s.m)) (by kernel_rfl) (by kernel_rfl) (fun _ _ _ _ _ h => h) ⟨hd0, hd1, hd2⟩ ?_
          simp only [List.map_cons, List.map_nil, opAt, List.getD_cons_zero, List.getD_cons_succ, List.contains_cons, List.contains_nil, Nat.reduceBEq, Bool.or_false, Bool.or_true]
          apply front_hot
          · intro w9 hS
            obtain ⟨hS0, hS1, hS2⟩ := hS
            go_simp
            with_reducible rfl
          go_simp
          iterate 2
            apply front_cons
            · intro w9
              go_simp
              with_reducible rfl
            go_simp
          apply front_hot
          · intro w9 hS
            obtain ⟨hS0, hS1, hS2⟩ := hS
            go_simp
            with_reducible rfl
          go_simp
          apply front_cons
          · intro w9
            go_simp
            with_reducible rfl
          go_simp
          refine front_nil ?_
          refine etail_cons (fun K hK => ?_)
          go_simp
          refine (hkn1 _).mono ?_
          rintro e w8 ⟨rfl, hb8⟩
          have hb8' : Below wr.heap.size wr w8 := (Below.refl _ _).drew.trans hb8
          have hsz8 := hb8'.size
          refine hK _ _ (fun _ => ⟨cell_below hb8' _ _ hd0, cell_below hb8' _ _ hd1, cell_below hb8' _ _ hd2⟩) ?_
          clear hK K
          go_simp
          refine etail_cons (fun K hK => ?_)
          go_simp
          refine (hdc w8 hb8').mono ?_
          rintro e w9 hr9
          cases db with
          | error q =>
            obtain ⟨rfl, hb9⟩ := hr9.no_
            have hb9' := hb8'.trans (hb9.mono hb8'.size)
            have hqq : ((q : Int) != 0) = true := by rcases herr q rfl with rfl | rfl | rfl | rfl <;> rfl
            have HN : Hid (out = .error q) := by
              show out = _
              rw [HO.out, HGE.out (n + 1) N q (by omega) HGN.out]; rfl
            have hbw9 := hbwi.trans (hb9'.mono hbwi.size)
            clear hr9 hdc herr
            refine hK _ _ (fun _ => ⟨cell_below hb9' _ _ hd0, cell_below hb9' _ _ hd1, cell_below hb9' _ _ hd2⟩) ?_
            clear hK K
            go_simp
            refine etail_nil ?_
            iterate 5
              apply front_cons
              · intro w9
                go_simp
                with_reducible rfl
              go_simp
            refine front_nil ?_
            go_wp2
            go_ret2
            rw [HN.out]
            exact RetE.err_ hbw9
          | ok x =>
            obtain ⟨v9, rfl, hb9, hv9⟩ := hr9.ok_
            have hb9' := hb8'.trans (hb9.mono hb8'.size)
            have HN : Hid (go (n + 1) = .ok (bs ++ [x])) := HGN.out
            have hbw9 := hbow.trans (hb9'.mono hbow.size)
            have ho9 := how.below hb9'
            have hlif := Own.lift how (fun g (hg : g < w2.heap.size) => by have := hbi.size; omega) (KRows.anti (M' := old wr) hv9 fun g hg (hm : g < wr.heap.size) => by show g < w8.heap.size; omega)
            obtain ⟨A9, c9, rfl, -⟩ := KSl.val hv9
            have hsz9 := hb9'.size
            have hsz2 := hbi.size
            clear hr9 hdc herr how hv9
            refine hK _ _ (fun _ => ⟨cell_below hb9' _ _ hd0, cell_below hb9' _ _ hd1, cell_below hb9' _ _ hd2⟩) ?_
            clear hK K
            go_simp
            refine etail_nil ?_
            iterate 5
              apply front_cons
              · intro w9
                go_simp
                with_reducible rfl
              go_simp
            refine front_nil ?_
            go_wp2_with (at_builtin; refine wpList_app1 (w1 := w9) elemRows rfl _ _ rfl rfl rfl ho9 hlif ?c1 ?c2 ?c3 ?c4 ?_)
            case c1 => rw [HBL.out]; omega
            case c2 => omega
            case c3 => omega
            case c4 => exact fun g (h : g < w2.heap.size) => by omega
            intro v' w6 hown2 hb6 hob2
            have hup6 := hbw9.trans (hb6.mono (Nat.le_refl _))
            clear hlif ho9
            go_wp2_with fail
            go_roundw
            case rel => exact ⟨n + 1, bs ++ [x], by omega, by go_num, HN.out, hown2, hup6⟩
            case measure => simp [intOf]; omega
    · have e : n = N := by omega
      subst e
      have HO2 : Hid (out = .ok (joinS s bs)) := by
        show out = _
        rw [HO.out, HGO.out]; rfl
      have hfit : Blocks.Fit s bs := by
        obtain ⟨f1, f2, f3⟩ := HGF.out n bs HGO.out
        exact ⟨f1.trans HN.out, f2, f3⟩
      have hbv := ho.sl (bytes := 24) (M' := noB) (by rw [HBL.out]; omega) (fun _ _ h => h.elim) (fun _ _ h => h)
      have hjr := hjoin u6 bs hfit wr hbv
      clear hjoin hdec hfit hbv ho
      go_wp2_with fail
      refine hjr.mono ?_
      rintro e w7 hr7
      obtain ⟨v7, rfl, hb7, hv7⟩ := hr7.ok_
      go_wp2
      go_ret2
      rw [HO2.out]
      exact RetE.mk_ (hbw.trans (hb7.mono hbw.size)) (KBs.anti (M' := old w) hv7 fun g hg hm => by have := hbw.size; simp only [old] at *; omega)
end Go.Proofs.Ytpdfcgkeclocoaa
