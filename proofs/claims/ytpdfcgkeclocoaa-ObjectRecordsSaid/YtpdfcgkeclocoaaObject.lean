/- The walks of object.New, Symbol. -/
import Derived.Test.YtpdfcgkeclocoaaJoin
set_option linter.all false
namespace Go.Proofs.Ytpdfcgkeclocoaa
open Go.RowKit GF
attribute [local go_sem ↓] Go.wp_at_zero Go.wp_at_succ

structure ObjD where
  sh : Shp
  bs : List BlockD
def KObj : Kd ObjD where
  size := 4
  R := fun M w cs o => ∃ v, cs = [.int .i64 o.sh.b, .int .i64 o.sh.z, .int .i64 o.sh.m, v] ∧ (KSl 8 KBlockP).R M w [v] o.bs ∧ o.sh.Ok
  len := fun ⟨v, e, _⟩ => by rw [e]; rfl
  keep := fun ⟨v, e, h, o⟩ hb => ⟨v, e, (KSl 8 KBlockP).keep h hb, o⟩
  anti := fun ⟨v, e, h, o⟩ hm => ⟨v, e, (KSl 8 KBlockP).anti h hm, o⟩
  one := fun ⟨v, e, h, _⟩ u hu => by
    have hv := (KSl 8 KBlockP).one h v (by simp)
    rw [e] at hu
    simp only [List.mem_cons, List.not_mem_nil, or_false] at hu
    rcases hu with rfl | rfl | rfl | rfl <;> first | rfl | exact hv
abbrev KObjP : Kd ObjD := KPtr KObj

def objStep (bs : List BlockD) : Except Nat BlockD → Except Nat (List BlockD)
  | .error q => .error q
  | .ok b => .ok (bs ++ [b])
/-- The blocks of an object, up to n. -/
def objGo (z : Nat) (l : List (List Row)) : Nat → Except Nat (List BlockD)
  | 0 => .ok []
  | n + 1 => match objGo z l n with
    | .error q => .error q
    | .ok bs => objStep bs (newBlock z (l.getD n []))
def objV (s : Shp) : Except Nat (List BlockD) → Except Nat ObjD
  | .error q => .error q
  | .ok bs => .ok ⟨s, bs⟩
def newObj (s : Shp) (d : List UInt8) : Except Nat ObjD := objV s (objGo s.z (cutS s d) (blkN s))
theorem objGo_length {z : Nat} {l : List (List Row)} : ∀ {n : Nat} {bs : List BlockD}, objGo z l n = .ok bs → bs.length = n
  | 0, bs, h => by injection h with h; rw [← h]; rfl
  | n + 1, bs, h => by
    unfold objGo at h
    cases h1 : objGo z l n with
    | error q => rw [h1] at h; cases h
    | ok cs =>
      rw [h1] at h
      simp only at h
      cases h2 : newBlock z (l.getD n []) with
      | error q => rw [h2] at h; cases h
      | ok b =>
        rw [h2] at h
        injection h with h
        rw [← h, List.length_append, objGo_length h1]; rfl
theorem objGo_err {z : Nat} {l : List (List Row)} {q : Nat} : ∀ {n m : Nat}, n ≤ m → objGo z l n = .error q → objGo z l m = .error q
  | n, 0, hm, h => by
    obtain rfl : n = 0 := Nat.le_zero.1 hm
    exact h
  | n, m + 1, hm, h => by
    by_cases e : n = m + 1
    · rw [← e]; exact h
    · unfold objGo
      rw [objGo_err (m := m) (by omega) h]
theorem cutGo_get {s : Shp} {d : List UInt8} : ∀ (n i : Nat) (h : i < n), ∃ h2 : i < (cutGo s n d).1.length, ((cutGo s n d).1[i]'h2).length = kN s i ∧ ∀ r ∈ (cutGo s n d).1[i]'h2, r.length = s.z
  | 0, i, h => by omega
  | n + 1, i, h => by
    refine ⟨by rw [cutGo_length]; exact h, ?_⟩
    by_cases e : i < n
    · obtain ⟨h2, h3, h4⟩ := cutGo_get (s := s) (d := d) n i e
      simp only [cutGo]
      rw [List.getElem_append_left h2]
      exact ⟨h3, h4⟩
    · obtain rfl : i = n := by omega
      simp only [cutGo]
      rw [List.getElem_append_right (by rw [cutGo_length]; omega)]
      simp only [cutGo_length, Nat.sub_self, List.getElem_cons_zero]
      exact ⟨chop_length _ _ _, chop_row _ _ _⟩
theorem cutS_get {s : Shp} {d : List UInt8} {i : Nat} (h : i < blkN s) : ((cutS s d).getD i []).length = kN s i ∧ ∀ r ∈ (cutS s d).getD i [], r.length = s.z := by
  obtain ⟨h2, h3⟩ := cutGo_get (s := s) (d := d) (blkN s) i h
  unfold cutS
  rw [getD_eq _ _ _ h2]
  exact h3
theorem newBlock_err {z : Nat} {src : List Row} {q : Nat} (h : newBlock z src = .error q) : q = 5 ∨ q = 4 := by
  unfold newBlock newV at h
  split at h
  · injection h with h; exact .inl h.symm
  · split at h
    · rename_i hp
      injection h with h
      subst h
      exact .inr (solveP_err hp)
    · cases h
theorem Own.slice_ {α : Type} {K : Kd α} {e : TypeId} {B : Nat} {M : Blocks} {w : World} {v : Value} {xs : List α} (h : Own K e B M w v xs) : ∃ A c, v = .slice A xs.length c := by
  obtain ⟨css, hl, hown, _⟩ := h
  rcases hown.2 with ⟨rfl, hn⟩ | ⟨g, cap, cur, rfl, _⟩
  · exact ⟨none, 0, by rw [hn]⟩
  · exact ⟨_, _, rfl⟩
theorem elemBlockP : Elem Try.prog 126 145 KBlockP.size 8 := Elem.mk' (z := .pointer none) Try.underlying126 (by kernel_rfl) (by decide) rfl

set_option maxRecDepth 100000 in
set_option maxHeartbeats 2000000 in
theorem newObj_any (s : Shp) (h : s.Ok) (v : Value) (d : List UInt8) (w : World) (hd : KBs.R noB w [v] d) (hl : d.length = s.b) :
    Calls Try.prog 22 #[.agg #[.int .i64 s.b, .int .i64 s.z, .int .i64 s.m], v] w (RetE KObjP (.pointer none) w (newObj s d)) := by
  have hcut := fun W (hW : KBs.R noB W [v] d) => cut_yes s h v d W hW hl
  have hcl : (cutS s d).length = blkN s := cutGo_length _ _ _
  have hcg := fun i (hi : i < blkN s) => cutS_get (s := s) (d := d) hi
  have hkn := kN_le h
  have hbn := blkN_le h
  have hsn := symN_le h
  have hz1 := h.z1
  have hz2 := h.z2
  have hno : newObj s d = objV s (objGo s.z (cutS s d) (blkN s)) := rfl
  have hg0 : objGo s.z (cutS s d) 0 = .ok [] := rfl
  have hgs := fun n => show objGo s.z (cutS s d) (n + 1) = (match objGo s.z (cutS s d) n with
    | .error q => .error q
    | .ok bs => objStep bs (newBlock s.z ((cutS s d).getD n []))) from rfl
  have hge := fun n m q (hnm : n ≤ m) => objGo_err (z := s.z) (l := cutS s d) (q := q) (n := n) (m := m) hnm
  have hgl := fun n bs => objGo_length (z := s.z) (l := cutS s d) (n := n) (bs := bs)
  obtain ⟨A, cp, rfl, -⟩ := KSl.val hd
  generalize newObj s d = out at *
  generalize objGo s.z (cutS s d) = go at *
  generalize cutS s d = cs at *
  have HO : Hid (out = objV s (go (blkN s))) := hno
  have HG0 : Hid (go 0 = .ok []) := hg0
  have HGS : Hid (∀ n, go (n + 1) = match go n with
    | .error q => .error q
    | .ok bs => objStep bs (newBlock s.z (cs.getD n []))) := hgs
  have HGE : Hid (∀ n m q, n ≤ m → go n = .error q → go m = .error q) := hge
  have HGL : Hid (∀ n bs, go n = .ok bs → bs.length = n) := hgl
  have HCL : Hid (cs.length = blkN s) := hcl
  have HCG : Hid (∀ i, i < blkN s → (cs.getD i []).length = kN s i ∧ ∀ r ∈ cs.getD i [], r.length = s.z) := hcg
  have hbN : blkN s ≤ 4000 := by omega
  clear hno hg0 hgs hge hgl hcg hsn hbn hl hcl
  go_enter Try.func22, Try.ntmps22
  go_wp2_with fail
  have hx := Blk.new w 32 [.int .i64 s.b, .int .i64 s.z, .int .i64 s.m]
  have hbe := below_one w (.cells #[.int .i64 s.b, .int .i64 s.z, .int .i64 s.m] 32)
  have hcu := hcut _ (Kd.below hd hbe)
  have hszx : (w.alloc (.cells #[.int .i64 s.b, .int .i64 s.z, .int .i64 s.m] 32)).heap.size = w.heap.size + 1 := by simp
  generalize w.alloc (.cells #[.int .i64 s.b, .int .i64 s.z, .int .i64 s.m] 32) = wa at *
  refine hcu.mono ?_
  rintro e w1 hcr
  obtain ⟨v1, rfl, hb1, hv1⟩ := hcr.ok_
  have hx1 := hx.below hb1
  have hb01 := hbe.trans (hb1.mono hbe.size)
  have hlt1 := hx1.lt
  have hc0 := hx1.cell 0
  have hc1 := hx1.cell 1
  have hc2 := hx1.cell 2
  simp only [List.getElem?_cons_zero, List.getElem?_cons_succ] at hc0 hc1 hc2
  obtain ⟨A1, c1, rfl, hl1, hl2, -⟩ := KSl.val hv1
  have hsz1 := hb1.size
  have HSX : Hid (wa.heap.size = w.heap.size + 1) := hszx
  have hsx : w.heap.size < wa.heap.size := by omega
  have hob := Blk.new w1 128 [.int .i64 s.b, .int .i64 s.z, .int .i64 s.m, .slice none 0 0]
  have hxo := hx1.below (below_one w1 (.cells #[.int .i64 s.b, .int .i64 s.z, .int .i64 s.m, .slice none 0 0] 128))
  have hvo := Kd.below (KRowss.anti (M' := fun g => g = w1.heap.size) hv1 fun g hg hm => by omega) (below_one w1 (.cells #[.int .i64 s.b, .int .i64 s.z, .int .i64 s.m, .slice none 0 0] 128))
  have hbo := hb01.alloc (show w.heap.size ≤ w1.heap.size by omega) (.cells #[.int .i64 s.b, .int .i64 s.z, .int .i64 s.m, .slice none 0 0] 128)
  clear hcu hcut hcr hszx hx hv1
  go_wp2_with fail
  generalize hwl : w1.alloc (.cells #[.int .i64 s.b, .int .i64 s.z, .int .i64 s.m, .slice none 0 0] 128) = wl at *
  have hszl : wl.heap.size = w1.heap.size + 1 := by rw [← hwl]; simp
  have hltl : w1.heap.size < wl.heap.size := by omega
  have HSL : Hid (wl.heap.size = w1.heap.size + 1) := hszl
  clear hwl hszl hc0 hc1 hc2
  go_loopw [27] (fun i wr => ∃ (n : Nat) (bs : List BlockD) (vb : Value), n ≤ cs.length ∧ i = .int .i64 n ∧ go n = .ok bs ∧ Blk wr w1.heap.size 128 [.int .i64 s.b, .int .i64 s.z, .int .i64 s.m, vb] ∧ Own KBlockP 145 wl.heap.size (old wl) wr vb bs ∧ Upd (fun g => g = w1.heap.size) wl wr) (fun i _ => cs.length - (intOf i).toNat)
  case atStart => exact ⟨0, [], _, Nat.zero_le _, rfl, HG0.out, hob, Own.nil, Upd.refl _ _⟩
  case round =>
    obtain ⟨n, bs, vb, hn, rfl, hgo, hbk, ho, hup⟩ := hrel
    have HGO : Hid (go n = .ok bs) := hgo
    have hbl := HGL.out n bs hgo
    have HBL : Hid (bs.length = n) := hbl
    have hszr := hup.size
    have hbw : Below w.heap.size w wr := hbo.trans ⟨hup.os, hup.tape, hup.output, hup.size, fun b hb => hup.block b (by omega) (by omega)⟩
    obtain ⟨Ab, cb, rfl⟩ := ho.slice_
    clear hgo hbl hob
    have hoc0 := hbk.cell 0
    have hoc1 := hbk.cell 1
    have hoc2 := hbk.cell 2
    have hoc3 := hbk.cell 3
    simp only [List.getElem?_cons_zero, List.getElem?_cons_succ] at hoc0 hoc1 hoc2 hoc3
    have hofr := hbk.frozen 3
    have hltk := hbk.lt
    by_cases hlt : n < cs.length
    · have hvr : KRowss.R noB wr [.slice A1 cs.length c1] cs := Kd.drop (Kd.upd hvo hup)
      obtain ⟨ad, u, rfl, hcu, hu⟩ := KRowss.at_ hvr hlt
      have hgN : n < blkN s := by rw [← HCL.out]; exact hlt
      obtain ⟨hgk, hgz⟩ := HCG.out n hgN
      have hgs := HGS.out n
      rw [HGO.out] at hgs
      simp only at hgs
      rw [getD_eq _ _ _ hlt] at hgk hgz hgs
      have hkk := hkn n
      have hnb := newBlock_any s.z hz1 hz2 u cs[n] (by omega) (by omega) hgz wr hu
      have herr := fun q => newBlock_err (z := s.z) (src := cs[n]) (q := q)
      obtain ⟨Au, cu, rfl, -⟩ := KSl.val hu
      generalize newBlock s.z cs[n] = nb at *
      generalize cs[n] = rs at *
      have HGN : Hid (go (n + 1) = objStep bs nb) := hgs
      have hzc := (hx1.cell 1)
      have hxr : Blk wr w.heap.size 32 [.int .i64 s.b, .int .i64 s.z, .int .i64 s.m] := hxo.same (hup.block _ (by omega) (by omega))
      have hxc := hxr.cell 1
      simp only [List.getElem?_cons_zero, List.getElem?_cons_succ] at hxc
      clear hgs hgk hgz hvr hu hzc
      go_wp2_with fail
      refine hnb.mono ?_
      rintro e w3 hr3
      cases nb with
      | error q =>
        obtain ⟨rfl, hb3⟩ := hr3.no_
        have hqq : ((q : Int) != 0) = true := by rcases herr q rfl with rfl | rfl <;> rfl
        have HN : Hid (out = .error q) := by
          show out = _
          rw [HO.out, HGE.out (n + 1) (blkN s) q (by omega) HGN.out]; rfl
        clear hr3 hnb herr
        go_wp2
        go_ret2
        rw [HN.out]
        exact RetE.err_ (hbw.trans (hb3.mono hbw.size))
      | ok b =>
        obtain ⟨v3, rfl, hb3, hv3⟩ := hr3.ok_
        have HN : Hid (go (n + 1) = .ok (bs ++ [b])) := HGN.out
        have hlif := Own.lift ho (fun g (hg : g < wl.heap.size) => by omega) hv3
        have ho3 := ho.below hb3
        have hbk3 := hbk.below hb3
        have hd0 := hbk3.cell 0
        have hd1 := hbk3.cell 1
        have hd2 := hbk3.cell 2
        have hd3 := hbk3.cell 3
        simp only [List.getElem?_cons_zero, List.getElem?_cons_succ] at hd0 hd1 hd2 hd3
        have hsz3 := hb3.size
        have hltk3 := hbk3.lt
        obtain ⟨g3, _, rfl, -⟩ := KPtr.val hv3
        clear hnb hr3 herr ho hbk hoc0 hoc1 hoc2 hoc3 hofr hv3
        go_wp2_with (at_builtin; refine wpList_app1 elemBlockP rfl _ _ rfl rfl rfl ho3 hlif ?c1 ?c2 ?c3 ?c4 ?_)
        case c1 => rw [HBL.out]; omega
        case c2 => omega
        case c3 => omega
        case c4 => exact fun g (h : g < wl.heap.size) => by omega
        intro v' w6 hown2 hb6 hob2
        obtain ⟨A6, c6, e6⟩ := hown2.slice_
        rw [show (bs ++ [b]).length = bs.length + 1 from by simp] at e6
        subst e6
        have hbk6 : Blk w6 w1.heap.size 128 [.int .i64 s.b, .int .i64 s.z, .int .i64 s.m, .slice Ab bs.length cb] := hbk3.same (hb6.block _ (by omega))
        have hf3 := hbk6.cell 3
        simp only [List.getElem?_cons_zero, List.getElem?_cons_succ] at hf3
        have hfr6 := hbk6.frozen 3
        have hlt6 := hbk6.lt
        have hset := hbk6.set_ 3 (.slice A6 (bs.length + 1) c6)
        have hups : Upd (fun g => g = w1.heap.size) w6 (w6.setCell ⟨w1.heap.size, 3, none⟩ (.slice A6 (bs.length + 1) c6)) := Upd.set_ w6 ⟨w1.heap.size, 3, none⟩ _
        have hown3 := hown2.upd (hups.mono (M' := old wl) (fun g _ (h : g = w1.heap.size) => by show g < wl.heap.size; omega)) (fun g hg (h : g < wl.heap.size) => by have := (hown2.block hg).1; omega)
        have hup6 : Upd (fun g => g = w1.heap.size) wl w6 := ⟨hb6.os.trans (hb3.os.trans hup.os), hb6.tape.trans (hb3.tape.trans hup.tape), hb6.output.trans (hb3.output.trans hup.output), by have := hb6.size; omega, fun g hg hn => (hb6.block g hg).trans ((hb3.block g (by omega)).trans (hup.block g hg hn))⟩
        have hup3 := hup6.trans hups
        clear ho3 hlif hown2
        go_wp2_with fail
        go_roundw
        case rel => exact ⟨n + 1, bs ++ [b], _, by omega, by go_num, HN.out, hset, hown3, hup3⟩
        case measure => simp [intOf]; omega
    · have e : n = cs.length := by omega
      subst e
      have HN : Hid (out = .ok ⟨s, bs⟩) := by
        show out = _
        rw [HO.out, ← HCL.out, HGO.out]; rfl
      have hr := ho.sl (bytes := 8) (M' := old w) (by rw [HBL.out, HCL.out]; omega) (fun g _ (hg : g < w.heap.size) => by show g < wl.heap.size; omega) (fun g hg (hm : g < w.heap.size) => by have := (ho.block hg).1; omega)
      clear ho
      go_wp2
      go_ret2
      rw [HN.out]
      exact RetE.mk_ hbw (KPtr.of_blk hbk (fun (h : w1.heap.size < w.heap.size) => by omega) ⟨_, rfl, hr, h⟩)
end Go.Proofs.Ytpdfcgkeclocoaa
