/- The walk of solve.reduce. -/
import Derived.Test.YtpdfcgkeclocoaaArr
import Derived.Test.YtpdfcgkeclocoaaRegion
import Derived.BigRegion
import Derived.Shelf.Abstract
import Derived.Deep.LoopGhost
import Derived.BigQuiet
import Derived.Deep.QuietTactic
set_option linter.all false
namespace Go.Proofs.Ytpdfcgkeclocoaa
open Go.RowKit GF
attribute [local go_sem ↓] Go.wp_at_zero Go.wp_at_succ

theorem at0_get {r : Row} {i : Nat} (h : i < r.length) : r[i] = at0 r i := by simp [at0, List.getD_eq_getElem?_getD, h]

/-- The closure of reduce: is the place at of a row not 0? -/
theorem nonzero_any (v : Value) (r : Row) (c gb : Nat) (hc : c < r.length) (w : World) (h : KBs.R noB w [v] r) (hb : w.cell? ⟨gb, 0, none⟩ = some (.int .i64 c)) :
    Calls Try.prog 246 #[v, .pointer (some ⟨gb, 0, none⟩)] w fun e w' => e = .returned (.bool (at0 r c != 0)) ∧ w = w' := by
  obtain ⟨A, cp, rfl, _⟩ := KSl.val h
  obtain ⟨ad, rfl, hcell⟩ := KBs.byte h hc
  go_enter Try.func246, Try.ntmps246
  go_wp2
  go_ret
  exact ⟨ret_bool (by rw [u8_ne0, at0_get hc]), rfl⟩

theorem takeOne_eq {r p : Row} (h : p.length = r.length) (c : UInt8) : takeOne r c p = zipXor r (scale c p) := by
  have key : ∀ (r s : Row), r.length = s.length → xorInto (xorInto (List.replicate r.length 0) r) s = zipXor r s := by
    intro r
    induction r with
    | nil => intro s _; rfl
    | cons a r ih =>
      intro s hs
      cases s with
      | nil => simp at hs
      | cons b s =>
        have := ih s (by simpa using hs)
        show xorInto (xorInto (List.replicate (r.length + 1) 0) (a :: r)) (b :: s) = _
        rw [List.replicate_succ]
        simp only [xorInto]
        rw [this]
        simp [zipXor]
  exact key r _ (by rw [scale_length, h])

/-- What the search for a pivot comes to. -/
theorem seek_none_of {l : List Pair} {c n : Nat} (h : ∀ j, 0 ≤ j → j < 0 + (l.length - n) → (at0 (l.getD (n + j) d0).1 c != 0) = false) : seek c (l.drop n) n = none :=
  seek_no _ _ fun j hj => by
    rw [getD_drop]
    have := h j (Nat.zero_le _) (by rw [List.length_drop] at hj; omega)
    simpa using this
theorem seek_some_of {l : List Pair} {c n i : Nat} (hi : i < l.length - n) (h0 : ∀ j, 0 ≤ j → j < i → (at0 (l.getD (n + j) d0).1 c != 0) = false) (h1 : (at0 (l.getD (n + i) d0).1 c != 0) = true) : seek c (l.drop n) n = some (n + i) :=
  seek_first _ _ _ (fun j hj => by
    rw [getD_drop]
    have := h0 j (Nat.zero_le _) hj
    simpa using this) (by rw [List.length_drop]; exact hi) (by rw [getD_drop]; simpa using h1)

/-- The two arrays of the elimination. -/
structure St (gm gd cm cd wd z : Nat) (X : Blocks) (w0 w : World) (l : List Pair) : Prop where
  wf : Wf wd z l
  am : Arr KBs 131 (fun b => b = gm ∨ b = gd ∨ X b) w gm cm (l.map (·.1))
  ad : Arr KBs 131 (fun b => b = gm ∨ b = gd ∨ X b) w gd cd (l.map (·.2))
  upd : Upd (fun b => b = gm ∨ b = gd) w0 w

section
variable {gm gd cm cd wd z : Nat} {X : Blocks} {w0 w w' : World} {l : List Pair}
theorem St.below (h : St gm gd cm cd wd z X w0 w l) (hb : Below w.heap.size w w') : St gm gd cm cd wd z X w0 w' l := ⟨h.wf, h.am.below hb, h.ad.below hb, h.upd.trans (Upd.of_below hb)⟩
theorem St.drew (h : St gm gd cm cd wd z X w0 w l) : St gm gd cm cd wd z X w0 w.drew l := h.below (Below.refl _ _).drew
theorem St.m (h : St gm gd cm cd wd z X w0 w l) {i : Nat} (hi : i < l.length) : ∃ u, w.cell? ⟨gm, i, none⟩ = some u ∧ KBs.R (fun b => b = gm ∨ b = gd ∨ X b) w [u] l[i].1 ∧ l[i].1.length = wd := by
  obtain ⟨u, h1, h2⟩ := h.am.at_ (i := i) (by rw [List.length_map]; exact hi)
  rw [List.getElem_map] at h2
  have := (h.wf i hi).1
  rw [getD_eq _ _ _ hi] at this
  exact ⟨u, h1, h2, this⟩
theorem St.d (h : St gm gd cm cd wd z X w0 w l) {i : Nat} (hi : i < l.length) : ∃ u, w.cell? ⟨gd, i, none⟩ = some u ∧ KBs.R (fun b => b = gm ∨ b = gd ∨ X b) w [u] l[i].2 ∧ l[i].2.length = z := by
  obtain ⟨u, h1, h2⟩ := h.ad.at_ (i := i) (by rw [List.length_map]; exact hi)
  rw [List.getElem_map] at h2
  have := (h.wf i hi).2
  rw [getD_eq _ _ _ hi] at this
  exact ⟨u, h1, h2, this⟩

theorem red_end {all : Bool} {f c n : Nat} {l : List Pair} (h : f = 0 ∨ ¬ n < l.length) : red all f c n l = (n, l) := by
  cases f with
  | zero => rfl
  | succ f => unfold red; rw [if_neg (by omega)]
theorem red_none {all : Bool} {f c n : Nat} {l : List Pair} (hf : 0 < f) (h : n < l.length) (hs : seek c (l.drop n) n = none) : red all f c n l = if all then red all (f - 1) (c + 1) n l else (n, l) := by
  obtain ⟨f, rfl⟩ : ∃ g, f = g + 1 := ⟨f - 1, by omega⟩
  conv => lhs; unfold red
  rw [if_pos h, hs]
  rfl
theorem red_some {all : Bool} {f c n k : Nat} {l : List Pair} (hf : 0 < f) (h : n < l.length) (hs : seek c (l.drop n) n = some k) : red all f c n l = red all (f - 1) (c + 1) (n + 1) (elim l n k c) := by
  obtain ⟨f, rfl⟩ : ∃ g, f = g + 1 := ⟨f - 1, by omega⟩
  conv => lhs; unfold red
  rw [if_pos h, hs]
  rfl
theorem St.cap (h : St gm gd cm cd wd z X w0 w l) : l.length ≤ cm ∧ l.length ≤ cd := by
  obtain ⟨_, _, _, h3, _⟩ := h.am
  obtain ⟨_, _, _, h4, _⟩ := h.ad
  rw [List.length_map] at h3 h4
  exact ⟨h3, h4⟩
theorem find_any (h : St gm gd cm cd wd z X w0 w l) (nn c gb L : Nat) (hL : l.length = L) (hbig : L ≤ 1000000) (hc : c < wd) (hn : nn < L) (hbox : w.cell? ⟨gb, 0, none⟩ = some (.int .i64 c)) :
    ∃ r : Int, Calls Try.prog 187 #[.slice (some ⟨gm, nn, none⟩) (L - nn) (cm - nn), .func (.func 246) #[] #[.pointer (some ⟨gb, 0, none⟩)]] w
        (fun e w' => e = .returned (.int .i64 r) ∧ Below w.heap.size w w') ∧
      ((r = -1 ∧ seek c (l.drop nn) nn = none) ∨ ∃ i : Nat, r = (i : Int) ∧ nn + i < L ∧ seek c (l.drop nn) nn = some (nn + i) ∧ ∀ h, at0 (l[nn + i]'h).1 c ≠ 0) := by
  subst hL
  obtain ⟨vs, hblk, hvl, hle, hvs⟩ := h.am
  refine ⟨firstFrom (fun j => at0 (l.getD (nn + j) d0).1 c != 0) 0 (l.length - nn), ?_, ?_⟩
  · refine index_row _ _ (enters_of Try.func246 (by kernel_rfl) rfl) _ _ _ (by omega) (fun j => vs.getD (nn + j) undef) _ w (fun _ => ⟨_, rfl, fun j hj => ?_⟩) (fun j hj W hW => ?_)
    · have e : (⟨gm, nn, none⟩ : Addr).add j = ⟨gm, nn + j, none⟩ := by unfold Addr.add; split <;> simp_all
      obtain ⟨u, h5, _⟩ := hvs (nn + j) (by rw [List.length_map]; omega)
      rw [e, hblk.cell, h5, List.getD_eq_getElem?_getD, h5]
      rfl
    · obtain ⟨u, h5, h6⟩ := hvs (nn + j) (by rw [List.length_map]; omega)
      have hj' : nn + j < l.length := by omega
      have hlen := (h.wf (nn + j) hj').1
      rw [List.getElem_map] at h6
      simp only [getD_eq l (nn + j) d0 hj'] at hlen ⊢
      have := nonzero_any u l[nn + j].1 c gb (by rw [hlen]; exact hc) W (Kd.below (Kd.drop h6) hW) (cell_below hW _ _ hbox)
      have e : vs.getD (nn + j) undef = u := by rw [List.getD_eq_getElem?_getD, h5]; rfl
      simp only [e]
      refine this.mono ?_
      rintro e w' ⟨rfl, rfl⟩
      exact ⟨rfl, Below.refl _ _⟩
  · rcases firstFrom_cases (fun j => at0 (l.getD (nn + j) d0).1 c != 0) (l.length - nn) 0 with ⟨e, hno⟩ | ⟨i, e, _, hi, hyes, hbef⟩
    · exact .inl ⟨e, seek_none_of hno⟩
    · refine .inr ⟨i, e, by omega, seek_some_of (by omega) hbef hyes, fun h => ?_⟩
      rw [getD_eq l (nn + i) d0 h] at hyes
      simpa using hyes

def setM (l : List Pair) (i : Nat) (r : Row) : List Pair := l.set i (r, (l.getD i d0).2)
def setD (l : List Pair) (i : Nat) (r : Row) : List Pair := l.set i ((l.getD i d0).1, r)
theorem map_set1 (l : List Pair) (i : Nat) (r : Row) (h : i < l.length) : (setM l i r).map (·.1) = (l.map (·.1)).set i r ∧ (setM l i r).map (·.2) = l.map (·.2) := by
  unfold setM
  rw [List.map_set, List.map_set]
  refine ⟨rfl, ?_⟩
  rw [getD_eq _ _ _ h]
  have : l[i].2 = (l.map (·.2))[i]'(by rw [List.length_map]; exact h) := by rw [List.getElem_map]
  show (l.map (·.2)).set i l[i].2 = _
  rw [this, List.set_getElem_self]
theorem map_set2 (l : List Pair) (i : Nat) (r : Row) (h : i < l.length) : (setD l i r).map (·.1) = l.map (·.1) ∧ (setD l i r).map (·.2) = (l.map (·.2)).set i r := by
  unfold setD
  rw [List.map_set, List.map_set]
  refine ⟨?_, rfl⟩
  rw [getD_eq _ _ _ h]
  have : l[i].1 = (l.map (·.1))[i]'(by rw [List.length_map]; exact h) := by rw [List.getElem_map]
  show (l.map (·.1)).set i l[i].1 = _
  rw [this, List.set_getElem_self]
theorem wf_set {l : List Pair} {w z : Nat} (h : Wf w z l) {i : Nat} {p : Pair} (hp : p.1.length = w ∧ p.2.length = z) : Wf w z (l.set i p) := fun j hj => by
  rw [List.length_set] at hj
  rw [getD_eq _ _ _ (by rw [List.length_set]; exact hj), List.getElem_set]
  split
  · exact hp
  · rw [← getD_eq _ _ d0 hj]; exact h j hj
theorem St.setm (h : St gm gd cm cd wd z X w0 w l) (hg : gm ≠ gd) {i : Nat} (hi : i < l.length) {u : Value} {r : Row} (hu : KBs.R (fun b => b = gm ∨ b = gd ∨ X b) w [u] r) (hr : r.length = wd) : St gm gd cm cd wd z X w0 (w.setCell ⟨gm, i, none⟩ u) (setM l i r) := by
  have hm := map_set1 l i r hi
  refine ⟨wf_set h.wf ⟨hr, (h.wf i hi).2⟩, ?_, ?_, h.upd.trans ((Upd.set_ w _ u).mono fun g _ e => .inl e)⟩
  · rw [hm.1]; exact h.am.set_ (.inl rfl) (by rw [List.length_map]; exact hi) hu
  · rw [hm.2]; exact h.ad.far (.inl rfl) (fun e => hg e.symm) u
theorem St.setd (h : St gm gd cm cd wd z X w0 w l) (hg : gm ≠ gd) {i : Nat} (hi : i < l.length) {u : Value} {r : Row} (hu : KBs.R (fun b => b = gm ∨ b = gd ∨ X b) w [u] r) (hr : r.length = z) : St gm gd cm cd wd z X w0 (w.setCell ⟨gd, i, none⟩ u) (setD l i r) := by
  have hm := map_set2 l i r hi
  refine ⟨wf_set h.wf ⟨(h.wf i hi).1, hr⟩, ?_, ?_, h.upd.trans ((Upd.set_ w _ u).mono fun g _ e => .inr e)⟩
  · rw [hm.1]; exact h.am.far (.inr (.inl rfl)) hg u
  · rw [hm.2]; exact h.ad.set_ (.inr (.inl rfl)) (by rw [List.length_map]; exact hi) hu

theorem keepSet {M : Blocks} {w : World} {u : Value} {r : Row} (h : KBs.R M w [u] r) {p : Addr} (hM : M p.block) (x : Value) : KBs.R M (w.setCell p x) [u] r :=
  KBs.keep h fun b _ hn => Below.heap_setCell w p x b (fun e => hn (by rw [e]; exact hM))
/-- A swap in an array. -/
def swapM (l : List Pair) (n k : Nat) : List Pair := setM (setM l n (l.getD k d0).1) k (l.getD n d0).1
theorem St.swapm (h : St gm gd cm cd wd z X w0 w l) (hg : gm ≠ gd) {n k : Nat} (hn : n < l.length) (hk : k < l.length) {un uk : Value}
    (h1 : KBs.R (fun b => b = gm ∨ b = gd ∨ X b) w [un] l[n].1) (h2 : KBs.R (fun b => b = gm ∨ b = gd ∨ X b) w [uk] l[k].1) :
    St gm gd cm cd wd z X w0 ((w.setCell ⟨gm, n, none⟩ uk).setCell ⟨gm, k, none⟩ un) (swapM l n k) := by
  have ln := h.wf n hn
  have lk := h.wf k hk
  unfold swapM
  rw [getD_eq _ _ _ hn] at ln ⊢
  rw [getD_eq _ _ _ hk] at lk ⊢
  have a := h.setm hg hn h2 lk.1
  exact a.setm hg (i := k) (by simp [setM, hk]) (keepSet h1 (.inl rfl) _) ln.1
def swapN (l : List Pair) (n k : Nat) : List Pair := setD (setD l n (l.getD k d0).2) k (l.getD n d0).2
theorem St.swapd (h : St gm gd cm cd wd z X w0 w l) (hg : gm ≠ gd) {n k : Nat} (hn : n < l.length) (hk : k < l.length) {un uk : Value}
    (h1 : KBs.R (fun b => b = gm ∨ b = gd ∨ X b) w [un] l[n].2) (h2 : KBs.R (fun b => b = gm ∨ b = gd ∨ X b) w [uk] l[k].2) :
    St gm gd cm cd wd z X w0 ((w.setCell ⟨gd, n, none⟩ uk).setCell ⟨gd, k, none⟩ un) (swapN l n k) := by
  have ln := h.wf n hn
  have lk := h.wf k hk
  unfold swapN
  rw [getD_eq _ _ _ hn] at ln ⊢
  rw [getD_eq _ _ _ hk] at lk ⊢
  have a := h.setd hg hn h2 lk.2
  exact a.setd hg (i := k) (by simp [setD, hk]) (keepSet h1 (.inr (.inl rfl)) _) ln.2
end
def swapD (l : List Pair) (n k : Nat) : List Pair := swapL l n k (l.getD n d0) (l.getD k d0)
theorem swapM_length (l : List Pair) (n k : Nat) : (swapM l n k).length = l.length := by simp [swapM, setM]
theorem swapD_eq (l : List Pair) (n k : Nat) (hn : n < l.length) (hk : k < l.length) : swapN (swapM l n k) n k = swapD l n k := by
  apply List.ext_getElem
  · simp [swapN, swapM, setD, setM, swapD, swapL]
  · intro i h1 h2
    have hi : i < l.length := by simp [swapD, swapL] at h2; exact h2
    simp only [swapN, swapM, setD, setM, swapD, swapL, List.getElem_set, List.getD_eq_getElem?_getD, List.getElem?_set, List.length_set]
    by_cases e1 : k = i
    · subst e1
      by_cases e2 : k = n
      · simp [e2, hn]
      · have e3 : ¬ n = k := fun e => e2 e.symm
        simp [e2, e3, hn, hk]
    · by_cases e2 : n = i
      · subst e2
        have e3 : ¬ n = k := fun e => e1 e.symm
        simp [e1, e3, hn, hk]
      · simp [e1, e2]
theorem elim_of (l : List Pair) (n k c : Nat) (hn : n < l.length) (hk : k < l.length) :
    sweep n c l.length ((swapD l n k).set n (lift (inv (at0 ((swapD l n k).getD n d0).1 c)) ((swapD l n k).getD n d0))) = elim l n k c := by
  have h1 : swapD l n k = swapL l n k l[n] l[k] := by unfold swapD; rw [getD_eq _ _ _ hn, getD_eq _ _ _ hk]
  have h2 : (swapD l n k).getD n d0 = l[k] := by
    rw [h1, swapL_get l n k n hn hk hn]
    unfold swp
    rw [if_pos rfl, getD_eq _ _ _ hk]
  rw [h2, h1]
  exact elim_eq l n k c hn hk
theorem set_both (l : List Pair) (n : Nat) (r s : Row) (hn : n < l.length) : setD (setM l n r) n s = l.set n (r, s) := by
  unfold setD setM
  rw [List.set_set]
  congr 1
  rw [getD_eq _ _ _ (by rw [List.length_set]; exact hn), List.getElem_set_self]
theorem swapD_self_eq (l : List Pair) (n : Nat) (hn : n < l.length) : swapD l n n = l := by
  apply List.ext_getElem
  · simp [swapD, swapL]
  · intro i h1 h2
    simp only [swapD, swapL, List.getElem_set]
    by_cases e : n = i
    · subst e; simp [List.getD_eq_getElem?_getD, hn]
    · simp [e]
theorem swapD_length (l : List Pair) (n k : Nat) : (swapD l n k).length = l.length := by simp [swapD, swapL]

set_option maxRecDepth 100000 in
set_option maxHeartbeats 8000000 in

theorem reduce_any (gm gd cm cd wd z : Nat) (X : Blocks) (hg : gm ≠ gd) (hwd : wd ≤ 1000) (hz : z ≤ 1000) (l : List Pair) (L : Nat) (hL : l.length = L) (hn : 0 < L) (hbig : L ≤ 1000000) (all : Bool) (w : World) (hX : ∀ b, X b → b < w.heap.size) (h : St gm gd cm cd wd z X w w l) :
    Calls Try.prog 220 #[.int .i64 wd, .slice (some ⟨gm, 0, none⟩) L cm, .slice (some ⟨gd, 0, none⟩) L cd, .bool all] w
      fun e w' => e = .returned (.int .i64 (red all wd 0 0 l).1) ∧ St gm gd cm cd wd z X w w' (red all wd 0 0 l).2 := by
  have hgm := h.am.lt
  have hgd := h.ad.lt
  have hcaps := h.cap
  rw [hL] at hcaps
  obtain ⟨hcm, hcd⟩ := hcaps
  have HLL : Hid (l.length = L) := hL
  clear hL
  have HXX : Hid (∀ b, X b → b < w.heap.size) := hX
  clear hX
  go_enter Try.func220, Try.ntmps220
  go_wp2_with fail
  go_loopg [9, 10] wd (fun f n p wr => ∃ (nn c gb : Nat) (l' : List Pair), n = .int .i64 nn ∧ p = .pointer (some ⟨gb, 0, none⟩) ∧ Blk wr gb 3 [.int .i64 c] ∧ w.heap.size ≤ gb ∧ c + f = wd ∧ nn ≤ c ∧ l'.length = L ∧ St gm gd cm cd wd z X w wr l' ∧ red all wd 0 0 l = red all f c nn l')
  case atStart => exact ⟨0, 0, w.heap.size, l, rfl, rfl, Blk.new w 3 [.int .i64 0], Nat.le_refl _, by omega, Nat.le_refl _, HLL.out, h.below (below_one w _), rfl⟩
  case round =>
    obtain ⟨nn, c, gb, l', rfl, rfl, hgb, hgbB, hc, hnc, hl', hst, hred⟩ := hrel
    have HR : Hid (red all wd 0 0 l = red all gk c nn l') := hred
    clear hred h
    have hcell := hgb.cell 0
    simp only [List.getElem?_cons_zero] at hcell
    have HL : Hid (l'.length = L) := hl'
    clear hl'
    by_cases hgo : 0 < gk ∧ nn < L
    · obtain ⟨h1, h2⟩ := hgo
      have hcw : c < wd := by omega
      have hcmn : ¬ cm = nn := by omega
      obtain ⟨r, hf1, hcases⟩ := find_any hst nn c gb L HL.out hbig hcw h2 hcell
      have HC : Hid ((r = -1 ∧ seek c (l'.drop nn) nn = none) ∨ ∃ i : Nat, r = (i : Int) ∧ nn + i < L ∧ seek c (l'.drop nn) nn = some (nn + i) ∧ ∀ h, at0 (l'[nn + i]'h).1 c ≠ 0) := hcases
      clear hcases
      go_wp2_with fail
      refine hf1.mono ?_
      rintro e w1 ⟨rfl, hb1⟩
      have hst1 := hst.below hb1
      have hcell1 := cell_below hb1 _ _ hcell
      have hgb1 := hgb.below hb1
      have hsz1 := hb1.size
      have hszw := hst.upd.size
      clear hf1 hst hgb hcell
      rcases HC.out with ⟨rfl, hs⟩ | ⟨i, rfl, hi, hs, hne⟩
      · have hnext := red_none (all := all) h1 (by rw [HL.out]; exact h2) hs
        rw [← HR.out] at hnext
        cases all with
        | true =>
          have HN : Hid (red true wd 0 0 l = red true (gk - 1) (c + 1) nn l') := hnext
          clear hnext hs HC HR
          go_wp2
          go_roundg (gk - 1)
          case measure => omega
          case rel =>
            refine ⟨nn, c + 1, w1.heap.size, l', rfl, rfl, ?_, by omega, by omega, by omega, HL.out, hst1.below (below_one _ _), HN.out⟩
            exact Blk.new w1 3 [.int .i64 ((c + 1 : Nat) : Int)]
        | false =>
          have HN : Hid (red false wd 0 0 l = (nn, l')) := hnext
          clear hnext hs HC HR
          go_wp2
          go_ret
          rw [HN.out]
          exact ⟨rfl, hst1⟩
      · have hnext := red_some (all := all) h1 (by rw [HL.out]; exact h2) hs
        rw [← HR.out] at hnext
        have HN : Hid (red all wd 0 0 l = red all (gk - 1) (c + 1) (nn + 1) (elim l' nn (nn + i) c)) := hnext
        have HX : Hid (∀ h, at0 (l'[nn + i]'h).1 c ≠ 0) := hne
        clear hnext hs HC HR hne
        go_upto_region 9 with fail
        have i1 : (0 : Int) ≤ (nn : Int) := by omega
        have i2 : (nn : Int) < (L : Int) := by omega
        have i3 : (nn : Int) + (i : Int) < (L : Int) := by omega
        have i4 : (0 : Int) ≤ (nn : Int) + (i : Int) := by omega
        have hg' : ¬ gd = gm := fun e => hg e.symm
        go_cut [] (fun wx => St gm gd cm cd wd z X w wx (swapM l' nn (nn + i)) ∧ Blk wx gb 3 [.int .i64 c])
        case first =>
          have hnl : nn < l'.length := by rw [HL.out]; exact h2
          have hkl : nn + i < l'.length := by rw [HL.out]; exact hi
          obtain ⟨un, hun, hunr, -⟩ := hst1.m hnl
          have hfn := hst1.am.frozen nn
          by_cases hi0 : i = 0
          · subst hi0
            have hswap := hst1.swapm hg hnl hnl hunr hunr
            have hblk := (hgb1.far (p := ⟨gm, nn, none⟩) (fun e => by simp at e; omega) un).far (p := ⟨gm, nn, none⟩) (fun e => by simp at e; omega) un
            obtain ⟨An, cn, rfl, _⟩ := KSl.val hunr
            clear hunr hst1 hgb1 hcell1
            go_big_region
            all_goals go_wp2_with fail
            all_goals go_meet
            all_goals exact ⟨hswap.drew, hblk.drew⟩
          · have hne1 : ¬ nn = nn + i := by omega
            have hne2 : ¬ nn + i = nn := by omega
            obtain ⟨uk, huk, hukr, -⟩ := hst1.m hkl
            have hswap := hst1.swapm hg hnl hkl hunr hukr
            have hblk := (hgb1.far (p := ⟨gm, nn, none⟩) (fun e => by simp at e; omega) uk).far (p := ⟨gm, nn + i, none⟩) (fun e => by simp at e; omega) un
            have hfk := hst1.am.frozen (nn + i)
            obtain ⟨An, cn, rfl, _⟩ := KSl.val hunr
            obtain ⟨Ak, ck, rfl, _⟩ := KSl.val hukr
            clear hunr hukr hst1 hgb1 hcell1
            go_big_region
            all_goals go_wp2_with fail
            all_goals go_meet
            all_goals exact ⟨hswap.drew, hblk.drew⟩
        case rest =>
          obtain ⟨hst2, hgb2⟩ := hcut
          clear hst1 hgb1 hcell1 hb1 hsz1
          go_upto_region 10 with fail
          have HL2 : Hid ((swapM l' nn (nn + i)).length = L) := (swapM_length _ _ _).trans HL.out
          go_cut [] (fun wx => St gm gd cm cd wd z X w wx (swapD l' nn (nn + i)) ∧ Blk wx gb 3 [.int .i64 c])
          case first =>
            have hnl : nn < (swapM l' nn (nn + i)).length := by rw [HL2.out]; exact h2
            have hkl : nn + i < (swapM l' nn (nn + i)).length := by rw [HL2.out]; exact hi
            have heq := swapD_eq l' nn (nn + i) (by rw [HL.out]; exact h2) (by rw [HL.out]; exact hi)
            have HE : Hid (swapN (swapM l' nn (nn + i)) nn (nn + i) = swapD l' nn (nn + i)) := heq
            clear heq
            obtain ⟨un, hun, hunr, -⟩ := hst2.d hnl
            have hfn := hst2.ad.frozen nn
            by_cases hi0 : i = 0
            · subst hi0
              have hswap := hst2.swapd hg hnl hnl hunr hunr
              have hblk := (hgb2.far (p := ⟨gd, nn, none⟩) (fun e => by simp at e; omega) un).far (p := ⟨gd, nn, none⟩) (fun e => by simp at e; omega) un
              obtain ⟨An, cn, rfl, _⟩ := KSl.val hunr
              clear hunr hst2 hgb2
              go_big_region
              all_goals go_wp2_with fail
              all_goals go_meet
              all_goals rw [← HE.out]
              all_goals exact ⟨hswap.drew, hblk.drew⟩
            · have hne1 : ¬ nn = nn + i := by omega
              have hne2 : ¬ nn + i = nn := by omega
              obtain ⟨uk, huk, hukr, -⟩ := hst2.d hkl
              have hswap := hst2.swapd hg hnl hkl hunr hukr
              have hblk := (hgb2.far (p := ⟨gd, nn, none⟩) (fun e => by simp at e; omega) uk).far (p := ⟨gd, nn + i, none⟩) (fun e => by simp at e; omega) un
              have hfk := hst2.ad.frozen (nn + i)
              obtain ⟨An, cn, rfl, _⟩ := KSl.val hunr
              obtain ⟨Ak, ck, rfl, _⟩ := KSl.val hukr
              clear hunr hukr hst2 hgb2
              go_big_region
              all_goals go_wp2_with fail
              all_goals go_meet
              all_goals rw [← HE.out]
              all_goals exact ⟨hswap.drew, hblk.drew⟩
          case rest =>
            obtain ⟨hst3, hgb3⟩ := hcut
            clear hst2 hgb2 HL2
            obtain ⟨l3, hl3⟩ : ∃ l3, l3 = swapD l' nn (nn + i) := ⟨_, rfl⟩
            rw [← hl3] at hst3
            have HL3 : Hid (l3 = swapD l' nn (nn + i)) := hl3
            have HLen : Hid (l3.length = L) := by show l3.length = L; rw [hl3, swapD_length]; exact HL.out
            clear hl3
            go_upto_region 11 with fail
            go_cut [12] (fun s wx => s = .int .u8 (inv (at0 (l3.getD nn d0).1 c)).toNat ∧ St gm gd cm cd wd z X w wx l3 ∧ Blk wx gb 3 [.int .i64 c])
            case first =>
              have hnl : nn < l3.length := by rw [HLen.out]; exact h2
              obtain ⟨un, hun, hunr, hul⟩ := hst3.m hnl
              have hbox := hgb3.cell 0
              simp only [List.getElem?_cons_zero] at hbox
              obtain ⟨An, cn, rfl, _⟩ := KSl.val hunr
              obtain ⟨ad, rfl, hbyte⟩ := KBs.byte hunr (i := c) (by rw [hul]; exact hcw)
              have hB : Hid (l3[nn].1[c]'(by rw [hul]; exact hcw) = at0 (l3.getD nn d0).1 c) := by
                show l3[nn].1[c]'(by rw [hul]; exact hcw) = at0 (l3.getD nn d0).1 c
                rw [getD_eq _ _ _ hnl, at0_get]
              have i5 : (0 : Int) ≤ (c : Int) := by omega
              have i6 : (c : Int) < (wd : Int) := by omega
              generalize l3[nn].1[c]'(by rw [hul]; exact hcw) = b at hbyte hB
              clear hunr
              go_region_with (go_at_call 247; refine (inv_any b _).mono ?_; rintro e w' ⟨rfl, rfl⟩)
              all_goals go_wp2_with fail
              all_goals go_meet
              all_goals exact ⟨val_int (by rw [hB.out]), hst3.drew, hgb3.drew⟩
            case rest =>
              obtain ⟨rfl, hst4, hgb4⟩ := hcut
              clear hst3 hgb3
              generalize hcc0 : inv (at0 (l3.getD nn d0).1 c) = cc
              have HCC : Hid (inv (at0 (l3.getD nn d0).1 c) = cc) := hcc0
              clear hcc0
              go_upto_region 12 with fail
              have HL3n : Hid (nn < l3.length) := by show nn < l3.length; rw [HLen.out]; exact h2
              go_cut [] (fun wx => St gm gd cm cd wd z X w wx (l3.set nn (lift cc (l3.getD nn d0))) ∧ Blk wx gb 3 [.int .i64 c])
              case first =>
                have hnl : nn < l3.length := HL3n.out
                obtain ⟨um, hum, humr, huml⟩ := hst4.m hnl
                obtain ⟨ud, hud, hudr, hudl⟩ := hst4.d hnl
                have hfm := hst4.am.frozen nn
                have hfd := hst4.ad.frozen nn
                have hSm := fun W (hW : Below wc.heap.size wc W) => scale_any cc um l3[nn].1 W (Kd.below (Kd.drop humr) hW)
                have hSd := fun W (hW : Below wc.heap.size wc W) => scale_any cc ud l3[nn].2 W (Kd.below (Kd.drop hudr) hW)
                have hgmw : gm < wc.heap.size := hst4.am.lt
                have hsw0 : w.heap.size ≤ wc.heap.size := hst4.upd.size
                have hgdw : gd < wc.heap.size := hst4.ad.lt
                have HM : Hid (l3[nn].1.length = wd) := huml
                have HD : Hid (l3[nn].2.length = z) := hudl
                clear huml hudl
                obtain ⟨Am, am, rfl, _⟩ := KSl.val humr
                obtain ⟨Ad, adc, rfl, _⟩ := KSl.val hudr
                clear humr hudr
                refine wp_region_plan [0, 1, 2, 3, 4, 5, 6, 7, 8, 10, 11, 12, 13, 14] [8, 14] [9, 15, 16, 17, 18, 19] [17, 18, 19] (fun w' => w'.cell? ⟨gm, nn, none⟩ = some (.slice Am l3[nn].1.length am) ∧ w'.cell? ⟨gd, nn, none⟩ = some (.slice Ad l3[nn].2.length adc)) (by kernel_rfl) (by kernel_rfl) (fun _ _ _ _ _ h => h) ⟨hum, hud⟩ ?_
                simp only [List.map_cons, List.map_nil, opAt, List.getD_cons_zero, List.getD_cons_succ, List.contains_cons, List.contains_nil, Nat.reduceBEq, Bool.or_false, Bool.or_true, Bool.or_self]
                apply front_cons
                · intro w1
                  go_simp
                  with_reducible rfl
                go_simp
                apply front_cons
                · intro w1
                  go_simp
                  with_reducible rfl
                go_simp
                apply front_cons
                · intro w1
                  go_simp
                  with_reducible rfl
                go_simp
                apply front_cons
                · intro w1
                  go_simp
                  with_reducible rfl
                go_simp
                apply front_cons
                · intro w1
                  go_simp
                  with_reducible rfl
                go_simp
                apply front_cons
                · intro w1
                  go_simp
                  with_reducible rfl
                go_simp
                apply front_cons
                · intro w1
                  go_simp
                  with_reducible rfl
                go_simp
                apply front_cons
                · intro w1
                  go_simp
                  with_reducible rfl
                go_simp
                apply front_hot
                · intro w1 hS
                  obtain ⟨hS1, hS2⟩ := hS
                  go_simp
                  with_reducible rfl
                go_simp
                apply front_cons
                · intro w1
                  go_simp
                  with_reducible rfl
                go_simp
                apply front_cons
                · intro w1
                  go_simp
                  with_reducible rfl
                go_simp
                apply front_cons
                · intro w1
                  go_simp
                  with_reducible rfl
                go_simp
                apply front_cons
                · intro w1
                  go_simp
                  with_reducible rfl
                go_simp
                apply front_hot
                · intro w1 hS
                  obtain ⟨hS1, hS2⟩ := hS
                  go_simp
                  with_reducible rfl
                go_simp
                refine front_nil ?_
                refine tail_cons (fun K hK => ?_)
                go_simp
                refine (hSm _ (Below.refl _ _).drew).mono ?_
                rintro e w2 ⟨x, rfl, hx, hb⟩
                have hbw : Below wc.heap.size wc w2 := (Below.refl _ _).drew.trans hb
                have hum2 := cell_below hbw _ _ hum
                have hud2 := cell_below hbw _ _ hud
                obtain ⟨A3, c3, rfl, hx3⟩ := KSl.val hx
                refine hK _ _ (fun _ => ⟨hum2, hud2⟩) ?_
                clear hK K
                go_simp
                refine tail_cons (fun K hK => ?_)
                go_simp
                refine (hSd _ hbw).mono ?_
                rintro e w3 ⟨y, rfl, hy, hb3⟩
                have hbw3 := below_add hbw hb3 hbw.size
                have hum3 := cell_below hbw3 _ _ hum
                have hud3 := cell_below hbw3 _ _ hud
                have hfm3 := (hbw3.frozen (p := ⟨gm, nn, none⟩) hgmw).trans hfm
                have hfd3 := (hbw3.frozen (p := ⟨gd, nn, none⟩) hgdw).trans hfd
                obtain ⟨A4, c4, rfl, hy4⟩ := KSl.val hy
                refine hK _ _ (fun _ => ⟨hum3, hud3⟩) ?_
                clear hK K
                go_simp
                refine tail_cons (fun K hK => ?_)
                go_simp
                refine hK _ _ (fun h => h) ?_
                clear hK K
                go_simp
                refine tail_late (fun K hK => ?_)
                go_simp
                refine hK _ _ ?_
                clear hK K
                go_simp
                refine tail_late (fun K hK => ?_)
                go_simp
                refine hK _ _ ?_
                clear hK K
                go_simp
                refine tail_late (fun K hK => ?_)
                go_simp
                refine hK _ _ ?_
                clear hK K
                go_simp
                rw [tailO_nil]
                have hst6 := ((hst4.below hbw3).setm hg hnl (KBs.anti (Kd.below hx hb3) (fun g _ hg => by
                  rcases hg with rfl | rfl | hx
                  · simp [old]; omega
                  · simp [old]; omega
                  · have := HXX.out _ hx
                    simp [old]; omega)) (by rw [scale_length]; exact HM.out)).setd hg (i := nn) (by rw [setM, List.length_set]; exact hnl) (keepSet (KBs.anti hy (fun g _ hg => by
                  have := hbw.size
                  rcases hg with rfl | rfl | hx
                  · simp [old]; omega
                  · simp [old]; omega
                  · have := HXX.out _ hx
                    simp [old]; omega)) (.inl rfl) _) (by rw [scale_length]; exact HD.out)
                rw [set_both l3 nn _ _ hnl] at hst6
                have hgb6 := ((hgb4.below hbw3).far (p := ⟨gm, nn, none⟩) (fun e => by simp at e; omega) (.slice A3 (scale cc l3[nn].1).length c3)).far (p := ⟨gd, nn, none⟩) (fun e => by simp at e; omega) (.slice A4 (scale cc l3[nn].2).length c4)
                clear hSm hSd hum hud hum2 hud2 hum3 hud3 hfm3 hfd3 hfm hfd hx hy hb hb3 hbw hbw3 hst4 hgb4 hx3 hy4
                go_wp2_with fail
                go_meet
                exact ⟨by rw [getD_eq _ _ _ hnl]; exact hst6, hgb6⟩
              case rest =>
                obtain ⟨hst5, hgb5⟩ := hcut
                clear hst4 hgb4
                obtain ⟨l5, hl5⟩ : ∃ l5, l5 = l3.set nn (lift cc (l3.getD nn d0)) := ⟨_, rfl⟩
                rw [← hl5] at hst5
                have HL5 : Hid (l5 = l3.set nn (lift cc (l3.getD nn d0))) := hl5
                have HLen5 : Hid (l5.length = L) := by show l5.length = L; rw [hl5, List.length_set]; exact HLen.out
                clear hl5
                go_wp2_with fail
                go_loopw [13, 14, 100] (fun _ _ s wi => ∃ q : Nat, q ≤ L ∧ s = .int .i64 q ∧ St gm gd cm cd wd z X w wi (sweep nn c q l5) ∧ Blk wi gb 3 [.int .i64 c]) (fun _ _ s _ => L - (intOf s).toNat)
                case atStart => exact ⟨0, Nat.zero_le _, rfl, hst5, hgb5⟩
                case round =>
                  obtain ⟨q, hq, rfl, hst6, hgb6⟩ := hrel
                  clear hst5 hgb5
                  by_cases hqL : q < L
                  · have HL6 : Hid (q < (sweep nn c q l5).length) := by show q < (sweep nn c q l5).length; rw [sweep_length, HLen5.out]; exact hqL
                    have HN6 : Hid (nn < (sweep nn c q l5).length) := by show nn < (sweep nn c q l5).length; rw [sweep_length, HLen5.out]; exact h2
                    have HSt : Hid (sweep nn c (q + 1) l5 = stepAt nn c q (sweep nn c q l5)) := rfl
                    generalize sweep nn c q l5 = l6 at hst6 HL6 HN6 HSt
                    generalize hl7 : sweep nn c (q + 1) l5 = l7 at HSt
                    have HL7 : Hid (sweep nn c (q + 1) l5 = l7) := hl7
                    clear hl7
                    have j1 : (0 : Int) ≤ (q : Int) := by omega
                    have j2 : (q : Int) < (L : Int) := by omega
                    go_upto_region 16 with fail
                    go_cut [14] (fun s wx => s = .int .u8 (at0 (l6.getD q d0).1 c).toNat ∧ St gm gd cm cd wd z X w wx l6 ∧ Blk wx gb 3 [.int .i64 c])
                    case first =>
                      have hql : q < l6.length := HL6.out
                      obtain ⟨un, hun, hunr, hul⟩ := hst6.m hql
                      have hbox := hgb6.cell 0
                      simp only [List.getElem?_cons_zero] at hbox
                      have HM : Hid (l6[q].1.length = wd) := hul
                      obtain ⟨An, cn, rfl, _⟩ := KSl.val hunr
                      obtain ⟨ad, rfl, hbyte⟩ := KBs.byte hunr (i := c) (by rw [hul]; exact hcw)
                      have hB : Hid (l6[q].1[c]'(by rw [hul]; exact hcw) = at0 (l6.getD q d0).1 c) := by
                        show l6[q].1[c]'(by rw [hul]; exact hcw) = at0 (l6.getD q d0).1 c
                        rw [getD_eq _ _ _ hql, at0_get]
                      have i5 : (0 : Int) ≤ (c : Int) := by omega
                      have i6 : (c : Int) < (wd : Int) := by omega
                      generalize l6[q].1[c]'(by rw [hul]; exact hcw) = b at hbyte hB
                      clear hunr
                      go_region_with fail
                      all_goals go_wp2_with fail
                      all_goals go_meet
                      all_goals exact ⟨val_int (by rw [hB.out]), hst6.drew, hgb6.drew⟩
                    case rest =>
                      obtain ⟨rfl, hst7, hgb7⟩ := hcut
                      clear hst6 hgb6
                      generalize hb : at0 (l6.getD q d0).1 c = b
                      have HB : Hid (at0 (l6.getD q d0).1 c = b) := hb
                      clear hb
                      by_cases hact : q ≠ nn ∧ b ≠ 0
                      · obtain ⟨hqn, hb0⟩ := hact
                        have hb1 : ((b.toNat : Int) != 0) = true := by rw [u8_ne0]; simpa using hb0
                        have hq1 : ((q : Int) != (nn : Int)) = true := by rw [bne_iff_ne]; omega
                        go_upto_region 18 with fail
                        have hql : q < l6.length := HL6.out
                        have hnl : nn < l6.length := HN6.out
                        obtain ⟨uq, huq, huqr, huql⟩ := hst7.m hql
                        obtain ⟨un, hun, hunr, hunl⟩ := hst7.m hnl
                        obtain ⟨vq, hvq, hvqr, hvql⟩ := hst7.d hql
                        obtain ⟨vn, hvn, hvnr, hvnl⟩ := hst7.d hnl
                        have hfm := hst7.am.frozen q
                        have hfd := hst7.ad.frozen q
                        have hSm := fun W (hW : Below wc.heap.size wc W) => without_any uq un l6[q].1 l6[nn].1 b W (by rw [huql]; exact hwd) (Kd.below (Kd.drop huqr) hW) (Kd.below (Kd.drop hunr) hW)
                        have hSd := fun W (hW : Below wc.heap.size wc W) => without_any vq vn l6[q].2 l6[nn].2 b W (by rw [hvql]; exact hz) (Kd.below (Kd.drop hvqr) hW) (Kd.below (Kd.drop hvnr) hW)
                        simp only [takeOne_eq (hunl.trans huql.symm)] at hSm
                        simp only [takeOne_eq (hvnl.trans hvql.symm)] at hSd
                        have HM : Hid (l6[q].1.length = wd) := huql
                        have HD : Hid (l6[q].2.length = z) := hvql
                        have HMn : Hid (l6[nn].1.length = wd) := hunl
                        have HDn : Hid (l6[nn].2.length = z) := hvnl
                        have hgmw : gm < wc.heap.size := hst7.am.lt
                        have hsw0 : w.heap.size ≤ wc.heap.size := hst7.upd.size
                        have hgdw : gd < wc.heap.size := hst7.ad.lt
                        have hstep : stepAt nn c q l6 = l6.set q (zipXor l6[q].1 (scale b l6[nn].1), zipXor l6[q].2 (scale b l6[nn].2)) := by
                          unfold stepAt takeOff
                          rw [HB.out, if_pos ⟨hqn, hb0⟩, if_neg hb0, getD_eq _ _ _ hql, getD_eq _ _ _ hnl]
                        have HSl : Hid (l7 = l6.set q (zipXor l6[q].1 (scale b l6[nn].1), zipXor l6[q].2 (scale b l6[nn].2))) := HSt.out.trans hstep
                        clear huql hunl hvql hvnl hstep
                        obtain ⟨Aq, aq, rfl, _⟩ := KSl.val huqr
                        obtain ⟨An, an, rfl, _⟩ := KSl.val hunr
                        obtain ⟨Bq, bq, rfl, _⟩ := KSl.val hvqr
                        obtain ⟨Bn, bn, rfl, _⟩ := KSl.val hvnr
                        clear huqr hunr hvqr hvnr
                        refine wp_region_plan [0, 1, 2, 3, 4, 5, 6, 7, 8, 9, 10, 11, 12, 14, 15, 16, 17, 18, 19, 20, 21, 22] [7, 12, 17, 22] [13, 23, 24, 25, 26, 27] [25, 26, 27] (fun w' => w'.cell? ⟨gm, q, none⟩ = some (.slice Aq l6[q].1.length aq) ∧ w'.cell? ⟨gm, nn, none⟩ = some (.slice An l6[nn].1.length an) ∧ w'.cell? ⟨gd, q, none⟩ = some (.slice Bq l6[q].2.length bq) ∧ w'.cell? ⟨gd, nn, none⟩ = some (.slice Bn l6[nn].2.length bn)) (by kernel_rfl) (by kernel_rfl) (fun _ _ _ _ _ h => h) ⟨huq, hun, hvq, hvn⟩ ?_
                        simp only [List.map_cons, List.map_nil, opAt, List.getD_cons_zero, List.getD_cons_succ, List.contains_cons, List.contains_nil, Nat.reduceBEq, Bool.or_false, Bool.or_true, Bool.or_self]
                        have HSM : Hid (∀ W, Below wc.heap.size wc W → Calls Try.prog 249 #[.slice Aq l6[q].1.length aq, .int .u8 b.toNat, .slice An l6[nn].1.length an] W (Ret KBs W (zipXor l6[q].1 (scale b l6[nn].1)))) := hSm
                        have HSD : Hid (∀ W, Below wc.heap.size wc W → Calls Try.prog 249 #[.slice Bq l6[q].2.length bq, .int .u8 b.toNat, .slice Bn l6[nn].2.length bn] W (Ret KBs W (zipXor l6[q].2 (scale b l6[nn].2)))) := hSd
                        clear hSm hSd
                        apply front_cons
                        · intro w1
                          go_simp
                          with_reducible rfl
                        go_simp
                        apply front_cons
                        · intro w1
                          go_simp
                          with_reducible rfl
                        go_simp
                        apply front_cons
                        · intro w1
                          go_simp
                          with_reducible rfl
                        go_simp
                        apply front_cons
                        · intro w1
                          go_simp
                          with_reducible rfl
                        go_simp
                        apply front_cons
                        · intro w1
                          go_simp
                          with_reducible rfl
                        go_simp
                        apply front_cons
                        · intro w1
                          go_simp
                          with_reducible rfl
                        go_simp
                        apply front_cons
                        · intro w1
                          go_simp
                          with_reducible rfl
                        go_simp
                        apply front_hot
                        · intro w1 hS
                          obtain ⟨hS1, hS2, hS3, hS4⟩ := hS
                          go_simp
                          with_reducible rfl
                        go_simp
                        apply front_cons
                        · intro w1
                          go_simp
                          with_reducible rfl
                        go_simp
                        apply front_cons
                        · intro w1
                          go_simp
                          with_reducible rfl
                        go_simp
                        apply front_cons
                        · intro w1
                          go_simp
                          with_reducible rfl
                        go_simp
                        apply front_cons
                        · intro w1
                          go_simp
                          with_reducible rfl
                        go_simp
                        apply front_hot
                        · intro w1 hS
                          obtain ⟨hS1, hS2, hS3, hS4⟩ := hS
                          go_simp
                          with_reducible rfl
                        go_simp
                        apply front_cons
                        · intro w1
                          go_simp
                          with_reducible rfl
                        go_simp
                        apply front_cons
                        · intro w1
                          go_simp
                          with_reducible rfl
                        go_simp
                        apply front_cons
                        · intro w1
                          go_simp
                          with_reducible rfl
                        go_simp
                        apply front_hot
                        · intro w1 hS
                          obtain ⟨hS1, hS2, hS3, hS4⟩ := hS
                          go_simp
                          with_reducible rfl
                        go_simp
                        apply front_cons
                        · intro w1
                          go_simp
                          with_reducible rfl
                        go_simp
                        apply front_cons
                        · intro w1
                          go_simp
                          with_reducible rfl
                        go_simp
                        apply front_cons
                        · intro w1
                          go_simp
                          with_reducible rfl
                        go_simp
                        apply front_cons
                        · intro w1
                          go_simp
                          with_reducible rfl
                        go_simp
                        apply front_hot
                        · intro w1 hS
                          obtain ⟨hS1, hS2, hS3, hS4⟩ := hS
                          go_simp
                          with_reducible rfl
                        go_simp
                        refine front_nil ?_
                        refine tail_cons (fun K hK => ?_)
                        go_simp
                        refine (HSM.out _ (Below.refl _ _).drew).mono ?_
                        rintro e w2 ⟨x, rfl, hx, hb⟩
                        have hbw : Below wc.heap.size wc w2 := (Below.refl _ _).drew.trans hb
                        have hum2 := cell_below hbw _ _ huq
                        have hun2 := cell_below hbw _ _ hun
                        have hvq2 := cell_below hbw _ _ hvq
                        have hvn2 := cell_below hbw _ _ hvn
                        obtain ⟨A3, c3, rfl, hx3⟩ := KSl.val hx
                        refine hK _ _ (fun _ => ⟨hum2, hun2, hvq2, hvn2⟩) ?_
                        clear hK K
                        go_simp
                        refine tail_cons (fun K hK => ?_)
                        go_simp
                        refine (HSD.out _ hbw).mono ?_
                        rintro e w3 ⟨y, rfl, hy, hb3⟩
                        have hbw3 := below_add hbw hb3 hbw.size
                        have hum3 := cell_below hbw3 _ _ huq
                        have hun3 := cell_below hbw3 _ _ hun
                        have hvq3 := cell_below hbw3 _ _ hvq
                        have hvn3 := cell_below hbw3 _ _ hvn
                        have hfm3 := (hbw3.frozen (p := ⟨gm, q, none⟩) hgmw).trans hfm
                        have hfd3 := (hbw3.frozen (p := ⟨gd, q, none⟩) hgdw).trans hfd
                        obtain ⟨A4, c4, rfl, hy4⟩ := KSl.val hy
                        refine hK _ _ (fun _ => ⟨hum3, hun3, hvq3, hvn3⟩) ?_
                        clear hK K
                        go_simp
                        refine tail_cons (fun K hK => ?_)
                        go_simp
                        refine hK _ _ (fun h => h) ?_
                        clear hK K
                        go_simp
                        refine tail_late (fun K hK => ?_)
                        go_simp
                        refine hK _ _ ?_
                        clear hK K
                        go_simp
                        refine tail_late (fun K hK => ?_)
                        go_simp
                        refine hK _ _ ?_
                        clear hK K
                        go_simp
                        refine tail_late (fun K hK => ?_)
                        go_simp
                        refine hK _ _ ?_
                        clear hK K
                        go_simp
                        rw [tailO_nil]
                        have hst8 := ((hst7.below hbw3).setm hg hql (KBs.anti (Kd.below hx hb3) (fun g _ hg => by
                          rcases hg with rfl | rfl | hx
                          · simp [old]; omega
                          · simp [old]; omega
                          · have := HXX.out _ hx
                            simp [old]; omega)) (zipXor_length HM.out (by rw [scale_length]; exact HMn.out))).setd hg (i := q) (by rw [setM, List.length_set]; exact hql) (keepSet (KBs.anti hy (fun g _ hg => by
                          have := hbw.size
                          rcases hg with rfl | rfl | hx
                          · simp [old]; omega
                          · simp [old]; omega
                          · have := HXX.out _ hx
                            simp [old]; omega)) (.inl rfl) _) (zipXor_length HD.out (by rw [scale_length]; exact HDn.out))
                        rw [set_both l6 q _ _ hql, ← HSl.out] at hst8
                        have hgb8 := ((hgb7.below hbw3).far (p := ⟨gm, q, none⟩) (fun e => by simp at e; omega) (.slice A3 (zipXor l6[q].1 (scale b l6[nn].1)).length c3)).far (p := ⟨gd, q, none⟩) (fun e => by simp at e; omega) (.slice A4 (zipXor l6[q].2 (scale b l6[nn].2)).length c4)
                        clear HSM HSD huq hun hvq hvn hum2 hun2 hvq2 hvn2 hum3 hun3 hvq3 hvn3 hfm3 hfd3 hfm hfd hx hy hb hb3 hbw hbw3 hst7 hgb7 hx3 hy4
                        go_wp2_with fail
                        go_roundw
                        case rel => exact ⟨q + 1, by omega, by go_num, by rw [HL7.out]; exact hst8, hgb8⟩
                        case measure => simp [intOf]; omega
                      · skip
                        have hskip : l7 = l6 := by
                          rw [HSt.out]
                          unfold stepAt
                          rw [HB.out, if_neg hact]
                        have HK : Hid (sweep nn c (q + 1) l5 = l6) := HL7.out.trans hskip
                        clear hskip
                        by_cases hqn : q = nn
                        · have hq1 : ((q : Int) != (nn : Int)) = false := by rw [bne_eq_false_iff_eq]; omega
                          have HQ : Hid (q = nn) := hqn
                          clear hqn hact
                          go_wp2
                          go_roundw
                          case rel => exact ⟨q + 1, by omega, by go_num, by rw [HK.out]; exact hst7, hgb7⟩
                          case measure => simp [intOf]; omega
                        · have hq1 : ((q : Int) != (nn : Int)) = true := by rw [bne_iff_ne]; omega
                          have hb1 : ((b.toNat : Int) != 0) = false := by
                            rw [u8_ne0]
                            have : b = 0 := Classical.byContradiction fun h => hact ⟨hqn, h⟩
                            simp [this]
                          clear hact
                          go_wp2
                          go_roundw
                          case rel => exact ⟨q + 1, by omega, by go_num, by rw [HK.out]; exact hst7, hgb7⟩
                          case measure => simp [intOf]; omega
                  · have e : q = L := by omega
                    subst e
                    have hfin : sweep nn c q l5 = elim l' nn (nn + i) c := by
                      rw [HL5.out, ← HCC.out, HL3.out, ← HL.out]
                      exact elim_of l' nn (nn + i) c (by rw [HL.out]; exact h2) (by rw [HL.out]; exact hi)
                    rw [hfin] at hst6
                    have hcell6 := hgb6.cell 0
                    simp only [List.getElem?_cons_zero] at hcell6
                    have HEL : Hid ((elim l' nn (nn + i) c).length = q) := (elim_length _ _ _ _).trans HL.out
                    clear hfin
                    have hsz6 := hst6.upd.size
                    go_wp2
                    go_roundg (gk - 1)
                    case measure => omega
                    case rel =>
                      refine ⟨nn + 1, c + 1, wr.heap.size, elim l' nn (nn + i) c, by go_num, rfl, ?_, by omega, by omega, by omega, HEL.out, hst6.below (below_one _ _), HN.out⟩
                      exact Blk.new wr 3 [.int .i64 ((c + 1 : Nat) : Int)]
    · have hend := red_end (all := all) (f := gk) (c := c) (n := nn) (l := l') (by rw [HL.out]; omega)
      rw [← HR.out] at hend
      have HE : Hid (red all wd 0 0 l = (nn, l')) := hend
      clear hend
      by_cases hcw : c < wd
      all_goals
        go_wp2
        go_ret
        rw [HE.out]
        exact ⟨rfl, hst⟩
end Go.Proofs.Ytpdfcgkeclocoaa
