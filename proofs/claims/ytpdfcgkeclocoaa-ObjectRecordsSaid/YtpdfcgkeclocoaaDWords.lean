/- Words for package decode: symbols, a set of numbers; the walks of its closures. -/
import Derived.Test.YtpdfcgkeclocoaaBlock
import Derived.Maps.OwnOps
import Derived.Maps.Views
set_option linter.all false
namespace Go.Proofs.Ytpdfcgkeclocoaa
open Go.RowKit GF
attribute [local go_sem ↓] Go.wp_at_zero Go.wp_at_succ

/-- A symbol: its number and its bytes. -/
abbrev DropD := Int × Row
def KDrop : Kd DropD where
  size := 2
  R := fun M w cs x => ∃ v, cs = [.int .i64 x.1, v] ∧ KBs.R M w [v] x.2 ∧ IsInt x.1
  len := fun ⟨v, e, _⟩ => by rw [e]; rfl
  keep := fun ⟨v, e, h, o⟩ hb => ⟨v, e, KBs.keep h hb, o⟩
  anti := fun ⟨v, e, h, o⟩ hm => ⟨v, e, KBs.anti h hm, o⟩
  one := fun ⟨v, e, h, _⟩ u hu => by
    have hv := KBs.one h v (by simp)
    rw [e] at hu
    simp only [List.mem_cons, List.not_mem_nil, or_false] at hu
    rcases hu with rfl | rfl
    · rfl
    · exact hv
abbrev KDrops : Kd (List DropD) := KSl 32 KDrop
/-- A cell behind the first, as the walk spells it. -/
theorem CellsAt.spell {w : World} {a : Addr} {cs : List Value} (h : CellsAt w a cs) (j : Nat) (u : Value) (hj : cs[j + 1]? = some u) : w.cell? ⟨a.block, a.off + (j + 1), none⟩ = some u := by
  have := h (j + 1) u hj
  unfold Addr.add at this
  rwa [if_neg (by omega)] at this
theorem CellsAt.first {w : World} {a : Addr} {cs : List Value} (h : CellsAt w a cs) (u : Value) (hj : cs[0]? = some u) : w.cell? a = some u := by
  have := h 0 u hj
  unfold Addr.add at this
  rwa [if_pos rfl] at this
theorem add_add0 (a : Addr) : a.add 0 = a := by simp [Addr.add]
theorem KDrops.at_ {M : Blocks} {w : World} {A : Option Addr} {c : Nat} {l : List DropD} (h : KDrops.R M w [.slice A l.length c] l) {i : Nat} (hi : i < l.length) : ∃ ad u, A = some ad ∧ w.cell? (ad.add (i * 2)) = some (.int .i64 l[i].1) ∧ w.cell? ⟨(ad.add (i * 2)).block, (ad.add (i * 2)).off + 1, none⟩ = some u ∧ KBs.R M w [u] l[i].2 ∧ IsInt l[i].1 := by
  obtain ⟨A', c', e, _, _, _, _, h5⟩ := KSl.val h
  injection e with e1 _ _
  subst e1
  obtain ⟨ad, rfl, _, _, hc⟩ := h5 (by omega)
  obtain ⟨ecs, ⟨u, rfl, hu, hi0⟩, hcell⟩ := hc i hi
  exact ⟨ad, u, rfl, hcell.first _ rfl, hcell.spell 0 _ rfl, hu, hi0⟩

set_option maxHeartbeats 400000 in
theorem index_drop (g : FuncId) (cb : Array Value) (eg : ∀ args w, (callFunc g args).run Try.prog w = .ok (.enter g args) w) (A : Option Addr) (n c : Nat) (hn : n ≤ 9223372036854775807) (e0 e1 : Nat → Value) (p : Nat → Bool) (w : World)
    (hc : 0 < n → ∃ ad, A = some ad ∧ ∀ j, j < n → w.cell? (ad.add (j * 2)) = some (e0 j) ∧ w.cell? ⟨(ad.add (j * 2)).block, (ad.add (j * 2)).off + 1, none⟩ = some (e1 j)) (hp : Says Try.prog g cb w n (fun j => .agg #[e0 j, e1 j]) p) :
    Calls Try.prog 182 #[.slice A n c, .func (.func g) #[] cb] w fun e w' => e = .returned (.int .i64 (firstFrom p 0 n)) ∧ Below w.heap.size w w' := by
  have HP : Hid (Says Try.prog g cb w n (fun j => .agg #[e0 j, e1 j]) p) := hp
  clear hp
  go_enter Try.func182, Try.ntmps182
  go_wp2
  generalize hB : w.heap.size = B
  go_loopw [8] (fun i wr => ∃ k : Nat, k ≤ n ∧ i = .int .i64 k ∧ firstFrom p 0 n = firstFrom p k (n - k) ∧ Below B w wr) (fun i _ => n - (intOf i).toNat)
  case atStart => exact ⟨0, Nat.zero_le _, rfl, rfl, Below.refl _ _⟩
  case round =>
    obtain ⟨k, hk, rfl, hf, hbel⟩ := hrel
    subst hB
    have HF : Hid (firstFrom p 0 n = firstFrom p k (n - k)) := hf
    clear hf
    by_cases hlt : k < n
    · obtain ⟨ad, rfl, hcell⟩ := hc (by omega)
      have hk0 := cell_below hbel _ _ (hcell k hlt).1
      have hk1 := cell_below hbel _ _ (hcell k hlt).2
      have HC : Hid (∀ j, j < n → w.cell? (ad.add (j * 2)) = some (e0 j) ∧ w.cell? ⟨(ad.add (j * 2)).block, (ad.add (j * 2)).off + 1, none⟩ = some (e1 j)) := hcell
      clear hcell hc
      have hcon := HP.out k hlt wr hbel
      simp only at hcon
      generalize e0 k = v0 at hk0 hcon
      generalize e1 k = v1 at hk1 hcon
      go_wp2_with fail
      refine hcon.mono ?_
      rintro e w1 ⟨rfl, hb1⟩
      have hbel1 := below_add hbel hb1 hbel.size
      have HPk : p k = true ∨ p k = false := by cases p k <;> simp
      rcases HPk with hpk | hpk
      · have hres := (HF.out).trans (firstFrom_yes hlt hpk)
        have HR : Hid (firstFrom p 0 n = (k : Int)) := hres
        clear hres
        go_wp2
        go_ret
        exact ⟨ret_int HR.out.symm, hbel1⟩
      · have hres := (HF.out).trans (firstFrom_no hlt hpk)
        have HR : Hid (firstFrom p 0 n = firstFrom p (k + 1) (n - (k + 1))) := hres
        clear hres
        go_wp2
        go_roundw
        case rel => exact ⟨k + 1, by omega, by go_num, HR.out, hbel1⟩
        case measure => simp [intOf]; omega
    · have e : k = n := by omega
      subst e
      have hres := HF.out
      rw [Nat.sub_self] at hres
      have HR : Hid (firstFrom p 0 k = -1) := hres
      clear hres
      go_wp2
      go_ret
      exact ⟨ret_int HR.out.symm, hbel⟩
set_option maxHeartbeats 400000 in
theorem contains_drop (g : FuncId) (cb : Array Value) (eg : ∀ args w, (callFunc g args).run Try.prog w = .ok (.enter g args) w) (A : Option Addr) (n c : Nat) (hn : n ≤ 9223372036854775807) (e0 e1 : Nat → Value) (p : Nat → Bool) (w : World)
    (hc : 0 < n → ∃ ad, A = some ad ∧ ∀ j, j < n → w.cell? (ad.add (j * 2)) = some (e0 j) ∧ w.cell? ⟨(ad.add (j * 2)).block, (ad.add (j * 2)).off + 1, none⟩ = some (e1 j)) (hp : Says Try.prog g cb w n (fun j => .agg #[e0 j, e1 j]) p) :
    Calls Try.prog 130 #[.slice A n c, .func (.func g) #[] cb] w fun e w' => e = .returned (.bool (anyTo p n)) ∧ Below w.heap.size w w' := by
  have h := index_drop g cb eg A n c hn e0 e1 p w hc hp
  have e : decide (0 ≤ firstFrom p 0 n) = anyTo p n := rfl
  clear hp
  generalize anyTo p n = r at e
  generalize firstFrom p 0 n = q at h e
  subst e
  go_enter Try.func130, Try.ntmps130
  go_wp2_with (go_at_call 182; refine h.mono ?_; rintro e w' ⟨rfl, hb⟩)
  go_ret
  exact ⟨rfl, hb⟩

def wrongE (x : Int) : Bool := decide (x < 0) || decide (16777216 ≤ x)
theorem wrong_any (x : Int) (w : World) : Calls Try.prog 132 #[.int .i64 x] w fun e w' => e = .returned (.bool (wrongE x)) ∧ w = w' := by
  by_cases h : x < 0
  · have e1 : decide (x < 0) = true := by simpa using h
    have hw : wrongE x = true := by unfold wrongE; rw [e1]; rfl
    go_enter Try.func132, Try.ntmps132
    go_wp2
    go_ret
    exact ⟨ret_bool hw.symm, rfl⟩
  · have e1 : decide (x < 0) = false := by simpa using h
    have hw : wrongE x = decide (16777216 ≤ x) := by unfold wrongE; rw [e1]; rfl
    have HW : Hid (wrongE x = decide (16777216 ≤ x)) := hw
    clear hw
    go_enter Try.func132, Try.ntmps132
    go_wp2
    go_ret
    exact ⟨ret_bool HW.out.symm, rfl⟩
theorem wrongDrop_any (v : Value) (x : Int) (w : World) (hv : v.oneCell' = true) : Calls Try.prog 131 #[.agg #[.int .i64 x, v]] w fun e w' => e = .returned (.bool (wrongE x)) ∧ Below w.heap.size w w' := by
  have hw := wrong_any x
  generalize wrongE x = b at *
  go_enter Try.func131, Try.ntmps131
  go_wp2_with fail
  refine (hw _).mono ?_
  rintro e w' ⟨rfl, rfl⟩
  go_wp2
  go_ret
  exact ⟨rfl, below_one _ _⟩
theorem sizeDrop_any (v : Value) (x : Int) (r : Row) (size gb : Nat) (w : World) (h : KBs.R noB w [v] r) (hb : w.cell? ⟨gb, 0, none⟩ = some (.int .i64 size)) : Calls Try.prog 133 #[.agg #[.int .i64 x, v], .pointer (some ⟨gb, 0, none⟩)] w fun e w' => e = .returned (.bool (r.length != size)) ∧ Below w.heap.size w w' := by
  obtain ⟨A, c, rfl, -⟩ := KSl.val h
  have hlt : gb < w.heap.size := World.block_lt_of_cell? w ⟨gb, 0, none⟩ hb
  have Hne : Hid (((r.length : Int) != (size : Int)) = (r.length != size)) := by
    show ((r.length : Int) != (size : Int)) = (r.length != size)
    by_cases e : r.length = size
    · rw [e]; simp
    · rw [bne_iff_ne.2 e, bne_iff_ne.2 (by omega)]
  go_enter Try.func133, Try.ntmps133
  go_wp2
  go_ret
  exact ⟨ret_bool Hne.out, below_one _ _⟩

theorem drops_cells {w : World} {A : Option Addr} {c : Nat} {l : List DropD} (h : KDrops.R noB w [.slice A l.length c] l) : ∃ e1 : Nat → Value, (∀ j (hj : j < l.length), KBs.R noB w [e1 j] l[j].2) ∧
    (0 < l.length → ∃ ad, A = some ad ∧ ∀ j, j < l.length → w.cell? (ad.add (j * 2)) = some (.int .i64 (l.getD j (0, [])).1) ∧ w.cell? ⟨(ad.add (j * 2)).block, (ad.add (j * 2)).off + 1, none⟩ = some (e1 j)) := by
  have hg : ∀ j (hj : j < l.length), ∃ u, KBs.R noB w [u] l[j].2 ∧ ∀ ad, A = some ad → w.cell? (ad.add (j * 2)) = some (.int .i64 l[j].1) ∧ w.cell? ⟨(ad.add (j * 2)).block, (ad.add (j * 2)).off + 1, none⟩ = some u := fun j hj => by
    obtain ⟨ad, u, e, h1, h2, h3, _⟩ := KDrops.at_ h hj
    exact ⟨u, h3, fun ad' e' => by rw [e] at e'; rw [← Option.some.inj e']; exact ⟨h1, h2⟩⟩
  refine ⟨fun j => if hj : j < l.length then (hg j hj).choose else undef, fun j hj => ?_, fun hp => ?_⟩
  · simp only [hj, dif_pos]
    exact (hg j hj).choose_spec.1
  · obtain ⟨ad, u, e, _⟩ := KDrops.at_ h hp
    refine ⟨ad, e, fun j hj => ?_⟩
    simp only [hj, dif_pos]
    rw [getD_eq _ _ _ hj]
    exact (hg j hj).choose_spec.2 ad e
theorem anyTo_list {α : Type} (l : List α) (d : α) (p : α → Bool) : anyTo (fun j => p (l.getD j d)) l.length = l.any p := by
  rw [Bool.eq_iff_iff, anyTo_iff, List.any_eq_true]
  constructor
  · rintro ⟨i, hi, h⟩
    rw [getD_eq _ _ _ hi] at h
    exact ⟨_, List.getElem_mem hi, h⟩
  · rintro ⟨x, hx, h⟩
    obtain ⟨i, hi, rfl⟩ := List.getElem_of_mem hx
    exact ⟨i, hi, by rw [getD_eq _ _ _ hi]; exact h⟩
theorem wrongs_any (v : Value) (l : List DropD) (w : World) (h : KDrops.R noB w [v] l) :
    Calls Try.prog 130 #[v, .func (.func 131) #[] #[]] w fun e w' => e = .returned (.bool (l.any fun x => wrongE x.1)) ∧ Below w.heap.size w w' := by
  obtain ⟨A, c, rfl, hlc, hc, -⟩ := KSl.val h
  obtain ⟨e1, he1, hcell⟩ := drops_cells h
  have := contains_drop 131 #[] (enters_of Try.func131 (by kernel_rfl) rfl) A l.length c (by omega) (fun j => .int .i64 (l.getD j (0, [])).1) e1 (fun j => wrongE (l.getD j (0, [])).1) w hcell (fun i hi W hW => by
    exact wrongDrop_any (e1 i) _ W (KBs.one (he1 i hi) _ (by simp)))
  rwa [anyTo_list l (0, []) fun x => wrongE x.1] at this
theorem dsizes_any (v : Value) (l : List DropD) (size gb : Nat) (w : World) (h : KDrops.R noB w [v] l) (hb : w.cell? ⟨gb, 0, none⟩ = some (.int .i64 size)) :
    Calls Try.prog 130 #[v, .func (.func 133) #[] #[.pointer (some ⟨gb, 0, none⟩)]] w fun e w' => e = .returned (.bool (l.any fun x => x.2.length != size)) ∧ Below w.heap.size w w' := by
  obtain ⟨A, c, rfl, hlc, hc, -⟩ := KSl.val h
  obtain ⟨e1, he1, hcell⟩ := drops_cells h
  have := contains_drop 133 #[.pointer (some ⟨gb, 0, none⟩)] (enters_of Try.func133 (by kernel_rfl) rfl) A l.length c (by omega) (fun j => .int .i64 (l.getD j (0, [])).1) e1 (fun j => (l.getD j (0, [])).2.length != size) w hcell (fun i hi W hW => by
    have := sizeDrop_any (e1 i) (l.getD i (0, [])).1 (l.getD i (0, [])).2 size gb W (by rw [getD_eq _ _ _ hi]; exact Kd.below (he1 i hi) hW) (cell_below hW _ _ hb)
    exact this)
  rwa [anyTo_list l (0, []) fun x => x.2.length != size] at this

/-! ### A set of numbers: map[int]bool -/
theorem zero_bool (w : World) : (zeroValue 4).run Try.prog w = .ok (.bool false) w := by kernel_rfl
theorem plainElem_bool_inv {H : Type} {P : Program} {e : TypeId} (he : P.underlying e = some .bool) {v : Value} {c : Bool} {ps : List MemPlace} (h : plainElem (H := H) P e v = some (.lit (.bool c), ps)) : v = .bool c := by
  unfold plainElem at h
  rw [he] at h
  cases v <;> simp at h
  rw [h.1]
/-- Block b is a map of at most n numbers that says p. -/
def Seen (w : World) (b n : Nat) (p : Int → Bool) : Prop := ∃ D : DataW Nat, w.ownsMap Try.prog 3 (plainElem Try.prog 4) b n D ∧ Maps.IsMap D ∧ ∀ x, IsInt x → ∃ c : Bool, c = p x ∧ D.atKey (.int .i64 x) (.lit (.bool false)) = .lit (.bool c)
theorem int_wf {x : Int} (h : IsInt x) : (Lit.int .i64 x).wf = true := WalkArith.wf_i64 ⟨h.1, by have := h.2; omega⟩
theorem Seen.lt {w : World} {b n : Nat} {p : Int → Bool} (h : Seen w b n p) : b < w.heap.size := by
  obtain ⟨D, h, _⟩ := h
  exact h.lt
theorem Seen.same {w w' : World} {b n : Nat} {p : Int → Bool} (h : Seen w b n p) (hb : w'.heap[b]? = w.heap[b]?) : Seen w' b n p := by
  obtain ⟨D, ⟨es, clock, h1, h2⟩, h3⟩ := h
  exact ⟨D, ⟨es, clock, hb.trans h1, h2⟩, h3⟩
theorem Seen.below {w w' : World} {b n : Nat} {p : Int → Bool} (h : Seen w b n p) (hb : Below w.heap.size w w') : Seen w' b n p := h.same (hb.block b h.lt)
theorem Seen.mono {w : World} {b n m : Nat} {p : Int → Bool} (h : Seen w b n p) (hn : n ≤ m) : Seen w b m p := by
  obtain ⟨D, h1, h2⟩ := h
  exact ⟨D, h1.mono hn, h2⟩
theorem Seen.made (w : World) : Seen (w.alloc (.map #[] 0)) w.heap.size 0 (fun _ => false) := ⟨.map [], World.ownsMap_made _ _ _ _, ⟨_, rfl⟩, fun x _ => ⟨false, rfl, rfl⟩⟩
theorem wpList_seen {w : World} {ops : Array Oper} {rest : List Oper} {o : Oper} {a : Act} {Q : Exit → Act → World → Prop}
    (hg : o.guard = none) (m x : Operand) (hop : o.op = Op.lookup 199 m x false) {b n : Nat} {p : Int → Bool} {k : Int} (hm : a.eval m = .map (some b)) (hx : a.eval x = .int .i64 k) (hs : Seen w b n p) (hk : IsInt k)
    (hK : wpList Try.prog ops Q rest (a.put o.dst (.bool (p k))) w) : wpList Try.prog ops Q (o :: rest) a w := by
  obtain ⟨D, hown, hmap, hp⟩ := hs
  refine wpList_plain hg fun K' hK' => ?_
  obtain ⟨v, ps, hrun, hv⟩ := hown.lookup (Maps.int_keyed Try.underlying3) Try.underlying199 (zero_bool w) (plainElem_bool Try.underlying4 false) (Maps.keyOf_int_mk Try.underlying3 (int_wf hk))
  obtain ⟨c, hc, hat⟩ := hp k hk
  rw [hat] at hv
  have := plainElem_bool_inv Try.underlying4 hv
  subst this
  subst hc
  unfold Oper.wp
  simp [execOp, hop, hm, hx, hrun, Result.andThen]
  exact hK' _ _ hK
theorem wpList_see {w : World} {ops : Array Oper} {rest : List Oper} {o : Oper} {a : Act} {Q : Exit → Act → World → Prop}
    (hg : o.guard = none) (m x v : Operand) (hop : o.op = Op.mapUpdate 199 m x v) {b n : Nat} {p : Int → Bool} {k : Int} (hm : a.eval m = .map (some b)) (hx : a.eval x = .int .i64 k) (hv : a.eval v = .bool true) (hs : Seen w b n p) (hk : IsInt k) (hn : n ≤ 1000000)
    (hK : ∀ w', Seen w' b (n + 1) (fun y => decide (y = k) || p y) → w.grownBy w' (some b) → wpList Try.prog ops Q rest (a.put o.dst undef) w') : wpList Try.prog ops Q (o :: rest) a w := by
  obtain ⟨D, hown, hmap, hp⟩ := hs
  refine wpList_mapUpdate_own w hg m x v 199 hop 3 4 (Maps.int_keyed Try.underlying3) Try.underlying199 _ b n D hm hown (by unfold maxLen; omega) _ _ (.int .i64 k) hx hv (Maps.keyOf_int_mk Try.underlying3 (int_wf hk)) (.lit (.bool true)) [] (plainElem_bool Try.underlying4 true) ?_
  intro w' h1 h2
  refine hK w' ⟨_, h1, hmap.put _ _, fun y hy => ?_⟩ h2
  by_cases e : y = k
  · refine ⟨true, by simp [e], ?_⟩
    rw [e]
    exact Maps.atKey_put_same hmap (by simp [WideAt.IsKeyLit]) _ _
  · obtain ⟨c, hc, hat⟩ := hp y hy
    refine ⟨c, by simp [e, hc], ?_⟩
    rw [Maps.atKey_put_other (fun h => e (by injection h)), hat]
end Go.Proofs.Ytpdfcgkeclocoaa
