/- Words for what lies in memory: kinds of values, slices of them, rows of the call's own, a block that is known whole. -/
import Derived.Test.YtpdfcgkeclocoaaNum
import Derived.Laws.OwnMore
import Derived.Deep.Draws
import Derived.Laws.Rows
import Derived.Deep.OwnRows
import Derived.Maps.AppendAt
import Derived.Laws.AppendOwnNone
import Derived.OwnWalk
set_option linter.all false
namespace Go.Proofs.Ytpdfcgkeclocoaa
open Go.RowKit

/-! ### Blocks, worlds -/
abbrev Blocks := Nat → Prop
def noB : Blocks := fun _ => False
/-- The blocks that were there. -/
def old (w : World) : Blocks := fun g => g < w.heap.size
/-- Nothing but blocks of M has turned. -/
structure Upd (M : Blocks) (w w' : World) : Prop where
  os : w'.os = w.os
  tape : w'.tape = w.tape
  output : w'.output = w.output
  size : w.heap.size ≤ w'.heap.size
  block : ∀ g, g < w.heap.size → ¬ M g → w'.heap[g]? = w.heap[g]?
theorem Upd.refl (M : Blocks) (w : World) : Upd M w w := ⟨rfl, rfl, rfl, Nat.le_refl _, fun _ _ _ => rfl⟩
theorem Upd.trans {M : Blocks} {a b c : World} (h : Upd M a b) (k : Upd M b c) : Upd M a c :=
  ⟨k.os.trans h.os, k.tape.trans h.tape, k.output.trans h.output, Nat.le_trans h.size k.size, fun g hg hm => (k.block g (Nat.lt_of_lt_of_le hg h.size) hm).trans (h.block g hg hm)⟩
theorem Upd.mono {M M' : Blocks} {w w' : World} (h : Upd M w w') (hm : ∀ g, g < w.heap.size → M g → M' g) : Upd M' w w' :=
  ⟨h.os, h.tape, h.output, h.size, fun g hg hn => h.block g hg (fun hM => hn (hm g hg hM))⟩
theorem Upd.of_below {M : Blocks} {w w' : World} (h : Below w.heap.size w w') : Upd M w w' := ⟨h.os, h.tape, h.output, h.size, fun g hg _ => h.block g hg⟩
theorem Upd.below {w w' : World} (h : Upd noB w w') : Below w.heap.size w w' := ⟨h.os, h.tape, h.output, h.size, fun g hg => h.block g hg (fun h => h)⟩
theorem Upd.grown {M : Blocks} {w w' : World} {g : Option Nat} (h : w.grownBy w' g) (hg : ∀ b, g = some b → b < w.heap.size → M b) : Upd M w w' :=
  ⟨h.os, h.tape, h.output, h.size, fun b hb hn => h.block b hb (fun e => hn (hg b e.symm hb))⟩
theorem Upd.set_ (w : World) (p : Addr) (u : Value) : Upd (fun g => g = p.block) w (w.setCell p u) :=
  ⟨rfl, rfl, rfl, by simp, fun g _ hn => Below.heap_setCell w p u g hn⟩
theorem Upd.drew {M : Blocks} {w w' : World} (h : Upd M w w') : Upd M w w'.drew := ⟨h.os, h.tape, h.output, h.size, h.block⟩
theorem below_one (w : World) (o : Obj) : Below w.heap.size w (w.alloc o) := (Below.refl _ _).alloc (Nat.le_refl _) o
theorem below_add {B : Nat} {w w' w2 : World} (h : Below B w w') (h2 : Below w'.heap.size w' w2) (hB : B ≤ w'.heap.size) : Below B w w2 := h.trans (h2.mono hB)
theorem cell_below {w w' : World} (hb : Below w.heap.size w w') (p : Addr) (v : Value) (h : w.cell? p = some v) : w'.cell? p = some v :=
  (hb.cell (World.block_lt_of_cell? w p h)).trans h
theorem add_block (a : Addr) (n : Nat) : (a.add n).block = a.block := by unfold Addr.add; split <;> rfl
theorem add_plain (g j : Nat) : (⟨g, 0, none⟩ : Addr).add j = ⟨g, j, none⟩ := by unfold Addr.add; split <;> simp_all
theorem cell_same {w w' : World} {p : Addr} {v : Value} (h : w.cell? p = some v) (hb : w'.heap[p.block]? = w.heap[p.block]?) : w'.cell? p = some v := (World.cell?_of_block hb).trans h

theorem same_lt {w w' : World} {g : Nat} (h : g < w.heap.size) (hb : w'.heap[g]? = w.heap[g]?) : g < w'.heap.size := by
  rcases Nat.lt_or_ge g w'.heap.size with h1 | h1
  · exact h1
  · rw [Array.getElem?_eq_none h1] at hb
    exact absurd (Array.getElem?_eq_none_iff.1 hb.symm) (by omega)
theorem add_of_add (a : Addr) (i j : Nat) : (a.add i).add j = a.add (i + j) := by
  unfold Addr.add
  by_cases hi : i = 0 <;> by_cases hj : j = 0 <;> simp [hi, hj, Nat.add_assoc]

/-! ### Kinds -/
/-- A kind of values: how many cells one takes, when cells are a value in a world, M being what may still turn. -/
structure Kd (α : Type) where
  size : Nat
  R : Blocks → World → List Value → α → Prop
  len : ∀ {M w cs x}, R M w cs x → cs.length = size
  keep : ∀ {M w w' cs x}, R M w cs x → (∀ g, g < w.heap.size → ¬ M g → w'.heap[g]? = w.heap[g]?) → R M w' cs x
  anti : ∀ {M M' w cs x}, R M w cs x → (∀ g, g < w.heap.size → M' g → M g) → R M' w cs x
  one : ∀ {M w cs x}, R M w cs x → ∀ u ∈ cs, u.oneCell' = true
section
variable {α β : Type} {K : Kd α} {M M' : Blocks} {w w' : World} {cs : List Value} {x : α}
theorem Kd.below (h : K.R M w cs x) (hb : Below w.heap.size w w') : K.R M w' cs x := K.keep h fun g hg _ => hb.block g hg
theorem Kd.upd (h : K.R M w cs x) (hb : Upd M w w') : K.R M w' cs x := K.keep h hb.block
theorem Kd.drop (h : K.R M w cs x) : K.R noB w cs x := K.anti h fun _ _ h => h.elim
end

/-- Values that lie in their cells alone. -/
def KFlat {α : Type} (n : Nat) (enc : α → List Value) (ok : α → Prop) (h : ∀ x, (enc x).length = n) (h1 : ∀ x, ∀ u ∈ enc x, u.oneCell' = true) : Kd α where
  size := n
  R := fun _ _ cs x => cs = enc x ∧ ok x
  len := fun ⟨e, _⟩ => by rw [e, h]
  keep := fun h _ => h
  anti := fun h _ => h
  one := fun ⟨e, _⟩ => by rw [e]; exact h1 _
def IsInt (x : Int) : Prop := -9223372036854775808 ≤ x ∧ x ≤ 9223372036854775807
def encB (x : UInt8) : Value := .int .u8 x.toNat
def KByte : Kd UInt8 := KFlat 1 (fun x => [encB x]) (fun _ => True) (fun _ => rfl) (fun x u hu => by rw [List.mem_singleton.1 hu]; rfl)
def KInt : Kd Int := KFlat 1 (fun x => [.int .i64 x]) IsInt (fun _ => rfl) (fun x u hu => by rw [List.mem_singleton.1 hu]; rfl)
def KBool : Kd Bool := KFlat 1 (fun x => [.bool x]) (fun _ => True) (fun _ => rfl) (fun x u hu => by rw [List.mem_singleton.1 hu]; rfl)
def KPair {α β : Type} (K : Kd α) (L : Kd β) : Kd (α × β) where
  size := K.size + L.size
  R := fun M w cs x => ∃ c1 c2, cs = c1 ++ c2 ∧ K.R M w c1 x.1 ∧ L.R M w c2 x.2
  len := fun ⟨c1, c2, e, h1, h2⟩ => by rw [e, List.length_append, K.len h1, L.len h2]
  keep := fun ⟨c1, c2, e, h1, h2⟩ hb => ⟨c1, c2, e, K.keep h1 hb, L.keep h2 hb⟩
  anti := fun ⟨c1, c2, e, h1, h2⟩ hb => ⟨c1, c2, e, K.anti h1 hb, L.anti h2 hb⟩
  one := fun ⟨c1, c2, e, h1, h2⟩ u hu => by
    rw [e] at hu
    rcases List.mem_append.1 hu with hu | hu
    · exact K.one h1 u hu
    · exact L.one h2 u hu
def KMap {α β : Type} (K : Kd α) (f : β → α) : Kd β where
  size := K.size
  R := fun M w cs x => K.R M w cs (f x)
  len := fun h => K.len h
  keep := fun h hb => K.keep h hb
  anti := fun h hb => K.anti h hb
  one := fun h => K.one h

/-- An element's cells at an address. -/
def CellsAt (w : World) (a : Addr) (cs : List Value) : Prop := ∀ i u, cs[i]? = some u → w.cell? (a.add i) = some u
theorem CellsAt.keep {w w' : World} {a : Addr} {cs : List Value} (h : CellsAt w a cs) (hb : w'.heap[a.block]? = w.heap[a.block]?) : CellsAt w' a cs := fun i u hu =>
  cell_same (h i u hu) (by rw [add_block]; exact hb)
theorem CellsAt.below {w w' : World} {a : Addr} {cs : List Value} (h : CellsAt w a cs) (hb : Below w.heap.size w w') : CellsAt w' a cs := fun i u hu => cell_below hb _ _ (h i u hu)

/-- A slice whose elements are of a kind, of so many bytes each. -/
def KSl {α : Type} (bytes : Nat) (K : Kd α) : Kd (List α) where
  size := 1
  R := fun M w cs l => ∃ A c, cs = [.slice A l.length c] ∧ l.length ≤ c ∧ c ≤ 9223372036854775807 ∧ l.length * bytes ≤ 140737488355328 ∧ (A = none → c = 0) ∧
    (0 < l.length → ∃ ad, A = some ad ∧ ad.block < w.heap.size ∧ ¬ M ad.block ∧ ∀ j (h : j < l.length), ∃ ecs, K.R M w ecs l[j] ∧ CellsAt w (ad.add (j * K.size)) ecs)
  len := fun ⟨A, c, e, _⟩ => by rw [e]; rfl
  keep := fun ⟨A, c, e, h1, h2, h3, h4, h5⟩ hb => ⟨A, c, e, h1, h2, h3, h4, fun hn => by
    obtain ⟨ad, he, hl, hm, hc⟩ := h5 hn
    have hsame := hb _ hl hm
    refine ⟨ad, he, same_lt hl hsame, hm, fun j hj => ?_⟩
    obtain ⟨ecs, hr, hcell⟩ := hc j hj
    exact ⟨ecs, K.keep hr hb, hcell.keep (by rw [add_block]; exact hsame)⟩⟩
  anti := fun ⟨A, c, e, h1, h2, h3, h4, h5⟩ hb => ⟨A, c, e, h1, h2, h3, h4, fun hn => by
    obtain ⟨ad, he, hl, hm, hc⟩ := h5 hn
    refine ⟨ad, he, hl, fun hM => hm (hb _ hl hM), fun j hj => ?_⟩
    obtain ⟨ecs, hr, hcell⟩ := hc j hj
    exact ⟨ecs, K.anti hr hb, hcell⟩⟩
  one := fun ⟨A, c, e, _⟩ u hu => by rw [e, List.mem_singleton] at hu; rw [hu]; rfl

section
variable {α : Type} {bytes : Nat} {K : Kd α} {M : Blocks} {w w' : World}
theorem KSl.nil : (KSl bytes K).R M w [.slice none 0 0] [] := ⟨none, 0, rfl, Nat.le_refl _, by omega, by simp, fun _ => rfl, fun h => absurd h (by simp)⟩
/-- A slice's value, opened. -/
theorem KSl.val {v : Value} {l : List α} (h : (KSl bytes K).R M w [v] l) : ∃ A c, v = .slice A l.length c ∧ l.length ≤ c ∧ c ≤ 9223372036854775807 ∧ l.length * bytes ≤ 140737488355328 ∧ (A = none → c = 0) ∧
    (0 < l.length → ∃ ad, A = some ad ∧ ad.block < w.heap.size ∧ ¬ M ad.block ∧ ∀ j (h : j < l.length), ∃ ecs, K.R M w ecs l[j] ∧ CellsAt w (ad.add (j * K.size)) ecs) := by
  obtain ⟨A, c, e, h⟩ := h
  simp only [List.cons.injEq, and_true] at e
  exact ⟨A, c, e, h⟩
theorem KSl.mk {A : Option Addr} {c : Nat} {l : List α} (h1 : l.length ≤ c) (h2 : c ≤ 9223372036854775807) (h3 : l.length * bytes ≤ 140737488355328) (h4 : A = none → c = 0)
    (h5 : 0 < l.length → ∃ ad, A = some ad ∧ ad.block < w.heap.size ∧ ¬ M ad.block ∧ ∀ j (h : j < l.length), ∃ ecs, K.R M w ecs l[j] ∧ CellsAt w (ad.add (j * K.size)) ecs) : (KSl bytes K).R M w [.slice A l.length c] l := ⟨A, c, rfl, h1, h2, h3, h4, h5⟩
end

/-! ### Bytes -/
abbrev KBs : Kd (List UInt8) := KSl 1 KByte
theorem CellsAt.byte {w : World} {a : Addr} {x : UInt8} {ecs : List Value} {M : Blocks} (h : CellsAt w a ecs) (hr : KByte.R M w ecs x) : w.cell? a = some (.int .u8 x.toNat) := by
  obtain ⟨rfl, _⟩ := hr
  have := h 0 (encB x) rfl
  have hz : a.add 0 = a := by simp [Addr.add]
  rwa [hz] at this
theorem CellsAt.int {w : World} {a : Addr} {x : Int} {ecs : List Value} {M : Blocks} (h : CellsAt w a ecs) (hr : KInt.R M w ecs x) : w.cell? a = some (.int .i64 x) := by
  obtain ⟨rfl, _⟩ := hr
  have := h 0 _ rfl
  have hz : a.add 0 = a := by simp [Addr.add]
  rwa [hz] at this
theorem CellsAt.one_ {w : World} {a : Addr} {v : Value} (h : CellsAt w a [v]) : w.cell? a = some v := by
  have := h 0 v rfl
  have hz : a.add 0 = a := by simp [Addr.add]
  rwa [hz] at this

/-! ### A block that is known whole -/
def Blk (w : World) (g : Nat) (t : TypeId) (cs : List Value) : Prop := w.heap[g]? = some (.cells cs.toArray t (0, 0))
section
variable {w w' : World} {g : Nat} {t : TypeId} {cs : List Value}
theorem Blk.lt (h : Blk w g t cs) : g < w.heap.size := by
  rcases Nat.lt_or_ge g w.heap.size with hlt | hge
  · exact hlt
  · unfold Blk at h; rw [Array.getElem?_eq_none hge] at h; cases h
theorem Blk.cell (h : Blk w g t cs) (i : Nat) : w.cell? ⟨g, i, none⟩ = cs[i]? := by rw [cell_of_row w g i cs.toArray t (0, 0) h, List.getElem?_toArray]
theorem Blk.frozen (h : Blk w g t cs) (i : Nat) : w.frozen? ⟨g, i, none⟩ = false := by
  unfold Blk at h
  simp [World.frozen?, h]
theorem Blk.new (w : World) (t : TypeId) (cs : List Value) : Blk (w.alloc (.cells cs.toArray t)) w.heap.size t cs := heap_alloc_new w _
theorem Blk.made (w : World) (t : TypeId) (z : Value) (n : Nat) : Blk (w.alloc (.cells (madeCells #[z] n) t)) w.heap.size t (List.replicate n z) := by
  have h := Blk.new w t (List.replicate n z)
  have e : (List.replicate n z).toArray = madeCells #[z] n := by rw [← toList_madeCells_one]
  rw [e] at h
  exact h
theorem Blk.drew (h : Blk w g t cs) : Blk w.drew g t cs := h
theorem Blk.drewN (h : Blk w g t cs) (n : Nat) : Blk (w.drewN n) g t cs := h
theorem Blk.alloc (h : Blk w g t cs) (o : Obj) : Blk (w.alloc o) g t cs := (Below.heap_alloc w o g h.lt).trans h
theorem Blk.set_ (h : Blk w g t cs) (i : Nat) (u : Value) : Blk (w.setCell ⟨g, i, none⟩ u) g t (cs.set i u) := by
  unfold Blk at h ⊢
  simp [World.setCell, Array.getElem?_modify, h]
theorem Blk.far (h : Blk w g t cs) {p : Addr} (hp : g ≠ p.block) (u : Value) : Blk (w.setCell p u) g t cs := (Below.heap_setCell w p u g hp).trans h
theorem Blk.below (h : Blk w g t cs) (hb : Below w.heap.size w w') : Blk w' g t cs := (hb.block g h.lt).trans h
theorem Blk.upd {M : Blocks} (h : Blk w g t cs) (hb : Upd M w w') (hm : ¬ M g) : Blk w' g t cs := (hb.block g h.lt hm).trans h
theorem Blk.same (h : Blk w g t cs) (hb : w'.heap[g]? = w.heap[g]?) : Blk w' g t cs := hb.trans h
end
theorem map_set_encB (l : List UInt8) (i : Nat) (x : UInt8) : (l.map encB).set i (encB x) = (l.set i x).map encB := by rw [List.map_set]

theorem flatten_get {css : List (List Value)} {k : Nat} (hsz : ∀ c ∈ css, c.length = k) : ∀ {j i : Nat} (hj : j < css.length), i < k → css.flatten[j * k + i]? = css[j][i]? := by
  induction css with
  | nil => intro j i hj; simp at hj
  | cons c css ih =>
    intro j i hj hi
    have hc : c.length = k := hsz c (by simp)
    cases j with
    | zero => rw [List.flatten_cons, Nat.zero_mul, Nat.zero_add, List.getElem?_append_left (by omega)]; rfl
    | succ j =>
      rw [List.flatten_cons, List.getElem?_append_right (by rw [hc, Nat.succ_mul]; omega), hc, show (j + 1) * k + i - k = j * k + i from by rw [Nat.succ_mul]; omega]
      simp only [List.getElem_cons_succ]
      exact ih (fun d hd => hsz d (by simp [hd])) (by simpa using hj) hi
/-- A slice over a whole block. -/
theorem KSl.of_blk {α : Type} {bytes : Nat} {K : Kd α} {M : Blocks} {w : World} {g : Nat} {t : TypeId} {css : List (List Value)} {l : List α} (h : Blk w g t css.flatten) (hm : ¬ M g) (hn : css.length = l.length) (hl : l.length * bytes ≤ 140737488355328) (h63 : l.length ≤ 9223372036854775807)
    (hv : ∀ i (h1 : i < css.length) (h2 : i < l.length), K.R M w css[i] l[i]) : (KSl bytes K).R M w [.slice (some ⟨g, 0, none⟩) l.length l.length] l := by
  refine KSl.mk (Nat.le_refl _) h63 hl (fun e => by cases e) fun hp => ⟨_, rfl, h.lt, hm, fun j hj => ⟨css[j], hv j (by omega) hj, fun i u hu => ?_⟩⟩
  have hsz : ∀ c ∈ css, c.length = K.size := fun c hc => by
    obtain ⟨i, hi, rfl⟩ := List.getElem_of_mem hc
    exact K.len (hv i hi (by omega))
  rw [add_plain]
  have e : (⟨g, j * K.size, none⟩ : Addr).add i = ⟨g, j * K.size + i, none⟩ := by unfold Addr.add; split <;> simp_all
  rw [e, h.cell]
  have hi : i < css[j].length := (List.getElem?_eq_some_iff.1 hu).1
  rw [flatten_get hsz (by omega) (by rw [← hsz css[j] (List.getElem_mem _)]; exact hi)]
  exact hu
theorem flatten_bytes (l : List UInt8) : (l.map fun x => [encB x]).flatten = l.map encB := by induction l <;> simp_all
theorem KBs.of_blk {M : Blocks} {w : World} {g : Nat} {t : TypeId} {l : List UInt8} (h : Blk w g t (l.map encB)) (hm : ¬ M g) (hl : l.length ≤ 140737488355328) : KBs.R M w [.slice (some ⟨g, 0, none⟩) l.length l.length] l :=
  KSl.of_blk (css := l.map fun x => [encB x]) (t := t) (by rw [flatten_bytes]; exact h) hm (by simp) (by omega) (by omega) (fun i h1 h2 => by rw [List.getElem_map]; exact ⟨rfl, trivial⟩)

/-! ### A row of the call's own -/
/-- v: a slice that the call has made, from block B on, of elements of type e, that holds xs; M: what else may turn. -/
def Own {α : Type} (K : Kd α) (e : TypeId) (B : Nat) (M : Blocks) (w : World) (v : Value) (xs : List α) : Prop :=
  ∃ css : List (List Value), css.length = xs.length ∧ w.ownsRow B e K.size v xs.length css.flatten ∧ ∀ i (h1 : i < css.length) (h2 : i < xs.length), K.R (fun g => M g ∨ v.ownBlock = some g) w css[i] xs[i]

section
variable {α : Type} {K : Kd α} {e : TypeId} {B : Nat} {M : Blocks} {w w' : World} {v : Value} {xs : List α}
theorem Own.nil : Own K e B M w (.slice none 0 0) [] := ⟨[], rfl, World.ownsRow_nil w B e K.size, fun i h => absurd h (by simp)⟩
theorem Own.block (h : Own K e B M w v xs) {g : Nat} (hg : v.ownBlock = some g) : B ≤ g ∧ g < w.heap.size := by
  obtain ⟨css, _, hown, _⟩ := h
  exact hown.lt g hg
theorem Own.keep (h : Own K e B M w v xs) (hs : w.os = w'.os ∧ w.tape = w'.tape ∧ w.output = w'.output ∧ w.heap.size ≤ w'.heap.size) (hb : ∀ g, g < w.heap.size → ¬ M g → w'.heap[g]? = w.heap[g]?) (hv : ∀ g, v.ownBlock = some g → ¬ M g) : Own K e B M w' v xs := by
  obtain ⟨css, hl, hown, hr⟩ := h
  refine ⟨css, hl, ?_, fun i h1 h2 => K.keep (hr i h1 h2) fun g hg hn => hb g hg (fun hM => hn (.inl hM))⟩
  obtain ⟨h1, h2⟩ := hown
  refine ⟨h1, ?_⟩
  rcases h2 with h2 | ⟨g, cap, cur, rfl, hB, hh, r⟩
  · exact .inl h2
  · have hlt : g < w.heap.size := (Array.getElem?_eq_some_iff.1 hh).1
    exact .inr ⟨g, cap, cur, rfl, hB, (hb g hlt (hv g rfl)).trans hh, r⟩
theorem Own.upd (h : Own K e B M w v xs) (hb : Upd M w w') (hv : ∀ g, v.ownBlock = some g → ¬ M g) : Own K e B M w' v xs :=
  h.keep ⟨hb.os.symm, hb.tape.symm, hb.output.symm, hb.size⟩ hb.block hv
theorem Own.below (h : Own K e B M w v xs) (hb : Below w.heap.size w w') : Own K e B M w' v xs := by
  obtain ⟨css, hl, hown, hr⟩ := h
  refine ⟨css, hl, ?_, fun i h1 h2 => Kd.below (hr i h1 h2) hb⟩
  exact hown.kept (row := none) ⟨hb.os, hb.tape, hb.output, hb.size, fun i hi _ => hb.block i hi⟩ (by cases hh : v.ownBlock <;> simp)
theorem Own.anti {M' : Blocks} (h : Own K e B M w v xs) (hm : ∀ g, g < w.heap.size → M' g → M g) : Own K e B M' w v xs := by
  obtain ⟨css, hl, hown, hr⟩ := h
  exact ⟨css, hl, hown, fun i h1 h2 => K.anti (hr i h1 h2) fun g hg hn => hn.imp (hm g hg) id⟩
theorem Own.flat_len (h : Own K e B M w v xs) : ∃ c, v = .slice none 0 0 ∧ c = 0 ∨ ∃ g, v = .slice (some ⟨g, 0, none⟩) xs.length c := by
  obtain ⟨css, _, hown, _⟩ := h
  rcases hown.2 with ⟨rfl, hn⟩ | ⟨g, cap, cur, rfl, _⟩
  · exact ⟨0, .inl ⟨rfl, rfl⟩⟩
  · exact ⟨cap, .inr ⟨g, rfl⟩⟩
/-- What is owned can be read; it lies from B on. -/
theorem Own.sl {bytes : Nat} {M' : Blocks} (h : Own K e B M w v xs) (hl : xs.length * bytes ≤ 140737488355328) (hm : ∀ g, g < w.heap.size → M' g → M g) (hv : ∀ g, v.ownBlock = some g → ¬ M' g) : (KSl bytes K).R M' w [v] xs := by
  obtain ⟨css, hlen, hown, hr⟩ := h
  rcases hown.2 with ⟨rfl, hn⟩ | ⟨g, cap, cur, rfl, hB, hh, h1, h2, h3, h4⟩
  · have : xs = [] := List.eq_nil_of_length_eq_zero hn
    subst this
    exact KSl.nil
  · have hlt : g < w.heap.size := (Array.getElem?_eq_some_iff.1 hh).1
    refine KSl.mk h1 (by simp only [maxLen] at h2; omega) hl (fun e => by cases e) fun hp => ⟨_, rfl, hlt, hv g rfl, fun j hj => ⟨css[j], K.anti (hr j (by omega) hj) fun g' hg' hM => .inl (hm g' hg' hM), fun i u hu => ?_⟩⟩
    have hi : i < K.size := by
      have := (List.getElem?_eq_some_iff.1 hu).1
      rwa [K.len (hr j (by omega) hj)] at this
    have hcell := hown.cells (g := g) rfl (j * K.size + i) u (by
      rw [flatten_get (fun c hc => ?_) (by omega) hi]; exact hu
      obtain ⟨q, hq, rfl⟩ := List.getElem_of_mem hc
      exact K.len (hr q hq (by omega)))
    rw [add_of_add]; exact hcell
end

/-- What the program's table says of an element type. -/
structure Elem (P : Program) (t e : TypeId) (size bytes : Nat) : Prop where
  und : P.underlying t = some (.slice e)
  pos : 0 < size
  info : ∃ i z, P.info? e = some i ∧ i.zero = some z ∧ i.size = size ∧ i.bytes = bytes ∧ z.cells.size = size
theorem Elem.mk' {P : Program} {t e : TypeId} {size bytes : Nat} {z : Value} (hu : P.underlying t = some (.slice e)) (hi : (P.info? e).map (fun i => (i.zero, i.size, i.bytes)) = some (some z, size, bytes)) (hp : 0 < size) (hz : z.cells.size = size) : Elem P t e size bytes := by
  obtain ⟨i, h1, h2, h3, h4⟩ := info_parts hi
  exact ⟨hu, hp, i, z, h1, h2, h3, h4, hz⟩

/-- append(s, x...) where s is the call's own, and what comes is readable and lies elsewhere. -/
theorem wpList_app {P : Program} {w : World} {ops : Array Oper} {rest : List Oper} {o : Oper} {a : Act} {Q : Exit → Act → World → Prop} {t e : TypeId} {bytes : Nat} {α : Type} {K : Kd α} (E : Elem P t e K.size bytes)
    (hgd : o.guard = none) (s x : Operand) (ho : o.op = .call { callee := .builtin .append, args := #[s, x], argTypes := #[t, t] })
    {B : Nat} {M : Blocks} {v y : Value} {xs ys : List α} (hs : a.eval s = v) (hx : a.eval x = y) (hown : Own K e B M w v xs) {by' : Nat} (hy : (KSl by' K).R (fun g => M g ∨ v.ownBlock = some g) w [y] ys)
    (hlen : (xs.length + ys.length) * bytes ≤ 140737488355328) (hlen2 : xs.length + ys.length ≤ 9223372036854775807) (hB : B ≤ w.heap.size) (hM : ∀ g, M g → g < w.heap.size)
    (h : ∀ v' w', Own K e B M w' v' (xs ++ ys) → w.grownBy w' v.ownBlock → (v'.ownBlock = v.ownBlock ∨ v'.ownBlock = some w.heap.size) → wpList P ops Q rest (a.put o.dst v') w') :
    wpList P ops Q (o :: rest) a w := by
  obtain ⟨i, z, hi, hz, hsize, hby, hzs⟩ := E.info
  obtain ⟨css, hcl, hrow, hr⟩ := hown
  obtain ⟨A, c, rfl, h1, h2, h3, h4, h5⟩ := KSl.val hy
  have hnone : A = none → ys = [] := fun e => by
    have := h4 e
    exact List.eq_nil_of_length_eq_zero (by omega)
  -- the new elements' cells
  have hnew : ∃ dss : List (List Value), dss.length = ys.length ∧ (∀ j (h1 : j < dss.length) (h2 : j < ys.length), K.R (fun g => M g ∨ v.ownBlock = some g) w dss[j] ys[j]) ∧
      ∀ ad, A = some ad → ∀ j u, dss.flatten[j]? = some u → w.cell? (ad.add j) = some u := by
    rcases Nat.eq_zero_or_pos ys.length with h0 | h0
    · exact ⟨[], h0.symm, fun j h1 => absurd h1 (by simp), fun ad _ j u hu => by simp at hu⟩
    · obtain ⟨ad, rfl, hlt, hnm, hc⟩ := h5 h0
      refine ⟨List.ofFn fun j : Fin ys.length => (hc j.val j.isLt).choose, by simp, fun j h1 h2 => ?_, fun ad' he j u hu => ?_⟩
      · rw [List.getElem_ofFn]
        exact (hc j h2).choose_spec.1
      · injection he with he
        subst he
        have hsz : ∀ c ∈ (List.ofFn fun j : Fin ys.length => (hc j.val j.isLt).choose), c.length = K.size := fun c hcm => by
          obtain ⟨q, rfl⟩ := (List.mem_ofFn).1 hcm
          exact K.len (hc q.val q.isLt).choose_spec.1
        have hlt2 : j < ys.length * K.size := by
          have := (List.getElem?_eq_some_iff.1 hu).1
          rw [List.length_flatten] at this
          have e : (List.map List.length (List.ofFn fun j : Fin ys.length => (hc j.val j.isLt).choose)) = List.replicate ys.length K.size := by
            apply List.eq_replicate_iff.2
            exact ⟨by simp, fun b hb => by obtain ⟨d, hd, rfl⟩ := List.mem_map.1 hb; exact hsz d hd⟩
          rw [e] at this
          simpa using this
        have hq : j / K.size < ys.length := Nat.div_lt_of_lt_mul (by rw [Nat.mul_comm]; exact hlt2)
        have hm := Nat.mod_lt j E.pos
        have hj : j = (j / K.size) * K.size + j % K.size := by rw [Nat.mul_comm]; exact (Nat.div_add_mod j K.size).symm
        have hu2 := hu
        rw [hj, flatten_get hsz (by simpa using hq) hm, List.getElem_ofFn] at hu2
        have := (hc (j / K.size) hq).choose_spec.2 (j % K.size) u hu2
        rw [add_of_add, ← hj] at this
        exact this
  obtain ⟨dss, hdl, hdr, hcells⟩ := hnew
  have hdlen : dss.flatten.length = ys.length * K.size := by
    rw [List.length_flatten]
    have e : dss.map List.length = List.replicate ys.length K.size := by
      apply List.eq_replicate_iff.2
      refine ⟨by simp [hdl], fun b hb => ?_⟩
      obtain ⟨d, hd, rfl⟩ := List.mem_map.1 hb
      obtain ⟨q, hq, rfl⟩ := List.getElem_of_mem hd
      exact K.len (hdr q hq (by omega))
    rw [e]; simp
  have hone : ∀ u ∈ dss.flatten, u.oneCell' = true := fun u hu => by
    obtain ⟨d, hd, hu⟩ := List.mem_flatten.1 hu
    obtain ⟨q, hq, rfl⟩ := List.getElem_of_mem hd
    exact K.one (hdr q hq (by omega)) u hu
  have fin : ∀ v' w', w'.ownsRow B e K.size v' (xs.length + ys.length) (css.flatten ++ dss.flatten) → w.grownBy w' v.ownBlock → (v'.ownBlock = v.ownBlock ∨ v'.ownBlock = some w.heap.size) → wpList P ops Q rest (a.put o.dst v') w' := fun v' w' ho hg hb => by
    refine h v' w' ⟨css ++ dss, by simp [hcl, hdl], by rw [List.flatten_append, List.length_append]; exact ho, fun q h1 h2 => ?_⟩ hg hb
    have key : ∀ cs (x : α), K.R (fun g => M g ∨ v.ownBlock = some g) w cs x → K.R (fun g => M g ∨ v'.ownBlock = some g) w' cs x := fun cs x hx => by
      have h1 := K.anti (M' := fun g => (M g ∨ v.ownBlock = some g) ∨ v'.ownBlock = some g) hx (fun g hg hm => by
        rcases hm with hm | hm
        · exact hm
        · rcases hb with hb | hb
          · rw [hb] at hm; exact .inr hm
          · rw [hb] at hm; injection hm with hm; omega)
      have h2 := K.keep h1 (w' := w') (fun g' hg' hn => hg.block g' hg' (fun e => hn (.inl (.inr e.symm))))
      exact K.anti h2 fun g' _ hm => hm.elim (fun hm => .inl (.inl hm)) .inr
    by_cases hq : q < css.length
    · rw [List.getElem_append_left hq, List.getElem_append_left (by omega)]
      exact key _ _ (hr q hq (by omega))
    · rw [List.getElem_append_right (by omega), List.getElem_append_right (by omega)]
      have h3 : q - css.length < dss.length := by rw [List.length_append] at h1; omega
      have h4 : q - xs.length < ys.length := by omega
      have := key _ _ (hdr (q - css.length) h3 (by omega))
      simp only [hcl] at this ⊢
      exact this
  cases A with
  | none =>
    have hy0 := hnone rfl
    subst hy0
    have hc0 := h4 rfl
    subst hc0
    have hd0 : dss = [] := List.eq_nil_of_length_eq_zero hdl
    subst hd0
    refine wpList_append_own_none hgd s x t ho B e i K.size E.und hi v xs.length css.flatten hs hrow hx ?_
    exact fin v w (by simpa using hrow) ⟨rfl, rfl, rfl, Nat.le_refl _, fun _ _ _ => rfl⟩ (.inl rfl)
  | some ad =>
    refine wpList_append_own_at w hgd s x t ho B e i z K.size bytes E.und hi hz hsize hby hzs E.pos v xs.length css.flatten hs hrow ad ys.length c dss.flatten hx hdlen (hcells ad rfl) hone (by simp only [maxLen]; omega) hlen hB ?_
    intro v' w' ho hg _ hb
    exact fin v' w' ho hg hb

theorem KBs.byte {M : Blocks} {w : World} {A : Option Addr} {c : Nat} {l : List UInt8} (h : KBs.R M w [.slice A l.length c] l) {i : Nat} (hi : i < l.length) : ∃ ad, A = some ad ∧ w.cell? (ad.add i) = some (.int .u8 (l[i].toNat : Nat)) := by
  obtain ⟨A', c', e, _, _, _, _, h5⟩ := KSl.val h
  injection e with e1 _ _
  subst e1
  obtain ⟨ad, rfl, _, _, hc⟩ := h5 (by omega)
  obtain ⟨ecs, hr, hcell⟩ := hc i hi
  have := hcell.byte hr
  rw [show i * KByte.size = i from Nat.mul_one i] at this
  exact ⟨ad, rfl, this⟩
/-- A slice's element whose kind takes one cell. -/
theorem KSl.at1 {α : Type} {bytes : Nat} {K : Kd α} {M : Blocks} {w : World} {A : Option Addr} {c : Nat} {l : List α} (h : (KSl bytes K).R M w [.slice A l.length c] l) (hk : K.size = 1) {i : Nat} (hi : i < l.length) : ∃ ad u, A = some ad ∧ w.cell? (ad.add i) = some u ∧ K.R M w [u] l[i] := by
  obtain ⟨A', c', e, _, _, _, _, h5⟩ := KSl.val h
  injection e with e1 _ _
  subst e1
  obtain ⟨ad, rfl, _, _, hc⟩ := h5 (by omega)
  obtain ⟨ecs, hr, hcell⟩ := hc i hi
  have hl := K.len hr
  rw [hk] at hl
  obtain ⟨u, rfl⟩ := List.length_eq_one_iff.1 hl
  have := hcell.one_
  rw [hk, Nat.mul_one] at this
  exact ⟨ad, u, rfl, this, hr⟩
/-- What a call hands back: new, beside what was there. -/
def Ret {α : Type} (K : Kd α) (w : World) (x : α) (e : Ending) (w' : World) : Prop := ∃ v', e = .returned v' ∧ K.R (old w) w' [v'] x ∧ Below w.heap.size w w'
def RetOwn {α : Type} (K : Kd α) (t : TypeId) (w : World) (xs : List α) (e : Ending) (w' : World) : Prop := ∃ v', e = .returned v' ∧ Own K t w.heap.size (old w) w' v' xs ∧ Below w.heap.size w w'
theorem old_mono {w w' : World} (h : w.heap.size ≤ w'.heap.size) : ∀ g, old w g → old w' g := fun g hg => Nat.lt_of_lt_of_le hg h
abbrev KRows : Kd (List (List UInt8)) := KSl 24 KBs
theorem flatten_one (l : List Value) : (l.map fun x => [x]).flatten = l := by induction l <;> simp_all
/-- A slice over a whole block of values of one cell each. -/
theorem KSl.of_blk1 {α : Type} {bytes : Nat} {K : Kd α} {M : Blocks} {w : World} {g : Nat} {t : TypeId} {vs : List Value} {l : List α} (h : Blk w g t vs) (hm : ¬ M g) (hn : vs.length = l.length) (hl : l.length * bytes ≤ 140737488355328) (h63 : l.length ≤ 9223372036854775807)
    (hv : ∀ i (h1 : i < vs.length) (h2 : i < l.length), K.R M w [vs[i]] l[i]) : (KSl bytes K).R M w [.slice (some ⟨g, 0, none⟩) l.length l.length] l :=
  KSl.of_blk (css := vs.map fun x => [x]) (t := t) (by rw [flatten_one]; exact h) hm (by simpa using hn) hl h63 (fun i h1 h2 => by rw [List.getElem_map]; exact hv i (by simpa using h1) h2)
end Go.Proofs.Ytpdfcgkeclocoaa
