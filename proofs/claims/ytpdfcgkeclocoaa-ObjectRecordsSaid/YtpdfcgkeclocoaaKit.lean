/- More words: an append of one value; a value and an error handed back; pointers; shapes, blocks, records. -/
import Derived.Test.YtpdfcgkeclocoaaParts
import Derived.Test.YtpdfcgkeclocoaaRely
import Derived.Test.YtpdfcgkeclocoaaArr
set_option linter.all false
namespace Go.Proofs.Ytpdfcgkeclocoaa
open Go.RowKit GF

/-- append(s, x) of one value: s the call's own. -/
theorem wpList_app1 {P : Program} {w1 : World} {ops : Array Oper} {rest : List Oper} {o : Oper} {a : Act} {Q : Exit → Act → World → Prop} {t e : TypeId} {bytes : Nat} {α : Type} {K : Kd α} (E : Elem P t e K.size bytes)
    (hgd : o.guard = none) (s x : Operand) (ho : o.op = .call { callee := .builtin .append, args := #[s, x], argTypes := #[t, t] })
    {B : Nat} {M : Blocks} {v : Value} {xs : List α} {y : α} {cs : List Value} (hs : a.eval s = v) (hx : a.eval x = .slice (some ⟨w1.heap.size, 0, none⟩) 1 1) (hown : Own K e B M w1 v xs)
    (hy : K.R (fun g => M g ∨ v.ownBlock = some g) w1 cs y) (hlen : xs.length ≤ 1000000) (hb : bytes ≤ 1000) (hB : B ≤ w1.heap.size) (hM : ∀ g, M g → g < w1.heap.size)
    (h : ∀ v' w', Own K e B M w' v' (xs ++ [y]) → Below B w1 w' → (v'.ownBlock = v.ownBlock ∨ v'.ownBlock = some (w1.heap.size + 1)) → wpList P ops Q rest (a.put o.dst v') w') :
    wpList P ops Q (o :: rest) a (w1.alloc (.cells cs.toArray e)) := by
  have hob : ∀ g, v.ownBlock = some g → B ≤ g ∧ g < w1.heap.size := fun g hg => hown.block hg
  have hown' := hown.below (below_one w1 (.cells cs.toArray e))
  have hnew : (KSl bytes K).R (fun g => M g ∨ v.ownBlock = some g) (w1.alloc (.cells cs.toArray e)) [.slice (some ⟨w1.heap.size, 0, none⟩) 1 1] [y] := by
    refine KSl.of_blk (css := [cs]) (t := e) (l := [y]) (bytes := bytes) (by simpa using Blk.new w1 e cs) ?_ rfl (by simp only [List.length_singleton]; omega) (by simp) fun i h1 h2 => ?_
    · rintro (h | h)
      · exact absurd (hM _ h) (Nat.lt_irrefl _)
      · exact absurd (hob _ h).2 (Nat.lt_irrefl _)
    · obtain rfl : i = 0 := by simp at h1; omega
      exact Kd.below hy (below_one w1 _)
  have hmul : (xs.length + 1) * bytes ≤ 1000001 * 1000 := Nat.mul_le_mul (by omega) hb
  refine wpList_app E hgd s x ho hs hx hown' hnew (by simp only [List.length_singleton]; omega) (by simp only [List.length_singleton]; omega) (by simp; omega) (fun g hg => by have := hM g hg; simp; omega) fun v' w' ho hgrow hbl => ?_
  refine h v' w' ho (((Below.refl B w1).alloc hB _).grown hgrow (by simp; omega) (fun g hg => (hob g hg).1)) (by simpa using hbl)

/-- What a call's result looks at is none of what was there: so none of a row that was there. -/
theorem Own.lift {α β : Type} {K : Kd α} {L : Kd β} {e : TypeId} {B : Nat} {M : Blocks} {w w1 : World} {v : Value} {xs : List α} {cs : List Value} {y : β} (ho : Own K e B M w v xs) (hM : ∀ g, M g → g < w.heap.size) (hy : L.R (old w) w1 cs y) : L.R (fun g => M g ∨ v.ownBlock = some g) w1 cs y :=
  L.anti hy fun g _ hg => by
    rcases hg with h | h
    · exact hM g h
    · exact (ho.block h).2

/-- A value and an error. -/
def RetE {α : Type} (K : Kd α) (z : Value) (w : World) (x : Except Nat α) (e : Ending) (w' : World) : Prop :=
  ∃ (v' : Value) (n : Nat), e = .returned (.tuple #[v', .int .i64 n]) ∧ Below w.heap.size w w' ∧ (match x with | .ok y => K.R (old w) w' [v'] y ∧ n = 0 | .error q => v' = z ∧ n = q)
theorem RetE.ok_ {α : Type} {K : Kd α} {z : Value} {w : World} {y : α} {e : Ending} {w' : World} (h : RetE K z w (.ok y) e w') : ∃ v', e = .returned (.tuple #[v', .int .i64 0]) ∧ Below w.heap.size w w' ∧ K.R (old w) w' [v'] y := by
  obtain ⟨v', n, h1, h2, h3, rfl⟩ := h
  exact ⟨v', h1, h2, h3⟩
theorem RetE.no_ {α : Type} {K : Kd α} {z : Value} {w : World} {q : Nat} {e : Ending} {w' : World} (h : RetE K z w (.error q) e w') : e = .returned (.tuple #[z, .int .i64 q]) ∧ Below w.heap.size w w' := by
  obtain ⟨v', n, h1, h2, rfl, rfl⟩ := h
  exact ⟨h1, h2⟩
theorem RetE.mk_ {α : Type} {K : Kd α} {z : Value} {w : World} {y : α} {w' : World} {v' : Value} (h2 : Below w.heap.size w w') (h3 : K.R (old w) w' [v'] y) : RetE K z w (.ok y) (.returned (.tuple #[v', .int .i64 0])) w' := ⟨v', 0, rfl, h2, h3, rfl⟩
theorem RetE.err_ {α : Type} {K : Kd α} {z : Value} {w : World} {q : Nat} {w' : World} (h2 : Below w.heap.size w w') : RetE K z w (.error q : Except Nat α) (.returned (.tuple #[z, .int .i64 (q : Nat)])) w' := ⟨z, q, rfl, h2, rfl, rfl⟩

/-- A pointer to a block that begins with a value of a kind. -/
def KPtr {α : Type} (K : Kd α) : Kd α where
  size := 1
  R := fun M w cs x => ∃ g ecs, cs = [.pointer (some ⟨g, 0, none⟩)] ∧ g < w.heap.size ∧ ¬ M g ∧ K.R M w ecs x ∧ CellsAt w ⟨g, 0, none⟩ ecs
  len := fun ⟨g, ecs, e, _⟩ => by rw [e]; rfl
  keep := fun ⟨g, ecs, e, h1, h2, h3, h4⟩ hb => ⟨g, ecs, e, same_lt h1 (hb g h1 h2), h2, K.keep h3 hb, h4.keep (hb g h1 h2)⟩
  anti := fun ⟨g, ecs, e, h1, h2, h3, h4⟩ hm => ⟨g, ecs, e, h1, fun h => h2 (hm g h1 h), K.anti h3 hm, h4⟩
  one := fun ⟨g, ecs, e, _⟩ u hu => by rw [e, List.mem_singleton] at hu; rw [hu]; rfl
theorem CellsAt.of_blk {w : World} {g : Nat} {t : TypeId} {cs : List Value} (h : Blk w g t cs) : CellsAt w ⟨g, 0, none⟩ cs := fun i u hu => by
  rw [add_plain, h.cell]; exact hu
theorem KPtr.of_blk {α : Type} {K : Kd α} {M : Blocks} {w : World} {g : Nat} {t : TypeId} {cs : List Value} {x : α} (h : Blk w g t cs) (hm : ¬ M g) (hr : K.R M w cs x) : (KPtr K).R M w [.pointer (some ⟨g, 0, none⟩)] x :=
  ⟨g, cs, rfl, h.lt, hm, hr, CellsAt.of_blk h⟩
theorem KPtr.val {α : Type} {K : Kd α} {M : Blocks} {w : World} {v : Value} {x : α} (h : (KPtr K).R M w [v] x) : ∃ g ecs, v = .pointer (some ⟨g, 0, none⟩) ∧ g < w.heap.size ∧ ¬ M g ∧ K.R M w ecs x ∧ ∀ i u, ecs[i]? = some u → w.cell? ⟨g, i, none⟩ = some u := by
  obtain ⟨g, ecs, e, h1, h2, h3, h4⟩ := h
  simp only [List.cons.injEq, and_true] at e
  exact ⟨g, ecs, e, h1, h2, h3, fun i u hu => by have := h4 i u hu; rwa [add_plain] at this⟩

/-! ### A block's, an object's, a record's cells -/
structure BlockD where
  k : Nat
  j : Nat
  size : Nat
  c : List Row
structure BOk (b : BlockD) : Prop where
  k1 : 1 ≤ b.k
  k2 : b.k ≤ 40
  j2 : b.j ≤ 255
  z1 : 1 ≤ b.size
  z2 : b.size ≤ 64
  l : b.c.length = Lk b.k
def KBlock : Kd BlockD where
  size := 6
  R := fun M w cs b => ∃ v, cs = [.int .i64 b.k, .int .i64 (Sk b.k : Nat), .int .i64 2, .int .i64 b.j, .int .i64 b.size, v] ∧ KRows.R M w [v] b.c ∧ BOk b
  len := fun ⟨v, e, _⟩ => by rw [e]; rfl
  keep := fun ⟨v, e, h, o⟩ hb => ⟨v, e, KRows.keep h hb, o⟩
  anti := fun ⟨v, e, h, o⟩ hm => ⟨v, e, KRows.anti h hm, o⟩
  one := fun ⟨v, e, h, _⟩ u hu => by
    have hv := KRows.one h v (by simp)
    rw [e] at hu
    simp only [List.mem_cons, List.not_mem_nil, or_false] at hu
    rcases hu with rfl | rfl | rfl | rfl | rfl | rfl <;> first | rfl | exact hv
abbrev KBlockP : Kd BlockD := KPtr KBlock

/-- A shape. -/
structure ShapeD where
  bytes : Int
  size : Int
  most : Int
deriving DecidableEq
def ShapeD.ok (s : ShapeD) : Prop := IsInt s.bytes ∧ IsInt s.size ∧ IsInt s.most
def ShapeD.cells (s : ShapeD) : List Value := [.int .i64 s.bytes, .int .i64 s.size, .int .i64 s.most]
/-- Shapes that may be, as whole numbers. -/
structure Shp where
  b : Nat
  z : Nat
  m : Nat
structure Shp.Ok (s : Shp) : Prop where
  b1 : 1 ≤ s.b
  b2 : s.b ≤ 4000
  z1 : 1 ≤ s.z
  z2 : s.z ≤ 64
  m1 : 1 ≤ s.m
  m2 : s.m ≤ 40
def Shp.cells (s : Shp) : List Value := [.int .i64 s.b, .int .i64 s.z, .int .i64 s.m]
def ShapeD.right (s : ShapeD) : Prop := (1 ≤ s.bytes ∧ s.bytes ≤ 4000) ∧ (1 ≤ s.size ∧ s.size ≤ 64) ∧ 1 ≤ s.most ∧ s.most ≤ 40
theorem ShapeD.shp {s : ShapeD} (h : s.right) : ∃ t : Shp, t.Ok ∧ s = ⟨t.b, t.z, t.m⟩ := by
  obtain ⟨⟨h1, h2⟩, ⟨h3, h4⟩, h5, h6⟩ := h
  refine ⟨⟨s.bytes.toNat, s.size.toNat, s.most.toNat⟩, ⟨by simp only; omega, by simp only; omega, by simp only; omega, by simp only; omega, by simp only; omega, by simp only; omega⟩, ?_⟩
  cases s
  simp only [ShapeD.mk.injEq] at *
  omega
structure RecD where
  peer : Int
  number : Int
  sh : ShapeD
  block : Int
  esi : Int
  gone : Bool
  till : Int
  data : List UInt8
def KRec : Kd RecD where
  size := 10
  R := fun M w cs r => ∃ v, cs = [.int .i64 r.peer, .int .i64 r.number, .int .i64 r.sh.bytes, .int .i64 r.sh.size, .int .i64 r.sh.most, .int .i64 r.block, .int .i64 r.esi, .bool r.gone, .int .i64 r.till, v] ∧ KBs.R M w [v] r.data ∧
    IsInt r.peer ∧ IsInt r.number ∧ r.sh.ok ∧ IsInt r.block ∧ IsInt r.esi ∧ IsInt r.till
  len := fun ⟨v, e, _⟩ => by rw [e]; rfl
  keep := fun ⟨v, e, h, o⟩ hb => ⟨v, e, KBs.keep h hb, o⟩
  anti := fun ⟨v, e, h, o⟩ hm => ⟨v, e, KBs.anti h hm, o⟩
  one := fun ⟨v, e, h, _⟩ u hu => by
    have hv := KBs.one h v (by simp)
    rw [e] at hu
    simp only [List.mem_cons, List.not_mem_nil, or_false] at hu
    rcases hu with rfl | rfl | rfl | rfl | rfl | rfl | rfl | rfl | rfl | rfl <;> first | rfl | exact hv
abbrev KRecs : Kd (List RecD) := KSl 96 KRec
end Go.Proofs.Ytpdfcgkeclocoaa
