/- GF(256) over UInt8: the field's laws, plain. -/
set_option linter.all false
namespace Go.Proofs.Ytpdfcgkeclocoaa.GF

/-- Twice an element. -/
def xt (a : UInt8) : UInt8 := if a &&& 128 != 0 then (a <<< 1) ^^^ 29 else a <<< 1

/-- The loop of 'times', at most n rounds. -/
def timesGo : Nat → UInt8 → UInt8 → UInt8 → UInt8
  | 0, out, _, _ => out
  | n + 1, out, a, b => if b = 0 then out else timesGo n (if b &&& 1 = 1 then out ^^^ a else out) (xt a) (b >>> 1)
def times (a b : UInt8) : UInt8 := timesGo 8 0 a b

theorem forall_u8 {p : UInt8 → Prop} (h : ∀ n : Fin 256, p (UInt8.ofNat n.val)) (a : UInt8) : p a := by
  have := h ⟨a.toNat, a.toNat_lt⟩
  simpa using this

/-- The element whose only bit is bit i of b. -/
def bitOf (b : UInt8) (i : Nat) : UInt8 := if b.toNat.testBit i then UInt8.ofNat (2 ^ i) else 0

theorem bits_all (b : UInt8) : b = bitOf b 0 ^^^ bitOf b 1 ^^^ bitOf b 2 ^^^ bitOf b 3 ^^^ bitOf b 4 ^^^ bitOf b 5 ^^^ bitOf b 6 ^^^ bitOf b 7 :=
  forall_u8 (p := fun b => b = bitOf b 0 ^^^ bitOf b 1 ^^^ bitOf b 2 ^^^ bitOf b 3 ^^^ bitOf b 4 ^^^ bitOf b 5 ^^^ bitOf b 6 ^^^ bitOf b 7) (by decide +kernel) b

def Additive (f : UInt8 → UInt8) : Prop := ∀ a b, f (a ^^^ b) = f a ^^^ f b

theorem Additive.zero {f : UInt8 → UInt8} (h : Additive f) : f 0 = 0 := by
  have := h 0 0
  simpa using this

theorem Additive.bits {f : UInt8 → UInt8} (h : Additive f) (b : UInt8) :
    f b = f (bitOf b 0) ^^^ f (bitOf b 1) ^^^ f (bitOf b 2) ^^^ f (bitOf b 3) ^^^ f (bitOf b 4) ^^^ f (bitOf b 5) ^^^ f (bitOf b 6) ^^^ f (bitOf b 7) := by
  rw [← h, ← h, ← h, ← h, ← h, ← h, ← h, ← bits_all b]

theorem Additive.ext {f g : UInt8 → UInt8} (hf : Additive f) (hg : Additive g) (h : ∀ i : Fin 8, f (UInt8.ofNat (2 ^ i.val)) = g (UInt8.ofNat (2 ^ i.val))) (b : UInt8) : f b = g b := by
  have e : ∀ i : Fin 8, f (bitOf b i.val) = g (bitOf b i.val) := fun i => by
    unfold bitOf
    split
    · exact h i
    · rw [hf.zero, hg.zero]
  rw [hf.bits b, hg.bits b, e ⟨0, by decide⟩, e ⟨1, by decide⟩, e ⟨2, by decide⟩, e ⟨3, by decide⟩, e ⟨4, by decide⟩, e ⟨5, by decide⟩, e ⟨6, by decide⟩, e ⟨7, by decide⟩]

/-- Additive in the bits is additive. -/
theorem additive_of {f : UInt8 → UInt8} (h : ∀ (a : UInt8) (i : Fin 8), f (a ^^^ UInt8.ofNat (2 ^ i.val)) = f a ^^^ f (UInt8.ofNat (2 ^ i.val))) (h0 : f 0 = 0) : Additive f := by
  have e : ∀ (a b : UInt8) (i : Fin 8), f (a ^^^ bitOf b i.val) = f a ^^^ f (bitOf b i.val) := fun a b i => by
    unfold bitOf
    split
    · exact h a i
    · rw [h0]; simp
  have e' : ∀ a b, f (a ^^^ b) = f a ^^^ (f (bitOf b 0) ^^^ f (bitOf b 1) ^^^ f (bitOf b 2) ^^^ f (bitOf b 3) ^^^ f (bitOf b 4) ^^^ f (bitOf b 5) ^^^ f (bitOf b 6) ^^^ f (bitOf b 7)) := fun a b => by
    have := bits_all b
    rw [show a ^^^ b = a ^^^ bitOf b 0 ^^^ bitOf b 1 ^^^ bitOf b 2 ^^^ bitOf b 3 ^^^ bitOf b 4 ^^^ bitOf b 5 ^^^ bitOf b 6 ^^^ bitOf b 7 from by
      conv => lhs; rw [this]
      simp only [UInt8.xor_assoc]]
    rw [e _ b ⟨7, by decide⟩, e _ b ⟨6, by decide⟩, e _ b ⟨5, by decide⟩, e _ b ⟨4, by decide⟩, e _ b ⟨3, by decide⟩, e _ b ⟨2, by decide⟩, e _ b ⟨1, by decide⟩, e _ b ⟨0, by decide⟩]
    simp only [UInt8.xor_assoc]
  intro a b
  rw [e' a b]
  congr 1
  have := e' 0 b
  rw [h0] at this
  simpa using this.symm

theorem Additive.comp {f g : UInt8 → UInt8} (hf : Additive f) (hg : Additive g) : Additive (fun a => f (g a)) := fun a b => by
  show f (g (a ^^^ b)) = _
  rw [hg, hf]
theorem Additive.xor {f g : UInt8 → UInt8} (hf : Additive f) (hg : Additive g) : Additive (fun a => f a ^^^ g a) := fun a b => by
  show f (a ^^^ b) ^^^ g (a ^^^ b) = _
  rw [hf, hg]
  rw [UInt8.xor_assoc, UInt8.xor_assoc]
  congr 1
  rw [← UInt8.xor_assoc, UInt8.xor_comm (f b), UInt8.xor_assoc]

theorem xt_add : Additive xt := additive_of (by
  intro a i
  revert i
  exact forall_u8 (p := fun a => ∀ i : Fin 8, xt (a ^^^ UInt8.ofNat (2 ^ i.val)) = xt a ^^^ xt (UInt8.ofNat (2 ^ i.val))) (by decide +kernel) a) rfl

/-- For each b the product is additive in a. -/
theorem timesGo_add_left (n : Nat) : ∀ (o p a a' b : UInt8), timesGo n (o ^^^ p) (a ^^^ a') b = timesGo n o a b ^^^ timesGo n p a' b := by
  induction n with
  | zero => intro o p a a' b; rfl
  | succ n ih =>
    intro o p a a' b
    unfold timesGo
    split
    · rfl
    · rw [← ih, xt_add]
      congr 1
      split
      · rw [UInt8.xor_assoc, UInt8.xor_assoc]
        congr 1
        rw [← UInt8.xor_assoc, UInt8.xor_comm p, UInt8.xor_assoc]
      · rfl
theorem times_add_left (a a' b : UInt8) : times (a ^^^ a') b = times a b ^^^ times a' b := by
  have := timesGo_add_left 8 0 0 a a' b
  simpa [times] using this
theorem times_additive_left (b : UInt8) : Additive (fun a => times a b) := fun a a' => times_add_left a a' b

theorem times_comm (a b : UInt8) : times a b = times b a := by
  -- both are additive in a, if the product is additive in its right side
  have hr : ∀ a : UInt8, Additive (fun b => times a b) := by
    intro a b b'
    show times a (b ^^^ b') = times a b ^^^ times a b'
    -- additive in a on both sides: enough at the bits of a
    refine Additive.ext (f := fun a => times a (b ^^^ b')) (g := fun a => times a b ^^^ times a b') (times_additive_left _) ((times_additive_left b).xor (times_additive_left b')) ?_ a
    intro i
    have key : ∀ i : Fin 8, Additive (fun b => times (UInt8.ofNat (2 ^ i.val)) b) := fun i =>
      additive_of (by
        intro a j
        revert i j
        exact forall_u8 (p := fun a => ∀ i j : Fin 8, times (UInt8.ofNat (2 ^ i.val)) (a ^^^ UInt8.ofNat (2 ^ j.val)) = times (UInt8.ofNat (2 ^ i.val)) a ^^^ times (UInt8.ofNat (2 ^ i.val)) (UInt8.ofNat (2 ^ j.val))) (by decide +kernel) a) (by revert i; decide +kernel)
    exact key i b b'
  refine Additive.ext (f := fun a => times a b) (g := fun a => times b a) (times_additive_left b) (hr b) ?_ a
  intro i
  revert i
  exact forall_u8 (p := fun b => ∀ i : Fin 8, times (UInt8.ofNat (2 ^ i.val)) b = times b (UInt8.ofNat (2 ^ i.val))) (by decide +kernel) b

theorem times_add_right (a b b' : UInt8) : times a (b ^^^ b') = times a b ^^^ times a b' := by
  rw [times_comm, times_add_left, times_comm b, times_comm b']
theorem times_additive_right (a : UInt8) : Additive (fun b => times a b) := fun b b' => times_add_right a b b'

theorem times_assoc (a b c : UInt8) : times (times a b) c = times a (times b c) := by
  refine Additive.ext (f := fun a => times (times a b) c) (g := fun a => times a (times b c)) ((times_additive_left c).comp (times_additive_left b)) (times_additive_left _) (fun i => ?_) a
  refine Additive.ext (f := fun b => times (times (UInt8.ofNat (2 ^ i.val)) b) c) (g := fun b => times (UInt8.ofNat (2 ^ i.val)) (times b c)) ((times_additive_left c).comp (times_additive_right _)) ((times_additive_right _).comp (times_additive_left c)) (fun j => ?_) b
  refine Additive.ext (f := fun c => times (times (UInt8.ofNat (2 ^ i.val)) (UInt8.ofNat (2 ^ j.val))) c) (g := fun c => times (UInt8.ofNat (2 ^ i.val)) (times (UInt8.ofNat (2 ^ j.val)) c)) (times_additive_right _) ((times_additive_right _).comp (times_additive_right _)) (fun k => ?_) c
  revert i j k
  decide +kernel

theorem times_zero_left (a : UInt8) : times 0 a = 0 := (times_additive_left a).zero
theorem times_zero_right (a : UInt8) : times a 0 = 0 := (times_additive_right a).zero
theorem times_one_left (a : UInt8) : times 1 a = a := forall_u8 (p := fun a => times 1 a = a) (by decide +kernel) a
theorem times_one_right (a : UInt8) : times a 1 = a := by rw [times_comm, times_one_left]

/-- The loop of 'power'. -/
def powerGo : Nat → UInt8 → UInt8 → Nat → UInt8
  | 0, out, _, _ => out
  | k + 1, out, a, n => if n = 0 then out else powerGo k (if n % 2 = 1 then times out a else out) (times a a) (n / 2)
def power (a : UInt8) (n : Nat) : UInt8 := powerGo (n + 1) 1 a n
def inv (a : UInt8) : UInt8 := powerGo 8 1 a 254
theorem inv_times (a : UInt8) (h : a ≠ 0) : times (inv a) a = 1 := by
  revert h
  exact forall_u8 (p := fun a => a ≠ 0 → times (inv a) a = 1) (by decide +kernel) a
theorem inv_ne (a : UInt8) (h : a ≠ 0) : inv a ≠ 0 := fun e => by
  have := inv_times a h
  rw [e, times_zero_left] at this
  exact absurd this (by decide)
end Go.Proofs.Ytpdfcgkeclocoaa.GF
