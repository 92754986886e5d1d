/- slices.IndexFunc, slices.ContainsFunc at elements of one cell: the first place at which a function value says yes. -/
import Derived.Test.YtpdfcgkeclocoaaRowSum
set_option linter.all false
namespace Go.Proofs.Ytpdfcgkeclocoaa
open Go.RowKit GF

def firstFrom (p : Nat → Bool) : Nat → Nat → Int
  | _, 0 => -1
  | k, f + 1 => if p k then (k : Int) else firstFrom p (k + 1) f
theorem firstFrom_yes {p : Nat → Bool} {k n : Nat} (h : k < n) (hp : p k = true) : firstFrom p k (n - k) = (k : Int) := by
  rw [show n - k = (n - (k + 1)) + 1 from by omega, firstFrom, if_pos hp]
theorem firstFrom_no {p : Nat → Bool} {k n : Nat} (h : k < n) (hp : p k = false) : firstFrom p k (n - k) = firstFrom p (k + 1) (n - (k + 1)) := by
  rw [show n - k = (n - (k + 1)) + 1 from by omega, firstFrom, if_neg (by rw [hp]; exact Bool.false_ne_true)]
theorem firstFrom_cases (p : Nat → Bool) (f : Nat) : ∀ k, (firstFrom p k f = -1 ∧ ∀ j, k ≤ j → j < k + f → p j = false) ∨ ∃ i : Nat, firstFrom p k f = (i : Int) ∧ k ≤ i ∧ i < k + f ∧ p i = true ∧ ∀ j, k ≤ j → j < i → p j = false := by
  induction f with
  | zero => exact fun k => .inl ⟨rfl, fun j h1 h2 => by omega⟩
  | succ f ih =>
    intro k
    unfold firstFrom
    by_cases h : p k = true
    · rw [if_pos h]
      exact .inr ⟨k, rfl, Nat.le_refl _, by omega, h, fun j h1 h2 => by omega⟩
    · rw [if_neg h]
      have hf : p k = false := by simpa using h
      rcases ih (k + 1) with ⟨e, h1⟩ | ⟨i, e, h1, h2, h3, h4⟩
      · refine .inl ⟨e, fun j h2 h3 => ?_⟩
        by_cases hj : j = k
        · rw [hj]; exact hf
        · exact h1 j (by omega) (by omega)
      · refine .inr ⟨i, e, by omega, by omega, h3, fun j h5 h6 => ?_⟩
        by_cases hj : j = k
        · rw [hj]; exact hf
        · exact h4 j (by omega) (by omega)

def anyTo (p : Nat → Bool) (n : Nat) : Bool := decide (0 ≤ firstFrom p 0 n)
theorem anyTo_iff (p : Nat → Bool) (n : Nat) : anyTo p n = true ↔ ∃ i, i < n ∧ p i = true := by
  unfold anyTo
  rw [decide_eq_true_eq]
  rcases firstFrom_cases p n 0 with ⟨e, h⟩ | ⟨i, e, _, h2, h3, _⟩
  · rw [e]
    exact ⟨fun h => absurd h (by decide), fun ⟨i, hi, hp⟩ => by rw [h i (Nat.zero_le _) (by omega)] at hp; cases hp⟩
  · rw [e]
    exact ⟨fun _ => ⟨i, by omega, h3⟩, fun _ => by omega⟩

/-- What a function value says of the elements, and that it turns nothing. -/
def Says (P : Program) (g : FuncId) (cb : Array Value) (w : World) (n : Nat) (vs : Nat → Value) (p : Nat → Bool) : Prop :=
  ∀ i, i < n → ∀ W, Below w.heap.size w W → Calls P g (#[vs i] ++ cb) W fun e w' => e = .returned (.bool (p i)) ∧ Below W.heap.size W w'

set_option maxHeartbeats 400000 in
theorem index_row (g : FuncId) (cb : Array Value) (eg : ∀ args w, (callFunc g args).run Try.prog w = .ok (.enter g args) w) (A : Option Addr) (n c : Nat) (hn : n ≤ 9223372036854775807) (vs : Nat → Value) (p : Nat → Bool) (w : World)
    (hc : 0 < n → ∃ ad, A = some ad ∧ ∀ j, j < n → w.cell? (ad.add j) = some (vs j)) (hp : Says Try.prog g cb w n vs p) :
    Calls Try.prog 187 #[.slice A n c, .func (.func g) #[] cb] w fun e w' => e = .returned (.int .i64 (firstFrom p 0 n)) ∧ Below w.heap.size w w' := by
  have HP : Hid (Says Try.prog g cb w n vs p) := hp
  clear hp
  go_enter Try.func187, Try.ntmps187
  go_wp2
  generalize hB : w.heap.size = B
  go_loopw [8] (fun i wr => ∃ k : Nat, k ≤ n ∧ i = .int .i64 k ∧ firstFrom p 0 n = firstFrom p k (n - k) ∧ Below B w wr) (fun i _ => n - (intOf i).toNat)
  case atStart => exact ⟨0, Nat.zero_le _, rfl, rfl, Below.refl _ _⟩
  case round =>
    obtain ⟨k, hk, rfl, hf, hbel⟩ := hrel
    subst hB
    have HF : Hid (firstFrom p 0 n = firstFrom p k (n - k)) := hf
    clear hf
    by_cases hlt : k < n
    · obtain ⟨ad, rfl, hcell⟩ := hc (by omega)
      have hck := cell_below hbel _ _ (hcell k hlt)
      have HC : Hid (∀ j, j < n → w.cell? (ad.add j) = some (vs j)) := hcell
      clear hcell hc
      generalize hv : vs k = v at hck
      go_wp2_with fail
      have hcon := HP.out k hlt wr hbel
      rw [hv] at hcon
      refine hcon.mono ?_
      rintro e w1 ⟨rfl, hb1⟩
      have hbel1 := below_add hbel hb1 hbel.size
      have HPk : p k = true ∨ p k = false := by cases p k <;> simp
      rcases HPk with hpk | hpk
      · have hres := (HF.out).trans (firstFrom_yes hlt hpk)
        have HR : Hid (firstFrom p 0 n = (k : Int)) := hres
        clear hres
        go_wp2
        go_ret
        exact ⟨ret_int HR.out.symm, hbel1⟩
      · have hres := (HF.out).trans (firstFrom_no hlt hpk)
        have HR : Hid (firstFrom p 0 n = firstFrom p (k + 1) (n - (k + 1))) := hres
        clear hres
        go_wp2
        go_roundw
        case rel => exact ⟨k + 1, by omega, by go_num, HR.out, hbel1⟩
        case measure => simp [intOf]; omega
    · have e : k = n := by omega
      subst e
      have hres := HF.out
      rw [Nat.sub_self] at hres
      have HR : Hid (firstFrom p 0 k = -1) := hres
      clear hres
      go_wp2
      go_ret
      exact ⟨ret_int HR.out.symm, hbel⟩
set_option maxHeartbeats 400000 in
theorem contains_row (g : FuncId) (cb : Array Value) (eg : ∀ args w, (callFunc g args).run Try.prog w = .ok (.enter g args) w) (A : Option Addr) (n c : Nat) (hn : n ≤ 9223372036854775807) (vs : Nat → Value) (p : Nat → Bool) (w : World)
    (hc : 0 < n → ∃ ad, A = some ad ∧ ∀ j, j < n → w.cell? (ad.add j) = some (vs j)) (hp : Says Try.prog g cb w n vs p) :
    Calls Try.prog 138 #[.slice A n c, .func (.func g) #[] cb] w fun e w' => e = .returned (.bool (anyTo p n)) ∧ Below w.heap.size w w' := by
  have h := index_row g cb eg A n c hn vs p w hc hp
  have e : decide (0 ≤ firstFrom p 0 n) = anyTo p n := rfl
  clear hp
  generalize anyTo p n = r at e
  generalize firstFrom p 0 n = q at h e
  subst e
  go_enter Try.func138, Try.ntmps138
  go_wp2_with (go_at_call 187; refine h.mono ?_; rintro e w' ⟨rfl, hb⟩)
  go_ret
  exact ⟨rfl, hb⟩

set_option maxHeartbeats 400000 in
theorem index_byte (g : FuncId) (cb : Array Value) (eg : ∀ args w, (callFunc g args).run Try.prog w = .ok (.enter g args) w) (A : Option Addr) (n c : Nat) (hn : n ≤ 9223372036854775807) (vs : Nat → Value) (p : Nat → Bool) (w : World)
    (hc : 0 < n → ∃ ad, A = some ad ∧ ∀ j, j < n → w.cell? (ad.add j) = some (vs j)) (hp : Says Try.prog g cb w n vs p) :
    Calls Try.prog 251 #[.slice A n c, .func (.func g) #[] cb] w fun e w' => e = .returned (.int .i64 (firstFrom p 0 n)) ∧ Below w.heap.size w w' := by
  have HP : Hid (Says Try.prog g cb w n vs p) := hp
  clear hp
  go_enter Try.func251, Try.ntmps251
  go_wp2
  generalize hB : w.heap.size = B
  go_loopw [8] (fun i wr => ∃ k : Nat, k ≤ n ∧ i = .int .i64 k ∧ firstFrom p 0 n = firstFrom p k (n - k) ∧ Below B w wr) (fun i _ => n - (intOf i).toNat)
  case atStart => exact ⟨0, Nat.zero_le _, rfl, rfl, Below.refl _ _⟩
  case round =>
    obtain ⟨k, hk, rfl, hf, hbel⟩ := hrel
    subst hB
    have HF : Hid (firstFrom p 0 n = firstFrom p k (n - k)) := hf
    clear hf
    by_cases hlt : k < n
    · obtain ⟨ad, rfl, hcell⟩ := hc (by omega)
      have hck := cell_below hbel _ _ (hcell k hlt)
      have HC : Hid (∀ j, j < n → w.cell? (ad.add j) = some (vs j)) := hcell
      clear hcell hc
      generalize hv : vs k = v at hck
      go_wp2_with fail
      have hcon := HP.out k hlt wr hbel
      rw [hv] at hcon
      refine hcon.mono ?_
      rintro e w1 ⟨rfl, hb1⟩
      have hbel1 := below_add hbel hb1 hbel.size
      have HPk : p k = true ∨ p k = false := by cases p k <;> simp
      rcases HPk with hpk | hpk
      · have hres := (HF.out).trans (firstFrom_yes hlt hpk)
        have HR : Hid (firstFrom p 0 n = (k : Int)) := hres
        clear hres
        go_wp2
        go_ret
        exact ⟨ret_int HR.out.symm, hbel1⟩
      · have hres := (HF.out).trans (firstFrom_no hlt hpk)
        have HR : Hid (firstFrom p 0 n = firstFrom p (k + 1) (n - (k + 1))) := hres
        clear hres
        go_wp2
        go_roundw
        case rel => exact ⟨k + 1, by omega, by go_num, HR.out, hbel1⟩
        case measure => simp [intOf]; omega
    · have e : k = n := by omega
      subst e
      have hres := HF.out
      rw [Nat.sub_self] at hres
      have HR : Hid (firstFrom p 0 k = -1) := hres
      clear hres
      go_wp2
      go_ret
      exact ⟨ret_int HR.out.symm, hbel⟩
set_option maxHeartbeats 400000 in
theorem contains_byte (g : FuncId) (cb : Array Value) (eg : ∀ args w, (callFunc g args).run Try.prog w = .ok (.enter g args) w) (A : Option Addr) (n c : Nat) (hn : n ≤ 9223372036854775807) (vs : Nat → Value) (p : Nat → Bool) (w : World)
    (hc : 0 < n → ∃ ad, A = some ad ∧ ∀ j, j < n → w.cell? (ad.add j) = some (vs j)) (hp : Says Try.prog g cb w n vs p) :
    Calls Try.prog 226 #[.slice A n c, .func (.func g) #[] cb] w fun e w' => e = .returned (.bool (anyTo p n)) ∧ Below w.heap.size w w' := by
  have h := index_byte g cb eg A n c hn vs p w hc hp
  have e : decide (0 ≤ firstFrom p 0 n) = anyTo p n := rfl
  clear hp
  generalize anyTo p n = r at e
  generalize firstFrom p 0 n = q at h e
  subst e
  go_enter Try.func226, Try.ntmps226
  go_wp2_with (go_at_call 251; refine h.mono ?_; rintro e w' ⟨rfl, hb⟩)
  go_ret
  exact ⟨rfl, hb⟩

end Go.Proofs.Ytpdfcgkeclocoaa
