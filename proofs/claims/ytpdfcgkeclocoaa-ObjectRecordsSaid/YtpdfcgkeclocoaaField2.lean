/- The walks of package field over slices of bytes. -/
import Derived.Test.YtpdfcgkeclocoaaField
import Derived.Test.YtpdfcgkeclocoaaWords
set_option linter.all false
namespace Go.Proofs.Ytpdfcgkeclocoaa
open Go.RowKit GF

def addAll (l : List UInt8) : UInt8 := l.foldl (· ^^^ ·) 0
theorem take_snoc' (l : List UInt8) (k : Nat) (h : k < l.length) : l.take (k + 1) = l.take k ++ [l[k]] := List.take_succ_eq_append_getElem h
theorem addAll_step {l : List UInt8} {k : Nat} (h : k < l.length) : addAll (l.take (k + 1)) = addAll (l.take k) ^^^ l[k] := by
  unfold addAll; rw [take_snoc' l k h, List.foldl_append]; rfl

set_option maxHeartbeats 400000 in
theorem add_any (v : Value) (l : List UInt8) (w : World) (h : KBs.R noB w [v] l) : Calls Try.prog 230 #[v] w fun e w' => e = .returned (.int .u8 (addAll l).toNat) ∧ w = w' := by
  obtain ⟨A, c, rfl, hlc, hc, hl47, _⟩ := KSl.val h
  go_enter Try.func230, Try.ntmps230
  go_wp2
  go_loop [3, 8] (fun o i => ∃ k : Nat, k ≤ l.length ∧ i = .int .i64 k ∧ o = .int .u8 (addAll (l.take k)).toNat) (fun _ i => l.length - (intOf i).toNat)
  case atStart => exact ⟨0, Nat.zero_le _, rfl, rfl⟩
  case round =>
    obtain ⟨k, hk, rfl, rfl⟩ := hrel
    by_cases hlt : k < l.length
    · obtain ⟨ad, rfl, hcell⟩ := KBs.byte h hlt
      go_wp2
      go_round
      case rel => exact ⟨k + 1, by omega, by go_num, val_int (by rw [addAll_step hlt, x8])⟩
      case measure => simp [intOf]; omega
    · go_wp2
      go_ret
      exact ⟨ret_int (by rw [List.take_of_length_le (by omega)]), rfl⟩

def mulAll (l : List UInt8) : UInt8 := l.foldl times 1
theorem mulAll_step {l : List UInt8} {k : Nat} (h : k < l.length) : mulAll (l.take (k + 1)) = times (mulAll (l.take k)) l[k] := by
  unfold mulAll; rw [take_snoc' l k h, List.foldl_append]; rfl

set_option maxHeartbeats 400000 in
theorem mul_any (v : Value) (l : List UInt8) (w : World) (h : KBs.R noB w [v] l) : Calls Try.prog 258 #[v] w fun e w' => e = .returned (.int .u8 (mulAll l).toNat) ∧ w = w' := by
  obtain ⟨A, c, rfl, hlc, hc, hl47, _⟩ := KSl.val h
  go_enter Try.func258, Try.ntmps258
  go_wp2
  go_loop [3, 8] (fun o i => ∃ k : Nat, k ≤ l.length ∧ i = .int .i64 k ∧ o = .int .u8 (mulAll (l.take k)).toNat) (fun _ i => l.length - (intOf i).toNat)
  case atStart => exact ⟨0, Nat.zero_le _, rfl, rfl⟩
  case round =>
    obtain ⟨k, hk, rfl, rfl⟩ := hrel
    by_cases hlt : k < l.length
    · obtain ⟨ad, rfl, hcell⟩ := KBs.byte h hlt
      go_wp2_with (go_at_call 260; refine (times_any _ _ _).mono ?_; rintro e w' ⟨rfl, rfl⟩)
      go_round
      case rel => exact ⟨k + 1, by omega, by go_num, val_int (by rw [mulAll_step hlt])⟩
      case measure => simp [intOf]; omega
    · go_wp2
      go_ret
      exact ⟨ret_int (by rw [List.take_of_length_le (by omega)]), rfl⟩

theorem pow_step {n : Nat} {a o c : UInt8} {k : Nat} (hn : n < 2 ^ k) (h0 : 0 < n) (h : powerGo k o a n = c) : ∃ m, n / 2 < 2 ^ m ∧ powerGo m (if n % 2 = 1 then times o a else o) (times a a) (n / 2) = c := by
  cases k with
  | zero => simp at hn; omega
  | succ m =>
    unfold powerGo at h
    rw [if_neg (by omega)] at h
    exact ⟨m, by rw [Nat.pow_succ] at hn; omega, h⟩
theorem pow_end {a o c : UInt8} {k : Nat} (h : powerGo k o a 0 = c) : o = c := by
  cases k with
  | zero => exact h
  | succ m => unfold powerGo at h; rwa [if_pos rfl] at h

theorem odd64 (m : Nat) (h : m < 1000) : (bits .and .i64 (m : Int) 1 == 1) = (m % 2 == 1) := by
  have e : bits .and .i64 (m : Int) 1 = (m : Int) % 2 := bits_mask .i64 62 (by decide) (fun n h0 h1 => by rw [IntKind.wrap_i64]; omega) 1 (by decide) m (by omega) (by omega)
  rw [e]
  by_cases h1 : m % 2 = 1
  · rw [beq_iff_eq.2 h1, beq_iff_eq.2 (by omega)]
  · rw [beq_eq_false_iff_ne.2 h1, beq_eq_false_iff_ne.2 (by omega)]
theorem odd64_t {m : Nat} {r p : UInt8} (hm : m < 1000) (h : (bits .and .i64 (m : Int) 1 == 1) = true) : ((times r p).toNat : Int) = ((if m % 2 = 1 then times r p else r).toNat : Int) := by
  rw [odd64 m hm] at h
  rw [if_pos (by simpa using h)]
theorem odd64_f {m : Nat} {r p : UInt8} (hm : m < 1000) (h : (bits .and .i64 (m : Int) 1 == 1) = false) : (r.toNat : Int) = ((if m % 2 = 1 then times r p else r).toNat : Int) := by
  rw [odd64 m hm] at h
  rw [if_neg (by simpa using h)]

set_option maxHeartbeats 400000 in
theorem power_any (a : UInt8) (n : Nat) (k : Nat) (hn : n < 2 ^ k) (hb : n < 1000) (w : World) : Calls Try.prog 257 #[.int .u8 a.toNat, .int .i64 n] w fun e w' => e = .returned (.int .u8 (powerGo k 1 a n).toNat) ∧ w = w' := by
  go_enter Try.func257, Try.ntmps257
  go_wp2
  go_loop [0, 1, 5] (fun a' n' o => ∃ (p r : UInt8) (m j : Nat), a' = .int .u8 p.toNat ∧ n' = .int .i64 m ∧ o = .int .u8 r.toNat ∧ m < 1000 ∧ m < 2 ^ j ∧ powerGo j r p m = powerGo k 1 a n) (fun _ n' _ => (intOf n').toNat)
  case atStart => exact ⟨a, 1, n, k, rfl, rfl, rfl, hb, hn, rfl⟩
  case round =>
    obtain ⟨p, r, m, j, rfl, rfl, rfl, hm, hj, ht⟩ := hrel
    have HT : Hid (powerGo j r p m = powerGo k 1 a n) := ht
    clear ht
    by_cases h0 : 0 < m
    · go_wp2_with (go_at_call 260; refine (times_any _ _ _).mono ?_; rintro e w' ⟨rfl, rfl⟩)
      all_goals
        obtain ⟨j', hj', ht⟩ := pow_step hj h0 HT.out
        go_round
        case rel => exact ⟨times p p, if m % 2 = 1 then times r p else r, m / 2, j', rfl, by go_num, val_int (by first | exact odd64_t hm ‹_› | exact odd64_f hm ‹_›), by omega, hj', ht⟩
        case measure => simp [intOf]; omega
    · have e : m = 0 := by omega
      subst e
      have h := pow_end HT.out
      go_wp2
      go_ret
      exact ⟨ret_int (by rw [← h]), rfl⟩

theorem inv_any (a : UInt8) (w : World) : Calls Try.prog 247 #[.int .u8 a.toNat] w fun e w' => e = .returned (.int .u8 (inv a).toNat) ∧ w = w' := by
  go_enter Try.func247, Try.ntmps247
  go_wp2_with (go_at_call 257; refine (power_any a 254 8 (by omega) (by omega) _).mono ?_; rintro e w' ⟨rfl, rfl⟩)
  go_ret
  exact ⟨rfl, rfl⟩

def pow2 (n : Nat) : UInt8 := powerGo 8 1 2 (n % 255)
set_option maxHeartbeats 400000 in
theorem pow2_any (n : Nat) (w : World) (hn : n ≤ 9223372036854775807) : Calls Try.prog 250 #[.int .i64 n] w fun e w' => e = .returned (.int .u8 (pow2 n).toNat) ∧ w = w' := by
  have h := power_any 2 (n % 255) 8 (by omega) (by omega)
  rw [Int.natCast_emod] at h
  go_enter Try.func250, Try.ntmps250
  go_wp2_with (go_at_call 257; refine (h _).mono ?_; rintro e w' ⟨rfl, rfl⟩)
  go_ret
  exact ⟨rfl, rfl⟩
end Go.Proofs.Ytpdfcgkeclocoaa
