/- The walks of package field: each call hands back what the plain function says, and turns nothing. -/
import Derived.Test.YtpdfcgkeclocoaaProg
import Derived.Test.YtpdfcgkeclocoaaNum
import Derived.Test.YtpdfcgkeclocoaaGF
set_option linter.all false
namespace Go.Proofs.Ytpdfcgkeclocoaa
open Go.RowKit GF

theorem xt_t {p : UInt8} (h : (bits .and .u8 (p.toNat : Int) 128 != 0) = true) : bits .xor .u8 ((p.toNat : Int) * 2 % 256) 29 = ((xt p).toNat : Int) := by
  rw [and8_128, u8_ne0] at h
  rw [shl8, x8_29, xt, if_pos h]
theorem xt_f {p : UInt8} (h : (bits .and .u8 (p.toNat : Int) 128 != 0) = false) : (p.toNat : Int) * 2 % 256 = ((xt p).toNat : Int) := by
  rw [and8_128, u8_ne0] at h
  rw [shl8, xt, if_neg (by rw [h]; exact Bool.false_ne_true)]
theorem odd_t {q r p : UInt8} (h : (bits .and .u8 (q.toNat : Int) 1 == 1) = true) : bits .xor .u8 (r.toNat : Int) (p.toNat : Int) = ((if q &&& 1 = 1 then r ^^^ p else r).toNat : Int) := by
  rw [and8_1, u8_1] at h
  rw [if_pos (by simpa using h), x8]
theorem odd_f {q r p : UInt8} (h : (bits .and .u8 (q.toNat : Int) 1 == 1) = false) : (r.toNat : Int) = ((if q &&& 1 = 1 then r ^^^ p else r).toNat : Int) := by
  rw [and8_1, u8_1] at h
  rw [if_neg (by simpa using h)]
theorem shr8_lt (q : UInt8) (m : Nat) (h : q.toNat < 2 ^ (m + 1)) : (q >>> 1).toNat < 2 ^ m := by
  have : (q >>> 1).toNat = q.toNat / 2 := by simp [UInt8.toNat_shiftRight, Nat.shiftRight_eq_div_pow]
  rw [this]
  rw [Nat.pow_succ] at h
  omega
theorem times_step {n : Nat} {p q r c : UInt8} (hq : q.toNat < 2 ^ n) (h0 : ((q.toNat : Int) != 0) = true) (ht : timesGo n r p q = c) :
    ∃ m, (q >>> 1).toNat < 2 ^ m ∧ timesGo m (if q &&& 1 = 1 then r ^^^ p else r) (xt p) (q >>> 1) = c := by
  have h0' : q ≠ 0 := by rw [u8_ne0] at h0; simpa using h0
  cases n with
  | zero =>
    have : q.toNat = 0 := by simpa using hq
    exact absurd (UInt8.toNat_inj.1 this) h0'
  | succ m =>
    unfold timesGo at ht
    rw [if_neg h0'] at ht
    exact ⟨m, shr8_lt q m hq, ht⟩
theorem times_end {n : Nat} {p q r c : UInt8} (h0 : ((q.toNat : Int) != 0) = false) (ht : timesGo n r p q = c) : r = c := by
  have h0' : q = 0 := by rw [u8_ne0] at h0; simpa using h0
  subst h0'
  cases n with
  | zero => exact ht
  | succ m => unfold timesGo at ht; rwa [if_pos rfl] at ht
theorem u8_half_lt {q : UInt8} (h0 : ((q.toNat : Int) != 0) = true) : (q.toNat : Int) / 2 < (q.toNat : Int) ∧ 0 < q.toNat := by
  have : (q.toNat : Int) ≠ 0 := by simpa using h0
  omega

set_option maxHeartbeats 400000 in
theorem times_any (a b : UInt8) (w : World) : Calls Try.prog 260 #[.int .u8 a.toNat, .int .u8 b.toNat] w fun e w' => e = .returned (.int .u8 (times a b).toNat) ∧ w = w' := by
  go_enter Try.func260, Try.ntmps260
  go_wp2
  go_loop [0, 1, 5] (fun a' b' o => ∃ (n : Nat) (p q r : UInt8), a' = .int .u8 p.toNat ∧ b' = .int .u8 q.toNat ∧ o = .int .u8 r.toNat ∧ q.toNat < 2 ^ n ∧ timesGo n r p q = times a b) (fun _ b' _ => (intOf b').toNat)
  case atStart => exact ⟨8, a, b, 0, rfl, rfl, rfl, b.toNat_lt, rfl⟩
  case round =>
    obtain ⟨n, p, q, r, rfl, rfl, rfl, hq, ht⟩ := hrel
    have HT : Hid (timesGo n r p q = times a b) := ht
    clear ht
    go_wp2
    all_goals first
      | (have h0 : ((q.toNat : Int) != 0) = true := by assumption
         go_round
         case rel =>
          obtain ⟨m, hs, ht⟩ := times_step hq h0 HT.out
          exact ⟨m, xt p, q >>> 1, if q &&& 1 = 1 then r ^^^ p else r, val_int (by first | exact xt_t ‹_› | exact xt_f ‹_›), val_int (shr8 q), val_int (by first | exact odd_t ‹_› | exact odd_f ‹_›), hs, ht⟩
         case measure => have := u8_half_lt h0; simp [intOf]; omega)
      | (have h0 : ((q.toNat : Int) != 0) = false := by assumption
         have h := times_end h0 HT.out
         go_ret
         exact ⟨ret_int (by rw [← h]), rfl⟩)
end Go.Proofs.Ytpdfcgkeclocoaa
