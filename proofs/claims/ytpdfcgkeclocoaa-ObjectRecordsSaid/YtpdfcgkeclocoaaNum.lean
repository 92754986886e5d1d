/- Small whole numbers of Go as UInt8, UInt32: what the machine's operations say of them. -/
import Derived.WalkKit
import Derived.KernelRfl
import Derived.LoopTactic
import Derived.Laws.BitsAllLaws
set_option linter.all false
namespace Go.Proofs.Ytpdfcgkeclocoaa
open Go.RowKit

theorem ret_int {k : IntKind} {a b : Int} (h : a = b) : Ending.returned (.int k a) = .returned (.int k b) := by rw [h]
theorem ret_bool {a b : Bool} (h : a = b) : Ending.returned (.bool a) = .returned (.bool b) := by rw [h]
theorem val_int {k : IntKind} {a b : Int} (h : a = b) : Value.int k a = .int k b := by rw [h]

/-! ### uint32 -/
theorem x32 (x y : UInt32) : bits .xor .u32 (x.toNat : Int) (y.toNat : Int) = ((x ^^^ y).toNat : Int) := by
  rw [u32_xor_nat _ _ x.toNat_lt y.toNat_lt, UInt32.toNat_xor]
theorem shr32_16 (x : UInt32) : (x.toNat : Int) / (65536 : Int) = ((x >>> 16).toNat : Int) := by
  have : (x >>> 16).toNat = x.toNat / 65536 := by simp [UInt32.toNat_shiftRight, Nat.shiftRight_eq_div_pow]
  rw [this]; rfl
theorem shr32_15 (x : UInt32) : (x.toNat : Int) / (32768 : Int) = ((x >>> 15).toNat : Int) := by
  have : (x >>> 15).toNat = x.toNat / 32768 := by simp [UInt32.toNat_shiftRight, Nat.shiftRight_eq_div_pow]
  rw [this]; rfl
theorem mul32 (x c : UInt32) (n : Int) (hc : n = (c.toNat : Int)) : (x.toNat : Int) * n % (4294967296 : Int) = ((x * c).toNat : Int) := by
  subst hc
  rw [UInt32.toNat_mul]
  rfl
theorem mul32_first (x : UInt32) : (x.toNat : Int) * (2146121005 : Int) % (4294967296 : Int) = ((x * 2146121005).toNat : Int) := mul32 x _ _ rfl
theorem mul32_second (x : UInt32) : (x.toNat : Int) * (2221713035 : Int) % (4294967296 : Int) = ((x * 2221713035).toNat : Int) := mul32 x _ _ rfl
theorem mul32_golden (x : UInt32) : (x.toNat : Int) * (2654435769 : Int) % (4294967296 : Int) = ((x * 2654435769).toNat : Int) := mul32 x _ _ rfl
theorem add32 (x y : UInt32) : ((x.toNat : Int) + (y.toNat : Int)) % (4294967296 : Int) = ((x + y).toNat : Int) := by
  rw [UInt32.toNat_add]
  rfl

/-! ### uint8 -/
theorem x8 (x y : UInt8) : bits .xor .u8 (x.toNat : Int) (y.toNat : Int) = ((x ^^^ y).toNat : Int) := by
  rw [u8_xor_nat _ _ x.toNat_lt y.toNat_lt, UInt8.toNat_xor]
theorem and8 (x y : UInt8) : bits .and .u8 (x.toNat : Int) (y.toNat : Int) = ((x &&& y).toNat : Int) := by
  rw [u8_and_nat _ _ x.toNat_lt y.toNat_lt, UInt8.toNat_and]
theorem u8_eq (x y : UInt8) : ((x.toNat : Int) == (y.toNat : Int)) = (x == y) := by
  by_cases h : x = y
  · subst h; simp
  · have : x.toNat ≠ y.toNat := fun e => h (UInt8.toNat_inj.1 e)
    have h1 : ((x.toNat : Int) == (y.toNat : Int)) = false := beq_eq_false_iff_ne.2 (by omega)
    rw [h1, beq_eq_false_iff_ne.2 h]
theorem and8_1 (x : UInt8) : bits .and .u8 (x.toNat : Int) (1 : Int) = ((x &&& 1).toNat : Int) := and8 x 1
theorem and8_128 (x : UInt8) : bits .and .u8 (x.toNat : Int) (128 : Int) = ((x &&& 128).toNat : Int) := and8 x 128
theorem x8_29 (x : UInt8) : bits .xor .u8 (x.toNat : Int) (29 : Int) = ((x ^^^ 29).toNat : Int) := x8 x 29
theorem shl8 (x : UInt8) : (x.toNat : Int) * (2 : Int) % (256 : Int) = ((x <<< 1).toNat : Int) := by
  have : (x <<< 1).toNat = x.toNat * 2 % 256 := by simp [UInt8.toNat_shiftLeft, Nat.shiftLeft_eq]
  rw [this]; rfl
theorem shr8 (x : UInt8) : (x.toNat : Int) / (2 : Int) = ((x >>> 1).toNat : Int) := by
  have : (x >>> 1).toNat = x.toNat / 2 := by simp [UInt8.toNat_shiftRight, Nat.shiftRight_eq_div_pow]
  rw [this]; rfl
theorem u8_is (x : UInt8) (n : Int) (c : UInt8) (hc : n = (c.toNat : Int)) : ((x.toNat : Int) == n) = (x == c) := by subst hc; exact u8_eq x c
theorem u8_0 (x : UInt8) : ((x.toNat : Int) == (0 : Int)) = (x == 0) := u8_is x _ 0 rfl
theorem u8_1 (x : UInt8) : ((x.toNat : Int) == (1 : Int)) = (x == 1) := u8_is x _ 1 rfl
theorem u8_ne0 (x : UInt8) : ((x.toNat : Int) != (0 : Int)) = (x != 0) := by rw [bne, u8_0, bne]
end Go.Proofs.Ytpdfcgkeclocoaa
