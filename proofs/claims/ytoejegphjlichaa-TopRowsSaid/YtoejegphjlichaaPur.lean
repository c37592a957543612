/- The encoding of integers as plain functions on lists of bytes, and its arithmetic. No program. -/
import Derived.Laws.Bits64
import Derived.Laws.BitsLemmas
import Derived.Laws.BitsAllLaws
import Derived.Laws.Wrap64
import Derived.RowKit
namespace Go.Proofs.Ytoejegphjlichaa
open Go.RowKit
set_option linter.unusedVariables false

/-- The zigzag number of an integer. -/
def zig (n : Int) : Nat := if 0 ≤ n then (2 * n).toNat else (-2 * n - 1).toNat
/-- The integer of a zigzag number. -/
def unzig (z : Nat) : Int := if z % 2 = 1 then -((z / 2 : Nat) : Int) - 1 else ((z / 2 : Nat) : Int)
theorem unzig_zig (n : Int) : unzig (zig n) = n := by unfold zig unzig; split <;> split <;> omega
theorem zig_unzig (z : Nat) : zig (unzig z) = z := by unfold zig unzig; split <;> split <;> omega
theorem zig_lt {n : Int} (h1 : -9223372036854775808 ≤ n) (h2 : n < 9223372036854775808) : zig n < 18446744073709551616 := by unfold zig; split <;> omega
theorem unzig_range {z : Nat} (h : z < 18446744073709551616) : -9223372036854775808 ≤ unzig z ∧ unzig z < 9223372036854775808 := by unfold unzig; split <;> omega

/-- The groups of seven bits. -/
def grp (z : Nat) : List UInt8 := if h : z < 128 then [UInt8.ofNat z] else UInt8.ofNat (z % 128 + 128) :: grp (z / 128)
termination_by z
decreasing_by omega
theorem grp_small {z : Nat} (h : z < 128) : grp z = [UInt8.ofNat z] := by rw [grp, dif_pos h]
theorem grp_big {z : Nat} (h : 128 ≤ z) : grp z = UInt8.ofNat (z % 128 + 128) :: grp (z / 128) := by rw [grp, dif_neg (by omega)]
theorem grp_ne (z : Nat) : grp z ≠ [] := by rw [grp]; split <;> simp
theorem grp_len : ∀ (k z : Nat), z < 128 ^ (k + 1) → (grp z).length ≤ k + 1
  | 0, z, h => by rw [grp_small (by simpa using h)]; simp
  | k + 1, z, h => by
    by_cases h1 : z < 128
    · rw [grp_small h1]; simp
    · rw [grp_big (by omega), List.length_cons]
      have := grp_len k (z / 128) (by rw [Nat.div_lt_iff_lt_mul (by omega)]; rw [Nat.pow_succ] at h; exact h)
      omega
/-- The encoding of an integer. -/
def pI (n : Int) : List UInt8 := grp (zig n)
theorem pI_len {n : Int} (h1 : -9223372036854775808 ≤ n) (h2 : n < 9223372036854775808) : (pI n).length ≤ 10 := grp_len 9 _ (by have := zig_lt h1 h2; simp only [Nat.reducePow, Nat.reduceAdd]; omega)
theorem pI_pos (n : Int) : 0 < (pI n).length := List.length_pos_iff.2 (grp_ne _)

/-! ### the walk's own spellings -/
theorem zig_bits {n : Int} (h1 : -9223372036854775808 ≤ n) (h2 : n < 9223372036854775808) : Go.bits .xor .u64 (IntKind.u64.wrap (IntKind.u64.wrap n * 2)) (IntKind.u64.wrap (n / 9223372036854775808)) = (zig n : Int) := by
  simp only [IntKind.wrap_u64]
  by_cases h : 0 ≤ n
  · have e1 : (n % 18446744073709551616 * 2) % 18446744073709551616 = ((2 * n).toNat : Int) := by omega
    have e2 : n / 9223372036854775808 % 18446744073709551616 = ((0 : Nat) : Int) := by omega
    rw [e1, e2, bits_xor_u64_nat _ _ (by omega) (by omega), Nat.xor_zero, zig, if_pos h]
  · have e1 : (n % 18446744073709551616 * 2) % 18446744073709551616 = ((2 * n + 18446744073709551616).toNat : Int) := by omega
    have e2 : n / 9223372036854775808 % 18446744073709551616 = ((18446744073709551615 : Nat) : Int) := by omega
    rw [e1, e2, bits_xor_u64_nat _ _ (by omega) (by omega), zig, if_neg h]
    have hx : ∀ a : Nat, a < 2 ^ 64 → a ^^^ 18446744073709551615 = 18446744073709551615 - a := fun a ha => by
      apply Nat.eq_of_testBit_eq
      intro i
      have e : 18446744073709551615 - a = 2 ^ 64 - (a + 1) := by omega
      rw [e, Nat.testBit_two_pow_sub_succ ha, Nat.testBit_xor, show (18446744073709551615 : Nat) = 2 ^ 64 - 1 by decide, Nat.testBit_two_pow_sub_one]
      by_cases hi : i < 64
      · simp [hi]
      · simp [hi]
        exact Nat.testBit_lt_two_pow (Nat.lt_of_lt_of_le ha (Nat.pow_le_pow_right (by omega) (by omega)))
    rw [hx _ (by omega)]
    omega

theorem byte_or (z : Nat) : Go.bits .or .u8 (IntKind.u8.wrap (z : Int)) 128 = ((UInt8.ofNat (z % 128 + 128)).toNat : Int) := by
  have e1 : IntKind.u8.wrap (z : Int) = ((z % 256 : Nat) : Int) := by rw [IntKind.wrap_u8]; omega
  rw [e1, show (128 : Int) = ((128 : Nat) : Int) from rfl, u8_or_nat _ _ (by omega) (by omega)]
  have h : ∀ a, a < 256 → a ||| 128 = a % 128 + 128 := by decide +kernel
  rw [h _ (by omega)]
  simp
  omega

theorem byte_lo (z : Nat) : IntKind.u8.wrap (z : Int) = ((UInt8.ofNat z).toNat : Int) := by
  rw [IntKind.wrap_u8]
  simp

theorem and1_i64 {n : Int} (h1 : -9223372036854775808 ≤ n) (h2 : n < 9223372036854775808) : Go.bits .and .i64 n 1 = n % 2 := by
  show IntKind.i64.wrap ((BitVec.ofInt 64 n &&& BitVec.ofInt 64 1).toNat : Int) = _
  rw [BitVec.toNat_and, show (BitVec.ofInt 64 1).toNat = 1 from rfl, Nat.and_one_is_mod, BitVec.toNat_ofInt, IntKind.wrap_i64]
  omega

theorem and1_u64 {z : Nat} (h : z < 18446744073709551616) : Go.bits .and .u64 (z : Int) 1 = ((z % 2 : Nat) : Int) := by
  rw [show (1 : Int) = ((1 : Nat) : Int) from rfl, u64_and_nat _ _ h (by omega), Nat.and_one_is_mod]

theorem xor0_i64 {a : Int} (h1 : -9223372036854775808 ≤ a) (h2 : a < 9223372036854775808) : Go.bits .xor .i64 a 0 = a := by
  show IntKind.i64.wrap ((BitVec.ofInt 64 a ^^^ BitVec.ofInt 64 0).toNat : Int) = _
  rw [show BitVec.ofInt 64 0 = 0#64 from rfl, BitVec.xor_zero, BitVec.toNat_ofInt, IntKind.wrap_i64]
  omega

theorem xorm_i64 {a : Int} (h1 : -9223372036854775808 ≤ a) (h2 : a < 9223372036854775808) : Go.bits .xor .i64 a (-1) = -a - 1 := by
  show IntKind.i64.wrap ((BitVec.ofInt 64 a ^^^ BitVec.ofInt 64 (-1)).toNat : Int) = _
  rw [show BitVec.ofInt 64 (-1) = BitVec.allOnes 64 from rfl, BitVec.xor_allOnes, BitVec.toNat_not, BitVec.toNat_ofInt, IntKind.wrap_i64]
  omega

theorem or_step {z b k : Nat} (hz : z < 128 ^ k) (hk : k ≤ 9) (hb : b < 256) (hlt : b % 128 * 128 ^ k < 18446744073709551616) :
    Go.bits .or .u64 (z : Int) (IntKind.u64.wrap (IntKind.u64.wrap (Go.bits .and .u8 (b : Int) 127) * 2 ^ (7 * k))) = ((z + b % 128 * 128 ^ k : Nat) : Int) := by
  have e1 : Go.bits .and .u8 (b : Int) 127 = ((b % 128 : Nat) : Int) := by
    rw [show (127 : Int) = ((127 : Nat) : Int) from rfl, u8_and_nat _ _ hb (by decide), show (127 : Nat) = 2 ^ 7 - 1 from rfl, Nat.and_two_pow_sub_one_eq_mod]
  have e2 : IntKind.u64.wrap ((b % 128 : Nat) : Int) = ((b % 128 : Nat) : Int) := by rw [IntKind.wrap_u64]; omega
  have e3 : (128 : Nat) ^ k = 2 ^ (7 * k) := by rw [show (128 : Nat) = 2 ^ 7 from rfl, ← Nat.pow_mul]
  have e4 : IntKind.u64.wrap (((b % 128 : Nat) : Int) * 2 ^ (7 * k)) = ((b % 128 * 2 ^ (7 * k) : Nat) : Int) := by
    rw [IntKind.wrap_u64]
    have h5 : ((b % 128 : Nat) : Int) * 2 ^ (7 * k) = ((b % 128 * 2 ^ (7 * k) : Nat) : Int) := by push_cast; rfl
    rw [h5]
    rw [e3] at hlt
    omega
  have h128 : (128 : Nat) ^ k ≤ 9223372036854775808 := Nat.le_trans (Nat.pow_le_pow_right (by decide) hk) (by decide)
  rw [e1, e2, e4, u64_or_nat _ _ (by omega) (by rw [← e3]; exact hlt), Nat.or_comm, ← Nat.shiftLeft_eq, ← Nat.shiftLeft_add_eq_or_of_lt (by rw [← e3]; exact hz), Nat.shiftLeft_eq, ← e3, Nat.add_comm]

theorem unzig_bits {z : Nat} (h : z < 18446744073709551616) : Go.bits .xor .i64 (wrap64 ((z : Int) / 2)) (wrap64 (-wrap64 (Go.bits .and .u64 (z : Int) 1))) = unzig z := by
  rw [and1_u64 h]
  have e1 : wrap64 ((z : Int) / 2) = ((z / 2 : Nat) : Int) := by unfold wrap64; omega
  rw [e1]
  unfold unzig
  split
  · rename_i h1
    have e2 : wrap64 (-wrap64 ((z % 2 : Nat) : Int)) = -1 := by rw [h1]; decide
    rw [e2, xorm_i64 (by omega) (by omega)]
  · rename_i h1
    have e2 : wrap64 (-wrap64 ((z % 2 : Nat) : Int)) = 0 := by rw [show z % 2 = 0 by omega]; decide
    rw [e2, xor0_i64 (by omega) (by omega)]

theorem pow_step {z b k : Nat} (hz : z < 128 ^ k) (hb : b < 256) : z + b % 128 * 128 ^ k < 128 ^ (k + 1) := by
  have h1 : b % 128 ≤ 127 := by omega
  have h2 : b % 128 * 128 ^ k ≤ 127 * 128 ^ k := Nat.mul_le_mul_right _ h1
  rw [Nat.pow_succ]
  omega
theorem pow_le9 {k : Nat} (hk : k ≤ 9) : (128 : Nat) ^ k ≤ 9223372036854775808 := Nat.le_trans (Nat.pow_le_pow_right (by decide) hk) (by decide)

theorem unzig_odd {z : Nat} (h : z < 18446744073709551616) (ho : z % 2 = 1) : wrap64 (wrap64 (-wrap64 (IntKind.u64.wrap ((z : Int) / 2))) - 1) = unzig z := by
  have e0 : (z : Int) / 2 = ((z / 2 : Nat) : Int) := by omega
  have e1 : IntKind.u64.wrap ((z / 2 : Nat) : Int) = ((z / 2 : Nat) : Int) := by rw [IntKind.wrap_u64]; omega
  have e2 : wrap64 ((z / 2 : Nat) : Int) = ((z / 2 : Nat) : Int) := by unfold wrap64; omega
  have e3 : wrap64 (-((z / 2 : Nat) : Int)) = -((z / 2 : Nat) : Int) := by unfold wrap64; omega
  rw [e0, e1, e2, e3, unzig, if_pos ho]
  unfold wrap64
  omega
theorem unzig_even {z : Nat} (h : z < 18446744073709551616) (he : ¬ z % 2 = 1) : wrap64 (IntKind.u64.wrap ((z : Int) / 2)) = unzig z := by
  have e0 : (z : Int) / 2 = ((z / 2 : Nat) : Int) := by omega
  have e1 : IntKind.u64.wrap ((z / 2 : Nat) : Int) = ((z / 2 : Nat) : Int) := by rw [IntKind.wrap_u64]; omega
  have e2 : wrap64 ((z / 2 : Nat) : Int) = ((z / 2 : Nat) : Int) := by unfold wrap64; omega
  rw [e0, e1, e2, unzig, if_neg he]

theorem add_step {z b k u : Nat} (hu : u = 128 ^ k) (hlt : z + b % 128 * 128 ^ k < 18446744073709551616) :
    IntKind.u64.wrap ((z : Int) + IntKind.u64.wrap ((b : Int) % 128 * (u : Int))) = ((z + b % 128 * 128 ^ k : Nat) : Int) := by
  subst hu
  have e1 : ((b : Int) % 128 * ((128 ^ k : Nat) : Int)) = ((b % 128 * 128 ^ k : Nat) : Int) := by push_cast; rfl
  rw [e1, IntKind.wrap_u64, IntKind.wrap_u64]
  omega

theorem zig_neg {n : Int} (h1 : -9223372036854775808 ≤ n) (h : n < 0) : IntKind.u64.wrap (IntKind.u64.wrap (2 * IntKind.u64.wrap (wrap64 (-wrap64 (n + 1)))) + 1) = (zig n : Int) := by
  have e1 : wrap64 (-wrap64 (n + 1)) = -(n + 1) := by unfold wrap64; omega
  rw [e1, zig, if_neg (by omega), IntKind.wrap_u64, IntKind.wrap_u64, IntKind.wrap_u64]
  omega
theorem div128 {z : Nat} (h : z < 18446744073709551616) : IntKind.u64.wrap ((z : Int) / 128) = ((z / 128 : Nat) : Int) := by rw [IntKind.wrap_u64]; omega
theorem zig_pos {n : Int} (h2 : n < 9223372036854775808) (h : 0 ≤ n) : IntKind.u64.wrap (2 * IntKind.u64.wrap n) = (zig n : Int) := by
  rw [zig, if_pos (by omega), IntKind.wrap_u64, IntKind.wrap_u64]
  omega
theorem byte_ref (z : Nat) : (z : Int) % 128 + 128 = ((UInt8.ofNat (z % 128 + 128)).toNat : Int) := by
  simp
  omega

theorem u_key {n : Int} (h1 : -9223372036854775808 ≤ n) (h2 : n < 9223372036854775808) : IntKind.u64.wrap (IntKind.u64.wrap n + 9223372036854775808) = (((n + 9223372036854775808).toNat : Nat) : Int) := by
  rw [IntKind.wrap_u64, IntKind.wrap_u64]
  omega

end Go.Proofs.Ytoejegphjlichaa
