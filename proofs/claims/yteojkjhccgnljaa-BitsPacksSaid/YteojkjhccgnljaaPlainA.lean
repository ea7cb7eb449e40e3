/- Plain facts on bits of numbers: no program in sight. -/
import Derived.Laws.BitsAllLaws
import Derived.IntWalk
import Derived.RowKit
namespace Go.Proofs.Yteojkjhccgnljaa
open Go.RowKit

/-- Bit k of a number, as Go's int has it. -/
def bt (a : Int) (k : Nat) : Bool := decide (a / 2 ^ k % 2 = 1)

theorem pow_split (k : Nat) (hk : k < 64) : (18446744073709551616 : Int) = 2 ^ k * (2 * 2 ^ (63 - k)) := by
  have h : (2 : Int) ^ 64 = 2 ^ k * (2 * 2 ^ (63 - k)) := by
    rw [← Int.pow_succ', ← Int.pow_add]
    congr 1
    omega
  exact h

/-- The lowest 64 bits hold bit k as the number itself does. -/
theorem wrap_bit (a : Int) (k : Nat) (hk : k < 64) : a % 18446744073709551616 / 2 ^ k % 2 = a / 2 ^ k % 2 := by
  have hp : (0 : Int) < 2 ^ k := Int.pow_pos (by decide)
  have hs := pow_split k hk
  have hd : a = a % 18446744073709551616 + 2 ^ k * (2 * 2 ^ (63 - k) * (a / 18446744073709551616)) := by
    have := Int.emod_add_mul_ediv a 18446744073709551616
    rw [← Int.mul_assoc, ← hs]
    omega
  have h2 : a / 2 ^ k = a % 18446744073709551616 / 2 ^ k + 2 * (2 ^ (63 - k) * (a / 18446744073709551616)) := by
    conv => lhs; rw [hd]
    rw [Int.add_mul_ediv_left _ _ (by omega), Int.mul_assoc]
  rw [h2]
  omega

theorem ofInt64 (a : Int) : (BitVec.ofInt 64 a).toNat = (a % 18446744073709551616).toNat := BitVec.toNat_ofInt a

theorem wrap_small (n : Nat) (h : n < 9223372036854775808) : IntKind.i64.wrap (n : Int) = n := by
  rw [IntKind.wrap_i64]; omega

/-- 'a & 1<<k' of ints. -/
theorem and_pow (a : Int) (k : Nat) (hk : k ≤ 62) : bits .and .i64 a (2 ^ k) = a / 2 ^ k % 2 * 2 ^ k := by
  have hk2 : (2 : Nat) ^ k < 9223372036854775808 := by
    have : (2 : Nat) ^ k < 2 ^ 63 := Nat.pow_lt_pow_right (by decide) (by omega)
    exact this
  have h2 : (BitVec.ofInt 64 ((2 : Int) ^ k)).toNat = 2 ^ k := by
    rw [ofInt64]
    have : ((2 : Int) ^ k) = ((2 ^ k : Nat) : Int) := by simp
    rw [this]
    generalize (2 : Nat) ^ k = p at *
    omega
  have key : (BitVec.ofInt 64 a &&& BitVec.ofInt 64 ((2 : Int) ^ k)).toNat = (a % 18446744073709551616).toNat / 2 ^ k % 2 * 2 ^ k := by
    rw [BitVec.toNat_and, ofInt64, h2, nat_bit]
  show IntKind.i64.wrap ((BitVec.ofInt 64 a &&& BitVec.ofInt 64 ((2 : Int) ^ k)).toNat : Nat) = _
  rw [key, wrap_small]
  · rw [← wrap_bit a k (by omega)]
    have : ((a % 18446744073709551616).toNat : Int) = a % 18446744073709551616 := by omega
    simp only [Int.natCast_mul, Int.natCast_emod, Int.natCast_ediv, this, Int.natCast_pow]
    rfl
  · have : (a % 18446744073709551616).toNat / 2 ^ k % 2 ≤ 1 := by omega
    calc _ ≤ 1 * 2 ^ k := Nat.mul_le_mul_right _ this
      _ < _ := by omega

theorem and_pow_ne (a : Int) (k : Nat) (hk : k ≤ 62) : (bits .and .i64 a (2 ^ k) != 0) = bt a k := by
  have hp : (0 : Int) < 2 ^ k := Int.pow_pos (by decide)
  rw [and_pow a k hk]
  unfold bt
  rcases (show a / 2 ^ k % 2 = 0 ∨ a / 2 ^ k % 2 = 1 by omega) with h | h
  · rw [h]; simp
  · rw [h]; simp; omega

/-- 'a & (1<<k - 1)' of ints. -/
theorem and_low (a : Int) (k : Nat) (hk : k ≤ 62) : bits .and .i64 a (2 ^ k - 1) = a % 2 ^ k := by
  have hp : (0 : Int) < 2 ^ k := Int.pow_pos (by decide)
  have hpn : (0 : Nat) < 2 ^ k := Nat.pow_pos (by decide)
  have hc : ((2 : Int) ^ k) = ((2 ^ k : Nat) : Int) := by simp
  have hk2 : (2 : Nat) ^ k < 9223372036854775808 := by
    have : (2 : Nat) ^ k < 2 ^ 63 := Nat.pow_lt_pow_right (by decide) (by omega)
    exact this
  have h2 : (BitVec.ofInt 64 ((2 : Int) ^ k - 1)).toNat = 2 ^ k - 1 := by
    rw [ofInt64, hc]; omega
  have key : (BitVec.ofInt 64 a &&& BitVec.ofInt 64 ((2 : Int) ^ k - 1)).toNat = (a % 18446744073709551616).toNat % 2 ^ k := by
    rw [BitVec.toNat_and, ofInt64, h2, Nat.and_two_pow_sub_one_eq_mod]
  show IntKind.i64.wrap ((BitVec.ofInt 64 a &&& BitVec.ofInt 64 ((2 : Int) ^ k - 1)).toNat : Nat) = _
  rw [key, wrap_small _ (Nat.lt_trans (Nat.mod_lt _ hpn) hk2)]
  have : ((a % 18446744073709551616).toNat : Int) = a % 18446744073709551616 := by omega
  rw [Int.natCast_emod, this, ← hc]
  refine Int.emod_emod_of_dvd a ⟨2 * 2 ^ (63 - k), pow_split k (by omega)⟩

theorem and7 (a : Int) : bits .and .i64 a 7 = a % 8 := and_low a 3 (by decide)
theorem and511 (a : Int) : bits .and .i64 a 511 = a % 512 := and_low a 9 (by decide)
theorem and4095 (a : Int) : bits .and .i64 a 4095 = a % 4096 := and_low a 12 (by decide)
theorem and26 (a : Int) : bits .and .i64 a 67108863 = a % 67108864 := and_low a 26 (by decide)

/-! ### The lowest bits of a number -/
def lowI (a : Int) (k : Nat) : Int := a % 2 ^ k
def p2 (k : Nat) : Int := 2 ^ k
theorem p2_succ (k : Nat) : p2 (k + 1) = 2 * p2 k := by unfold p2; rw [Int.pow_succ, Int.mul_comm]
theorem p2_pos (k : Nat) : 1 ≤ p2 k := by
  unfold p2; have : (0 : Int) < 2 ^ k := Int.pow_pos (by decide)
  omega
theorem p2_le (k : Nat) (h : k ≤ 26) : p2 k ≤ 67108864 := by
  have : (2 : Nat) ^ k ≤ 2 ^ 26 := Nat.pow_le_pow_right (by decide) h
  have h2 : p2 k = ((2 ^ k : Nat) : Int) := by unfold p2; simp
  rw [h2]
  have h3 : (2 : Nat) ^ 26 = 67108864 := by decide
  rw [h3] at this
  generalize (2 : Nat) ^ k = q at *
  omega
theorem lowI_zero (a : Int) : lowI a 0 = 0 := by unfold lowI; simp [Int.emod_one]
theorem lowI_bd (a : Int) (k : Nat) : 0 ≤ lowI a k ∧ lowI a k < p2 k := by
  have := p2_pos k
  unfold lowI; unfold p2 at *
  exact ⟨Int.emod_nonneg _ (by omega), Int.emod_lt_of_pos _ (by omega)⟩
theorem lowI_step (a : Int) (k : Nat) : lowI a (k + 1) = lowI a k + (if bt a k = true then p2 k else 0) := by
  unfold lowI bt p2
  have hp : (0 : Int) < 2 ^ k := Int.pow_pos (by decide)
  have h1 := Int.emod_add_mul_ediv a (2 ^ k)
  have h2 := Int.emod_add_mul_ediv (a / 2 ^ k) 2
  have e : a = (a % 2 ^ k + 2 ^ k * (a / 2 ^ k % 2)) + 2 ^ (k + 1) * (a / 2 ^ k / 2) := by
    rw [Int.pow_succ, Int.mul_assoc, Int.add_assoc, ← Int.mul_add, h2, h1]
  have hb := Int.emod_nonneg a (show (2 : Int) ^ k ≠ 0 by omega)
  have hl := Int.emod_lt_of_pos a hp
  have hs : (2 : Int) ^ (k + 1) = 2 * 2 ^ k := by rw [Int.pow_succ, Int.mul_comm]
  have h3 : a % 2 ^ (k + 1) = a % 2 ^ k + 2 ^ k * (a / 2 ^ k % 2) := by
    conv => lhs; rw [e]
    rw [Int.add_mul_emod_self_left]
    apply Int.emod_eq_of_lt
    · rcases (show a / 2 ^ k % 2 = 0 ∨ a / 2 ^ k % 2 = 1 by omega) with h | h <;> rw [h] <;> omega
    · rcases (show a / 2 ^ k % 2 = 0 ∨ a / 2 ^ k % 2 = 1 by omega) with h | h <;> rw [h] <;> omega
  rw [h3]
  rcases (show a / 2 ^ k % 2 = 0 ∨ a / 2 ^ k % 2 = 1 by omega) with h | h
  · rw [h]; simp
  · rw [h]; simp
theorem lowI_yes (a : Int) (k : Nat) (h : bt a k = true) : lowI a (k + 1) = lowI a k + p2 k := by rw [lowI_step, if_pos h]
theorem lowI_no (a : Int) (k : Nat) (h : bt a k = false) : lowI a (k + 1) = lowI a k := by rw [lowI_step, h]; simp
theorem u64_wrap (a : Int) : IntKind.u64.wrap a = a % 18446744073709551616 := IntKind.wrap_u64 a
theorem bit_walk (a : Int) (k : Nat) (hk : k < 64) : ((IntKind.u64.wrap a / 2 ^ k).tmod 2 == 1) = bt a k := by
  have hn : 0 ≤ IntKind.u64.wrap a / 2 ^ k := by
    rw [u64_wrap]
    exact Int.ediv_nonneg (by omega) (Int.le_of_lt (Int.pow_pos (by decide)))
  rw [Int.tmod_eq_emod_of_nonneg hn, u64_wrap, wrap_bit a k hk]
  unfold bt
  rcases (show a / 2 ^ k % 2 = 0 ∨ a / 2 ^ k % 2 = 1 by omega) with h | h <;> rw [h] <;> rfl
end Go.Proofs.Yteojkjhccgnljaa
