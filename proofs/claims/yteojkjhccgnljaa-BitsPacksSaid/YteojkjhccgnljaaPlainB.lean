/- Plain facts on a mode without a mask's bits: no program in sight. -/
import Derived.Test.YteojkjhccgnljaaPlainA
namespace Go.Proofs.Yteojkjhccgnljaa
open Go.RowKit

theorem pow_split' (m k : Nat) (hk : k < m) : ((2 : Int) ^ m) = 2 ^ k * (2 * 2 ^ (m - 1 - k)) := by
  rw [← Int.pow_succ', ← Int.pow_add]
  congr 1
  omega
/-- The lowest m bits hold bit k as the number itself does. -/
theorem low_bit (a : Int) (m k : Nat) (hk : k < m) : bt (a % 2 ^ m) k = bt a k := by
  have hp : (0 : Int) < 2 ^ k := Int.pow_pos (by decide)
  have hs := pow_split' m k hk
  have hd : a = a % 2 ^ m + 2 ^ k * (2 * 2 ^ (m - 1 - k) * (a / 2 ^ m)) := by
    have := Int.emod_add_mul_ediv a (2 ^ m)
    rw [← Int.mul_assoc, ← hs]
    omega
  have h2 : a / 2 ^ k = a % 2 ^ m / 2 ^ k + 2 * (2 ^ (m - 1 - k) * (a / 2 ^ m)) := by
    conv => lhs; rw [hd]
    rw [Int.add_mul_ediv_left _ _ (by omega), Int.mul_assoc]
  unfold bt
  rw [h2]
  congr 1
  rw [eq_iff_iff]
  omega
theorem bt_nat (c k : Nat) : bt (c : Int) k = c.testBit k := by
  unfold bt
  rw [Nat.testBit_eq_decide_div_mod_eq]
  congr 1
  rw [eq_iff_iff]
  have : ((c : Int) / 2 ^ k % 2) = ((c / 2 ^ k % 2 : Nat) : Int) := by simp
  rw [this]; omega
/-! ### A mode without a mask's bits -/
def xN (a : Int) : Nat := (a % 4096).toNat
def yN (b : Int) : Nat := (b % 512).toNat
theorem xN_cast (a : Int) : (xN a : Int) = a % 4096 := by unfold xN; omega
theorem yN_cast (b : Int) : (yN b : Int) = b % 512 := by unfold yN; omega
theorem xN_lt (a : Int) : xN a < 4096 := by unfold xN; omega
theorem yN_lt (b : Int) : yN b < 512 := by unfold yN; omega
theorem xN_bit (a : Int) (k : Nat) (hk : k < 12) : (xN a).testBit k = bt a k := by
  rw [← bt_nat, xN_cast]; exact low_bit a 12 k hk
theorem yN_bit (b : Int) (k : Nat) (hk : k < 9) : (yN b).testBit k = bt b k := by
  rw [← bt_nat, yN_cast]; exact low_bit b 9 k hk
/-- Both. -/
def bo (a b : Int) : Int := ((xN a &&& yN b : Nat) : Int)
theorem bo_bit (a b : Int) (k : Nat) (hk : k < 9) : bt (bo a b) k = (bt a k && bt b k) := by
  unfold bo
  rw [bt_nat, Nat.testBit_and, xN_bit a k (by omega), yN_bit b k hk]
theorem bo_bd (a b : Int) : 0 ≤ bo a b ∧ bo a b ≤ a % 4096 ∧ bo a b < 512 := by
  unfold bo
  have h1 : xN a &&& yN b ≤ xN a := Nat.and_le_left
  have h2 : xN a &&& yN b ≤ yN b := Nat.and_le_right
  have := yN_lt b
  have := xN_cast a
  omega
/-- What is left of a mode behind k bits of a mask. -/
def umI (a b : Int) (k : Nat) : Int := a % 4096 - lowI (bo a b) k
theorem umI_zero (a b : Int) : umI a b 0 = a % 4096 := by unfold umI; rw [lowI_zero]; omega
theorem umI_yes (a b : Int) (k : Nat) (hk : k < 9) (h1 : bt a k = true) (h2 : bt b k = true) : umI a b (k + 1) = umI a b k - p2 k := by
  unfold umI; rw [lowI_yes _ k (by rw [bo_bit a b k hk, h1, h2]; rfl)]; omega
theorem umI_no1 (a b : Int) (k : Nat) (hk : k < 9) (h1 : bt a k = false) : umI a b (k + 1) = umI a b k := by
  unfold umI; rw [lowI_no _ k (by rw [bo_bit a b k hk, h1]; rfl)]
theorem umI_no2 (a b : Int) (k : Nat) (hk : k < 9) (h1 : bt b k = false) : umI a b (k + 1) = umI a b k := by
  unfold umI; rw [lowI_no _ k (by rw [bo_bit a b k hk, h1]; simp)]
theorem lowI_le (c : Int) (k : Nat) (h : 0 ≤ c) : lowI c k ≤ c := by
  have hp := p2_pos k
  unfold lowI
  unfold p2 at hp
  have h1 := Int.emod_add_mul_ediv c (2 ^ k)
  have h2 : 0 ≤ c / 2 ^ k := Int.ediv_nonneg h (by omega)
  have h3 : 0 ≤ 2 ^ k * (c / 2 ^ k) := Int.mul_nonneg (by omega) h2
  omega
theorem umI_bd (a b : Int) (k : Nat) : 0 ≤ umI a b k ∧ umI a b k ≤ 4095 := by
  have h1 := bo_bd a b
  have h2 := lowI_le (bo a b) k h1.1
  have h3 := lowI_bd (bo a b) k
  unfold umI; omega
theorem umI_all (a b : Int) : umI a b 9 = a % 4096 - bo a b := by
  have h1 := bo_bd a b
  unfold umI lowI
  have : (2 : Int) ^ 9 = 512 := by decide
  rw [this]; omega
theorem parts_sum (X Y : BitVec 64) : (X &&& ~~~ Y) + (X &&& Y) = X := by
  rw [BitVec.add_eq_or_of_and_eq_zero]
  · ext i hi
    simp only [BitVec.getElem_or, BitVec.getElem_and, BitVec.getElem_not]
    cases X[i] <;> cases Y[i] <;> rfl
  · ext i hi
    simp only [BitVec.getElem_and, BitVec.getElem_not, BitVec.getElem_zero]
    cases X[i] <;> cases Y[i] <;> rfl
theorem andNot_nat (x y : Nat) (hx : x < 4096) (hy : y < 512) : bits .andNot .i64 (x : Int) (y : Int) = (x : Int) - ((x &&& y : Nat) : Int) := by
  have h1 : (BitVec.ofInt 64 (x : Int)) = BitVec.ofNat 64 x := by apply BitVec.eq_of_toNat_eq; rw [ofInt64]; simp only [BitVec.toNat_ofNat]; omega
  have h2 : (BitVec.ofInt 64 (y : Int)) = BitVec.ofNat 64 y := by apply BitVec.eq_of_toNat_eq; rw [ofInt64]; simp only [BitVec.toNat_ofNat]; omega
  have hsum : (BitVec.ofNat 64 x &&& ~~~ BitVec.ofNat 64 y) + (BitVec.ofNat 64 x &&& BitVec.ofNat 64 y) = BitVec.ofNat 64 x := parts_sum _ _
  have hle : x &&& y ≤ x := Nat.and_le_left
  have hN := congrArg BitVec.toNat hsum
  rw [BitVec.toNat_add, BitVec.toNat_and (BitVec.ofNat 64 x) (BitVec.ofNat 64 y)] at hN
  simp only [BitVec.toNat_ofNat] at hN
  have e1 : x % 2 ^ 64 = x := by omega
  have e2 : y % 2 ^ 64 = y := by omega
  rw [e1, e2] at hN
  have hlt := (BitVec.ofNat 64 x &&& ~~~ BitVec.ofNat 64 y).isLt
  have hle2 : (BitVec.ofNat 64 x &&& ~~~ BitVec.ofNat 64 y).toNat ≤ x := by
    rw [BitVec.toNat_and, BitVec.toNat_ofNat, e1]; exact Nat.and_le_left
  show IntKind.i64.wrap ((BitVec.ofInt 64 (x : Int) &&& ~~~ BitVec.ofInt 64 (y : Int)).toNat : Nat) = _
  rw [h1, h2, wrap_small _ (by omega)]
  omega
theorem andNot_is (a b : Int) : bits .andNot .i64 (a % 4096) (b % 512) = a % 4096 - bo a b := by
  unfold bo
  rw [← xN_cast, ← yN_cast, andNot_nat _ _ (xN_lt a) (yN_lt b)]
theorem rest_and (x y : Nat) (hx : x < 4096) (hy : y < 512) : (x - (x &&& y)) &&& y = 0 := by
  have hs := congrArg BitVec.toNat (parts_sum (BitVec.ofNat 64 x) (BitVec.ofNat 64 y))
  have hz : (BitVec.ofNat 64 x &&& ~~~ BitVec.ofNat 64 y) &&& BitVec.ofNat 64 y = 0#64 := by
    generalize BitVec.ofNat 64 x = X
    generalize BitVec.ofNat 64 y = Y
    ext i hi
    simp only [BitVec.getElem_and, BitVec.getElem_not, BitVec.getElem_zero]
    cases X[i] <;> cases Y[i] <;> rfl
  have hz2 := congrArg BitVec.toNat hz
  have hle : x &&& y ≤ x := Nat.and_le_left
  rw [BitVec.toNat_add, BitVec.toNat_and (BitVec.ofNat 64 x) (BitVec.ofNat 64 y)] at hs
  rw [BitVec.toNat_and] at hz2
  simp only [BitVec.toNat_ofNat] at hs hz2
  have e1 : x % 2 ^ 64 = x := by omega
  have e2 : y % 2 ^ 64 = y := by omega
  rw [e1, e2] at hs
  rw [e2] at hz2
  have hle2 : (BitVec.ofNat 64 x &&& ~~~ BitVec.ofNat 64 y).toNat ≤ x := by
    rw [BitVec.toNat_and, BitVec.toNat_ofNat, e1]; exact Nat.and_le_left
  have : (BitVec.ofNat 64 x &&& ~~~ BitVec.ofNat 64 y).toNat = x - (x &&& y) := by omega
  rw [this] at hz2
  exact hz2
/-- A mode without a mask's bits, as a number. -/
def um (a b : Int) : Int := a % 4096 - bo a b
theorem um_bd (a b : Int) : 0 ≤ um a b ∧ um a b ≤ 4095 := by
  have h1 := bo_bd a b
  unfold um; omega
theorem um_nat (a b : Int) : um a b = ((xN a - (xN a &&& yN b) : Nat) : Int) := by
  have h1 : xN a &&& yN b ≤ xN a := Nat.and_le_left
  unfold um bo; rw [← xN_cast]; omega
theorem um_x (a b : Int) : xN (um a b) = xN a - (xN a &&& yN b) := by
  have h1 := um_bd a b
  have h2 := um_nat a b
  unfold xN at *; omega
theorem um_twice (a b : Int) : um (um a b) b = um a b := by
  have h1 := um_bd a b
  have h2 : bo (um a b) b = 0 := by
    unfold bo; rw [um_x, rest_and _ _ (xN_lt a) (yN_lt b)]; rfl
  have h3 : um (um a b) b = um a b % 4096 - bo (um a b) b := rfl
  rw [h3, h2]; omega
theorem um_none (a b : Int) : bits .and .i64 (bits .and .i64 (um a b) b) 511 = 0 := by
  have h1 := um_bd a b
  have hN : (BitVec.ofInt 64 (um a b)).toNat = (um a b).toNat := by rw [ofInt64]; omega
  have hB := ofInt64 b
  have hle : (um a b).toNat &&& (b % 18446744073709551616).toNat ≤ (um a b).toNat := Nat.and_le_left
  have e : bits .and .i64 (um a b) b = (((um a b).toNat &&& (b % 18446744073709551616).toNat : Nat) : Int) := by
    show IntKind.i64.wrap ((BitVec.ofInt 64 (um a b) &&& BitVec.ofInt 64 b).toNat : Nat) = _
    rw [BitVec.toNat_and, hN, hB, wrap_small _ (by omega)]
  rw [and511, e]
  have hy : (b % 18446744073709551616).toNat % 512 = yN b := by unfold yN; omega
  have hm := Nat.and_mod_two_pow (a := (um a b).toNat) (b := (b % 18446744073709551616).toNat) (n := 9)
  have h9 : (2 : Nat) ^ 9 = 512 := by decide
  rw [h9, hy] at hm
  have hm2 := Nat.and_mod_two_pow (a := (um a b).toNat) (b := yN b) (n := 9)
  have hyl : yN b % 512 = yN b := Nat.mod_eq_of_lt (yN_lt b)
  rw [h9, hyl] at hm2
  have hr : (um a b).toNat &&& yN b = 0 := by
    have : (um a b).toNat = xN a - (xN a &&& yN b) := by rw [um_nat]; rfl
    rw [this]; exact rest_and _ _ (xN_lt a) (yN_lt b)
  rw [hr] at hm2
  rw [← hm2] at hm
  omega
end Go.Proofs.Yteojkjhccgnljaa
