/- Plain facts on a meta as 64 bits: no program in sight. -/
import Derived.Test.YteojkjhccgnljaaPlainD
namespace Go.Proofs.Yteojkjhccgnljaa
open Go.RowKit

/-! ### A meta as 64 bits -/
def packI (m u g : Int) : Int := (m % 4096) * 4503599627370496 + (u % 67108864) * 67108864 + g % 67108864
theorem packI_u64 (m u g : Int) : isU64 (packI m u g) := by unfold packI isU64; omega
theorem pack_walk (m u g : Int) : bits .or .u64 (bits .or .u64 ((m % 4096) * 4503599627370496) ((u % 67108864) * 67108864)) (g % 67108864) = packI m u g := by
  have h1 : bits .or .u64 ((m % 4096) * 4503599627370496) ((u % 67108864) * 67108864) = (m % 4096) * 4503599627370496 + (u % 67108864) * 67108864 := by
    rw [u64_or' _ _ (by omega) (by omega) (by omega) (by omega), nat_join 52 _ _ (by omega) (by omega)]
    omega
  rw [h1, u64_or' _ _ (by omega) (by omega) (by omega) (by omega), nat_join 26 _ _ (by omega) (by omega)]
  unfold packI; omega
def unM (x : Int) : Int := x / 4503599627370496
def unU (x : Int) : Int := x / 67108864 % 67108864
def unG (x : Int) : Int := x % 67108864
theorem un_bd (x : Int) (hx : isU64 x) : 0 ≤ unM x ∧ unM x ≤ 4095 ∧ 0 ≤ unU x ∧ unU x ≤ 67108863 ∧ 0 ≤ unG x ∧ unG x ≤ 67108863 := by
  unfold isU64 at hx; unfold unM unU unG; omega
theorem and26u (y : Int) (h0 : 0 ≤ y) (h1 : y < 18446744073709551616) : bits .and .u64 y 67108863 = y % 67108864 := by
  rw [u64_and y 67108863 h0 h1 (by decide) (by decide), show (67108863 : Int).toNat = 67108863 from rfl, nat_mask26]; omega
theorem pack_un (x : Int) (hx : isU64 x) : packI (unM x) (unU x) (unG x) = x := by
  unfold isU64 at hx; unfold packI unM unU unG; omega
theorem un_pack (m u g : Int) (hm : 0 ≤ m ∧ m ≤ 4095) (hu : 0 ≤ u ∧ u ≤ 67108863) (hg : 0 ≤ g ∧ g ≤ 67108863) : unM (packI m u g) = m ∧ unU (packI m u g) = u ∧ unG (packI m u g) = g := by
  unfold packI unM unU unG; omega
theorem lowI_12 (a : Int) : lowI a 12 = a % 4096 := rfl
theorem lowI_26 (a : Int) : lowI a 26 = a % 67108864 := rfl
end Go.Proofs.Yteojkjhccgnljaa
