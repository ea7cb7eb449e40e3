/- Plain facts on what one may: no program in sight. -/
import Derived.Test.YteojkjhccgnljaaPlainC
namespace Go.Proofs.Yteojkjhccgnljaa
open Go.RowKit

/-! ### What one may -/
/-- All that is wanted, of three bits from a place on. -/
def mayL (m want : Int) (low : Nat) : Bool := (!bt want 0 || bt m low) && ((!bt want 1 || bt m (low + 1)) && (!bt want 2 || bt m (low + 2)))
def may0 (m want : Int) : Bool := !bt want 0 || (bt m 0 || (bt m 3 || bt m 6))
def lowM (u g uid gid : Int) : Nat := if uid = u then 6 else if gid = g then 3 else 0
def mayB (m u g uid gid want : Int) : Bool := if uid = 0 then may0 m want else mayL m want (lowM u g uid gid)
/-- '&' with a small number looks at the lowest seven bits alone. -/
theorem and_small (a : Int) (y : Nat) (hy : y < 128) : bits .and .i64 a (y : Int) = (((a % 128).toNat &&& y : Nat) : Int) := by
  have h2 : (BitVec.ofInt 64 (y : Int)).toNat = y := by rw [ofInt64]; omega
  have hle : (a % 18446744073709551616).toNat &&& y ≤ y := Nat.and_le_right
  have hm := Nat.and_mod_two_pow (a := (a % 18446744073709551616).toNat) (b := y) (n := 7)
  have h7 : (2 : Nat) ^ 7 = 128 := by decide
  rw [h7, Nat.mod_eq_of_lt (show y < 128 from hy), Nat.mod_eq_of_lt (show (a % 18446744073709551616).toNat &&& y < 128 by omega)] at hm
  have e : (a % 18446744073709551616).toNat % 128 = (a % 128).toNat := by omega
  rw [e] at hm
  show IntKind.i64.wrap ((BitVec.ofInt 64 a &&& BitVec.ofInt 64 (y : Int)).toNat : Nat) = _
  rw [BitVec.toNat_and, ofInt64, h2, wrap_small _ (by omega), hm]
theorem bit7 (a : Int) (j : Nat) (hj : j < 7) : (a % 128).toNat.testBit j = bt a j := by
  rw [← bt_nat]
  have : (((a % 128).toNat : Nat) : Int) = a % 128 := by omega
  rw [this]; exact low_bit a 7 j hj
theorem and1_is (want : Int) : (bits .and .i64 (want % 8) 1 == 0) = !(bt want 0) := by
  have h := and_small (want % 8) 1 (by decide)
  rw [show ((1 : Nat) : Int) = 1 from rfl] at h
  have h0 : bt (want % 8) 0 = bt want 0 := low_bit want 3 0 (by decide)
  have h1 := bit7 (want % 8) 0 (by decide)
  rw [h, ← h0, ← h1]
  have hlt : ((want % 8) % 128).toNat < 128 := by omega
  generalize ((want % 8) % 128).toNat = x at *
  have : ∀ x : Fin 128, (((x.val &&& 1 : Nat) : Int) == 0) = !(x.val.testBit 0) := by decide +kernel
  exact this ⟨x, hlt⟩
theorem and73_is (m : Int) : (bits .and .i64 m 73 != 0) = (bt m 0 || (bt m 3 || bt m 6)) := by
  have h := and_small m 73 (by decide)
  rw [show ((73 : Nat) : Int) = 73 from rfl] at h
  rw [h, ← bit7 m 0 (by decide), ← bit7 m 3 (by decide), ← bit7 m 6 (by decide)]
  have hlt : (m % 128).toNat < 128 := by omega
  generalize (m % 128).toNat = x at *
  have : ∀ x : Fin 128, (((x.val &&& 73 : Nat) : Int) != 0) = (x.val.testBit 0 || (x.val.testBit 3 || x.val.testBit 6)) := by decide +kernel
  exact this ⟨x, hlt⟩
theorem bt_div (m : Int) (k j : Nat) : bt (m / 2 ^ k) j = bt m (k + j) := by
  unfold bt
  rw [Int.pow_add, Int.ediv_ediv_of_nonneg (Int.le_of_lt (Int.pow_pos (by decide)))]
theorem bit3 (a : Int) (j : Nat) (hj : j < 3) : (a % 8).toNat.testBit j = bt a j := by
  rw [← bt_nat]
  have : (((a % 8).toNat : Nat) : Int) = a % 8 := by omega
  rw [this]; exact low_bit a 3 j hj
theorem and_want (a want : Int) : (bits .and .i64 a (want % 8) == want % 8) = ((!bt want 0 || bt a 0) && ((!bt want 1 || bt a 1) && (!bt want 2 || bt a 2))) := by
  have hy : want % 8 = (((want % 8).toNat : Nat) : Int) := by omega
  have h := and_small a (want % 8).toNat (by omega)
  rw [← hy] at h
  rw [h, ← bit3 want 0 (by decide), ← bit3 want 1 (by decide), ← bit3 want 2 (by decide), ← bit7 a 0 (by decide), ← bit7 a 1 (by decide), ← bit7 a 2 (by decide)]
  have hlt : (a % 128).toNat < 128 := by omega
  have hlt2 : (want % 8).toNat < 8 := by omega
  rw [hy, Int.toNat_natCast]
  generalize (a % 128).toNat = x at *
  generalize (want % 8).toNat = y at *
  have : ∀ (x : Fin 128) (y : Fin 8), (((x.val &&& y.val : Nat) : Int) == (y.val : Int)) = ((!y.val.testBit 0 || x.val.testBit 0) && ((!y.val.testBit 1 || x.val.testBit 1) && (!y.val.testBit 2 || x.val.testBit 2))) := by decide +kernel
  exact this ⟨x, hlt⟩ ⟨y, hlt2⟩
theorem may_low0 (m want : Int) : (bits .and .i64 m (want % 8) == want % 8) = mayL m want 0 := and_want m want
theorem may_low3 (m want : Int) : (bits .and .i64 (m / 8) (want % 8) == want % 8) = mayL m want 3 := by
  rw [and_want]
  have h := bt_div m 3
  rw [show (2 : Int) ^ 3 = 8 by decide] at h
  rw [h 0, h 1, h 2]; rfl
theorem may_low6 (m want : Int) : (bits .and .i64 (m / 64) (want % 8) == want % 8) = mayL m want 6 := by
  rw [and_want]
  have h := bt_div m 6
  rw [show (2 : Int) ^ 6 = 64 by decide] at h
  rw [h 0, h 1, h 2]; rfl
theorem bt_and (a b : Int) (j : Nat) (hj : j < 3) : bt (bits .and .i64 a b) j = (bt a j && bt b j) := by
  have e : bt (bits .and .i64 a b) j = ((a % 18446744073709551616).toNat &&& (b % 18446744073709551616).toNat).testBit j := by
    rw [← bt_nat]
    show bt (IntKind.i64.wrap ((BitVec.ofInt 64 a &&& BitVec.ofInt 64 b).toNat : Nat)) j = _
    rw [BitVec.toNat_and, ofInt64, ofInt64]
    have h := low_bit (IntKind.i64.wrap (((a % 18446744073709551616).toNat &&& (b % 18446744073709551616).toNat : Nat) : Int)) 64 j (by omega)
    rw [← h]
    congr 1
    rw [show (2 : Int) ^ 64 = 18446744073709551616 by decide, IntKind.wrap_i64]
    have : (a % 18446744073709551616).toNat &&& (b % 18446744073709551616).toNat ≤ (a % 18446744073709551616).toNat := Nat.and_le_left
    omega
  rw [e, Nat.testBit_and, ← bt_nat, ← bt_nat]
  have ha : (((a % 18446744073709551616).toNat : Nat) : Int) = a % 2 ^ 64 := by rw [show (2 : Int) ^ 64 = 18446744073709551616 by decide]; omega
  have hb : (((b % 18446744073709551616).toNat : Nat) : Int) = b % 2 ^ 64 := by rw [show (2 : Int) ^ 64 = 18446744073709551616 by decide]; omega
  rw [ha, hb, low_bit a 64 j (by omega), low_bit b 64 j (by omega)]
/-- Who may do much may do less. -/
theorem may_less (m u g uid gid want less : Int) (h : mayB m u g uid gid want = true) : mayB m u g uid gid (bits .and .i64 want less) = true := by
  unfold mayB at *
  by_cases e : uid = 0
  · rw [if_pos e] at *
    unfold may0 at *
    rw [bt_and want less 0 (by decide)]
    revert h
    cases bt want 0 <;> cases bt less 0 <;> simp
  · rw [if_neg e] at *
    unfold mayL at *
    rw [bt_and want less 0 (by decide), bt_and want less 1 (by decide), bt_and want less 2 (by decide)]
    revert h
    cases bt want 0 <;> cases bt want 1 <;> cases bt want 2 <;> cases bt less 0 <;> cases bt less 1 <;> cases bt less 2 <;> simp <;> try (intros; simp [*])
/-- The reference's loop. -/
def okM (m want : Int) (low k : Nat) : Prop := ∀ i, i < k → bt want i = true → bt m (low + i) = true
theorem okM_zero (m want : Int) (low : Nat) : okM m want low 0 := fun i h => by omega
theorem okM_succ (m want : Int) (low k : Nat) (h : okM m want low k) (h1 : bt want k = true → bt m (low + k) = true) : okM m want low (k + 1) := fun i hi => by
  by_cases e : i = k
  · subst e; exact h1
  · exact h i (by omega)
theorem mayL_yes (m want : Int) (low : Nat) (h : okM m want low 3) : mayL m want low = true := by
  have h0 := h 0 (by omega)
  have h1 := h 1 (by omega)
  have h2 := h 2 (by omega)
  rw [Nat.add_zero] at h0
  unfold mayL
  revert h0 h1 h2
  cases bt want 0 <;> cases bt want 1 <;> cases bt want 2 <;> simp <;> (intros; simp [*])
theorem mayL_no (m want : Int) (low k : Nat) (hk : k < 3) (h1 : bt want k = true) (h2 : bt m (low + k) = false) : mayL m want low = false := by
  unfold mayL
  match k, hk with
  | 0, _ => rw [Nat.add_zero] at h2; rw [h1, h2]; simp
  | 1, _ => rw [h1, h2]; simp
  | 2, _ => rw [h1, h2]; simp
end Go.Proofs.Yteojkjhccgnljaa
