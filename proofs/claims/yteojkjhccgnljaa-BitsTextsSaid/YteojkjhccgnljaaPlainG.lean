/- Plain facts on ints read from their digits: no program in sight. -/
import Derived.Test.YteojkjhccgnljaaPlainE
import Derived.IntWalk
namespace Go.Proofs.Yteojkjhccgnljaa
open Go.RowKit
/-! ### An int's digits, read -/
theorem ext_size (s : ByteArray) : (s.extract 1 s.size).size = s.size - 1 := by simp
theorem ext_at (s : ByteArray) (k : Nat) (h : k < s.size - 1) : cb (s.extract 1 s.size) k = cb s (1 + k) := by
  unfold cb
  rw [dif_pos (by rw [ext_size]; exact h), dif_pos (by omega), ByteArray.getElem_extract]
theorem dF_ext (s : ByteArray) (k : Nat) (h : k ≤ s.size - 1) : dF (s.extract 1 s.size) 0 k = dF s 1 k := by
  induction k with
  | zero => rfl
  | succ k ih => rw [dF_succ, dF_succ, ih (by omega), Nat.zero_add, ext_at s k (by omega)]
theorem minus_yes (s : ByteArray) (h : minus s = true) : 0 < s.size ∧ cb s 0 = 45 := by
  unfold minus at h; simp at h; exact h
theorem minus_no (s : ByteArray) (h : ¬ minus s = true) : 0 < s.size → cb s 0 ≠ 45 := by
  intro h0 h1; apply h; unfold minus; simp [h0, h1]
def okI (t : ByteArray) (k : Nat) : Prop := ∀ j, j < k → 48 ≤ cb t j ∧ cb t j ≤ 57
theorem okI_zero (t : ByteArray) : okI t 0 := fun j h => by omega
theorem okI_succ (t : ByteArray) (k : Nat) (h : okI t k) (h1 : 48 ≤ cb t k) (h2 : cb t k ≤ 57) : okI t (k + 1) := fun j hj => by
  by_cases e : j = k
  · subst e; exact ⟨h1, h2⟩
  · exact h j (by omega)
/-- What the digits of a text that an int is written as are. -/
theorem goodI_minus (s : ByteArray) (h : goodI s) (hm : minus s = true) : 2 ≤ s.size ∧ s.size ≤ 20 ∧ okI (s.extract 1 s.size) (s.size - 1) := by
  have h1 := goodI_size s h
  have ho : offS s = 1 := by unfold offS; rw [if_pos hm]
  rw [ho] at h1
  refine ⟨by omega, by omega, fun j hj => ?_⟩
  have h2 := goodI_digit s h j (by rw [ho]; omega)
  rw [ho] at h2
  rw [ext_at s j hj]; exact h2
theorem goodI_plus (s : ByteArray) (h : goodI s) (hm : ¬ minus s = true) : 1 ≤ s.size ∧ s.size ≤ 19 ∧ okI s s.size := by
  have h1 := goodI_size s h
  have ho : offS s = 0 := by unfold offS; rw [if_neg hm]
  rw [ho] at h1
  refine ⟨by omega, by omega, fun j hj => ?_⟩
  have h2 := goodI_digit s h j (by rw [ho]; omega)
  rw [ho, Nat.zero_add] at h2
  exact h2
theorem valS_minus (s : ByteArray) (hm : minus s = true) : valS s = IntKind.i64.wrap (IntKind.u64.wrap (-(dF (s.extract 1 s.size) 0 (s.size - 1)))) := by
  unfold valS; rw [if_pos hm, dF_ext s _ (Nat.le_refl _)]
theorem valS_plus (s : ByteArray) (hm : ¬ minus s = true) : valS s = IntKind.i64.wrap (dF s 0 s.size) := by
  unfold valS; rw [if_neg hm]
theorem dF_walk (t : ByteArray) (k : Nat) : dF t 0 (k + 1) = IntKind.u64.wrap (IntKind.u64.wrap (dF t 0 k * 10) + (cb t k - 48)) := by
  rw [dF_succ, Nat.zero_add, u64_wrap, u64_wrap]; omega
theorem valS_minus64 (s : ByteArray) (hm : minus s = true) : wrap64 (IntKind.u64.wrap (-(dF (s.extract 1 s.size) 0 (s.size - 1)))) = valS s := by
  rw [valS_minus s hm]; exact (IntWalk.i64_left _).symm
theorem valS_plus64 (s : ByteArray) (hm : ¬ minus s = true) : wrap64 (dF s 0 s.size) = valS s := by
  rw [valS_plus s hm]; exact (IntWalk.i64_left _).symm
/-- The reference's number: every sign but '-' counts. -/
def rD (s : ByteArray) : Nat → Int
  | 0 => 0
  | k + 1 => if cb s k = 45 then rD s k else (10 * rD s k + (cb s k - 48)) % 18446744073709551616
theorem rD_zero (s : ByteArray) : rD s 0 = 0 := rfl
theorem rD_skip (s : ByteArray) (k : Nat) (h : cb s k = 45) : rD s (k + 1) = rD s k := by
  show (if cb s k = 45 then rD s k else (10 * rD s k + (cb s k - 48)) % 18446744073709551616) = _
  rw [if_pos h]
theorem rD_take (s : ByteArray) (k : Nat) (h : ¬ cb s k = 45) : rD s (k + 1) = (10 * rD s k + (cb s k - 48)) % 18446744073709551616 := by
  show (if cb s k = 45 then rD s k else (10 * rD s k + (cb s k - 48)) % 18446744073709551616) = _
  rw [if_neg h]
theorem rD_u64 (s : ByteArray) (k : Nat) : isU64 (rD s k) := by
  unfold isU64
  induction k with
  | zero => rw [rD_zero]; omega
  | succ k ih =>
    by_cases h : cb s k = 45
    · rw [rD_skip s k h]; exact ih
    · rw [rD_take s k h]; omega
theorem rD_walk (s : ByteArray) (k : Nat) (h : ¬ cb s k = 45) : rD s (k + 1) = IntKind.u64.wrap (IntKind.u64.wrap (IntKind.u64.wrap (10 * rD s k) + cb s k) - 48) := by
  rw [rD_take s k h, u64_wrap, u64_wrap, u64_wrap]; omega
def valR (s : ByteArray) : Int := if minus s = true then wrap64 (IntKind.u64.wrap (-(rD s s.size))) else wrap64 (rD s s.size)
theorem valR_i64 (s : ByteArray) : isI64 (valR s) := by
  have h : ∀ z, isI64 (wrap64 z) := fun z => by rw [← IntWalk.i64_left]; exact i64_wrap_bd z
  unfold valR; split <;> exact h _
theorem rD_plus (s : ByteArray) (n : Nat) (h : okI s n) : ∀ k, k ≤ n → rD s k = dF s 0 k := by
  intro k
  induction k with
  | zero => intro _; rfl
  | succ k ih =>
    intro hk
    have h1 := h k (by omega)
    rw [rD_take s k (by omega), dF_succ, ih (by omega), Nat.zero_add, Int.mul_comm]
theorem rD_minus (s : ByteArray) (h0 : cb s 0 = 45) (h : okI (s.extract 1 s.size) (s.size - 1)) : ∀ k, k ≤ s.size - 1 → rD s (1 + k) = dF s 1 k := by
  intro k
  induction k with
  | zero => intro _; rw [show 1 + 0 = 0 + 1 from rfl, rD_skip s 0 h0]; rfl
  | succ k ih =>
    intro hk
    have h1 := h k (by omega)
    rw [ext_at s k (by omega)] at h1
    rw [show 1 + (k + 1) = (1 + k) + 1 by omega, rD_take s (1 + k) (by omega), dF_succ, ih (by omega), Int.mul_comm]
theorem valR_good (s : ByteArray) (h : goodI s) : valR s = valS s := by
  unfold valR
  by_cases hm : minus s = true
  · have h1 := goodI_minus s h hm
    have h2 := minus_yes s hm
    have h3 := rD_minus s h2.2 h1.2.2 (s.size - 1) (Nat.le_refl _)
    rw [show 1 + (s.size - 1) = s.size by omega] at h3
    rw [if_pos hm, ← valS_minus64 s hm, h3, dF_ext s _ (Nat.le_refl _)]
  · have h1 := goodI_plus s h hm
    rw [if_neg hm, ← valS_plus64 s hm, rD_plus s s.size h1.2.2 _ (Nat.le_refl _)]
theorem valR_text (s : ByteArray) (h : textB (valR s) = s) : goodI s := by
  have := goodI_text (valR s) (valR_i64 s)
  rw [h] at this
  exact this
theorem valR_minus (s : ByteArray) (hm : minus s = true) : wrap64 (IntKind.u64.wrap (-(rD s s.size))) = valR s := by unfold valR; rw [if_pos hm]
theorem valR_plus (s : ByteArray) (hm : ¬ minus s = true) : wrap64 (rD s s.size) = valR s := by unfold valR; rw [if_neg hm]
theorem goodI_20 (s : ByteArray) (h : goodI s) : s.size ≤ 20 := by
  have h1 := goodI_size s h
  have : offS s ≤ 1 := by unfold offS; split <;> omega
  omega
end Go.Proofs.Yteojkjhccgnljaa
