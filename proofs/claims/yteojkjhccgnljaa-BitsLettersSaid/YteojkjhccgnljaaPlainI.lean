/- Plain facts on nine letters, read: no program in sight. -/
import Derived.Test.YteojkjhccgnljaaPlainF
import Derived.Test.YteojkjhccgnljaaPlainC
namespace Go.Proofs.Yteojkjhccgnljaa
open Go.RowKit

/-! ### Nine letters, read -/
def bitN (k : Nat) : Nat := 2 ^ (8 - k)
def sgN (k : Nat) : Nat := if k % 3 = 0 then 114 else if k % 3 = 1 then 119 else 120
def upN (k : Nat) : Nat := 2 ^ (11 - k / 3)
/-- What letter c at place k adds. -/
def ctr (k : Nat) (c : Int) : Nat := if c = (sgN k : Int) then bitN k else if c = 115 ∨ c = 116 then bitN k ||| upN k else if c = 83 ∨ c = 84 then upN k else 0
def pN (s : ByteArray) : Nat → Nat
  | 0 => 0
  | k + 1 => pN s k ||| ctr k (cb s k)
theorem pN_zero (s : ByteArray) : pN s 0 = 0 := rfl
theorem pN_succ (s : ByteArray) (k : Nat) : pN s (k + 1) = pN s k ||| ctr k (cb s k) := rfl
theorem bitN_lt (k : Nat) (hk : k < 9) : bitN k < 4096 := by
  have : ∀ k : Fin 9, bitN k.val < 4096 := by decide
  exact this ⟨k, hk⟩
theorem upN_lt (k : Nat) (hk : k < 9) : upN k < 4096 := by
  have : ∀ k : Fin 9, upN k.val < 4096 := by decide
  exact this ⟨k, hk⟩
theorem or_4096 (x y : Nat) (hx : x < 4096) (hy : y < 4096) : x ||| y < 4096 := Nat.or_lt_two_pow (n := 12) hx hy
theorem ctr_lt (k : Nat) (c : Int) (hk : k < 9) : ctr k c < 4096 := by
  unfold ctr
  split
  · exact bitN_lt k hk
  · split
    · exact or_4096 _ _ (bitN_lt k hk) (upN_lt k hk)
    · split
      · exact upN_lt k hk
      · omega
theorem pN_lt (s : ByteArray) (k : Nat) (hk : k ≤ 9) : pN s k < 4096 := by
  induction k with
  | zero => rw [pN_zero]; omega
  | succ k ih => rw [pN_succ]; exact or_4096 _ _ (ih (by omega)) (ctr_lt k _ (by omega))
theorem or_nat (x y : Nat) (hx : x < 4096) (hy : y < 4096) : bits .or .i64 (x : Int) (y : Int) = ((x ||| y : Nat) : Int) := by
  have h1 : (BitVec.ofInt 64 (x : Int)).toNat = x := by rw [ofInt64]; omega
  have h2 : (BitVec.ofInt 64 (y : Int)).toNat = y := by rw [ofInt64]; omega
  have := or_4096 x y hx hy
  show IntKind.i64.wrap ((BitVec.ofInt 64 (x : Int) ||| BitVec.ofInt 64 (y : Int)).toNat : Nat) = _
  rw [BitVec.toNat_or, h1, h2, wrap_small _ (by omega)]
/-- The mode of nine letters, of its twelve lowest bits. -/
def pkN (b : Bool) (c : Nat) : Nat := if b = true then c else 45
def rnN (x above : Bool) (lo hi : Nat) : Nat := if above = true then (if x = true then lo else hi) else (if x = true then 120 else 45)
def rwxN (m : Nat) : List Nat := [pkN (m.testBit 8) 114, pkN (m.testBit 7) 119, rnN (m.testBit 6) (m.testBit 11) 115 83, pkN (m.testBit 5) 114, pkN (m.testBit 4) 119, rnN (m.testBit 3) (m.testBit 10) 115 83, pkN (m.testBit 2) 114, pkN (m.testBit 1) 119, rnN (m.testBit 0) (m.testBit 9) 116 84]
def ctrN (k c : Nat) : Nat := if c = sgN k then bitN k else if c = 115 ∨ c = 116 then bitN k ||| upN k else if c = 83 ∨ c = 84 then upN k else 0
def pL (l : List Nat) : Nat := (((((((((0 ||| ctrN 0 (l.getD 0 0)) ||| ctrN 1 (l.getD 1 0)) ||| ctrN 2 (l.getD 2 0)) ||| ctrN 3 (l.getD 3 0)) ||| ctrN 4 (l.getD 4 0)) ||| ctrN 5 (l.getD 5 0)) ||| ctrN 6 (l.getD 6 0)) ||| ctrN 7 (l.getD 7 0)) ||| ctrN 8 (l.getD 8 0))
theorem pL_part0 : ∀ (a : Fin 8) (b : Fin 64), pL (rwxN (0 + 64 * a.val + b.val)) = 0 + 64 * a.val + b.val := by decide +kernel
theorem pL_part1 : ∀ (a : Fin 8) (b : Fin 64), pL (rwxN (512 + 64 * a.val + b.val)) = 512 + 64 * a.val + b.val := by decide +kernel
theorem pL_part2 : ∀ (a : Fin 8) (b : Fin 64), pL (rwxN (1024 + 64 * a.val + b.val)) = 1024 + 64 * a.val + b.val := by decide +kernel
theorem pL_part3 : ∀ (a : Fin 8) (b : Fin 64), pL (rwxN (1536 + 64 * a.val + b.val)) = 1536 + 64 * a.val + b.val := by decide +kernel
theorem pL_part4 : ∀ (a : Fin 8) (b : Fin 64), pL (rwxN (2048 + 64 * a.val + b.val)) = 2048 + 64 * a.val + b.val := by decide +kernel
theorem pL_part5 : ∀ (a : Fin 8) (b : Fin 64), pL (rwxN (2560 + 64 * a.val + b.val)) = 2560 + 64 * a.val + b.val := by decide +kernel
theorem pL_part6 : ∀ (a : Fin 8) (b : Fin 64), pL (rwxN (3072 + 64 * a.val + b.val)) = 3072 + 64 * a.val + b.val := by decide +kernel
theorem pL_part7 : ∀ (a : Fin 8) (b : Fin 64), pL (rwxN (3584 + 64 * a.val + b.val)) = 3584 + 64 * a.val + b.val := by decide +kernel
theorem pL_all (m : Nat) (h : m < 4096) : pL (rwxN m) = m := by
  have hc : m / 512 = 0 ∨ m / 512 = 1 ∨ m / 512 = 2 ∨ m / 512 = 3 ∨ m / 512 = 4 ∨ m / 512 = 5 ∨ m / 512 = 6 ∨ m / 512 = 7 := by omega
  rcases hc with q | q | q | q | q | q | q | q
  · have := pL_part0 ⟨m % 512 / 64, by omega⟩ ⟨m % 64, by omega⟩
    have e : 0 + 64 * (m % 512 / 64) + m % 64 = m := by omega
    simp only [e] at this
    exact this
  · have := pL_part1 ⟨m % 512 / 64, by omega⟩ ⟨m % 64, by omega⟩
    have e : 512 + 64 * (m % 512 / 64) + m % 64 = m := by omega
    simp only [e] at this
    exact this
  · have := pL_part2 ⟨m % 512 / 64, by omega⟩ ⟨m % 64, by omega⟩
    have e : 1024 + 64 * (m % 512 / 64) + m % 64 = m := by omega
    simp only [e] at this
    exact this
  · have := pL_part3 ⟨m % 512 / 64, by omega⟩ ⟨m % 64, by omega⟩
    have e : 1536 + 64 * (m % 512 / 64) + m % 64 = m := by omega
    simp only [e] at this
    exact this
  · have := pL_part4 ⟨m % 512 / 64, by omega⟩ ⟨m % 64, by omega⟩
    have e : 2048 + 64 * (m % 512 / 64) + m % 64 = m := by omega
    simp only [e] at this
    exact this
  · have := pL_part5 ⟨m % 512 / 64, by omega⟩ ⟨m % 64, by omega⟩
    have e : 2560 + 64 * (m % 512 / 64) + m % 64 = m := by omega
    simp only [e] at this
    exact this
  · have := pL_part6 ⟨m % 512 / 64, by omega⟩ ⟨m % 64, by omega⟩
    have e : 3072 + 64 * (m % 512 / 64) + m % 64 = m := by omega
    simp only [e] at this
    exact this
  · have := pL_part7 ⟨m % 512 / 64, by omega⟩ ⟨m % 64, by omega⟩
    have e : 3584 + 64 * (m % 512 / 64) + m % 64 = m := by omega
    simp only [e] at this
    exact this
theorem rwxZ_nat (m : Nat) : rwxZ (m : Int) = (rwxN m).map (fun n : Nat => (n : Int)) := by
  have h1 : ∀ (b : Bool) (c : Nat), pkI b (c : Int) = ((pkN b c : Nat) : Int) := fun b c => by cases b <;> rfl
  have h2 : ∀ (x b : Bool) (lo hi : Nat), rnI x b (lo : Int) (hi : Int) = ((rnN x b lo hi : Nat) : Int) := fun x b lo hi => by cases x <;> cases b <;> rfl
  unfold rwxZ rwxN
  simp only [bt_nat, List.map_cons, List.map_nil, ← h1, ← h2]
  rfl
theorem rwxZ_low (a : Int) : rwxZ a = rwxZ (a % 4096) := by
  have h : ∀ k, k < 12 → bt (a % 4096) k = bt a k := fun k hk => low_bit a 12 k hk
  unfold rwxZ
  rw [h 8 (by decide), h 7 (by decide), h 6 (by decide), h 11 (by decide), h 5 (by decide), h 4 (by decide), h 3 (by decide), h 10 (by decide), h 2 (by decide), h 1 (by decide), h 0 (by decide), h 9 (by decide)]
theorem rwxB_low (a : Int) : rwxB a = rwxB (a % 4096) := by unfold rwxB; rw [rwxZ_low a]
theorem ctr_nat (k c : Nat) : ctr k (c : Int) = ctrN k c := by
  unfold ctr ctrN
  have e : ∀ n : Nat, ((c : Int) = (n : Int)) = (c = n) := fun n => by rw [eq_iff_iff]; omega
  have e1 : ((c : Int) = 115) = (c = 115) := e 115
  have e2 : ((c : Int) = 116) = (c = 116) := e 116
  have e3 : ((c : Int) = 83) = (c = 83) := e 83
  have e4 : ((c : Int) = 84) = (c = 84) := e 84
  simp only [e, e1, e2, e3, e4]
theorem rwxN_bd (m k : Nat) (hk : k < 9) : (rwxN m).getD k 0 < 256 := by
  have h1 : ∀ (b : Bool), pkN b 114 < 256 ∧ pkN b 119 < 256 := by decide
  have h2 : ∀ (x b : Bool), rnN x b 115 83 < 256 ∧ rnN x b 116 84 < 256 := by decide
  match k, hk with
  | 0, _ => exact (h1 _).1
  | 1, _ => exact (h1 _).2
  | 2, _ => exact (h2 _ _).1
  | 3, _ => exact (h1 _).1
  | 4, _ => exact (h1 _).2
  | 5, _ => exact (h2 _ _).1
  | 6, _ => exact (h1 _).1
  | 7, _ => exact (h1 _).2
  | 8, _ => exact (h2 _ _).2
theorem rwxB_cb (m k : Nat) (hk : k < 9) : cb (rwxB (m : Int)) k = (((rwxN m).getD k 0 : Nat) : Int) := by
  have hl : (rwxN m).length = 9 := rfl
  have hb := rwxN_bd m k hk
  unfold rwxB
  rw [rwxZ_nat, cb_strL _ k (by simp [hl, hk])]
  have hg : (rwxN m).getD k 0 = (rwxN m)[k]'(by rw [hl]; exact hk) := by simp [List.getD, hl, hk]
  rw [hg] at hb ⊢
  simp only [List.getElem_map, Int.toNat_natCast]
  have := byte_of (((rwxN m)[k]'(by rw [hl]; exact hk) : Nat) : Int) (by omega) (by omega)
  rw [Int.toNat_natCast] at this
  exact this
theorem rwx_back (a : Int) : ((pN (rwxB a) 9 : Nat) : Int) = a % 4096 := by
  obtain ⟨m, hm⟩ : ∃ m : Nat, a % 4096 = m := ⟨(a % 4096).toNat, by omega⟩
  have hlt : m < 4096 := by omega
  rw [rwxB_low a, hm]
  have h := fun k hk => rwxB_cb m k hk
  have e : pN (rwxB (m : Int)) 9 = pL (rwxN m) := by
    simp only [pN]
    rw [h 0 (by decide), h 1 (by decide), h 2 (by decide), h 3 (by decide), h 4 (by decide), h 5 (by decide), h 6 (by decide), h 7 (by decide), h 8 (by decide)]
    simp only [ctr_nat]
    rfl
  rw [e]
  exact congrArg (fun n : Nat => (n : Int)) (pL_all m hlt)
/-- Nine letters that a mode has. -/
def goodR (s : ByteArray) : Prop := rwxB ((pN s 9 : Nat) : Int) = s
theorem goodR_rwx (a : Int) : goodR (rwxB a) := by unfold goodR; rw [rwx_back, ← rwxB_low]
theorem goodR_size (s : ByteArray) (h : goodR s) : s.size = 9 := by
  unfold goodR at h; rw [← h]; exact rwxB_size _
theorem goodR_one (s : ByteArray) (m : Nat) (hm : m < 4096) (h : rwxB (m : Int) = s) : goodR s ∧ pN s 9 = m := by
  have h1 := rwx_back (m : Int)
  rw [h] at h1
  have h2 : pN s 9 = m := by omega
  exact ⟨by unfold goodR; rw [h2]; exact h, h2⟩
end Go.Proofs.Yteojkjhccgnljaa
