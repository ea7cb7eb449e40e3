/- Plain facts on texts of four octal digits: no program in sight. -/
import Derived.Test.YteojkjhccgnljaaPlainB
import GoSem.Core.Utf8
namespace Go.Proofs.Yteojkjhccgnljaa
open Go.RowKit

/-- Byte k of a text, as a number; 0 behind its end. -/
def cb (s : ByteArray) (k : Nat) : Int := if h : k < s.size then ((s[k]'h).toNat : Int) else 0
theorem get_cb (s : ByteArray) : ∀ (n : Nat) (h : n < s.size), ((s[n]'h).toNat : Int) = cb s n := fun n h => by unfold cb; rw [dif_pos h]
theorem cb_bd (s : ByteArray) (k : Nat) : 0 ≤ cb s k ∧ cb s k ≤ 255 := by
  unfold cb
  split
  · rename_i h
    have := (s[k]'h).toNat_lt
    omega
  · omega
theorem cb_arr (l : Array UInt8) (k : Nat) (h : k < l.size) : cb ⟨l⟩ k = ((l[k]'h).toNat : Int) := by
  unfold cb; rw [dif_pos (show k < (⟨l⟩ : ByteArray).size from h)]; rfl
theorem ext_cb (s t : ByteArray) (h : s.size = t.size) (hc : ∀ k, k < s.size → cb s k = cb t k) : s = t := by
  apply ByteArray.ext
  apply Array.ext
  · exact h
  · intro i h1 h2
    have := hc i h1
    unfold cb at this
    rw [dif_pos (show i < s.size from h1), dif_pos (show i < t.size from h2)] at this
    exact UInt8.toNat_inj.1 (by exact Int.ofNat.inj this)
theorem app1 (c : UInt8) (l : Array UInt8) : (⟨#[c]⟩ : ByteArray) ++ ⟨l⟩ = ⟨#[c] ++ l⟩ := by
  apply ByteArray.ext; simp
theorem enc_ascii (z : Int) (h0 : 0 ≤ z) (h1 : z < 128) : Utf8.encode z = ⟨#[UInt8.ofNat z.toNat]⟩ := by
  have hv : Utf8.valid z = true := by unfold Utf8.valid; simp; omega
  unfold Utf8.encode
  simp only [hv, if_true]
  rw [if_pos (by omega)]
theorem byte_of (z : Int) (h0 : 0 ≤ z) (h1 : z < 256) : ((UInt8.ofNat z.toNat).toNat : Int) = z := by
  rw [UInt8.toNat_ofNat']; omega

/-! ### Four octal digits -/
def dg8 (x : Int) : UInt8 := UInt8.ofNat (48 + x % 8).toNat
def octB (a : Int) : ByteArray := ⟨#[dg8 (a / 512), dg8 (a / 64), dg8 (a / 8), dg8 a]⟩
theorem dg8_val (x : Int) : ((dg8 x).toNat : Int) = 48 + x % 8 := byte_of _ (by omega) (by omega)
theorem dg8_congr {x y : Int} (h : x % 8 = y % 8) : dg8 x = dg8 y := by unfold dg8; rw [h]
theorem octB_size (a : Int) : (octB a).size = 4 := rfl
theorem octB_cb (a : Int) : cb (octB a) 0 = 48 + a / 512 % 8 ∧ cb (octB a) 1 = 48 + a / 64 % 8 ∧ cb (octB a) 2 = 48 + a / 8 % 8 ∧ cb (octB a) 3 = 48 + a % 8 :=
  ⟨(cb_arr _ 0 (by simp)).trans (dg8_val _), (cb_arr _ 1 (by simp)).trans (dg8_val _), (cb_arr _ 2 (by simp)).trans (dg8_val _), (cb_arr _ 3 (by simp)).trans (dg8_val _)⟩
/-- The reference's prepending comes to the same digits. -/
theorem octB_ref (a n : Int) (hn : n = a % 4096) :
    (⟨#[dg8 (n / 8 / 8 / 8)]⟩ ++ (⟨#[dg8 (n / 8 / 8)]⟩ ++ (⟨#[dg8 (n / 8)]⟩ ++ (⟨#[dg8 n]⟩ ++ ⟨#[]⟩))) : ByteArray) = octB a := by
  rw [app1, app1, app1, app1]
  unfold octB
  rw [dg8_congr (x := n / 8 / 8 / 8) (y := a / 512) (by omega), dg8_congr (x := n / 8 / 8) (y := a / 64) (by omega), dg8_congr (x := n / 8) (y := a / 8) (by omega), dg8_congr (x := n) (y := a) (by omega)]
  rfl
/-- The number of a text's first k digits, whatever they are. -/
def oF (s : ByteArray) : Nat → Int
  | 0 => 0
  | k + 1 => 8 * oF s k + (cb s k - 48)
def okO (s : ByteArray) (k : Nat) : Prop := ∀ j, j < k → 48 ≤ cb s j ∧ cb s j ≤ 55
theorem oF_zero (s : ByteArray) : oF s 0 = 0 := rfl
theorem oF_succ (s : ByteArray) (k : Nat) : oF s (k + 1) = 8 * oF s k + (cb s k - 48) := rfl
theorem oF_wide (s : ByteArray) (k : Nat) (hk : k ≤ 5) : -20000000 ≤ oF s k ∧ oF s k ≤ 20000000 := by
  have h0 := cb_bd s 0
  have h1 := cb_bd s 1
  have h2 := cb_bd s 2
  have h3 := cb_bd s 3
  have h4 := cb_bd s 4
  match k, hk with
  | 0, _ => simp only [oF]; omega
  | 1, _ => simp only [oF]; omega
  | 2, _ => simp only [oF]; omega
  | 3, _ => simp only [oF]; omega
  | 4, _ => simp only [oF]; omega
  | 5, _ => simp only [oF]; omega
theorem okO_zero (s : ByteArray) : okO s 0 := fun j h => by omega
theorem okO_succ (s : ByteArray) (k : Nat) (h : okO s k) (h1 : 48 ≤ cb s k) (h2 : cb s k ≤ 55) : okO s (k + 1) := fun j hj => by
  by_cases e : j = k
  · subst e; exact ⟨h1, h2⟩
  · exact h j (by omega)
theorem oF_ok (s : ByteArray) (k : Nat) (hk : k ≤ 4) (h : okO s k) : 0 ≤ oF s k ∧ oF s k < 4096 := by
  match k, hk, h with
  | 0, _, _ => simp only [oF]; omega
  | 1, _, h => have := h 0 (by omega); simp only [oF]; omega
  | 2, _, h => have := h 0 (by omega); have := h 1 (by omega); simp only [oF]; omega
  | 3, _, h => have := h 0 (by omega); have := h 1 (by omega); have := h 2 (by omega); simp only [oF]; omega
  | 4, _, h => have := h 0 (by omega); have := h 1 (by omega); have := h 2 (by omega); have := h 3 (by omega); simp only [oF]; omega
def goodO (s : ByteArray) : Prop := s.size = 4 ∧ okO s 4
/-- What is read is written so; and only that is read. -/
theorem octB_read (s : ByteArray) (h : goodO s) : octB (oF s 4) = s := by
  obtain ⟨hs, h⟩ := h
  have h0 := h 0 (by omega)
  have h1 := h 1 (by omega)
  have h2 := h 2 (by omega)
  have h3 := h 3 (by omega)
  have hd := octB_cb (oF s 4)
  have e : oF s 4 = 512 * (cb s 0 - 48) + 64 * (cb s 1 - 48) + 8 * (cb s 2 - 48) + (cb s 3 - 48) := by simp only [oF]; omega
  apply ext_cb
  · rw [hs]; rfl
  · intro k hk
    have hk : k < 4 := hk
    match k, hk with
    | 0, _ => rw [hd.1]; omega
    | 1, _ => rw [hd.2.1]; omega
    | 2, _ => rw [hd.2.2.1]; omega
    | 3, _ => rw [hd.2.2.2]; omega
theorem octB_good (a : Int) : goodO (octB a) := by
  have hd := octB_cb a
  refine ⟨rfl, fun j hj => ?_⟩
  match j, hj with
  | 0, _ => rw [hd.1]; omega
  | 1, _ => rw [hd.2.1]; omega
  | 2, _ => rw [hd.2.2.1]; omega
  | 3, _ => rw [hd.2.2.2]; omega
theorem octB_back (a : Int) : oF (octB a) 4 = a % 4096 := by
  have hd := octB_cb a
  have e : oF (octB a) 4 = 512 * (cb (octB a) 0 - 48) + 64 * (cb (octB a) 1 - 48) + 8 * (cb (octB a) 2 - 48) + (cb (octB a) 3 - 48) := by simp only [oF]; omega
  rw [e, hd.1, hd.2.1, hd.2.2.1, hd.2.2.2]
  omega
theorem octB_493 : octB 493 = ⟨#[48, 55, 53, 53]⟩ := by decide +kernel
/-! ### 'or' of what stands apart -/
theorem or_join (x y : Nat) (i : Nat) (hx : x % 2 ^ i = 0) (hy : y < 2 ^ i) (h1 : x + y < 9223372036854775808) : bits .or .i64 (x : Int) (y : Int) = (x : Int) + (y : Int) := by
  have h1 : (BitVec.ofInt 64 (x : Int)).toNat = x := by rw [ofInt64]; omega
  have h2 : (BitVec.ofInt 64 (y : Int)).toNat = y := by rw [ofInt64]; omega
  show IntKind.i64.wrap ((BitVec.ofInt 64 (x : Int) ||| BitVec.ofInt 64 (y : Int)).toNat : Nat) = _
  rw [BitVec.toNat_or, h1, h2, nat_join i x y hx hy, wrap_small _ (by omega)]
  omega
theorem or_oct (n d : Int) (h0 : 0 ≤ n) (h1 : n ≤ 4096) (d0 : 0 ≤ d) (d1 : d < 8) : bits .or .i64 (n * 8) d = 8 * n + d := by
  have e1 : n * 8 = ((n * 8).toNat : Int) := by omega
  have e2 : d = (d.toNat : Int) := by omega
  rw [e1, e2, or_join _ _ 3 (by omega) (by omega) (by omega)]
  omega
end Go.Proofs.Yteojkjhccgnljaa
