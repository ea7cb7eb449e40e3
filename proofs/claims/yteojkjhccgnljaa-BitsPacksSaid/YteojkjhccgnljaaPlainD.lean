/- Plain facts on texts of sixteen digits and on sums: no program in sight. -/
import Derived.Test.YteojkjhccgnljaaPlainC
namespace Go.Proofs.Yteojkjhccgnljaa
open Go.RowKit

/-- A text of these bytes. -/
def strL (l : List UInt8) : ByteArray := ⟨l.toArray⟩
theorem strL_size (l : List UInt8) : (strL l).size = l.length := by
  show l.toArray.size = l.length
  simp
theorem strL_cons (c : UInt8) (l : List UInt8) : (⟨#[c]⟩ : ByteArray) ++ strL l = strL (c :: l) := by
  unfold strL; rw [app1]; simp
theorem strL_nil : strL [] = ⟨#[]⟩ := rfl
theorem cb_strL (l : List UInt8) (k : Nat) (h : k < l.length) : cb (strL l) k = ((l[k]'h).toNat : Int) := by
  unfold strL; rw [cb_arr _ k (by simpa using h)]; simp

/-! ### Sixteen digits -/
def hv (d : Int) : Int := if d < 10 then 48 + d else 87 + d
def hc (d : Int) : UInt8 := UInt8.ofNat (hv d).toNat
def xk (x : Int) (k : Nat) : Int := x / 16 ^ k
theorem xk_zero (x : Int) : xk x 0 = x := by unfold xk; simp
theorem xk_succ (x : Int) (k : Nat) : xk x (k + 1) = xk x k / 16 := by
  unfold xk; rw [Int.pow_succ, Int.ediv_ediv_of_nonneg (Int.le_of_lt (Int.pow_pos (by decide)))]
theorem xk_nonneg (x : Int) (k : Nat) (h : 0 ≤ x) : 0 ≤ xk x k := Int.ediv_nonneg h (Int.le_of_lt (Int.pow_pos (by decide)))
theorem hv_bd (d : Int) (h0 : 0 ≤ d) (h1 : d < 16) : 48 ≤ hv d ∧ hv d ≤ 102 := by unfold hv; split <;> omega
theorem hc_val (d : Int) (h0 : 0 ≤ d) (h1 : d < 16) : ((hc d).toNat : Int) = hv d := by
  have := hv_bd d h0 h1
  exact byte_of _ (by omega) (by omega)
/-- The last k digits. -/
def hexT (x : Int) : Nat → List UInt8
  | 0 => []
  | k + 1 => hc (xk x k % 16) :: hexT x k
theorem hexT_succ (x : Int) (k : Nat) : hexT x (k + 1) = hc (xk x k % 16) :: hexT x k := rfl
theorem hexT_length (x : Int) (k : Nat) : (hexT x k).length = k := by
  induction k with
  | zero => rfl
  | succ k ih => rw [hexT_succ, List.length_cons, ih]
def hexB (x : Int) : ByteArray := strL (hexT x 16)
theorem hexB_size (x : Int) : (hexB x).size = 16 := by unfold hexB; rw [strL_size, hexT_length]
theorem hexT_get (x : Int) : ∀ (n k : Nat) (h : k < n), (hexT x n)[k]'(by rw [hexT_length]; exact h) = hc (xk x (n - 1 - k) % 16)
  | n + 1, 0, _ => rfl
  | n + 1, k + 1, h => by
    have := hexT_get x n k (by omega)
    simp only [hexT_succ, List.getElem_cons_succ]
    rw [this]
    congr 3
    omega
theorem hexB_cb (x : Int) (k : Nat) (h : k < 16) : cb (hexB x) k = hv (xk x (15 - k) % 16) := by
  unfold hexB
  rw [cb_strL _ k (by rw [hexT_length]; exact h), hexT_get x 16 k h, hc_val _ (by omega) (by omega)]
/-- What the program's array holds behind k rounds. -/
def hexA (x : Int) (k : Nat) : List Int := (List.range 16).map fun j => if j < k then hv (xk x (15 - j) % 16) else 0
def hexV (x : Int) (k : Nat) : Array Value := ((hexA x k).map (Value.int .u8)).toArray
theorem hexA_length (x : Int) (k : Nat) : (hexA x k).length = 16 := by unfold hexA; simp
theorem hexA_get (x : Int) (k j : Nat) (h : j < 16) : (hexA x k).getD j 0 = if j < k then hv (xk x (15 - j) % 16) else 0 := by
  unfold hexA; simp [List.getD, h]
theorem hexV_size (x : Int) (k : Nat) : (hexV x k).size = 16 := by unfold hexV; simp [hexA_length]
theorem hexV_get (x : Int) (k j : Nat) (h : j < 16) : (hexV x k)[j]? = some (.int .u8 (if j < k then hv (xk x (15 - j) % 16) else 0)) := by
  unfold hexV hexA; simp [h]
theorem hexV_zero (x : Int) : hexV x 0 = #[.int .u8 0, .int .u8 0, .int .u8 0, .int .u8 0, .int .u8 0, .int .u8 0, .int .u8 0, .int .u8 0, .int .u8 0, .int .u8 0, .int .u8 0, .int .u8 0, .int .u8 0, .int .u8 0, .int .u8 0, .int .u8 0] := by
  unfold hexV hexA; simp; rfl
theorem hexV_set (x : Int) (k : Nat) (_h : k < 16) : (hexV x k).setIfInBounds k (.int .u8 (hv (xk x (15 - k) % 16))) = hexV x (k + 1) := by
  apply Array.ext
  · simp [hexV_size]
  · intro i h1 h2
    have hi : i < 16 := by simpa [hexV_size] using h2
    apply Option.some.inj
    rw [← Array.getElem?_eq_getElem h1, ← Array.getElem?_eq_getElem h2, hexV_get x _ i hi, Array.getElem?_setIfInBounds]
    by_cases e : k = i
    · subst e; simp [hexV_size, hi]
    · rw [if_neg e, hexV_get x k i hi]
      by_cases l : i < k
      · rw [if_pos l, if_pos (by omega)]
      · rw [if_neg l, if_neg (by omega)]
theorem hexA_all (x : Int) : strL ((hexA x 16).map fun z => UInt8.ofNat z.toNat) = hexB x := by
  unfold hexB; congr 1
/-! ### What is turned round -/
def rotI (x k : Int) : Int := bits .or .u64 (IntKind.u64.wrap (x * 2 ^ (k % 64).toNat)) (x / 2 ^ (64 - k % 64).toNat)
def isU64 (x : Int) : Prop := 0 ≤ x ∧ x < 18446744073709551616
theorem u64_or' (a b : Int) (h1 : 0 ≤ a) (h2 : a < 18446744073709551616) (h3 : 0 ≤ b) (h4 : b < 18446744073709551616) : bits .or .u64 a b = ((a.toNat ||| b.toNat : Nat) : Int) := u64_or a b h1 h2 h3 h4
theorem and15 (y : Nat) (h : y < 18446744073709551616) : bits .and .u64 (y : Int) 15 = (y : Int) % 16 := by
  have := u64_and_nat y 15 h (by decide)
  rw [show ((15 : Nat) : Int) = 15 from rfl] at this
  rw [this, nat_mask4]; omega
theorem rot_low (x : Int) (hx : isU64 x) (j : Nat) (hj : j < 16) : bits .and .u64 (rotI x (4 * (j + 1))) 15 = xk x (15 - j) % 16 := by
  obtain ⟨h0, h1⟩ := hx
  have hq : ∀ n : Nat, 0 ≤ x / 2 ^ n ∧ x / 2 ^ n < 18446744073709551616 := fun n => by
    have hp : (0 : Int) < 2 ^ n := Int.pow_pos (by decide)
    exact ⟨Int.ediv_nonneg h0 (by omega), Int.lt_of_le_of_lt (Int.ediv_le_self _ h0) h1⟩
  have hw : ∀ z : Int, 0 ≤ IntKind.u64.wrap z ∧ IntKind.u64.wrap z < 18446744073709551616 := fun z => by rw [u64_wrap]; omega
  unfold rotI
  generalize hA : IntKind.u64.wrap (x * 2 ^ ((4 * ((j : Int) + 1)) % 64).toNat) = A
  generalize hB : x / 2 ^ (64 - (4 * ((j : Int) + 1)) % 64).toNat = B
  have a1 := hw (x * 2 ^ ((4 * ((j : Int) + 1)) % 64).toNat)
  have b1 := hq (64 - (4 * ((j : Int) + 1)) % 64).toNat
  rw [hA] at a1
  rw [hB] at b1
  have hAl : A.toNat < 2 ^ 64 := by omega
  have hBl : B.toNat < 2 ^ 64 := by omega
  have hor : A.toNat ||| B.toNat < 18446744073709551616 := Nat.or_lt_two_pow hAl hBl
  rw [u64_or' A B a1.1 a1.2 b1.1 b1.2, and15 _ hor]
  have hm := Nat.or_mod_two_pow (a := A.toNat) (b := B.toNat) (n := 4)
  have h16 : (2 : Nat) ^ 4 = 16 := by decide
  rw [h16] at hm
  by_cases e : j = 15
  · subst e
    have e1 : A = x := by
      rw [← hA, u64_wrap]
      have : ((4 * (((15 : Nat) : Int) + 1)) % 64).toNat = 0 := by decide
      rw [this]; simp; omega
    have e2 : B = 0 := by
      rw [← hB]
      have : (64 - (4 * (((15 : Nat) : Int) + 1)) % 64).toNat = 64 := by decide
      rw [this]
      exact Int.ediv_eq_zero_of_lt h0 h1
    rw [e1, e2] 
    simp only [Int.toNat_zero, Nat.or_zero]
    rw [show 15 - 15 = 0 from rfl, xk_zero]; omega
  · have hj2 : j < 15 := by omega
    have e0 : ((4 * ((j : Int) + 1)) % 64).toNat = 4 * j + 4 := by omega
    have e1 : A % 16 = 0 := by
      rw [← hA, u64_wrap, e0, Int.pow_add]
      have : (2 : Int) ^ 4 = 16 := by decide
      rw [this, ← Int.mul_assoc]
      generalize x * 2 ^ (4 * j) = y
      omega
    have e2 : B % 16 = xk x (15 - j) % 16 := by
      rw [← hB]
      have : (64 - (4 * ((j : Int) + 1)) % 64).toNat = 4 * (15 - j) := by omega
      rw [this, Int.pow_mul]
      rfl
    have : A.toNat % 16 = 0 := by omega
    rw [this, Nat.zero_or] at hm
    omega
/-- The sixteen letters. -/
theorem digit_at (d : Int) (h0 : 0 ≤ d) (h1 : d < 16) : cb ⟨#[48, 49, 50, 51, 52, 53, 54, 55, 56, 57, 97, 98, 99, 100, 101, 102]⟩ d.toNat = hv d := by
  obtain ⟨n, rfl⟩ : ∃ n : Nat, d = n := ⟨d.toNat, by omega⟩
  have hn : n < 16 := by omega
  have : ∀ m : Fin 16, cb ⟨#[48, 49, 50, 51, 52, 53, 54, 55, 56, 57, 97, 98, 99, 100, 101, 102]⟩ m.val = hv m.val := by decide +kernel
  exact this ⟨n, hn⟩
/-! ### Sixteen digits, read -/
def hu (c : Int) : Int := if c ≥ 97 then c - 87 else c - 48
def goodC (c : Int) : Prop := (48 ≤ c ∧ c ≤ 57) ∨ (97 ≤ c ∧ c ≤ 102)
theorem hu_bd (c : Int) (h : goodC c) : 0 ≤ hu c ∧ hu c < 16 := by unfold goodC at h; unfold hu; split <;> omega
theorem hv_hu (c : Int) (h : goodC c) : hv (hu c) = c := by unfold goodC at h; unfold hv hu; split <;> split <;> omega
theorem hu_hv (d : Int) (h0 : 0 ≤ d) (h1 : d < 16) : hu (hv d) = d := by unfold hv hu; split <;> split <;> omega
theorem good_hv (d : Int) (h0 : 0 ≤ d) (h1 : d < 16) : goodC (hv d) := by unfold goodC hv; split <;> omega
def p16 (k : Nat) : Int := 16 ^ k
theorem p16_succ (k : Nat) : p16 (k + 1) = 16 * p16 k := by unfold p16; rw [Int.pow_succ, Int.mul_comm]
theorem p16_pos (k : Nat) : 1 ≤ p16 k := by
  unfold p16; have : (0 : Int) < 16 ^ k := Int.pow_pos (by decide)
  omega
theorem p16_le (k : Nat) (h : k ≤ 16) : p16 k ≤ 18446744073709551616 := by
  have h1 : (16 : Nat) ^ k ≤ 16 ^ 16 := Nat.pow_le_pow_right (by decide) h
  have h2 : p16 k = ((16 ^ k : Nat) : Int) := by unfold p16; simp
  rw [h2]
  have h3 : (16 : Nat) ^ 16 = 18446744073709551616 := by decide
  rw [h3] at h1
  generalize (16 : Nat) ^ k = q at *
  omega
def xF (s : ByteArray) : Nat → Int
  | 0 => 0
  | k + 1 => 16 * xF s k + hu (cb s k)
def rX (s : ByteArray) : Nat → Int
  | 0 => 0
  | k + 1 => (16 * rX s k + hu (cb s k)) % 18446744073709551616
theorem xF_succ (s : ByteArray) (k : Nat) : xF s (k + 1) = 16 * xF s k + hu (cb s k) := rfl
theorem rX_succ (s : ByteArray) (k : Nat) : rX s (k + 1) = (16 * rX s k + hu (cb s k)) % 18446744073709551616 := rfl
def okX (s : ByteArray) (k : Nat) : Prop := ∀ j, j < k → goodC (cb s j)
theorem okX_zero (s : ByteArray) : okX s 0 := fun j h => by omega
theorem okX_succ (s : ByteArray) (k : Nat) (h : okX s k) (h1 : goodC (cb s k)) : okX s (k + 1) := fun j hj => by
  by_cases e : j = k
  · subst e; exact h1
  · exact h j (by omega)
theorem okX_le (s : ByteArray) (k n : Nat) (h : okX s n) (hk : k ≤ n) : okX s k := fun j hj => h j (by omega)
theorem xF_bd (s : ByteArray) (k : Nat) (h : okX s k) : 0 ≤ xF s k ∧ xF s k < p16 k := by
  induction k with
  | zero => simp [xF, p16]
  | succ k ih =>
    have h1 := ih (okX_le s k _ h (by omega))
    have h2 := hu_bd _ (h k (by omega))
    rw [xF_succ, p16_succ]; omega
theorem xF_u64 (s : ByteArray) (k : Nat) (hk : k ≤ 16) (h : okX s k) : isU64 (xF s k) := by
  have h1 := xF_bd s k h
  have h2 := p16_le k hk
  exact ⟨h1.1, by omega⟩
theorem rX_u64 (s : ByteArray) (k : Nat) : isU64 (rX s k) := by
  unfold isU64
  cases k with
  | zero => simp [rX]
  | succ k => rw [rX_succ]; omega
theorem rX_good (s : ByteArray) (k : Nat) (hk : k ≤ 16) (h : okX s k) : rX s k = xF s k := by
  induction k with
  | zero => rfl
  | succ k ih =>
    have h1 := xF_u64 s (k + 1) hk h
    unfold isU64 at h1
    rw [rX_succ, ih (by omega) (okX_le s k _ h (by omega)), ← xF_succ]
    omega
theorem xF_up (s : ByteArray) (j : Nat) : ∀ d : Nat, okX s (j + d) → xk (xF s (j + d)) d = xF s j := by
  intro d
  induction d with
  | zero => intro _; exact xk_zero _
  | succ d ih =>
    intro h
    have h1 := hu_bd _ (h (j + d) (by omega))
    have e : xF s (j + (d + 1)) / 16 = xF s (j + d) := by
      rw [show j + (d + 1) = (j + d) + 1 by omega, xF_succ]; omega
    have : xk (xF s (j + (d + 1))) (d + 1) = xk (xF s (j + (d + 1)) / 16) d := by
      unfold xk
      rw [Int.ediv_ediv_of_nonneg (by decide), Int.pow_succ, Int.mul_comm]
    rw [this, e]
    exact ih (okX_le s _ _ h (by omega))
def goodX (s : ByteArray) : Prop := s.size = 16 ∧ okX s 16
theorem hexB_read (s : ByteArray) (h : goodX s) : hexB (xF s 16) = s := by
  obtain ⟨hs, h⟩ := h
  apply ext_cb
  · rw [hexB_size, hs]
  · intro k hk
    rw [hexB_size] at hk
    rw [hexB_cb _ k hk]
    have h1 := xF_up s (k + 1) (15 - k) (okX_le s _ _ h (by omega))
    rw [show k + 1 + (15 - k) = 16 by omega] at h1
    have h2 := hu_bd _ (h k hk)
    rw [h1, xF_succ]
    have : (16 * xF s k + hu (cb s k)) % 16 = hu (cb s k) := by omega
    rw [this, hv_hu _ (h k hk)]
theorem hexB_good (x : Int) : goodX (hexB x) := by
  refine ⟨hexB_size x, fun j hj => ?_⟩
  rw [hexB_cb x j hj]
  exact good_hv _ (by omega) (by omega)
theorem hexB_back (x : Int) (hx : isU64 x) : xF (hexB x) 16 = x := by
  have h16 : xk x 16 = 0 := by
    unfold xk
    have : (16 : Int) ^ 16 = 18446744073709551616 := by decide
    rw [this]; exact Int.ediv_eq_zero_of_lt hx.1 hx.2
  have key : ∀ k : Nat, k ≤ 16 → xF (hexB x) k = xk x (16 - k) := by
    intro k
    induction k with
    | zero => intro _; rw [show 16 - 0 = 16 from rfl, h16]; rfl
    | succ k ih =>
      intro hk
      rw [xF_succ, ih (by omega), hexB_cb x k (by omega), hu_hv _ (by omega) (by omega)]
      have : 16 - k = (15 - k) + 1 := by omega
      rw [this, xk_succ, show 16 - (k + 1) = 15 - k by omega]
      omega
  rw [key 16 (by omega), xk_zero]
theorem or_hex (n d : Int) (h0 : 0 ≤ n) (h1 : n < 1152921504606846976) (d0 : 0 ≤ d) (d1 : d < 16) : bits .or .u64 (n * 16) d = 16 * n + d := by
  rw [u64_or' (n * 16) d (by omega) (by omega) d0 (by omega)]
  rw [nat_join 4 _ _ (by omega) (by omega)]
  omega
/-! ### A text's sum -/
def fnv0 : Int := 14695981039346656037
def fnv (s : ByteArray) : Nat → Int
  | 0 => fnv0
  | k + 1 => IntKind.u64.wrap (bits .xor .u64 (fnv s k) (cb s k) * 1099511628211)
theorem fnv_zero (s : ByteArray) : fnv s 0 = fnv0 := rfl
theorem fnv_succ (s : ByteArray) (k : Nat) : fnv s (k + 1) = IntKind.u64.wrap (bits .xor .u64 (fnv s k) (cb s k) * 1099511628211) := rfl
theorem fnv_u64 (s : ByteArray) (k : Nat) : isU64 (fnv s k) := by
  unfold isU64
  cases k with
  | zero => rw [fnv_zero]; unfold fnv0; omega
  | succ k => rw [fnv_succ, u64_wrap]; omega
def sumB (s : ByteArray) : ByteArray := hexB (fnv s s.size)
theorem sumB_empty : sumB ⟨#[]⟩ = ⟨#[99, 98, 102, 50, 57, 99, 101, 52, 56, 52, 50, 50, 50, 51, 50, 53]⟩ := by decide +kernel
end Go.Proofs.Yteojkjhccgnljaa
