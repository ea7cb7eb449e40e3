/- Plain facts on the digits of ints: no program in sight. -/
import Derived.Test.YteojkjhccgnljaaPlainD
namespace Go.Proofs.Yteojkjhccgnljaa
open Go.RowKit

/-! ### A number's digits -/
def tk (u : Int) (k : Nat) : Int := u / 10 ^ k
theorem tk_zero (u : Int) : tk u 0 = u := by unfold tk; simp
theorem tk_succ (u : Int) (k : Nat) : tk u (k + 1) = tk u k / 10 := by
  unfold tk; rw [Int.pow_succ, Int.ediv_ediv_of_nonneg (Int.le_of_lt (Int.pow_pos (by decide)))]
theorem tk_nonneg (u : Int) (k : Nat) (h : 0 ≤ u) : 0 ≤ tk u k := Int.ediv_nonneg h (Int.le_of_lt (Int.pow_pos (by decide)))
theorem tk_le (u : Int) (k : Nat) (h : isU64 u) : tk u k ≤ 18446744073709551615 := by
  have := Int.ediv_le_self (10 ^ k) h.1
  have h1 := h.2
  unfold tk; omega
theorem tk_20 (u : Int) (h : isU64 u) : tk u 20 = 0 := by
  have h10 : (10 : Int) ^ 20 = 100000000000000000000 := by decide
  have h0 := h.1
  have h1 := h.2
  unfold tk; rw [h10]; omega
theorem tk_19 (u : Int) (h0 : 0 ≤ u) (h : u ≤ 9223372036854775808) : tk u 19 = 0 := by
  have h10 : (10 : Int) ^ 19 = 10000000000000000000 := by decide
  unfold tk; rw [h10]; omega
def dc (d : Int) : UInt8 := UInt8.ofNat (48 + d).toNat
theorem dc_val (d : Int) (h0 : 0 ≤ d) (h1 : d < 10) : ((dc d).toNat : Int) = 48 + d := byte_of _ (by omega) (by omega)
/-- The last k digits. -/
def tT (u : Int) : Nat → List UInt8
  | 0 => []
  | k + 1 => dc (tk u k % 10) :: tT u k
theorem tT_succ (u : Int) (k : Nat) : tT u (k + 1) = dc (tk u k % 10) :: tT u k := rfl
theorem tT_length (u : Int) (k : Nat) : (tT u k).length = k := by
  induction k with
  | zero => rfl
  | succ k ih => rw [tT_succ, List.length_cons, ih]
theorem tT_get (u : Int) : ∀ (n k : Nat) (h : k < n), (tT u n)[k]'(by rw [tT_length]; exact h) = dc (tk u (n - 1 - k) % 10)
  | n + 1, 0, _ => rfl
  | n + 1, k + 1, h => by
    have := tT_get u n k (by omega)
    simp only [tT_succ, List.getElem_cons_succ]
    rw [this]
    congr 3
    omega
/-- How many digits: one at least, no zero ahead. -/
def isN (u : Int) (k : Nat) : Prop := 1 ≤ k ∧ k ≤ 20 ∧ tk u k = 0 ∧ ∀ j, 1 ≤ j → j < k → 0 < tk u j
theorem isN_one {u : Int} {k n : Nat} (h : isN u k) (h' : isN u n) : k = n := by
  obtain ⟨a1, a2, a3, a4⟩ := h
  obtain ⟨b1, b2, b3, b4⟩ := h'
  rcases Nat.lt_trichotomy k n with h | h | h
  · have := b4 k a1 h; omega
  · exact h
  · have := a4 n b1 h; omega
/-- The first k, from k on, at which nothing is left. -/
def ndF (u : Int) : Nat → Nat → Nat
  | 0, k => k
  | d + 1, k => if tk u k = 0 then k else ndF u d (k + 1)
theorem isN_from (u : Int) (hu : isU64 u) : ∀ (d k : Nat), k + d = 20 → 1 ≤ k → (∀ j, 1 ≤ j → j < k → 0 < tk u j) → isN u (ndF u d k) := by
  intro d
  induction d with
  | zero =>
    intro k hk h1 ha
    obtain rfl : k = 20 := by omega
    show isN u 20
    exact ⟨by decide, by decide, tk_20 u hu, ha⟩
  | succ d ih =>
    intro k hk h1 ha
    by_cases h : tk u k = 0
    · have e : ndF u (d + 1) k = k := by show (if tk u k = 0 then k else ndF u d (k + 1)) = k; rw [if_pos h]
      rw [e]
      exact ⟨h1, by omega, h, ha⟩
    · have hn := tk_nonneg u k hu.1
      have e : ndF u (d + 1) k = ndF u d (k + 1) := by show (if tk u k = 0 then k else ndF u d (k + 1)) = _; rw [if_neg h]
      rw [e]
      refine ih (k + 1) (by omega) (by omega) (fun j hj1 hj2 => ?_)
      by_cases e : j = k
      · subst e; omega
      · exact ha j hj1 (by omega)
def nd (u : Int) : Nat := ndF u 19 1
theorem nd_isN (u : Int) (hu : isU64 u) : isN u (nd u) := isN_from u hu 19 1 rfl (by omega) (fun j h1 h2 => by omega)
theorem nd_of {u : Int} {k : Nat} (hu : isU64 u) (h : isN u k) : nd u = k := isN_one (nd_isN u hu) h
def dgs (u : Int) : List UInt8 := tT u (nd u)
def isI64 (n : Int) : Prop := -9223372036854775808 ≤ n ∧ n ≤ 9223372036854775807
def mag (n : Int) : Int := if n < 0 then -n else n
theorem mag_u64 (n : Int) (h : isI64 n) : isU64 (mag n) := by unfold isI64 at h; unfold mag isU64; split <;> omega
theorem mag_bd (n : Int) (h : isI64 n) : 0 ≤ mag n ∧ mag n ≤ 9223372036854775808 := by unfold isI64 at h; unfold mag; split <;> omega
def textB (n : Int) : ByteArray := strL (if n < 0 then 45 :: dgs (mag n) else dgs (mag n))
theorem nd_19 (n : Int) (h : isI64 n) : 1 ≤ nd (mag n) ∧ nd (mag n) ≤ 19 := by
  have h1 := nd_isN _ (mag_u64 n h)
  have h2 := mag_bd n h
  refine ⟨h1.1, ?_⟩
  by_cases e : nd (mag n) ≤ 19
  · exact e
  · have := h1.2.2.2 19 (by omega) (by omega)
    rw [tk_19 _ h2.1 h2.2] at this
    omega
def offI (n : Int) : Nat := if n < 0 then 1 else 0
theorem textB_size (n : Int) : (textB n).size = offI n + nd (mag n) := by
  unfold textB offI
  rw [strL_size]
  split
  · rw [List.length_cons]; unfold dgs; rw [tT_length]; omega
  · unfold dgs; rw [tT_length]; omega
theorem textB_cb (n : Int) (k : Nat) (hk : k < nd (mag n)) (h : isI64 n) : cb (textB n) (offI n + k) = 48 + tk (mag n) (nd (mag n) - 1 - k) % 10 := by
  have hl := textB_size n
  have hp := tk_nonneg (mag n) (nd (mag n) - 1 - k) (mag_bd n h).1
  have hd : ((dc (tk (mag n) (nd (mag n) - 1 - k) % 10)).toNat : Int) = 48 + tk (mag n) (nd (mag n) - 1 - k) % 10 := dc_val _ (by omega) (by omega)
  rw [← hd, ← tT_get (mag n) (nd (mag n)) k hk]
  unfold textB offI dgs
  by_cases hn : n < 0
  · rw [if_pos hn, if_pos hn, cb_strL _ (1 + k) (by rw [List.length_cons, tT_length]; omega)]
    congr 2
    rw [List.getElem_cons, dif_neg (by omega)]
    congr 1
    omega
  · rw [if_neg hn, if_neg hn, cb_strL _ (0 + k) (by rw [tT_length]; omega)]
    congr 2
    simp
theorem textB_minus (n : Int) (hn : n < 0) : cb (textB n) 0 = 45 := by
  unfold textB
  rw [if_pos hn, cb_strL _ 0 (by simp)]
  rfl
theorem textB_plus (n : Int) (hn : ¬ n < 0) (h : isI64 n) : cb (textB n) 0 ≠ 45 := by
  have h1 := nd_19 n h
  have h2 := textB_cb n 0 (by omega) h
  have e : offI n + 0 = 0 := by unfold offI; rw [if_neg hn]
  rw [e] at h2
  rw [h2]
  have := tk_nonneg (mag n) (nd (mag n) - 1 - 0) (mag_bd n h).1
  omega
/-- The number of k digits from a place on, as Go's uint64 has it. -/
def dF (s : ByteArray) (o : Nat) : Nat → Int
  | 0 => 0
  | k + 1 => (dF s o k * 10 + (cb s (o + k) - 48)) % 18446744073709551616
theorem dF_succ (s : ByteArray) (o k : Nat) : dF s o (k + 1) = (dF s o k * 10 + (cb s (o + k) - 48)) % 18446744073709551616 := rfl
theorem dF_u64 (s : ByteArray) (o k : Nat) : isU64 (dF s o k) := by
  unfold isU64
  cases k with
  | zero => simp [dF]
  | succ k => rw [dF_succ]; omega
theorem dF_text (n : Int) (h : isI64 n) : ∀ k : Nat, k ≤ nd (mag n) → dF (textB n) (offI n) k = tk (mag n) (nd (mag n) - k) := by
  intro k
  have hN := nd_isN _ (mag_u64 n h)
  induction k with
  | zero => intro _; rw [Nat.sub_zero, hN.2.2.1]; rfl
  | succ k ih =>
    intro hk
    have hp := tk_nonneg (mag n) (nd (mag n) - 1 - k) (mag_bd n h).1
    have hl := tk_le (mag n) (nd (mag n) - 1 - k) (mag_u64 n h)
    rw [dF_succ, ih (by omega), textB_cb n k (by omega) h]
    have e : nd (mag n) - k = (nd (mag n) - 1 - k) + 1 := by omega
    rw [e, tk_succ, show nd (mag n) - (k + 1) = nd (mag n) - 1 - k by omega]
    omega
theorem dF_all (n : Int) (h : isI64 n) : dF (textB n) (offI n) (nd (mag n)) = mag n := by
  rw [dF_text n h _ (Nat.le_refl _), Nat.sub_self, tk_zero]
/-- The int of a text that may be one. -/
def minus (s : ByteArray) : Bool := decide (0 < s.size) && (cb s 0 == 45)
def offS (s : ByteArray) : Nat := if minus s = true then 1 else 0
def valS (s : ByteArray) : Int := if minus s = true then IntKind.i64.wrap (IntKind.u64.wrap (-(dF s 1 (s.size - 1)))) else IntKind.i64.wrap (dF s 0 s.size)
theorem minus_text (n : Int) (h : isI64 n) : minus (textB n) = decide (n < 0) := by
  have h1 := nd_19 n h
  have h2 := textB_size n
  unfold minus
  have : 0 < (textB n).size := by omega
  by_cases hn : n < 0
  · rw [textB_minus n hn]; simp [hn, this]
  · have h3 := textB_plus n hn h
    simp [hn, this, h3]
theorem valS_text (n : Int) (h : isI64 n) : valS (textB n) = n := by
  have h1 := dF_all n h
  have h2 := textB_size n
  unfold valS
  rw [minus_text n h]
  unfold isI64 at h
  by_cases hn : n < 0
  · have e : offI n = 1 := by unfold offI; rw [if_pos hn]
    have em : mag n = -n := by unfold mag; rw [if_pos hn]
    rw [e] at h1 h2
    rw [h2, show 1 + nd (mag n) - 1 = nd (mag n) by omega, h1, em]
    simp only [hn, decide_true, if_true]
    rw [u64_wrap, IntKind.wrap_i64]; omega
  · have e : offI n = 0 := by unfold offI; rw [if_neg hn]
    have em : mag n = n := by unfold mag; rw [if_neg hn]
    rw [e] at h1 h2
    rw [h2, show 0 + nd (mag n) = nd (mag n) by omega, h1, em]
    simp only [hn, decide_false]
    rw [if_neg (by decide), IntKind.wrap_i64]; omega
theorem i64_wrap_bd (z : Int) : isI64 (IntKind.i64.wrap z) := by unfold isI64; rw [IntKind.wrap_i64]; omega
theorem valS_i64 (s : ByteArray) : isI64 (valS s) := by unfold valS; split <;> exact i64_wrap_bd _
/-- A text that an int is written as. -/
def goodI (s : ByteArray) : Prop := textB (valS s) = s
theorem goodI_text (n : Int) (h : isI64 n) : goodI (textB n) := by unfold goodI; rw [valS_text n h]
theorem offS_text (n : Int) (h : isI64 n) : offS (textB n) = offI n := by
  unfold offS offI; rw [minus_text n h]; by_cases hn : n < 0 <;> simp [hn]
theorem goodI_size (s : ByteArray) (h : goodI s) : offS s + 1 ≤ s.size ∧ s.size ≤ offS s + 19 := by
  unfold goodI at h
  have hi := valS_i64 s
  have h1 := nd_19 _ hi
  have h2 := textB_size (valS s)
  have h3 := offS_text _ hi
  rw [h] at h2 h3
  omega
theorem goodI_digit (s : ByteArray) (h : goodI s) (k : Nat) (hk : offS s + k < s.size) : 48 ≤ cb s (offS s + k) ∧ cb s (offS s + k) ≤ 57 := by
  unfold goodI at h
  have hi := valS_i64 s
  have h2 := textB_size (valS s)
  have h3 := offS_text _ hi
  rw [h] at h2 h3
  have h4 := textB_cb (valS s) k (by omega) hi
  rw [h, ← h3] at h4
  have hp := tk_nonneg (mag (valS s)) (nd (mag (valS s)) - 1 - k) (mag_bd _ hi).1
  omega
theorem textB_7 : textB (-7) = ⟨#[45, 55]⟩ := by
  have hN : isN 7 1 := ⟨by omega, by omega, by decide, fun j h1 h2 => by omega⟩
  have hu : isU64 7 := ⟨by decide, by decide⟩
  have hd : nd 7 = 1 := nd_of hu hN
  have hm : mag (-7) = 7 := by decide
  unfold textB
  rw [if_pos (by decide), hm]
  unfold dgs
  rw [hd]
  decide +kernel
/-- What the program's array holds behind k rounds. -/
def txA (u : Int) (k : Nat) : List Int := (List.range 20).map fun j => if 20 - k ≤ j then 48 + tk u (19 - j) % 10 else 0
def txV (u : Int) (k : Nat) : Array Value := ((txA u k).map (Value.int .u8)).toArray
theorem txV_size (u : Int) (k : Nat) : (txV u k).size = 20 := by unfold txV txA; simp
theorem txV_get (u : Int) (k j : Nat) (h : j < 20) : (txV u k)[j]? = some (.int .u8 (if 20 - k ≤ j then 48 + tk u (19 - j) % 10 else 0)) := by
  unfold txV txA; simp [h]
theorem txV_zero (u : Int) : txV u 0 = #[.int .u8 0, .int .u8 0, .int .u8 0, .int .u8 0, .int .u8 0, .int .u8 0, .int .u8 0, .int .u8 0, .int .u8 0, .int .u8 0, .int .u8 0, .int .u8 0, .int .u8 0, .int .u8 0, .int .u8 0, .int .u8 0, .int .u8 0, .int .u8 0, .int .u8 0, .int .u8 0] := by
  rfl
theorem txV_set (u : Int) (a k : Nat) (h : a + 1 + k = 20) : (txV u k).setIfInBounds a (.int .u8 (48 + tk u k % 10)) = txV u (k + 1) := by
  apply Array.ext
  · simp [txV_size]
  · intro i h1 h2
    have hi : i < 20 := by simpa [txV_size] using h2
    apply Option.some.inj
    rw [← Array.getElem?_eq_getElem h1, ← Array.getElem?_eq_getElem h2, txV_get u _ i hi, Array.getElem?_setIfInBounds]
    by_cases e : a = i
    · subst e
      have : 19 - a = k := by omega
      rw [if_pos rfl, if_pos (by rw [txV_size]; exact hi), if_pos (by omega), this]
    · rw [if_neg e, txV_get u k i hi]
      by_cases l : 20 - k ≤ i
      · rw [if_pos l, if_pos (by omega)]
      · rw [if_neg l, if_neg (by omega)]
/-- The last k cells, read. -/
def txZ (u : Int) (k : Nat) : List Int := (List.range k).map fun j => 48 + tk u (k - 1 - j) % 10
theorem txZ_length (u : Int) (k : Nat) : (txZ u k).length = k := by unfold txZ; simp
theorem txZ_get (u : Int) (k j : Nat) (h : j < k) : (txZ u k).getD j 0 = 48 + tk u (k - 1 - j) % 10 := by unfold txZ; simp [List.getD, h]
theorem txZ_str (u : Int) (k : Nat) : (⟨((txZ u k).map fun z => UInt8.ofNat z.toNat).toArray⟩ : ByteArray) = strL (tT u k) := by
  unfold strL
  congr 2
  apply List.ext_getElem
  · simp [txZ_length, tT_length]
  · intro i h1 h2
    rw [tT_length] at h2
    rw [tT_get u k i h2]
    unfold txZ dc
    simp
theorem tx_cell (u : Int) (a k j : Nat) (h : a + k = 20) (hj : j < k) : (txV u k)[a + j]? = some (.int .u8 ((txZ u k).getD j 0)) := by
  have : 19 - (a + j) = k - 1 - j := by omega
  rw [txV_get u k (a + j) (by omega), txZ_get u k j hj, if_pos (by omega), this]
end Go.Proofs.Yteojkjhccgnljaa
