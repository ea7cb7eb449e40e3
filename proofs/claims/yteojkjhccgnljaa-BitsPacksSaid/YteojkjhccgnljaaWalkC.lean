/- What the Go functions RotateLeft64, Hex, Sum and ParseHex (both of each) compute: each by a walk through its text. -/
import Derived.Test.YteojkjhccgnljaaWalkB
import Derived.Test.YteojkjhccgnljaaPlainD
namespace Go.Proofs.Yteojkjhccgnljaa
open Go.ChangeShapes Go.WideShapes Go.ChangeAt Go.RowKit
theorem rotl_any (x k : Int) (hx : isU64 x) (k0 : 0 ≤ k) (k1 : k ≤ 64) (w : World) :
    Calls Try.prog 42 #[.int .u64 x, .int .i64 k] w fun e w' => e = .returned (.int .u64 (rotI x k)) ∧ w = w' := by
  have hk : bits .and .u64 k 63 = k % 64 := by
    obtain ⟨n, rfl⟩ : ∃ n : Nat, k = n := ⟨k.toNat, by omega⟩
    have := u64_and_nat n 63 (by omega) (by decide)
    rw [show ((63 : Nat) : Int) = 63 from rfl] at this
    rw [this, nat_mask6]; omega
  have hx0 := hx.1
  have hj : 0 ≤ k % 64 ∧ k % 64 < 64 := by omega
  go_enter Try.func42, Try.ntmps42
  go_wp2
  go_ret
  exact ⟨ret_int rfl, rfl⟩
set_option maxRecDepth 100000 in
theorem hex_any (x : Int) (hx : isU64 x) (w : World) :
    Calls Try.prog 29 #[.int .u64 x] w fun e w' => e = .returned (.string (hexB x)) ∧ Below w.heap.size w w' := by
  have hz := hexV_zero x
  have HX := Lib.hid hx
  have hx0 := hx.1
  clear hx
  have hg := get_cb ⟨#[48, 49, 50, 51, 52, 53, 54, 55, 56, 57, 97, 98, 99, 100, 101, 102]⟩
  go_enter Try.func29, Try.ntmps29
  go_wp2
  go_loopw [5] (fun i wr => ∃ k : Nat, k ≤ 16 ∧ i = .int .i64 k ∧ wr = w.alloc (.cells (hexV x k) 53)) (fun i _ => 16 - (intOf i).toNat)
  case atStart => exact ⟨0, Nat.zero_le _, rfl, by rw [hz]⟩
  case round =>
    obtain ⟨k, hk, rfl, rfl⟩ := hrel
    clear hz
    by_cases hlt : k < 16
    · have hlow := Lib.hid (rot_low x HX.out k hlt)
      have hxk := xk_nonneg x (15 - k) hx0
      have hdig := digit_at (xk x (15 - k) % 16) (by omega) (by omega)
      have hcell := hexV_get x k k (by omega)
      have hset := Lib.hid (hexV_set x k hlt)
      go_wp2_with (go_at_call 42; refine (rotl_any x _ HX.out (by omega) (by omega) _).mono ?_; rintro e w' ⟨rfl, rfl⟩; have hl := hlow.out)
      go_roundw
      case rel => exact ⟨k + 1, by omega, by go_num, by rw [hset.out]⟩
      case measure => simp [intOf]; omega
    · have hk16 : k = 16 := by omega
      subst hk16
      clear hg
      have hcv := conv_bytes (w.alloc (.cells (hexV x 16) 53)) w.heap.size 0 16 16 (hexA x 16) (hexA_length x 16) (fun j hj => by
        rw [cell_of_row _ w.heap.size (0 + j) _ 53 (0, 0) (heap_new _ _ _), Nat.zero_add, hexV_get x 16 j hj, hexA_get x 16 j hj])
      have hA := Lib.hid (hexA_all x)
      go_wp2
      go_ret
      exact ⟨ret_str hA.out, (Below.refl _ _).alloc (Nat.le_refl _) _⟩
theorem sum_any (s : ByteArray) (hs : s.size ≤ maxLen) (w : World) :
    Calls Try.prog 30 #[.string s] w fun e w' => e = .returned (.string (sumB s)) ∧ Below w.heap.size w w' := by
  unfold maxLen at hs
  have hg := get_cb s
  have h0 : fnv s 0 = fnv0 := rfl
  have h00 : fnv0 = 14695981039346656037 := rfl
  go_enter Try.func30, Try.ntmps30
  go_wp2
  go_loop [3, 7] (fun x i => ∃ k : Nat, k ≤ s.size ∧ i = .int .i64 k ∧ x = .int .u64 (fnv s k)) (fun _ i => s.size - (intOf i).toNat)
  case atStart => exact ⟨0, Nat.zero_le _, rfl, by rw [h0, h00]⟩
  case round =>
    obtain ⟨k, hk, rfl, rfl⟩ := hrel
    clear h0 h00
    by_cases hlt : k < s.size
    · have hb := cb_bd s k
      have hf0 := (fnv_u64 s k).1
      have hsu := Lib.hid (fnv_succ s k)
      go_wp2
      go_round
      case rel => exact ⟨k + 1, by omega, by go_num, by rw [hsu.out]⟩
      case measure => simp [intOf]; omega
    · have hks : k = s.size := by omega
      subst hks
      clear hg
      go_wp2_with (go_at_call 29; refine (hex_any _ (fnv_u64 _ _) _).mono ?_; rintro e w' ⟨rfl, hb⟩)
      go_ret
      exact ⟨rfl, hb⟩
theorem xk_le (x : Int) (k : Nat) (hx : isU64 x) : xk x k ≤ 18446744073709551615 := by
  have := Int.ediv_le_self (16 ^ k) hx.1
  have h1 := hx.2
  unfold xk; omega
theorem rhex_any (x : Int) (hx : isU64 x) (w : World) :
    Calls Try.prog 32 #[.int .u64 x] w fun e w' => e = .returned (.string (hexB x)) ∧ w = w' := by
  have HX := Lib.hid hx
  have hx0 := hx.1
  have hk0 := xk_zero x
  clear hx
  go_enter Try.func32, Try.ntmps32
  go_wp2
  go_loop [0, 3, 4] (fun y s i => ∃ k : Nat, k ≤ 16 ∧ i = .int .i64 k ∧ s = .string (strL (hexT x k)) ∧ y = .int .u64 (xk x k)) (fun _ _ i => 16 - (intOf i).toNat)
  case atStart => exact ⟨0, Nat.zero_le _, rfl, rfl, by rw [hk0]⟩
  case round =>
    obtain ⟨k, hk, rfl, rfl, rfl⟩ := hrel
    clear hk0
    by_cases hlt : k < 16
    · have hxk := xk_nonneg x k hx0
      have hxl := xk_le x k HX.out
      have hsz : (strL (hexT x k)).size ≤ 16 := by rw [strL_size, hexT_length]; omega
      have hsu := Lib.hid (xk_succ x k)
      have HC := Lib.hid (strL_cons (hc (xk x k % 16)) (hexT x k))
      by_cases hd : xk x k % 16 < 10
      · have he : Utf8.encode (48 + xk x k % 16) = ⟨#[hc (xk x k % 16)]⟩ := by
          rw [enc_ascii _ (by omega) (by omega)]; unfold hc hv; rw [if_pos hd]
        go_wp2
        go_round
        case rel => exact ⟨k + 1, by omega, by go_num, by rw [HC.out]; rfl, by rw [hsu.out]⟩
        case measure => simp [intOf]; omega
      · have he : Utf8.encode (97 + xk x k % 16 - 10) = ⟨#[hc (xk x k % 16)]⟩ := by
          rw [enc_ascii _ (by omega) (by omega)]; unfold hc hv; rw [if_neg hd]; congr 4; omega
        go_wp2
        go_round
        case rel => exact ⟨k + 1, by omega, by go_num, by rw [HC.out]; rfl, by rw [hsu.out]⟩
        case measure => simp [intOf]; omega
    · have hk16 : k = 16 := by omega
      subst hk16
      go_wp2
      go_ret
      exact ⟨rfl, rfl⟩
theorem rsum_any (s : ByteArray) (hs : s.size ≤ maxLen) (w : World) :
    Calls Try.prog 31 #[.string s] w fun e w' => e = .returned (.string (sumB s)) ∧ w = w' := by
  unfold maxLen at hs
  have hg := get_cb s
  have h0 : fnv s 0 = fnv0 := rfl
  have h00 : fnv0 = 14695981039346656037 := rfl
  go_enter Try.func31, Try.ntmps31
  go_wp2
  go_loop [3, 4] (fun x i => ∃ k : Nat, k ≤ s.size ∧ i = .int .i64 k ∧ x = .int .u64 (fnv s k)) (fun _ i => s.size - (intOf i).toNat)
  case atStart => exact ⟨0, Nat.zero_le _, rfl, by rw [h0, h00]⟩
  case round =>
    obtain ⟨k, hk, rfl, rfl⟩ := hrel
    clear h0 h00
    by_cases hlt : k < s.size
    · have hb := cb_bd s k
      have hf0 := (fnv_u64 s k).1
      have hsu := Lib.hid (fnv_succ s k)
      go_wp2
      go_round
      case rel => exact ⟨k + 1, by omega, by go_num, by rw [hsu.out]⟩
      case measure => simp [intOf]; omega
    · have hks : k = s.size := by omega
      subst hks
      clear hg
      go_wp2_with (go_at_call 32; refine (rhex_any _ (fnv_u64 _ _) _).mono ?_; rintro e w' ⟨rfl, rfl⟩)
      go_ret
      exact ⟨rfl, rfl⟩
theorem xF_lt (s : ByteArray) (k : Nat) (hk : k ≤ 15) (h : okX s k) : xF s k < 1152921504606846976 := by
  have h1 := (xF_bd s k h).2
  have h2 : p16 k ≤ 1152921504606846976 := by
    have h1 : (16 : Nat) ^ k ≤ 16 ^ 15 := Nat.pow_le_pow_right (by decide) hk
    have h2 : p16 k = ((16 ^ k : Nat) : Int) := by unfold p16; simp
    rw [h2]
    have h3 : (16 : Nat) ^ 15 = 1152921504606846976 := by decide
    rw [h3] at h1
    generalize (16 : Nat) ^ k = q at *
    omega
  omega
theorem hu_dig (c : Int) (h : c ≤ 57) : hu c = c - 48 := by unfold hu; rw [if_neg (by omega)]
theorem hu_let (c : Int) (h : 97 ≤ c) : hu c = c - 97 + 10 := by unfold hu; rw [if_pos (by omega)]; omega
/-- What a reader of sixteen digits tells. -/
def PHex (s : ByteArray) (w : World) (e : Ending) (w' : World) : Prop :=
  (goodX s → e = .returned (.tuple #[.int .u64 (xF s 16), .int .i64 0])) ∧ (¬ goodX s → e = .returned (.tuple #[.int .u64 0, .int .i64 2])) ∧ w = w'
theorem phex_any (s : ByteArray) (hs : s.size ≤ maxLen) (w : World) : Calls Try.prog 27 #[.string s] w (PHex s w) := by
  unfold maxLen at hs
  have hg := get_cb s
  by_cases h4 : s.size = 16
  · have H4 := Lib.hid h4
    have h4b : ((s.size : Int) != 16) = false := by rw [h4]; rfl
    have h5 : s.size ≤ 16 := by omega
    have h6 : 16 ≤ s.size := by omega
    clear h4
    go_enter Try.func27, Try.ntmps27
    go_wp2
    go_loop [4, 12] (fun n i => ∃ k : Nat, k ≤ 16 ∧ okX s k ∧ i = .int .i64 k ∧ n = .int .u64 (xF s k)) (fun _ i => 16 - (intOf i).toNat)
    case atStart => exact ⟨0, Nat.zero_le _, okX_zero s, rfl, rfl⟩
    case round =>
      obtain ⟨k, hk, hok, rfl, rfl⟩ := hrel
      have HO := Lib.hid hok
      clear hok
      by_cases hlt : k < 16
      · have hb := (xF_bd s k HO.out).1
        have hb2 := xF_lt s k (by omega) HO.out
        have hcc := cb_bd s k
        have hks : k < s.size := by omega
        have hsu := Lib.hid (xF_succ s k)
        by_cases g1 : 48 ≤ cb s k ∧ cb s k ≤ 57
        · have HG : Hid (goodC (cb s k)) := Or.inl g1
          have HU : Hid (hu (cb s k) = cb s k - 48) := hu_dig _ g1.2
          obtain ⟨g1, g2⟩ := g1
          have ho := or_hex (xF s k) (cb s k - 48) hb hb2 (by omega) (by omega)
          go_wp2
          go_round
          case rel => exact ⟨k + 1, by omega, okX_succ s k HO.out HG.out, by go_num, by rw [hsu.out, HU.out]⟩
          case measure => simp [intOf]; omega
        · by_cases g3 : 97 ≤ cb s k ∧ cb s k ≤ 102
          · have HG : Hid (goodC (cb s k)) := Or.inr g3
            have HU : Hid (hu (cb s k) = cb s k - 97 + 10) := hu_let _ g3.1
            obtain ⟨g3, g4⟩ := g3
            have ho := or_hex (xF s k) (cb s k - 97 + 10) hb hb2 (by omega) (by omega)
            have g5 : 57 < cb s k := by omega
            clear g1
            go_wp2
            go_round
            case rel => exact ⟨k + 1, by omega, okX_succ s k HO.out HG.out, by go_num, by rw [hsu.out, HU.out]⟩
            case measure => simp [intOf]; omega
          · have HNO : Hid (¬ goodX s) := fun h => (h.2 k hlt).elim (fun h => g1 h) (fun h => g3 h)
            rcases (show cb s k < 48 ∨ (57 < cb s k ∧ cb s k < 97) ∨ 102 < cb s k by omega) with g | ⟨g, g'⟩ | g
            all_goals
              clear g1 g3
              go_wp2
              go_ret2
              exact ⟨fun h => absurd h HNO.out, fun _ => rfl, rfl⟩
      · have hk4 : k = 16 := by omega
        subst hk4
        clear hg
        go_wp2
        go_ret2
        exact ⟨fun _ => rfl, fun h => absurd ⟨H4.out, HO.out⟩ h, rfl⟩
  · have h4b : ((s.size : Int) != 16) = true := by rw [bne_iff_ne]; omega
    have HNO := Lib.hid (show ¬ goodX s from fun h => h4 h.1)
    clear hg h4
    go_enter Try.func27, Try.ntmps27
    go_wp2
    go_ret2
    exact ⟨fun h => absurd h HNO.out, fun _ => rfl, rfl⟩
theorem rX_let (s : ByteArray) (k : Nat) (h : 97 ≤ cb s k) : rX s (k + 1) = IntKind.u64.wrap (IntKind.u64.wrap (16 * rX s k) + (cb s k - 87)) := by
  have : hu (cb s k) = cb s k - 87 := by unfold hu; rw [if_pos (by omega)]
  rw [rX_succ, this, u64_wrap, u64_wrap]; omega
theorem rX_dig (s : ByteArray) (k : Nat) (h : cb s k < 97) : rX s (k + 1) = IntKind.u64.wrap (IntKind.u64.wrap (16 * rX s k) + (cb s k - 48)) := by
  have : hu (cb s k) = cb s k - 48 := by unfold hu; rw [if_neg (by omega)]
  rw [rX_succ, this, u64_wrap, u64_wrap]; omega
theorem rX_low (s : ByteArray) (k : Nat) (h : cb s k < 97) : rX s (k + 1) = IntKind.u64.wrap (IntKind.u64.wrap (16 * rX s k) + IntKind.u64.wrap (cb s k - 48)) := by
  have : hu (cb s k) = cb s k - 48 := by unfold hu; rw [if_neg (by omega)]
  rw [rX_succ, this, u64_wrap, u64_wrap, u64_wrap]; omega
def RPHex (s : ByteArray) (w : World) (e : Ending) (w' : World) : Prop :=
  (goodX s → e = .returned (.tuple #[.int .u64 (xF s 16), .bool true])) ∧ (¬ goodX s → e = .returned (.tuple #[.int .u64 0, .bool false])) ∧ w = w'
theorem rphex_any (s : ByteArray) (hs : s.size ≤ maxLen) (w : World) : Calls Try.prog 28 #[.string s] w (RPHex s w) := by
  unfold maxLen at hs
  have hg := get_cb s
  by_cases h4 : s.size = 16
  · have H4 := Lib.hid h4
    have h4b : ((s.size : Int) != 16) = false := by rw [h4]; rfl
    have h5 : s.size ≤ 16 := by omega
    have h6 : 16 ≤ s.size := by omega
    clear h4
    go_enter Try.func28, Try.ntmps28
    go_wp2
    go_loop [4, 5, 6] (fun n i _ => ∃ k : Nat, k ≤ 16 ∧ i = .int .i64 k ∧ n = .int .u64 (rX s k)) (fun _ i _ => 16 - (intOf i).toNat)
    case atStart => exact ⟨0, Nat.zero_le _, rfl, rfl⟩
    case round =>
      obtain ⟨k, hk, rfl, rfl⟩ := hrel
      by_cases hlt : k < 16
      · have hb := (rX_u64 s k).1
        have hcc := cb_bd s k
        have hks : k < s.size := by omega
        have hsu := Lib.hid (rX_succ s k)
        by_cases g1 : 97 ≤ cb s k
        · have HR := Lib.hid (rX_let s k g1)
          go_wp2
          go_round
          case rel => exact ⟨k + 1, by omega, by go_num, by rw [HR.out]⟩
          case measure => simp [intOf]; omega
        · by_cases g2 : 48 ≤ cb s k
          · have HR := Lib.hid (rX_dig s k (by omega))
            go_wp2
            go_round
            case rel => exact ⟨k + 1, by omega, by go_num, by rw [HR.out]⟩
            case measure => simp [intOf]; omega
          · have HR := Lib.hid (rX_low s k (by omega))
            go_wp2
            go_round
            case rel => exact ⟨k + 1, by omega, by go_num, by rw [HR.out]⟩
            case measure => simp [intOf]; omega
      · have hk4 : k = 16 := by omega
        subst hk4
        clear hg
        by_cases hgood : goodX s
        · have HE := Lib.hid (rX_good s 16 (by omega) hgood.2)
          have heq := str_eq (HE.out.symm ▸ hexB_read s hgood : hexB (rX s 16) = s)
          have HG := Lib.hid hgood
          clear hgood
          go_wp2_with (go_at_call 32; refine (rhex_any _ (rX_u64 _ _) _).mono ?_; rintro e w' ⟨rfl, rfl⟩)
          go_ret2
          exact ⟨fun _ => by rw [← HE.out]; rfl, fun h => absurd HG.out h, rfl⟩
        · have heq := str_ne (a := hexB (rX s 16)) (b := s) (fun e => hgood (e ▸ hexB_good _))
          have HG := Lib.hid hgood
          clear hgood
          go_wp2_with (go_at_call 32; refine (rhex_any _ (rX_u64 _ _) _).mono ?_; rintro e w' ⟨rfl, rfl⟩)
          go_ret2
          exact ⟨fun h => absurd h HG.out, fun _ => rfl, rfl⟩
  · have h4b : ((s.size : Int) != 16) = true := by rw [bne_iff_ne]; omega
    have HNO := Lib.hid (show ¬ goodX s from fun h => h4 h.1)
    clear hg h4
    go_enter Try.func28, Try.ntmps28
    go_wp2
    go_ret2
    exact ⟨fun h => absurd h HNO.out, fun _ => rfl, rfl⟩
end Go.Proofs.Yteojkjhccgnljaa
