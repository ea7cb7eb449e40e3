/- What the Go functions Bit, Low, Umask (both), pick, run and is compute: each by a walk through its text. -/
import Derived.Test.YteojkjhccgnljaaProg
import Derived.WalkKit
import Derived.ProofKit
import Derived.OpenShut
import Derived.ShutString
import Derived.Laws.Rows
import Derived.Laws.Tables
import Derived.WalkLawsBesides
import Derived.Lib.Hide
import Derived.Test.YteojkjhccgnljaaPlainC
namespace Go.Proofs.Yteojkjhccgnljaa
open Go.ChangeShapes Go.WideShapes Go.ChangeAt Go.RowKit
theorem ret_int {k : IntKind} {a b : Int} (h : a = b) : Ending.returned (.int k a) = .returned (.int k b) := by rw [h]
theorem ret_bool {a b : Bool} (h : a = b) : Ending.returned (.bool a) = .returned (.bool b) := by rw [h]
theorem ret_str {a b : ByteArray} (h : a = b) : Ending.returned (.string a) = .returned (.string b) := by rw [h]

theorem bit_any (a : Int) (k : Nat) (hk : k < 64) (w : World) :
    Calls Try.prog 41 #[.int .i64 a, .int .i64 k] w fun e w' => e = .returned (.bool (bt a k)) ∧ w = w' := by
  go_enter Try.func41, Try.ntmps41
  go_wp2
  go_ret
  exact ⟨ret_bool (bit_walk a k hk), rfl⟩

theorem low_any (a : Int) (n : Nat) (hn : n ≤ 26) (w : World) :
    Calls Try.prog 24 #[.int .i64 a, .int .i64 n] w fun e w' => e = .returned (.int .i64 (lowI a n)) ∧ w = w' := by
  have h0 := lowI_zero a
  have p0 : p2 0 = 1 := rfl
  go_enter Try.func24, Try.ntmps24
  go_wp2
  go_loop [5, 6, 7] (fun out p i => ∃ k : Nat, k ≤ n ∧ i = .int .i64 k ∧ out = .int .i64 (lowI a k) ∧ p = .int .i64 (p2 k)) (fun _ _ i => n - (intOf i).toNat)
  case atStart => exact ⟨0, Nat.zero_le _, rfl, by rw [h0], rfl⟩
  case round =>
    obtain ⟨k, hk, rfl, rfl, rfl⟩ := hrel
    clear h0 p0
    by_cases hlt : k < n
    · have hb := lowI_bd a k
      have hp := p2_pos k
      have hq := p2_le k (by omega)
      have hs := Lib.hid (p2_succ k)
      cases hbt : bt a k
      · have HL := Lib.hid (lowI_no a k hbt)
        have HB := Lib.hid hbt
        go_wp2_with (go_at_call 41; refine (bit_any a k (by omega) _).mono ?_; rintro e w' ⟨rfl, rfl⟩)
        go_round
        case rel => exact ⟨k + 1, by omega, by go_num, by rw [HL.out], by rw [hs.out]⟩
        case measure => simp [intOf]; omega
      · have HL := Lib.hid (lowI_yes a k hbt)
        have HB := Lib.hid hbt
        go_wp2_with (go_at_call 41; refine (bit_any a k (by omega) _).mono ?_; rintro e w' ⟨rfl, rfl⟩)
        go_round
        case rel => exact ⟨k + 1, by omega, by go_num, by rw [HL.out], by rw [hs.out]⟩
        case measure => simp [intOf]; omega
    · go_wp2
      go_ret
      have : k = n := by omega
      subst this
      exact ⟨rfl, rfl⟩

theorem umask_any (a b : Int) (w : World) :
    Calls Try.prog 10 #[.int .i64 a, .int .i64 b] w fun e w' => e = .returned (.int .i64 (um a b)) ∧ w = w' := by
  have h1 := and4095 a
  have h2 := and511 b
  go_enter Try.func10, Try.ntmps10
  go_wp2
  go_ret
  exact ⟨ret_int (andNot_is a b), rfl⟩

theorem pick_any (b : Bool) (x y : ByteArray) (w : World) :
    Calls Try.prog 45 #[.bool b, .string x, .string y] w fun e w' => e = .returned (.string (if b = true then x else y)) ∧ w = w' := by
  cases b
  · go_enter Try.func45, Try.ntmps45
    go_wp2
    go_ret
    exact ⟨rfl, rfl⟩
  · go_enter Try.func45, Try.ntmps45
    go_wp2
    go_ret
    exact ⟨rfl, rfl⟩
theorem run_any (x b : Bool) (lo hi : ByteArray) (w : World) :
    Calls Try.prog 46 #[.bool x, .bool b, .string lo, .string hi] w fun e w' => e = .returned (.string (if b = true then (if x = true then lo else hi) else (if x = true then ⟨#[120]⟩ else ⟨#[45]⟩))) ∧ w = w' := by
  cases b <;> cases x
  all_goals
    go_enter Try.func46, Try.ntmps46
    go_wp2_with (go_at_call 45; refine (pick_any _ _ _ _).mono ?_; rintro e w' ⟨rfl, rfl⟩)
    go_ret
    exact ⟨rfl, rfl⟩
theorem is_any (e : Int) (ok : Bool) (w : World) :
    Calls Try.prog 23 #[.int .i64 e, .bool ok] w fun e' w' => e' = .returned (.bool (if ok = true then e == 0 else e == 2)) ∧ w = w' := by
  cases ok
  · go_enter Try.func23, Try.ntmps23
    go_wp2
    go_ret
    exact ⟨rfl, rfl⟩
  · go_enter Try.func23, Try.ntmps23
    go_wp2
    go_ret
    exact ⟨rfl, rfl⟩
theorem rumask_any (a b : Int) (w : World) :
    Calls Try.prog 11 #[.int .i64 a, .int .i64 b] w fun e w' => e = .returned (.int .i64 (um a b)) ∧ w = w' := by
  have hz := umI_zero a b
  have hl : lowI a 12 = a % 4096 := rfl
  go_enter Try.func11, Try.ntmps11
  go_wp2_with (go_at_call 24; refine (low_any _ 12 (by decide) _).mono ?_; rintro e w' ⟨rfl, rfl⟩)
  go_loop [5, 6, 7] (fun out p i => ∃ k : Nat, k ≤ 9 ∧ i = .int .i64 k ∧ out = .int .i64 (umI a b k) ∧ p = .int .i64 (p2 k)) (fun _ _ i => 9 - (intOf i).toNat)
  case atStart => exact ⟨0, Nat.zero_le _, rfl, by rw [hz, ← hl], rfl⟩
  case round =>
    obtain ⟨k, hk, rfl, rfl, rfl⟩ := hrel
    clear hz hl
    by_cases hlt : k < 9
    · have hb := umI_bd a b k
      have hb' := umI_bd a b (k + 1)
      have hp := p2_pos k
      have hq := p2_le k (by omega)
      have hs := Lib.hid (p2_succ k)
      cases h1 : bt a k <;> cases h2 : bt b k
      case true.true =>
        have HL := Lib.hid (umI_yes a b k hlt h1 h2)
        have hb2 : 0 ≤ umI a b k - p2 k := by have := HL.out; omega
        clear hb'
        go_wp2_with (first | (go_at_call 41; refine (bit_any _ k (by omega) _).mono ?_; rintro e w' ⟨rfl, rfl⟩))
        go_round
        case rel => exact ⟨k + 1, by omega, by go_num, by rw [HL.out], by rw [hs.out]⟩
        case measure => simp [intOf]; omega
      all_goals
        have HL : Hid (umI a b (k + 1) = umI a b k) := by first | exact umI_no1 a b k hlt h1 | exact umI_no2 a b k hlt h2
        clear hb'
        go_wp2_with (first | (go_at_call 41; refine (bit_any _ k (by omega) _).mono ?_; rintro e w' ⟨rfl, rfl⟩))
        go_round
        case rel => exact ⟨k + 1, by omega, by go_num, by rw [HL.out], by rw [hs.out]⟩
        case measure => simp [intOf]; omega
    · go_wp2
      go_ret
      have : k = 9 := by omega
      subst this
      exact ⟨ret_int (umI_all a b), rfl⟩
end Go.Proofs.Yteojkjhccgnljaa
