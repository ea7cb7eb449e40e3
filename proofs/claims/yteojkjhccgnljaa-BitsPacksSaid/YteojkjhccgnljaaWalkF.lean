/- What the Go functions Right (both) and awake compute: each by a walk through its text; and the walk of the law BitsMasks. -/
import Derived.Test.YteojkjhccgnljaaWalkE
namespace Go.Proofs.Yteojkjhccgnljaa
open Go.ChangeShapes Go.WideShapes Go.ChangeAt Go.RowKit
def rightB (a b c : Int) : Bool := decide (0 ≤ a ∧ a ≤ 4095 ∧ 0 ≤ b ∧ b ≤ 67108863 ∧ 0 ≤ c ∧ c ≤ 67108863)
theorem right_any (a b c : Int) (w : World) :
    Calls Try.prog 17 #[.agg #[.int .i64 a, .int .i64 b, .int .i64 c]] w fun e w' => e = .returned (.bool (rightB a b c)) ∧ w.alloc (.cells #[.int .i64 a, .int .i64 b, .int .i64 c] 26) = w' := by
  go_enter Try.func17, Try.ntmps17
  go_wp2
  all_goals
    go_ret
    refine ⟨ret_bool ?_, rfl⟩
    unfold rightB
    first | (simp [*]; done) | (simp; omega)
theorem rright_any (a b c : Int) (w : World) :
    Calls Try.prog 18 #[.agg #[.int .i64 a, .int .i64 b, .int .i64 c]] w fun e w' => e = .returned (.bool (rightB a b c)) ∧ w.alloc (.cells #[.int .i64 a, .int .i64 b, .int .i64 c] 26) = w' := by
  go_enter Try.func18, Try.ntmps18
  go_wp2
  all_goals
    go_ret
    refine ⟨ret_bool ?_, rfl⟩
    unfold rightB
    first | (simp [*]; done) | (simp; omega)
theorem oct_493 (w : World) : Calls Try.prog 21 #[.int .i64 493] w fun e w' => e = .returned (.string ⟨#[48, 55, 53, 53]⟩) ∧ Below w.heap.size w w' := by
  rw [← octB_493]; exact octal_any 493 w
theorem rwx_493 (w : World) : Calls Try.prog 35 #[.int .i64 493] w fun e w' => e = .returned (.string ⟨#[114, 119, 120, 114, 45, 120, 114, 45, 120]⟩) ∧ Below w.heap.size w w' := by
  rw [← rwxB_493]; exact rwx_any 493 w
theorem sum_0 (w : World) : Calls Try.prog 30 #[.string ⟨#[]⟩] w fun e w' => e = .returned (.string ⟨#[99, 98, 102, 50, 57, 99, 101, 52, 56, 52, 50, 50, 50, 51, 50, 53]⟩) ∧ Below w.heap.size w w' := by
  rw [← sumB_empty]; exact sum_any _ (by decide) w
theorem text_7 (w : World) : Calls Try.prog 39 #[.int .i64 (-7)] w fun e w' => e = .returned (.string ⟨#[45, 55]⟩) ∧ Below w.heap.size w w' := by
  rw [← textB_7]; exact text_any _ (by unfold isI64; omega) w
theorem bel_trans {w w1 w2 : World} (h : Below w.heap.size w w1) (k : Below w1.heap.size w1 w2) : Below w.heap.size w w2 := h.trans (k.mono h.size)
theorem awake_any (w : World) : Calls Try.prog 12 #[] w fun e w' => e = .returned (.bool true) ∧ Below w.heap.size w w' := by
  go_enter Try.func12, Try.ntmps12
  go_wp2_with (first | (go_at_call 21; refine (oct_493 _).mono ?_; rintro e w1 ⟨rfl, hb1⟩) | (go_at_call 35; refine (rwx_493 _).mono ?_; rintro e w2 ⟨rfl, hb2⟩) | (go_at_call 30; refine (sum_0 _).mono ?_; rintro e w3 ⟨rfl, hb3⟩) | (go_at_call 39; refine (text_7 _).mono ?_; rintro e w4 ⟨rfl, hb4⟩) | (go_at_call 17; refine (right_any _ _ _ _).mono ?_; rintro e w5 ⟨rfl, rfl⟩))
  go_ret
  exact ⟨rfl, (bel_trans (bel_trans (bel_trans hb1 hb2) hb3) hb4).alloc (Nat.le_trans (bel_trans (bel_trans (bel_trans hb1 hb2) hb3) hb4).size (Nat.le_refl _)) _⟩
end Go.Proofs.Yteojkjhccgnljaa
