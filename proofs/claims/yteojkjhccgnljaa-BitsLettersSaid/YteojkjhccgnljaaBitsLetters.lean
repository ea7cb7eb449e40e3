/- For every int mode and every text s the law BitsLetters returns true and leaves its arguments as they were: the mode's nine letters are the reference's and read back as its twelve lowest bits, and what is read of s is what the reference reads. No condition. -/
import Derived.Test.YteojkjhccgnljaaRows
import Derived.Test.YteojkjhccgnljaaWalkI
import Derived.WalkKit
import Derived.ProofKit
import Derived.OpenShut
import Derived.ShutString
namespace Go.Proofs.Yteojkjhccgnljaa.bitsLetters
open Go.ChangeShapes Go.WideShapes Go.ChangeAt Go.RowKit
open Go.ChangeMaps (open_string shut_string)
set_option linter.unusedVariables false

theorem own : ownKnob Try.prog.godebug = none := by kernel_rfl

/-! ### The walk -/
theorem prwx_yes (s : ByteArray) (hs : s.size ≤ maxLen) (h : goodR s) (w : World) : Calls Try.prog 33 #[.string s] w fun e w' => e = .returned (.tuple #[.int .i64 ((pN s 9 : Nat) : Int), .int .i64 0]) ∧ Below w.heap.size w w' :=
  (prwx_any s hs w).mono fun _ _ k => ⟨k.1 h, k.2.2⟩
theorem prwx_no (s : ByteArray) (hs : s.size ≤ maxLen) (h : ¬ goodR s) (w : World) : Calls Try.prog 33 #[.string s] w fun e w' => e = .returned (.tuple #[.int .i64 0, .int .i64 2]) ∧ Below w.heap.size w w' :=
  (prwx_any s hs w).mono fun _ _ k => ⟨k.2.1 h, k.2.2⟩
theorem rprwx_yes (s : ByteArray) (hs : s.size ≤ maxLen) (h : goodR s) (w : World) : Calls Try.prog 34 #[.string s] w fun e w' => e = .returned (.tuple #[.int .i64 ((pN s 9 : Nat) : Int), .bool true]) ∧ w = w' :=
  (rprwx_any s hs w).mono fun _ _ k => ⟨k.1 h, k.2.2⟩
theorem rprwx_no (s : ByteArray) (hs : s.size ≤ maxLen) (h : ¬ goodR s) (w : World) : Calls Try.prog 34 #[.string s] w fun e w' => e = .returned (.tuple #[.int .i64 0, .bool false]) ∧ w = w' :=
  (rprwx_any s hs w).mono fun _ _ k => ⟨k.2.1 h, k.2.2⟩
theorem prwx_back (a : Int) (w : World) : Calls Try.prog 33 #[.string (rwxB a)] w fun e w' => e = .returned (.tuple #[.int .i64 (a % 4096), .int .i64 0]) ∧ Below w.heap.size w w' := by
  have := prwx_yes (rwxB a) (by rw [rwxB_size]; decide) (goodR_rwx a) w
  rw [rwx_back] at this
  exact this
theorem low_12 (a : Int) (w : World) : Calls Try.prog 24 #[.int .i64 a, .int .i64 12] w fun e w' => e = .returned (.int .i64 (a % 4096)) ∧ w = w' := low_any a 12 (by decide) w
theorem letters_walk (a : Int) (s : ByteArray) (hs : s.size ≤ maxLen) (w : World) :
    Calls Try.prog 8 #[.int .i64 a, .string s] w fun e w' => e = .returned (.bool true) ∧ Below w.heap.size w w' := by
  have HS := Lib.hid hs
  unfold maxLen at hs
  by_cases hl : 1000 < s.size
  · go_enter Try.func8, Try.ntmps8
    go_wp2_with (go_at_call 12; refine (awake_any _).mono ?_; rintro e w1 ⟨rfl, hb1⟩)
    go_ret
    exact ⟨rfl, hb1⟩
  · by_cases hg : goodR s
    · go_enter Try.func8, Try.ntmps8
      go_wp2_with fail
      refine (prwx_yes s HS.out hg _).mono ?_
      rintro e w1 ⟨rfl, hb1⟩
      go_wp2_with fail
      refine (rprwx_yes s HS.out hg _).mono ?_
      rintro e w' ⟨rfl, rfl⟩
      clear hg
      go_wp2_with fail
      refine (rwx_any a _).mono ?_
      rintro e w2 ⟨rfl, hb2⟩
      go_wp2_with fail
      refine (prwx_back a _).mono ?_
      rintro e w3 ⟨rfl, hb3⟩
      go_wp2_with fail
      refine (rwx_any a _).mono ?_
      rintro e w4 ⟨rfl, hb4⟩
      go_wp2_with fail
      refine (rrwx_any a _).mono ?_
      rintro e w' ⟨rfl, rfl⟩
      go_wp2_with (first | (go_at_call 24; refine (low_12 a _).mono ?_; rintro e w' ⟨rfl, rfl⟩) | (go_at_call 12; refine (awake_any _).mono ?_; rintro e w5 ⟨rfl, hb5⟩) | go_in)
      go_ret
      exact ⟨rfl, bel_trans (bel_trans (bel_trans (bel_trans hb1 hb2) hb3) hb4) hb5⟩
    · go_enter Try.func8, Try.ntmps8
      go_wp2_with fail
      refine (prwx_no s HS.out hg _).mono ?_
      rintro e w1 ⟨rfl, hb1⟩
      go_wp2_with fail
      refine (rprwx_no s HS.out hg _).mono ?_
      rintro e w' ⟨rfl, rfl⟩
      clear hg
      go_wp2_with fail
      refine (rwx_any a _).mono ?_
      rintro e w2 ⟨rfl, hb2⟩
      go_wp2_with fail
      refine (prwx_back a _).mono ?_
      rintro e w3 ⟨rfl, hb3⟩
      go_wp2_with fail
      refine (rwx_any a _).mono ?_
      rintro e w4 ⟨rfl, hb4⟩
      go_wp2_with fail
      refine (rrwx_any a _).mono ?_
      rintro e w' ⟨rfl, rfl⟩
      go_wp2_with (first | (go_at_call 24; refine (low_12 a _).mono ?_; rintro e w' ⟨rfl, rfl⟩) | (go_at_call 12; refine (awake_any _).mono ?_; rintro e w5 ⟨rfl, hb5⟩) | go_in)
      go_ret
      exact ⟨rfl, bel_trans (bel_trans (bel_trans (bel_trans hb1 hb2) hb3) hb4) hb5⟩

/-! ### The row -/
set_option maxRecDepth 100000 in
theorem lifted (os : Os) (started : os.Started) (H : Type) (enc : TypeId × Value → H) :
    ReturnsInHanded {} Try.checked os 8 .any (Rows.bitsLettersSpec.pre6 enc Try.prog Try.f8 Rows.bitsLettersRow.domain false) (Rows.bitsLettersSpec.post enc Try.prog Try.f8 false true false false) := by
  refine returnsInHanded_of_change (C := Try.checked) own started (by kernel_rfl) Try.func8
    (ChangeSpec.witness6 (enc := enc) (C := Try.checked) false ⟨#[], #[.int .i64 0, .string ByteArray.empty], []⟩ 8 (by kernel_rfl) (by kernel_rfl) (by kernel_rfl) (by kernel_rfl)) ?_
  intro W base args ds gs before hval0 hW hcnd _
  have hval : ∀ (j : Nat) t v, Try.f8.params[j]? = some t → args[j]? = some v → Value.okWide Try.prog W .any base t v := hval0
  have hW' := hW
  obtain ⟨p, q, hA0, hV, rfl, hfz, hnd⟩ := hW
  have hA : DataW.TrodAll enc Try.prog W 0 (fun _ => true) true Try.f8.params.toList args.toList ds p := hA0
  rw [Try.params8] at hA hval
  obtain ⟨v0, vs0, d0, ds0, p0, q0, hargs, rfl, rfl, h0, r0⟩ := trodAll_cons hA
  obtain ⟨v1, vs1, d1, ds1, p1, q1, rfl, rfl, rfl, h1, r1⟩ := trodAll_cons r0
  obtain ⟨rfl, rfl, rfl⟩ := trodAll_nil r1
  obtain rfl : args = #[v0, v1] := by cases args; simp_all
  obtain ⟨rfl, rfl⟩ := trodVars_none hV
  obtain ⟨a0, rfl, rfl, rfl, w0⟩ := open_int Try.underlying3 (hval 0 3 v0 rfl rfl) h0
  obtain ⟨a1, rfl, rfl, rfl, w1⟩ := open_string Try.underlying9 (hval 1 9 v1 rfl rfl) h1
  clear hA0 hval0
  simp only [List.append_nil] at hW'
  refine (letters_walk a0 a1 w1 W).mono fun e W' ⟨he, hg⟩ => ?_
  subst he
  exact ⟨_, rfl, _, _, _, [], _, [], hW', (trodAll_cons_mk (shut_bool Try.underlying4 _) trodAll_mk0), (trodAll_cons_mk (shut_int Try.underlying3 w0) (trodAll_cons_mk (shut_string Try.underlying9 w1) trodAll_mk0)), rfl, hg.frame _, fun h => by cases h⟩

theorem over : Rows.bitsLettersRow.holds Try.pinned (OpenSpec.ofChange Rows.bitsLettersSpec) :=
  OpenClaim.holds_of_wide 8 Try.f8 rfl rfl rfl rfl rfl rfl rfl ⟨rfl, rfl, rfl, rfl, rfl⟩ rfl rfl rfl rfl rfl (by kernel_rfl) Try.func8 (by kernel_rfl)
    (of_decide_eq_true (by kernel_rfl)) (by unfold Func.isWrapper; first | (rw [if_pos (by decide +kernel)]; kernel_rfl) | (rw [if_neg (by decide +kernel)]; exact ⟨rfl, rfl⟩))
    (fun os started H enc _ => lifted os started H enc)

/-- The statement. -/
theorem proved : Rows.BitsLettersSaid :=
  over
#print axioms proved
end Go.Proofs.Yteojkjhccgnljaa.bitsLetters
