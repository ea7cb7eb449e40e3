/- For every int mode and every text s the law BitsOctal returns true and leaves its arguments as they were: the mode's four octal digits are the reference's and read back as its twelve lowest bits, and what is read of s is what the reference reads. No condition. -/
import Derived.Test.YteojkjhccgnljaaRows
import Derived.Test.YteojkjhccgnljaaWalkF
import Derived.WalkKit
import Derived.ProofKit
import Derived.OpenShut
import Derived.ShutString
namespace Go.Proofs.Yteojkjhccgnljaa.bitsOctal
open Go.ChangeShapes Go.WideShapes Go.ChangeAt Go.RowKit
open Go.ChangeMaps (open_string shut_string)
set_option linter.unusedVariables false

theorem own : ownKnob Try.prog.godebug = none := by kernel_rfl

/-! ### The walk -/
theorem poct_yes (s : ByteArray) (hs : s.size ≤ maxLen) (h : goodO s) (w : World) : Calls Try.prog 19 #[.string s] w fun e w' => e = .returned (.tuple #[.int .i64 (oF s 4), .int .i64 0]) ∧ w = w' :=
  (poct_any s hs w).mono fun _ _ k => ⟨k.1 h, k.2.2⟩
theorem poct_no (s : ByteArray) (hs : s.size ≤ maxLen) (h : ¬ goodO s) (w : World) : Calls Try.prog 19 #[.string s] w fun e w' => e = .returned (.tuple #[.int .i64 0, .int .i64 2]) ∧ w = w' :=
  (poct_any s hs w).mono fun _ _ k => ⟨k.2.1 h, k.2.2⟩
theorem rpoct_yes (s : ByteArray) (hs : s.size ≤ maxLen) (h : goodO s) (w : World) : Calls Try.prog 20 #[.string s] w fun e w' => e = .returned (.tuple #[.int .i64 (oF s 4), .bool true]) ∧ w = w' :=
  (rpoct_any s hs w).mono fun _ _ k => ⟨k.1 h, k.2.2⟩
theorem rpoct_no (s : ByteArray) (hs : s.size ≤ maxLen) (h : ¬ goodO s) (w : World) : Calls Try.prog 20 #[.string s] w fun e w' => e = .returned (.tuple #[.int .i64 0, .bool false]) ∧ w = w' :=
  (rpoct_any s hs w).mono fun _ _ k => ⟨k.2.1 h, k.2.2⟩
theorem poct_back (a : Int) (w : World) : Calls Try.prog 19 #[.string (octB a)] w fun e w' => e = .returned (.tuple #[.int .i64 (a % 4096), .int .i64 0]) ∧ w = w' := by
  have := poct_yes (octB a) (by rw [octB_size]; decide) (octB_good a) w
  rw [octB_back] at this
  exact this
theorem low_12 (a : Int) (w : World) : Calls Try.prog 24 #[.int .i64 a, .int .i64 12] w fun e w' => e = .returned (.int .i64 (a % 4096)) ∧ w = w' := low_any a 12 (by decide) w
theorem octal_walk (a : Int) (s : ByteArray) (hs : s.size ≤ maxLen) (w : World) :
    Calls Try.prog 5 #[.int .i64 a, .string s] w fun e w' => e = .returned (.bool true) ∧ Below w.heap.size w w' := by
  have HS := Lib.hid hs
  unfold maxLen at hs
  by_cases hl : 1000 < s.size
  · go_enter Try.func5, Try.ntmps5
    go_wp2_with (go_at_call 12; refine (awake_any _).mono ?_; rintro e w1 ⟨rfl, hb1⟩)
    go_ret
    exact ⟨rfl, hb1⟩
  · by_cases hg : goodO s
    · go_enter Try.func5, Try.ntmps5
      go_wp2_with fail
      refine (poct_yes s HS.out hg _).mono ?_
      rintro e w' ⟨rfl, rfl⟩
      go_wp2_with fail
      refine (rpoct_yes s HS.out hg _).mono ?_
      rintro e w' ⟨rfl, rfl⟩
      clear hg
      go_wp2_with fail
      refine (octal_any a _).mono ?_
      rintro e w1 ⟨rfl, hb1⟩
      go_wp2_with fail
      refine (poct_back a _).mono ?_
      rintro e w' ⟨rfl, rfl⟩
      go_wp2_with fail
      refine (octal_any a _).mono ?_
      rintro e w2 ⟨rfl, hb2⟩
      go_wp2_with fail
      refine (roctal_any a _).mono ?_
      rintro e w' ⟨rfl, rfl⟩
      go_wp2_with (first | (go_at_call 24; refine (low_12 a _).mono ?_; rintro e w' ⟨rfl, rfl⟩) | (go_at_call 12; refine (awake_any _).mono ?_; rintro e w3 ⟨rfl, hb3⟩) | go_in)
      go_ret
      exact ⟨rfl, bel_trans (bel_trans hb1 hb2) hb3⟩
    · go_enter Try.func5, Try.ntmps5
      go_wp2_with fail
      refine (poct_no s HS.out hg _).mono ?_
      rintro e w' ⟨rfl, rfl⟩
      go_wp2_with fail
      refine (rpoct_no s HS.out hg _).mono ?_
      rintro e w' ⟨rfl, rfl⟩
      clear hg
      go_wp2_with fail
      refine (octal_any a _).mono ?_
      rintro e w1 ⟨rfl, hb1⟩
      go_wp2_with fail
      refine (poct_back a _).mono ?_
      rintro e w' ⟨rfl, rfl⟩
      go_wp2_with fail
      refine (octal_any a _).mono ?_
      rintro e w2 ⟨rfl, hb2⟩
      go_wp2_with fail
      refine (roctal_any a _).mono ?_
      rintro e w' ⟨rfl, rfl⟩
      go_wp2_with (first | (go_at_call 24; refine (low_12 a _).mono ?_; rintro e w' ⟨rfl, rfl⟩) | (go_at_call 12; refine (awake_any _).mono ?_; rintro e w3 ⟨rfl, hb3⟩) | go_in)
      go_ret
      exact ⟨rfl, bel_trans (bel_trans hb1 hb2) hb3⟩

/-! ### The row -/
set_option maxRecDepth 100000 in
theorem lifted (os : Os) (started : os.Started) (H : Type) (enc : TypeId × Value → H) :
    ReturnsInHanded {} Try.checked os 5 .any (Rows.bitsOctalSpec.pre6 enc Try.prog Try.f5 Rows.bitsOctalRow.domain false) (Rows.bitsOctalSpec.post enc Try.prog Try.f5 false true false false) := by
  refine returnsInHanded_of_change (C := Try.checked) own started (by kernel_rfl) Try.func5
    (ChangeSpec.witness6 (enc := enc) (C := Try.checked) false ⟨#[], #[.int .i64 0, .string ByteArray.empty], []⟩ 8 (by kernel_rfl) (by kernel_rfl) (by kernel_rfl) (by kernel_rfl)) ?_
  intro W base args ds gs before hval0 hW hcnd _
  have hval : ∀ (j : Nat) t v, Try.f5.params[j]? = some t → args[j]? = some v → Value.okWide Try.prog W .any base t v := hval0
  have hW' := hW
  obtain ⟨p, q, hA0, hV, rfl, hfz, hnd⟩ := hW
  have hA : DataW.TrodAll enc Try.prog W 0 (fun _ => true) true Try.f5.params.toList args.toList ds p := hA0
  rw [Try.params5] at hA hval
  obtain ⟨v0, vs0, d0, ds0, p0, q0, hargs, rfl, rfl, h0, r0⟩ := trodAll_cons hA
  obtain ⟨v1, vs1, d1, ds1, p1, q1, rfl, rfl, rfl, h1, r1⟩ := trodAll_cons r0
  obtain ⟨rfl, rfl, rfl⟩ := trodAll_nil r1
  obtain rfl : args = #[v0, v1] := by cases args; simp_all
  obtain ⟨rfl, rfl⟩ := trodVars_none hV
  obtain ⟨a0, rfl, rfl, rfl, w0⟩ := open_int Try.underlying3 (hval 0 3 v0 rfl rfl) h0
  obtain ⟨a1, rfl, rfl, rfl, w1⟩ := open_string Try.underlying9 (hval 1 9 v1 rfl rfl) h1
  clear hA0 hval0
  simp only [List.append_nil] at hW'
  refine (octal_walk a0 a1 w1 W).mono fun e W' ⟨he, hg⟩ => ?_
  subst he
  exact ⟨_, rfl, _, _, _, [], _, [], hW', (trodAll_cons_mk (shut_bool Try.underlying4 _) trodAll_mk0), (trodAll_cons_mk (shut_int Try.underlying3 w0) (trodAll_cons_mk (shut_string Try.underlying9 w1) trodAll_mk0)), rfl, hg.frame _, fun h => by cases h⟩

theorem over : Rows.bitsOctalRow.holds Try.pinned (OpenSpec.ofChange Rows.bitsOctalSpec) :=
  OpenClaim.holds_of_wide 5 Try.f5 rfl rfl rfl rfl rfl rfl rfl ⟨rfl, rfl, rfl, rfl, rfl⟩ rfl rfl rfl rfl rfl (by kernel_rfl) Try.func5 (by kernel_rfl)
    (of_decide_eq_true (by kernel_rfl)) (by unfold Func.isWrapper; first | (rw [if_pos (by decide +kernel)]; kernel_rfl) | (rw [if_neg (by decide +kernel)]; exact ⟨rfl, rfl⟩))
    (fun os started H enc _ => lifted os started H enc)

/-- The statement. -/
theorem proved : Rows.BitsOctalSaid :=
  over
#print axioms proved
end Go.Proofs.Yteojkjhccgnljaa.bitsOctal
