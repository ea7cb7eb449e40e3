/- For every text t, every uint64 x and every text s the law BitsSums returns true and leaves its arguments as they were: the sum of t and the sixteen digits of x are the reference's, the digits read back as x, and what is read of s is what the reference reads. No condition. -/
import Derived.Test.YteojkjhccgnljaaRows
import Derived.Test.YteojkjhccgnljaaWalkF
import Derived.WalkKit
import Derived.ProofKit
import Derived.OpenShut
import Derived.ShutString
namespace Go.Proofs.Yteojkjhccgnljaa.bitsSums
open Go.ChangeShapes Go.WideShapes Go.ChangeAt Go.RowKit
open Go.ChangeMaps (open_string shut_string)
set_option linter.unusedVariables false

theorem own : ownKnob Try.prog.godebug = none := by kernel_rfl

/-! ### The walk -/
theorem phex_yes (s : ByteArray) (hs : s.size ≤ maxLen) (h : goodX s) (w : World) : Calls Try.prog 27 #[.string s] w fun e w' => e = .returned (.tuple #[.int .u64 (xF s 16), .int .i64 0]) ∧ w = w' :=
  (phex_any s hs w).mono fun _ _ k => ⟨k.1 h, k.2.2⟩
theorem phex_no (s : ByteArray) (hs : s.size ≤ maxLen) (h : ¬ goodX s) (w : World) : Calls Try.prog 27 #[.string s] w fun e w' => e = .returned (.tuple #[.int .u64 0, .int .i64 2]) ∧ w = w' :=
  (phex_any s hs w).mono fun _ _ k => ⟨k.2.1 h, k.2.2⟩
theorem rphex_yes (s : ByteArray) (hs : s.size ≤ maxLen) (h : goodX s) (w : World) : Calls Try.prog 28 #[.string s] w fun e w' => e = .returned (.tuple #[.int .u64 (xF s 16), .bool true]) ∧ w = w' :=
  (rphex_any s hs w).mono fun _ _ k => ⟨k.1 h, k.2.2⟩
theorem rphex_no (s : ByteArray) (hs : s.size ≤ maxLen) (h : ¬ goodX s) (w : World) : Calls Try.prog 28 #[.string s] w fun e w' => e = .returned (.tuple #[.int .u64 0, .bool false]) ∧ w = w' :=
  (rphex_any s hs w).mono fun _ _ k => ⟨k.2.1 h, k.2.2⟩
theorem phex_back (x : Int) (hx : isU64 x) (w : World) : Calls Try.prog 27 #[.string (hexB x)] w fun e w' => e = .returned (.tuple #[.int .u64 x, .int .i64 0]) ∧ w = w' := by
  have := phex_yes (hexB x) (by rw [hexB_size]; decide) (hexB_good x) w
  rw [hexB_back x hx] at this
  exact this
theorem sums_walk (t : ByteArray) (x : Int) (s : ByteArray) (ht : t.size ≤ maxLen) (hxw : (Lit.int .u64 x).wf = true) (hs : s.size ≤ maxLen) (w : World) :
    Calls Try.prog 7 #[.string t, .int .u64 x, .string s] w fun e w' => e = .returned (.bool true) ∧ Below w.heap.size w w' := by
  have HX : Hid (isU64 x) := by
    have := bounds_u64 hxw
    exact ⟨this.1, by omega⟩
  have HS := Lib.hid hs
  have HT := Lib.hid ht
  clear hxw
  unfold maxLen at hs ht
  by_cases hl1 : 4000 < t.size
  · have d1 : decide ((4000 : Int) < t.size) = true := decide_eq_true (by omega)
    go_enter Try.func7, Try.ntmps7
    go_wp2_with (go_at_call 12; refine (awake_any _).mono ?_; rintro e w1 ⟨rfl, hb1⟩)
    go_ret
    exact ⟨rfl, hb1⟩
  · have d1 : decide ((4000 : Int) < t.size) = false := decide_eq_false (by omega)
    by_cases hl : 1000 < s.size
    · have d2 : decide ((1000 : Int) < s.size) = true := decide_eq_true (by omega)
      go_enter Try.func7, Try.ntmps7
      go_wp2_with (go_at_call 12; refine (awake_any _).mono ?_; rintro e w1 ⟨rfl, hb1⟩)
      go_ret
      exact ⟨rfl, hb1⟩
    · have d2 : decide ((1000 : Int) < s.size) = false := decide_eq_false (by omega)
      by_cases hg : goodX s
      · go_enter Try.func7, Try.ntmps7
        go_wp2_with fail
        refine (phex_yes s HS.out hg _).mono ?_
        rintro e w' ⟨rfl, rfl⟩
        go_wp2_with fail
        refine (rphex_yes s HS.out hg _).mono ?_
        rintro e w' ⟨rfl, rfl⟩
        clear hg
        go_wp2_with fail
        refine (hex_any x HX.out _).mono ?_
        rintro e w1 ⟨rfl, hb1⟩
        go_wp2_with fail
        refine (phex_back x HX.out _).mono ?_
        rintro e w' ⟨rfl, rfl⟩
        go_wp2_with fail
        refine (sum_any t HT.out _).mono ?_
        rintro e w2 ⟨rfl, hb2⟩
        go_wp2_with fail
        refine (rsum_any t HT.out _).mono ?_
        rintro e w' ⟨rfl, rfl⟩
        go_wp2_with fail
        refine (hex_any x HX.out _).mono ?_
        rintro e w3 ⟨rfl, hb3⟩
        go_wp2_with fail
        refine (rhex_any x HX.out _).mono ?_
        rintro e w' ⟨rfl, rfl⟩
        go_wp2_with (first | (go_at_call 12; refine (awake_any _).mono ?_; rintro e w4 ⟨rfl, hb4⟩) | go_in)
        go_ret
        exact ⟨rfl, bel_trans (bel_trans (bel_trans hb1 hb2) hb3) hb4⟩
      · go_enter Try.func7, Try.ntmps7
        go_wp2_with fail
        refine (phex_no s HS.out hg _).mono ?_
        rintro e w' ⟨rfl, rfl⟩
        go_wp2_with fail
        refine (rphex_no s HS.out hg _).mono ?_
        rintro e w' ⟨rfl, rfl⟩
        clear hg
        go_wp2_with fail
        refine (hex_any x HX.out _).mono ?_
        rintro e w1 ⟨rfl, hb1⟩
        go_wp2_with fail
        refine (phex_back x HX.out _).mono ?_
        rintro e w' ⟨rfl, rfl⟩
        go_wp2_with fail
        refine (sum_any t HT.out _).mono ?_
        rintro e w2 ⟨rfl, hb2⟩
        go_wp2_with fail
        refine (rsum_any t HT.out _).mono ?_
        rintro e w' ⟨rfl, rfl⟩
        go_wp2_with fail
        refine (hex_any x HX.out _).mono ?_
        rintro e w3 ⟨rfl, hb3⟩
        go_wp2_with fail
        refine (rhex_any x HX.out _).mono ?_
        rintro e w' ⟨rfl, rfl⟩
        go_wp2_with (first | (go_at_call 12; refine (awake_any _).mono ?_; rintro e w4 ⟨rfl, hb4⟩) | go_in)
        go_ret
        exact ⟨rfl, bel_trans (bel_trans (bel_trans hb1 hb2) hb3) hb4⟩

/-! ### The row -/
set_option maxRecDepth 100000 in
theorem lifted (os : Os) (started : os.Started) (H : Type) (enc : TypeId × Value → H) :
    ReturnsInHanded {} Try.checked os 7 .any (Rows.bitsSumsSpec.pre6 enc Try.prog Try.f7 Rows.bitsSumsRow.domain false) (Rows.bitsSumsSpec.post enc Try.prog Try.f7 false true false false) := by
  refine returnsInHanded_of_change (C := Try.checked) own started (by kernel_rfl) Try.func7
    (ChangeSpec.witness6 (enc := enc) (C := Try.checked) false ⟨#[], #[.string ByteArray.empty, .int .u64 0, .string ByteArray.empty], []⟩ 8 (by kernel_rfl) (by kernel_rfl) (by kernel_rfl) (by kernel_rfl)) ?_
  intro W base args ds gs before hval0 hW hcnd _
  have hval : ∀ (j : Nat) t v, Try.f7.params[j]? = some t → args[j]? = some v → Value.okWide Try.prog W .any base t v := hval0
  have hW' := hW
  obtain ⟨p, q, hA0, hV, rfl, hfz, hnd⟩ := hW
  have hA : DataW.TrodAll enc Try.prog W 0 (fun _ => true) true Try.f7.params.toList args.toList ds p := hA0
  rw [Try.params7] at hA hval
  obtain ⟨v0, vs0, d0, ds0, p0, q0, hargs, rfl, rfl, h0, r0⟩ := trodAll_cons hA
  obtain ⟨v1, vs1, d1, ds1, p1, q1, rfl, rfl, rfl, h1, r1⟩ := trodAll_cons r0
  obtain ⟨v2, vs2, d2, ds2, p2, q2, rfl, rfl, rfl, h2, r2⟩ := trodAll_cons r1
  obtain ⟨rfl, rfl, rfl⟩ := trodAll_nil r2
  obtain rfl : args = #[v0, v1, v2] := by cases args; simp_all
  obtain ⟨rfl, rfl⟩ := trodVars_none hV
  obtain ⟨a0, rfl, rfl, rfl, w0⟩ := open_string Try.underlying9 (hval 0 9 v0 rfl rfl) h0
  obtain ⟨a1, rfl, rfl, rfl, w1⟩ := open_int Try.underlying27 (hval 1 27 v1 rfl rfl) h1
  obtain ⟨a2, rfl, rfl, rfl, w2⟩ := open_string Try.underlying9 (hval 2 9 v2 rfl rfl) h2
  clear hA0 hval0
  simp only [List.append_nil] at hW'
  refine (sums_walk a0 a1 a2 w0 w1 w2 W).mono fun e W' ⟨he, hg⟩ => ?_
  subst he
  exact ⟨_, rfl, _, _, _, [], _, [], hW', (trodAll_cons_mk (shut_bool Try.underlying4 _) trodAll_mk0), (trodAll_cons_mk (shut_string Try.underlying9 w0) (trodAll_cons_mk (shut_int Try.underlying27 w1) (trodAll_cons_mk (shut_string Try.underlying9 w2) trodAll_mk0))), rfl, hg.frame _, fun h => by cases h⟩

theorem over : Rows.bitsSumsRow.holds Try.pinned (OpenSpec.ofChange Rows.bitsSumsSpec) :=
  OpenClaim.holds_of_wide 7 Try.f7 rfl rfl rfl rfl rfl rfl rfl ⟨rfl, rfl, rfl, rfl, rfl⟩ rfl rfl rfl rfl rfl (by kernel_rfl) Try.func7 (by kernel_rfl)
    (of_decide_eq_true (by kernel_rfl)) (by unfold Func.isWrapper; first | (rw [if_pos (by decide +kernel)]; kernel_rfl) | (rw [if_neg (by decide +kernel)]; exact ⟨rfl, rfl⟩))
    (fun os started H enc _ => lifted os started H enc)

/-- The statement. -/
theorem proved : Rows.BitsSumsSaid :=
  over
#print axioms proved
end Go.Proofs.Yteojkjhccgnljaa.bitsSums
