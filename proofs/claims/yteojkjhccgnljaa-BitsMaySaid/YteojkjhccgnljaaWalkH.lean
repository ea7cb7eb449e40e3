/- What the Go function May (both) computes: each by a walk through its text. -/
import Derived.Test.YteojkjhccgnljaaWalkF
import Derived.Test.YteojkjhccgnljaaPlainH
namespace Go.Proofs.Yteojkjhccgnljaa
open Go.ChangeShapes Go.WideShapes Go.ChangeAt Go.RowKit
theorem may0_no (m want : Int) (h : bt want 0 = false) : true = may0 m want := by unfold may0; rw [h]; rfl
theorem may0_yes (m want : Int) (h : bt want 0 = true) : (bt m 0 || (bt m 3 || bt m 6)) = may0 m want := by unfold may0; rw [h]; rfl
theorem may_any (m u g uid gid want : Int) (w : World) :
    Calls Try.prog 25 #[.agg #[.int .i64 m, .int .i64 u, .int .i64 g], .int .i64 uid, .int .i64 gid, .int .i64 want] w fun e w' => e = .returned (.bool (mayB m u g uid gid want)) ∧ w.alloc (.cells #[.int .i64 m, .int .i64 u, .int .i64 g] 26) = w' := by
  have h7 := and7 want
  by_cases hu : uid = 0
  · have hr : mayB m u g uid gid want = may0 m want := by unfold mayB; rw [if_pos hu]
    rw [hr]
    have hub : (uid == 0) = true := by rw [hu]; rfl
    have h1 := and1_is want
    have h73 := and73_is m
    clear hu hr
    cases hb : bt want 0
    · rw [hb] at h1
      have HB := Lib.hid hb
      clear hb
      go_enter Try.func25, Try.ntmps25
      go_wp2
      go_ret
      exact ⟨ret_bool (may0_no m want HB.out), rfl⟩
    · rw [hb] at h1
      have HB := Lib.hid hb
      clear hb
      go_enter Try.func25, Try.ntmps25
      go_wp2
      go_ret
      exact ⟨ret_bool (may0_yes m want HB.out), rfl⟩
  · have hr : mayB m u g uid gid want = mayL m want (lowM u g uid gid) := by unfold mayB; rw [if_neg hu]
    rw [hr]
    have hub : (uid == 0) = false := by rw [beq_eq_false_iff_ne]; exact hu
    clear hu hr
    unfold lowM
    by_cases h6 : uid = u
    · rw [if_pos h6]
      have h6b : (uid == u) = true := by rw [h6]; simp
      have hf := may_low6 m want
      clear h6
      go_enter Try.func25, Try.ntmps25
      go_wp2
      go_ret
      exact ⟨ret_bool (by first | rfl | exact hf), rfl⟩
    · rw [if_neg h6]
      have h6b : (uid == u) = false := by rw [beq_eq_false_iff_ne]; exact h6
      clear h6
      by_cases h3 : gid = g
      · rw [if_pos h3]
        have h3b : (gid == g) = true := by rw [h3]; simp
        have hf := may_low3 m want
        clear h3
        go_enter Try.func25, Try.ntmps25
        go_wp2
        go_ret
        exact ⟨ret_bool (by first | rfl | exact hf), rfl⟩
      · rw [if_neg h3]
        have h3b : (gid == g) = false := by rw [beq_eq_false_iff_ne]; exact h3
        have hf := may_low0 m want
        clear h3
        go_enter Try.func25, Try.ntmps25
        go_wp2
        go_ret
        exact ⟨ret_bool (by first | rfl | exact hf), rfl⟩
theorem rmay_any (m u g uid gid want : Int) (w : World) :
    Calls Try.prog 26 #[.agg #[.int .i64 m, .int .i64 u, .int .i64 g], .int .i64 uid, .int .i64 gid, .int .i64 want] w fun e w' => e = .returned (.bool (mayB m u g uid gid want)) ∧ w.alloc (.cells #[.int .i64 m, .int .i64 u, .int .i64 g] 26) = w' := by
  by_cases hu : uid = 0
  · have hr : mayB m u g uid gid want = may0 m want := by unfold mayB; rw [if_pos hu]
    rw [hr]
    have hub : (uid == 0) = true := by rw [hu]; rfl
    clear hu hr
    go_enter Try.func26, Try.ntmps26
    go_wp2_with (go_at_call 41; refine (bit_lit _ _ (by omega) (by omega) _).mono ?_; rintro e w' ⟨rfl, rfl⟩)
    all_goals
      go_ret
      refine ⟨ret_bool ?_, rfl⟩
      unfold may0
      simp [*]
  · have hr : mayB m u g uid gid want = mayL m want (lowM u g uid gid) := by unfold mayB; rw [if_neg hu]
    rw [hr]
    have hub : (uid == 0) = false := by rw [beq_eq_false_iff_ne]; exact hu
    clear hu hr
    unfold lowM
    by_cases h6 : uid = u
    · rw [if_pos h6]
      have h6b : (uid == u) = true := by rw [h6]; simp
      clear h6
      cases h3b : (gid == g)
      all_goals
        go_enter Try.func26, Try.ntmps26
        go_wp2
        go_loop [10] (fun i => ∃ k : Nat, k ≤ 3 ∧ okM m want 6 k ∧ i = .int .i64 k) (fun i => 3 - (intOf i).toNat)
        case atStart => exact ⟨0, Nat.zero_le _, okM_zero m want 6, rfl⟩
        case round =>
          obtain ⟨k, hk, hok, rfl⟩ := hrel
          have HO := Lib.hid hok
          clear hok
          by_cases hlt : k < 3
          · have ht : ((6 : Int) + (k : Int)).toNat = 6 + k := by omega
            cases h1 : bt want k
            · have HS := Lib.hid (okM_succ m want 6 k HO.out (fun h => by rw [h1] at h; cases h))
              go_wp2_with (go_at_call 41; refine (bit_lit _ _ (by omega) (by omega) _).mono ?_; rintro e w' ⟨rfl, rfl⟩)
              go_round
              case rel => exact ⟨k + 1, by omega, HS.out, by go_num⟩
              case measure => simp [intOf]; omega
            · cases h2 : bt m (6 + k)
              · have HN := Lib.hid (mayL_no m want 6 k hlt h1 h2)
                go_wp2_with (go_at_call 41; refine (bit_lit _ _ (by omega) (by omega) _).mono ?_; rintro e w' ⟨rfl, rfl⟩)
                go_ret
                exact ⟨ret_bool HN.out.symm, rfl⟩
              · have HS := Lib.hid (okM_succ m want 6 k HO.out (fun _ => h2))
                go_wp2_with (go_at_call 41; refine (bit_lit _ _ (by omega) (by omega) _).mono ?_; rintro e w' ⟨rfl, rfl⟩)
                go_round
                case rel => exact ⟨k + 1, by omega, HS.out, by go_num⟩
                case measure => simp [intOf]; omega
          · have hk3 : k = 3 := by omega
            subst hk3
            have HY := Lib.hid (mayL_yes m want 6 HO.out)
            go_wp2
            go_ret
            exact ⟨ret_bool HY.out.symm, rfl⟩
    · rw [if_neg h6]
      have h6b : (uid == u) = false := by rw [beq_eq_false_iff_ne]; exact h6
      clear h6
      by_cases h3 : gid = g
      · rw [if_pos h3]
        have h3b : (gid == g) = true := by rw [h3]; simp
        clear h3
        go_enter Try.func26, Try.ntmps26
        go_wp2
        go_loop [10] (fun i => ∃ k : Nat, k ≤ 3 ∧ okM m want 3 k ∧ i = .int .i64 k) (fun i => 3 - (intOf i).toNat)
        case atStart => exact ⟨0, Nat.zero_le _, okM_zero m want 3, rfl⟩
        case round =>
          obtain ⟨k, hk, hok, rfl⟩ := hrel
          have HO := Lib.hid hok
          clear hok
          by_cases hlt : k < 3
          · have ht : ((3 : Int) + (k : Int)).toNat = 3 + k := by omega
            cases h1 : bt want k
            · have HS := Lib.hid (okM_succ m want 3 k HO.out (fun h => by rw [h1] at h; cases h))
              go_wp2_with (go_at_call 41; refine (bit_lit _ _ (by omega) (by omega) _).mono ?_; rintro e w' ⟨rfl, rfl⟩)
              go_round
              case rel => exact ⟨k + 1, by omega, HS.out, by go_num⟩
              case measure => simp [intOf]; omega
            · cases h2 : bt m (3 + k)
              · have HN := Lib.hid (mayL_no m want 3 k hlt h1 h2)
                go_wp2_with (go_at_call 41; refine (bit_lit _ _ (by omega) (by omega) _).mono ?_; rintro e w' ⟨rfl, rfl⟩)
                go_ret
                exact ⟨ret_bool HN.out.symm, rfl⟩
              · have HS := Lib.hid (okM_succ m want 3 k HO.out (fun _ => h2))
                go_wp2_with (go_at_call 41; refine (bit_lit _ _ (by omega) (by omega) _).mono ?_; rintro e w' ⟨rfl, rfl⟩)
                go_round
                case rel => exact ⟨k + 1, by omega, HS.out, by go_num⟩
                case measure => simp [intOf]; omega
          · have hk3 : k = 3 := by omega
            subst hk3
            have HY := Lib.hid (mayL_yes m want 3 HO.out)
            go_wp2
            go_ret
            exact ⟨ret_bool HY.out.symm, rfl⟩
      · rw [if_neg h3]
        have h3b : (gid == g) = false := by rw [beq_eq_false_iff_ne]; exact h3
        clear h3
        go_enter Try.func26, Try.ntmps26
        go_wp2
        go_loop [10] (fun i => ∃ k : Nat, k ≤ 3 ∧ okM m want 0 k ∧ i = .int .i64 k) (fun i => 3 - (intOf i).toNat)
        case atStart => exact ⟨0, Nat.zero_le _, okM_zero m want 0, rfl⟩
        case round =>
          obtain ⟨k, hk, hok, rfl⟩ := hrel
          have HO := Lib.hid hok
          clear hok
          by_cases hlt : k < 3
          · cases h1 : bt want k
            · have HS := Lib.hid (okM_succ m want 0 k HO.out (fun h => by rw [h1] at h; cases h))
              go_wp2_with (go_at_call 41; refine (bit_lit _ _ (by omega) (by omega) _).mono ?_; rintro e w' ⟨rfl, rfl⟩)
              go_round
              case rel => exact ⟨k + 1, by omega, HS.out, by go_num⟩
              case measure => simp [intOf]; omega
            · cases h2 : bt m k
              · have HN := Lib.hid (mayL_no m want 0 k hlt h1 (by rw [Nat.zero_add]; exact h2))
                go_wp2_with (go_at_call 41; refine (bit_lit _ _ (by omega) (by omega) _).mono ?_; rintro e w' ⟨rfl, rfl⟩)
                go_ret
                exact ⟨ret_bool HN.out.symm, rfl⟩
              · have HS := Lib.hid (okM_succ m want 0 k HO.out (fun _ => by rw [Nat.zero_add]; exact h2))
                go_wp2_with (go_at_call 41; refine (bit_lit _ _ (by omega) (by omega) _).mono ?_; rintro e w' ⟨rfl, rfl⟩)
                go_round
                case rel => exact ⟨k + 1, by omega, HS.out, by go_num⟩
                case measure => simp [intOf]; omega
          · have hk3 : k = 3 := by omega
            subst hk3
            have HY := Lib.hid (mayL_yes m want 0 HO.out)
            go_wp2
            go_ret
            exact ⟨ret_bool HY.out.symm, rfl⟩
end Go.Proofs.Yteojkjhccgnljaa
