/- What the Go function Int (both) computes: each by a walk through its text. -/
import Derived.Test.YteojkjhccgnljaaWalkF
import Derived.Test.YteojkjhccgnljaaPlainG
namespace Go.Proofs.Yteojkjhccgnljaa
open Go.ChangeShapes Go.WideShapes Go.ChangeAt Go.RowKit
/-- What a reader of an int's digits tells. -/
def PInt (s : ByteArray) (w : World) (e : Ending) (w' : World) : Prop :=
  (goodI s → e = .returned (.tuple #[.int .i64 (valS s), .int .i64 0])) ∧ (¬ goodI s → e = .returned (.tuple #[.int .i64 0, .int .i64 2])) ∧ Below w.heap.size w w'
theorem pint_minus (s : ByteArray) (hs : s.size ≤ maxLen) (hm : minus s = true) (w : World) : Calls Try.prog 37 #[.string s] w (PInt s w) := by
  unfold maxLen at hs
  have hg := get_cb s
  obtain ⟨h0, h45⟩ := minus_yes s hm
  have hd : decide ((0 : Int) < s.size) = true := decide_eq_true (by omega)
  have h45b : (cb s 0 == 45) = true := by rw [h45]; rfl
  have HM := Lib.hid hm
  clear h45 hm
  by_cases hsz : 2 ≤ s.size ∧ s.size ≤ 20
  · have e1 : (((s.size - 1 : Nat) : Int) == 0) = false := by rw [beq_eq_false_iff_ne]; omega
    have e2 : decide ((19 : Int) < ((s.size - 1 : Nat) : Int)) = false := decide_eq_false (by omega)
    obtain ⟨z1, z2⟩ := hsz
    go_enter Try.func37, Try.ntmps37
    go_wp2
    generalize ht : s.extract 1 s.size = t at *
    have HT := Lib.hid ht
    have hts := Lib.hid (ext_size s)
    rw [ht] at hts
    clear ht hg
    have hgt := get_cb t
    generalize hn : s.size - 1 = n at *
    have HN := Lib.hid hn
    have hnl : n ≤ 19 := by omega
    clear hn
    go_loop [6, 30] (fun u i => ∃ k : Nat, k ≤ n ∧ okI t k ∧ i = .int .i64 k ∧ u = .int .u64 (dF t 0 k)) (fun _ i => n - (intOf i).toNat)
    case atStart => exact ⟨0, Nat.zero_le _, okI_zero t, rfl, rfl⟩
    case round =>
      obtain ⟨k, hk, hok, rfl, rfl⟩ := hrel
      have HO := Lib.hid hok
      clear hok
      by_cases hlt : k < n
      · have hb := (dF_u64 t 0 k).1
        have hc := cb_bd t k
        have hkt : k < t.size := by have := hts.out; omega
        have hsu := Lib.hid (dF_walk t k)
        by_cases hgood : 48 ≤ cb t k ∧ cb t k ≤ 57
        · obtain ⟨g1, g2⟩ := hgood
          have HG1 := Lib.hid g1
          have HG2 := Lib.hid g2
          go_wp2
          go_round
          case rel => exact ⟨k + 1, by omega, okI_succ t k HO.out HG1.out HG2.out, by go_num, by rw [hsu.out]⟩
          case measure => simp [intOf]; omega
        · have HNO : Hid (¬ goodI s) := fun h => by
            have h2 := (goodI_minus s h HM.out).2.2
            rw [HT.out, HN.out] at h2
            exact hgood (h2 k hlt)
          rcases (show cb t k < 48 ∨ 57 < cb t k by omega) with g | g
          all_goals
            clear hgood
            go_wp2
            go_ret2
            exact ⟨fun h => absurd h HNO.out, fun _ => rfl, Below.refl _ _⟩
      · have hkn : k = n := by omega
        subst hkn
        clear hgt
        have hv := valS_minus64 s HM.out
        rw [HT.out, HN.out] at hv
        by_cases hgd : textB (valS s) = s
        · have heq := str_eq hgd
          have HGD := Lib.hid hgd
          clear hgd
          go_wp2_with (go_at_call 39; refine (text_any _ (valS_i64 s) _).mono ?_; rintro e w1 ⟨rfl, hb1⟩)
          go_ret2
          exact ⟨fun _ => rfl, fun h => absurd HGD.out h, hb1⟩
        · have heq := str_ne hgd
          have HGD := Lib.hid hgd
          clear hgd
          go_wp2_with (go_at_call 39; refine (text_any _ (valS_i64 s) _).mono ?_; rintro e w1 ⟨rfl, hb1⟩)
          go_ret2
          exact ⟨fun h => absurd h HGD.out, fun _ => rfl, hb1⟩
  · have HNO : Hid (¬ goodI s) := fun h => by
      have h2 := goodI_minus s h HM.out
      omega
    rcases (show s.size - 1 = 0 ∨ 19 < s.size - 1 by omega) with z | z
    · have z' : ((s.size - 1 : Nat) : Int) = 0 := by omega
      have e1 : (((s.size - 1 : Nat) : Int) == 0) = true := by rw [z']; rfl
      clear hsz z z'
      go_enter Try.func37, Try.ntmps37
      go_wp2
      go_ret2
      exact ⟨fun h => absurd h HNO.out, fun _ => rfl, Below.refl _ _⟩
    · have e1 : (((s.size - 1 : Nat) : Int) == 0) = false := by rw [beq_eq_false_iff_ne]; omega
      have e2 : decide ((19 : Int) < ((s.size - 1 : Nat) : Int)) = true := decide_eq_true (by omega)
      clear hsz
      go_enter Try.func37, Try.ntmps37
      go_wp2
      go_ret2
      exact ⟨fun h => absurd h HNO.out, fun _ => rfl, Below.refl _ _⟩
theorem pint_plus (s : ByteArray) (hs : s.size ≤ maxLen) (hm : ¬ minus s = true) (w : World) : Calls Try.prog 37 #[.string s] w (PInt s w) := by
  unfold maxLen at hs
  have hg := get_cb s
  have hno := minus_no s hm
  have HM := Lib.hid hm
  clear hm
  by_cases hz : s.size = 0
  · have HNO : Hid (¬ goodI s) := fun h => by
      have h2 := goodI_plus s h HM.out
      omega
    have d0 : decide ((0 : Int) < (s.size : Int)) = false := decide_eq_false (by omega)
    have z' : (s.size : Int) = 0 := by omega
    have e1 : ((s.size : Int) == 0) = true := by rw [z']; rfl
    clear hno hz hg z'
    go_enter Try.func37, Try.ntmps37
    go_wp2
    go_ret2
    exact ⟨fun h => absurd h HNO.out, fun _ => rfl, Below.refl _ _⟩
  · have h45 : (cb s 0 == 45) = false := by rw [beq_eq_false_iff_ne]; exact hno (by omega)
    have d0 : decide ((0 : Int) < (s.size : Int)) = true := decide_eq_true (by omega)
    have e1 : ((s.size : Int) == 0) = false := by rw [beq_eq_false_iff_ne]; omega
    have hpos : 0 < s.size := by omega
    clear hno hz
    by_cases hsz : s.size ≤ 19
    · have e2 : decide ((19 : Int) < (s.size : Int)) = false := decide_eq_false (by omega)
      go_enter Try.func37, Try.ntmps37
      go_wp2
      go_loop [6, 30] (fun u i => ∃ k : Nat, k ≤ s.size ∧ okI s k ∧ i = .int .i64 k ∧ u = .int .u64 (dF s 0 k)) (fun _ i => s.size - (intOf i).toNat)
      case atStart => exact ⟨0, Nat.zero_le _, okI_zero s, rfl, rfl⟩
      case round =>
        obtain ⟨k, hk, hok, rfl, rfl⟩ := hrel
        have HO := Lib.hid hok
        clear hok
        by_cases hlt : k < s.size
        · have hb := (dF_u64 s 0 k).1
          have hc := cb_bd s k
          have hsu := Lib.hid (dF_walk s k)
          by_cases hgood : 48 ≤ cb s k ∧ cb s k ≤ 57
          · obtain ⟨g1, g2⟩ := hgood
            have HG1 := Lib.hid g1
            have HG2 := Lib.hid g2
            go_wp2
            go_round
            case rel => exact ⟨k + 1, by omega, okI_succ s k HO.out HG1.out HG2.out, by go_num, by rw [hsu.out]⟩
            case measure => simp [intOf]; omega
          · have HNO : Hid (¬ goodI s) := fun h => by
              have h2 := (goodI_plus s h HM.out).2.2
              exact hgood (h2 k hlt)
            rcases (show cb s k < 48 ∨ 57 < cb s k by omega) with g | g
            all_goals
              clear hgood
              go_wp2
              go_ret2
              exact ⟨fun h => absurd h HNO.out, fun _ => rfl, Below.refl _ _⟩
        · have hkn : k = s.size := by omega
          subst hkn
          clear hg
          have hv := valS_plus64 s HM.out
          by_cases hgd : textB (valS s) = s
          · have heq := str_eq hgd
            have HGD := Lib.hid hgd
            clear hgd
            go_wp2_with (go_at_call 39; refine (text_any _ (valS_i64 s) _).mono ?_; rintro e w1 ⟨rfl, hb1⟩)
            go_ret2
            exact ⟨fun _ => rfl, fun h => absurd HGD.out h, hb1⟩
          · have heq := str_ne hgd
            have HGD := Lib.hid hgd
            clear hgd
            go_wp2_with (go_at_call 39; refine (text_any _ (valS_i64 s) _).mono ?_; rintro e w1 ⟨rfl, hb1⟩)
            go_ret2
            exact ⟨fun h => absurd h HGD.out, fun _ => rfl, hb1⟩
    · have HNO : Hid (¬ goodI s) := fun h => by
        have h2 := goodI_plus s h HM.out
        omega
      have e2 : decide ((19 : Int) < (s.size : Int)) = true := decide_eq_true (by omega)
      go_enter Try.func37, Try.ntmps37
      go_wp2
      go_ret2
      exact ⟨fun h => absurd h HNO.out, fun _ => rfl, Below.refl _ _⟩
theorem pint_any (s : ByteArray) (hs : s.size ≤ maxLen) (w : World) : Calls Try.prog 37 #[.string s] w (PInt s w) := by
  by_cases hm : minus s = true
  · exact pint_minus s hs hm w
  · exact pint_plus s hs hm w
def RPInt (s : ByteArray) (w : World) (e : Ending) (w' : World) : Prop :=
  (goodI s → e = .returned (.tuple #[.int .i64 (valS s), .bool true])) ∧ (¬ goodI s → e = .returned (.tuple #[.int .i64 0, .bool false])) ∧ w = w'
theorem rpint_minus (s : ByteArray) (hs : s.size ≤ maxLen) (hm : minus s = true) (w : World) : Calls Try.prog 38 #[.string s] w (RPInt s w) := by
  unfold maxLen at hs
  have hg := get_cb s
  obtain ⟨h0, h45⟩ := minus_yes s hm
  have hd : decide ((0 : Int) < s.size) = true := decide_eq_true (by omega)
  have h45b : (cb s 0 == 45) = true := by rw [h45]; rfl
  have HM := Lib.hid hm
  clear h45 hm
  by_cases hsz : 20 < s.size
  · have HNO : Hid (¬ goodI s) := fun h => by have := goodI_20 s h; omega
    go_enter Try.func38, Try.ntmps38
    go_wp2
    go_ret2
    exact ⟨fun h => absurd h HNO.out, fun _ => rfl, rfl⟩
  · go_enter Try.func38, Try.ntmps38
    go_wp2
    go_loop [4, 6] (fun u i => ∃ k : Nat, k ≤ s.size ∧ i = .int .i64 k ∧ u = .int .u64 (rD s k)) (fun _ i => s.size - (intOf i).toNat)
    case atStart => exact ⟨0, Nat.zero_le _, rfl, rfl⟩
    case round =>
      obtain ⟨k, hk, rfl, rfl⟩ := hrel
      by_cases hlt : k < s.size
      · have hb := (rD_u64 s k).1
        have hc := cb_bd s k
        by_cases hc45 : cb s k = 45
        · have hsu := Lib.hid (rD_skip s k hc45)
          have hcb : (cb s k != 45) = false := by rw [hc45]; rfl
          clear hc45
          go_wp2
          go_round
          case rel => exact ⟨k + 1, by omega, by go_num, by rw [hsu.out]⟩
          case measure => simp [intOf]; omega
        · have hsu := Lib.hid (rD_walk s k hc45)
          have hcb : (cb s k != 45) = true := by rw [bne_iff_ne]; exact hc45
          clear hc45
          go_wp2
          go_round
          case rel => exact ⟨k + 1, by omega, by go_num, by rw [hsu.out]⟩
          case measure => simp [intOf]; omega
      · have hkn : k = s.size := by omega
        subst hkn
        clear hg
        have hv := valR_minus s HM.out
        have HVR := Lib.hid hv
        by_cases hgd : goodI s
        · have HV := Lib.hid (valR_good s hgd)
          have heq := str_eq (HV.out.symm ▸ hgd : textB (valR s) = s)
          have HGD := Lib.hid hgd
          clear hgd
          go_wp2_with (go_at_call 40; refine (rtext_any _ (valR_i64 s) _).mono ?_; rintro e w1 ⟨rfl, rfl⟩)
          go_ret2
          exact ⟨fun _ => by rw [← HV.out, ← HVR.out]; rfl, fun h => absurd HGD.out h, rfl⟩
        · have heq := str_ne (fun h => hgd (valR_text s h))
          have HGD := Lib.hid hgd
          clear hgd
          go_wp2_with (go_at_call 40; refine (rtext_any _ (valR_i64 s) _).mono ?_; rintro e w1 ⟨rfl, rfl⟩)
          go_ret2
          exact ⟨fun h => absurd h HGD.out, fun _ => rfl, rfl⟩
theorem rpint_plus (s : ByteArray) (hs : s.size ≤ maxLen) (hm : ¬ minus s = true) (w : World) : Calls Try.prog 38 #[.string s] w (RPInt s w) := by
  unfold maxLen at hs
  have hg := get_cb s
  have hno := minus_no s hm
  have HM := Lib.hid hm
  clear hm
  by_cases hz : s.size = 0
  · have hd : decide ((0 : Int) < (s.size : Int)) = false := decide_eq_false (by omega)
    have hz2 : s.size ≤ 0 := by omega
    have hne : textB 0 ≠ s := fun h => by
      have h1 := textB_size 0
      have h2 := nd_19 0 (by unfold isI64; omega)
      have h3 : mag 0 = 0 := rfl
      rw [h, h3] at h1
      rw [h3] at h2
      omega
    have heq := str_ne hne
    have HNO : Hid (¬ goodI s) := fun h => by
      have := goodI_size s h
      omega
    clear hno hz hg hne
    go_enter Try.func38, Try.ntmps38
    go_wp2
    refine wp_loop_rounds 1 ?_
    rw [rounds_succ]
    go_wp2_with (go_at_call 40; refine (rtext_any 0 (by unfold isI64; omega) _).mono ?_; rintro e w1 ⟨rfl, rfl⟩)
    go_ret2
    exact ⟨fun h => absurd h HNO.out, fun _ => rfl, rfl⟩
  · have h45b : (cb s 0 == 45) = false := by rw [beq_eq_false_iff_ne]; exact hno (by omega)
    have h0 : 0 < s.size := by omega
    have hd : decide ((0 : Int) < (s.size : Int)) = true := decide_eq_true (by omega)
    clear hno hz
    by_cases hsz : 20 < s.size
    · have HNO : Hid (¬ goodI s) := fun h => by have := goodI_20 s h; omega
      go_enter Try.func38, Try.ntmps38
      go_wp2
      go_ret2
      exact ⟨fun h => absurd h HNO.out, fun _ => rfl, rfl⟩
    · go_enter Try.func38, Try.ntmps38
      go_wp2
      go_loop [4, 6] (fun u i => ∃ k : Nat, k ≤ s.size ∧ i = .int .i64 k ∧ u = .int .u64 (rD s k)) (fun _ i => s.size - (intOf i).toNat)
      case atStart => exact ⟨0, Nat.zero_le _, rfl, rfl⟩
      case round =>
        obtain ⟨k, hk, rfl, rfl⟩ := hrel
        by_cases hlt : k < s.size
        · have hb := (rD_u64 s k).1
          have hc := cb_bd s k
          by_cases hc45 : cb s k = 45
          · have hsu := Lib.hid (rD_skip s k hc45)
            have hcb : (cb s k != 45) = false := by rw [hc45]; rfl
            clear hc45
            go_wp2
            go_round
            case rel => exact ⟨k + 1, by omega, by go_num, by rw [hsu.out]⟩
            case measure => simp [intOf]; omega
          · have hsu := Lib.hid (rD_walk s k hc45)
            have hcb : (cb s k != 45) = true := by rw [bne_iff_ne]; exact hc45
            clear hc45
            go_wp2
            go_round
            case rel => exact ⟨k + 1, by omega, by go_num, by rw [hsu.out]⟩
            case measure => simp [intOf]; omega
        · have hkn : k = s.size := by omega
          subst hkn
          clear hg
          have hv := valR_plus s HM.out
          have HVR := Lib.hid hv
          by_cases hgd : goodI s
          · have HV := Lib.hid (valR_good s hgd)
            have heq := str_eq (HV.out.symm ▸ hgd : textB (valR s) = s)
            have HGD := Lib.hid hgd
            clear hgd
            go_wp2_with (go_at_call 40; refine (rtext_any _ (valR_i64 s) _).mono ?_; rintro e w1 ⟨rfl, rfl⟩)
            go_ret2
            exact ⟨fun _ => by rw [← HV.out, ← HVR.out]; rfl, fun h => absurd HGD.out h, rfl⟩
          · have heq := str_ne (fun h => hgd (valR_text s h))
            have HGD := Lib.hid hgd
            clear hgd
            go_wp2_with (go_at_call 40; refine (rtext_any _ (valR_i64 s) _).mono ?_; rintro e w1 ⟨rfl, rfl⟩)
            go_ret2
            exact ⟨fun h => absurd h HGD.out, fun _ => rfl, rfl⟩
theorem rpint_any (s : ByteArray) (hs : s.size ≤ maxLen) (w : World) : Calls Try.prog 38 #[.string s] w (RPInt s w) := by
  by_cases hm : minus s = true
  · exact rpint_minus s hs hm w
  · exact rpint_plus s hs hm w
end Go.Proofs.Yteojkjhccgnljaa
