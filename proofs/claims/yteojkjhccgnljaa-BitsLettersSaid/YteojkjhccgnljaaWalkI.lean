/- What the Go function ParseRwx (both) computes: each by a walk through its text. -/
import Derived.Test.YteojkjhccgnljaaWalkF
import Derived.Test.YteojkjhccgnljaaPlainI
import Derived.Deep.QuietTactic
import Derived.BigQuiet
import Derived.WalkSmall
namespace Go.Proofs.Yteojkjhccgnljaa
open Go.ChangeShapes Go.WideShapes Go.ChangeAt Go.RowKit
/-- Row k of the table of letters. -/
theorem let_r0 (w : World) : (Instr.index 56 (.agg LET) (.int .i64 0)).run Try.prog w = .ok (.agg #[.int .i64 256, .int .u8 114]) w := by kernel_rfl
theorem let_r1 (w : World) : (Instr.index 56 (.agg LET) (.int .i64 1)).run Try.prog w = .ok (.agg #[.int .i64 128, .int .u8 119]) w := by kernel_rfl
theorem let_r2 (w : World) : (Instr.index 56 (.agg LET) (.int .i64 2)).run Try.prog w = .ok (.agg #[.int .i64 64, .int .u8 120]) w := by kernel_rfl
theorem let_r3 (w : World) : (Instr.index 56 (.agg LET) (.int .i64 3)).run Try.prog w = .ok (.agg #[.int .i64 32, .int .u8 114]) w := by kernel_rfl
theorem let_r4 (w : World) : (Instr.index 56 (.agg LET) (.int .i64 4)).run Try.prog w = .ok (.agg #[.int .i64 16, .int .u8 119]) w := by kernel_rfl
theorem let_r5 (w : World) : (Instr.index 56 (.agg LET) (.int .i64 5)).run Try.prog w = .ok (.agg #[.int .i64 8, .int .u8 120]) w := by kernel_rfl
theorem let_r6 (w : World) : (Instr.index 56 (.agg LET) (.int .i64 6)).run Try.prog w = .ok (.agg #[.int .i64 4, .int .u8 114]) w := by kernel_rfl
theorem let_r7 (w : World) : (Instr.index 56 (.agg LET) (.int .i64 7)).run Try.prog w = .ok (.agg #[.int .i64 2, .int .u8 119]) w := by kernel_rfl
theorem let_r8 (w : World) : (Instr.index 56 (.agg LET) (.int .i64 8)).run Try.prog w = .ok (.agg #[.int .i64 1, .int .u8 120]) w := by kernel_rfl
theorem let_at (k : Nat) (hk : k < 9) (w : World) : (Instr.index 56 (.agg LET) (.int .i64 (k : Int))).run Try.prog w = .ok (.agg #[.int .i64 ((bitN k : Nat) : Int), .int .u8 ((sgN k : Nat) : Int)]) w :=
  match k, hk with
  | 0, _ => let_r0 w
  | 1, _ => let_r1 w
  | 2, _ => let_r2 w
  | 3, _ => let_r3 w
  | 4, _ => let_r4 w
  | 5, _ => let_r5 w
  | 6, _ => let_r6 w
  | 7, _ => let_r7 w
  | 8, _ => let_r8 w
theorem bel_new (w : World) (O : Obj) : Below w.heap.size w (w.alloc O) := (Below.refl _ _).alloc (Nat.le_refl _) O
theorem up_walk (k : Nat) (hk : k < 9) : wrap64 ((2 : Int) ^ (11 - k / 3)) = ((upN k : Nat) : Int) := by
  have h : ((2 : Int) ^ (11 - k / 3)) = ((upN k : Nat) : Int) := by unfold upN; simp
  have := upN_lt k hk
  rw [h]; unfold wrap64; omega
def PRwx (s : ByteArray) (w : World) (e : Ending) (w' : World) : Prop :=
  (goodR s → e = .returned (.tuple #[.int .i64 ((pN s 9 : Nat) : Int), .int .i64 0])) ∧ (¬ goodR s → e = .returned (.tuple #[.int .i64 0, .int .i64 2])) ∧ Below w.heap.size w w'
set_option maxRecDepth 100000 in
set_option maxHeartbeats 1000000 in
theorem prwx_any (s : ByteArray) (hs : s.size ≤ maxLen) (w : World) : Calls Try.prog 33 #[.string s] w (PRwx s w) := by
  unfold maxLen at hs
  have hg := get_cb s
  by_cases h9 : s.size = 9
  · have H9 := Lib.hid h9
    have h9b : ((s.size : Int) != 9) = false := by rw [h9]; rfl
    have h5 : s.size ≤ 9 := by omega
    have h6 : 9 ≤ s.size := by omega
    clear h9
    go_enter Try.func33, Try.ntmps33
    go_wp2_with (go_at_call 43; refine (letters_any _).mono ?_; rintro e w' ⟨rfl, rfl⟩)
    go_loopw [4, 13] (fun md i wr => ∃ k : Nat, k ≤ 9 ∧ i = .int .i64 k ∧ md = .int .i64 ((pN s k : Nat) : Int) ∧ Below w.heap.size w wr) (fun _ i _ => 9 - (intOf i).toNat)
    case atStart => exact ⟨0, Nat.zero_le _, rfl, rfl, bel_trans ((Below.refl _ _).alloc (Nat.le_refl _) _) ((Below.refl _ _).alloc (Nat.le_refl _) _)⟩
    case round =>
      obtain ⟨k, hk, rfl, rfl, hbel⟩ := hrel
      have HB := Lib.hid hbel
      clear hbel
      by_cases hlt : k < 9
      · have hix := let_at k hlt
        have hcc := cb_bd s k
        have hks : k < s.size := by omega
        have hsu := Lib.hid (pN_succ s k)
        have hb1 := bitN_lt k hlt
        have hp1 := pN_lt s k hk
        by_cases c1 : cb s k = (sgN k : Int)
        · have c1b : (cb s k == (sgN k : Int)) = true := by rw [c1]; simp
          have HC : Hid (ctr k (cb s k) = bitN k) := by show ctr k (cb s k) = bitN k; unfold ctr; rw [if_pos c1]
          have ho := or_nat (pN s k) (bitN k) hp1 hb1
          clear c1
          go_wp2
          go_roundw
          case rel => exact ⟨k + 1, by omega, by go_num, by rw [hsu.out, HC.out], bel_trans HB.out (bel_new _ _)⟩
          case measure => simp [intOf]; omega
        · have hup := Lib.hid (up_walk k hlt)
          have hu1 := upN_lt k hlt
          have ho2 := Lib.hid (or_nat (bitN k) (upN k) hb1 hu1)
          have ho1 := Lib.hid (or_nat (pN s k) (bitN k ||| upN k) hp1 (or_4096 _ _ hb1 hu1))
          have ho3 := Lib.hid (or_nat (pN s k) (upN k) hp1 hu1)
          have c1b : (cb s k == (sgN k : Int)) = false := by rw [beq_eq_false_iff_ne]; exact c1
          by_cases c2 : cb s k = 115
          · have c2b : (cb s k == 115) = true := by rw [c2]; rfl
            have HST : Hid (ctr k (cb s k) = bitN k ||| upN k) := by show ctr k (cb s k) = _; unfold ctr; rw [if_neg c1, if_pos (Or.inl c2)]
            clear c1 c2
            go_wp2
            go_quiet (fail)
            go_wp2
            go_roundw
            case rel => exact ⟨k + 1, by omega, by go_num, by rw [hup.out, ho2.out, ho1.out, hsu.out, HST.out], below_drewN (bel_trans HB.out (bel_new _ _)) _⟩
            case measure => simp [intOf]; omega
          · have c2b : (cb s k == 115) = false := by rw [beq_eq_false_iff_ne]; exact c2
            by_cases c3 : cb s k = 116
            · have c3b : (cb s k == 116) = true := by rw [c3]; rfl
              have HST : Hid (ctr k (cb s k) = bitN k ||| upN k) := by show ctr k (cb s k) = _; unfold ctr; rw [if_neg c1, if_pos (Or.inr c3)]
              clear c1 c2 c3
              go_wp2
              go_quiet (fail)
              go_wp2
              go_roundw
              case rel => exact ⟨k + 1, by omega, by go_num, by rw [hup.out, ho2.out, ho1.out, hsu.out, HST.out], below_drewN (bel_trans HB.out (bel_new _ _)) _⟩
              case measure => simp [intOf]; omega
            · have c3b : (cb s k == 116) = false := by rw [beq_eq_false_iff_ne]; exact c3
              by_cases c4 : cb s k = 83
              · have c4b : (cb s k == 83) = true := by rw [c4]; rfl
                have HST : Hid (ctr k (cb s k) = upN k) := by show ctr k (cb s k) = _; unfold ctr; rw [if_neg c1, if_neg (fun h => h.elim c2 c3), if_pos (Or.inl c4)]
                clear c1 c2 c3 c4
                go_wp2
                go_roundw
                case rel => exact ⟨k + 1, by omega, by go_num, by rw [hup.out, ho3.out, hsu.out, HST.out], bel_trans HB.out (bel_new _ _)⟩
                case measure => simp [intOf]; omega
              · have c4b : (cb s k == 83) = false := by rw [beq_eq_false_iff_ne]; exact c4
                by_cases c5 : cb s k = 84
                · have c5b : (cb s k == 84) = true := by rw [c5]; rfl
                  have HST : Hid (ctr k (cb s k) = upN k) := by show ctr k (cb s k) = _; unfold ctr; rw [if_neg c1, if_neg (fun h => h.elim c2 c3), if_pos (Or.inr c5)]
                  clear c1 c2 c3 c4 c5
                  go_wp2
                  go_roundw
                  case rel => exact ⟨k + 1, by omega, by go_num, by rw [hup.out, ho3.out, hsu.out, HST.out], bel_trans HB.out (bel_new _ _)⟩
                  case measure => simp [intOf]; omega
                · have c5b : (cb s k == 84) = false := by rw [beq_eq_false_iff_ne]; exact c5
                  have HST : Hid (ctr k (cb s k) = 0) := by show ctr k (cb s k) = _; unfold ctr; rw [if_neg c1, if_neg (fun h => h.elim c2 c3), if_neg (fun h => h.elim c4 c5)]
                  clear c1 c2 c3 c4 c5
                  go_wp2
                  go_roundw
                  case rel => exact ⟨k + 1, by omega, by go_num, by rw [hsu.out, HST.out, Nat.or_zero], bel_trans HB.out (bel_new _ _)⟩
                  case measure => simp [intOf]; omega
      · have hk9 : k = 9 := by omega
        subst hk9
        clear hg
        by_cases hgd : goodR s
        · have heq := str_eq hgd
          have HGD := Lib.hid hgd
          clear hgd
          go_wp2_with (go_at_call 35; refine (rwx_any _ _).mono ?_; rintro e w1 ⟨rfl, hb1⟩)
          go_ret2
          exact ⟨fun _ => rfl, fun h => absurd HGD.out h, bel_trans HB.out hb1⟩
        · have heq := str_ne hgd
          have HGD := Lib.hid hgd
          clear hgd
          go_wp2_with (go_at_call 35; refine (rwx_any _ _).mono ?_; rintro e w1 ⟨rfl, hb1⟩)
          go_ret2
          exact ⟨fun h => absurd h HGD.out, fun _ => rfl, bel_trans HB.out hb1⟩
  · have h9b : ((s.size : Int) != 9) = true := by rw [bne_iff_ne]; omega
    have HNO : Hid (¬ goodR s) := fun h => h9 (goodR_size s h)
    clear hg h9
    go_enter Try.func33, Try.ntmps33
    go_wp2_with (go_at_call 43; refine (letters_any _).mono ?_; rintro e w' ⟨rfl, rfl⟩)
    go_ret2
    exact ⟨fun h => absurd h HNO.out, fun _ => rfl, bel_new _ _⟩
def RPRwx (s : ByteArray) (w : World) (e : Ending) (w' : World) : Prop :=
  (goodR s → e = .returned (.tuple #[.int .i64 ((pN s 9 : Nat) : Int), .bool true])) ∧ (¬ goodR s → e = .returned (.tuple #[.int .i64 0, .bool false])) ∧ w = w'
/-- No mode below k has these letters. -/
def none_ (s : ByteArray) (k : Nat) : Prop := ∀ j : Nat, j < k → rwxB (j : Int) ≠ s
theorem none_zero (s : ByteArray) : none_ s 0 := fun j h => by omega
theorem none_succ (s : ByteArray) (k : Nat) (h : none_ s k) (h1 : rwxB (k : Int) ≠ s) : none_ s (k + 1) := fun j hj => by
  by_cases e : j = k
  · subst e; exact h1
  · exact h j (by omega)
theorem none_all (s : ByteArray) (h : none_ s 4096) : ¬ goodR s := fun hg => h (pN s 9) (pN_lt s 9 (by omega)) hg
set_option maxRecDepth 100000 in
theorem rprwx_any (s : ByteArray) (hs : s.size ≤ maxLen) (w : World) : Calls Try.prog 34 #[.string s] w (RPRwx s w) := by
  have hsz : s.size ≤ 9223372036854775807 := hs
  by_cases h9 : s.size = 9
  · have h9b : ((s.size : Int) != 9) = false := by rw [h9]; rfl
    clear h9
    go_enter Try.func34, Try.ntmps34
    go_wp2
    go_loop [4] (fun i => ∃ k : Nat, k ≤ 4096 ∧ none_ s k ∧ i = .int .i64 k) (fun i => 4096 - (intOf i).toNat)
    case atStart => exact ⟨0, Nat.zero_le _, none_zero s, rfl⟩
    case round =>
      obtain ⟨k, hk, hn, rfl⟩ := hrel
      have HN := Lib.hid hn
      clear hn
      by_cases hlt : k < 4096
      · by_cases hr : rwxB (k : Int) = s
        · have heq := str_eq hr
          have HG := Lib.hid (goodR_one s k hlt hr)
          clear hr
          go_wp2_with (go_at_call 36; refine (rrwx_any _ _).mono ?_; rintro e w' ⟨rfl, rfl⟩)
          go_ret2
          exact ⟨fun _ => by rw [HG.out.2]; rfl, fun h => absurd HG.out.1 h, rfl⟩
        · have heq := str_ne hr
          have HS := Lib.hid (none_succ s k HN.out hr)
          clear hr
          go_wp2_with (go_at_call 36; refine (rrwx_any _ _).mono ?_; rintro e w' ⟨rfl, rfl⟩)
          go_round
          case rel => exact ⟨k + 1, by omega, HS.out, by go_num⟩
          case measure => simp [intOf]; omega
      · have hk4 : k = 4096 := by omega
        subst hk4
        have HNO := Lib.hid (none_all s HN.out)
        go_wp2
        go_ret2
        exact ⟨fun h => absurd h HNO.out, fun _ => rfl, rfl⟩
  · have h9b : ((s.size : Int) != 9) = true := by rw [bne_iff_ne]; omega
    have HNO : Hid (¬ goodR s) := fun h => h9 (goodR_size s h)
    clear h9
    go_enter Try.func34, Try.ntmps34
    go_wp2
    go_ret2
    exact ⟨fun h => absurd h HNO.out, fun _ => rfl, rfl⟩
end Go.Proofs.Yteojkjhccgnljaa
