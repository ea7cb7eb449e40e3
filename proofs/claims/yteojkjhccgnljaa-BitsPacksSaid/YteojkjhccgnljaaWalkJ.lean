/- What the Go functions Pack and Unpack (both of each) compute: each by a walk through its text; and the walk of the law BitsPacks. -/
import Derived.Test.YteojkjhccgnljaaWalkF
import Derived.Test.YteojkjhccgnljaaPlainJ
import Derived.Deep.QuietTactic
import Derived.BigQuiet
import Derived.WalkSmall
import Derived.Deep.RegionHeld3
import Derived.Deep.RegionWith
namespace Go.Proofs.Yteojkjhccgnljaa
open Go.ChangeShapes Go.WideShapes Go.ChangeAt Go.RowKit
theorem bel_new (w : World) (O : Obj) : Below w.heap.size w (w.alloc O) := (Below.refl _ _).alloc (Nat.le_refl _) O
theorem pack_any (m u g : Int) (w : World) :
    Calls Try.prog 13 #[.agg #[.int .i64 m, .int .i64 u, .int .i64 g]] w fun e w' => e = .returned (.int .u64 (packI m u g)) ∧ Below w.heap.size w w' := by
  have h1 := and4095 m
  have h2 := and26 u
  have h3 := and26 g
  have HP := Lib.hid (pack_walk m u g)
  go_enter Try.func13, Try.ntmps13
  go_wp2
  go_ret
  exact ⟨ret_int HP.out, bel_new _ _⟩
theorem low_lit (a n : Int) (h0 : 0 ≤ n) (h1 : n ≤ 26) (w : World) : Calls Try.prog 24 #[.int .i64 a, .int .i64 n] w fun e w' => e = .returned (.int .i64 (lowI a n.toNat)) ∧ w' = w := by
  obtain ⟨k, rfl⟩ : ∃ k : Nat, n = k := ⟨n.toNat, by omega⟩
  rw [Int.toNat_natCast]
  exact (low_any a k (by omega) w).mono fun _ _ h => ⟨h.1, h.2.symm⟩
theorem rpack_any (m u g : Int) (w : World) :
    Calls Try.prog 14 #[.agg #[.int .i64 m, .int .i64 u, .int .i64 g]] w fun e w' => e = .returned (.int .u64 (packI m u g)) ∧ Below w.heap.size w w' := by
  have hm := lowI_12 m
  have hu := lowI_26 u
  have hg := lowI_26 g
  have HP : Hid (m % 4096 * 4503599627370496 + u % 67108864 * 67108864 + g % 67108864 = packI m u g) := rfl
  go_enter Try.func14, Try.ntmps14
  go_wp2
  go_quiet ((go_at_call 24; exact Calls.quiet_of_same (low_lit _ _ (by omega) (by omega) _)))
  go_wp2
  go_ret
  exact ⟨ret_int HP.out, below_drewN (bel_new _ _) _⟩
theorem unpack_any (x : Int) (hx : isU64 x) (w : World) :
    Calls Try.prog 15 #[.int .u64 x] w fun e w' => e = .returned (.agg #[.int .i64 (unM x), .int .i64 (unU x), .int .i64 (unG x)]) ∧ Below w.heap.size w w' := by
  have h0 := hx.1
  have h1 : x ≤ 18446744073709551615 := by have := hx.2; omega
  have h2 := and26u x h0 (by omega)
  have h3 := and26u (x / 67108864) (by omega) (by omega)
  go_enter Try.func15, Try.ntmps15
  go_wp2
  exact bodyPost_ret (v := .agg #[.int .i64 (unM x), .int .i64 (unU x), .int .i64 (unG x)]) (results_cell_row Try.results15 _ _ w.heap.size 26 _ (0, 0) _ rfl (heap_new _ _ _) Try.underlying26 rfl (by rfl)) rfl ⟨rfl, bel_new _ _⟩
theorem runpack_any (x : Int) (hx : isU64 x) (w : World) :
    Calls Try.prog 16 #[.int .u64 x] w fun e w' => e = .returned (.agg #[.int .i64 (unM x), .int .i64 (unU x), .int .i64 (unG x)]) ∧ Below w.heap.size w w' := by
  have h0 := hx.1
  have h1 : x ≤ 18446744073709551615 := by have := hx.2; omega
  go_enter Try.func16, Try.ntmps16
  go_wp2
  exact bodyPost_ret (v := .agg #[.int .i64 (unM x), .int .i64 (unU x), .int .i64 (unG x)]) (results_cell_row Try.results16 _ _ w.heap.size 26 _ (0, 0) _ rfl (heap_new _ _ _) Try.underlying26 rfl (by rfl)) rfl ⟨rfl, bel_new _ _⟩
theorem right_bel (a b c : Int) (w : World) :
    Calls Try.prog 17 #[.agg #[.int .i64 a, .int .i64 b, .int .i64 c]] w fun e w' => e = .returned (.bool (rightB a b c)) ∧ Below w.heap.size w w' :=
  (right_any a b c w).mono fun _ _ h => ⟨h.1, h.2 ▸ bel_new _ _⟩
theorem rright_bel (a b c : Int) (w : World) :
    Calls Try.prog 18 #[.agg #[.int .i64 a, .int .i64 b, .int .i64 c]] w fun e w' => e = .returned (.bool (rightB a b c)) ∧ Below w.heap.size w w' :=
  (rright_any a b c w).mono fun _ _ h => ⟨h.1, h.2 ▸ bel_new _ _⟩
theorem ss_start (w : World) (m u g : Int) : (w.alloc (.cells #[.int .i64 m, .int .i64 u, .int .i64 g] 26)).drew.cell? ⟨w.heap.size, 0, none⟩ = some (.int .i64 m) ∧ (w.alloc (.cells #[.int .i64 m, .int .i64 u, .int .i64 g] 26)).drew.cell? ⟨w.heap.size, 1, none⟩ = some (.int .i64 u) ∧ (w.alloc (.cells #[.int .i64 m, .int .i64 u, .int .i64 g] 26)).drew.cell? ⟨w.heap.size, 2, none⟩ = some (.int .i64 g) ∧ w.heap.size < (w.alloc (.cells #[.int .i64 m, .int .i64 u, .int .i64 g] 26)).drew.heap.size ∧ Below w.heap.size w (w.alloc (.cells #[.int .i64 m, .int .i64 u, .int .i64 g] 26)).drew := by
  have h := heap_new w #[.int .i64 m, .int .i64 u, .int .i64 g] 26
  have h' : (w.alloc (.cells #[.int .i64 m, .int .i64 u, .int .i64 g] 26)).drew.heap[w.heap.size]? = some (.cells #[.int .i64 m, .int .i64 u, .int .i64 g] 26 (0, 0)) := h
  exact ⟨by rw [cell_of_row _ _ _ _ _ _ h']; rfl, by rw [cell_of_row _ _ _ _ _ _ h']; rfl, by rw [cell_of_row _ _ _ _ _ _ h']; rfl, by show w.heap.size < (Array.push _ _).size; rw [Array.size_push]; omega, (bel_new w _).drew⟩
theorem ss_next {w W w1 : World} {m u g : Int} (c0 : W.cell? ⟨w.heap.size, 0, none⟩ = some (.int .i64 m)) (c1 : W.cell? ⟨w.heap.size, 1, none⟩ = some (.int .i64 u)) (c2 : W.cell? ⟨w.heap.size, 2, none⟩ = some (.int .i64 g)) (lt : w.heap.size < W.heap.size) (bel : Below w.heap.size w W) (hb : Below W.heap.size W w1) :
    w1.cell? ⟨w.heap.size, 0, none⟩ = some (.int .i64 m) ∧ w1.cell? ⟨w.heap.size, 1, none⟩ = some (.int .i64 u) ∧ w1.cell? ⟨w.heap.size, 2, none⟩ = some (.int .i64 g) ∧ w.heap.size < w1.heap.size ∧ Below w.heap.size w w1 :=
  ⟨(hb.cell (by exact lt)).trans c0, (hb.cell (by exact lt)).trans c1, (hb.cell (by exact lt)).trans c2, Nat.lt_of_lt_of_le lt hb.size, bel_trans bel hb⟩
theorem ss_drew {w W : World} {m u g : Int} (c0 : W.cell? ⟨w.heap.size, 0, none⟩ = some (.int .i64 m)) (c1 : W.cell? ⟨w.heap.size, 1, none⟩ = some (.int .i64 u)) (c2 : W.cell? ⟨w.heap.size, 2, none⟩ = some (.int .i64 g)) (lt : w.heap.size < W.heap.size) (bel : Below w.heap.size w W) :
    W.drew.cell? ⟨w.heap.size, 0, none⟩ = some (.int .i64 m) ∧ W.drew.cell? ⟨w.heap.size, 1, none⟩ = some (.int .i64 u) ∧ W.drew.cell? ⟨w.heap.size, 2, none⟩ = some (.int .i64 g) ∧ w.heap.size < W.drew.heap.size ∧ Below w.heap.size w W.drew :=
  ⟨c0, c1, c2, lt, bel.drew⟩
set_option maxHeartbeats 1000000 in
theorem packs_walk (m u g x : Int) (hxw : (Lit.int .u64 x).wf = true) (w : World) :
    Calls Try.prog 4 #[.agg #[.int .i64 m, .int .i64 u, .int .i64 g], .int .u64 x] w fun e w' => e = .returned (.bool true) ∧ Below w.heap.size w w' := by
  have HX : Hid (isU64 x) := by
    have := bounds_u64 hxw
    exact ⟨this.1, by omega⟩
  clear hxw
  go_enter Try.func4, Try.ntmps4
  go_wp2_with fail
  go_region_held3 (fun w' => w'.cell? ⟨w.heap.size, 0, none⟩ = some (.int .i64 m) ∧ w'.cell? ⟨w.heap.size, 1, none⟩ = some (.int .i64 u) ∧ w'.cell? ⟨w.heap.size, 2, none⟩ = some (.int .i64 g) ∧ w.heap.size < w'.heap.size ∧ Below w.heap.size w w')
    (first | exact ss_start w m u g | (go_split_ands; exact ss_next (by assumption) (by assumption) (by assumption) (by assumption) (by assumption) hb1) | go_keep)
    (first | (go_at_call 13; refine (pack_any _ _ _ _).mono ?_; rintro e w1 ⟨rfl, hb1⟩) | (go_at_call 14; refine (rpack_any _ _ _ _).mono ?_; rintro e w1 ⟨rfl, hb1⟩) | (go_at_call 15; refine (unpack_any _ HX.out _).mono ?_; rintro e w1 ⟨rfl, hb1⟩) | (go_at_call 16; refine (runpack_any _ HX.out _).mono ?_; rintro e w1 ⟨rfl, hb1⟩) | (go_at_call 17; refine (right_bel _ _ _ _).mono ?_; rintro e w1 ⟨rfl, hb1⟩) | (go_at_call 18; refine (rright_bel _ _ _ _).mono ?_; rintro e w1 ⟨rfl, hb1⟩))
  go_wp2_with fail
  go_split_ands
  cases hr : rightB m u g
  · have q1 := pack_un x HX.out
    have q2 : rightB (unM x) (unU x) (unG x) = true := by unfold rightB; exact decide_eq_true (un_bd x HX.out)
    go_region_with (first | (go_at_call 13; refine (pack_any _ _ _ _).mono ?_; rintro e w1 ⟨rfl, hb1⟩; obtain ⟨d0, d1, d2, d3, d4⟩ := ss_next (w := w) (m := m) (u := u) (g := g) (by assumption) (by assumption) (by assumption) (by assumption) (by first | assumption | exact Below.drew (by assumption)) hb1) | (go_at_call 15; refine (unpack_any _ HX.out _).mono ?_; rintro e w1 ⟨rfl, hb1⟩; obtain ⟨d0, d1, d2, d3, d4⟩ := ss_next (w := w) (m := m) (u := u) (g := g) (by assumption) (by assumption) (by assumption) (by assumption) (by first | assumption | exact Below.drew (by assumption)) hb1) | (go_at_call 17; refine (right_bel _ _ _ _).mono ?_; rintro e w1 ⟨rfl, hb1⟩; obtain ⟨d0, d1, d2, d3, d4⟩ := ss_next (w := w) (m := m) (u := u) (g := g) (by assumption) (by assumption) (by assumption) (by assumption) (by first | assumption | exact Below.drew (by assumption)) hb1) | (go_at_call 12; refine (awake_any _).mono ?_; rintro e w1 ⟨rfl, hb1⟩; obtain ⟨d0, d1, d2, d3, d4⟩ := ss_next (w := w) (m := m) (u := u) (g := g) (by assumption) (by assumption) (by assumption) (by assumption) (by first | assumption | exact Below.drew (by assumption)) hb1))
    all_goals
      go_wp2
      go_ret
      exact ⟨rfl, by assumption⟩
  · have hb : 0 ≤ m ∧ m ≤ 4095 ∧ 0 ≤ u ∧ u ≤ 67108863 ∧ 0 ≤ g ∧ g ≤ 67108863 := by unfold rightB at hr; exact of_decide_eq_true hr
    obtain ⟨p1, p2, p3⟩ := un_pack m u g ⟨hb.1, hb.2.1⟩ ⟨hb.2.2.1, hb.2.2.2.1⟩ hb.2.2.2.2
    have q1 := pack_un x HX.out
    have q2 : rightB (unM x) (unU x) (unG x) = true := by unfold rightB; exact decide_eq_true (un_bd x HX.out)
    clear hb
    go_region_held3 (fun w' => w'.cell? ⟨w.heap.size, 0, none⟩ = some (.int .i64 m) ∧ w'.cell? ⟨w.heap.size, 1, none⟩ = some (.int .i64 u) ∧ w'.cell? ⟨w.heap.size, 2, none⟩ = some (.int .i64 g) ∧ w.heap.size < w'.heap.size ∧ Below w.heap.size w w')
      (first | (go_split_ands; exact ss_drew (by assumption) (by assumption) (by assumption) (by assumption) (by assumption)) | (go_split_ands; exact ss_next (by assumption) (by assumption) (by assumption) (by assumption) (by assumption) hb1) | go_keep)
      (first | (go_at_call 13; refine (pack_any _ _ _ _).mono ?_; rintro e w1 ⟨rfl, hb1⟩) | (go_at_call 15; refine (unpack_any _ (by first | exact HX.out | exact packI_u64 _ _ _) _).mono ?_; rintro e w1 ⟨rfl, hb1⟩) | (go_at_call 17; refine (right_bel _ _ _ _).mono ?_; rintro e w1 ⟨rfl, hb1⟩) | (go_at_call 12; refine (awake_any _).mono ?_; rintro e w1 ⟨rfl, hb1⟩))
    go_wp2
    go_ret
    go_split_ands
    exact ⟨rfl, by assumption⟩
end Go.Proofs.Yteojkjhccgnljaa
