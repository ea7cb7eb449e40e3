/- For every meta, every three ints (an id, a group's id, what is wanted) and every int less the law BitsMay returns true and leaves its arguments as they were: whether one may do what is wanted is what the reference says, and who may do much may do less. No condition. -/
import Derived.Test.YteojkjhccgnljaaRows
import Derived.Test.YteojkjhccgnljaaWalkH
import Derived.WalkKit
import Derived.ProofKit
import Derived.OpenShut
import Derived.Lib.SmallJoins
import Derived.Laws.IdiomArrays
namespace Go.Proofs.Yteojkjhccgnljaa.bitsMay
open Go.ChangeShapes Go.WideShapes Go.ChangeAt Go.RowKit Go.Joins
set_option linter.unusedVariables false

theorem own : ownKnob Try.prog.godebug = none := by kernel_rfl
theorem cells3 : Try.prog.cellsOf 3 = 1 := by kernel_rfl
theorem cells26 : Try.prog.cellsOf 26 = 3 := by kernel_rfl
theorem cells40 : Try.prog.cellsOf 40 = 3 := by kernel_rfl

/-! ### The walk -/
theorem bel_new (w : World) (O : Obj) : Below w.heap.size w (w.alloc O) := (Below.refl _ _).alloc (Nat.le_refl _) O
theorem may_walk (m u g a b c less : Int) (w : World) :
    Calls Try.prog 6 #[.agg #[.int .i64 m, .int .i64 u, .int .i64 g], .agg #[.int .i64 a, .int .i64 b, .int .i64 c], .int .i64 less] w fun e w' => e = .returned (.bool true) ∧ Below w.heap.size w w' := by
  cases hb : mayB m u g a b c
  · have HB := Lib.hid hb
    clear hb
    go_enter Try.func6, Try.ntmps6
    go_wp2_with fail
    refine (may_any m u g a b c _).mono ?_
    rw [HB.out]
    rintro e w' ⟨rfl, rfl⟩
    go_wp2_with fail
    refine (rmay_any m u g a b c _).mono ?_
    rw [HB.out]
    rintro e w' ⟨rfl, rfl⟩
    go_wp2_with (go_at_call 12; refine (awake_any _).mono ?_; rintro e w1 ⟨rfl, hb1⟩)
    go_ret
    exact ⟨rfl, bel_trans (bel_new _ _) (bel_trans (bel_new _ _) (bel_trans (bel_new _ _) (bel_trans (bel_new _ _) hb1)))⟩
  · have HB := Lib.hid hb
    have HL := Lib.hid (may_less m u g a b c less hb)
    clear hb
    go_enter Try.func6, Try.ntmps6
    go_wp2_with fail
    refine (may_any m u g a b c _).mono ?_
    rw [HB.out]
    rintro e w' ⟨rfl, rfl⟩
    go_wp2_with fail
    refine (rmay_any m u g a b c _).mono ?_
    rw [HB.out]
    rintro e w' ⟨rfl, rfl⟩
    go_wp2_with fail
    refine (may_any m u g a b _ _).mono ?_
    rw [HL.out]
    rintro e w' ⟨rfl, rfl⟩
    go_wp2_with (go_at_call 12; refine (awake_any _).mono ?_; rintro e w1 ⟨rfl, hb1⟩)
    go_ret
    exact ⟨rfl, bel_trans (bel_new _ _) (bel_trans (bel_new _ _) (bel_trans (bel_new _ _) (bel_trans (bel_new _ _) (bel_trans (bel_new _ _) hb1))))⟩

/-! ### The row -/
set_option maxRecDepth 100000 in
theorem lifted (os : Os) (started : os.Started) (H : Type) (enc : TypeId × Value → H) :
    ReturnsInHanded {} Try.checked os 6 .any (Rows.bitsMaySpec.pre6 enc Try.prog Try.f6 Rows.bitsMayRow.domain false) (Rows.bitsMaySpec.post enc Try.prog Try.f6 false true false false) := by
  refine returnsInHanded_of_change (C := Try.checked) own started (by kernel_rfl) Try.func6
    (ChangeSpec.witness6 (enc := enc) (C := Try.checked) false ⟨#[], #[.agg #[.int .i64 0, .int .i64 0, .int .i64 0], .agg #[.int .i64 0, .int .i64 0, .int .i64 0], .int .i64 0], []⟩ 8 (by kernel_rfl) (by kernel_rfl) (by kernel_rfl) (by kernel_rfl)) ?_
  intro W base args ds gs before hval0 hW hcnd _
  have hval : ∀ (j : Nat) t v, Try.f6.params[j]? = some t → args[j]? = some v → Value.okWide Try.prog W .any base t v := hval0
  have hW' := hW
  obtain ⟨p, q, hA0, hV, rfl, hfz, hnd⟩ := hW
  have hA : DataW.TrodAll enc Try.prog W 0 (fun _ => true) true Try.f6.params.toList args.toList ds p := hA0
  rw [Try.params6] at hA hval
  obtain ⟨v0, vs0, d0, ds0, p0, q0, hargs, rfl, rfl, h0, r0⟩ := trodAll_cons hA
  obtain ⟨v1, vs1, d1, ds1, p1, q1, rfl, rfl, rfl, h1, r1⟩ := trodAll_cons r0
  obtain ⟨v2, vs2, d2, ds2, p2, q2, rfl, rfl, rfl, h2, r2⟩ := trodAll_cons r1
  obtain ⟨rfl, rfl, rfl⟩ := trodAll_nil r2
  obtain rfl : args = #[v0, v1, v2] := by cases args; simp_all
  obtain ⟨rfl, rfl⟩ := trodVars_none hV
  obtain ⟨c0, c1, c2, y0, y1, y2, m0, rfl, rfl, rfl, hy0, hy1, hy2⟩ := open_agg3 Try.underlying26 (by kernel_rfl) cells26 (hval 0 26 v0 rfl rfl) h0
  obtain ⟨m, e0, rfl, wm⟩ := DataW.trod_int Try.underlying3 hy0
  obtain ⟨u, e1, rfl, wu⟩ := DataW.trod_int Try.underlying3 hy1
  obtain ⟨g, e2, rfl, wg⟩ := DataW.trod_int Try.underlying3 hy2
  simp at e0 e1 e2
  subst e0 e1 e2
  obtain ⟨cs, rfl, hsz, _⟩ : ∃ cs, v1 = .agg cs ∧ cs.size = Try.prog.cellsOf 40 ∧ Row.okWide Try.prog W .any base 40 cs := by
    have := hval 1 40 v1 rfl rfl
    simpa [Value.okWide, Try.underlying40] using this
  obtain ⟨k0, k1, k2, rfl⟩ := array3 (hsz.trans cells40)
  obtain ⟨fuel, hf⟩ := h1
  obtain ⟨z0, z1, z2, m1, hx, hz0, hz1, hz2⟩ := trod_array3 Try.underlying40 cells3 (by simpa [Value.cells] using hf)
  obtain ⟨a, a0, rfl, wa⟩ := DataW.trod_int Try.underlying3 hz0
  obtain ⟨b, b0, rfl, wb⟩ := DataW.trod_int Try.underlying3 hz1
  obtain ⟨c, c0, rfl, wc⟩ := DataW.trod_int Try.underlying3 hz2
  simp at a0 b0 c0
  subst a0 b0 c0
  simp only [Prod.mk.injEq] at hx
  obtain ⟨rfl, rfl⟩ := hx
  obtain ⟨less, rfl, rfl, rfl, wl⟩ := open_int Try.underlying3 (hval 2 3 v2 rfl rfl) h2
  clear hA0 hval0
  simp only [List.append_nil] at hW'
  have s0 : ∀ (W' : World) (sp : Nat → Bool), DataW.Trod enc Try.prog W' 0 sp true 26 (.agg #[.int .i64 m, .int .i64 u, .int .i64 g]) (.agg [.lit (.int .i64 m), .lit (.int .i64 u), .lit (.int .i64 g)]) [] := fun W' sp =>
    shut_agg3 (y0 := (.lit (.int .i64 m), [])) (y1 := (.lit (.int .i64 u), [])) (y2 := (.lit (.int .i64 g), [])) Try.underlying26 (by kernel_rfl) cells26 ⟨1, by simp [DataW.trod, Try.underlying3, wm]⟩ ⟨1, by simp [DataW.trod, Try.underlying3, wu]⟩ ⟨1, by simp [DataW.trod, Try.underlying3, wg]⟩
  have s1 : ∀ (W' : World) (sp : Nat → Bool), DataW.Trod enc Try.prog W' 0 sp true 40 (.agg #[.int .i64 a, .int .i64 b, .int .i64 c]) (.agg [.lit (.int .i64 a), .lit (.int .i64 b), .lit (.int .i64 c)]) [] := fun W' sp =>
    ⟨2, by simp [DataW.trod, Value.cells, Try.underlying40, Try.underlying3, cells40, cells3, wa, wb, wc, List.range, List.range.loop]⟩
  refine (may_walk m u g a b c less W).mono fun e W' ⟨he, hg⟩ => ?_
  subst he
  exact ⟨_, rfl, _, _, _, [], _, [], hW', (trodAll_cons_mk (shut_bool Try.underlying4 _) trodAll_mk0), (trodAll_cons_mk (s0 _ _) (trodAll_cons_mk (s1 _ _) (trodAll_cons_mk (shut_int Try.underlying3 wl) trodAll_mk0))), rfl, hg.frame _, fun h => by cases h⟩

theorem over : Rows.bitsMayRow.holds Try.pinned (OpenSpec.ofChange Rows.bitsMaySpec) :=
  OpenClaim.holds_of_wide 6 Try.f6 rfl rfl rfl rfl rfl rfl rfl ⟨rfl, rfl, rfl, rfl, rfl⟩ rfl rfl rfl rfl rfl (by kernel_rfl) Try.func6 (by kernel_rfl)
    (of_decide_eq_true (by kernel_rfl)) (by unfold Func.isWrapper; first | (rw [if_pos (by decide +kernel)]; kernel_rfl) | (rw [if_neg (by decide +kernel)]; exact ⟨rfl, rfl⟩))
    (fun os started H enc _ => lifted os started H enc)

/-- The statement. -/
theorem proved : Rows.BitsMaySaid :=
  over
#print axioms proved
end Go.Proofs.Yteojkjhccgnljaa.bitsMay
