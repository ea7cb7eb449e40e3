/- What the Go functions letters, special, Rwx (both) compute: each by a walk through its text. -/
import Derived.Test.YteojkjhccgnljaaWalkD
import Derived.Test.YteojkjhccgnljaaPlainF
namespace Go.Proofs.Yteojkjhccgnljaa
open Go.ChangeShapes Go.WideShapes Go.ChangeAt Go.RowKit
/-! ### The table of letters, as Go lays it -/
def LET : Array Value := #[.int .i64 256, .int .u8 114, .int .i64 128, .int .u8 119, .int .i64 64, .int .u8 120, .int .i64 32, .int .u8 114, .int .i64 16, .int .u8 119, .int .i64 8, .int .u8 120, .int .i64 4, .int .u8 114, .int .i64 2, .int .u8 119, .int .i64 1, .int .u8 120]
def LZ : Array Value := #[.int .i64 0, .int .u8 0, .int .i64 0, .int .u8 0, .int .i64 0, .int .u8 0, .int .i64 0, .int .u8 0, .int .i64 0, .int .u8 0, .int .i64 0, .int .u8 0, .int .i64 0, .int .u8 0, .int .i64 0, .int .u8 0, .int .i64 0, .int .u8 0]
theorem built56 : Try.prog.built 56 [(0, .agg #[.int .i64 256, .int .u8 114]), (1, .agg #[.int .i64 128, .int .u8 119]), (2, .agg #[.int .i64 64, .int .u8 120]), (3, .agg #[.int .i64 32, .int .u8 114]), (4, .agg #[.int .i64 16, .int .u8 119]), (5, .agg #[.int .i64 8, .int .u8 120]), (6, .agg #[.int .i64 4, .int .u8 114]), (7, .agg #[.int .i64 2, .int .u8 119]), (8, .agg #[.int .i64 1, .int .u8 120])] = some LET := by kernel_rfl
theorem wpList_let {ops : Array Oper} {rest : List Oper} {o : Oper} {a : Act} {w : World} {Q : Exit → Act → World → Prop} (hg : o.guard = none) (parts : Array (Nat × Operand)) (ho : o.op = .build 56 parts)
    (hf : (parts.map fun (i, x) => (i, a.eval x)).toList = [(0, .agg #[.int .i64 256, .int .u8 114]), (1, .agg #[.int .i64 128, .int .u8 119]), (2, .agg #[.int .i64 64, .int .u8 120]), (3, .agg #[.int .i64 32, .int .u8 114]), (4, .agg #[.int .i64 16, .int .u8 119]), (5, .agg #[.int .i64 8, .int .u8 120]), (6, .agg #[.int .i64 4, .int .u8 114]), (7, .agg #[.int .i64 2, .int .u8 119]), (8, .agg #[.int .i64 1, .int .u8 120])])
    (h : wpList Try.prog ops Q rest (a.put o.dst (.agg LET)) w) : wpList Try.prog ops Q (o :: rest) a w := by
  refine wpList_build hg 56 parts ho (by rw [hf, built56]; rfl) ?_
  rw [hf, built56]; exact h
theorem let_all : LET.all (·.oneCell') = true := by decide +kernel
theorem setRow_alloc (w : World) (c d : Array Value) (t : TypeId) : (w.alloc (.cells c t)).setRow w.heap.size d = w.alloc (.cells d t) := by
  cases w with
  | mk heap tape drawn os output =>
    show ({ heap := (heap.push _).modify heap.size _, tape := tape, drawn := drawn, os := os, output := output } : World) = { heap := heap.push _, tape := tape, drawn := drawn, os := os, output := output }
    congr 1
    apply Array.ext
    · simp
    · intro k h1 h2
      simp only [Array.getElem_modify, Array.getElem_push]
      by_cases hk : k < heap.size
      · simp [hk, show heap.size ≠ k by omega]
      · have : k = heap.size := by simp at h2; omega
        subst this; simp
theorem letters_any (w : World) :
    Calls Try.prog 43 #[] w fun e w' => e = .returned (.agg LET) ∧ w.alloc (.cells LET 56) = w' := by
  go_enter Try.func43, Try.ntmps43
  go_wp2_with (first | (refine wpList_let rfl _ rfl ?_ ?_; (kernel_rfl)) | (refine wpList_store_row (cells := LET) (g := w.heap.size) (old := LZ) (t := 56) rfl 56 _ _ rfl rfl rfl (heap_new _ _ _) ?_ ?_ let_all ?_; (kernel_rfl); (rfl)))
  exact bodyPost_ret (v := .agg LET) (results_cell_row Try.results43 _ _ w.heap.size 56 LET (0, 0) (.array 9 55) rfl (setRow_heap _ _ _ _ _ _ (heap_new _ _ _)) Try.underlying56 rfl (by kernel_rfl)) rfl ⟨rfl, (setRow_alloc w LZ LET 56).symm⟩
theorem bit_lit (a b : Int) (h0 : 0 ≤ b) (h1 : b < 64) (w : World) :
    Calls Try.prog 41 #[.int .i64 a, .int .i64 b] w fun e w' => e = .returned (.bool (bt a b.toNat)) ∧ w = w' := by
  obtain ⟨n, rfl⟩ : ∃ n : Nat, b = n := ⟨b.toNat, by omega⟩
  rw [Int.toNat_natCast]
  exact bit_any a n (by omega) w
theorem sp2 (a : Int) (w : World) :
    Calls Try.prog 44 #[.int .i64 a, .int .i64 2] w fun e w' => e = .returned (.int .u8 (rnI (bt a 6) (bt a 11) 115 83)) ∧ w.alloc (.cells LET 56) = w' := by
  have hix : ∀ w, (Instr.index 56 (.agg LET) (.int .i64 2)).run Try.prog w = .ok (.agg #[.int .i64 64, .int .u8 120]) w := fun _ => by kernel_rfl
  have hfd : ∀ w, (Instr.field 55 (.agg #[.int .i64 64, .int .u8 120]) 0).run Try.prog w = .ok (.int .i64 64) w := fun _ => by kernel_rfl
  have h1 : (bits .and .i64 a 2048 != 0) = bt a 11 := and_pow_ne a 11 (by decide)
  have h2 : (bits .and .i64 a 64 != 0) = bt a 6 := and_pow_ne a 6 (by decide)
  unfold rnI
  cases e1 : bt a 11 <;> cases e2 : bt a 6
  all_goals
    rw [e1] at h1
    rw [e2] at h2
    clear e1 e2
    go_enter Try.func44, Try.ntmps44
    go_wp2_with (go_at_call 43; refine (letters_any _).mono ?_; rintro e w' ⟨rfl, rfl⟩)
    go_ret
    exact ⟨rfl, rfl⟩
theorem sp5 (a : Int) (w : World) :
    Calls Try.prog 44 #[.int .i64 a, .int .i64 5] w fun e w' => e = .returned (.int .u8 (rnI (bt a 3) (bt a 10) 115 83)) ∧ w.alloc (.cells LET 56) = w' := by
  have hix : ∀ w, (Instr.index 56 (.agg LET) (.int .i64 5)).run Try.prog w = .ok (.agg #[.int .i64 8, .int .u8 120]) w := fun _ => by kernel_rfl
  have hfd : ∀ w, (Instr.field 55 (.agg #[.int .i64 8, .int .u8 120]) 0).run Try.prog w = .ok (.int .i64 8) w := fun _ => by kernel_rfl
  have h1 : (bits .and .i64 a 1024 != 0) = bt a 10 := and_pow_ne a 10 (by decide)
  have h2 : (bits .and .i64 a 8 != 0) = bt a 3 := and_pow_ne a 3 (by decide)
  unfold rnI
  cases e1 : bt a 10 <;> cases e2 : bt a 3
  all_goals
    rw [e1] at h1
    rw [e2] at h2
    clear e1 e2
    go_enter Try.func44, Try.ntmps44
    go_wp2_with (go_at_call 43; refine (letters_any _).mono ?_; rintro e w' ⟨rfl, rfl⟩)
    go_ret
    exact ⟨rfl, rfl⟩
theorem sp8 (a : Int) (w : World) :
    Calls Try.prog 44 #[.int .i64 a, .int .i64 8] w fun e w' => e = .returned (.int .u8 (rnI (bt a 0) (bt a 9) 116 84)) ∧ w.alloc (.cells LET 56) = w' := by
  have hix : ∀ w, (Instr.index 56 (.agg LET) (.int .i64 8)).run Try.prog w = .ok (.agg #[.int .i64 1, .int .u8 120]) w := fun _ => by kernel_rfl
  have hfd : ∀ w, (Instr.field 55 (.agg #[.int .i64 1, .int .u8 120]) 0).run Try.prog w = .ok (.int .i64 1) w := fun _ => by kernel_rfl
  have h1 : (bits .and .i64 a 512 != 0) = bt a 9 := and_pow_ne a 9 (by decide)
  have h2 : (bits .and .i64 a 1 != 0) = bt a 0 := and_pow_ne a 0 (by decide)
  unfold rnI
  cases e1 : bt a 9 <;> cases e2 : bt a 0
  all_goals
    rw [e1] at h1
    rw [e2] at h2
    clear e1 e2
    go_enter Try.func44, Try.ntmps44
    go_wp2_with (go_at_call 43; refine (letters_any _).mono ?_; rintro e w' ⟨rfl, rfl⟩)
    go_ret
    exact ⟨rfl, rfl⟩
theorem row_store (w : World) (g k : Nat) (cs : Array Value) (t : TypeId) (v : Value) (h : w.heap[g]? = some (.cells cs t (0, 0))) : (w.setCell ⟨g, k, none⟩ v).heap[g]? = some (.cells (cs.setIfInBounds k v) t (0, 0)) := by
  rw [setCell_eq_setRow w g k cs t (0, 0) v h]
  exact setRow_heap w g cs _ t (0, 0) h
theorem row_free (w : World) (g k : Nat) (cs : Array Value) (t : TypeId) (h : w.heap[g]? = some (.cells cs t (0, 0))) : w.frozen? ⟨g, k, none⟩ = false := by
  simp [World.frozen?, h]
theorem row_rel (w wr : World) (B k : Nat) (cs cs' : Array Value) (t : TypeId) (v : Value) (hc : cs.setIfInBounds k v = cs') (h : wr.heap[B]? = some (.cells cs t (0, 0))) (hb : Below B w wr) (hlt : B < wr.heap.size) :
    (wr.setCell ⟨B, k, none⟩ v).heap[B]? = some (.cells cs' t (0, 0)) ∧ Below B w (wr.setCell ⟨B, k, none⟩ v) ∧ B < (wr.setCell ⟨B, k, none⟩ v).heap.size := by
  subst hc
  exact ⟨row_store wr B k cs t v h, hb.setCell (Nat.le_refl _) v, by simpa [World.setCell] using hlt⟩
theorem row_rel1 (w wr : World) (B k : Nat) (cs cs' : Array Value) (t : TypeId) (v : Value) (O : Obj) (hc : cs.setIfInBounds k v = cs') (h : wr.heap[B]? = some (.cells cs t (0, 0))) (hb : Below B w wr) (hlt : B < wr.heap.size) :
    ((wr.setCell ⟨B, k, none⟩ v).alloc O).heap[B]? = some (.cells cs' t (0, 0)) ∧ Below B w ((wr.setCell ⟨B, k, none⟩ v).alloc O) ∧ B < ((wr.setCell ⟨B, k, none⟩ v).alloc O).heap.size := by
  obtain ⟨h1, h2, h3⟩ := row_rel w wr B k cs cs' t v hc h hb hlt
  exact ⟨(heap_alloc_old _ O h3).trans h1, h2.alloc (Nat.le_of_lt h3) O, by show B < (Array.push _ O).size; rw [Array.size_push]; omega⟩
theorem row_rel2 (w wr : World) (B k : Nat) (cs cs' : Array Value) (t : TypeId) (v : Value) (O O' : Obj) (hc : cs.setIfInBounds k v = cs') (h : wr.heap[B]? = some (.cells cs t (0, 0))) (hb : Below B w wr) (hlt : B < wr.heap.size) :
    (((wr.setCell ⟨B, k, none⟩ v).alloc O).alloc O').heap[B]? = some (.cells cs' t (0, 0)) ∧ Below B w (((wr.setCell ⟨B, k, none⟩ v).alloc O).alloc O') ∧ B < (((wr.setCell ⟨B, k, none⟩ v).alloc O).alloc O').heap.size := by
  obtain ⟨h1, h2, h3⟩ := row_rel1 w wr B k cs cs' t v O hc h hb hlt
  exact ⟨(heap_alloc_old _ O' h3).trans h1, h2.alloc (Nat.le_of_lt h3) O', by show B < (Array.push _ O').size; rw [Array.size_push]; omega⟩
theorem row_start (w : World) (C : Array Value) (t : TypeId) (O : Obj) : ((w.alloc (.cells C t)).alloc O).heap[w.heap.size]? = some (.cells C t (0, 0)) ∧ Below w.heap.size w ((w.alloc (.cells C t)).alloc O) ∧ w.heap.size < ((w.alloc (.cells C t)).alloc O).heap.size := by
  have h3 : w.heap.size < (w.alloc (.cells C t)).heap.size := by show w.heap.size < (Array.push _ _).size; rw [Array.size_push]; omega
  exact ⟨(heap_alloc_old _ O h3).trans (heap_new w C t), ((Below.refl _ _).alloc (Nat.le_refl _) _).alloc (Nat.le_of_lt h3) O, by show w.heap.size < (Array.push _ O).size; rw [Array.size_push]; omega⟩
set_option maxRecDepth 100000 in
set_option maxHeartbeats 1000000 in
theorem rwx_any (a : Int) (w : World) :
    Calls Try.prog 35 #[.int .i64 a] w fun e w' => e = .returned (.string (rwxB a)) ∧ Below w.heap.size w w' := by
  have hz := Lib.hid (rwV_zero a)
  go_enter Try.func35, Try.ntmps35
  go_wp2_with (go_at_call 43; refine (letters_any _).mono ?_; rintro e w' ⟨rfl, rfl⟩)
  go_loopw [7] (fun i wr => ∃ k : Nat, k ≤ 9 ∧ i = .int .i64 k ∧ wr.heap[w.heap.size]? = some (.cells (rwV a k) 58 (0, 0)) ∧ Below w.heap.size w wr ∧ w.heap.size < wr.heap.size) (fun i _ => 9 - (intOf i).toNat)
  case atStart => exact ⟨0, Nat.zero_le _, rfl, by rw [hz.out]; exact row_start w _ 58 _⟩
  case round =>
    obtain ⟨k, hk, rfl, hrow, hbel, hlt⟩ := hrel
    have HB := Lib.hid hbel
    have HR := Lib.hid hrow
    have HL := Lib.hid hlt
    clear hz
    by_cases h0 : k = 0
    · subst h0
      have hcell : wr.cell? ⟨w.heap.size, 0, none⟩ = some (.int .u8 0) := by rw [cell_of_row _ _ _ _ _ _ hrow, rwV_get a 0 0 (by omega)]; rfl
      have hfree := row_free wr w.heap.size 0 _ _ hrow
      have hix : ∀ w, (Instr.index 56 (.agg LET) (.int .i64 0)).run Try.prog w = .ok (.agg #[.int .i64 256, .int .u8 114]) w := fun _ => by kernel_rfl
      have h1 : (bits .and .i64 a 256 != 0) = bt a 8 := and_pow_ne a 8 (by decide)
      cases e1 : bt a 8
      all_goals
        rw [e1] at h1
        have E1 := Lib.hid e1
        clear hrow hbel hk e1
        go_wp2
        go_roundw
        case rel => exact ⟨1, by omega, rfl, row_rel1 w wr _ 0 _ _ 58 _ _ (rwV_set a 0 _ (by show _ = pkI (bt a 8) 114; rw [E1.out]; rfl)) HR.out HB.out HL.out⟩
        case measure => exact (by decide : 9 - 1 < 9 - 0)
    by_cases h1 : k = 1
    · subst h1
      have hcell : wr.cell? ⟨w.heap.size, 1, none⟩ = some (.int .u8 0) := by rw [cell_of_row _ _ _ _ _ _ hrow, rwV_get a 1 1 (by omega)]; rfl
      have hfree := row_free wr w.heap.size 1 _ _ hrow
      have hix : ∀ w, (Instr.index 56 (.agg LET) (.int .i64 1)).run Try.prog w = .ok (.agg #[.int .i64 128, .int .u8 119]) w := fun _ => by kernel_rfl
      have h1 : (bits .and .i64 a 128 != 0) = bt a 7 := and_pow_ne a 7 (by decide)
      cases e1 : bt a 7
      all_goals
        rw [e1] at h1
        have E1 := Lib.hid e1
        clear hrow hbel hk e1
        go_wp2
        go_roundw
        case rel => exact ⟨2, by omega, rfl, row_rel1 w wr _ 1 _ _ 58 _ _ (rwV_set a 1 _ (by show _ = pkI (bt a 7) 119; rw [E1.out]; rfl)) HR.out HB.out HL.out⟩
        case measure => exact (by decide : 9 - 2 < 9 - 1)
    by_cases h2 : k = 2
    · subst h2
      have hcell : wr.cell? ⟨w.heap.size, 2, none⟩ = some (.int .u8 0) := by rw [cell_of_row _ _ _ _ _ _ hrow, rwV_get a 2 2 (by omega)]; rfl
      have hfree := row_free wr w.heap.size 2 _ _ hrow
      have hix : ∀ w, (Instr.index 56 (.agg LET) (.int .i64 2)).run Try.prog w = .ok (.agg #[.int .i64 64, .int .u8 120]) w := fun _ => by kernel_rfl
      clear hrow hbel hk
      go_wp2_with (go_at_call 44; refine (sp2 _ _).mono ?_; rintro e w' ⟨rfl, rfl⟩)
      go_roundw
      case rel => exact ⟨3, by omega, rfl, row_rel2 w wr _ 2 _ _ 58 _ _ _ (rwV_set a 2 _ rfl) HR.out HB.out HL.out⟩
      case measure => exact (by decide : 9 - 3 < 9 - 2)
    by_cases h3 : k = 3
    · subst h3
      have hcell : wr.cell? ⟨w.heap.size, 3, none⟩ = some (.int .u8 0) := by rw [cell_of_row _ _ _ _ _ _ hrow, rwV_get a 3 3 (by omega)]; rfl
      have hfree := row_free wr w.heap.size 3 _ _ hrow
      have hix : ∀ w, (Instr.index 56 (.agg LET) (.int .i64 3)).run Try.prog w = .ok (.agg #[.int .i64 32, .int .u8 114]) w := fun _ => by kernel_rfl
      have h1 : (bits .and .i64 a 32 != 0) = bt a 5 := and_pow_ne a 5 (by decide)
      cases e1 : bt a 5
      all_goals
        rw [e1] at h1
        have E1 := Lib.hid e1
        clear hrow hbel hk e1
        go_wp2
        go_roundw
        case rel => exact ⟨4, by omega, rfl, row_rel1 w wr _ 3 _ _ 58 _ _ (rwV_set a 3 _ (by show _ = pkI (bt a 5) 114; rw [E1.out]; rfl)) HR.out HB.out HL.out⟩
        case measure => exact (by decide : 9 - 4 < 9 - 3)
    by_cases h4 : k = 4
    · subst h4
      have hcell : wr.cell? ⟨w.heap.size, 4, none⟩ = some (.int .u8 0) := by rw [cell_of_row _ _ _ _ _ _ hrow, rwV_get a 4 4 (by omega)]; rfl
      have hfree := row_free wr w.heap.size 4 _ _ hrow
      have hix : ∀ w, (Instr.index 56 (.agg LET) (.int .i64 4)).run Try.prog w = .ok (.agg #[.int .i64 16, .int .u8 119]) w := fun _ => by kernel_rfl
      have h1 : (bits .and .i64 a 16 != 0) = bt a 4 := and_pow_ne a 4 (by decide)
      cases e1 : bt a 4
      all_goals
        rw [e1] at h1
        have E1 := Lib.hid e1
        clear hrow hbel hk e1
        go_wp2
        go_roundw
        case rel => exact ⟨5, by omega, rfl, row_rel1 w wr _ 4 _ _ 58 _ _ (rwV_set a 4 _ (by show _ = pkI (bt a 4) 119; rw [E1.out]; rfl)) HR.out HB.out HL.out⟩
        case measure => exact (by decide : 9 - 5 < 9 - 4)
    by_cases h5 : k = 5
    · subst h5
      have hcell : wr.cell? ⟨w.heap.size, 5, none⟩ = some (.int .u8 0) := by rw [cell_of_row _ _ _ _ _ _ hrow, rwV_get a 5 5 (by omega)]; rfl
      have hfree := row_free wr w.heap.size 5 _ _ hrow
      have hix : ∀ w, (Instr.index 56 (.agg LET) (.int .i64 5)).run Try.prog w = .ok (.agg #[.int .i64 8, .int .u8 120]) w := fun _ => by kernel_rfl
      clear hrow hbel hk
      go_wp2_with (go_at_call 44; refine (sp5 _ _).mono ?_; rintro e w' ⟨rfl, rfl⟩)
      go_roundw
      case rel => exact ⟨6, by omega, rfl, row_rel2 w wr _ 5 _ _ 58 _ _ _ (rwV_set a 5 _ rfl) HR.out HB.out HL.out⟩
      case measure => exact (by decide : 9 - 6 < 9 - 5)
    by_cases h6 : k = 6
    · subst h6
      have hcell : wr.cell? ⟨w.heap.size, 6, none⟩ = some (.int .u8 0) := by rw [cell_of_row _ _ _ _ _ _ hrow, rwV_get a 6 6 (by omega)]; rfl
      have hfree := row_free wr w.heap.size 6 _ _ hrow
      have hix : ∀ w, (Instr.index 56 (.agg LET) (.int .i64 6)).run Try.prog w = .ok (.agg #[.int .i64 4, .int .u8 114]) w := fun _ => by kernel_rfl
      have h1 : (bits .and .i64 a 4 != 0) = bt a 2 := and_pow_ne a 2 (by decide)
      cases e1 : bt a 2
      all_goals
        rw [e1] at h1
        have E1 := Lib.hid e1
        clear hrow hbel hk e1
        go_wp2
        go_roundw
        case rel => exact ⟨7, by omega, rfl, row_rel1 w wr _ 6 _ _ 58 _ _ (rwV_set a 6 _ (by show _ = pkI (bt a 2) 114; rw [E1.out]; rfl)) HR.out HB.out HL.out⟩
        case measure => exact (by decide : 9 - 7 < 9 - 6)
    by_cases h7 : k = 7
    · subst h7
      have hcell : wr.cell? ⟨w.heap.size, 7, none⟩ = some (.int .u8 0) := by rw [cell_of_row _ _ _ _ _ _ hrow, rwV_get a 7 7 (by omega)]; rfl
      have hfree := row_free wr w.heap.size 7 _ _ hrow
      have hix : ∀ w, (Instr.index 56 (.agg LET) (.int .i64 7)).run Try.prog w = .ok (.agg #[.int .i64 2, .int .u8 119]) w := fun _ => by kernel_rfl
      have h1 : (bits .and .i64 a 2 != 0) = bt a 1 := and_pow_ne a 1 (by decide)
      cases e1 : bt a 1
      all_goals
        rw [e1] at h1
        have E1 := Lib.hid e1
        clear hrow hbel hk e1
        go_wp2
        go_roundw
        case rel => exact ⟨8, by omega, rfl, row_rel1 w wr _ 7 _ _ 58 _ _ (rwV_set a 7 _ (by show _ = pkI (bt a 1) 119; rw [E1.out]; rfl)) HR.out HB.out HL.out⟩
        case measure => exact (by decide : 9 - 8 < 9 - 7)
    by_cases h8 : k = 8
    · subst h8
      have hcell : wr.cell? ⟨w.heap.size, 8, none⟩ = some (.int .u8 0) := by rw [cell_of_row _ _ _ _ _ _ hrow, rwV_get a 8 8 (by omega)]; rfl
      have hfree := row_free wr w.heap.size 8 _ _ hrow
      have hix : ∀ w, (Instr.index 56 (.agg LET) (.int .i64 8)).run Try.prog w = .ok (.agg #[.int .i64 1, .int .u8 120]) w := fun _ => by kernel_rfl
      clear hrow hbel hk
      go_wp2_with (go_at_call 44; refine (sp8 _ _).mono ?_; rintro e w' ⟨rfl, rfl⟩)
      go_roundw
      case rel => exact ⟨9, by omega, rfl, row_rel2 w wr _ 8 _ _ 58 _ _ _ (rwV_set a 8 _ rfl) HR.out HB.out HL.out⟩
      case measure => exact (by decide : 9 - 9 < 9 - 8)
    have h9 : k = 9 := by omega
    subst h9
    have hcv := conv_bytes wr w.heap.size 0 9 9 (rwxZ a) rfl (fun j hj => by
      rw [cell_of_row _ w.heap.size (0 + j) _ 58 (0, 0) HR.out, Nat.zero_add, rwV_get a 9 j hj, if_pos hj])
    clear hrow hbel hk h0 h1 h2 h3 h4 h5 h6 h7 h8
    go_wp2
    go_ret
    exact ⟨rfl, HB.out⟩
theorem pick_c (b : Bool) (c d : UInt8) (w : World) :
    Calls Try.prog 45 #[.bool b, .string ⟨#[c]⟩, .string ⟨#[d]⟩] w fun e w' => e = .returned (.string ⟨#[pkU b c d]⟩) ∧ w = w' := by
  have := pick_any b ⟨#[c]⟩ ⟨#[d]⟩ w
  cases b <;> exact this
theorem run_c (x b : Bool) (lo hi : UInt8) (w : World) :
    Calls Try.prog 46 #[.bool x, .bool b, .string ⟨#[lo]⟩, .string ⟨#[hi]⟩] w fun e w' => e = .returned (.string ⟨#[rnU x b lo hi]⟩) ∧ w = w' := by
  have := run_any x b ⟨#[lo]⟩ ⟨#[hi]⟩ w
  cases b <;> cases x <;> exact this
set_option maxRecDepth 100000 in
set_option maxHeartbeats 1000000 in
theorem rrwx_any (a : Int) (w : World) :
    Calls Try.prog 36 #[.int .i64 a] w fun e w' => e = .returned (.string (rwxB a)) ∧ w = w' := by
  have hR := Lib.hid (rwx_ref a)
  go_enter Try.func36, Try.ntmps36
  go_wp2_with (first | (go_at_call 41; refine (bit_lit _ _ (by omega) (by omega) _).mono ?_; rintro e w' ⟨rfl, rfl⟩) | (go_at_call 45; refine (pick_c _ _ _ _).mono ?_; rintro e w' ⟨rfl, rfl⟩) | (go_at_call 46; refine (run_c _ _ _ _ _).mono ?_; rintro e w' ⟨rfl, rfl⟩))
  go_ret
  exact ⟨ret_str hR.out, rfl⟩
end Go.Proofs.Yteojkjhccgnljaa
