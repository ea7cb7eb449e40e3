/- What the Go functions Octal and ParseOctal (both) compute: each by a walk through its text. -/
import Derived.Test.YteojkjhccgnljaaWalkA
namespace Go.Proofs.Yteojkjhccgnljaa
open Go.ChangeShapes Go.WideShapes Go.ChangeAt Go.RowKit
theorem heap_new (w : World) (c : Array Value) (t : TypeId) : (w.alloc (.cells c t)).heap[w.heap.size]? = some (.cells c t (0, 0)) := by
  show (w.heap.push _)[w.heap.size]? = _
  rw [Array.getElem?_push, if_pos rfl]
/-! ### A row of bytes as a string -/
theorem conv_bytes (w : World) (b off n cap : Nat) (zs : List Int) (hn : zs.length = n)
    (hc : ∀ j, j < n → w.cell? ⟨b, off + j, none⟩ = some (.int .u8 (zs.getD j 0))) :
    (convert 52 9 (.slice (some ⟨b, off, none⟩) n cap)).run Try.prog w = .ok (.string ⟨(zs.map fun z => UInt8.ofNat z.toNat).toArray⟩) w := by
  subst hn
  rw [run_convert_bytes_string w 52 9 5 (some ⟨b, off, none⟩) zs.length cap Try.underlying52 Try.underlying5 Try.underlying9]
  have hl := run_loadCells_list (P := Try.prog) w ⟨b, off, none⟩ (zs.map (Value.int .u8)) (fun j v hj => by
    have hj' : j < zs.length := by
      have := (List.getElem?_eq_some_iff.1 hj).1
      simpa using this
    have hadd : (⟨b, off, none⟩ : Addr).add j = ⟨b, off + j, none⟩ := by unfold Addr.add; split <;> simp_all
    rw [hadd, hc j hj']
    simp [List.getElem?_eq_getElem hj'] at hj
    rw [← hj]
    simp [List.getD, List.getElem?_eq_getElem hj'])
  simp only [List.length_map] at hl
  rw [run_bytesToString w _ zs.length cap zs hl]
  have : ∀ (l : List Int) (r : ByteArray), l.foldl (fun r n => r.push (UInt8.ofNat n.toNat)) r = ⟨r.data ++ (l.map fun z => UInt8.ofNat z.toNat).toArray⟩ := by
    intro l
    induction l with
    | nil => intro r; simp
    | cons z l ih => intro r; rw [List.foldl_cons, ih]; simp [ByteArray.push]
  rw [this]
  have he0 : ByteArray.empty.data = #[] := rfl
  rw [he0]
  simp

theorem octal_any (a : Int) (w : World) :
    Calls Try.prog 21 #[.int .i64 a] w fun e w' => e = .returned (.string (octB a)) ∧ Below w.heap.size w w' := by
  have h0 := and7 a
  have h1 := and7 (a / 8)
  have h2 := and7 (a / 64)
  have h3 := and7 (a / 512)
  have hcv : ∀ x0 x1 x2 x3 : Int, (convert 52 9 (.slice (some ⟨w.heap.size, 0, none⟩) 4 4)).run Try.prog (w.alloc (.cells #[.int .u8 x0, .int .u8 x1, .int .u8 x2, .int .u8 x3] 51)) = .ok (.string ⟨#[UInt8.ofNat x0.toNat, UInt8.ofNat x1.toNat, UInt8.ofNat x2.toNat, UInt8.ofNat x3.toNat]⟩) (w.alloc (.cells #[.int .u8 x0, .int .u8 x1, .int .u8 x2, .int .u8 x3] 51)) := by
    intro x0 x1 x2 x3
    refine conv_bytes _ w.heap.size 0 4 4 [x0, x1, x2, x3] rfl ?_
    intro j hj
    rw [cell_of_row _ w.heap.size (0 + j) _ 51 (0, 0) (heap_new _ _ _)]
    match j, hj with
    | 0, _ => rfl
    | 1, _ => rfl
    | 2, _ => rfl
    | 3, _ => rfl
  go_enter Try.func21, Try.ntmps21
  go_wp2
  refine wp_loop_rounds 5 ?_
  rw [rounds_succ]; go_wp2
  rw [rounds_succ]; go_wp2
  rw [rounds_succ]; go_wp2
  rw [rounds_succ]; go_wp2
  rw [rounds_succ]; go_wp2
  go_ret
  exact ⟨rfl, (Below.refl _ _).alloc (Nat.le_refl _) _⟩

theorem roctal_any (a : Int) (w : World) :
    Calls Try.prog 22 #[.int .i64 a] w fun e w' => e = .returned (.string (octB a)) ∧ w = w' := by
  have hb := lowI_bd a 12
  have hp : p2 12 = 4096 := rfl
  have hl : lowI a 12 = a % 4096 := rfl
  have he : ∀ n : Int, Utf8.encode (48 + n % 8) = ⟨#[dg8 n]⟩ := fun n => by rw [enc_ascii _ (by omega) (by omega)]; rfl
  rw [hp] at hb
  generalize hn : lowI a 12 = n at *
  have HN := Lib.hid hn
  have HL := Lib.hid hl
  clear hn hl hp
  go_enter Try.func22, Try.ntmps22
  go_wp2_with (go_at_call 24; refine (low_any _ 12 (by decide) _).mono ?_; rw [HN.out]; rintro e w' ⟨rfl, rfl⟩)
  refine wp_loop_rounds 5 ?_
  rw [rounds_succ]; go_wp2
  rw [rounds_succ]; go_wp2
  rw [rounds_succ]; go_wp2
  rw [rounds_succ]; go_wp2
  rw [rounds_succ]; go_wp2
  go_ret
  exact ⟨ret_str (octB_ref a n HL.out), rfl⟩

/-- What a reader of four octal digits tells. -/
def POct (s : ByteArray) (w : World) (e : Ending) (w' : World) : Prop :=
  (goodO s → e = .returned (.tuple #[.int .i64 (oF s 4), .int .i64 0])) ∧ (¬ goodO s → e = .returned (.tuple #[.int .i64 0, .int .i64 2])) ∧ w = w'
theorem poct_any (s : ByteArray) (hs : s.size ≤ maxLen) (w : World) : Calls Try.prog 19 #[.string s] w (POct s w) := by
  unfold maxLen at hs
  have hg := get_cb s
  by_cases h4 : s.size = 4
  · have H4 := Lib.hid h4
    have h4b : ((s.size : Int) != 4) = false := by rw [h4]; rfl
    have h5 : s.size ≤ 4 := by omega
    have h6 : 4 ≤ s.size := by omega
    clear h4
    go_enter Try.func19, Try.ntmps19
    go_wp2
    go_loop [4, 11] (fun n i => ∃ k : Nat, k ≤ 4 ∧ okO s k ∧ i = .int .i64 k ∧ n = .int .i64 (oF s k)) (fun _ i => 4 - (intOf i).toNat)
    case atStart => exact ⟨0, Nat.zero_le _, okO_zero s, rfl, rfl⟩
    case round =>
      obtain ⟨k, hk, hok, rfl, rfl⟩ := hrel
      have HO := Lib.hid hok
      clear hok
      by_cases hlt : k < 4
      · have hb := oF_ok s k hk HO.out
        have hc := cb_bd s k
        have hks : k < s.size := by omega
        have hsu := Lib.hid (oF_succ s k)
        by_cases hgood : 48 ≤ cb s k ∧ cb s k ≤ 55
        · obtain ⟨g1, g2⟩ := hgood
          have ho := or_oct (oF s k) (cb s k - 48) hb.1 (by omega) (by omega) (by omega)
          go_wp2
          go_round
          case rel => exact ⟨k + 1, by omega, okO_succ s k HO.out g1 g2, by go_num, by rw [hsu.out]⟩
          case measure => simp [intOf]; omega
        · have hno : ¬ goodO s := fun h => hgood (h.2 k hlt)
          have HNO := Lib.hid hno
          clear hno
          by_cases g1 : 48 ≤ cb s k
          · have g2 : 55 < cb s k := by omega
            clear hgood
            go_wp2
            go_ret2
            exact ⟨fun h => absurd h HNO.out, fun _ => rfl, rfl⟩
          · have g2 : cb s k < 48 := by omega
            clear hgood
            go_wp2
            go_ret2
            exact ⟨fun h => absurd h HNO.out, fun _ => rfl, rfl⟩
      · have hk4 : k = 4 := by omega
        subst hk4
        clear hg
        go_wp2
        go_ret2
        exact ⟨fun _ => rfl, fun h => absurd ⟨H4.out, HO.out⟩ h, rfl⟩
  · have h4b : ((s.size : Int) != 4) = true := by rw [bne_iff_ne]; omega
    have HNO := Lib.hid (show ¬ goodO s from fun h => h4 h.1)
    clear hg h4
    go_enter Try.func19, Try.ntmps19
    go_wp2
    go_ret2
    exact ⟨fun h => absurd h HNO.out, fun _ => rfl, rfl⟩
theorem str_eq {a b : ByteArray} (h : a = b) : (a.toList == b.toList) = true := by rw [h]; simp
theorem str_ne {a b : ByteArray} (h : a ≠ b) : (a.toList == b.toList) = false := by
  rw [ByteArray.toList_eq, ByteArray.toList_eq]
  refine beq_eq_false_iff_ne.2 fun e => h ?_
  apply ByteArray.ext
  exact Array.toList_inj.1 e
def RPOct (s : ByteArray) (w : World) (e : Ending) (w' : World) : Prop :=
  (goodO s → e = .returned (.tuple #[.int .i64 (oF s 4), .bool true])) ∧ (¬ goodO s → e = .returned (.tuple #[.int .i64 0, .bool false])) ∧ w = w'
theorem rpoct_any (s : ByteArray) (hs : s.size ≤ maxLen) (w : World) : Calls Try.prog 20 #[.string s] w (RPOct s w) := by
  unfold maxLen at hs
  have hg := get_cb s
  by_cases h4 : s.size = 4
  · have H4 := Lib.hid h4
    have h4b : ((s.size : Int) != 4) = false := by rw [h4]; rfl
    have h5 : s.size ≤ 4 := by omega
    have h6 : 4 ≤ s.size := by omega
    clear h4
    go_enter Try.func20, Try.ntmps20
    go_wp2
    go_loop [4, 5] (fun n i => ∃ k : Nat, k ≤ 4 ∧ i = .int .i64 k ∧ n = .int .i64 (oF s k)) (fun _ i => 4 - (intOf i).toNat)
    case atStart => exact ⟨0, Nat.zero_le _, rfl, rfl⟩
    case round =>
      obtain ⟨k, hk, rfl, rfl⟩ := hrel
      by_cases hlt : k < 4
      · have hb := oF_wide s k (by omega)
        have hc := cb_bd s k
        have hks : k < s.size := by omega
        have hsu := Lib.hid (oF_succ s k)
        go_wp2
        go_round
        case rel => exact ⟨k + 1, by omega, by go_num, by rw [hsu.out]; go_num⟩
        case measure => simp [intOf]; omega
      · have hk4 : k = 4 := by omega
        subst hk4
        clear hg
        by_cases hgood : goodO s
        · have hn := oF_ok s 4 (by omega) hgood.2
          have hneg : decide (oF s 4 < 0) = false := decide_eq_false (by omega)
          have heq := str_eq (octB_read s hgood)
          have HG := Lib.hid hgood
          clear hgood
          go_wp2_with (go_at_call 22; refine (roctal_any _ _).mono ?_; rintro e w' ⟨rfl, rfl⟩)
          go_ret2
          exact ⟨fun _ => rfl, fun h => absurd HG.out h, rfl⟩
        · have HG := Lib.hid hgood
          by_cases hn : oF s 4 < 0
          · have hneg : decide (oF s 4 < 0) = true := decide_eq_true hn
            clear hgood
            go_wp2
            go_ret2
            exact ⟨fun h => absurd h HG.out, fun _ => rfl, rfl⟩
          · have hneg : decide (oF s 4 < 0) = false := decide_eq_false hn
            have heq := str_ne (a := octB (oF s 4)) (b := s) (fun e => hgood (e ▸ octB_good _))
            clear hgood hn
            go_wp2_with (go_at_call 22; refine (roctal_any _ _).mono ?_; rintro e w' ⟨rfl, rfl⟩)
            go_ret2
            exact ⟨fun h => absurd h HG.out, fun _ => rfl, rfl⟩
  · have h4b : ((s.size : Int) != 4) = true := by rw [bne_iff_ne]; omega
    have HNO := Lib.hid (show ¬ goodO s from fun h => h4 h.1)
    have H4 := Lib.hid h4
    clear h4
    go_enter Try.func20, Try.ntmps20
    go_wp2
    go_loop [4, 5] (fun n i => ∃ k : Nat, k ≤ 5 ∧ k ≤ s.size ∧ i = .int .i64 k ∧ n = .int .i64 (oF s k)) (fun _ i => 5 - (intOf i).toNat)
    case atStart => exact ⟨0, Nat.zero_le _, Nat.zero_le _, rfl, rfl⟩
    case round =>
      obtain ⟨k, hk, hks, rfl, rfl⟩ := hrel
      by_cases hlt : k < s.size
      · have hd1 : decide (k < s.size) = true := decide_eq_true hlt
        by_cases hl5 : k < 5
        · have hb := oF_wide s k (by omega)
          have hc := cb_bd s k
          have hsu := Lib.hid (oF_succ s k)
          go_wp2
          go_round
          case rel => exact ⟨k + 1, by omega, by omega, by go_num, by rw [hsu.out]; go_num⟩
          case measure => simp [intOf]; omega
        · go_wp2
          go_ret2
          exact ⟨fun h => absurd h HNO.out, fun _ => rfl, rfl⟩
      · have hd1 : decide (k < s.size) = false := decide_eq_false hlt
        go_wp2
        go_ret2
        exact ⟨fun h => absurd h HNO.out, fun _ => rfl, rfl⟩
end Go.Proofs.Yteojkjhccgnljaa
