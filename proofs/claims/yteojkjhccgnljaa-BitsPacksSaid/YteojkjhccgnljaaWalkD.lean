/- What the Go function Text (both) computes: each by a walk through its text. -/
import Derived.Test.YteojkjhccgnljaaWalkC
import Derived.Test.YteojkjhccgnljaaPlainE
namespace Go.Proofs.Yteojkjhccgnljaa
open Go.ChangeShapes Go.WideShapes Go.ChangeAt Go.RowKit
theorem neg_u64 (n : Int) (h : isI64 n) (hn : n < 0) : IntKind.u64.wrap (-(IntKind.u64.wrap n)) = mag n := by
  unfold isI64 at h; unfold mag; rw [if_pos hn, u64_wrap, u64_wrap]; omega
theorem mag_pos (n : Int) (hn : ¬ n < 0) : mag n = n := by unfold mag; rw [if_neg hn]
def above (m : Int) (k : Nat) : Prop := ∀ j, 1 ≤ j → j < k → 0 < tk m j
theorem above_one (m : Int) : above m 1 := fun j h1 h2 => by omega
theorem above_succ (m : Int) (k : Nat) (h : above m k) (h1 : 0 < tk m k) : above m (k + 1) := fun j a b => by
  by_cases e : j = k
  · subst e; exact h1
  · exact h j a (by omega)
theorem nd_above (m : Int) (k : Nat) (hu : isU64 m) (h : above m k) (h1 : 1 ≤ k) (h2 : k ≤ 20) (h3 : tk m k = 0) : nd m = k := nd_of hu ⟨h1, h2, h3, h⟩
theorem k_le (m : Int) (k : Nat) (hu : isU64 m) (h2 : k ≤ 20) (h3 : 0 < tk m k) : k ≤ 19 := by
  by_cases e : k = 20
  · subst e; rw [tk_20 m hu] at h3; omega
  · omega
theorem enc_dig (d : Int) (h0 : 0 ≤ d) (h1 : d < 10) : Utf8.encode (48 + d) = ⟨#[dc d]⟩ := enc_ascii _ (by omega) (by omega)
theorem textB_neg (n : Int) (hn : n < 0) (k : Nat) (h : nd (mag n) = k) : (⟨#[45]⟩ : ByteArray) ++ strL (tT (mag n) k) = textB n := by
  rw [strL_cons]; unfold textB dgs; rw [if_pos hn, h]
theorem textB_pos (n : Int) (hn : ¬ n < 0) (k : Nat) (h : nd n = k) : strL (tT n k) = textB n := by
  unfold textB dgs; rw [if_neg hn, mag_pos n hn, h]
theorem tT_one (m : Int) : tT m 1 = [dc (m % 10)] := by rw [tT_succ, tk_zero]; rfl
theorem rtext_any (n : Int) (hi : isI64 n) (w : World) :
    Calls Try.prog 40 #[.int .i64 n] w fun e w' => e = .returned (.string (textB n)) ∧ w = w' := by
  have hUm := mag_u64 n hi
  have hm0 := (mag_bd n hi).1
  have hml := (mag_bd n hi).2
  by_cases hn : n < 0
  · have hw := neg_u64 n hi hn
    have HU := Lib.hid hUm
    have HN := Lib.hid hn
    clear hi hUm
    generalize hm : mag n = m at *
    have HM := Lib.hid hm
    clear hm
    have h1 := Lib.hid (tT_one m)
    have h2 := Lib.hid (tk_succ m 0)
    have h3 := Lib.hid (tk_zero m)
    have he0 := enc_dig (m % 10) (by omega) (by omega)
    go_enter Try.func40, Try.ntmps40
    go_wp2
    go_loop [3, 4] (fun u s => ∃ k : Nat, 1 ≤ k ∧ k ≤ 20 ∧ above m k ∧ s = .string (strL (tT m k)) ∧ u = .int .u64 (tk m k)) (fun u _ => (intOf u).toNat)
    case atStart => exact ⟨1, by omega, by omega, above_one m, by rw [h1.out]; rfl, by rw [h2.out, h3.out]⟩
    case round =>
      obtain ⟨k, hk1, hk, ha, rfl, rfl⟩ := hrel
      have HA := Lib.hid ha
      clear ha he0
      have ht0 := tk_nonneg m k hm0
      have htl := tk_le m k HU.out
      have hsz : (strL (tT m k)).size ≤ 20 := by rw [strL_size, tT_length]; omega
      by_cases hz : 0 < tk m k
      · have hk19 := k_le m k HU.out hk hz
        have hsu := Lib.hid (tk_succ m k)
        have HC := Lib.hid (strL_cons (dc (tk m k % 10)) (tT m k))
        have he := enc_dig (tk m k % 10) (by omega) (by omega)
        have HZ := Lib.hid hz
        go_wp2
        go_round
        case rel => exact ⟨k + 1, by omega, by omega, above_succ m k HA.out HZ.out, by rw [HC.out]; rfl, by rw [hsu.out]⟩
        case measure => simp [intOf]; omega
      · have HK := Lib.hid (nd_above m k HU.out HA.out hk1 hk (by omega))
        go_wp2
        go_ret
        exact ⟨ret_str (by have := textB_neg n HN.out k (by rw [HM.out]; exact HK.out); rw [HM.out] at this; exact this), rfl⟩
  · have hp := mag_pos n hn
    rw [hp] at hUm hm0 hml
    have HU := Lib.hid hUm
    have HN := Lib.hid hn
    clear hi hUm hp
    have h1 := Lib.hid (tT_one n)
    have h2 := Lib.hid (tk_succ n 0)
    have h3 := Lib.hid (tk_zero n)
    have he0 := enc_dig (n % 10) (by omega) (by omega)
    go_enter Try.func40, Try.ntmps40
    go_wp2
    go_loop [3, 4] (fun u s => ∃ k : Nat, 1 ≤ k ∧ k ≤ 20 ∧ above n k ∧ s = .string (strL (tT n k)) ∧ u = .int .u64 (tk n k)) (fun u _ => (intOf u).toNat)
    case atStart => exact ⟨1, by omega, by omega, above_one n, by rw [h1.out]; rfl, by rw [h2.out, h3.out]⟩
    case round =>
      obtain ⟨k, hk1, hk, ha, rfl, rfl⟩ := hrel
      have HA := Lib.hid ha
      clear ha he0
      have ht0 := tk_nonneg n k hm0
      have htl := tk_le n k HU.out
      have hsz : (strL (tT n k)).size ≤ 20 := by rw [strL_size, tT_length]; omega
      by_cases hz : 0 < tk n k
      · have hk19 := k_le n k HU.out hk hz
        have hsu := Lib.hid (tk_succ n k)
        have HC := Lib.hid (strL_cons (dc (tk n k % 10)) (tT n k))
        have he := enc_dig (tk n k % 10) (by omega) (by omega)
        have HZ := Lib.hid hz
        go_wp2
        go_round
        case rel => exact ⟨k + 1, by omega, by omega, above_succ n k HA.out HZ.out, by rw [HC.out]; rfl, by rw [hsu.out]⟩
        case measure => simp [intOf]; omega
      · have HK := Lib.hid (nd_above n k HU.out HA.out hk1 hk (by omega))
        go_wp2
        go_ret
        exact ⟨ret_str (textB_pos n (by have := HN.out; omega) k HK.out), rfl⟩
theorem al62 : Try.prog.arrayLen 62 = 20 := by kernel_rfl
theorem el62 : Try.prog.elem 62 = 5 := by kernel_rfl
theorem sz5 (w : World) : (sizeOf 5).run Try.prog w = .ok 1 w := by kernel_rfl
theorem sl62 (w : World) (a : Nat) (b : Nat) (h : a ≤ 19) : (Instr.sliceAt 62 (.pointer (some ⟨b, 0, none⟩)) (some (.int .i64 (a : Int))) none none).run Try.prog w = .ok (.slice (some ⟨b, a, none⟩) (20 - a) (20 - a)) w := by
  rw [run_sliceAt_array_l w 62 _ (by rw [al62, el62]; exact Try.underlying62) .i64 (a : Int) (by omega) (by rw [al62]; omega), al62, el62, sz5]
  show Result.ok (slicedAt _ (a : Int).toNat 20 20 1) w = _
  unfold slicedAt
  rw [Int.toNat_natCast, if_neg (by omega)]
  have hadd : (⟨b, 0, none⟩ : Addr).add (a * 1) = ⟨b, a, none⟩ := by unfold Addr.add; split <;> simp_all
  rw [hadd]
set_option maxRecDepth 100000 in
theorem text_any (n : Int) (hi : isI64 n) (w : World) :
    Calls Try.prog 39 #[.int .i64 n] w fun e w' => e = .returned (.string (textB n)) ∧ Below w.heap.size w w' := by
  have hUm := mag_u64 n hi
  have hm0 := (mag_bd n hi).1
  have hml := (mag_bd n hi).2
  by_cases hn : n < 0
  · have hw := neg_u64 n hi hn
    have HU := Lib.hid hUm
    have HN := Lib.hid hn
    clear hi hUm
    generalize hm : mag n = m at *
    have HM := Lib.hid hm
    clear hm
    have h3 := Lib.hid (tk_zero m)
    have hz := Lib.hid (txV_zero m)
    go_enter Try.func39, Try.ntmps39
    go_wp2
    go_loopw [3, 5] (fun u at_ wr => ∃ a k : Nat, a + k = 20 ∧ above m k ∧ at_ = .int .i64 a ∧ u = .int .u64 (tk m k) ∧ wr = w.alloc (.cells (txV m k) 62)) (fun _ at_ _ => (intOf at_).toNat)
    case atStart => exact ⟨20, 0, rfl, fun j h1 h2 => by omega, rfl, by rw [h3.out], by rw [hz.out]⟩
    case round =>
      obtain ⟨a, k, hak, ha, rfl, rfl, rfl⟩ := hrel
      have HA := Lib.hid ha
      have HK := Lib.hid hak
      have ht0 := tk_nonneg m k hm0
      have htl := tk_le m k HU.out
      clear ha
      by_cases hgo : a = 20 ∨ 0 < tk m k
      · have ha1 : 1 ≤ a := by
          rcases hgo with h | h
          · omega
          · have := k_le m k HU.out (by omega) h; omega
        obtain ⟨b, rfl⟩ : ∃ b, a = b + 1 := ⟨a - 1, by omega⟩
        have hset := Lib.hid (txV_set m b k hak)
        have hcell := txV_get m k b (by omega)
        have hsu := Lib.hid (tk_succ m k)
        have HA' : Hid (above m (k + 1)) := by
          rcases hgo with h | h
          · obtain rfl : k = 0 := by omega
            exact above_one m
          · exact above_succ m k HA.out h
        have hb : b ≤ 19 := by omega
        clear hak
        by_cases h20 : b = 19
        · subst h20
          clear hgo
          go_wp2
          go_roundw
          case rel => exact ⟨19, k + 1, by have := HK.out; omega, HA'.out, rfl, by rw [hsu.out], by rw [hset.out]⟩
          case measure => simp [intOf]
        · have hne : ((b : Int) + 1 == 20) = false := by rw [beq_eq_false_iff_ne]; omega
          have hpos : 0 < tk m k := by
            rcases hgo with h | h
            · omega
            · exact h
          clear hgo h20
          go_wp2
          go_roundw
          case rel => exact ⟨b, k + 1, by have := HK.out; omega, HA'.out, by go_num, by rw [hsu.out], by rw [hset.out]⟩
          case measure => simp [intOf]
      · have hne : ((a : Int) == 20) = false := by rw [beq_eq_false_iff_ne]; omega
        have hpos : tk m k ≤ 0 := by omega
        have hal : a ≤ 19 := by omega
        have HND := Lib.hid (nd_above m k HU.out HA.out (by omega) (by omega) (by omega))
        have hkk : k = 20 - a := by omega
        subst hkk
        have hcv := conv_bytes (w.alloc (.cells (txV m (20 - a)) 62)) w.heap.size a (20 - a) (20 - a) (txZ m (20 - a)) (txZ_length m _) (fun j hj => by
          rw [cell_of_row _ w.heap.size (a + j) _ 62 (0, 0) (heap_new _ _ _), tx_cell m a (20 - a) j (by omega) hj])
        rw [txZ_str] at hcv
        have hsz : (strL (tT m (20 - a))).size ≤ 20 := by rw [strL_size, tT_length]; omega
        have hsl := fun wx => sl62 wx a w.heap.size hal
        clear hgo hak
        go_wp2
        go_ret
        exact ⟨ret_str (by have := textB_neg n HN.out (20 - a) (by rw [HM.out]; exact HND.out); rw [HM.out] at this; exact this), (Below.refl _ _).alloc (Nat.le_refl _) _⟩
  · have hp := mag_pos n hn
    rw [hp] at hUm hm0 hml
    have HU := Lib.hid hUm
    have HN := Lib.hid hn
    clear hi hUm hp
    have h3 := Lib.hid (tk_zero n)
    have hz := Lib.hid (txV_zero n)
    go_enter Try.func39, Try.ntmps39
    go_wp2
    go_loopw [3, 5] (fun u at_ wr => ∃ a k : Nat, a + k = 20 ∧ above n k ∧ at_ = .int .i64 a ∧ u = .int .u64 (tk n k) ∧ wr = w.alloc (.cells (txV n k) 62)) (fun _ at_ _ => (intOf at_).toNat)
    case atStart => exact ⟨20, 0, rfl, fun j h1 h2 => by omega, rfl, by rw [h3.out], by rw [hz.out]⟩
    case round =>
      obtain ⟨a, k, hak, ha, rfl, rfl, rfl⟩ := hrel
      have HA := Lib.hid ha
      have HK := Lib.hid hak
      have ht0 := tk_nonneg n k hm0
      have htl := tk_le n k HU.out
      clear ha
      by_cases hgo : a = 20 ∨ 0 < tk n k
      · have ha1 : 1 ≤ a := by
          rcases hgo with h | h
          · omega
          · have := k_le n k HU.out (by omega) h; omega
        obtain ⟨b, rfl⟩ : ∃ b, a = b + 1 := ⟨a - 1, by omega⟩
        have hset := Lib.hid (txV_set n b k hak)
        have hcell := txV_get n k b (by omega)
        have hsu := Lib.hid (tk_succ n k)
        have HA' : Hid (above n (k + 1)) := by
          rcases hgo with h | h
          · obtain rfl : k = 0 := by omega
            exact above_one n
          · exact above_succ n k HA.out h
        have hb : b ≤ 19 := by omega
        clear hak
        by_cases h20 : b = 19
        · subst h20
          clear hgo
          go_wp2
          go_roundw
          case rel => exact ⟨19, k + 1, by have := HK.out; omega, HA'.out, rfl, by rw [hsu.out], by rw [hset.out]⟩
          case measure => simp [intOf]
        · have hne : ((b : Int) + 1 == 20) = false := by rw [beq_eq_false_iff_ne]; omega
          have hpos : 0 < tk n k := by
            rcases hgo with h | h
            · omega
            · exact h
          clear hgo h20
          go_wp2
          go_roundw
          case rel => exact ⟨b, k + 1, by have := HK.out; omega, HA'.out, by go_num, by rw [hsu.out], by rw [hset.out]⟩
          case measure => simp [intOf]
      · have hne : ((a : Int) == 20) = false := by rw [beq_eq_false_iff_ne]; omega
        have hpos : tk n k ≤ 0 := by omega
        have hal : a ≤ 19 := by omega
        have HND := Lib.hid (nd_above n k HU.out HA.out (by omega) (by omega) (by omega))
        have hkk : k = 20 - a := by omega
        subst hkk
        have hcv := conv_bytes (w.alloc (.cells (txV n (20 - a)) 62)) w.heap.size a (20 - a) (20 - a) (txZ n (20 - a)) (txZ_length n _) (fun j hj => by
          rw [cell_of_row _ w.heap.size (a + j) _ 62 (0, 0) (heap_new _ _ _), tx_cell n a (20 - a) j (by omega) hj])
        rw [txZ_str] at hcv
        have hsz : (strL (tT n (20 - a))).size ≤ 20 := by rw [strL_size, tT_length]; omega
        have hsl := fun wx => sl62 wx a w.heap.size hal
        clear hgo hak
        go_wp2
        go_ret
        exact ⟨ret_str (textB_pos n (by have := HN.out; omega) (20 - a) HND.out), (Below.refl _ _).alloc (Nat.le_refl _) _⟩
end Go.Proofs.Yteojkjhccgnljaa
