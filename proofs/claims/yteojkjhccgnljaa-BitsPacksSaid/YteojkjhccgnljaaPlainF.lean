/- Plain facts on nine letters: no program in sight. -/
import Derived.Test.YteojkjhccgnljaaPlainD
namespace Go.Proofs.Yteojkjhccgnljaa
open Go.RowKit

/-! ### Nine letters -/
def pkI (b : Bool) (c : Int) : Int := if b = true then c else 45
def rnI (x above : Bool) (lo hi : Int) : Int := if above = true then (if x = true then lo else hi) else (if x = true then 120 else 45)
def rwxZ (a : Int) : List Int := [pkI (bt a 8) 114, pkI (bt a 7) 119, rnI (bt a 6) (bt a 11) 115 83, pkI (bt a 5) 114, pkI (bt a 4) 119, rnI (bt a 3) (bt a 10) 115 83, pkI (bt a 2) 114, pkI (bt a 1) 119, rnI (bt a 0) (bt a 9) 116 84]
def rwxB (a : Int) : ByteArray := strL ((rwxZ a).map fun z => UInt8.ofNat z.toNat)
theorem rwxB_size (a : Int) : (rwxB a).size = 9 := by unfold rwxB; rw [strL_size]; rfl
/-- What the program's array holds behind k rounds. -/
def rwV (a : Int) (k : Nat) : Array Value := ((List.range 9).map fun j => Value.int .u8 (if j < k then (rwxZ a).getD j 0 else 0)).toArray
theorem rwV_size (a : Int) (k : Nat) : (rwV a k).size = 9 := by unfold rwV; simp
theorem rwV_get (a : Int) (k j : Nat) (h : j < 9) : (rwV a k)[j]? = some (.int .u8 (if j < k then (rwxZ a).getD j 0 else 0)) := by unfold rwV; simp [h]
theorem rwV_zero (a : Int) : rwV a 0 = #[.int .u8 0, .int .u8 0, .int .u8 0, .int .u8 0, .int .u8 0, .int .u8 0, .int .u8 0, .int .u8 0, .int .u8 0] := rfl
theorem rwV_set (a : Int) (k : Nat) (v : Int) (hv : v = (rwxZ a).getD k 0) : (rwV a k).setIfInBounds k (.int .u8 v) = rwV a (k + 1) := by
  apply Array.ext
  · simp [rwV_size]
  · intro i h1 h2
    have hi : i < 9 := by simpa [rwV_size] using h2
    apply Option.some.inj
    rw [← Array.getElem?_eq_getElem h1, ← Array.getElem?_eq_getElem h2, rwV_get a _ i hi, Array.getElem?_setIfInBounds]
    by_cases e : k = i
    · subst e; simp [rwV_size, hi, hv]
    · rw [if_neg e, rwV_get a k i hi]
      by_cases l : i < k
      · rw [if_pos l, if_pos (by omega)]
      · rw [if_neg l, if_neg (by omega)]
theorem rwV_all (a : Int) : strL ((rwxZ a).map fun z => UInt8.ofNat z.toNat) = rwxB a := rfl
theorem rwxB_493 : rwxB 493 = ⟨#[114, 119, 120, 114, 45, 120, 114, 45, 120]⟩ := by decide +kernel
def pkU (b : Bool) (c d : UInt8) : UInt8 := if b = true then c else d
def rnU (x above : Bool) (lo hi : UInt8) : UInt8 := if above = true then (if x = true then lo else hi) else (if x = true then 120 else 45)
/-- The reference's joining comes to the same letters. -/
theorem rwx_ref (a : Int) : (((((((((⟨#[pkU (bt a 8) 114 45]⟩ ++ ⟨#[pkU (bt a 7) 119 45]⟩) ++ ⟨#[rnU (bt a 6) (bt a 11) 115 83]⟩) ++ ⟨#[pkU (bt a 5) 114 45]⟩) ++ ⟨#[pkU (bt a 4) 119 45]⟩) ++ ⟨#[rnU (bt a 3) (bt a 10) 115 83]⟩) ++ ⟨#[pkU (bt a 2) 114 45]⟩) ++ ⟨#[pkU (bt a 1) 119 45]⟩) ++ ⟨#[rnU (bt a 0) (bt a 9) 116 84]⟩) : ByteArray) = rwxB a := by
  have hp : ∀ b : Bool, pkU b 114 45 = UInt8.ofNat (pkI b 114).toNat ∧ pkU b 119 45 = UInt8.ofNat (pkI b 119).toNat := by decide
  have hr : ∀ x b : Bool, rnU x b 115 83 = UInt8.ofNat (rnI x b 115 83).toNat ∧ rnU x b 116 84 = UInt8.ofNat (rnI x b 116 84).toNat := by decide
  rw [(hp (bt a 8)).1, (hp (bt a 7)).2, (hr (bt a 6) (bt a 11)).1, (hp (bt a 5)).1, (hp (bt a 4)).2, (hr (bt a 3) (bt a 10)).1, (hp (bt a 2)).1, (hp (bt a 1)).2, (hr (bt a 0) (bt a 9)).2]
  apply ByteArray.ext
  simp [rwxB, rwxZ, strL]
end Go.Proofs.Yteojkjhccgnljaa
