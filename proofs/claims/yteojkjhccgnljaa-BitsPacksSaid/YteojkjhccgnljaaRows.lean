/-
  No cell of these rows narrows 'for every input' (looked for: loops, veiled, ifaces, maps, wideKeys, modest, calm, conditions, laid).
  DERIVED. THE GIVEN ROWS OF THIS SEAT. 7 by the template 'for every input the law returns true; each argument reads behind the call as it read before'; 0 by the template 'total and deterministic' (their statements: YteojkjhccgnljaaTotals.lean).
  GIVEN WITH THE SEED: the statements are not yours to turn. If you find one false, say at which input.
  Laid BY PROGRAM, IN A SANDBOX (cutbox-rows.mjs): the forced cells as the released guide's own fill.sh prints them over the translation 3c7b02ecc3c63b8a… (all of the seat's roots in one cut). By AI agents, Wed Nov 11 2026. No macro, syntax, notation, axiom, sorry.
-/
import Derived.Test.YteojkjhccgnljaaChecked
import GoSem.Claim
import GoSem.ClaimJoined
import GoSem.ClaimMapViews
import Derived.JoinedTies
import Derived.KernelRfl
namespace Go.Proofs.Yteojkjhccgnljaa
/- THE CELL 'sum', in the pinned program and in every row, IS THE sha256 OF THE DUMP (.gsa) THAT YteojkjhccgnljaaProg.lean LOADS. Nothing in Lean hashes anything: it is a label: what it is worth is what the hold of that sum in a sandbox is worth. -/
noncomputable def Try.pinned : Pinned := { name := "yteojkjhccgnljaa", sum := "3c7b02ecc3c63b8abfc55b18d560dfc02b2dde8cd47d9ff82b83907c3a9d6ff9", checked := Try.checked }
namespace Rows
def none {H : Type} : Left H := { results := [], args := [] }

/-- 'cellarerlaw01.BitsMasks': WHATEVER THE INPUT: true; the input reads as it did. -/
def bitsMasksSpec : ChangeSpec := { name := "bitsMasks", fn := fun _ => fun
  | [d1, d2] => { results := [.lit (.bool true)], args := [d1, d2] }
  | _ => none }
def bitsMasksRow : OpenClaim := { program := "yteojkjhccgnljaa", sum := "3c7b02ecc3c63b8abfc55b18d560dfc02b2dde8cd47d9ff82b83907c3a9d6ff9", func := "cellarer/cellarerlaw01.BitsMasks", spec := "bitsMasks", apart := false }
def BitsMasksSaid : Prop := bitsMasksRow.holds Try.pinned (OpenSpec.ofChange bitsMasksSpec)

/-- ITS FALSE NEIGHBOUR: 'it returns false'. Refute it at one input. -/
def bitsMasksWrong : ChangeSpec := { name := "bitsMasks", fn := fun _ => fun
  | [d1, d2] => { results := [.lit (.bool false)], args := [d1, d2] }
  | _ => none }
def BitsMasksWrongFalsely : Prop := bitsMasksRow.holds Try.pinned (OpenSpec.ofChange bitsMasksWrong)

/-- 'cellarerlaw01.BitsPacks': WHATEVER THE INPUT: true; the input reads as it did. -/
def bitsPacksSpec : ChangeSpec := { name := "bitsPacks", fn := fun _ => fun
  | [d1, d2] => { results := [.lit (.bool true)], args := [d1, d2] }
  | _ => none }
def bitsPacksRow : OpenClaim := { program := "yteojkjhccgnljaa", sum := "3c7b02ecc3c63b8abfc55b18d560dfc02b2dde8cd47d9ff82b83907c3a9d6ff9", func := "cellarer/cellarerlaw01.BitsPacks", spec := "bitsPacks", apart := false }
def BitsPacksSaid : Prop := bitsPacksRow.holds Try.pinned (OpenSpec.ofChange bitsPacksSpec)

/-- ITS FALSE NEIGHBOUR: 'it returns false'. Refute it at one input. -/
def bitsPacksWrong : ChangeSpec := { name := "bitsPacks", fn := fun _ => fun
  | [d1, d2] => { results := [.lit (.bool false)], args := [d1, d2] }
  | _ => none }
def BitsPacksWrongFalsely : Prop := bitsPacksRow.holds Try.pinned (OpenSpec.ofChange bitsPacksWrong)

/-- 'cellarerlaw01.BitsOctal': WHATEVER THE INPUT: true; the input reads as it did. -/
def bitsOctalSpec : ChangeSpec := { name := "bitsOctal", fn := fun _ => fun
  | [d1, d2] => { results := [.lit (.bool true)], args := [d1, d2] }
  | _ => none }
def bitsOctalRow : OpenClaim := { program := "yteojkjhccgnljaa", sum := "3c7b02ecc3c63b8abfc55b18d560dfc02b2dde8cd47d9ff82b83907c3a9d6ff9", func := "cellarer/cellarerlaw01.BitsOctal", spec := "bitsOctal", apart := false }
def BitsOctalSaid : Prop := bitsOctalRow.holds Try.pinned (OpenSpec.ofChange bitsOctalSpec)

/-- ITS FALSE NEIGHBOUR: 'it returns false'. Refute it at one input. -/
def bitsOctalWrong : ChangeSpec := { name := "bitsOctal", fn := fun _ => fun
  | [d1, d2] => { results := [.lit (.bool false)], args := [d1, d2] }
  | _ => none }
def BitsOctalWrongFalsely : Prop := bitsOctalRow.holds Try.pinned (OpenSpec.ofChange bitsOctalWrong)

/-- 'cellarerlaw01.BitsMay': WHATEVER THE INPUT: true; the input reads as it did. -/
def bitsMaySpec : ChangeSpec := { name := "bitsMay", fn := fun _ => fun
  | [d1, d2, d3] => { results := [.lit (.bool true)], args := [d1, d2, d3] }
  | _ => none }
def bitsMayRow : OpenClaim := { program := "yteojkjhccgnljaa", sum := "3c7b02ecc3c63b8abfc55b18d560dfc02b2dde8cd47d9ff82b83907c3a9d6ff9", func := "cellarer/cellarerlaw01.BitsMay", spec := "bitsMay", apart := false }
def BitsMaySaid : Prop := bitsMayRow.holds Try.pinned (OpenSpec.ofChange bitsMaySpec)

/-- ITS FALSE NEIGHBOUR: 'it returns false'. Refute it at one input. -/
def bitsMayWrong : ChangeSpec := { name := "bitsMay", fn := fun _ => fun
  | [d1, d2, d3] => { results := [.lit (.bool false)], args := [d1, d2, d3] }
  | _ => none }
def BitsMayWrongFalsely : Prop := bitsMayRow.holds Try.pinned (OpenSpec.ofChange bitsMayWrong)

/-- 'cellarerlaw01.BitsSums': WHATEVER THE INPUT: true; the input reads as it did. -/
def bitsSumsSpec : ChangeSpec := { name := "bitsSums", fn := fun _ => fun
  | [d1, d2, d3] => { results := [.lit (.bool true)], args := [d1, d2, d3] }
  | _ => none }
def bitsSumsRow : OpenClaim := { program := "yteojkjhccgnljaa", sum := "3c7b02ecc3c63b8abfc55b18d560dfc02b2dde8cd47d9ff82b83907c3a9d6ff9", func := "cellarer/cellarerlaw01.BitsSums", spec := "bitsSums", apart := false }
def BitsSumsSaid : Prop := bitsSumsRow.holds Try.pinned (OpenSpec.ofChange bitsSumsSpec)

/-- ITS FALSE NEIGHBOUR: 'it returns false'. Refute it at one input. -/
def bitsSumsWrong : ChangeSpec := { name := "bitsSums", fn := fun _ => fun
  | [d1, d2, d3] => { results := [.lit (.bool false)], args := [d1, d2, d3] }
  | _ => none }
def BitsSumsWrongFalsely : Prop := bitsSumsRow.holds Try.pinned (OpenSpec.ofChange bitsSumsWrong)

/-- 'cellarerlaw01.BitsLetters': WHATEVER THE INPUT: true; the input reads as it did. -/
def bitsLettersSpec : ChangeSpec := { name := "bitsLetters", fn := fun _ => fun
  | [d1, d2] => { results := [.lit (.bool true)], args := [d1, d2] }
  | _ => none }
def bitsLettersRow : OpenClaim := { program := "yteojkjhccgnljaa", sum := "3c7b02ecc3c63b8abfc55b18d560dfc02b2dde8cd47d9ff82b83907c3a9d6ff9", func := "cellarer/cellarerlaw01.BitsLetters", spec := "bitsLetters", apart := false }
def BitsLettersSaid : Prop := bitsLettersRow.holds Try.pinned (OpenSpec.ofChange bitsLettersSpec)

/-- ITS FALSE NEIGHBOUR: 'it returns false'. Refute it at one input. -/
def bitsLettersWrong : ChangeSpec := { name := "bitsLetters", fn := fun _ => fun
  | [d1, d2] => { results := [.lit (.bool false)], args := [d1, d2] }
  | _ => none }
def BitsLettersWrongFalsely : Prop := bitsLettersRow.holds Try.pinned (OpenSpec.ofChange bitsLettersWrong)

/-- 'cellarerlaw01.BitsTexts': WHATEVER THE INPUT: true; the input reads as it did. -/
def bitsTextsSpec : ChangeSpec := { name := "bitsTexts", fn := fun _ => fun
  | [d1, d2] => { results := [.lit (.bool true)], args := [d1, d2] }
  | _ => none }
def bitsTextsRow : OpenClaim := { program := "yteojkjhccgnljaa", sum := "3c7b02ecc3c63b8abfc55b18d560dfc02b2dde8cd47d9ff82b83907c3a9d6ff9", func := "cellarer/cellarerlaw01.BitsTexts", spec := "bitsTexts", apart := false }
def BitsTextsSaid : Prop := bitsTextsRow.holds Try.pinned (OpenSpec.ofChange bitsTextsSpec)

/-- ITS FALSE NEIGHBOUR: 'it returns false'. Refute it at one input. -/
def bitsTextsWrong : ChangeSpec := { name := "bitsTexts", fn := fun _ => fun
  | [d1, d2] => { results := [.lit (.bool false)], args := [d1, d2] }
  | _ => none }
def BitsTextsWrongFalsely : Prop := bitsTextsRow.holds Try.pinned (OpenSpec.ofChange bitsTextsWrong)

/- THE SECOND FORM. 'bulk': how many values and letters a reading holds, each counted each time it is reached (what is shared counts as often as it is met; a slice's spare places count too). A statement '..UptoSaid' is the law's where the arguments, and the package variables that the reading takes, are together of bulk at most 1048576: NARROWER than '..Said'. Prove '..Said' where nothing that the law and all that it calls make is longer than what came in: it says more and counts as full. Else prove '..UptoSaid'. A law counts once. -/
mutual
def uptoBulk {H : Type} : DataW H → Nat
  | .lit (.string bytes) => bytes.length + 1
  | .lit _ => 1
  | .nil => 1
  | .ptr d => uptoBulk d + 1
  | .slice elems spare => uptoBulkAll elems + uptoBulkAll spare + 1
  | .agg parts => uptoBulkAll parts + 1
  | .iface _ d => uptoBulk d + 1
  | .map entries => uptoBulkEntries entries + 1
  | .held _ => 1
def uptoBulkAll {H : Type} : List (DataW H) → Nat
  | [] => 0
  | d :: r => uptoBulk d + uptoBulkAll r
def uptoBulkEntries {H : Type} : List (Lit × DataW H) → Nat
  | [] => 0
  | x :: r => uptoBulkEntry x + uptoBulkEntries r
def uptoBulkEntry {H : Type} : Lit × DataW H → Nat
  | (.string bytes, d) => bytes.length + uptoBulk d + 1
  | (_, d) => uptoBulk d + 1
 end
def uptoSmall : (H : Type) → List (DataW H) → Bool := fun _ ds => decide (uptoBulkAll ds ≤ 1048576)
def OpenSpec.upto (s : _root_.Go.ChangeSpec) : _root_.Go.OpenSpec := { _root_.Go.OpenSpec.ofChange s with cond := some uptoSmall }

/-- 'cellarerlaw01.BitsMasks', WHERE WHAT IT READS IS OF BULK AT MOST 1048576: true; the input reads as it did. -/
def bitsMasksUptoRow : OpenClaim := { program := "yteojkjhccgnljaa", sum := "3c7b02ecc3c63b8abfc55b18d560dfc02b2dde8cd47d9ff82b83907c3a9d6ff9", func := "cellarer/cellarerlaw01.BitsMasks", spec := "bitsMasks", apart := false, narrowed := true }
def BitsMasksUptoSaid : Prop := bitsMasksUptoRow.holds Try.pinned (OpenSpec.upto bitsMasksSpec)

/-- 'cellarerlaw01.BitsPacks', WHERE WHAT IT READS IS OF BULK AT MOST 1048576: true; the input reads as it did. -/
def bitsPacksUptoRow : OpenClaim := { program := "yteojkjhccgnljaa", sum := "3c7b02ecc3c63b8abfc55b18d560dfc02b2dde8cd47d9ff82b83907c3a9d6ff9", func := "cellarer/cellarerlaw01.BitsPacks", spec := "bitsPacks", apart := false, narrowed := true }
def BitsPacksUptoSaid : Prop := bitsPacksUptoRow.holds Try.pinned (OpenSpec.upto bitsPacksSpec)

/-- 'cellarerlaw01.BitsOctal', WHERE WHAT IT READS IS OF BULK AT MOST 1048576: true; the input reads as it did. -/
def bitsOctalUptoRow : OpenClaim := { program := "yteojkjhccgnljaa", sum := "3c7b02ecc3c63b8abfc55b18d560dfc02b2dde8cd47d9ff82b83907c3a9d6ff9", func := "cellarer/cellarerlaw01.BitsOctal", spec := "bitsOctal", apart := false, narrowed := true }
def BitsOctalUptoSaid : Prop := bitsOctalUptoRow.holds Try.pinned (OpenSpec.upto bitsOctalSpec)

/-- 'cellarerlaw01.BitsMay', WHERE WHAT IT READS IS OF BULK AT MOST 1048576: true; the input reads as it did. -/
def bitsMayUptoRow : OpenClaim := { program := "yteojkjhccgnljaa", sum := "3c7b02ecc3c63b8abfc55b18d560dfc02b2dde8cd47d9ff82b83907c3a9d6ff9", func := "cellarer/cellarerlaw01.BitsMay", spec := "bitsMay", apart := false, narrowed := true }
def BitsMayUptoSaid : Prop := bitsMayUptoRow.holds Try.pinned (OpenSpec.upto bitsMaySpec)

/-- 'cellarerlaw01.BitsSums', WHERE WHAT IT READS IS OF BULK AT MOST 1048576: true; the input reads as it did. -/
def bitsSumsUptoRow : OpenClaim := { program := "yteojkjhccgnljaa", sum := "3c7b02ecc3c63b8abfc55b18d560dfc02b2dde8cd47d9ff82b83907c3a9d6ff9", func := "cellarer/cellarerlaw01.BitsSums", spec := "bitsSums", apart := false, narrowed := true }
def BitsSumsUptoSaid : Prop := bitsSumsUptoRow.holds Try.pinned (OpenSpec.upto bitsSumsSpec)

/-- 'cellarerlaw01.BitsLetters', WHERE WHAT IT READS IS OF BULK AT MOST 1048576: true; the input reads as it did. -/
def bitsLettersUptoRow : OpenClaim := { program := "yteojkjhccgnljaa", sum := "3c7b02ecc3c63b8abfc55b18d560dfc02b2dde8cd47d9ff82b83907c3a9d6ff9", func := "cellarer/cellarerlaw01.BitsLetters", spec := "bitsLetters", apart := false, narrowed := true }
def BitsLettersUptoSaid : Prop := bitsLettersUptoRow.holds Try.pinned (OpenSpec.upto bitsLettersSpec)

/-- 'cellarerlaw01.BitsTexts', WHERE WHAT IT READS IS OF BULK AT MOST 1048576: true; the input reads as it did. -/
def bitsTextsUptoRow : OpenClaim := { program := "yteojkjhccgnljaa", sum := "3c7b02ecc3c63b8abfc55b18d560dfc02b2dde8cd47d9ff82b83907c3a9d6ff9", func := "cellarer/cellarerlaw01.BitsTexts", spec := "bitsTexts", apart := false, narrowed := true }
def BitsTextsUptoSaid : Prop := bitsTextsUptoRow.holds Try.pinned (OpenSpec.upto bitsTextsSpec)

end Rows
end Go.Proofs.Yteojkjhccgnljaa
