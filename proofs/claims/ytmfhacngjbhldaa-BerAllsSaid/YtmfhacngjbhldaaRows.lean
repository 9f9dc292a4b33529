/-
  No cell of these rows narrows 'for every input' (looked for: loops, veiled, ifaces, maps, wideKeys, modest, calm, conditions, laid).
  DERIVED. THE GIVEN ROWS OF THIS SEAT. 7 by the template 'for every input the law returns true; each argument reads behind the call as it read before'; 0 by the template 'total and deterministic' (their statements: YtmfhacngjbhldaaTotals.lean).
  GIVEN WITH THE SEED: the statements are not yours to turn. If you find one false, say at which input.
  Laid BY PROGRAM, IN A SANDBOX (cutbox-rows.mjs): the forced cells as the released guide's own fill.sh prints them over the translation 17a9e6c337018bc4… (all of the seat's roots in one cut). By AI agents, Wed Nov 11 2026. No macro, syntax, notation, axiom, sorry.
-/
import Derived.Test.YtmfhacngjbhldaaChecked
import GoSem.Claim
import GoSem.ClaimJoined
import GoSem.ClaimMapViews
import Derived.JoinedTies
import Derived.KernelRfl
namespace Go.Proofs.Ytmfhacngjbhldaa
/- THE CELL 'sum', in the pinned program and in every row, IS THE sha256 OF THE DUMP (.gsa) THAT YtmfhacngjbhldaaProg.lean LOADS. Nothing in Lean hashes anything: it is a label: what it is worth is what the hold of that sum in a sandbox is worth. -/
noncomputable def Try.pinned : Pinned := { name := "ytmfhacngjbhldaa", sum := "17a9e6c337018bc4a836cb88327ae03d168f1f54dca7b008e7ad28c0e3d8eabf", checked := Try.checked }
namespace Rows
def none {H : Type} : Left H := { results := [], args := [] }

/-- 'burgesslaw24.BerShortest': WHATEVER THE INPUT: true; the input reads as it did. -/
def berShortestSpec : ChangeSpec := { name := "berShortest", fn := fun _ => fun
  | [d] => { results := [.lit (.bool true)], args := [d] }
  | _ => none }
def berShortestRow : OpenClaim := { program := "ytmfhacngjbhldaa", sum := "17a9e6c337018bc4a836cb88327ae03d168f1f54dca7b008e7ad28c0e3d8eabf", func := "burgess/burgesslaw24.BerShortest", spec := "berShortest", apart := false }
def BerShortestSaid : Prop := berShortestRow.holds Try.pinned (OpenSpec.ofChange berShortestSpec)

/-- ITS FALSE NEIGHBOUR: 'it returns false'. Refute it at one input. -/
def berShortestWrong : ChangeSpec := { name := "berShortest", fn := fun _ => fun
  | [d] => { results := [.lit (.bool false)], args := [d] }
  | _ => none }
def BerShortestWrongFalsely : Prop := berShortestRow.holds Try.pinned (OpenSpec.ofChange berShortestWrong)

/-- 'burgesslaw24.BerNumbers': WHATEVER THE INPUT: true; the input reads as it did. -/
def berNumbersSpec : ChangeSpec := { name := "berNumbers", fn := fun _ => fun
  | [d1, d2] => { results := [.lit (.bool true)], args := [d1, d2] }
  | _ => none }
def berNumbersRow : OpenClaim := { program := "ytmfhacngjbhldaa", sum := "17a9e6c337018bc4a836cb88327ae03d168f1f54dca7b008e7ad28c0e3d8eabf", func := "burgess/burgesslaw24.BerNumbers", spec := "berNumbers", apart := false }
def BerNumbersSaid : Prop := berNumbersRow.holds Try.pinned (OpenSpec.ofChange berNumbersSpec)

/-- ITS FALSE NEIGHBOUR: 'it returns false'. Refute it at one input. -/
def berNumbersWrong : ChangeSpec := { name := "berNumbers", fn := fun _ => fun
  | [d1, d2] => { results := [.lit (.bool false)], args := [d1, d2] }
  | _ => none }
def BerNumbersWrongFalsely : Prop := berNumbersRow.holds Try.pinned (OpenSpec.ofChange berNumbersWrong)

/-- 'burgesslaw24.BerTags': WHATEVER THE INPUT: true; the input reads as it did. -/
def berTagsSpec : ChangeSpec := { name := "berTags", fn := fun _ => fun
  | [d1, d2, d3] => { results := [.lit (.bool true)], args := [d1, d2, d3] }
  | _ => none }
def berTagsRow : OpenClaim := { program := "ytmfhacngjbhldaa", sum := "17a9e6c337018bc4a836cb88327ae03d168f1f54dca7b008e7ad28c0e3d8eabf", func := "burgess/burgesslaw24.BerTags", spec := "berTags", apart := false }
def BerTagsSaid : Prop := berTagsRow.holds Try.pinned (OpenSpec.ofChange berTagsSpec)

/-- ITS FALSE NEIGHBOUR: 'it returns false'. Refute it at one input. -/
def berTagsWrong : ChangeSpec := { name := "berTags", fn := fun _ => fun
  | [d1, d2, d3] => { results := [.lit (.bool false)], args := [d1, d2, d3] }
  | _ => none }
def BerTagsWrongFalsely : Prop := berTagsRow.holds Try.pinned (OpenSpec.ofChange berTagsWrong)

/-- 'burgesslaw24.BerBack': WHATEVER THE INPUT: true; the input reads as it did. -/
def berBackSpec : ChangeSpec := { name := "berBack", fn := fun _ => fun
  | [d1, d2, d3, d4] => { results := [.lit (.bool true)], args := [d1, d2, d3, d4] }
  | _ => none }
def berBackRow : OpenClaim := { program := "ytmfhacngjbhldaa", sum := "17a9e6c337018bc4a836cb88327ae03d168f1f54dca7b008e7ad28c0e3d8eabf", func := "burgess/burgesslaw24.BerBack", spec := "berBack", apart := false }
def BerBackSaid : Prop := berBackRow.holds Try.pinned (OpenSpec.ofChange berBackSpec)

/-- ITS FALSE NEIGHBOUR: 'it returns false'. Refute it at one input. -/
def berBackWrong : ChangeSpec := { name := "berBack", fn := fun _ => fun
  | [d1, d2, d3, d4] => { results := [.lit (.bool false)], args := [d1, d2, d3, d4] }
  | _ => none }
def BerBackWrongFalsely : Prop := berBackRow.holds Try.pinned (OpenSpec.ofChange berBackWrong)

/-- 'burgesslaw24.BerCuts': WHATEVER THE INPUT: true; the input reads as it did. -/
def berCutsSpec : ChangeSpec := { name := "berCuts", fn := fun _ => fun
  | [d1, d2, d3] => { results := [.lit (.bool true)], args := [d1, d2, d3] }
  | _ => none }
def berCutsRow : OpenClaim := { program := "ytmfhacngjbhldaa", sum := "17a9e6c337018bc4a836cb88327ae03d168f1f54dca7b008e7ad28c0e3d8eabf", func := "burgess/burgesslaw24.BerCuts", spec := "berCuts", apart := false }
def BerCutsSaid : Prop := berCutsRow.holds Try.pinned (OpenSpec.ofChange berCutsSpec)

/-- ITS FALSE NEIGHBOUR: 'it returns false'. Refute it at one input. -/
def berCutsWrong : ChangeSpec := { name := "berCuts", fn := fun _ => fun
  | [d1, d2, d3] => { results := [.lit (.bool false)], args := [d1, d2, d3] }
  | _ => none }
def BerCutsWrongFalsely : Prop := berCutsRow.holds Try.pinned (OpenSpec.ofChange berCutsWrong)

/-- 'burgesslaw24.BerLong': WHATEVER THE INPUT: true; the input reads as it did. -/
def berLongSpec : ChangeSpec := { name := "berLong", fn := fun _ => fun
  | [d1, d2, d3] => { results := [.lit (.bool true)], args := [d1, d2, d3] }
  | _ => none }
def berLongRow : OpenClaim := { program := "ytmfhacngjbhldaa", sum := "17a9e6c337018bc4a836cb88327ae03d168f1f54dca7b008e7ad28c0e3d8eabf", func := "burgess/burgesslaw24.BerLong", spec := "berLong", apart := false }
def BerLongSaid : Prop := berLongRow.holds Try.pinned (OpenSpec.ofChange berLongSpec)

/-- ITS FALSE NEIGHBOUR: 'it returns false'. Refute it at one input. -/
def berLongWrong : ChangeSpec := { name := "berLong", fn := fun _ => fun
  | [d1, d2, d3] => { results := [.lit (.bool false)], args := [d1, d2, d3] }
  | _ => none }
def BerLongWrongFalsely : Prop := berLongRow.holds Try.pinned (OpenSpec.ofChange berLongWrong)

/-- 'burgesslaw24.BerAlls': WHATEVER THE INPUT: true; the input reads as it did. -/
def berAllsSpec : ChangeSpec := { name := "berAlls", fn := fun _ => fun
  | [d] => { results := [.lit (.bool true)], args := [d] }
  | _ => none }
def berAllsRow : OpenClaim := { program := "ytmfhacngjbhldaa", sum := "17a9e6c337018bc4a836cb88327ae03d168f1f54dca7b008e7ad28c0e3d8eabf", func := "burgess/burgesslaw24.BerAlls", spec := "berAlls", apart := false }
def BerAllsSaid : Prop := berAllsRow.holds Try.pinned (OpenSpec.ofChange berAllsSpec)

/-- ITS FALSE NEIGHBOUR: 'it returns false'. Refute it at one input. -/
def berAllsWrong : ChangeSpec := { name := "berAlls", fn := fun _ => fun
  | [d] => { results := [.lit (.bool false)], args := [d] }
  | _ => none }
def BerAllsWrongFalsely : Prop := berAllsRow.holds Try.pinned (OpenSpec.ofChange berAllsWrong)

/- THE SECOND FORM. 'bulk': how many values and letters a reading holds, each counted each time it is reached (what is shared counts as often as it is met; a slice's spare places count too). A statement '..UptoSaid' is the law's where the arguments, and the package variables that the reading takes, are together of bulk at most 1048576: NARROWER than '..Said'. Prove '..Said' where nothing that the law and all that it calls make is longer than what came in: it says more and counts as full. Else prove '..UptoSaid'. A law counts once. -/
mutual
def uptoBulk {H : Type} : DataW H → Nat
  | .lit (.string bytes) => bytes.length + 1
  | .lit _ => 1
  | .nil => 1
  | .ptr d => uptoBulk d + 1
  | .slice elems spare => uptoBulkAll elems + uptoBulkAll spare + 1
  | .agg parts => uptoBulkAll parts + 1
  | .iface _ d => uptoBulk d + 1
  | .map entries => uptoBulkEntries entries + 1
  | .held _ => 1
def uptoBulkAll {H : Type} : List (DataW H) → Nat
  | [] => 0
  | d :: r => uptoBulk d + uptoBulkAll r
def uptoBulkEntries {H : Type} : List (Lit × DataW H) → Nat
  | [] => 0
  | x :: r => uptoBulkEntry x + uptoBulkEntries r
def uptoBulkEntry {H : Type} : Lit × DataW H → Nat
  | (.string bytes, d) => bytes.length + uptoBulk d + 1
  | (_, d) => uptoBulk d + 1
 end
def uptoSmall : (H : Type) → List (DataW H) → Bool := fun _ ds => decide (uptoBulkAll ds ≤ 1048576)
def OpenSpec.upto (s : _root_.Go.ChangeSpec) : _root_.Go.OpenSpec := { _root_.Go.OpenSpec.ofChange s with cond := some uptoSmall }

/-- 'burgesslaw24.BerShortest', WHERE WHAT IT READS IS OF BULK AT MOST 1048576: true; the input reads as it did. -/
def berShortestUptoRow : OpenClaim := { program := "ytmfhacngjbhldaa", sum := "17a9e6c337018bc4a836cb88327ae03d168f1f54dca7b008e7ad28c0e3d8eabf", func := "burgess/burgesslaw24.BerShortest", spec := "berShortest", apart := false, narrowed := true }
def BerShortestUptoSaid : Prop := berShortestUptoRow.holds Try.pinned (OpenSpec.upto berShortestSpec)

/-- 'burgesslaw24.BerNumbers', WHERE WHAT IT READS IS OF BULK AT MOST 1048576: true; the input reads as it did. -/
def berNumbersUptoRow : OpenClaim := { program := "ytmfhacngjbhldaa", sum := "17a9e6c337018bc4a836cb88327ae03d168f1f54dca7b008e7ad28c0e3d8eabf", func := "burgess/burgesslaw24.BerNumbers", spec := "berNumbers", apart := false, narrowed := true }
def BerNumbersUptoSaid : Prop := berNumbersUptoRow.holds Try.pinned (OpenSpec.upto berNumbersSpec)

/-- 'burgesslaw24.BerTags', WHERE WHAT IT READS IS OF BULK AT MOST 1048576: true; the input reads as it did. -/
def berTagsUptoRow : OpenClaim := { program := "ytmfhacngjbhldaa", sum := "17a9e6c337018bc4a836cb88327ae03d168f1f54dca7b008e7ad28c0e3d8eabf", func := "burgess/burgesslaw24.BerTags", spec := "berTags", apart := false, narrowed := true }
def BerTagsUptoSaid : Prop := berTagsUptoRow.holds Try.pinned (OpenSpec.upto berTagsSpec)

/-- 'burgesslaw24.BerBack', WHERE WHAT IT READS IS OF BULK AT MOST 1048576: true; the input reads as it did. -/
def berBackUptoRow : OpenClaim := { program := "ytmfhacngjbhldaa", sum := "17a9e6c337018bc4a836cb88327ae03d168f1f54dca7b008e7ad28c0e3d8eabf", func := "burgess/burgesslaw24.BerBack", spec := "berBack", apart := false, narrowed := true }
def BerBackUptoSaid : Prop := berBackUptoRow.holds Try.pinned (OpenSpec.upto berBackSpec)

/-- 'burgesslaw24.BerCuts', WHERE WHAT IT READS IS OF BULK AT MOST 1048576: true; the input reads as it did. -/
def berCutsUptoRow : OpenClaim := { program := "ytmfhacngjbhldaa", sum := "17a9e6c337018bc4a836cb88327ae03d168f1f54dca7b008e7ad28c0e3d8eabf", func := "burgess/burgesslaw24.BerCuts", spec := "berCuts", apart := false, narrowed := true }
def BerCutsUptoSaid : Prop := berCutsUptoRow.holds Try.pinned (OpenSpec.upto berCutsSpec)

/-- 'burgesslaw24.BerLong', WHERE WHAT IT READS IS OF BULK AT MOST 1048576: true; the input reads as it did. -/
def berLongUptoRow : OpenClaim := { program := "ytmfhacngjbhldaa", sum := "17a9e6c337018bc4a836cb88327ae03d168f1f54dca7b008e7ad28c0e3d8eabf", func := "burgess/burgesslaw24.BerLong", spec := "berLong", apart := false, narrowed := true }
def BerLongUptoSaid : Prop := berLongUptoRow.holds Try.pinned (OpenSpec.upto berLongSpec)

/-- 'burgesslaw24.BerAlls', WHERE WHAT IT READS IS OF BULK AT MOST 1048576: true; the input reads as it did. -/
def berAllsUptoRow : OpenClaim := { program := "ytmfhacngjbhldaa", sum := "17a9e6c337018bc4a836cb88327ae03d168f1f54dca7b008e7ad28c0e3d8eabf", func := "burgess/burgesslaw24.BerAlls", spec := "berAlls", apart := false, narrowed := true }
def BerAllsUptoSaid : Prop := berAllsUptoRow.holds Try.pinned (OpenSpec.upto berAllsSpec)

end Rows
end Go.Proofs.Ytmfhacngjbhldaa
