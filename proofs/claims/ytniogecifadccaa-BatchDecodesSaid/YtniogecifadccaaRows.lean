/-
  No cell of these rows narrows 'for every input' (looked for: loops, veiled, ifaces, maps, wideKeys, modest, calm, conditions, laid).
  DERIVED. THE GIVEN ROWS OF THIS SEAT. 6 by the template 'for every input the law returns true; each argument reads behind the call as it read before'; 0 by the template 'total and deterministic' (their statements: YtniogecifadccaaTotals.lean).
  GIVEN WITH THE SEED: the statements are not yours to turn. If you find one false, say at which input.
  Laid BY PROGRAM, IN A SANDBOX (cutbox-rows.mjs): the forced cells as the released guide's own fill.sh prints them over the translation f6c0c1d5897c227b… (all of the seat's roots in one cut). By AI agents, Wed Nov 11 2026. No macro, syntax, notation, axiom, sorry.
-/
import Derived.Test.YtniogecifadccaaChecked
import GoSem.Claim
import GoSem.ClaimJoined
import GoSem.ClaimMapViews
import Derived.JoinedTies
import Derived.KernelRfl
namespace Go.Proofs.Ytniogecifadccaa
/- THE CELL 'sum', in the pinned program and in every row, IS THE sha256 OF THE DUMP (.gsa) THAT YtniogecifadccaaProg.lean LOADS. Nothing in Lean hashes anything: it is a label: what it is worth is what the hold of that sum in a sandbox is worth. -/
noncomputable def Try.pinned : Pinned := { name := "ytniogecifadccaa", sum := "f6c0c1d5897c227bacf438e068665c30f1b8485ad56c6d588cb91c34a6e2b583", checked := Try.checked }
namespace Rows
def none {H : Type} : Left H := { results := [], args := [] }

/-- 'burgesslaw10.BatchLast': WHATEVER THE INPUT: true; the input reads as it did. -/
def batchLastSpec : ChangeSpec := { name := "batchLast", fn := fun _ => fun
  | [d1, d2] => { results := [.lit (.bool true)], args := [d1, d2] }
  | _ => none }
def batchLastRow : OpenClaim := { program := "ytniogecifadccaa", sum := "f6c0c1d5897c227bacf438e068665c30f1b8485ad56c6d588cb91c34a6e2b583", func := "burgess/burgesslaw10.BatchLast", spec := "batchLast", inPlace := ["internal/bytealg.abigen_runtime_cmpstring"], unfollowed := true, recurses := true, apart := false }
def BatchLastSaid : Prop := batchLastRow.holds Try.pinned (OpenSpec.ofChange batchLastSpec)

/-- ITS FALSE NEIGHBOUR: 'it returns false'. Refute it at one input. -/
def batchLastWrong : ChangeSpec := { name := "batchLast", fn := fun _ => fun
  | [d1, d2] => { results := [.lit (.bool false)], args := [d1, d2] }
  | _ => none }
def BatchLastWrongFalsely : Prop := batchLastRow.holds Try.pinned (OpenSpec.ofChange batchLastWrong)

/-- 'burgesslaw10.BatchTurns': WHATEVER THE INPUT: true; the input reads as it did. -/
def batchTurnsSpec : ChangeSpec := { name := "batchTurns", fn := fun _ => fun
  | [d1, d2] => { results := [.lit (.bool true)], args := [d1, d2] }
  | _ => none }
def batchTurnsRow : OpenClaim := { program := "ytniogecifadccaa", sum := "f6c0c1d5897c227bacf438e068665c30f1b8485ad56c6d588cb91c34a6e2b583", func := "burgess/burgesslaw10.BatchTurns", spec := "batchTurns", inPlace := ["internal/bytealg.abigen_runtime_cmpstring"], unfollowed := true, recurses := true, apart := false }
def BatchTurnsSaid : Prop := batchTurnsRow.holds Try.pinned (OpenSpec.ofChange batchTurnsSpec)

/-- ITS FALSE NEIGHBOUR: 'it returns false'. Refute it at one input. -/
def batchTurnsWrong : ChangeSpec := { name := "batchTurns", fn := fun _ => fun
  | [d1, d2] => { results := [.lit (.bool false)], args := [d1, d2] }
  | _ => none }
def BatchTurnsWrongFalsely : Prop := batchTurnsRow.holds Try.pinned (OpenSpec.ofChange batchTurnsWrong)

/-- 'burgesslaw10.BatchLimits': WHATEVER THE INPUT: true; the input reads as it did. -/
def batchLimitsSpec : ChangeSpec := { name := "batchLimits", fn := fun _ => fun
  | [d1, d2] => { results := [.lit (.bool true)], args := [d1, d2] }
  | _ => none }
def batchLimitsRow : OpenClaim := { program := "ytniogecifadccaa", sum := "f6c0c1d5897c227bacf438e068665c30f1b8485ad56c6d588cb91c34a6e2b583", func := "burgess/burgesslaw10.BatchLimits", spec := "batchLimits", inPlace := ["internal/bytealg.abigen_runtime_cmpstring"], unfollowed := true, recurses := true, apart := false }
def BatchLimitsSaid : Prop := batchLimitsRow.holds Try.pinned (OpenSpec.ofChange batchLimitsSpec)

/-- ITS FALSE NEIGHBOUR: 'it returns false'. Refute it at one input. -/
def batchLimitsWrong : ChangeSpec := { name := "batchLimits", fn := fun _ => fun
  | [d1, d2] => { results := [.lit (.bool false)], args := [d1, d2] }
  | _ => none }
def BatchLimitsWrongFalsely : Prop := batchLimitsRow.holds Try.pinned (OpenSpec.ofChange batchLimitsWrong)

/-- 'burgesslaw10.BatchEncodes': WHATEVER THE INPUT: true; the input reads as it did. -/
def batchEncodesSpec : ChangeSpec := { name := "batchEncodes", fn := fun _ => fun
  | [d1, d2] => { results := [.lit (.bool true)], args := [d1, d2] }
  | _ => none }
def batchEncodesRow : OpenClaim := { program := "ytniogecifadccaa", sum := "f6c0c1d5897c227bacf438e068665c30f1b8485ad56c6d588cb91c34a6e2b583", func := "burgess/burgesslaw10.BatchEncodes", spec := "batchEncodes", inPlace := ["internal/bytealg.abigen_runtime_cmpstring"], unfollowed := true, recurses := true, apart := false }
def BatchEncodesSaid : Prop := batchEncodesRow.holds Try.pinned (OpenSpec.ofChange batchEncodesSpec)

/-- ITS FALSE NEIGHBOUR: 'it returns false'. Refute it at one input. -/
def batchEncodesWrong : ChangeSpec := { name := "batchEncodes", fn := fun _ => fun
  | [d1, d2] => { results := [.lit (.bool false)], args := [d1, d2] }
  | _ => none }
def BatchEncodesWrongFalsely : Prop := batchEncodesRow.holds Try.pinned (OpenSpec.ofChange batchEncodesWrong)

/-- 'burgesslaw10.BatchDecodes': WHATEVER THE INPUT: true; the input reads as it did. -/
def batchDecodesSpec : ChangeSpec := { name := "batchDecodes", fn := fun _ => fun
  | [d] => { results := [.lit (.bool true)], args := [d] }
  | _ => none }
def batchDecodesRow : OpenClaim := { program := "ytniogecifadccaa", sum := "f6c0c1d5897c227bacf438e068665c30f1b8485ad56c6d588cb91c34a6e2b583", func := "burgess/burgesslaw10.BatchDecodes", spec := "batchDecodes", inPlace := ["internal/bytealg.abigen_runtime_cmpstring"], unfollowed := true, recurses := true, apart := false }
def BatchDecodesSaid : Prop := batchDecodesRow.holds Try.pinned (OpenSpec.ofChange batchDecodesSpec)

/-- ITS FALSE NEIGHBOUR: 'it returns false'. Refute it at one input. -/
def batchDecodesWrong : ChangeSpec := { name := "batchDecodes", fn := fun _ => fun
  | [d] => { results := [.lit (.bool false)], args := [d] }
  | _ => none }
def BatchDecodesWrongFalsely : Prop := batchDecodesRow.holds Try.pinned (OpenSpec.ofChange batchDecodesWrong)

/-- 'burgesslaw10.BatchBack': WHATEVER THE INPUT: true; the input reads as it did. -/
def batchBackSpec : ChangeSpec := { name := "batchBack", fn := fun _ => fun
  | [d] => { results := [.lit (.bool true)], args := [d] }
  | _ => none }
def batchBackRow : OpenClaim := { program := "ytniogecifadccaa", sum := "f6c0c1d5897c227bacf438e068665c30f1b8485ad56c6d588cb91c34a6e2b583", func := "burgess/burgesslaw10.BatchBack", spec := "batchBack", inPlace := ["internal/bytealg.abigen_runtime_cmpstring"], unfollowed := true, recurses := true, apart := false }
def BatchBackSaid : Prop := batchBackRow.holds Try.pinned (OpenSpec.ofChange batchBackSpec)

/-- ITS FALSE NEIGHBOUR: 'it returns false'. Refute it at one input. -/
def batchBackWrong : ChangeSpec := { name := "batchBack", fn := fun _ => fun
  | [d] => { results := [.lit (.bool false)], args := [d] }
  | _ => none }
def BatchBackWrongFalsely : Prop := batchBackRow.holds Try.pinned (OpenSpec.ofChange batchBackWrong)

/- THE SECOND FORM. 'bulk': how many values and letters a reading holds, each counted each time it is reached (what is shared counts as often as it is met; a slice's spare places count too). A statement '..UptoSaid' is the law's where the arguments, and the package variables that the reading takes, are together of bulk at most 1048576: NARROWER than '..Said'. Prove '..Said' where nothing that the law and all that it calls make is longer than what came in: it says more and counts as full. Else prove '..UptoSaid'. A law counts once. -/
mutual
def uptoBulk {H : Type} : DataW H → Nat
  | .lit (.string bytes) => bytes.length + 1
  | .lit _ => 1
  | .nil => 1
  | .ptr d => uptoBulk d + 1
  | .slice elems spare => uptoBulkAll elems + uptoBulkAll spare + 1
  | .agg parts => uptoBulkAll parts + 1
  | .iface _ d => uptoBulk d + 1
  | .map entries => uptoBulkEntries entries + 1
  | .held _ => 1
def uptoBulkAll {H : Type} : List (DataW H) → Nat
  | [] => 0
  | d :: r => uptoBulk d + uptoBulkAll r
def uptoBulkEntries {H : Type} : List (Lit × DataW H) → Nat
  | [] => 0
  | x :: r => uptoBulkEntry x + uptoBulkEntries r
def uptoBulkEntry {H : Type} : Lit × DataW H → Nat
  | (.string bytes, d) => bytes.length + uptoBulk d + 1
  | (_, d) => uptoBulk d + 1
 end
def uptoSmall : (H : Type) → List (DataW H) → Bool := fun _ ds => decide (uptoBulkAll ds ≤ 1048576)
def OpenSpec.upto (s : _root_.Go.ChangeSpec) : _root_.Go.OpenSpec := { _root_.Go.OpenSpec.ofChange s with cond := some uptoSmall }

/-- 'burgesslaw10.BatchLast', WHERE WHAT IT READS IS OF BULK AT MOST 1048576: true; the input reads as it did. -/
def batchLastUptoRow : OpenClaim := { program := "ytniogecifadccaa", sum := "f6c0c1d5897c227bacf438e068665c30f1b8485ad56c6d588cb91c34a6e2b583", func := "burgess/burgesslaw10.BatchLast", spec := "batchLast", inPlace := ["internal/bytealg.abigen_runtime_cmpstring"], unfollowed := true, recurses := true, apart := false, narrowed := true }
def BatchLastUptoSaid : Prop := batchLastUptoRow.holds Try.pinned (OpenSpec.upto batchLastSpec)

/-- 'burgesslaw10.BatchTurns', WHERE WHAT IT READS IS OF BULK AT MOST 1048576: true; the input reads as it did. -/
def batchTurnsUptoRow : OpenClaim := { program := "ytniogecifadccaa", sum := "f6c0c1d5897c227bacf438e068665c30f1b8485ad56c6d588cb91c34a6e2b583", func := "burgess/burgesslaw10.BatchTurns", spec := "batchTurns", inPlace := ["internal/bytealg.abigen_runtime_cmpstring"], unfollowed := true, recurses := true, apart := false, narrowed := true }
def BatchTurnsUptoSaid : Prop := batchTurnsUptoRow.holds Try.pinned (OpenSpec.upto batchTurnsSpec)

/-- 'burgesslaw10.BatchLimits', WHERE WHAT IT READS IS OF BULK AT MOST 1048576: true; the input reads as it did. -/
def batchLimitsUptoRow : OpenClaim := { program := "ytniogecifadccaa", sum := "f6c0c1d5897c227bacf438e068665c30f1b8485ad56c6d588cb91c34a6e2b583", func := "burgess/burgesslaw10.BatchLimits", spec := "batchLimits", inPlace := ["internal/bytealg.abigen_runtime_cmpstring"], unfollowed := true, recurses := true, apart := false, narrowed := true }
def BatchLimitsUptoSaid : Prop := batchLimitsUptoRow.holds Try.pinned (OpenSpec.upto batchLimitsSpec)

/-- 'burgesslaw10.BatchEncodes', WHERE WHAT IT READS IS OF BULK AT MOST 1048576: true; the input reads as it did. -/
def batchEncodesUptoRow : OpenClaim := { program := "ytniogecifadccaa", sum := "f6c0c1d5897c227bacf438e068665c30f1b8485ad56c6d588cb91c34a6e2b583", func := "burgess/burgesslaw10.BatchEncodes", spec := "batchEncodes", inPlace := ["internal/bytealg.abigen_runtime_cmpstring"], unfollowed := true, recurses := true, apart := false, narrowed := true }
def BatchEncodesUptoSaid : Prop := batchEncodesUptoRow.holds Try.pinned (OpenSpec.upto batchEncodesSpec)

/-- 'burgesslaw10.BatchDecodes', WHERE WHAT IT READS IS OF BULK AT MOST 1048576: true; the input reads as it did. -/
def batchDecodesUptoRow : OpenClaim := { program := "ytniogecifadccaa", sum := "f6c0c1d5897c227bacf438e068665c30f1b8485ad56c6d588cb91c34a6e2b583", func := "burgess/burgesslaw10.BatchDecodes", spec := "batchDecodes", inPlace := ["internal/bytealg.abigen_runtime_cmpstring"], unfollowed := true, recurses := true, apart := false, narrowed := true }
def BatchDecodesUptoSaid : Prop := batchDecodesUptoRow.holds Try.pinned (OpenSpec.upto batchDecodesSpec)

/-- 'burgesslaw10.BatchBack', WHERE WHAT IT READS IS OF BULK AT MOST 1048576: true; the input reads as it did. -/
def batchBackUptoRow : OpenClaim := { program := "ytniogecifadccaa", sum := "f6c0c1d5897c227bacf438e068665c30f1b8485ad56c6d588cb91c34a6e2b583", func := "burgess/burgesslaw10.BatchBack", spec := "batchBack", inPlace := ["internal/bytealg.abigen_runtime_cmpstring"], unfollowed := true, recurses := true, apart := false, narrowed := true }
def BatchBackUptoSaid : Prop := batchBackUptoRow.holds Try.pinned (OpenSpec.upto batchBackSpec)

end Rows
end Go.Proofs.Ytniogecifadccaa
