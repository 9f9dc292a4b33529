/-
  No cell of these rows narrows 'for every input' (looked for: loops, veiled, ifaces, maps, wideKeys, modest, calm, conditions, laid).
  DERIVED. THE GIVEN ROWS OF THIS SEAT. 4 by the template 'for every input the law returns true; each argument reads behind the call as it read before'; 0 by the template 'total and deterministic' (their statements: YtjbcdakjbpepdaaTotals.lean).
  GIVEN WITH THE SEED: the statements are not yours to turn. If you find one false, say at which input.
  Laid BY PROGRAM, IN A SANDBOX (cutbox-rows.mjs): the forced cells as the released guide's own fill.sh prints them over the translation 49e28e258b05cf6e… (all of the seat's roots in one cut). By AI agents, Wed Nov 11 2026. No macro, syntax, notation, axiom, sorry.
-/
import Derived.Test.YtjbcdakjbpepdaaChecked
import GoSem.Claim
import GoSem.ClaimJoined
import GoSem.ClaimMapViews
import Derived.JoinedTies
import Derived.KernelRfl
namespace Go.Proofs.Ytjbcdakjbpepdaa
/- THE CELL 'sum', in the pinned program and in every row, IS THE sha256 OF THE DUMP (.gsa) THAT YtjbcdakjbpepdaaProg.lean LOADS. Nothing in Lean hashes anything: it is a label: what it is worth is what the hold of that sum in a sandbox is worth. -/
noncomputable def Try.pinned : Pinned := { name := "ytjbcdakjbpepdaa", sum := "49e28e258b05cf6e595187ff66187aa39e1b26245aac9e269ad0ec49eb19c1c4", checked := Try.checked }
namespace Rows
def none {H : Type} : Left H := { results := [], args := [] }

/-- 'burgesslaw18.AclFirst': WHATEVER THE INPUT: true; the input reads as it did. -/
def aclFirstSpec : ChangeSpec := { name := "aclFirst", fn := fun _ => fun
  | [d1, d2, d3, d4, d5, d6] => { results := [.lit (.bool true)], args := [d1, d2, d3, d4, d5, d6] }
  | _ => none }
def aclFirstRow : OpenClaim := { program := "ytjbcdakjbpepdaa", sum := "49e28e258b05cf6e595187ff66187aa39e1b26245aac9e269ad0ec49eb19c1c4", func := "burgess/burgesslaw18.AclFirst", spec := "aclFirst", unfollowed := true, recurses := true, apart := false }
def AclFirstSaid : Prop := aclFirstRow.holds Try.pinned (OpenSpec.ofChange aclFirstSpec)

/-- ITS FALSE NEIGHBOUR: 'it returns false'. Refute it at one input. -/
def aclFirstWrong : ChangeSpec := { name := "aclFirst", fn := fun _ => fun
  | [d1, d2, d3, d4, d5, d6] => { results := [.lit (.bool false)], args := [d1, d2, d3, d4, d5, d6] }
  | _ => none }
def AclFirstWrongFalsely : Prop := aclFirstRow.holds Try.pinned (OpenSpec.ofChange aclFirstWrong)

/-- 'burgesslaw18.AclRoot': WHATEVER THE INPUT: true; the input reads as it did. -/
def aclRootSpec : ChangeSpec := { name := "aclRoot", fn := fun _ => fun
  | [d1, d2, d3, d4, d5] => { results := [.lit (.bool true)], args := [d1, d2, d3, d4, d5] }
  | _ => none }
def aclRootRow : OpenClaim := { program := "ytjbcdakjbpepdaa", sum := "49e28e258b05cf6e595187ff66187aa39e1b26245aac9e269ad0ec49eb19c1c4", func := "burgess/burgesslaw18.AclRoot", spec := "aclRoot", unfollowed := true, recurses := true, apart := false }
def AclRootSaid : Prop := aclRootRow.holds Try.pinned (OpenSpec.ofChange aclRootSpec)

/-- ITS FALSE NEIGHBOUR: 'it returns false'. Refute it at one input. -/
def aclRootWrong : ChangeSpec := { name := "aclRoot", fn := fun _ => fun
  | [d1, d2, d3, d4, d5] => { results := [.lit (.bool false)], args := [d1, d2, d3, d4, d5] }
  | _ => none }
def AclRootWrongFalsely : Prop := aclRootRow.holds Try.pinned (OpenSpec.ofChange aclRootWrong)

/-- 'burgesslaw18.AclGrants': WHATEVER THE INPUT: true; the input reads as it did. -/
def aclGrantsSpec : ChangeSpec := { name := "aclGrants", fn := fun _ => fun
  | [d1, d2, d3, d4, d5, d6] => { results := [.lit (.bool true)], args := [d1, d2, d3, d4, d5, d6] }
  | _ => none }
def aclGrantsRow : OpenClaim := { program := "ytjbcdakjbpepdaa", sum := "49e28e258b05cf6e595187ff66187aa39e1b26245aac9e269ad0ec49eb19c1c4", func := "burgess/burgesslaw18.AclGrants", spec := "aclGrants", unfollowed := true, recurses := true, apart := false }
def AclGrantsSaid : Prop := aclGrantsRow.holds Try.pinned (OpenSpec.ofChange aclGrantsSpec)

/-- ITS FALSE NEIGHBOUR: 'it returns false'. Refute it at one input. -/
def aclGrantsWrong : ChangeSpec := { name := "aclGrants", fn := fun _ => fun
  | [d1, d2, d3, d4, d5, d6] => { results := [.lit (.bool false)], args := [d1, d2, d3, d4, d5, d6] }
  | _ => none }
def AclGrantsWrongFalsely : Prop := aclGrantsRow.holds Try.pinned (OpenSpec.ofChange aclGrantsWrong)

/-- 'burgesslaw18.AclSays': WHATEVER THE INPUT: true; the input reads as it did. -/
def aclSaysSpec : ChangeSpec := { name := "aclSays", fn := fun _ => fun
  | [d1, d2, d3, d4, d5, d6] => { results := [.lit (.bool true)], args := [d1, d2, d3, d4, d5, d6] }
  | _ => none }
def aclSaysRow : OpenClaim := { program := "ytjbcdakjbpepdaa", sum := "49e28e258b05cf6e595187ff66187aa39e1b26245aac9e269ad0ec49eb19c1c4", func := "burgess/burgesslaw18.AclSays", spec := "aclSays", unfollowed := true, recurses := true, apart := false }
def AclSaysSaid : Prop := aclSaysRow.holds Try.pinned (OpenSpec.ofChange aclSaysSpec)

/-- ITS FALSE NEIGHBOUR: 'it returns false'. Refute it at one input. -/
def aclSaysWrong : ChangeSpec := { name := "aclSays", fn := fun _ => fun
  | [d1, d2, d3, d4, d5, d6] => { results := [.lit (.bool false)], args := [d1, d2, d3, d4, d5, d6] }
  | _ => none }
def AclSaysWrongFalsely : Prop := aclSaysRow.holds Try.pinned (OpenSpec.ofChange aclSaysWrong)

/- THE SECOND FORM. 'bulk': how many values and letters a reading holds, each counted each time it is reached (what is shared counts as often as it is met; a slice's spare places count too). A statement '..UptoSaid' is the law's where the arguments, and the package variables that the reading takes, are together of bulk at most 1048576: NARROWER than '..Said'. Prove '..Said' where nothing that the law and all that it calls make is longer than what came in: it says more and counts as full. Else prove '..UptoSaid'. A law counts once. -/
mutual
def uptoBulk {H : Type} : DataW H → Nat
  | .lit (.string bytes) => bytes.length + 1
  | .lit _ => 1
  | .nil => 1
  | .ptr d => uptoBulk d + 1
  | .slice elems spare => uptoBulkAll elems + uptoBulkAll spare + 1
  | .agg parts => uptoBulkAll parts + 1
  | .iface _ d => uptoBulk d + 1
  | .map entries => uptoBulkEntries entries + 1
  | .held _ => 1
def uptoBulkAll {H : Type} : List (DataW H) → Nat
  | [] => 0
  | d :: r => uptoBulk d + uptoBulkAll r
def uptoBulkEntries {H : Type} : List (Lit × DataW H) → Nat
  | [] => 0
  | x :: r => uptoBulkEntry x + uptoBulkEntries r
def uptoBulkEntry {H : Type} : Lit × DataW H → Nat
  | (.string bytes, d) => bytes.length + uptoBulk d + 1
  | (_, d) => uptoBulk d + 1
 end
def uptoSmall : (H : Type) → List (DataW H) → Bool := fun _ ds => decide (uptoBulkAll ds ≤ 1048576)
def OpenSpec.upto (s : _root_.Go.ChangeSpec) : _root_.Go.OpenSpec := { _root_.Go.OpenSpec.ofChange s with cond := some uptoSmall }

/-- 'burgesslaw18.AclFirst', WHERE WHAT IT READS IS OF BULK AT MOST 1048576: true; the input reads as it did. -/
def aclFirstUptoRow : OpenClaim := { program := "ytjbcdakjbpepdaa", sum := "49e28e258b05cf6e595187ff66187aa39e1b26245aac9e269ad0ec49eb19c1c4", func := "burgess/burgesslaw18.AclFirst", spec := "aclFirst", unfollowed := true, recurses := true, apart := false, narrowed := true }
def AclFirstUptoSaid : Prop := aclFirstUptoRow.holds Try.pinned (OpenSpec.upto aclFirstSpec)

/-- 'burgesslaw18.AclRoot', WHERE WHAT IT READS IS OF BULK AT MOST 1048576: true; the input reads as it did. -/
def aclRootUptoRow : OpenClaim := { program := "ytjbcdakjbpepdaa", sum := "49e28e258b05cf6e595187ff66187aa39e1b26245aac9e269ad0ec49eb19c1c4", func := "burgess/burgesslaw18.AclRoot", spec := "aclRoot", unfollowed := true, recurses := true, apart := false, narrowed := true }
def AclRootUptoSaid : Prop := aclRootUptoRow.holds Try.pinned (OpenSpec.upto aclRootSpec)

/-- 'burgesslaw18.AclGrants', WHERE WHAT IT READS IS OF BULK AT MOST 1048576: true; the input reads as it did. -/
def aclGrantsUptoRow : OpenClaim := { program := "ytjbcdakjbpepdaa", sum := "49e28e258b05cf6e595187ff66187aa39e1b26245aac9e269ad0ec49eb19c1c4", func := "burgess/burgesslaw18.AclGrants", spec := "aclGrants", unfollowed := true, recurses := true, apart := false, narrowed := true }
def AclGrantsUptoSaid : Prop := aclGrantsUptoRow.holds Try.pinned (OpenSpec.upto aclGrantsSpec)

/-- 'burgesslaw18.AclSays', WHERE WHAT IT READS IS OF BULK AT MOST 1048576: true; the input reads as it did. -/
def aclSaysUptoRow : OpenClaim := { program := "ytjbcdakjbpepdaa", sum := "49e28e258b05cf6e595187ff66187aa39e1b26245aac9e269ad0ec49eb19c1c4", func := "burgess/burgesslaw18.AclSays", spec := "aclSays", unfollowed := true, recurses := true, apart := false, narrowed := true }
def AclSaysUptoSaid : Prop := aclSaysUptoRow.holds Try.pinned (OpenSpec.upto aclSaysSpec)

end Rows
end Go.Proofs.Ytjbcdakjbpepdaa
