/-
  The contract of dn's Parse.
-/
import Derived.Test.YtjbcdakjbpepdaaD5
set_option linter.unusedVariables false
namespace Go.Proofs.Ytjbcdakjbpepdaa
open Go.Vk
attribute [local irreducible] HT HX RegS RegA RegM OpP OpC
attribute [local irreducible] Dn.partE Dn.isE Dn.parseE
end Go.Proofs.Ytjbcdakjbpepdaa
