/-
  The contract of dn's Print.
-/
import Derived.Test.YtjbcdakjbpepdaaD7
import Derived.Test.YtjbcdakjbpepdaaL2
set_option linter.unusedVariables false
namespace Go.Proofs.Ytjbcdakjbpepdaa
open Go.Vk
attribute [local irreducible] HT HX RegS RegA RegM OpP OpC
attribute [local irreducible] Dn.tellR Dn.tellC Dn.tellE Dn.printR Dn.printC Dn.printE
end Go.Proofs.Ytjbcdakjbpepdaa
