/-
  The contract of dn's Print.
-/
import Derived.Test.YtibabbepnhpaiaaD7
import Derived.Test.YtibabbepnhpaiaaL2
set_option linter.unusedVariables false
namespace Go.Proofs.Ytibabbepnhpaiaa
open Go.Vk
attribute [local irreducible] HT HX RegS RegA RegM OpP OpC AltT
attribute [local irreducible] Dn.tellR Dn.tellC Dn.tellE Dn.printR Dn.printC Dn.printE
end Go.Proofs.Ytibabbepnhpaiaa
