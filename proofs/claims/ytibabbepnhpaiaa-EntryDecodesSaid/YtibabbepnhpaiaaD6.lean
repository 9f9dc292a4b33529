/-
  The contract of dn's Parse.
-/
import Derived.Test.YtibabbepnhpaiaaD5
set_option linter.unusedVariables false
namespace Go.Proofs.Ytibabbepnhpaiaa
open Go.Vk
attribute [local irreducible] HT HX RegS RegA RegM OpP OpC AltT
attribute [local irreducible] Dn.partE Dn.isE Dn.parseE
end Go.Proofs.Ytibabbepnhpaiaa
