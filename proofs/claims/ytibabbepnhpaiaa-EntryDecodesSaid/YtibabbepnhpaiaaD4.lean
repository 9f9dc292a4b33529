/-
  The contract of dn's parser's value.
-/
import Derived.Test.YtibabbepnhpaiaaD3
set_option linter.unusedVariables false
namespace Go.Proofs.Ytibabbepnhpaiaa
open Go.Vk
attribute [local irreducible] HT HX RegS RegA RegM OpP OpC AltT
end Go.Proofs.Ytibabbepnhpaiaa
