/-
  The contracts of strings.Builder: for every Builder of one's own; nothing else that was there is changed.
-/
import Derived.Test.YtibabbepnhpaiaaRows
import Derived.Test.YtibabbepnhpaiaaVz
set_option linter.unusedVariables false
namespace Go.Proofs.Ytibabbepnhpaiaa
open Go.Vk
attribute [local irreducible] HT HX RegS RegA RegM OpP OpC AltT
end Go.Proofs.Ytibabbepnhpaiaa
