/-
  The contracts of strings.Builder: for every Builder of one's own; nothing else that was there is changed.
-/
import Derived.Test.YtjbcdakjbpepdaaRows
import Derived.Test.YtjbcdakjbpepdaaVz
set_option linter.unusedVariables false
namespace Go.Proofs.Ytjbcdakjbpepdaa
open Go.Vk
attribute [local irreducible] HT HX RegS RegA RegM OpP OpC
end Go.Proofs.Ytjbcdakjbpepdaa
