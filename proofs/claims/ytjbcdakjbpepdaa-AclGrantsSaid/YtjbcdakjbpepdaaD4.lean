/-
  The contract of dn's parser's value.
-/
import Derived.Test.YtjbcdakjbpepdaaD3
set_option linter.unusedVariables false
namespace Go.Proofs.Ytjbcdakjbpepdaa
open Go.Vk
attribute [local irreducible] HT HX RegS RegA RegM OpP OpC
end Go.Proofs.Ytjbcdakjbpepdaa
