/-
  The contracts of dn's parser, further on: blanks, kind, stroke, value, part.
-/
import Derived.Test.YtjbcdakjbpepdaaD1
set_option linter.unusedVariables false
namespace Go.Proofs.Ytjbcdakjbpepdaa
open Go.Vk
attribute [local irreducible] HT HX RegS RegA RegM OpP OpC
end Go.Proofs.Ytjbcdakjbpepdaa
