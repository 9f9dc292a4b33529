/-
  The contracts of dn's parser, further on: blanks, kind, stroke, value, part.
-/
import Derived.Test.YtibabbepnhpaiaaD1
set_option linter.unusedVariables false
namespace Go.Proofs.Ytibabbepnhpaiaa
open Go.Vk
attribute [local irreducible] HT HX RegS RegA RegM OpP OpC AltT
end Go.Proofs.Ytibabbepnhpaiaa
