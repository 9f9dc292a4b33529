/-
  Orders of a region, written out. Nothing here speaks of a program; no conditions.
-/
import Derived.Test.YtibabbepnhpaiaaVz
set_option linter.unusedVariables false
namespace Go.Vk
def seqT : List PlanE → CT
  | [] => .leaf
  | e :: r => .br e (seqT r) .leaf
def altT : CT → CT → CT
  | .leaf, s => s
  | .br e t r, s => .br e t (altT r s)
end Go.Vk
