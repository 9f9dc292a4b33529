/-
  The law BerTags, for all arguments.
-/
import Derived.Test.YtmfhacngjbhldaaC1
import Derived.Test.YtmfhacngjbhldaaC2
set_option linter.unusedVariables false
namespace Go.Proofs.Ytmfhacngjbhldaa
open Go.Vk
attribute [local irreducible] HT HX RegS RegA RegM OpP OpC
attribute [local irreducible] Ber.lenB Ber.tagB Ber.nextB
theorem tagB_two (tag : UInt8) (a b : List UInt8) : Ber.tagB tag [a, b] = Ber.tagB tag [a ++ b] := by
  unfold Ber.tagB
  simp [Ber.tot]
theorem row_len {zs : List Int} {len : Nat} (h : len ≤ 140737488351232) : (bytesOf (zs.take len)).length ≤ 140737488351232 := by
  simp only [bytesOf, List.length_map, List.length_take]
  omega
set_option maxHeartbeats 1000000 in
theorem berTags (tag : UInt8) (a b : List UInt8) (ha : a.length ≤ 140737488351232) (hb : b.length ≤ 140737488351232) : CFn Try.prog 5 [okI .u8 (tag.toNat : Int), TBytes a, TBytes b] (Is (.bool true)) := by
  have c1 := fun (hl : (a.length : Int) + (b.length : Int) ≤ 3000) => (tagO tag [a, b] (by simp [Ber.tot]; omega) (by simp)).justFn
  have c2 := @nextP
  have c3 := @refNext
  have c4 := @refTag
  have c5 := known
  have e1 := tagB_two tag a b
  have pl := Plan.mk' 5 [(0,3,[]),(1,3,[]),(2,3,[]),(3,3,[]),(4,3,[]),(5,3,[]),(6,3,[]),(8,3,[]),(10,3,[]),(7,0,[]),(9,0,[]),(11,0,[]),(12,3,[]),(13,3,[]),(14,3,[]),(15,3,[]),(16,3,[]),(17,3,[]),(18,3,[]),(19,3,[]),(20,3,[]),(21,3,[]),(22,3,[]),(23,3,[]),(24,3,[]),(25,3,[]),(26,3,[]),(27,3,[]),(28,3,[]),(29,3,[]),(30,3,[]),(31,3,[]),(32,3,[]),(33,3,[]),(34,3,[]),(35,3,[]),(36,3,[]),(37,3,[]),(38,3,[]),(39,3,[]),(40,3,[]),(41,3,[]),(42,3,[])]
  refine CallsC.of Try.call5 Try.func5 rfl Try.ntmps5 rfl fun w0 G0 S0 hs ho => ?_
  refine run ?_
  and_intros
  all_goals intros
  · simp; omega
  · simp [e1]
end Go.Proofs.Ytmfhacngjbhldaa
