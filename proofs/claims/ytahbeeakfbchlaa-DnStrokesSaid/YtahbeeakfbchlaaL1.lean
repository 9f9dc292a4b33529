/-
  The contracts of strings.IndexByte and of what it calls: for every input; nothing that was there is changed.
-/
import Derived.Test.YtahbeeakfbchlaaRows
import Derived.Test.YtahbeeakfbchlaaVz
set_option linter.unusedVariables false
namespace Go.Proofs.Ytahbeeakfbchlaa
open Go.Vk
attribute [local irreducible] HT HX RegS RegA RegM OpP OpC
theorem xIndexByteString (l : List UInt8) (c : UInt8) : XFn Try.prog 62 [Is (str l), okI .u8 (c.toNat : Int)] (okI .i64 (Lib.indexByte l c)) := by
  refine XFn.same Try.func62 rfl rfl rfl (e := Extern.BytealgIndexByte.indexByte) rfl ?_
  rintro vs w G hs ha
  match vs, ha with
  | [v, u], ⟨h1, h2, _⟩ =>
    cases h1; cases h2
    refine ⟨_, Lib.run_indexByteString _ _ w, ?_⟩
    have : ((c.toNat : Int).toNat.toUInt8) = c := by simp
    rw [this]; rfl
theorem slIndexByte (l : List UInt8) (c : UInt8) : CFn Try.prog 53 [Is (str l), okI .u8 (c.toNat : Int)] (okI .i64 (Lib.indexByte l c)) := by
  have c1 := @xIndexByteString
  refine CallsC.of Try.call53 Try.func53 rfl Try.ntmps53 rfl fun w0 G0 S0 hs ho => ?_
  exact run trivial
theorem stIndexByte (l : List UInt8) (c : UInt8) : CFn Try.prog 36 [Is (str l), okI .u8 (c.toNat : Int)] (okI .i64 (Lib.indexByte l c)) := by
  have c1 := @slIndexByte
  refine CallsC.of Try.call36 Try.func36 rfl Try.ntmps36 rfl fun w0 G0 S0 hs ho => ?_
  exact run trivial
end Go.Proofs.Ytahbeeakfbchlaa
