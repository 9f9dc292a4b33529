/-
  The contracts of strings.Builder: for every Builder of one's own; nothing else that was there is changed.
-/
import Derived.Test.YtahbeeakfbchlaaRows
import Derived.Test.YtahbeeakfbchlaaVz
set_option linter.unusedVariables false
namespace Go.Proofs.Ytahbeeakfbchlaa
open Go.Vk
attribute [local irreducible] HT HX RegS RegA RegM OpP OpC
/-- A Builder that holds l. -/
abbrev BX (g : Nat) (l : List UInt8) : Res := packR fun b : Bool => [packR fun v : Value => [ownP g 49 [Is (selfP g b), TAnd (Is v) (TBytes l)], ownSl v 1 5]]
theorem xNoEscape (v : Value) : XFn Try.prog 61 [Is v] (Is v) := by
  refine XFn.same Try.func61 rfl rfl rfl (e := Extern.AbiNoEscape.same) rfl ?_
  rintro vs w G hs ha
  match vs, ha with
  | [v], ⟨h1, _⟩ => cases h1; exact ⟨_, rfl, rfl⟩
theorem bldCheck (g : Nat) (b : Bool) (v : Value) (l : List UInt8) : CallsC Try.prog 52 [Is (pAt g 0)] [ownP g 49 [Is (selfP g b), TAnd (Is v) (TBytes l)]] (fun _ => TTup []) (fun _ => [ownP g 49 [Is (pAt g 0), TAnd (Is v) (TBytes l)]]) := by
  have c1 := xNoEscape
  cases b
  · show CallsC Try.prog 52 [Is (pAt g 0)] [ownP g 49 [Is (.pointer none), TAnd (Is v) (TBytes l)]] (fun _ => TTup []) (fun _ => [ownP g 49 [Is (pAt g 0), TAnd (Is v) (TBytes l)]])
    refine CallsC.of Try.call52 Try.func52 rfl Try.ntmps52 rfl fun w0 G0 S0 hs ho => ?_
    exact run trivial
  · show CallsC Try.prog 52 [Is (pAt g 0)] [ownP g 49 [Is (pAt g 0), TAnd (Is v) (TBytes l)]] (fun _ => TTup []) (fun _ => [ownP g 49 [Is (pAt g 0), TAnd (Is v) (TBytes l)]])
    refine CallsC.of Try.call52 Try.func52 rfl Try.ntmps52 rfl fun w0 G0 S0 hs ho => ?_
    exact run trivial
theorem bldByte (g : Nat) (l : List UInt8) (c : UInt8) (hl : l.length ≤ 134217728) : CallsC Try.prog 34 [Is (pAt g 0), okI .u8 (c.toNat : Int)] [BX g l] (fun _ => Is .nilIface) (fun _ => [BX g (l ++ [c])]) := by
  have c1 := bldCheck
  refine CallsC.of Try.call34 Try.func34 rfl Try.ntmps34 rfl fun w0 G0 S0 hs ho => ?_
  refine HT.unpack 0 rfl fun b => HT.unpack 1 rfl fun v => ?_
  exact run trivial
theorem bldByteN (g : Nat) (l : List UInt8) (n : Int) (h : 0 ≤ n ∧ n < 256) (hl : l.length ≤ 134217728) : CallsC Try.prog 34 [Is (pAt g 0), okI .u8 n] [BX g l] (fun _ => Is .nilIface) (fun _ => [BX g (l ++ [b8 n])]) := by
  have := bldByte g l (b8 n) hl
  rwa [b8_of h] at this
theorem bldStr (g : Nat) (l m : List UInt8) (hl : l.length + m.length ≤ 134217728) : CallsC Try.prog 35 [Is (pAt g 0), Is (str m)] [BX g l] (fun _ => TTup [okI .i64 (m.length : Int), Is .nilIface]) (fun _ => [BX g (l ++ m)]) := by
  have c1 := bldCheck
  refine CallsC.of Try.call35 Try.func35 rfl Try.ntmps35 rfl fun w0 G0 S0 hs ho => ?_
  refine HT.unpack 0 rfl fun b => HT.unpack 1 rfl fun v => ?_
  exact run trivial
theorem bldOut (g : Nat) (l : List UInt8) (hl : l.length ≤ 134217728) : CallsC Try.prog 37 [Is (pAt g 0)] [BX g l] (fun _ => Is (str l)) (fun _ => [empR]) := by
  have pl := Plan.mk' 1 [(0,3,[]),(1,3,[]),(2,3,[]),(3,2,[2]),(4,2,[3]),(5,3,[]),(6,3,[]),(7,3,[]),(8,2,[2]),(9,3,[]),(10,0,[2]),(11,3,[])]
  refine CallsC.of Try.call37 Try.func37 rfl Try.ntmps37 rfl fun w0 G0 S0 hs ho => ?_
  refine HT.unpack 0 rfl fun b => HT.unpack 1 rfl fun v => ?_
  exact run trivial
end Go.Proofs.Ytahbeeakfbchlaa
