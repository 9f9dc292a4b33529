/-
  The contracts of dn's parser, further on: blanks, kind, stroke, value, part.
-/
import Derived.Test.YtahbeeakfbchlaaD2
set_option linter.unusedVariables false
namespace Go.Proofs.Ytahbeeakfbchlaa
open Go.Vk
attribute [local irreducible] HT HX RegS RegA RegM OpP OpC
theorem dnStroke (g : Nat) (s : List UInt8) (n : Int) (h : 0 ≤ n ∧ n ≤ (s.length : Int) ∧ s.length ≤ 1152921504606846976) : CallsC Try.prog 60 [Is (pAt g 0)] [TX g s n] (fun _ => TTup [okI .u8 (Dn.strokeE s n.toNat).2.1, Is (.bool (Dn.strokeE s n.toNat).2.2)]) (fun _ => [TX g s ((Dn.strokeE s n.toNat).1 : Nat)]) := by
  have c1 := stIndexByte
  have c2 := dnHex
  have h1 := Dn.hexV_bd (s.getD n.toNat 0)
  have h2 := Dn.hexV_bd (s.getD (n.toNat + 1) 0)
  have e1 : (n + 1).toNat = n.toNat + 1 := by omega
  have h3 := Dn.hexV_bd (s.getD (n + 1).toNat 0)
  refine CallsC.of Try.call60 Try.func60 rfl Try.ntmps60 rfl fun w0 G0 S0 hs ho => ?_
  refine run ?_
  and_intros
  all_goals intros
  all_goals (first
    | rw [Dn.strokeE_0 (by omega)]
    | rw [Dn.strokeE_1 (by omega) (by assumption)]
    | (have hh : Dn.hexOk (s.getD n.toNat 0) = false ∨ n + 1 = (s.length : Int) := by assumption
       have hh2 : Dn.hexOk (s.getD n.toNat 0) = false ∨ s.length ≤ n.toNat + 1 := hh.imp id (fun e => by omega)
       rw [Dn.strokeE_2 (by omega) (by assumption) hh2])
    | (have hh : Dn.hexOk (s.getD n.toNat 0) = true ∧ ¬ n + 1 = (s.length : Int) := by assumption
       rw [Dn.strokeE_3 (by assumption) hh.1 (by omega)]
       try rw [e1]))
  all_goals (first | done | omega | (dsimp only; omega))
end Go.Proofs.Ytahbeeakfbchlaa
