/-
  The contracts of dn's parser, further on: blanks, kind, stroke, value, part.
-/
import Derived.Test.YtahbeeakfbchlaaD1
set_option linter.unusedVariables false
namespace Go.Proofs.Ytahbeeakfbchlaa
open Go.Vk
attribute [local irreducible] HT HX RegS RegA RegM OpP OpC
abbrev TX (g : Nat) (s : List UInt8) (n : Int) : Res := ownP g 43 [Is (str s), okI .i64 n]
theorem dnBlanks (g : Nat) (s : List UInt8) (n : Int) (h : 0 ≤ n ∧ n ≤ (s.length : Int) ∧ s.length ≤ 1152921504606846976) : CallsC Try.prog 49 [Is (pAt g 0)] [TX g s n] (fun _ => TTup []) (fun _ => [TX g s (Dn.skipE Dn.blk s n.toNat : Nat)]) := by
  have c1 := dnTakes
  refine CallsC.of Try.call49 Try.func49 rfl Try.ntmps49 rfl fun w0 G0 S0 hs ho => ?_
  refine run ?_
  refine HT.loopX (σ := Nat) [0] (fun i => []) (fun i => [TX g s (i : Int)]) (fun i => i ≤ s.length ∧ Dn.skipE Dn.blk s i = Dn.skipE Dn.blk s n.toNat) (fun i => s.length - i) n.toNat ⟨by omega, rfl⟩ (run trivial) (run trivial) ?_
  rintro i ⟨hi, hs⟩
  refine run ?_
  refine ⟨fun h1 => ?_, fun h1 => ?_⟩
  · exact HX.roundX (i + 1) ⟨⟨by omega, by rw [← hs]; exact (Dn.skipE_yes (by omega) (decide_eq_true h1.2)).symm⟩, by omega⟩ rfl (run trivial) (run trivial)
  · have : Dn.skipE Dn.blk s i = i := Dn.skipE_no fun hlt => decide_eq_false (by omega)
    rw [← hs, this]
    exact run trivial
theorem dnKind (g : Nat) (s : List UInt8) (n : Int) (h : 0 ≤ n ∧ n ≤ (s.length : Int) ∧ s.length ≤ 1152921504606846976) : CallsC Try.prog 50 [Is (pAt g 0)] [TX g s n] (fun _ => TTup [Is (str ((s.take (Dn.skipE Dn.typC s n.toNat)).drop n.toNat)), Is (.bool (Dn.typB ((s.take (Dn.skipE Dn.typC s n.toNat)).drop n.toNat)))]) (fun _ => [TX g s (Dn.skipE Dn.typC s n.toNat : Nat)]) := by
  have c1 := dnType
  have c2 := dnLetter
  have c3 := dnDigit
  refine CallsC.of Try.call50 Try.func50 rfl Try.ntmps50 rfl fun w0 G0 S0 hs ho => ?_
  refine run ?_
  refine HT.loopX (σ := Nat) [0, 4] (fun i => []) (fun i => [TX g s (i : Int)]) (fun i => n.toNat ≤ i ∧ i ≤ s.length ∧ Dn.skipE Dn.typC s i = Dn.skipE Dn.typC s n.toNat) (fun i => s.length - i) n.toNat ⟨by omega, by omega, rfl⟩ (run trivial) (run trivial) ?_
  rintro i ⟨hn, hi, hs⟩
  by_cases hc : i < s.length ∧ Dn.typC (s.getD i 0) = true
  · obtain ⟨hc1, hc2⟩ := hc
    have hc3 := (Dn.typC_iff _).1 hc2
    refine run ?_
    intro _
    exact HX.roundX (i + 1) ⟨⟨by omega, by omega, by rw [← hs]; exact (Dn.skipE_yes (by omega) hc2).symm⟩, by omega⟩ rfl (run trivial) (run trivial)
  · have he : Dn.skipE Dn.typC s i = i := Dn.skipE_no fun hlt => by simpa [hlt] using hc
    have hc3 : ¬ (i < s.length ∧ _) := fun hx => hc ⟨hx.1, (Dn.typC_iff _).2 hx.2⟩
    rw [← hs, he]
    exact run trivial
end Go.Proofs.Ytahbeeakfbchlaa
