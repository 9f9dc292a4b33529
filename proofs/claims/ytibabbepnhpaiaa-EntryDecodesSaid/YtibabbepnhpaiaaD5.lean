/-
  The contracts of dn's part, Is and what these call.
-/
import Derived.Test.YtibabbepnhpaiaaD4
set_option linter.unusedVariables false
namespace Go.Proofs.Ytibabbepnhpaiaa
open Go.Vk
attribute [local irreducible] HT HX RegS RegA RegM OpP OpC AltT
theorem toN1 (m : Nat) : (((m : Nat) : Int) + 1).toNat = m + 1 := by omega
theorem dnIs1 (a : Dn.Ava) (h : a.typ.length ≤ 1152921504606846976) : CFn Try.prog 54 [TAgg (Dn.cAva a)] (Is (.bool (!Dn.okA a))) := by
  have c1 := dnType
  refine CallsC.of Try.call54 Try.func54 rfl Try.ntmps54 rfl fun w0 G0 S0 hs ho => ?_
  refine run ?_
  unfold Dn.okA
  by_cases h1 : (64 : Int) < (a.val.length : Int)
  · have h2 : ¬ (a.val.length : Int) ≤ 64 := by omega
    simp [h1, h2]
  · have h2 : (a.val.length : Int) ≤ 64 := by omega
    simp [h1, h2]
theorem ixFunc {f : FuncId} {Cs : List Ty} (l : List Dn.Ava) (p : Dn.Ava → Bool) (hl : l.length ≤ 1152921504606846976) (cf : ∀ a ∈ l, CFn Try.prog f ([TAgg (Dn.cAva a)] ++ Cs) (Is (.bool (p a)))) : CFn Try.prog 60 [TSl 2 Dn.cAva l, TFn f Cs] (okI .i64 (Dn.ixOf p l)) := by
  refine CallsC.of Try.call60 Try.func60 rfl Try.ntmps60 rfl fun w0 G0 S0 hs ho => ?_
  refine run ?_
  refine HT.loopX (σ := Nat) [0, 1, 7] (fun i => [(8, okI .i64 (i : Int))]) (fun i => []) (fun i => i ≤ l.length ∧ (l.take i).any p = false) (fun i => l.length - i) 0 ⟨by omega, by simp⟩ (run trivial) (run trivial) ?_
  rintro i ⟨hi, hp⟩
  have cf' := fun (hlt : i < l.length) => cf (l.getD i default) (Dn.getD_mem hlt)
  clear cf
  refine run ?_
  refine ⟨fun h1 h2 => ?_, fun h1 h2 => ?_, fun h1 => ?_⟩
  · exact (Dn.ixOf_at (by omega) hp h2).symm
  · exact HX.roundX (i + 1) ⟨⟨by omega, Dn.any_snoc (by omega) hp h2⟩, by omega⟩ rfl (run trivial) (run trivial)
  · exact (Dn.ixOf_none (by rwa [List.take_of_length_le (by omega)] at hp)).symm
theorem anyFunc {f : FuncId} {Cs : List Ty} (l : List Dn.Ava) (p : Dn.Ava → Bool) (hl : l.length ≤ 1152921504606846976) (cf : ∀ a ∈ l, CFn Try.prog f ([TAgg (Dn.cAva a)] ++ Cs) (Is (.bool (p a)))) : CFn Try.prog 53 [TSl 2 Dn.cAva l, TFn f Cs] (Is (.bool (l.any p))) := by
  have c1 := ixFunc l p hl cf
  refine CallsC.of Try.call53 Try.func53 rfl Try.ntmps53 rfl fun w0 G0 S0 hs ho => ?_
  refine run ?_
  exact Dn.ixOf_nonneg
theorem dnIsF (l : List Dn.Ava) (hl : l.length ≤ 1152921504606846976) (ha : ∀ a ∈ l, a.typ.length ≤ 1152921504606846976) : CFn Try.prog 32 [TSl 2 Dn.cAva l] (Is (.bool (Dn.isE l))) := by
  have c1 := anyFunc (f := 54) (Cs := []) l (fun a => !Dn.okA a) hl (fun a h => dnIs1 a (ha a h))
  refine CallsC.of Try.call32 Try.func32 rfl Try.ntmps32 rfl fun w0 G0 S0 hs ho => ?_
  refine run ?_
  exact (Dn.isE_any l).symm
end Go.Proofs.Ytibabbepnhpaiaa
