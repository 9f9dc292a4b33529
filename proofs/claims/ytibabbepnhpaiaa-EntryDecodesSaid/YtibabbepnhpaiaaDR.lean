/-
  The contracts of the document's parser of names, further on: a value, a part, all parts.
-/
import Derived.Test.YtibabbepnhpaiaaDQ
set_option linter.unusedVariables false
namespace Go.Proofs.Ytibabbepnhpaiaa
open Go.Vk
attribute [local irreducible] HT HX RegS RegA RegM OpP OpC AltT
attribute [local irreducible] Dn.valueF Dn.partF Dn.partE Dn.parseE Dn.isE
theorem rfIs (l : List Dn.Ava) (hl : l.length ≤ 1152921504606846976) (hta : ∀ a ∈ l, a.typ.length ≤ 1152921504606846976) : CFn Try.prog 36 [TSl 2 Dn.cAva l] (Is (.bool (Dn.isE l))) := by
  have c1 := rfType
  refine CallsC.of Try.call36 Try.func36 rfl Try.ntmps36 rfl fun w0 G0 S0 hs ho => ?_
  refine run ?_
  refine ⟨fun h => ?_, fun h => ?_⟩
  · unfold Dn.isE
    rw [decide_eq_false (by omega)]; rfl
  refine HT.loopX (σ := Nat) [0] (fun i => [(3, okI .i64 (i : Int))]) (fun _ => []) (fun i => i ≤ l.length ∧ (l.take i).all Dn.okA = true) (fun i => l.length - i) 0 ⟨by omega, by simp⟩ (run trivial) (run trivial) ?_
  rintro i ⟨hi, ha⟩
  by_cases hlt : i < l.length
  · have h3 := hta _ (Dn.getD_mem hlt)
    refine run ?_
    refine ⟨fun _ h4 => ?_, fun _ h4 => ?_⟩
    · exact (Dn.isE_no hlt (Dn.okA_no h4)).symm
    · exact HX.roundX (i + 1) ⟨⟨by omega, Dn.allA_snoc hlt ha ((Dn.okA_iff _).2 h4)⟩, by omega⟩ rfl (run trivial) (run trivial)
  · refine run ?_
    intro _
    rw [List.take_of_length_le (by omega)] at ha
    unfold Dn.isE
    rw [ha, decide_eq_true (by omega)]; rfl
end Go.Proofs.Ytibabbepnhpaiaa
