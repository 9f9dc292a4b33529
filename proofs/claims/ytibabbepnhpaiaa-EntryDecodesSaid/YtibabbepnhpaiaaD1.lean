/-
  The contracts of dn's parser: what each function computes, for every text.
-/
import Derived.Test.YtibabbepnhpaiaaL1
import Derived.Test.YtibabbepnhpaiaaD0
set_option linter.unusedVariables false
namespace Go.Proofs.Ytibabbepnhpaiaa
open Go.Vk
attribute [local irreducible] HT HX RegS RegA RegM OpP OpC AltT
theorem dnLetter (c : UInt8) : CFn Try.prog 61 [okI .u8 (c.toNat : Int)] (Is (.bool (Dn.letB c))) := by
  refine CallsC.of Try.call61 Try.func61 rfl Try.ntmps61 rfl fun w0 G0 S0 hs ho => ?_
  exact run trivial
theorem dnDigit (c : UInt8) : CFn Try.prog 62 [okI .u8 (c.toNat : Int)] (Is (.bool (Dn.digB c))) := by
  refine CallsC.of Try.call62 Try.func62 rfl Try.ntmps62 rfl fun w0 G0 S0 hs ho => ?_
  exact run trivial
theorem dnType (s : List UInt8) (hl : s.length ≤ 4611686018427387904) : CFn Try.prog 55 [Is (str s)] (Is (.bool (Dn.typB s))) := by
  have c1 := dnLetter
  have c2 := dnDigit
  refine CallsC.of Try.call55 Try.func55 rfl Try.ntmps55 rfl fun w0 G0 S0 hs ho => ?_
  refine run ?_
  refine ⟨?_, ?_⟩
  · intro h
    refine Dn.false_of fun hb => ?_
    have h1 := (Dn.typB_iff s).1 hb
    rw [Dn.letB_iff, ← List.length_eq_zero_iff] at *
    omega
  · intro h1
    refine HT.loopX (σ := Nat) [0, 19] (fun i => [(20, okI .i64 (i : Int))]) (fun _ => []) (fun i => i ≤ s.length ∧ (s.take i).all Dn.typC = true) (fun i => s.length - i) 0 ⟨Nat.zero_le _, by simp⟩ (run trivial) (run trivial) ?_
    rintro i ⟨hi, hall⟩
    refine run ?_
    refine ⟨fun h2 h3 => ?_, fun h2 h3 => ?_, fun h2 => ?_⟩
    · refine Dn.false_of fun hb => ?_
      have := (Dn.typC_iff _).1 (Dn.all_get (i := i) (by omega) ((Dn.typB_iff s).1 hb).2)
      omega
    · exact HX.roundX (i + 1) ⟨⟨by omega, Dn.all_take_snoc (by omega) hall ((Dn.typC_iff _).2 (by omega))⟩, by omega⟩ rfl (run trivial) (run trivial)
    · rw [List.take_of_length_le (by omega)] at hall
      refine ((Dn.typB_iff s).2 ⟨?_, hall⟩).symm
      rw [Dn.letB_iff]
      rw [← List.length_eq_zero_iff] at h1
      omega
end Go.Proofs.Ytibabbepnhpaiaa
