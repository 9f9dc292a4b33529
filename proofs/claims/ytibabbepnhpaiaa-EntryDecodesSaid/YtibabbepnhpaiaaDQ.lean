/-
  The contracts of the document's parser of names: what each function computes, for every text.
-/
import Derived.Test.YtibabbepnhpaiaaD7
import Derived.Test.YtibabbepnhpaiaaDP
set_option linter.unusedVariables false
namespace Go.Proofs.Ytibabbepnhpaiaa
open Go.Vk
attribute [local irreducible] HT HX RegS RegA RegM OpP OpC AltT
theorem rfLetter (c : UInt8) : CFn Try.prog 59 [okI .u8 (c.toNat : Int)] (Is (.bool (Dn.letB c))) := by
  refine CallsC.of Try.call59 Try.func59 rfl Try.ntmps59 rfl fun w0 G0 S0 hs ho => ?_
  exact run trivial
theorem rfType (s : List UInt8) (hl : s.length ≤ 4611686018427387904) : CFn Try.prog 37 [Is (str s)] (Is (.bool (Dn.typB s))) := by
  have c1 := rfLetter
  refine CallsC.of Try.call37 Try.func37 rfl Try.ntmps37 rfl fun w0 G0 S0 hs ho => ?_
  refine run ?_
  refine ⟨?_, ?_⟩
  · intro h
    refine Dn.false_of fun hb => ?_
    have h1 := (Dn.typB_iff s).1 hb
    rw [Dn.letB_iff] at *
    omega
  · intro h1
    have h2 : 0 < s.length := by omega
    refine HT.loopX (σ := Nat) [0] (fun i => [(3, okI .i64 (i : Int))]) (fun _ => []) (fun i => 1 ≤ i ∧ i ≤ s.length ∧ (s.take i).all Dn.typC = true) (fun i => s.length - i) 1 ⟨by omega, by omega, Dn.all_take_snoc (i := 0) h2 (by simp) ((Dn.typC_iff _).2 (by omega))⟩ (run trivial) (run trivial) ?_
    rintro i ⟨h0, hi, hall⟩
    refine run ?_
    refine ⟨fun h2 h3 => ?_, fun h2 h3 => ?_, fun h2 => ?_⟩
    · refine Dn.false_of fun hb => ?_
      have := (Dn.typC_iff _).1 (Dn.all_get (i := i) (by omega) ((Dn.typB_iff s).1 hb).2)
      omega
    · exact HX.roundX (i + 1) ⟨⟨by omega, by omega, Dn.all_take_snoc (by omega) hall ((Dn.typC_iff _).2 (by omega))⟩, by omega⟩ rfl (run trivial) (run trivial)
    · rw [List.take_of_length_le (by omega)] at hall
      refine ((Dn.typB_iff s).2 ⟨?_, hall⟩).symm
      rw [Dn.letB_iff] at *
      omega
end Go.Proofs.Ytibabbepnhpaiaa
