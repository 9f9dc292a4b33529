/-
  The contracts of dn's parser: what each function computes, for every text.
-/
import Derived.Test.YtahbeeakfbchlaaL1
import Derived.Test.YtahbeeakfbchlaaD0
set_option linter.unusedVariables false
namespace Go.Proofs.Ytahbeeakfbchlaa
open Go.Vk
attribute [local irreducible] HT HX RegS RegA RegM OpP OpC
theorem dnLetter (c : UInt8) : CFn Try.prog 39 [okI .u8 (c.toNat : Int)] (Is (.bool (Dn.letB c))) := by
  refine CallsC.of Try.call39 Try.func39 rfl Try.ntmps39 rfl fun w0 G0 S0 hs ho => ?_
  exact run trivial
theorem dnDigit (c : UInt8) : CFn Try.prog 40 [okI .u8 (c.toNat : Int)] (Is (.bool (Dn.digB c))) := by
  refine CallsC.of Try.call40 Try.func40 rfl Try.ntmps40 rfl fun w0 G0 S0 hs ho => ?_
  exact run trivial
theorem dnType (s : List UInt8) (hl : s.length ≤ 4611686018427387904) : CFn Try.prog 18 [Is (str s)] (Is (.bool (Dn.typB s))) := by
  have c1 := dnLetter
  have c2 := dnDigit
  refine CallsC.of Try.call18 Try.func18 rfl Try.ntmps18 rfl fun w0 G0 S0 hs ho => ?_
  refine run ?_
  refine ⟨?_, ?_⟩
  · intro h
    refine Dn.false_of fun hb => ?_
    have h1 := (Dn.typB_iff s).1 hb
    rw [Dn.letB_iff, ← List.length_eq_zero_iff] at *
    omega
  · intro h1
    refine HT.loopX (σ := Nat) [0, 19] (fun i => [(20, okI .i64 (i : Int))]) (fun _ => []) (fun i => i ≤ s.length ∧ (s.take i).all Dn.typC = true) (fun i => s.length - i) 0 ⟨Nat.zero_le _, by simp⟩ (run trivial) (run trivial) ?_
    rintro i ⟨hi, hall⟩
    refine run ?_
    refine ⟨fun h2 h3 => ?_, fun h2 h3 => ?_, fun h2 => ?_⟩
    · refine Dn.false_of fun hb => ?_
      have := (Dn.typC_iff _).1 (Dn.all_get (i := i) (by omega) ((Dn.typB_iff s).1 hb).2)
      omega
    · exact HX.roundX (i + 1) ⟨⟨by omega, Dn.all_take_snoc (by omega) hall ((Dn.typC_iff _).2 (by omega))⟩, by omega⟩ rfl (run trivial) (run trivial)
    · rw [List.take_of_length_le (by omega)] at hall
      refine ((Dn.typB_iff s).2 ⟨?_, hall⟩).symm
      rw [Dn.letB_iff]
      rw [← List.length_eq_zero_iff] at h1
      omega
theorem dnHex (c : UInt8) : CFn Try.prog 64 [okI .u8 (c.toNat : Int)] (TTup [okI .u8 (Dn.hexV c), Is (.bool (Dn.hexOk c))]) := by
  have c2 : ∀ c : UInt8, CFn Try.prog 40 [okI .u8 (c.toNat : Int)] (Is (.bool (decide (48 ≤ (c.toNat : Int)) && decide ((c.toNat : Int) ≤ 57)))) := dnDigit
  have hc := c.toNat_lt
  unfold Dn.hexV Dn.hexOk
  refine CallsC.of Try.call64 Try.func64 rfl Try.ntmps64 rfl fun w0 G0 S0 hs ho => ?_
  exact run trivial
theorem dnIs (s : List UInt8) (n c : Int) (h : 0 ≤ n) : CFn Try.prog 48 [TPc [Is (str s), okI .i64 n], okI .u8 c] (Is (.bool (decide (n < (s.length : Int)) && decide (((s.getD n.toNat 0).toNat : Int) = c)))) := by
  refine CallsC.of Try.call48 Try.func48 rfl Try.ntmps48 rfl fun w0 G0 S0 hs ho => ?_
  exact run trivial
theorem dnTakes (g : Nat) (s : List UInt8) (n c : Int) (h : 0 ≤ n) (h1 : n < 4611686018427387904) : CallsC Try.prog 32 [Is (pAt g 0), okI .u8 c] [ownP g 43 [Is (str s), okI .i64 n]] (fun _ => Is (.bool (decide (n < (s.length : Int)) && decide (((s.getD n.toNat 0).toNat : Int) = c)))) (fun _ => [ownP g 43 [Is (str s), okI .i64 (if n < (s.length : Int) ∧ ((s.getD n.toNat 0).toNat : Int) = c then n + 1 else n)]]) := by
  have c1 := dnIs
  refine CallsC.of Try.call32 Try.func32 rfl Try.ntmps32 rfl fun w0 G0 S0 hs ho => ?_
  exact run trivial
end Go.Proofs.Ytahbeeakfbchlaa
