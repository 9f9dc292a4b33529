/-
  The contracts of the document's parser of names: what each function computes, for every text.
-/
import Derived.Test.YtahbeeakfbchlaaD7
import Derived.Test.YtahbeeakfbchlaaDP
set_option linter.unusedVariables false
namespace Go.Proofs.Ytahbeeakfbchlaa
open Go.Vk
attribute [local irreducible] HT HX RegS RegA RegM OpP OpC
theorem rfLetter (c : UInt8) : CFn Try.prog 41 [okI .u8 (c.toNat : Int)] (Is (.bool (Dn.letB c))) := by
  refine CallsC.of Try.call41 Try.func41 rfl Try.ntmps41 rfl fun w0 G0 S0 hs ho => ?_
  exact run trivial
theorem rfType (s : List UInt8) (hl : s.length ≤ 4611686018427387904) : CFn Try.prog 19 [Is (str s)] (Is (.bool (Dn.typB s))) := by
  have c1 := rfLetter
  refine CallsC.of Try.call19 Try.func19 rfl Try.ntmps19 rfl fun w0 G0 S0 hs ho => ?_
  refine run ?_
  refine ⟨?_, ?_⟩
  · intro h
    refine Dn.false_of fun hb => ?_
    have h1 := (Dn.typB_iff s).1 hb
    rw [Dn.letB_iff] at *
    omega
  · intro h1
    have h2 : 0 < s.length := by omega
    refine HT.loopX (σ := Nat) [0] (fun i => [(3, okI .i64 (i : Int))]) (fun _ => []) (fun i => 1 ≤ i ∧ i ≤ s.length ∧ (s.take i).all Dn.typC = true) (fun i => s.length - i) 1 ⟨by omega, by omega, Dn.all_take_snoc (i := 0) h2 (by simp) ((Dn.typC_iff _).2 (by omega))⟩ (run trivial) (run trivial) ?_
    rintro i ⟨h0, hi, hall⟩
    refine run ?_
    refine ⟨fun h2 h3 => ?_, fun h2 h3 => ?_, fun h2 => ?_⟩
    · refine Dn.false_of fun hb => ?_
      have := (Dn.typC_iff _).1 (Dn.all_get (i := i) (by omega) ((Dn.typB_iff s).1 hb).2)
      omega
    · exact HX.roundX (i + 1) ⟨⟨by omega, by omega, Dn.all_take_snoc (by omega) hall ((Dn.typC_iff _).2 (by omega))⟩, by omega⟩ rfl (run trivial) (run trivial)
    · rw [List.take_of_length_le (by omega)] at hall
      refine ((Dn.typB_iff s).2 ⟨?_, hall⟩).symm
      rw [Dn.letB_iff] at *
      omega
theorem rfHalf (c : UInt8) : CFn Try.prog 65 [okI .u8 (c.toNat : Int)] (okI .i64 (Dn.halfV c)) := by
  have hc := c.toNat_lt
  refine CallsC.of Try.call65 Try.func65 rfl Try.ntmps65 rfl fun w0 G0 S0 hs ho => ?_
  refine run ?_
  and_intros
  all_goals intros
  all_goals (rw [Dn.halfV_def]; repeat' split)
  all_goals omega
theorem rfIn (c : UInt8) (s : List UInt8) (hl : s.length ≤ 4611686018427387904) : CFn Try.prog 58 [okI .u8 (c.toNat : Int), Is (str s)] (Is (.bool (decide (0 ≤ Lib.indexByte s c)))) := by
  refine CallsC.of Try.call58 Try.func58 rfl Try.ntmps58 rfl fun w0 G0 S0 hs ho => ?_
  refine run ?_
  refine HT.loopX (σ := Nat) [0, 1] (fun i => [(5, okI .i64 (i : Int))]) (fun _ => []) (fun i => i ≤ s.length ∧ ¬ c ∈ s.take i) (fun i => s.length - i) 0 ⟨by omega, by simp⟩ (run trivial) (run trivial) ?_
  rintro i ⟨hi, hn⟩
  refine run ?_
  refine ⟨fun h2 h3 => ?_, fun h2 h3 => ?_, fun h2 => ?_⟩
  · exact Dn.in_at (by omega) h3
  · exact HX.roundX (i + 1) ⟨⟨by omega, Dn.not_in_snoc (by omega) hn h3⟩, by omega⟩ rfl (run trivial) (run trivial)
  · exact Dn.in_no h2 hn
abbrev RX (g : Nat) (s : List UInt8) (n : Int) : Res := ownP g 59 [Is (str s), okI .i64 n]
theorem rfBlanks (g : Nat) (s : List UInt8) (n : Nat) (h : n ≤ s.length ∧ s.length ≤ 1152921504606846976) : CallsC Try.prog 54 [Is (pAt g 0)] [RX g s (n : Int)] (fun _ => TTup []) (fun _ => [RX g s (Dn.skipE Dn.blk s n : Nat)]) := by
  refine CallsC.of Try.call54 Try.func54 rfl Try.ntmps54 rfl fun w0 G0 S0 hs ho => ?_
  refine run ?_
  refine HT.loopX (σ := Nat) [0] (fun i => []) (fun i => [RX g s (i : Int)]) (fun i => i ≤ s.length ∧ Dn.skipE Dn.blk s i = Dn.skipE Dn.blk s n) (fun i => s.length - i) n ⟨by omega, rfl⟩ (run trivial) (run trivial) ?_
  rintro i ⟨hi, hs⟩
  refine run ?_
  refine ⟨fun h1 => ?_, fun h1 => ?_⟩
  · exact HX.roundX (i + 1) ⟨⟨by omega, by rw [← hs]; exact (Dn.skipE_yes (by omega) (decide_eq_true h1.2)).symm⟩, by omega⟩ rfl (run trivial) (run trivial)
  · have : Dn.skipE Dn.blk s i = i := Dn.skipE_no fun hlt => decide_eq_false (by omega)
    rw [← hs, this]
theorem rfTyp (g : Nat) (s : List UInt8) (n : Nat) (h : n ≤ s.length ∧ s.length ≤ 1152921504606846976) : CallsC Try.prog 55 [Is (pAt g 0)] [RX g s (n : Int)] (fun _ => Is (str ((s.take (Dn.skipE Dn.nbC s n)).drop n))) (fun _ => [RX g s (Dn.skipE Dn.nbC s n : Nat)]) := by
  refine CallsC.of Try.call55 Try.func55 rfl Try.ntmps55 rfl fun w0 G0 S0 hs ho => ?_
  refine run ?_
  refine HT.loopX (σ := Nat) [0, 3] (fun i => []) (fun i => [RX g s (i : Int)]) (fun i => n ≤ i ∧ i ≤ s.length ∧ Dn.skipE Dn.nbC s i = Dn.skipE Dn.nbC s n) (fun i => s.length - i) n ⟨by omega, by omega, rfl⟩ (run trivial) (run trivial) ?_
  rintro i ⟨hn, hi, hs⟩
  refine run ?_
  and_intros
  all_goals intros
  all_goals (first
    | exact HX.roundX (i + 1) ⟨⟨by omega, by omega, by rw [← hs]; exact (Dn.skipE_yes (by omega) (by simp only [Dn.nbC, Bool.and_eq_true, decide_eq_true_eq]; omega)).symm⟩, by omega⟩ rfl (run trivial) (run trivial)
    | (have he : Dn.skipE Dn.nbC s i = i := Dn.skipE_no fun hlt => by simp only [Dn.nbC, Bool.and_eq_false_iff, decide_eq_false_iff_not]; omega
       rw [← hs, he]
       try rfl))
theorem rfStroke (g : Nat) (s : List UInt8) (n : Nat) (h : n ≤ s.length ∧ s.length ≤ 1152921504606846976) : CallsC Try.prog 63 [Is (pAt g 0)] [RX g s (n : Int)] (fun _ => TTup [okI .u8 (Dn.strokeF s n).2.1.toNat, Is (.bool (Dn.strokeF s n).2.2)]) (fun _ => [RX g s ((Dn.strokeF s n).1 : Nat)]) := by
  have c1 := rfIn
  have c2 := rfHalf
  have h1 := Dn.halfV_bd (s.getD (n + 1) 0)
  have h2 := Dn.halfV_bd (s.getD (n + 2) 0)
  refine CallsC.of Try.call63 Try.func63 rfl Try.ntmps63 rfl fun w0 G0 S0 hs ho => ?_
  refine run ?_
  and_intros
  all_goals intros
  all_goals (first
    | (rw [Dn.strokeF_0 (by omega)]; first | done | rfl)
    | (rw [Dn.strokeF_1 (by omega) (by assumption)]; first | done | rfl)
    | (rw [Dn.strokeF_2 (by omega) (by assumption) (by omega)]; first | done | rfl)
    | (rw [Dn.strokeF_3 (by omega) (by assumption) (by omega)]; first | done | rfl)
    | skip)
end Go.Proofs.Ytahbeeakfbchlaa
