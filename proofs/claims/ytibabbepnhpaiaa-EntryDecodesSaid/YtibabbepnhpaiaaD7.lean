/-
  The contracts of dn's Fold, Norm, Same, Under, Up.
-/
import Derived.Test.YtibabbepnhpaiaaD6
set_option linter.unusedVariables false
namespace Go.Proofs.Ytibabbepnhpaiaa
open Go.Vk
attribute [local irreducible] HT HX RegS RegA RegM OpP OpC AltT
attribute [local irreducible] Dn.foldR Dn.foldE
theorem subN1 (n : Nat) : (((n : Nat) : Int) - 1).toNat = n - 1 := by omega
set_option maxHeartbeats 2000000 in
theorem dnFold (s : List UInt8) (hs : s.length ≤ 134217728) : CFn Try.prog 38 [Is (str s)] (Is (str (Dn.foldE s))) := by
  refine CallsC.of Try.call38 Try.func38 rfl Try.ntmps38 rfl fun w0 G0 S0 hs ho => ?_
  refine run ?_
  refine HT.loopX (σ := Nat × Value) [0, 2, 8] (fun t => [(3, TAnd (Is t.2) (TBytes (Dn.foldR (s.take t.1)))), (9, okI .i64 (t.1 : Int))]) (fun t => [ownSl t.2 1 5]) (fun t => t.1 ≤ s.length) (fun t => s.length - t.1) (0, .slice none 0 0) (Nat.zero_le _) (run trivial) (run ?_) ?_
  · unfold Dn.foldR; rfl
  rintro ⟨i, v⟩ hi
  dsimp only at hi ⊢
  have hl := Dn.foldR_len (s.take i)
  have hl2 : (s.take i).length = i := by rw [List.length_take]; omega
  refine run ?_
  and_intros
  all_goals intros
  all_goals try simp only [Dn.lastB_at] at *
  · rename_i h1
    refine HX.roundX (i + 1, v) ⟨by dsimp only; omega, by dsimp only; omega⟩ rfl (run trivial) (run ?_)
    rw [Dn.foldR_skip (by omega) h1]
  · rename_i v' _ h1 h2
    refine HX.roundX (i + 1, v') ⟨by dsimp only; omega, by dsimp only; omega⟩ rfl (run trivial) (run ?_)
    rw [Dn.foldR_put (by omega) (by assumption), Dn.lowC_up (by assumption)]
  · rename_i v' _ h1 h2
    refine HX.roundX (i + 1, v') ⟨by dsimp only; omega, by dsimp only; omega⟩ rfl (run trivial) (run ?_)
    rw [Dn.foldR_put (by omega) (by assumption), Dn.lowC_no (Dn.nand (by assumption))]
  · rename_i h1
    rw [List.take_of_length_le (show s.length ≤ i by omega)] at *
    rw [Dn.foldE_cut h1, subN1]
  · rename_i h1
    rw [List.take_of_length_le (show s.length ≤ i by omega)] at *
    rw [Dn.foldE_all h1]
set_option maxHeartbeats 2000000 in
theorem avaEq (l m : List Dn.Ava) (hl : l.length ≤ 1152921504606846976) : CFn Try.prog 40 [TSl 2 Dn.cAva l, TSl 2 Dn.cAva m] (Is (.bool (decide (l = m)))) := by
  refine CallsC.of Try.call40 Try.func40 rfl Try.ntmps40 rfl fun w0 G0 S0 hs ho => ?_
  refine run ?_
  refine ⟨?_, ?_⟩
  · intro h
    exact (decide_eq_false (fun e => h (by rw [e]))).symm
  intro hc
  refine HT.loopX (σ := Nat) [0, 1, 12] (fun i => [(13, okI .i64 (i : Int))]) (fun _ => []) (fun i => i ≤ l.length ∧ l.take i = m.take i) (fun i => l.length - i) 0 ⟨Nat.zero_le _, rfl⟩ (run trivial) (run trivial) ?_
  rintro i ⟨hi, he⟩
  have hc' : l.length = m.length := by
    have : (l.length : Int) = (m.length : Int) := Decidable.not_not.1 hc
    omega
  refine run ?_
  simp only [Dn.avaB, decide_eq_false_iff_not, decide_eq_true_eq]
  and_intros
  all_goals intros
  · rename_i h1 h2
    exact (decide_eq_false (fun e => h2 (by rw [e]))).symm
  · rename_i h1 h2
    exact HX.roundX (i + 1) ⟨⟨by omega, Dn.take_ext (by omega) hc' he h2⟩, by omega⟩ rfl (run trivial) (run trivial)
  · rename_i h1
    exact (decide_eq_true (Dn.take_all h1 hc' he)).symm
theorem avaClone (l : List Dn.Ava) (hl : l.length ≤ 134217728) : CFn Try.prog 44 [TSl 2 Dn.cAva l] (TSl 2 Dn.cAva l) := by
  refine CallsC.of Try.call44 Try.func44 rfl Try.ntmps44 rfl fun w0 G0 S0 hs ho => ?_
  refine run ?_
  intro h
  exact h.symm
attribute [local irreducible] Dn.normE Dn.normA Dn.sameE Dn.underE
end Go.Proofs.Ytibabbepnhpaiaa
