/-
  The contracts of dn's Fold, Norm, Same, Under, Up.
-/
import Derived.Test.YtahbeeakfbchlaaD6
set_option linter.unusedVariables false
namespace Go.Proofs.Ytahbeeakfbchlaa
open Go.Vk
attribute [local irreducible] HT HX RegS RegA RegM OpP OpC
attribute [local irreducible] Dn.foldR Dn.foldE
theorem subN1 (n : Nat) : (((n : Nat) : Int) - 1).toNat = n - 1 := by omega
set_option maxHeartbeats 2000000 in
theorem dnFold (s : List UInt8) (hs : s.length ≤ 134217728) : CFn Try.prog 20 [Is (str s)] (Is (str (Dn.foldE s))) := by
  refine CallsC.of Try.call20 Try.func20 rfl Try.ntmps20 rfl fun w0 G0 S0 hs ho => ?_
  refine run ?_
  refine HT.loopX (σ := Nat × Value) [0, 2, 8] (fun t => [(3, TAnd (Is t.2) (TBytes (Dn.foldR (s.take t.1)))), (9, okI .i64 (t.1 : Int))]) (fun t => [ownSl t.2 1 5]) (fun t => t.1 ≤ s.length) (fun t => s.length - t.1) (0, .slice none 0 0) (Nat.zero_le _) (run trivial) (run ?_) ?_
  · unfold Dn.foldR; rfl
  rintro ⟨i, v⟩ hi
  dsimp only at hi ⊢
  have hl := Dn.foldR_len (s.take i)
  have hl2 : (s.take i).length = i := by rw [List.length_take]; omega
  refine run ?_
  and_intros
  all_goals intros
  all_goals try simp only [Dn.lastB_at] at *
  · rename_i h1
    refine HX.roundX (i + 1, v) ⟨by dsimp only; omega, by dsimp only; omega⟩ rfl (run trivial) (run ?_)
    rw [Dn.foldR_skip (by omega) h1]
  · rename_i v' _ h1 h2
    refine HX.roundX (i + 1, v') ⟨by dsimp only; omega, by dsimp only; omega⟩ rfl (run trivial) (run ?_)
    rw [Dn.foldR_put (by omega) (by assumption), Dn.lowC_up (by assumption)]
  · rename_i v' _ h1 h2
    refine HX.roundX (i + 1, v') ⟨by dsimp only; omega, by dsimp only; omega⟩ rfl (run trivial) (run ?_)
    rw [Dn.foldR_put (by omega) (by assumption), Dn.lowC_no (Dn.nand (by assumption))]
  · rename_i h1
    rw [List.take_of_length_le (show s.length ≤ i by omega)] at *
    rw [Dn.foldE_cut h1, subN1]
  · rename_i h1
    rw [List.take_of_length_le (show s.length ≤ i by omega)] at *
    rw [Dn.foldE_all h1]
set_option maxHeartbeats 2000000 in
theorem avaEq (l m : List Dn.Ava) (hl : l.length ≤ 1152921504606846976) : CFn Try.prog 42 [TSl 2 Dn.cAva l, TSl 2 Dn.cAva m] (Is (.bool (decide (l = m)))) := by
  refine CallsC.of Try.call42 Try.func42 rfl Try.ntmps42 rfl fun w0 G0 S0 hs ho => ?_
  refine run ?_
  refine ⟨?_, ?_⟩
  · intro h
    exact (decide_eq_false (fun e => h (by rw [e]))).symm
  intro hc
  refine HT.loopX (σ := Nat) [0, 1, 12] (fun i => [(13, okI .i64 (i : Int))]) (fun _ => []) (fun i => i ≤ l.length ∧ l.take i = m.take i) (fun i => l.length - i) 0 ⟨Nat.zero_le _, rfl⟩ (run trivial) (run trivial) ?_
  rintro i ⟨hi, he⟩
  have hc' : l.length = m.length := by
    have : (l.length : Int) = (m.length : Int) := Decidable.not_not.1 hc
    omega
  refine run ?_
  simp only [Dn.avaB, decide_eq_false_iff_not, decide_eq_true_eq]
  and_intros
  all_goals intros
  · rename_i h1 h2
    exact (decide_eq_false (fun e => h2 (by rw [e]))).symm
  · rename_i h1 h2
    exact HX.roundX (i + 1) ⟨⟨by omega, Dn.take_ext (by omega) hc' he h2⟩, by omega⟩ rfl (run trivial) (run trivial)
  · rename_i h1
    exact (decide_eq_true (Dn.take_all h1 hc' he)).symm
theorem avaClone (l : List Dn.Ava) (hl : l.length ≤ 134217728) : CFn Try.prog 47 [TSl 2 Dn.cAva l] (TSl 2 Dn.cAva l) := by
  refine CallsC.of Try.call47 Try.func47 rfl Try.ntmps47 rfl fun w0 G0 S0 hs ho => ?_
  refine run ?_
  intro h
  exact h.symm
theorem dnUp (l : List Dn.Ava) (hl : l.length ≤ 134217728) : CFn Try.prog 27 [TSl 2 Dn.cAva l] (TSl 2 Dn.cAva (l.drop 1)) := by
  have c1 := avaClone
  refine CallsC.of Try.call27 Try.func27 rfl Try.ntmps27 rfl fun w0 G0 S0 hs ho => ?_
  refine run ?_
  refine ⟨fun h => ?_, fun _ => rfl⟩
  rw [List.drop_eq_nil_of_le (by omega)]
attribute [local irreducible] Dn.normE Dn.normA Dn.sameE Dn.underE
set_option maxHeartbeats 2000000 in
theorem dnNorm (l : List Dn.Ava) (hl : Dn.wgt l ≤ 1048576) : CFn Try.prog 22 [TSl 2 Dn.cAva l] (TSl 2 Dn.cAva (Dn.normE l)) := by
  have hw := Dn.wgt_len l
  have c1 := dnFold
  refine CallsC.of Try.call22 Try.func22 rfl Try.ntmps22 rfl fun w0 G0 S0 hs ho => ?_
  refine run ?_
  refine HT.loopX (σ := Nat × Value) [2, 7, 8] (fun t => [(3, TAnd (Is t.2) (TSl 2 Dn.cAva (Dn.normE (l.take t.1)))), (9, okI .i64 (t.1 : Int))]) (fun t => [ownSl t.2 2 31]) (fun t => t.1 ≤ l.length) (fun t => l.length - t.1) (0, .slice none 0 0) (Nat.zero_le _) (run trivial) (run ?_) ?_
  · unfold Dn.normE; rfl
  rintro ⟨i, v⟩ hi
  dsimp only at hi ⊢
  have hl2 : (Dn.normE (l.take i)).length = i := by unfold Dn.normE; rw [List.length_map, List.length_take]; omega
  by_cases hlt : i < l.length
  · have h3 := Dn.wgt_at hlt
    have hn := Dn.normE_take hlt
    refine run ?_
    and_intros
    all_goals intros
    · rename_i v' _ h4
      refine HX.roundX (i + 1, v') ⟨by dsimp only; omega, by dsimp only; omega⟩ rfl (run trivial) (run ?_)
      rw [hn, List.map_append]; unfold Dn.normA; rw [if_pos h4]; rfl
    · rename_i v' _ h4
      refine HX.roundX (i + 1, v') ⟨by dsimp only; omega, by dsimp only; omega⟩ rfl (run trivial) (run ?_)
      rw [hn, List.map_append]; unfold Dn.normA; rw [if_neg (by simpa using h4)]; rfl
  · refine run ?_
    intro _
    rw [List.take_of_length_le (by omega)]
theorem dnSame (l m : List Dn.Ava) (hl : Dn.wgt l ≤ 1048576) (hm : Dn.wgt m ≤ 1048576) : CFn Try.prog 23 [TSl 2 Dn.cAva l, TSl 2 Dn.cAva m] (Is (.bool (Dn.sameE l m))) := by
  have c1 := dnNorm
  have c2 := avaEq (Dn.normE l) (Dn.normE m) (by have := Dn.wgt_len l; unfold Dn.normE; rw [List.length_map]; omega)
  refine CallsC.of Try.call23 Try.func23 rfl Try.ntmps23 rfl fun w0 G0 S0 hs ho => ?_
  refine run ?_
  unfold Dn.sameE; rfl
theorem dnUnder (l m : List Dn.Ava) (hl : Dn.wgt l ≤ 1048576) (hm : Dn.wgt m ≤ 1048576) : CFn Try.prog 30 [TSl 2 Dn.cAva l, TSl 2 Dn.cAva m] (Is (.bool (Dn.underE l m))) := by
  have h1 := Dn.wgt_len l
  have h2 := Dn.wgt_len m
  have h3 := Dn.wgt_drop l
  have c1 := fun k => dnSame (l.drop k) m (by have := h3 k; omega) hm
  refine CallsC.of Try.call30 Try.func30 rfl Try.ntmps30 rfl fun w0 G0 S0 hs ho => ?_
  refine run ?_
  unfold Dn.underE
  rw [show ((l.length : Int) - (m.length : Int)).toNat = l.length - m.length by omega]
  by_cases h : m.length ≤ l.length
  · simp [h]
  · simp [h]
end Go.Proofs.Ytahbeeakfbchlaa
