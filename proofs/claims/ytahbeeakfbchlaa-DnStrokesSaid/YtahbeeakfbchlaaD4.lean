/-
  The contract of dn's parser's value.
-/
import Derived.Test.YtahbeeakfbchlaaD3
set_option linter.unusedVariables false
namespace Go.Proofs.Ytahbeeakfbchlaa
open Go.Vk
attribute [local irreducible] HT HX RegS RegA RegM OpP OpC
theorem dnValue (g : Nat) (s : List UInt8) (n : Int) (h : 0 ≤ n ∧ n ≤ (s.length : Int) ∧ s.length ≤ 1048576) : CallsC Try.prog 51 [Is (pAt g 0)] [TX g s n] (fun _ => TTup [Is (str (Dn.valueE s n.toNat).2.1), Is (.bool (Dn.valueE s n.toNat).2.2)]) (fun _ => [TX g s ((Dn.valueE s n.toNat).1 : Nat)]) := by
  have c1 := stIndexByte
  have c2 := dnIs
  have c3 := dnStroke
  refine CallsC.of Try.call51 Try.func51 rfl Try.ntmps51 rfl fun w0 G0 S0 hs ho => ?_
  refine run ?_
  refine HT.loopX (σ := (Nat × Nat) × (List UInt8 × Nat) × Value) [0] (fun t => [(4, TAnd (Is t.2.2) (TBytes t.2.1.1)), (5, okI .i64 (t.2.1.2 : Int))]) (fun t => [TX g s (t.1.2 : Int), ownSl t.2.2 1 5]) (fun t => Dn.valE t.1.1 s t.1.2 t.2.1.1 t.2.1.2 = Dn.valE (s.length - n.toNat) s n.toNat [] 0 ∧ t.1.2 ≤ s.length ∧ s.length - t.1.2 ≤ t.1.1 ∧ t.2.1.1.length ≤ t.1.2 ∧ t.2.1.2 ≤ t.2.1.1.length) (fun t => s.length - t.1.2) ((s.length - n.toNat, n.toNat), ([], 0), .slice none 0 0) ⟨rfl, by dsimp only; omega, by dsimp only; omega, by simp, by simp⟩ (run trivial) (run trivial) ?_
  rintro ⟨⟨k, i⟩, ⟨b, e⟩, v⟩ ⟨hv, hi, hk, hb, he⟩
  dsimp only at hv hi hk hb he ⊢
  by_cases h0 : i < s.length ∧ ((s.getD i 0).toNat : Int) ≠ 44
  · have h0' : ((s.getD i 0).toNat : Int) ≠ 44 := h0.2
    have hbd := Dn.strokeE_bd s (i + 1) (by omega)
    have e1 : ((i : Int) + 1).toNat = i + 1 := by omega
    have hbd2 : 0 ≤ (Dn.strokeE s ((i : Int) + 1).toNat).2.1 ∧ (Dn.strokeE s ((i : Int) + 1).toNat).2.1 < 256 := by rw [e1]; exact hbd.2.2
    obtain ⟨k, rfl⟩ : ∃ j, k = j + 1 := ⟨k - 1, by omega⟩
    refine run ?_
    and_intros
    all_goals intros
    all_goals try rw [e1] at *
    · rw [Dn.valE_bad h0 (by assumption) (by assumption)] at hv
      rw [Dn.valueE_none hv.symm]
    · rw [Dn.valE_bad h0 (by assumption) (by assumption)] at hv
      rw [Dn.valueE_none hv.symm]
    · rw [Dn.valE_bad h0 (by assumption) (by assumption)] at hv
      rw [Dn.valueE_none hv.symm]
    · rw [Dn.valE_str h0 (by assumption) (by assumption)] at hv
      refine HX.roundX ((k, (Dn.strokeE s (i + 1)).1), (b ++ [b8 (Dn.strokeE s (i + 1)).2.1], b.length + 1), ‹Value›) ⟨⟨hv, by dsimp only; omega, by dsimp only; omega, by simp; omega, by simp⟩, by dsimp only; omega⟩ rfl (run trivial) (run ?_)
      simp
    · rw [Dn.valE_spc h0 (by assumption) (by assumption)] at hv
      rw [Dn.valueE_none hv.symm]
      rfl
    · rw [Dn.valE_spc h0 (by assumption) (by assumption)] at hv
      rw [Dn.valueE_none hv.symm]
    · rw [Dn.valE_spc h0 (by assumption) (by assumption)] at hv
      rw [Dn.valueE_none hv.symm]
    · rw [Dn.valE_blank h0 (by assumption) (by assumption) (by assumption)] at hv
      exact HX.roundX ((k, i + 1), (b ++ [s.getD i 0], e), ‹Value›) ⟨⟨hv, by dsimp only; omega, by dsimp only; omega, by simp; omega, by simp; omega⟩, by dsimp only; omega⟩ rfl (run trivial) (run trivial)
    · rw [Dn.valE_else h0 (by assumption) (by assumption) (by assumption)] at hv
      refine HX.roundX ((k, i + 1), (b ++ [s.getD i 0], b.length + 1), ‹Value›) ⟨⟨hv, by dsimp only; omega, by dsimp only; omega, by simp; omega, by simp⟩, by dsimp only; omega⟩ rfl (run trivial) (run ?_)
      simp
  · rw [Dn.valE_end h0] at hv
    rw [Dn.valueE_some hv.symm]
    exact run trivial
end Go.Proofs.Ytahbeeakfbchlaa
