/-
  The contracts of dn's part, Is and what these call.
-/
import Derived.Test.YtahbeeakfbchlaaD4
set_option linter.unusedVariables false
namespace Go.Proofs.Ytahbeeakfbchlaa
open Go.Vk
attribute [local irreducible] HT HX RegS RegA RegM OpP OpC
theorem toN1 (m : Nat) : (((m : Nat) : Int) + 1).toNat = m + 1 := by omega
set_option maxHeartbeats 2000000 in
theorem dnPart (g : Nat) (s : List UInt8) (n : Int) (h : 0 ≤ n ∧ n ≤ (s.length : Int) ∧ s.length ≤ 1048576) : CallsC Try.prog 33 [Is (pAt g 0)] [TX g s n] (fun _ => TTup [TAgg (Dn.cAva (Dn.partE s n.toNat).2.1), Is (.bool (Dn.partE s n.toNat).2.2)]) (fun _ => [TX g s ((Dn.partE s n.toNat).1 : Nat)]) := by
  have c1 := dnBlanks
  have c2 := dnKind
  have c3 := dnTakes
  have c4 := dnValue
  have hb := Dn.partE_bd s n.toNat (by omega)
  have b1 : Dn.skipE Dn.typC s (Dn.skipE Dn.blk s n.toNat) ≤ s.length := by
    have h1 : Dn.skipE Dn.typC s (Dn.skipE Dn.blk s n.toNat) ≤ Dn.eqE s n.toNat := hb.2.2.1
    omega
  have b2 := Dn.skipE_le Dn.blk s (Dn.skipE Dn.typC s (Dn.skipE Dn.blk s n.toNat)) b1
  have b3 := Dn.skipE_le Dn.blk s (Dn.skipE Dn.blk s (Dn.skipE Dn.typC s (Dn.skipE Dn.blk s n.toNat)) + 1)
  refine CallsC.of Try.call33 Try.func33 rfl Try.ntmps33 rfl fun w0 G0 S0 hs ho => ?_
  refine run ?_
  and_intros
  all_goals intros
  all_goals try simp only [Int.toNat_natCast] at *
  all_goals (first
    | omega
    | (rw [Dn.partE_0 (by assumption)]; done)
    | (rw [Dn.partE_0 (by assumption)]; rfl)
    | (rw [Dn.partE_1' (by assumption) (by assumption)]; done)
    | (rw [Dn.partE_1' (by assumption) (by assumption)]; rfl)
    | (rw [Dn.partE_1' (by assumption) (by assumption), if_neg (Dn.nand (by assumption))]; rfl)
    | (rw [Dn.partE_2' (by assumption) (by assumption)]; done)
    | (rw [Dn.partE_2' (by assumption) (by assumption)]; rfl)
    | (rw [if_pos (by assumption), toN1, Dn.partE_2' (by assumption) (by assumption)]; first | done | rfl)
    | (rw [if_pos (by assumption), toN1]
       have := b3 (by omega)
       omega))
theorem dnIs1 (a : Dn.Ava) (h : a.typ.length ≤ 1152921504606846976) : CFn Try.prog 45 [TAgg (Dn.cAva a)] (Is (.bool (!Dn.okA a))) := by
  have c1 := dnType
  refine CallsC.of Try.call45 Try.func45 rfl Try.ntmps45 rfl fun w0 G0 S0 hs ho => ?_
  refine run ?_
  unfold Dn.okA
  by_cases h1 : (64 : Int) < (a.val.length : Int)
  · have h2 : ¬ (a.val.length : Int) ≤ 64 := by omega
    simp [h1, h2]
  · have h2 : (a.val.length : Int) ≤ 64 := by omega
    simp [h1, h2]
theorem ixFunc {f : FuncId} {Cs : List Ty} (l : List Dn.Ava) (p : Dn.Ava → Bool) (hl : l.length ≤ 1152921504606846976) (cf : ∀ a ∈ l, CFn Try.prog f ([TAgg (Dn.cAva a)] ++ Cs) (Is (.bool (p a)))) : CFn Try.prog 59 [TSl 2 Dn.cAva l, TFn f Cs] (okI .i64 (Dn.ixOf p l)) := by
  refine CallsC.of Try.call59 Try.func59 rfl Try.ntmps59 rfl fun w0 G0 S0 hs ho => ?_
  refine run ?_
  refine HT.loopX (σ := Nat) [0, 1, 7] (fun i => [(8, okI .i64 (i : Int))]) (fun i => []) (fun i => i ≤ l.length ∧ (l.take i).any p = false) (fun i => l.length - i) 0 ⟨by omega, by simp⟩ (run trivial) (run trivial) ?_
  rintro i ⟨hi, hp⟩
  have cf' := fun (hlt : i < l.length) => cf (l.getD i default) (Dn.getD_mem hlt)
  clear cf
  refine run ?_
  refine ⟨fun h1 h2 => ?_, fun h1 h2 => ?_, fun h1 => ?_⟩
  · exact (Dn.ixOf_at (by omega) hp h2).symm
  · exact HX.roundX (i + 1) ⟨⟨by omega, Dn.any_snoc (by omega) hp h2⟩, by omega⟩ rfl (run trivial) (run trivial)
  · exact (Dn.ixOf_none (by rwa [List.take_of_length_le (by omega)] at hp)).symm
theorem anyFunc {f : FuncId} {Cs : List Ty} (l : List Dn.Ava) (p : Dn.Ava → Bool) (hl : l.length ≤ 1152921504606846976) (cf : ∀ a ∈ l, CFn Try.prog f ([TAgg (Dn.cAva a)] ++ Cs) (Is (.bool (p a)))) : CFn Try.prog 44 [TSl 2 Dn.cAva l, TFn f Cs] (Is (.bool (l.any p))) := by
  have c1 := ixFunc l p hl cf
  refine CallsC.of Try.call44 Try.func44 rfl Try.ntmps44 rfl fun w0 G0 S0 hs ho => ?_
  refine run ?_
  exact Dn.ixOf_nonneg
theorem dnIsF (l : List Dn.Ava) (hl : l.length ≤ 1152921504606846976) (ha : ∀ a ∈ l, a.typ.length ≤ 1152921504606846976) : CFn Try.prog 25 [TSl 2 Dn.cAva l] (Is (.bool (Dn.isE l))) := by
  have c1 := anyFunc (f := 45) (Cs := []) l (fun a => !Dn.okA a) hl (fun a h => dnIs1 a (ha a h))
  refine CallsC.of Try.call25 Try.func25 rfl Try.ntmps25 rfl fun w0 G0 S0 hs ho => ?_
  refine run ?_
  exact (Dn.isE_any l).symm
end Go.Proofs.Ytahbeeakfbchlaa
