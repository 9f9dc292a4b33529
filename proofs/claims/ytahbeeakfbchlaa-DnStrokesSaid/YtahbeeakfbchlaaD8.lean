/-
  The contract of dn's Print.
-/
import Derived.Test.YtahbeeakfbchlaaD7
import Derived.Test.YtahbeeakfbchlaaL2
set_option linter.unusedVariables false
namespace Go.Proofs.Ytahbeeakfbchlaa
open Go.Vk
attribute [local irreducible] HT HX RegS RegA RegM OpP OpC
attribute [local irreducible] Dn.tellR Dn.tellC Dn.tellE Dn.printR Dn.printC Dn.printE
set_option maxHeartbeats 4000000 in
theorem dnPrint (l : List Dn.Ava) (hw : Dn.wgt l ≤ 1048576) : CFn Try.prog 14 [TSl 2 Dn.cAva l] (Is (str (Dn.printE l))) := by
  have c1 := bldByteN
  have pl := Plan.mk' 13 [(0,3,[]),(1,3,[]),(2,3,[]),(3,3,[]),(4,3,[]),(5,3,[]),(6,3,[]),(7,3,[]),(8,3,[]),(9,3,[]),(10,3,[]),(11,3,[]),(12,3,[]),(13,3,[]),(14,0,[])]
  have c2 := bldStr
  have c3 := bldOut
  have c4 := stIndexByte
  have hl := Dn.wgt_len l
  refine CallsC.of Try.call14 Try.func14 rfl Try.ntmps14 rfl fun w0 G0 S0 hs ho => ?_
  refine run ?_
  intro v0
  refine HT.loopX (σ := Nat) [2, 3, 8, 9] (fun i => [(10, okI .i64 (i : Int))]) (fun i => [BX (blk v0) (Dn.printR l i)]) (fun i => i ≤ l.length) (fun i => l.length - i) 0 (Nat.zero_le _) (run ?_) (run trivial) ?_
  · exact (Dn.printR_zero l).symm
  intro i hi
  have hpl := Dn.printR_len hi
  have hwt := Dn.wgt_take_le l i
  by_cases hlt : i < l.length
  · have h3 := Dn.wgt_at hlt
    refine run ?_
    refine ⟨fun v1 _ h4 => HT.loopX (σ := Nat × List UInt8) [2, 3, 5, 8, 9, 10, 24] (fun t => [(25, okI .i64 (t.1 : Int))]) (fun t => [BX (blk v0) t.2, ownP (blk v1) 31 (Dn.cAva (l.getD i default))]) (fun t => t.1 ≤ (l.getD i default).val.length ∧ t.2 = Dn.printR l i ++ (if 0 < (i : Int) then [44] else []) ++ ((l.getD i default).typ ++ [61]) ++ Dn.tellR (l.getD i default).val t.1) (fun t => (l.getD i default).val.length - t.1) (0, Dn.printR l i ++ [b8 44] ++ ((l.getD i default).typ ++ [61])) ⟨Nat.zero_le _, by rw [Dn.tellR_zero, if_pos h4]; simp; rfl⟩ (run trivial) (run trivial) ?_, fun v1 _ h4 => HT.loopX (σ := Nat × List UInt8) [2, 3, 5, 8, 9, 10, 24] (fun t => [(25, okI .i64 (t.1 : Int))]) (fun t => [BX (blk v0) t.2, ownP (blk v1) 31 (Dn.cAva (l.getD i default))]) (fun t => t.1 ≤ (l.getD i default).val.length ∧ t.2 = Dn.printR l i ++ (if 0 < (i : Int) then [44] else []) ++ ((l.getD i default).typ ++ [61]) ++ Dn.tellR (l.getD i default).val t.1) (fun t => (l.getD i default).val.length - t.1) (0, Dn.printR l i ++ ((l.getD i default).typ ++ [61])) ⟨Nat.zero_le _, by rw [Dn.tellR_zero, if_neg h4]; simp⟩ (run trivial) (run trivial) ?_⟩
    all_goals
      rintro ⟨k, b⟩ ⟨hk, hb⟩
      dsimp only at hk hb ⊢
      have ht := Dn.tellR_len (l.getD i default).val k
      have hc := ((l.getD i default).val.getD k 0).toNat_lt
      have hx1 := Dn.hexAt_len (((l.getD i default).val.getD k 0).toNat / 16) (by omega)
      have hx2 := Dn.hexAt_len (((l.getD i default).val.getD k 0).toNat % 16) (by omega)
      have hbl : b.length ≤ Dn.wgt l * 6 + 2 := by
        rw [hb]; simp only [List.length_append, List.length_cons, List.length_nil]
        split <;> simp only [List.length_cons, List.length_nil] <;> omega
      unfold Dn.hexD at hx1 hx2
      have hsp : Dn.spc = [44, 43, 34, 92, 60, 62, 59] := rfl
      refine run ?_
      and_intros
      all_goals intros
      all_goals (first
        | (simp only [List.length_append, List.length_cons, List.length_nil, hx1, hx2]; omega)
        | (refine HX.roundX (k + 1, _) ⟨⟨by dsimp only; omega, ?_⟩, by dsimp only; omega⟩ rfl (run trivial) (run trivial)
           dsimp only
           rw [Dn.tellR_succ, hb]
           first
           | (rw [Dn.tellC_hex (by omega)]; simp only [List.append_assoc]; rfl)
           | (rw [Dn.tellC_str (by omega) (by rw [hsp]; omega)]; simp only [List.append_assoc, b8_nat]; rfl)
           | (rw [Dn.tellC_one (by omega) (by rw [hsp]; omega)]; simp only [List.append_assoc, b8_nat]))
        | (have hb2 : b = Dn.printR l (i + 1) := by
             rw [Dn.printR_succ, hb, show k = (l.getD i default).val.length by omega]
             unfold Dn.printC Dn.tellE
             simp only [List.append_assoc]
           subst hb2
           exact HX.roundX (i + 1) ⟨by omega, by omega⟩ rfl (run trivial) (run trivial)))
  · refine run ?_
    intro _
    unfold Dn.printE
    rw [show i = l.length by omega]
end Go.Proofs.Ytahbeeakfbchlaa
