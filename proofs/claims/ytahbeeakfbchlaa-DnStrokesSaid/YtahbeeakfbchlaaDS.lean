/-
  The contracts of the document's further functions on names: a name as a text, what does not count, what is above.
-/
import Derived.Test.YtahbeeakfbchlaaDR
import Derived.Test.YtahbeeakfbchlaaD8
set_option linter.unusedVariables false
namespace Go.Dn
open Go.Vk
def hexI (n : Int) : Int := if n < 10 then 48 + n else 97 + n - 10
theorem hexI_D : ∀ n : Fin 16, (hexD.take ((n.val : Int) + 1).toNat).drop (n.val : Int).toNat = [b8 (hexI n.val)] := by decide +kernel
theorem hexI_at {n : Int} (h : 0 ≤ n ∧ n ≤ 15) : (hexD.take (n + 1).toNat).drop n.toNat = [b8 (hexI n)] := by
  have := hexI_D ⟨n.toNat, by omega⟩
  simpa [show (n.toNat : Int) = n by omega] using this
theorem hexI_bd {n : Int} (h : 0 ≤ n ∧ n ≤ 15) : 0 ≤ hexI n ∧ hexI n < 256 := by unfold hexI; split <;> omega
theorem tellC_hexI {v : List UInt8} {k : Nat} (h : ((v.getD k 0).toNat : Int) < 32 ∨ 126 < ((v.getD k 0).toNat : Int)) : tellC v k = [b8 92, b8 (hexI (((v.getD k 0).toNat : Int) / 16)), b8 (hexI (((v.getD k 0).toNat : Int) % 16))] := by
  have hc := (v.getD k 0).toNat_lt
  rw [tellC_hex h, hexI_at (by omega), hexI_at (by omega)]
  rfl
theorem lowC_32 (c : UInt8) : ((lowC c).toNat : Int) = 32 ↔ (c.toNat : Int) = 32 := by
  unfold lowC
  split
  · rw [b8_of (by omega)]; omega
  · exact Iff.rfl
theorem lowC_val {c : UInt8} (h : 65 ≤ (c.toNat : Int) ∧ (c.toNat : Int) ≤ 90) : ((lowC c).toNat : Int) = (c.toNat : Int) + 32 := by
  rw [lowC_up h, b8_of (by omega)]
theorem in35 (c : UInt8) : 0 ≤ Lib.indexByte [35, 32] c ↔ (c.toNat : Int) = 35 ∨ (c.toNat : Int) = 32 := by
  rw [indexByte_iff]
  simp only [List.mem_cons, List.not_mem_nil, or_false]
  constructor
  · rintro (h | h) <;> subst h
    · exact .inl rfl
    · exact .inr rfl
  · rintro (h | h)
    · exact .inl (UInt8.toNat_inj.1 (by show c.toNat = 35; omega))
    · exact .inr (UInt8.toNat_inj.1 (by show c.toNat = 32; omega))
end Go.Dn
set_option linter.unusedVariables false
namespace Go.Proofs.Ytahbeeakfbchlaa
open Go.Vk
attribute [local irreducible] HT HX RegS RegA RegM OpP OpC
attribute [local irreducible] Dn.tellR Dn.tellC Dn.tellE Dn.printR Dn.printC Dn.printE Dn.foldR Dn.foldE Dn.normE Dn.normA Dn.sameE Dn.underE
theorem rfHex (n : Int) (h : 0 ≤ n ∧ n ≤ 15) : CFn Try.prog 57 [okI .u8 n] (okI .u8 (Dn.hexI n)) := by
  refine CallsC.of Try.call57 Try.func57 rfl Try.ntmps57 rfl fun w0 G0 S0 hs ho => ?_
  refine run ?_
  unfold Dn.hexI
  and_intros
  all_goals intros
  all_goals split <;> omega
set_option maxHeartbeats 2000000 in
theorem rfTold (v : List UInt8) (hv : v.length ≤ 1048576) : CFn Try.prog 43 [Is (str v)] (Is (str (Dn.tellE v))) := by
  have c1 := rfHex
  have c2 := rfIn
  refine CallsC.of Try.call43 Try.func43 rfl Try.ntmps43 rfl fun w0 G0 S0 hs ho => ?_
  refine run ?_
  refine HT.loopX (σ := (Nat × List UInt8) × Value) [0, 2] (fun t => [(3, TAnd (Is t.2) (TBytes t.1.2)), (4, okI .i64 (t.1.1 : Int))]) (fun t => [ownSl t.2 1 5]) (fun t => t.1.1 ≤ v.length ∧ t.1.2 = Dn.tellR v t.1.1) (fun t => v.length - t.1.1) ((0, []), .slice none 0 0) ⟨Nat.zero_le _, (Dn.tellR_zero v).symm⟩ (run trivial) (run trivial) ?_
  rintro ⟨⟨k, b⟩, w⟩ ⟨hk, hb⟩
  dsimp only at hk hb ⊢
  have ht := Dn.tellR_len v k
  have hc := (v.getD k 0).toNat_lt
  have hx1 := Dn.hexI_bd (n := ((v.getD k 0).toNat : Int) / 16) (by omega)
  have hx2 := Dn.hexI_bd (n := ((v.getD k 0).toNat : Int) % 16) (by omega)
  rw [← hb] at ht
  have hsp : Dn.spc = [44, 43, 34, 92, 60, 62, 59] := rfl
  have h35 := Dn.in35 (v.getD k 0)
  refine run ?_
  and_intros
  all_goals intros
  · refine HX.roundX ((k + 1, b ++ [b8 92, b8 (Dn.hexI (((v.getD k 0).toNat : Int) / 16)), b8 (Dn.hexI (((v.getD k 0).toNat : Int) % 16))]), _) ⟨⟨by dsimp only; omega, ?_⟩, by dsimp only; omega⟩ rfl (run trivial) (run trivial)
    dsimp only
    rw [Dn.tellR_succ, ← hb, Dn.tellC_hexI (by omega)]
  · refine HX.roundX ((k + 1, b ++ [b8 92, v.getD k 0]), _) ⟨⟨by dsimp only; omega, ?_⟩, by dsimp only; omega⟩ rfl (run trivial) (run trivial)
    dsimp only
    rw [Dn.tellR_succ, ← hb, Dn.tellC_str (by omega) (by rw [hsp]; omega)]; rfl
  · refine HX.roundX ((k + 1, b ++ [v.getD k 0]), _) ⟨⟨by dsimp only; omega, ?_⟩, by dsimp only; omega⟩ rfl (run trivial) (run trivial)
    dsimp only
    rw [Dn.tellR_succ, ← hb, Dn.tellC_one (by omega) (by rw [hsp]; omega)]
  · rw [hb, show k = v.length by omega]; unfold Dn.tellE; rfl
set_option maxHeartbeats 2000000 in
theorem rfFold (s : List UInt8) (hs : s.length ≤ 134217728) : CFn Try.prog 21 [Is (str s)] (Is (str (Dn.foldE s))) := by
  refine CallsC.of Try.call21 Try.func21 rfl Try.ntmps21 rfl fun w0 G0 S0 hs ho => ?_
  refine run ?_
  refine HT.loopX (σ := Nat × Value) [0, 2] (fun t => [(3, TAnd (Is t.2) (TBytes (Dn.foldR (s.take t.1)))), (4, okI .i64 (t.1 : Int))]) (fun t => [ownSl t.2 1 5]) (fun t => t.1 ≤ s.length) (fun t => s.length - t.1) (0, .slice none 0 0) (Nat.zero_le _) (run trivial) (run ?_) ?_
  · unfold Dn.foldR; rfl
  rintro ⟨i, v⟩ hi
  dsimp only at hi ⊢
  have hl := Dn.foldR_len (s.take i)
  have hl2 : (s.take i).length = i := by rw [List.length_take]; omega
  refine run ?_
  and_intros
  all_goals intros
  all_goals (try simp only [Dn.lastB_at] at *)
  all_goals (first
    | (rename_i h1 h2
       have h3 := Dn.lowC_val h1
       refine HX.roundX (i + 1, _) ⟨by dsimp only; omega, by dsimp only; omega⟩ rfl (run trivial) (run ?_)
       rw [Dn.foldR_put (by omega) (by omega), Dn.lowC_up h1])
    | (rename_i h1 h2
       refine HX.roundX (i + 1, _) ⟨by dsimp only; omega, by dsimp only; omega⟩ rfl (run trivial) (run ?_)
       rw [Dn.foldR_skip (by omega) h2]
       done)
    | (rename_i h1 h2
       refine HX.roundX (i + 1, _) ⟨by dsimp only; omega, by dsimp only; omega⟩ rfl (run trivial) (run ?_)
       rw [Dn.foldR_put (by omega) (by omega), Dn.lowC_no (Dn.nand (by assumption))])
    | (rename_i h1
       rw [List.take_of_length_le (show s.length ≤ i by omega)] at *
       rw [Dn.foldE_cut h1, subN1]
       done)
    | (rename_i h1
       rw [List.take_of_length_le (show s.length ≤ i by omega)] at *
       rw [Dn.foldE_all h1]
       done))
theorem rfValue (s : List UInt8) (hs : s.length ≤ 134217728) : CFn Try.prog 46 [Is (str s)] (Is (str (if Dn.foldE s ≠ [] ∨ s = [] then Dn.foldE s else [32]))) := by
  have c1 := rfFold
  refine CallsC.of Try.call46 Try.func46 rfl Try.ntmps46 rfl fun w0 G0 S0 hs ho => ?_
  refine run ?_
  refine ⟨fun h => ?_, fun h => ?_⟩
  · rw [if_neg (by rintro (k | k); exact k h.1; exact h.2 k)]
  · rw [if_pos (h.imp id (fun k => Decidable.not_not.1 k))]
set_option maxHeartbeats 2000000 in
theorem rfNorm (l : List Dn.Ava) (hl : Dn.wgt l ≤ 1048576) : CFn Try.prog 26 [TSl 2 Dn.cAva l] (TSl 2 Dn.cAva (Dn.normE l)) := by
  have hw := Dn.wgt_len l
  have c1 := rfFold
  have c2 := rfValue
  have pl := Plan.mk' 5 [(0,3,[]),(1,3,[]),(2,3,[]),(3,3,[]),(4,3,[]),(5,3,[]),(6,3,[]),(7,3,[]),(8,3,[]),(9,3,[]),(10,3,[]),(11,3,[]),(12,3,[]),(13,3,[]),(14,3,[]),(15,0,[]),(16,3,[])]
  refine CallsC.of Try.call26 Try.func26 rfl Try.ntmps26 rfl fun w0 G0 S0 hs ho => ?_
  refine run ?_
  refine HT.loopX (σ := Nat × Value) [0, 2] (fun t => [(3, TAnd (Is t.2) (TSl 2 Dn.cAva (Dn.normE (l.take t.1)))), (4, okI .i64 (t.1 : Int))]) (fun t => [ownSl t.2 2 31]) (fun t => t.1 ≤ l.length) (fun t => l.length - t.1) (0, .slice none 0 0) (Nat.zero_le _) (run trivial) (run ?_) ?_
  · unfold Dn.normE; rfl
  rintro ⟨i, v⟩ hi
  dsimp only at hi ⊢
  have hl2 : (Dn.normE (l.take i)).length = i := by unfold Dn.normE; rw [List.length_map, List.length_take]; omega
  by_cases hlt : i < l.length
  · have h3 := Dn.wgt_at hlt
    have hn := Dn.normE_take hlt
    refine run ?_
    intro v' _
    refine HX.roundX (i + 1, v') ⟨by dsimp only; omega, by dsimp only; omega⟩ rfl (run trivial) (run ?_)
    rw [hn, List.map_append]; unfold Dn.normA; rfl
  · refine run ?_
    intro _
    rw [List.take_of_length_le (by omega)]
theorem rfSame (l m : List Dn.Ava) (hl : Dn.wgt l ≤ 1048576) (hm : Dn.wgt m ≤ 1048576) : CFn Try.prog 29 [TSl 2 Dn.cAva l, TSl 2 Dn.cAva m] (Is (.bool (Dn.sameE l m))) := by
  have c1 := rfNorm
  have h0 : (Dn.normE l).length ≤ 1152921504606846976 := by have := Dn.wgt_len l; unfold Dn.normE; rw [List.length_map]; omega
  have hs : Dn.sameE l m = decide (Dn.normE l = Dn.normE m) := by unfold Dn.sameE; rfl
  rw [hs]
  refine CallsC.of Try.call29 Try.func29 rfl Try.ntmps29 rfl fun w0 G0 S0 hs ho => ?_
  refine run ?_
  refine ⟨?_, ?_⟩
  · intro h
    exact (decide_eq_false (fun e => h (by rw [e]))).symm
  intro hc
  refine HT.loopX (σ := Nat) [5, 6] (fun i => [(7, okI .i64 (i : Int))]) (fun _ => []) (fun i => i ≤ (Dn.normE l).length ∧ (Dn.normE l).take i = (Dn.normE m).take i) (fun i => (Dn.normE l).length - i) 0 ⟨Nat.zero_le _, rfl⟩ (run trivial) (run trivial) ?_
  rintro i ⟨hi, he⟩
  have hc' : (Dn.normE l).length = (Dn.normE m).length := by
    have : ((Dn.normE l).length : Int) = ((Dn.normE m).length : Int) := Decidable.not_not.1 hc
    omega
  refine run ?_
  simp only [Dn.avaB, decide_eq_false_iff_not, decide_eq_true_eq]
  and_intros
  all_goals intros
  · rename_i h1 h2
    exact (decide_eq_false (fun e => h2 (by rw [e]))).symm
  · rename_i h1 h2
    exact HX.roundX (i + 1) ⟨⟨by omega, Dn.take_ext (by omega) hc' he h2⟩, by omega⟩ rfl (run trivial) (run trivial)
  · rename_i h1
    exact (decide_eq_true (Dn.take_all h1 hc' he)).symm
theorem rfUnder (l m : List Dn.Ava) (hl : Dn.wgt l ≤ 1048576) (hm : Dn.wgt m ≤ 1048576) : CFn Try.prog 31 [TSl 2 Dn.cAva l, TSl 2 Dn.cAva m] (Is (.bool (Dn.underE l m))) := by
  have h1 := Dn.wgt_len l
  have h2 := Dn.wgt_len m
  have h3 := Dn.wgt_drop l
  have c1 := fun k => rfSame (l.drop k) m (by have := h3 k; omega) hm
  refine CallsC.of Try.call31 Try.func31 rfl Try.ntmps31 rfl fun w0 G0 S0 hs ho => ?_
  refine run ?_
  unfold Dn.underE
  rw [show ((l.length : Int) - (m.length : Int)).toNat = l.length - m.length by omega]
  by_cases h : m.length ≤ l.length
  · simp [h]
  · simp [h]
set_option maxHeartbeats 2000000 in
theorem rfPrint (l : List Dn.Ava) (hw : Dn.wgt l ≤ 1048576) : CFn Try.prog 24 [TSl 2 Dn.cAva l] (Is (str (Dn.printE l))) := by
  have c1 := rfTold
  have hl := Dn.wgt_len l
  refine CallsC.of Try.call24 Try.func24 rfl Try.ntmps24 rfl fun w0 G0 S0 hs ho => ?_
  refine run ?_
  refine HT.loopX (σ := Nat × List UInt8) [0, 2] (fun t => [(3, Is (str t.2)), (4, okI .i64 (t.1 : Int))]) (fun _ => []) (fun t => t.1 ≤ l.length ∧ t.2 = Dn.printR l t.1) (fun t => l.length - t.1) (0, []) ⟨Nat.zero_le _, (Dn.printR_zero l).symm⟩ (run trivial) (run trivial) ?_
  rintro ⟨i, b⟩ ⟨hi, hb⟩
  dsimp only at hi hb ⊢
  have hpl := Dn.printR_len hi
  have hwt := Dn.wgt_take_le l i
  rw [← hb] at hpl
  by_cases hlt : i < l.length
  · have h3 := Dn.wgt_at hlt
    have h4 := Dn.tellR_len (l.getD i default).val (l.getD i default).val.length
    have h5 : (Dn.tellE (l.getD i default).val).length ≤ 3 * (l.getD i default).val.length := by unfold Dn.tellE; exact h4
    have h6 : Dn.printR l (i + 1) = Dn.printR l i ++ ((if 0 < (i : Int) then [44] else []) ++ ((l.getD i default).typ ++ [61]) ++ Dn.tellE (l.getD i default).val) := by
      rw [Dn.printR_succ]; unfold Dn.printC; rfl
    refine run ?_
    and_intros
    all_goals intros
    · rename_i h7
      refine HX.roundX (i + 1, b ++ [44] ++ (l.getD i default).typ ++ [61] ++ Dn.tellE (l.getD i default).val) ⟨⟨by dsimp only; omega, ?_⟩, by dsimp only; omega⟩ rfl (run trivial) (run trivial)
      dsimp only
      rw [h6, if_pos h7, hb]; simp
    · rename_i h7
      refine HX.roundX (i + 1, b ++ (l.getD i default).typ ++ [61] ++ Dn.tellE (l.getD i default).val) ⟨⟨by dsimp only; omega, ?_⟩, by dsimp only; omega⟩ rfl (run trivial) (run trivial)
      dsimp only
      rw [h6, if_neg h7, hb]; simp
  · refine run ?_
    intro _
    rw [hb, show i = l.length by omega]; unfold Dn.printE; rfl
theorem rfUp (l : List Dn.Ava) (hl : l.length ≤ 134217728) : CFn Try.prog 28 [TSl 2 Dn.cAva l] (TSl 2 Dn.cAva (l.drop 1)) := by
  refine CallsC.of Try.call28 Try.func28 rfl Try.ntmps28 rfl fun w0 G0 S0 hs ho => ?_
  refine run ?_
  refine ⟨fun h => ?_, fun h => ?_⟩
  · rw [List.drop_eq_nil_of_le (by omega)]
  · rfl
theorem lwNames (l m : List Dn.Ava) (hl : l.length ≤ 1152921504606846976) : CFn Try.prog 15 [TSl 2 Dn.cAva l, TSl 2 Dn.cAva m] (Is (.bool (decide (l = m)))) := by
  refine CallsC.of Try.call15 Try.func15 rfl Try.ntmps15 rfl fun w0 G0 S0 hs ho => ?_
  refine run ?_
  refine ⟨?_, ?_⟩
  · intro h
    exact (decide_eq_false (fun e => h (by rw [e]))).symm
  intro hc
  refine HT.loopX (σ := Nat) [0, 1] (fun i => [(5, okI .i64 (i : Int))]) (fun _ => []) (fun i => i ≤ l.length ∧ l.take i = m.take i) (fun i => l.length - i) 0 ⟨Nat.zero_le _, rfl⟩ (run trivial) (run trivial) ?_
  rintro i ⟨hi, he⟩
  have hc' : l.length = m.length := by
    have : (l.length : Int) = (m.length : Int) := Decidable.not_not.1 hc
    omega
  refine run ?_
  simp only [Dn.avaB, decide_eq_false_iff_not, decide_eq_true_eq]
  and_intros
  all_goals intros
  · rename_i h1 h2
    exact (decide_eq_false (fun e => h2 (by rw [e]))).symm
  · rename_i h1 h2
    exact HX.roundX (i + 1) ⟨⟨by omega, Dn.take_ext (by omega) hc' he h2⟩, by omega⟩ rfl (run trivial) (run trivial)
  · rename_i h1
    exact (decide_eq_true (Dn.take_all h1 hc' he)).symm
theorem lwHeavy (l : List Dn.Ava) (hl : l.length ≤ 140737488351232) (ha : ∀ a ∈ l, a.typ.length ≤ 140737488351232 ∧ a.val.length ≤ 140737488351232) : CFn Try.prog 11 [TSl 2 Dn.cAva l] (Is (.bool (decide (1000 < Dn.wgt l)))) := by
  refine CallsC.of Try.call11 Try.func11 rfl Try.ntmps11 rfl fun w0 G0 S0 hs ho => ?_
  refine run ?_
  refine HT.loopX (σ := Nat) [0] (fun i => [(3, okI .i64 (Dn.wgt (l.take i) : Int)), (4, okI .i64 (i : Int))]) (fun _ => []) (fun i => i ≤ l.length ∧ Dn.wgt (l.take i) ≤ 1000) (fun i => l.length - i) 0 ⟨Nat.zero_le _, by simp [Dn.wgt]⟩ (run trivial) (run ?_) ?_
  · simp [Dn.wgt]
  rintro i ⟨hi, hk⟩
  by_cases hlt : i < l.length
  · have h3 := ha _ (Dn.getD_mem hlt)
    have h4 := Dn.wgt_take_succ hlt
    have h5 := Dn.wgt_take_le l (i + 1)
    refine run ?_
    intro _ h6
    refine HX.roundX (i + 1) ⟨⟨by omega, by omega⟩, by omega⟩ rfl (run trivial) (run trivial)
  · refine run ?_
    intro _
    rw [List.take_of_length_le (by omega)] at hk
    exact (decide_eq_false (by omega)).symm
end Go.Proofs.Ytahbeeakfbchlaa
