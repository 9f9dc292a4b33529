/-
  The contracts of the document's further functions on names: a name as a text, what does not count, what is above.
-/
import Derived.Test.YtjbcdakjbpepdaaDR
import Derived.Test.YtjbcdakjbpepdaaD8
set_option linter.unusedVariables false
namespace Go.Dn
open Go.Vk
def hexI (n : Int) : Int := if n < 10 then 48 + n else 97 + n - 10
theorem hexI_D : ∀ n : Fin 16, (hexD.take ((n.val : Int) + 1).toNat).drop (n.val : Int).toNat = [b8 (hexI n.val)] := by decide +kernel
theorem hexI_at {n : Int} (h : 0 ≤ n ∧ n ≤ 15) : (hexD.take (n + 1).toNat).drop n.toNat = [b8 (hexI n)] := by
  have := hexI_D ⟨n.toNat, by omega⟩
  simpa [show (n.toNat : Int) = n by omega] using this
theorem hexI_bd {n : Int} (h : 0 ≤ n ∧ n ≤ 15) : 0 ≤ hexI n ∧ hexI n < 256 := by unfold hexI; split <;> omega
theorem tellC_hexI {v : List UInt8} {k : Nat} (h : ((v.getD k 0).toNat : Int) < 32 ∨ 126 < ((v.getD k 0).toNat : Int)) : tellC v k = [b8 92, b8 (hexI (((v.getD k 0).toNat : Int) / 16)), b8 (hexI (((v.getD k 0).toNat : Int) % 16))] := by
  have hc := (v.getD k 0).toNat_lt
  rw [tellC_hex h, hexI_at (by omega), hexI_at (by omega)]
  rfl
theorem lowC_32 (c : UInt8) : ((lowC c).toNat : Int) = 32 ↔ (c.toNat : Int) = 32 := by
  unfold lowC
  split
  · rw [b8_of (by omega)]; omega
  · exact Iff.rfl
theorem lowC_val {c : UInt8} (h : 65 ≤ (c.toNat : Int) ∧ (c.toNat : Int) ≤ 90) : ((lowC c).toNat : Int) = (c.toNat : Int) + 32 := by
  rw [lowC_up h, b8_of (by omega)]
theorem in35 (c : UInt8) : 0 ≤ Lib.indexByte [35, 32] c ↔ (c.toNat : Int) = 35 ∨ (c.toNat : Int) = 32 := by
  rw [indexByte_iff]
  simp only [List.mem_cons, List.not_mem_nil, or_false]
  constructor
  · rintro (h | h) <;> subst h
    · exact .inl rfl
    · exact .inr rfl
  · rintro (h | h)
    · exact .inl (UInt8.toNat_inj.1 (by show c.toNat = 35; omega))
    · exact .inr (UInt8.toNat_inj.1 (by show c.toNat = 32; omega))
end Go.Dn
set_option linter.unusedVariables false
namespace Go.Proofs.Ytjbcdakjbpepdaa
open Go.Vk
attribute [local irreducible] HT HX RegS RegA RegM OpP OpC
attribute [local irreducible] Dn.tellR Dn.tellC Dn.tellE Dn.printR Dn.printC Dn.printE Dn.foldR Dn.foldE Dn.normE Dn.normA Dn.sameE Dn.underE
set_option maxHeartbeats 2000000 in
theorem rfFold (s : List UInt8) (hs : s.length ≤ 134217728) : CFn Try.prog 34 [Is (str s)] (Is (str (Dn.foldE s))) := by
  refine CallsC.of Try.call34 Try.func34 rfl Try.ntmps34 rfl fun w0 G0 S0 hs ho => ?_
  refine run ?_
  refine HT.loopX (σ := Nat × Value) [0, 2] (fun t => [(3, TAnd (Is t.2) (TBytes (Dn.foldR (s.take t.1)))), (4, okI .i64 (t.1 : Int))]) (fun t => [ownSl t.2 1 5]) (fun t => t.1 ≤ s.length) (fun t => s.length - t.1) (0, .slice none 0 0) (Nat.zero_le _) (run trivial) (run ?_) ?_
  · unfold Dn.foldR; rfl
  rintro ⟨i, v⟩ hi
  dsimp only at hi ⊢
  have hl := Dn.foldR_len (s.take i)
  have hl2 : (s.take i).length = i := by rw [List.length_take]; omega
  refine run ?_
  and_intros
  all_goals intros
  all_goals (try simp only [Dn.lastB_at] at *)
  all_goals (first
    | (rename_i h1 h2
       have h3 := Dn.lowC_val h1
       refine HX.roundX (i + 1, _) ⟨by dsimp only; omega, by dsimp only; omega⟩ rfl (run trivial) (run ?_)
       rw [Dn.foldR_put (by omega) (by omega), Dn.lowC_up h1])
    | (rename_i h1 h2
       refine HX.roundX (i + 1, _) ⟨by dsimp only; omega, by dsimp only; omega⟩ rfl (run trivial) (run ?_)
       rw [Dn.foldR_skip (by omega) h2]
       done)
    | (rename_i h1 h2
       refine HX.roundX (i + 1, _) ⟨by dsimp only; omega, by dsimp only; omega⟩ rfl (run trivial) (run ?_)
       rw [Dn.foldR_put (by omega) (by omega), Dn.lowC_no (Dn.nand (by assumption))])
    | (rename_i h1
       rw [List.take_of_length_le (show s.length ≤ i by omega)] at *
       rw [Dn.foldE_cut h1, subN1]
       done)
    | (rename_i h1
       rw [List.take_of_length_le (show s.length ≤ i by omega)] at *
       rw [Dn.foldE_all h1]
       done))
theorem rfValue (s : List UInt8) (hs : s.length ≤ 134217728) : CFn Try.prog 41 [Is (str s)] (Is (str (if Dn.foldE s ≠ [] ∨ s = [] then Dn.foldE s else [32]))) := by
  have c1 := rfFold
  refine CallsC.of Try.call41 Try.func41 rfl Try.ntmps41 rfl fun w0 G0 S0 hs ho => ?_
  refine run ?_
  refine ⟨fun h => ?_, fun h => ?_⟩
  · rw [if_neg (by rintro (k | k); exact k h.1; exact h.2 k)]
  · rw [if_pos (h.imp id (fun k => Decidable.not_not.1 k))]
set_option maxHeartbeats 2000000 in
theorem rfNorm (l : List Dn.Ava) (hl : Dn.wgt l ≤ 1048576) : CFn Try.prog 31 [TSl 2 Dn.cAva l] (TSl 2 Dn.cAva (Dn.normE l)) := by
  have hw := Dn.wgt_len l
  have c1 := rfFold
  have c2 := rfValue
  have pl := Plan.mk' 5 [(0,3,[]),(1,3,[]),(2,3,[]),(3,3,[]),(4,3,[]),(5,3,[]),(6,3,[]),(7,3,[]),(8,3,[]),(9,3,[]),(10,3,[]),(11,3,[]),(12,3,[]),(13,3,[]),(14,3,[]),(15,0,[]),(16,3,[])]
  refine CallsC.of Try.call31 Try.func31 rfl Try.ntmps31 rfl fun w0 G0 S0 hs ho => ?_
  refine run ?_
  refine HT.loopX (σ := Nat × Value) [0, 2] (fun t => [(3, TAnd (Is t.2) (TSl 2 Dn.cAva (Dn.normE (l.take t.1)))), (4, okI .i64 (t.1 : Int))]) (fun t => [ownSl t.2 2 36]) (fun t => t.1 ≤ l.length) (fun t => l.length - t.1) (0, .slice none 0 0) (Nat.zero_le _) (run trivial) (run ?_) ?_
  · unfold Dn.normE; rfl
  rintro ⟨i, v⟩ hi
  dsimp only at hi ⊢
  have hl2 : (Dn.normE (l.take i)).length = i := by unfold Dn.normE; rw [List.length_map, List.length_take]; omega
  by_cases hlt : i < l.length
  · have h3 := Dn.wgt_at hlt
    have hn := Dn.normE_take hlt
    refine run ?_
    intro v' _
    refine HX.roundX (i + 1, v') ⟨by dsimp only; omega, by dsimp only; omega⟩ rfl (run trivial) (run ?_)
    rw [hn, List.map_append]; unfold Dn.normA; rfl
  · refine run ?_
    intro _
    rw [List.take_of_length_le (by omega)]
theorem rfSame (l m : List Dn.Ava) (hl : Dn.wgt l ≤ 1048576) (hm : Dn.wgt m ≤ 1048576) : CFn Try.prog 18 [TSl 2 Dn.cAva l, TSl 2 Dn.cAva m] (Is (.bool (Dn.sameE l m))) := by
  have c1 := rfNorm
  have h0 : (Dn.normE l).length ≤ 1152921504606846976 := by have := Dn.wgt_len l; unfold Dn.normE; rw [List.length_map]; omega
  have hs : Dn.sameE l m = decide (Dn.normE l = Dn.normE m) := by unfold Dn.sameE; rfl
  rw [hs]
  refine CallsC.of Try.call18 Try.func18 rfl Try.ntmps18 rfl fun w0 G0 S0 hs ho => ?_
  refine run ?_
  refine ⟨?_, ?_⟩
  · intro h
    exact (decide_eq_false (fun e => h (by rw [e]))).symm
  intro hc
  refine HT.loopX (σ := Nat) [5, 6] (fun i => [(7, okI .i64 (i : Int))]) (fun _ => []) (fun i => i ≤ (Dn.normE l).length ∧ (Dn.normE l).take i = (Dn.normE m).take i) (fun i => (Dn.normE l).length - i) 0 ⟨Nat.zero_le _, rfl⟩ (run trivial) (run trivial) ?_
  rintro i ⟨hi, he⟩
  have hc' : (Dn.normE l).length = (Dn.normE m).length := by
    have : ((Dn.normE l).length : Int) = ((Dn.normE m).length : Int) := Decidable.not_not.1 hc
    omega
  refine run ?_
  simp only [Dn.avaB, decide_eq_false_iff_not, decide_eq_true_eq]
  and_intros
  all_goals intros
  · rename_i h1 h2
    exact (decide_eq_false (fun e => h2 (by rw [e]))).symm
  · rename_i h1 h2
    exact HX.roundX (i + 1) ⟨⟨by omega, Dn.take_ext (by omega) hc' he h2⟩, by omega⟩ rfl (run trivial) (run trivial)
  · rename_i h1
    exact (decide_eq_true (Dn.take_all h1 hc' he)).symm
theorem rfUnder (l m : List Dn.Ava) (hl : Dn.wgt l ≤ 1048576) (hm : Dn.wgt m ≤ 1048576) : CFn Try.prog 33 [TSl 2 Dn.cAva l, TSl 2 Dn.cAva m] (Is (.bool (Dn.underE l m))) := by
  have h1 := Dn.wgt_len l
  have h2 := Dn.wgt_len m
  have h3 := Dn.wgt_drop l
  have c1 := fun k => rfSame (l.drop k) m (by have := h3 k; omega) hm
  refine CallsC.of Try.call33 Try.func33 rfl Try.ntmps33 rfl fun w0 G0 S0 hs ho => ?_
  refine run ?_
  unfold Dn.underE
  rw [show ((l.length : Int) - (m.length : Int)).toNat = l.length - m.length by omega]
  by_cases h : m.length ≤ l.length
  · simp [h]
  · simp [h]
end Go.Proofs.Ytjbcdakjbpepdaa
