/-
  The contracts of the document's parser of names, further on: a value, a part, all parts.
-/
import Derived.Test.YtahbeeakfbchlaaDQ
set_option linter.unusedVariables false
namespace Go.Proofs.Ytahbeeakfbchlaa
open Go.Vk
attribute [local irreducible] HT HX RegS RegA RegM OpP OpC
theorem rfVal (g : Nat) (s : List UInt8) (n : Nat) (h : n ≤ s.length ∧ s.length ≤ 1048576) : CallsC Try.prog 56 [Is (pAt g 0)] [RX g s (n : Int)] (fun _ => TTup [Is (str (Dn.valueF s n).2.1), Is (.bool (Dn.valueF s n).2.2)]) (fun _ => [RX g s ((Dn.valueF s n).1 : Nat)]) := by
  have c1 := rfIn
  have c3 := rfStroke
  refine CallsC.of Try.call56 Try.func56 rfl Try.ntmps56 rfl fun w0 G0 S0 hs ho => ?_
  refine run ?_
  refine HT.loopX (σ := (Nat × Nat) × (List UInt8 × Nat) × Value) [0] (fun t => [(4, TAnd (Is t.2.2) (TBytes t.2.1.1)), (5, okI .i64 (t.2.1.2 : Int))]) (fun t => [RX g s (t.1.2 : Int), ownSl t.2.2 1 5]) (fun t => Dn.valF t.1.1 s t.1.2 t.2.1.1 t.2.1.2 = Dn.valF (s.length - n) s n [] 0 ∧ t.1.2 ≤ s.length ∧ s.length - t.1.2 ≤ t.1.1 ∧ t.2.1.1.length ≤ t.1.2 ∧ t.2.1.2 ≤ t.2.1.1.length) (fun t => s.length - t.1.2) ((s.length - n, n), ([], 0), .slice none 0 0) ⟨rfl, by dsimp only; omega, by dsimp only; omega, by simp, by simp⟩ (run trivial) (run trivial) ?_
  rintro ⟨⟨k, i⟩, ⟨b, e⟩, v⟩ ⟨hv, hi, hk, hb, he⟩
  dsimp only at hv hi hk hb he ⊢
  by_cases h0 : i < s.length ∧ ((s.getD i 0).toNat : Int) ≠ 44
  · have h0' : ((s.getD i 0).toNat : Int) ≠ 44 := h0.2
    have hbd := Dn.strokeF_bd s i (by omega)
    obtain ⟨k, rfl⟩ : ∃ j, k = j + 1 := ⟨k - 1, by omega⟩
    refine run ?_
    and_intros
    all_goals intros
    all_goals (first
      | (rw [Dn.valF_bad h0 (by assumption) (by assumption)] at hv; rw [Dn.valueF_none hv.symm]; first | done | rfl)
      | (rw [Dn.valF_spc h0 (by assumption) (by assumption)] at hv; rw [Dn.valueF_none hv.symm]; first | done | rfl)
      | (rw [Dn.valF_str h0 (by assumption) (by assumption)] at hv
         have hbs := hbd.2.2 (by assumption)
         refine HX.roundX ((k, (Dn.strokeF s i).1), (b ++ [(Dn.strokeF s i).2.1], b.length + 1), _) ⟨⟨hv, by dsimp only; omega, by dsimp only; omega, by simp; omega, by simp⟩, by dsimp only; omega⟩ rfl (run trivial) (run ?_)
         simp)
      | (rw [Dn.valF_else h0 (by assumption) (by assumption) (by omega)] at hv
         refine HX.roundX ((k, i + 1), (b ++ [s.getD i 0], b.length + 1), _) ⟨⟨hv, by dsimp only; omega, by dsimp only; omega, by simp; omega, by simp⟩, by dsimp only; omega⟩ rfl (run trivial) (run ?_)
         simp)
      | (rw [Dn.valF_blank h0 (by assumption) (by assumption) (by omega)] at hv
         exact HX.roundX ((k, i + 1), (b ++ [s.getD i 0], e), _) ⟨⟨hv, by dsimp only; omega, by dsimp only; omega, by simp; omega, by simp; omega⟩, by dsimp only; omega⟩ rfl (run trivial) (run trivial)))
  · rw [Dn.valF_end h0] at hv
    rw [Dn.valueF_some hv.symm]
    exact run trivial
attribute [local irreducible] Dn.valueF Dn.partF Dn.partE Dn.parseE Dn.isE
set_option maxHeartbeats 2000000 in
theorem rfPart (g : Nat) (s : List UInt8) (n : Nat) (h : n ≤ s.length ∧ s.length ≤ 1048576) : CallsC Try.prog 38 [Is (pAt g 0)] [RX g s (n : Int)] (fun _ => TTup [TAgg (Dn.cAva (Dn.partF s n).2.1), Is (.bool (Dn.partF s n).2.2)]) (fun _ => [RX g s ((Dn.partF s n).1 : Nat)]) := by
  have c1 := rfBlanks
  have c2 := rfTyp
  have c3 := rfType
  have c4 := rfVal
  have hb := Dn.partF_bd s n (by omega)
  have b1 := Dn.skipE_le Dn.nbC s (Dn.skipE Dn.blk s n) (by omega)
  have b2 := Dn.skipE_le Dn.blk s (Dn.skipE Dn.nbC s (Dn.skipE Dn.blk s n)) b1
  have b3 := Dn.skipE_le Dn.blk s (Dn.skipE Dn.blk s (Dn.skipE Dn.nbC s (Dn.skipE Dn.blk s n)) + 1)
  have b4 : (Dn.typF s n).length ≤ s.length := by unfold Dn.typF; rw [List.length_drop, List.length_take]; omega
  unfold Dn.typF Dn.kindF at b4
  refine CallsC.of Try.call38 Try.func38 rfl Try.ntmps38 rfl fun w0 G0 S0 hs ho => ?_
  refine run ?_
  and_intros
  all_goals intros
  all_goals (first
    | omega
    | (rw [Dn.partF_no' (by assumption)]; first | done | rfl)
    | (rw [Dn.partF_yes' (by assumption)]; first | done | rfl))
theorem rfIs (l : List Dn.Ava) (hl : l.length ≤ 1152921504606846976) (hta : ∀ a ∈ l, a.typ.length ≤ 1152921504606846976) : CFn Try.prog 12 [TSl 2 Dn.cAva l] (Is (.bool (Dn.isE l))) := by
  have c1 := rfType
  refine CallsC.of Try.call12 Try.func12 rfl Try.ntmps12 rfl fun w0 G0 S0 hs ho => ?_
  refine run ?_
  refine ⟨fun h => ?_, fun h => ?_⟩
  · unfold Dn.isE
    rw [decide_eq_false (by omega)]; rfl
  refine HT.loopX (σ := Nat) [0] (fun i => [(3, okI .i64 (i : Int))]) (fun _ => []) (fun i => i ≤ l.length ∧ (l.take i).all Dn.okA = true) (fun i => l.length - i) 0 ⟨by omega, by simp⟩ (run trivial) (run trivial) ?_
  rintro i ⟨hi, ha⟩
  by_cases hlt : i < l.length
  · have h3 := hta _ (Dn.getD_mem hlt)
    refine run ?_
    refine ⟨fun _ h4 => ?_, fun _ h4 => ?_⟩
    · exact (Dn.isE_no hlt (Dn.okA_no h4)).symm
    · exact HX.roundX (i + 1) ⟨⟨by omega, Dn.allA_snoc hlt ha ((Dn.okA_iff _).2 h4)⟩, by omega⟩ rfl (run trivial) (run trivial)
  · refine run ?_
    intro _
    rw [List.take_of_length_le (by omega)] at ha
    unfold Dn.isE
    rw [ha, decide_eq_true (by omega)]; rfl
set_option maxHeartbeats 2000000 in
theorem rfParse (s : List UInt8) (hs : s.length ≤ 1048576) : CFn Try.prog 17 [Is (str s)] (TTup [TSl 2 Dn.cAva (Dn.parseE s).1, okI .i64 (Dn.parseE s).2]) := by
  have c1 := rfPart
  have mu := Mut.mk' [12]
  refine CallsC.of Try.call17 Try.func17 rfl Try.ntmps17 rfl fun w0 G0 S0 hs ho => ?_
  refine run ?_
  and_intros
  all_goals intros
  · rename_i h0; subst h0; rw [Dn.parseE_nil]
  · rename_i h0; subst h0; rw [Dn.parseE_nil]
  rename_i v0 h0
  refine HT.loopX (σ := (Nat × Nat) × List Dn.Ava × Value) [0, 4] (fun t => [(5, TAnd (Is t.2.2) (TSl 2 Dn.cAva t.2.1))]) (fun t => [RX (blk v0) s (t.1.2 : Int), ownSl t.2.2 2 31]) (fun t => t.1.2 ≤ s.length ∧ Dn.partsE t.1.1 s t.1.2 t.2.1 = Dn.partsE (s.length + 1) s 0 [] ∧ s.length - t.1.2 + 1 ≤ t.1.1 ∧ t.2.1.length ≤ t.1.2 ∧ ∀ a ∈ t.2.1, a.typ.length ≤ s.length) (fun t => s.length - t.1.2) ((s.length + 1, 0), [], .slice none 0 0) ⟨by simp, rfl, by simp, by simp, by simp⟩ (run trivial) (run trivial) ?_
  rintro ⟨⟨k, i⟩, l, v⟩ ⟨hi, hm1, hm2, hl, ha⟩
  dsimp only at hi hm1 hm2 hl ha ⊢
  obtain ⟨k, rfl⟩ : ∃ j, k = j + 1 := ⟨k - 1, by omega⟩
  have hF := Dn.partF_E s i hi
  have hb := (Dn.partE_bd s i hi).2.2.2.2.2
  have ht := Dn.partE_typ s i
  cases hp : (Dn.partE s i).2.2 with
  | false =>
    have hq1 := hF.1.trans hp
    have c2 := rfIs (l ++ [(Dn.partF s i).2.1]) (by simp; omega) (fun a h => by
      rcases List.mem_append.1 h with hA | hA
      · exact Nat.le_trans (ha a hA) (by omega)
      · rw [List.mem_singleton.1 hA]; exact Nat.le_trans (Dn.partF_typ s i) (by omega))
    rw [Dn.partsE_no hp] at hm1
    refine run ?_
    and_intros
    all_goals intros
    all_goals (first
      | (rw [Dn.parseE_none h0 hm1.symm]; done)
      | (rw [Dn.parseE_none h0 hm1.symm]; rfl)
      | (rename_i hx1 _ ; rw [hq1] at hx1; cases hx1)
      | (rename_i hx1 _ _ ; rw [hq1] at hx1; cases hx1))
  | true =>
    obtain ⟨hF1, hF2⟩ := hF.2 hp
    have hq2 := hb.2.2 hp
    have hA : ∀ a ∈ l ++ [(Dn.partE s i).2.1], a.typ.length ≤ s.length := by
      intro a hA
      rcases List.mem_append.1 hA with hA | hA
      · exact ha a hA
      · rw [List.mem_singleton.1 hA]; exact ht
    have c2 := rfIs (l ++ [(Dn.partE s i).2.1]) (by simp; omega) (fun a h => Nat.le_trans (hA a h) (by omega))
    rw [← hF1] at c2
    have hb3 : (Dn.partF s i).1 ≤ s.length := by rw [hF1]; exact hb.2.1
    refine run ?_
    simp only [hF1]
    and_intros
    all_goals intros
    all_goals (try (exfalso; rename_i hx; rw [hp] at hx; cases hx; done))
    all_goals (first
      | (have h5 : ¬ ((((Dn.partE s i).1 : Nat) : Int) < (s.length : Int) ∧ ((s.getD (Dn.partE s i).1 0).toNat : Int) = 44) := by omega
         rw [Dn.partsE_last hp h5] at hm1
         first
         | (rw [Dn.parseE_long h0 hm1.symm (by assumption)]; first | done | rfl)
         | (rw [Dn.parseE_some h0 hm1.symm (by assumption)]; first | done | rfl | (dsimp only; rw [List.map_append]; rfl)))
      | (have h5 : (((Dn.partE s i).1 : Nat) : Int) < (s.length : Int) ∧ ((s.getD (Dn.partE s i).1 0).toNat : Int) = 44 := by omega
         rw [Dn.partsE_more hp h5] at hm1
         exact HX.roundX ((k, (Dn.partE s i).1 + 1), l ++ [(Dn.partE s i).2.1], _) ⟨⟨by dsimp only; omega, hm1, by dsimp only; omega, by simp; omega, hA⟩, by dsimp only; omega⟩ rfl (run trivial) (run trivial)))
end Go.Proofs.Ytahbeeakfbchlaa
