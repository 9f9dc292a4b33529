/-
  The contract of dn's Parse.
-/
import Derived.Test.YtahbeeakfbchlaaD5
set_option linter.unusedVariables false
namespace Go.Proofs.Ytahbeeakfbchlaa
open Go.Vk
attribute [local irreducible] HT HX RegS RegA RegM OpP OpC
attribute [local irreducible] Dn.partE Dn.isE Dn.parseE
set_option maxHeartbeats 2000000 in
theorem dnParse (s : List UInt8) (hs : s.length ≤ 1048576) : CFn Try.prog 13 [Is (str s)] (TTup [TSl 2 Dn.cAva (Dn.parseE s).1, okI .i64 (Dn.parseE s).2]) := by
  have c1 := dnPart
  have c2 := dnTakes
  have mu := Mut.mk' [13]
  refine CallsC.of Try.call13 Try.func13 rfl Try.ntmps13 rfl fun w0 G0 S0 hs ho => ?_
  refine run ?_
  and_intros
  all_goals intros
  · rename_i h0; subst h0; rw [Dn.parseE_nil]
  · rename_i h0; subst h0; rw [Dn.parseE_nil]
  rename_i v0 h0
  refine HT.loopX (σ := Bool × (Nat × Nat) × List Dn.Ava × Value) [5] (fun t => [(4, TAnd (Is t.2.2.2) (TSl 2 Dn.cAva t.2.2.1)), (6, Is (.bool t.1))]) (fun t => [TX (blk v0) s (t.2.1.2 : Int), ownSl t.2.2.2 2 31]) (fun t => t.2.1.2 ≤ s.length ∧ (t.1 = true → Dn.partsE t.2.1.1 s t.2.1.2 t.2.2.1 = Dn.partsE (s.length + 1) s 0 [] ∧ s.length - t.2.1.2 + 1 ≤ t.2.1.1) ∧ (t.1 = false → Dn.partsE (s.length + 1) s 0 [] = some t.2.2.1) ∧ t.2.2.1.length ≤ t.2.1.2 ∧ ∀ a ∈ t.2.2.1, a.typ.length ≤ s.length) (fun t => if t.1 = true then s.length - t.2.1.2 + 1 else 0) (true, (s.length + 1, 0), [], .slice none 0 0) ⟨by simp, fun _ => ⟨rfl, by simp⟩, fun h => by simp at h, by simp, by simp⟩ (run trivial) (run trivial) ?_
  rintro ⟨m, ⟨k, i⟩, l, v⟩ ⟨hi, hm, hn, hl, ha⟩
  dsimp only at hi hm hn hl ha ⊢
  cases m with
  | false =>
    have hn := hn rfl
    have c3 := dnIsF l (by omega) (fun a h => Nat.le_trans (ha a h) (by omega))
    refine run ?_
    and_intros
    all_goals intros
    all_goals (first
      | (rw [Dn.parseE_long h0 hn (by assumption)]; done)
      | (rw [Dn.parseE_some h0 hn (by assumption)]; done))
  | true =>
    obtain ⟨hm1, hm2⟩ := hm rfl
    obtain ⟨k, rfl⟩ : ∃ j, k = j + 1 := ⟨k - 1, by omega⟩
    have hb := (Dn.partE_bd s i hi).2.2.2.2.2
    have ht := Dn.partE_typ s i
    refine run ?_
    and_intros
    all_goals intros
    · rw [Dn.partsE_no (by assumption)] at hm1
      rw [Dn.parseE_none h0 hm1.symm]
    · rw [Dn.partsE_no (by assumption)] at hm1
      rw [Dn.parseE_none h0 hm1.symm]
    · rename_i q v1 v2 _ hq1
      have hq2 := hb.2.2 hq1
      simp only [Int.toNat_natCast]
      by_cases h5 : (((Dn.partE s i).1 : Nat) : Int) < (s.length : Int) ∧ ((s.getD (Dn.partE s i).1 0).toNat : Int) = 44
      · rw [Dn.partsE_more hq1 h5] at hm1
        refine HX.roundX (true, (k, (Dn.partE s i).1 + 1), l ++ [(Dn.partE s i).2.1], v2) ⟨⟨by dsimp only; omega, fun _ => ⟨hm1, by dsimp only; omega⟩, fun h => by simp at h, by simp; omega, ?_⟩, by simp; omega⟩ rfl (run trivial) (run trivial)
        intro a hA
        rcases List.mem_append.1 hA with hA | hA
        · exact ha a hA
        · rw [List.mem_singleton.1 hA]; exact ht
      · rw [Dn.partsE_last hq1 h5] at hm1
        refine HX.roundX (false, (k, (Dn.partE s i).1), l ++ [(Dn.partE s i).2.1], v2) ⟨⟨by dsimp only; omega, fun h => by simp at h, fun _ => hm1.symm, by simp; omega, ?_⟩, by simp⟩ rfl (run trivial) (run trivial)
        intro a hA
        rcases List.mem_append.1 hA with hA | hA
        · exact ha a hA
        · rw [List.mem_singleton.1 hA]; exact ht
end Go.Proofs.Ytahbeeakfbchlaa
