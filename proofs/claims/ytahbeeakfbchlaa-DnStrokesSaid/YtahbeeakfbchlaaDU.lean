/-
  The laws DnFolds and DnUps.
-/
import Derived.Test.YtahbeeakfbchlaaDT
set_option linter.unusedVariables false
namespace Go.Dn
open Go.Vk
theorem lowC_idem (c : UInt8) : lowC (lowC c) = lowC c := by
  by_cases h : 65 ≤ (c.toNat : Int) ∧ (c.toNat : Int) ≤ 90
  · have := lowC_val h
    exact lowC_no (by omega)
  · rw [lowC_no h, lowC_no h]
theorem foldR_snoc (s : List UInt8) (c : UInt8) : foldR (s ++ [c]) = foldStep (foldR s) c := by simp [foldR]
theorem foldStep_low (b : List UInt8) (c : UInt8) (h : foldStep b c = b ++ [lowC c]) : foldStep b (lowC c) = b ++ [lowC c] := by
  unfold foldStep at *
  by_cases h1 : (c.toNat : Int) = 32 ∧ ((b.length : Int) = 0 ∨ ((lastB b).toNat : Int) = 32)
  · rw [if_pos h1] at h
    have := congrArg List.length h
    simp at this
  · rw [if_neg (by rw [lowC_32]; exact h1), lowC_idem]
theorem foldStep_or (b : List UInt8) (c : UInt8) : foldStep b c = b ∨ foldStep b c = b ++ [lowC c] := by
  unfold foldStep; split
  · exact .inl rfl
  · exact .inr rfl
theorem snoc_ind {p : List UInt8 → Prop} (h0 : p []) (h1 : ∀ s c, p s → p (s ++ [c])) (s : List UInt8) : p s := by
  have : ∀ (n : Nat) (s : List UInt8), s.length = n → p s := by
    intro n
    induction n with
    | zero => intro s hs; rw [List.eq_nil_of_length_eq_zero hs]; exact h0
    | succ n ih =>
      intro s hs
      have hne : s ≠ [] := by intro e; rw [e] at hs; simp at hs
      rw [← List.dropLast_concat_getLast hne]
      exact h1 _ _ (ih _ (by simp; omega))
  exact this _ s rfl
theorem foldR_idem (s : List UInt8) : foldR (foldR s) = foldR s := by
  refine snoc_ind (p := fun s => foldR (foldR s) = foldR s) rfl (fun s c ih => ?_) s
  rw [foldR_snoc]
  rcases foldStep_or (foldR s) c with h | h
  · rw [h, ih]
  · rw [h, foldR_snoc, ih]; exact foldStep_low _ _ h
theorem lastB_snoc (b : List UInt8) (c : UInt8) : lastB (b ++ [c]) = c := by
  unfold lastB; simp
theorem trimE_cases (b : List UInt8) : (∃ b', b = b' ++ [32] ∧ trimE b = b') ∨ (trimE b = b ∧ ¬ (0 < (b.length : Int) ∧ ((lastB b).toNat : Int) = 32)) := by
  by_cases h : 0 < (b.length : Int) ∧ ((lastB b).toNat : Int) = 32
  · left
    have hne : b ≠ [] := by intro e; rw [e] at h; simp at h
    have hd := List.dropLast_concat_getLast hne
    have hl : b.getLast hne = 32 := by
      have h2 := h.2
      rw [← hd, lastB_snoc] at h2
      exact UInt8.toNat_inj.1 (by show _ = 32; omega)
    refine ⟨b.dropLast, by rw [← hl]; exact hd.symm, ?_⟩
    unfold trimE
    rw [if_pos h, List.dropLast_eq_take]
  · right
    exact ⟨if_neg h, h⟩
theorem trimE_of {b : List UInt8} (h : ¬ (0 < (b.length : Int) ∧ ((lastB b).toNat : Int) = 32)) : trimE b = b := if_neg h
theorem trimE_snoc (b : List UInt8) : trimE (b ++ [32]) = b := by
  unfold trimE
  rw [if_pos ⟨by simp, by rw [lastB_snoc]; rfl⟩]
  simp
theorem foldR_head {s b' : List UInt8} (h : foldR s = b' ++ [32]) : foldR b' = b' ∧ ¬ (0 < (b'.length : Int) ∧ ((lastB b').toNat : Int) = 32) := by
  have h1 := foldR_idem s
  rw [h, foldR_snoc] at h1
  have hl := foldR_len b'
  rcases foldStep_or (foldR b') 32 with h2 | h2
  · rw [h2] at h1
    have := congrArg List.length h1
    simp at this; omega
  · have h3 : lowC 32 = 32 := rfl
    rw [h2, h3] at h1
    have h4 : foldR b' = b' := List.append_cancel_right h1
    refine ⟨h4, fun h5 => ?_⟩
    rw [h4] at h2
    unfold foldStep at h2
    rw [if_pos ⟨rfl, .inr h5.2⟩] at h2
    have := congrArg List.length h2
    simp at this
theorem foldE_idem (s : List UInt8) : foldE (foldE s) = foldE s := by
  unfold foldE
  rcases trimE_cases (foldR s) with ⟨b', h1, h2⟩ | ⟨h1, h2⟩
  · obtain ⟨h3, h4⟩ := foldR_head h1
    rw [h2, h3, trimE_of h4]
  · rw [h1, foldR_idem, h1]
theorem foldE_pad (s : List UInt8) : foldE ([32, 32] ++ s ++ [32]) = foldE s := by
  unfold foldE
  have h0 : foldR ([32, 32] ++ s) = foldR s := by
    unfold foldR
    rw [List.foldl_append]; rfl
  rw [foldR_snoc, h0]
  by_cases h : ((foldR s).length : Int) = 0 ∨ ((lastB (foldR s)).toNat : Int) = 32
  · have : foldStep (foldR s) 32 = foldR s := by unfold foldStep; rw [if_pos ⟨rfl, h⟩]
    rw [this]
  · have : foldStep (foldR s) 32 = foldR s ++ [32] := by unfold foldStep; rw [if_neg (fun k => h k.2)]; rfl
    rw [this, trimE_snoc, trimE_of (fun k => h (.inr k.2))]
theorem normA_idem (a : Ava) : normA (normA a) = normA a := by
  unfold normA
  dsimp only
  rw [foldE_idem]
  congr 1
  by_cases h : foldE a.val ≠ [] ∨ a.val = []
  · rw [if_pos h, foldE_idem]
    by_cases h2 : foldE a.val = []
    · rw [if_pos (.inr h2)]
    · rw [if_pos (.inl h2)]
  · rw [if_neg h, if_neg]
    have : foldE [32] = [] := by decide +kernel
    rw [this]; simp
theorem normE_idem (l : List Ava) : normE (normE l) = normE l := by
  unfold normE
  rw [List.map_map]
  exact List.map_congr_left fun a _ => normA_idem a
theorem same_norm (l : List Ava) : sameE l (normE l) = true := by unfold sameE; rw [normE_idem]; simp
theorem wgt_norm (l : List Ava) : wgt (normE l) ≤ 2 * wgt l := by
  unfold normE
  induction l with
  | nil => simp [wgt]
  | cons a l ih =>
    simp only [List.map_cons, wgt]
    have h1 := foldE_len a.typ
    have h2 := foldE_len a.val
    have h3 : (normA a).typ.length ≤ a.typ.length := h1
    have h4 : (normA a).val.length ≤ a.val.length + 1 := by
      unfold normA; dsimp only
      split
      · omega
      · simp
    omega
theorem under_up {x : List Ava} (h : 0 < x.length) : underE (x.drop 1) x = false := by
  unfold underE
  rw [decide_eq_false (by rw [List.length_drop]; omega)]; rfl
end Go.Dn
set_option linter.unusedVariables false
namespace Go.Proofs.Ytahbeeakfbchlaa
open Go.Vk
attribute [local irreducible] HT HX RegS RegA RegM OpP OpC
attribute [local irreducible] Dn.tellR Dn.tellC Dn.tellE Dn.printR Dn.printC Dn.printE Dn.foldR Dn.foldE Dn.normE Dn.normA Dn.sameE Dn.underE Dn.parseE Dn.isE Dn.typB Dn.wgt
set_option maxHeartbeats 2000000 in
theorem dnFolds (s : List UInt8) (l : List Dn.Ava) (hl : l.length ≤ 140737488351232) (ha : ∀ a ∈ l, a.typ.length ≤ 140737488351232 ∧ a.val.length ≤ 140737488351232) : CFn Try.prog 7 [Is (str s), TSl 2 Dn.cAva l] (Is (.bool true)) := by
  have c0 := lwKnown
  have c1 := lwHeavy l hl ha
  have c2 := dnFold
  have c3 := dnNorm
  have c4 := lwNames
  have c5 := dnSame
  have hw := Dn.wgt_len l
  have hw1 := Dn.wgt_norm l
  have hf := Dn.foldE_len s
  have hn : (Dn.normE (Dn.normE l)).length = l.length := by unfold Dn.normE; rw [List.length_map, List.length_map]
  refine CallsC.of Try.call7 Try.func7 rfl Try.ntmps7 rfl fun w0 G0 S0 hs ho => ?_
  refine run ?_
  intro _
  rw [Dn.foldE_idem, Dn.foldE_pad, Dn.normE_idem, Dn.same_norm]
  simp
set_option maxHeartbeats 2000000 in
theorem dnUps (l : List Dn.Ava) (hl : l.length ≤ 140737488351232) (ha : ∀ a ∈ l, a.typ.length ≤ 140737488351232 ∧ a.val.length ≤ 140737488351232) : CFn Try.prog 10 [TSl 2 Dn.cAva l] (Is (.bool true)) := by
  have c0 := lwKnown
  have c1 := lwHeavy l hl ha
  have c2 := dnUp
  have hw := Dn.wgt_len l
  by_cases hbig : 1000 < Dn.wgt l
  · refine CallsC.of Try.call10 Try.func10 rfl Try.ntmps10 rfl fun w0 G0 S0 hs ho => ?_
    exact run trivial
  have c3 := fun x y (h1 : Dn.wgt x ≤ 1000) (h2 : Dn.wgt y ≤ 1000) => dnUnder x y (by omega) (by omega)
  have h3 := Dn.wgt_drop l
  refine CallsC.of Try.call10 Try.func10 rfl Try.ntmps10 rfl fun w0 G0 S0 hs ho => ?_
  refine run ?_
  intro _
  refine HT.loopX (σ := Nat) [0] (fun i => [(3, TSl 2 Dn.cAva (l.drop i)), (4, okI .i64 (i : Int))]) (fun _ => []) (fun i => i ≤ l.length) (fun i => l.length - i) 0 (Nat.zero_le _) (run trivial) (run ?_) ?_
  · exact (List.drop_zero).symm
  intro i hi
  have h4 := h3 i
  have h5 := Dn.wgt_drop (l.drop i) 1
  have h6 : (l.drop i).drop 1 = l.drop (i + 1) := by rw [List.drop_drop]
  have h7 : (l.drop i).length = l.length - i := List.length_drop
  have h8 : ((l.drop i).drop 1).length = l.length - i - 1 := by rw [List.length_drop, List.length_drop]
  have h9 := Dn.underE_drop1 (l.drop i)
  by_cases hlt : i < l.length
  · have h10 := Dn.under_up (x := l.drop i) (by omega)
    have h11 := Dn.underE_drop l (i + 1) (by omega)
    rw [← h6] at h11
    refine run ?_
    refine ⟨fun _ h => ?_, fun _ h => ?_⟩
    · exfalso
      rw [h9, h10, h11] at h
      simp at h
      omega
    · refine HX.roundX (i + 1) ⟨by omega, by omega⟩ rfl (run trivial) (run trivial)
  · refine run ?_
    intro _
    rw [List.drop_eq_nil_of_le (show l.length ≤ i by omega)]
    rfl
end Go.Proofs.Ytahbeeakfbchlaa
