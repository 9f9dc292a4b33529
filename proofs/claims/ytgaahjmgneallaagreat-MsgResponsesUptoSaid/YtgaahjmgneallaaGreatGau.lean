/-
  The contracts of the program's request and Decode.
  What is read out of bytes is bounded by them. Nothing here speaks of a program.
  What is encoded is decoded: items, texts, attributes, changes. Nothing here speaks of a program.
  What is encoded is decoded: pieces, filters. Nothing here speaks of a program.
-/
import Derived.Test.YtgaahjmgneallaaGreatGat
import Derived.Test.YtgaahjmgneallaaGreatGal
set_option linter.unusedSimpArgs false
set_option linter.unusedVariables false
set_option linter.unusedVariables false
namespace Go.Ms
open Go.Vk
theorem opP_bad' {l : List It} {bad : Bool} (h : l = [] ∨ bad = true) : opP l bad = (zR, l, true) := by
  cases l with
  | nil => rfl
  | cons x r =>
    have : bad = true := by simpa using h
    rw [this]; rfl
theorem opP_x (x : It) (r : List It) : opP (x :: r) false = if x.1 = 66 then ({ zR with kind := 2 }, r, decide (0 < x.2.length)) else if x.1 = 74 then ({ zR with kind := 10, dn := x.2 }, r, false) else if x.1 = 80 then ({ zR with kind := 16, which := (numI (x :: r) false 80).1 }, (numI (x :: r) false 80).2) else innM true x.1 (opKP ((x.1.toNat : Int) - 96)) (x :: r) false := by
  show (if (false : Bool) = true then (zR, x :: r, true) else _) = _
  rw [if_neg (by simp)]
  rfl
theorem op99_w (l : List It) (bad : Bool) : wI (srchP l bad).2.1 ≤ wI l := by
  unfold srchP
  dsimp only
  refine Nat.le_trans (innM_w _ _ _ _ _) ?_
  refine Nat.le_trans (filtP_w _ _ _).1 ?_
  refine Nat.le_trans (truthI_w _ _) ?_
  refine Nat.le_trans (numI_w _ _ _) ?_
  refine Nat.le_trans (numI_w _ _ _) ?_
  refine Nat.le_trans (numI_w _ _ _) ?_
  refine Nat.le_trans (numI_w _ _ _) ?_
  exact textI_w _ _
theorem op102_w (l : List It) (bad : Bool) : wI (modfM true l bad).2.1 ≤ wI l := Nat.le_trans (innM_w _ _ _ _ _) (textI_w _ _)
theorem op104_w (l : List It) (bad : Bool) : wI (addM true l bad).2.1 ≤ wI l := Nat.le_trans (innM_w _ _ _ _ _) (textI_w _ _)
theorem mayI_w (l : List It) (bad : Bool) (t : UInt8) : wI (mayI l bad t).2.1 ≤ wI l := by
  unfold mayI
  split
  · exact take1_w _ _ _
  · exact Nat.le_refl _
theorem op108_w (l : List It) (bad : Bool) : wI (renI l bad).2.1 ≤ wI l := by
  unfold renI
  dsimp only
  refine Nat.le_trans (mayI_w _ _ _) ?_
  refine Nat.le_trans (truthI_w _ _) ?_
  exact Nat.le_trans (textI_w _ _) (textI_w _ _)
theorem op110_w (l : List It) (bad : Bool) : wI (cmpM true l bad).2.1 ≤ wI l := Nat.le_trans (innM_w _ _ _ _ _) (textI_w _ _)
end Go.Ms
set_option maxRecDepth 8000
set_option linter.unusedVariables false
namespace Go.Proofs.YtgaahjmgneallaaGreat
open Go.Vk
attribute [local irreducible] HT HX RegS RegA RegM OpP OpC AltT
attribute [local irreducible] Ber.tagB Ber.lenB Ber.intB Ber.allE Ber.fromIntB Ber.nextB Ms.midB Ms.kindT Ms.textI Ms.numI Ms.truthI Ms.filtP Ms.textsM Ms.modsM Ms.attrsM Ms.opP Ms.bindP Ms.srchP Ms.modfM Ms.addM Ms.renI Ms.cmpM
set_option maxHeartbeats 4000000 in
theorem miReqBad (g g2 : Nat) (num : Int) (l : List Ms.It) (bad : Bool) (hl : Ms.wI l ≤ 100000000) (hc : l = [] ∨ bad = true) : CallsC Tryz.prog 49 [Is (pAt g 0), Is (pAt g2 0)] [IX g l bad, ownP g2 48 (Ms.zReq num 0)] (fun _ => TTup []) (fun _ => [IX g (Ms.opP l bad).2.1 (Ms.opP l bad).2.2, ownP g2 48 (Ms.cReq (Ms.withNum (Ms.opP l bad).1 num))]) := by
  rw [Ms.opP_bad' hc]
  unfold Ms.withNum
  dsimp only [Ms.cReq]
  have hle := Ms.wI_len l
  cases bad with
  | true =>
    clear hc
    refine CallsC.of Tryz.call49 Tryz.func49 rfl Tryz.ntmps49 rfl fun w0 G0 S0 hs ho => ?_
    refine run ?_
    and_intros <;> intros <;> rfl
  | false =>
    have h0 : l.length = 0 := by
      rcases hc with h | h
      · rw [h]; rfl
      · cases h
    have h0' : (l.length : Int) = 0 := by omega
    clear hc
    refine CallsC.of Tryz.call49 Tryz.func49 rfl Tryz.ntmps49 rfl fun w0 G0 S0 hs ho => ?_
    refine run ?_
    and_intros <;> intros <;> rfl
set_option maxHeartbeats 4000000 in
theorem miReq66 (g g2 : Nat) (num : Int) (x : Ms.It) (r : List Ms.It) (hl : Ms.wI (x :: r) ≤ 100000000) (ht : x.1 = 66) : CallsC Tryz.prog 49 [Is (pAt g 0), Is (pAt g2 0)] [IX g (x :: r) false, ownP g2 48 (Ms.zReq num 0)] (fun _ => TTup []) (fun _ => [IX g (Ms.opP (x :: r) false).2.1 (Ms.opP (x :: r) false).2.2, ownP g2 48 (Ms.cReq (Ms.withNum (Ms.opP (x :: r) false).1 num))]) := by
  rw [Ms.opP_x, if_pos ht]
  unfold Ms.withNum
  dsimp only
  have hle := Ms.wI_len (x :: r)
  have et : Ms.takeI (x :: r) false x.1 = (x.2, r, false) := by
    show (if false = false ∧ x.1 = x.1 then (x.2, r, false) else ([], x :: r, true)) = _
    rw [if_pos ⟨rfl, rfl⟩]
  rw [ht] at et
  obtain ⟨l, hx⟩ : ∃ l : List Ms.It, l = x :: r := ⟨_, rfl⟩
  have f1 : ¬ (l.length : Int) = 0 := by rw [hx]; simp; omega
  have f2 : ((l.getD 0 default).1.toNat : Int) = 66 := by rw [hx, List.getD_cons_zero, ht]; rfl
  have f3 : ((l.getD (nat_lit 0) default).1.toNat : Int) = 66 := f2
  have c1 : ∀ g, CallsC Tryz.prog 51 [Is (pAt g 0), okI .u8 ((l.getD 0 default).1.toNat : Int)] [IX g l false] (fun _ => TBytes x.2) (fun _ => [IX g r false]) := fun g => by
    have h := miTake g (x :: r) false 66 (by omega)
    rw [et] at h
    rw [f2, hx]; exact h
  have hx2 := Ms.wI_cons x r
  rw [← hx] at hle hl hx2 ⊢
  clear hx et
  dsimp only [Ms.cReq]
  refine CallsC.of Tryz.call49 Tryz.func49 rfl Tryz.ntmps49 rfl fun w0 G0 S0 hs ho => ?_
  refine run ?_
  and_intros <;> intros <;> rfl
set_option maxHeartbeats 4000000 in
theorem miReq74 (g g2 : Nat) (num : Int) (x : Ms.It) (r : List Ms.It) (hl : Ms.wI (x :: r) ≤ 100000000) (ht : x.1 = 74) : CallsC Tryz.prog 49 [Is (pAt g 0), Is (pAt g2 0)] [IX g (x :: r) false, ownP g2 48 (Ms.zReq num 0)] (fun _ => TTup []) (fun _ => [IX g (Ms.opP (x :: r) false).2.1 (Ms.opP (x :: r) false).2.2, ownP g2 48 (Ms.cReq (Ms.withNum (Ms.opP (x :: r) false).1 num))]) := by
  rw [Ms.opP_x, if_neg (by rw [ht]; decide), if_pos ht]
  unfold Ms.withNum
  dsimp only
  have hle := Ms.wI_len (x :: r)
  have et : Ms.takeI (x :: r) false x.1 = (x.2, r, false) := by
    show (if false = false ∧ x.1 = x.1 then (x.2, r, false) else ([], x :: r, true)) = _
    rw [if_pos ⟨rfl, rfl⟩]
  rw [ht] at et
  obtain ⟨l, hx⟩ : ∃ l : List Ms.It, l = x :: r := ⟨_, rfl⟩
  have f1 : ¬ (l.length : Int) = 0 := by rw [hx]; simp; omega
  have f2 : ((l.getD 0 default).1.toNat : Int) = 74 := by rw [hx, List.getD_cons_zero, ht]; rfl
  have f3 : ((l.getD (nat_lit 0) default).1.toNat : Int) = 74 := f2
  have c1 : ∀ g, CallsC Tryz.prog 51 [Is (pAt g 0), okI .u8 ((l.getD 0 default).1.toNat : Int)] [IX g l false] (fun _ => TBytes x.2) (fun _ => [IX g r false]) := fun g => by
    have h := miTake g (x :: r) false 74 (by omega)
    rw [et] at h
    rw [f2, hx]; exact h
  rw [← hx] at hle hl ⊢
  clear hx et
  dsimp only [Ms.cReq]
  refine CallsC.of Tryz.call49 Tryz.func49 rfl Tryz.ntmps49 rfl fun w0 G0 S0 hs ho => ?_
  refine run ?_
  and_intros <;> intros <;> rfl
set_option maxHeartbeats 4000000 in
theorem miReq80 (g g2 : Nat) (num : Int) (x : Ms.It) (r : List Ms.It) (hl : Ms.wI (x :: r) ≤ 100000000) (ht : x.1 = 80) : CallsC Tryz.prog 49 [Is (pAt g 0), Is (pAt g2 0)] [IX g (x :: r) false, ownP g2 48 (Ms.zReq num 0)] (fun _ => TTup []) (fun _ => [IX g (Ms.opP (x :: r) false).2.1 (Ms.opP (x :: r) false).2.2, ownP g2 48 (Ms.cReq (Ms.withNum (Ms.opP (x :: r) false).1 num))]) := by
  rw [Ms.opP_x, if_neg (by rw [ht]; decide), if_neg (by rw [ht]; decide), if_pos ht]
  unfold Ms.withNum
  dsimp only
  have hle := Ms.wI_len (x :: r)
  have et : Ms.takeI (x :: r) false x.1 = (x.2, r, false) := by
    show (if false = false ∧ x.1 = x.1 then (x.2, r, false) else ([], x :: r, true)) = _
    rw [if_pos ⟨rfl, rfl⟩]
  rw [ht] at et
  obtain ⟨l, hx⟩ : ∃ l : List Ms.It, l = x :: r := ⟨_, rfl⟩
  have f1 : ¬ (l.length : Int) = 0 := by rw [hx]; simp; omega
  have f2 : ((l.getD 0 default).1.toNat : Int) = 80 := by rw [hx, List.getD_cons_zero, ht]; rfl
  have f3 : ((l.getD (nat_lit 0) default).1.toNat : Int) = 80 := f2
  have c1 : ∀ g, CallsC Tryz.prog 39 [Is (pAt g 0), okI .u8 ((l.getD 0 default).1.toNat : Int)] [IX g l false] (fun _ => okI .i64 (Ms.numI (x :: r) false 80).1) (fun _ => [IX g (Ms.numI (x :: r) false 80).2.1 (Ms.numI (x :: r) false 80).2.2]) := fun g => by
    have h := miNum g (x :: r) false 80 (by omega)
    rw [f2, hx]; exact h
  generalize Ms.numI (x :: r) false 80 = n at c1 ⊢
  rw [← hx] at hle hl ⊢
  clear hx et
  dsimp only [Ms.cReq]
  refine CallsC.of Tryz.call49 Tryz.func49 rfl Tryz.ntmps49 rfl fun w0 G0 S0 hs ho => ?_
  refine run ?_
  and_intros <;> intros <;> rfl
set_option maxHeartbeats 4000000 in
theorem miReq96 (g g2 : Nat) (num : Int) (x : Ms.It) (r : List Ms.It) (hl : Ms.wI (x :: r) ≤ 100000000) (ht : x.1 = 96) : CallsC Tryz.prog 49 [Is (pAt g 0), Is (pAt g2 0)] [IX g (x :: r) false, ownP g2 48 (Ms.zReq num 0)] (fun _ => TTup []) (fun _ => [IX g (Ms.opP (x :: r) false).2.1 (Ms.opP (x :: r) false).2.2, ownP g2 48 (Ms.cReq (Ms.withNum (Ms.opP (x :: r) false).1 num))]) := by
  rw [Ms.opP_x, if_neg (by rw [ht]; decide), if_neg (by rw [ht]; decide), if_neg (by rw [ht]; decide)]
  have eK : Ms.opKP ((x.1.toNat : Int) - 96) = Ms.bindP := by
    funext l b
    rw [ht]
    unfold Ms.opKP
    simp
  rw [eK, Ms.inn_at]
  unfold Ms.withNum
  dsimp only
  have hle := Ms.wI_len (x :: r)
  have et : Ms.takeI (x :: r) false x.1 = (x.2, r, false) := by
    show (if false = false ∧ x.1 = x.1 then (x.2, r, false) else ([], x :: r, true)) = _
    rw [if_pos ⟨rfl, rfl⟩]
  have c1 := fun g => miInner g (x :: r) false x.1 hl
  rw [et] at c1
  dsimp only at c1
  rw [Bool.or_false] at c1
  have hw2 := Ms.inner_w (x :: r) false x.1
  rw [et] at hw2
  dsimp only at hw2
  clear et eK
  obtain ⟨l, hx⟩ : ∃ l : List Ms.It, l = x :: r := ⟨_, rfl⟩
  have f1 : ¬ (l.length : Int) = 0 := by rw [hx]; simp; omega
  have f2 : ((l.getD 0 default).1.toNat : Int) = 96 := by rw [hx, List.getD_cons_zero, ht]; rfl
  have f3 : ((l.getD (nat_lit 0) default).1.toNat : Int) = 96 := f2
  have f0 : (l.getD 0 default).1 = x.1 := by rw [hx, List.getD_cons_zero]
  rw [← f0, ← hx] at c1
  rw [← hx] at hle hl hw2 ⊢
  generalize Ms.allI x.2 = x0 at c1 hw2 ⊢
  generalize Ms.badI x.2 = b0 at c1 ⊢
  clear hx
  have w3 := Ms.numI_w x0 b0 2
  have l0 := Ms.wI_len x0
  unfold Ms.bindP
  dsimp only
  have c2 : ∀ g, CallsC Tryz.prog 39 [Is (pAt g 0), okI .u8 2] [IX g x0 b0] (fun _ => okI .i64 (Ms.numI x0 b0 2).1) (fun _ => [IX g (Ms.numI x0 b0 2).2.1 (Ms.numI x0 b0 2).2.2]) := fun g => miNum g x0 b0 2 (by omega)
  generalize Ms.numI x0 b0 2 = n at c2 w3 ⊢
  have c3 := fun g => miText g n.2.1 (decide (n.1 ≠ 3) || n.2.2) (by omega)
  have w4 := Ms.textI_w n.2.1 (decide (n.1 ≠ 3) || n.2.2)
  generalize Ms.textI n.2.1 (decide (n.1 ≠ 3) || n.2.2) = d at c3 w4 ⊢
  have l1 := Ms.wI_len d.2.1
  have c5 : ∀ g, CallsC Tryz.prog 51 [Is (pAt g 0), okI .u8 128] [IX g d.2.1 d.2.2] (fun _ => TBytes (Ms.takeI d.2.1 d.2.2 128).1) (fun _ => [IX g (Ms.takeI d.2.1 d.2.2 128).2.1 (Ms.takeI d.2.1 d.2.2 128).2.2]) := fun g => miTake g d.2.1 d.2.2 128 (by omega)
  have w5 := Ms.take1_w d.2.1 d.2.2 128
  generalize Ms.takeI d.2.1 d.2.2 128 = p at c5 w5 ⊢
  have c4 := fun g g2 => miEnds g g2 r p.2.1 false p.2.2 (by omega)
  dsimp only [Ms.cReq]
  refine CallsC.of Tryz.call49 Tryz.func49 rfl Tryz.ntmps49 rfl fun w0 G0 S0 hs ho => ?_
  refine run ?_
  and_intros <;> intros <;> rfl
set_option maxHeartbeats 4000000 in
theorem miReq99 (g g2 : Nat) (num : Int) (x : Ms.It) (r : List Ms.It) (hl : Ms.wI (x :: r) ≤ 100000000) (ht : x.1 = 99) : CallsC Tryz.prog 49 [Is (pAt g 0), Is (pAt g2 0)] [IX g (x :: r) false, ownP g2 48 (Ms.zReq num 0)] (fun _ => TTup []) (fun _ => [IX g (Ms.opP (x :: r) false).2.1 (Ms.opP (x :: r) false).2.2, ownP g2 48 (Ms.cReq (Ms.withNum (Ms.opP (x :: r) false).1 num))]) := by
  rw [Ms.opP_x, if_neg (by rw [ht]; decide), if_neg (by rw [ht]; decide), if_neg (by rw [ht]; decide)]
  have eK : Ms.opKP ((x.1.toNat : Int) - 96) = Ms.srchP := by
    funext l b
    rw [ht]
    unfold Ms.opKP
    simp
  rw [eK, Ms.inn_at]
  unfold Ms.withNum
  dsimp only
  have hle := Ms.wI_len (x :: r)
  have et : Ms.takeI (x :: r) false x.1 = (x.2, r, false) := by
    show (if false = false ∧ x.1 = x.1 then (x.2, r, false) else ([], x :: r, true)) = _
    rw [if_pos ⟨rfl, rfl⟩]
  have c1 := fun g => miInner g (x :: r) false x.1 hl
  rw [et] at c1
  dsimp only at c1
  rw [Bool.or_false] at c1
  have hw2 := Ms.inner_w (x :: r) false x.1
  rw [et] at hw2
  dsimp only at hw2
  clear et eK
  obtain ⟨l, hx⟩ : ∃ l : List Ms.It, l = x :: r := ⟨_, rfl⟩
  have f1 : ¬ (l.length : Int) = 0 := by rw [hx]; simp; omega
  have f2 : ((l.getD 0 default).1.toNat : Int) = 99 := by rw [hx, List.getD_cons_zero, ht]; rfl
  have f3 : ((l.getD (nat_lit 0) default).1.toNat : Int) = 99 := f2
  have f0 : (l.getD 0 default).1 = x.1 := by rw [hx, List.getD_cons_zero]
  rw [← f0, ← hx] at c1
  rw [← hx] at hle hl hw2 ⊢
  generalize Ms.allI x.2 = x0 at c1 hw2 ⊢
  generalize Ms.badI x.2 = b0 at c1 ⊢
  clear hx
  have c2 : ∀ gx, CallsC Tryz.prog 84 [Is (pAt gx 0), Is (pAt g2 0)] [IX gx x0 b0, ownP g2 48 (Ms.zReq num (((l.getD 0 default).1.toNat : Int) - 96))] (fun _ => TTup []) (fun _ => [IX gx (Ms.srchP x0 b0).2.1 (Ms.srchP x0 b0).2.2, ownP g2 48 (Ms.cReq (Ms.withNum (Ms.srchP x0 b0).1 num))]) := by
    rw [show ((l.getD 0 default).1.toNat : Int) - 96 = 3 by omega]
    exact fun gx => miSearch gx g2 num x0 b0 (by omega)
  have w3 : Ms.wI (Ms.srchP x0 b0).2.1 ≤ Ms.wI x0 := Ms.op99_w x0 b0
  generalize Ms.srchP x0 b0 = z at c2 w3 ⊢
  have c4 := fun g g2 => miEnds g g2 r z.2.1 false z.2.2 (by omega)
  unfold Ms.withNum at c2
  dsimp only [Ms.cReq] at c2 ⊢
  refine CallsC.of Tryz.call49 Tryz.func49 rfl Tryz.ntmps49 rfl fun w0 G0 S0 hs ho => ?_
  exact run trivial
set_option maxHeartbeats 4000000 in
theorem miReq102 (g g2 : Nat) (num : Int) (x : Ms.It) (r : List Ms.It) (hl : Ms.wI (x :: r) ≤ 100000000) (ht : x.1 = 102) : CallsC Tryz.prog 49 [Is (pAt g 0), Is (pAt g2 0)] [IX g (x :: r) false, ownP g2 48 (Ms.zReq num 0)] (fun _ => TTup []) (fun _ => [IX g (Ms.opP (x :: r) false).2.1 (Ms.opP (x :: r) false).2.2, ownP g2 48 (Ms.cReq (Ms.withNum (Ms.opP (x :: r) false).1 num))]) := by
  rw [Ms.opP_x, if_neg (by rw [ht]; decide), if_neg (by rw [ht]; decide), if_neg (by rw [ht]; decide)]
  have eK : Ms.opKP ((x.1.toNat : Int) - 96) = Ms.modfM true := by
    funext l b
    rw [ht]
    unfold Ms.opKP
    simp
  rw [eK, Ms.inn_at]
  unfold Ms.withNum
  dsimp only
  have hle := Ms.wI_len (x :: r)
  have et : Ms.takeI (x :: r) false x.1 = (x.2, r, false) := by
    show (if false = false ∧ x.1 = x.1 then (x.2, r, false) else ([], x :: r, true)) = _
    rw [if_pos ⟨rfl, rfl⟩]
  have c1 := fun g => miInner g (x :: r) false x.1 hl
  rw [et] at c1
  dsimp only at c1
  rw [Bool.or_false] at c1
  have hw2 := Ms.inner_w (x :: r) false x.1
  rw [et] at hw2
  dsimp only at hw2
  clear et eK
  obtain ⟨l, hx⟩ : ∃ l : List Ms.It, l = x :: r := ⟨_, rfl⟩
  have f1 : ¬ (l.length : Int) = 0 := by rw [hx]; simp; omega
  have f2 : ((l.getD 0 default).1.toNat : Int) = 102 := by rw [hx, List.getD_cons_zero, ht]; rfl
  have f3 : ((l.getD (nat_lit 0) default).1.toNat : Int) = 102 := f2
  have f0 : (l.getD 0 default).1 = x.1 := by rw [hx, List.getD_cons_zero]
  rw [← f0, ← hx] at c1
  rw [← hx] at hle hl hw2 ⊢
  generalize Ms.allI x.2 = x0 at c1 hw2 ⊢
  generalize Ms.badI x.2 = b0 at c1 ⊢
  clear hx
  have c2 : ∀ gx, CallsC Tryz.prog 85 [Is (pAt gx 0), Is (pAt g2 0)] [IX gx x0 b0, ownP g2 48 (Ms.zReq num (((l.getD 0 default).1.toNat : Int) - 96))] (fun _ => TTup []) (fun _ => [IX gx (Ms.modfM true x0 b0).2.1 (Ms.modfM true x0 b0).2.2, ownP g2 48 (Ms.cReq (Ms.withNum (Ms.modfM true x0 b0).1 num))]) := by
    rw [show ((l.getD 0 default).1.toNat : Int) - 96 = 6 by omega]
    exact fun gx => miOpModify gx g2 num x0 b0 (by omega)
  have w3 : Ms.wI (Ms.modfM true x0 b0).2.1 ≤ Ms.wI x0 := Ms.op102_w x0 b0
  generalize Ms.modfM true x0 b0 = z at c2 w3 ⊢
  have c4 := fun g g2 => miEnds g g2 r z.2.1 false z.2.2 (by omega)
  unfold Ms.withNum at c2
  dsimp only [Ms.cReq] at c2 ⊢
  refine CallsC.of Tryz.call49 Tryz.func49 rfl Tryz.ntmps49 rfl fun w0 G0 S0 hs ho => ?_
  exact run trivial
set_option maxHeartbeats 4000000 in
theorem miReq104 (g g2 : Nat) (num : Int) (x : Ms.It) (r : List Ms.It) (hl : Ms.wI (x :: r) ≤ 100000000) (ht : x.1 = 104) : CallsC Tryz.prog 49 [Is (pAt g 0), Is (pAt g2 0)] [IX g (x :: r) false, ownP g2 48 (Ms.zReq num 0)] (fun _ => TTup []) (fun _ => [IX g (Ms.opP (x :: r) false).2.1 (Ms.opP (x :: r) false).2.2, ownP g2 48 (Ms.cReq (Ms.withNum (Ms.opP (x :: r) false).1 num))]) := by
  rw [Ms.opP_x, if_neg (by rw [ht]; decide), if_neg (by rw [ht]; decide), if_neg (by rw [ht]; decide)]
  have eK : Ms.opKP ((x.1.toNat : Int) - 96) = Ms.addM true := by
    funext l b
    rw [ht]
    unfold Ms.opKP
    simp
  rw [eK, Ms.inn_at]
  unfold Ms.withNum
  dsimp only
  have hle := Ms.wI_len (x :: r)
  have et : Ms.takeI (x :: r) false x.1 = (x.2, r, false) := by
    show (if false = false ∧ x.1 = x.1 then (x.2, r, false) else ([], x :: r, true)) = _
    rw [if_pos ⟨rfl, rfl⟩]
  have c1 := fun g => miInner g (x :: r) false x.1 hl
  rw [et] at c1
  dsimp only at c1
  rw [Bool.or_false] at c1
  have hw2 := Ms.inner_w (x :: r) false x.1
  rw [et] at hw2
  dsimp only at hw2
  clear et eK
  obtain ⟨l, hx⟩ : ∃ l : List Ms.It, l = x :: r := ⟨_, rfl⟩
  have f1 : ¬ (l.length : Int) = 0 := by rw [hx]; simp; omega
  have f2 : ((l.getD 0 default).1.toNat : Int) = 104 := by rw [hx, List.getD_cons_zero, ht]; rfl
  have f3 : ((l.getD (nat_lit 0) default).1.toNat : Int) = 104 := f2
  have f0 : (l.getD 0 default).1 = x.1 := by rw [hx, List.getD_cons_zero]
  rw [← f0, ← hx] at c1
  rw [← hx] at hle hl hw2 ⊢
  generalize Ms.allI x.2 = x0 at c1 hw2 ⊢
  generalize Ms.badI x.2 = b0 at c1 ⊢
  clear hx
  have c2 : ∀ gx, CallsC Tryz.prog 85 [Is (pAt gx 0), Is (pAt g2 0)] [IX gx x0 b0, ownP g2 48 (Ms.zReq num (((l.getD 0 default).1.toNat : Int) - 96))] (fun _ => TTup []) (fun _ => [IX gx (Ms.addM true x0 b0).2.1 (Ms.addM true x0 b0).2.2, ownP g2 48 (Ms.cReq (Ms.withNum (Ms.addM true x0 b0).1 num))]) := by
    rw [show ((l.getD 0 default).1.toNat : Int) - 96 = 8 by omega]
    exact fun gx => miOpAdd gx g2 num x0 b0 (by omega)
  have w3 : Ms.wI (Ms.addM true x0 b0).2.1 ≤ Ms.wI x0 := Ms.op104_w x0 b0
  generalize Ms.addM true x0 b0 = z at c2 w3 ⊢
  have c4 := fun g g2 => miEnds g g2 r z.2.1 false z.2.2 (by omega)
  unfold Ms.withNum at c2
  dsimp only [Ms.cReq] at c2 ⊢
  refine CallsC.of Tryz.call49 Tryz.func49 rfl Tryz.ntmps49 rfl fun w0 G0 S0 hs ho => ?_
  exact run trivial
set_option maxHeartbeats 4000000 in
theorem miReq108 (g g2 : Nat) (num : Int) (x : Ms.It) (r : List Ms.It) (hl : Ms.wI (x :: r) ≤ 100000000) (ht : x.1 = 108) : CallsC Tryz.prog 49 [Is (pAt g 0), Is (pAt g2 0)] [IX g (x :: r) false, ownP g2 48 (Ms.zReq num 0)] (fun _ => TTup []) (fun _ => [IX g (Ms.opP (x :: r) false).2.1 (Ms.opP (x :: r) false).2.2, ownP g2 48 (Ms.cReq (Ms.withNum (Ms.opP (x :: r) false).1 num))]) := by
  rw [Ms.opP_x, if_neg (by rw [ht]; decide), if_neg (by rw [ht]; decide), if_neg (by rw [ht]; decide)]
  have eK : Ms.opKP ((x.1.toNat : Int) - 96) = Ms.renI := by
    funext l b
    rw [ht]
    unfold Ms.opKP
    simp
  rw [eK, Ms.inn_at]
  unfold Ms.withNum
  dsimp only
  have hle := Ms.wI_len (x :: r)
  have et : Ms.takeI (x :: r) false x.1 = (x.2, r, false) := by
    show (if false = false ∧ x.1 = x.1 then (x.2, r, false) else ([], x :: r, true)) = _
    rw [if_pos ⟨rfl, rfl⟩]
  have c1 := fun g => miInner g (x :: r) false x.1 hl
  rw [et] at c1
  dsimp only at c1
  rw [Bool.or_false] at c1
  have hw2 := Ms.inner_w (x :: r) false x.1
  rw [et] at hw2
  dsimp only at hw2
  clear et eK
  obtain ⟨l, hx⟩ : ∃ l : List Ms.It, l = x :: r := ⟨_, rfl⟩
  have f1 : ¬ (l.length : Int) = 0 := by rw [hx]; simp; omega
  have f2 : ((l.getD 0 default).1.toNat : Int) = 108 := by rw [hx, List.getD_cons_zero, ht]; rfl
  have f3 : ((l.getD (nat_lit 0) default).1.toNat : Int) = 108 := f2
  have f0 : (l.getD 0 default).1 = x.1 := by rw [hx, List.getD_cons_zero]
  rw [← f0, ← hx] at c1
  rw [← hx] at hle hl hw2 ⊢
  generalize Ms.allI x.2 = x0 at c1 hw2 ⊢
  generalize Ms.badI x.2 = b0 at c1 ⊢
  clear hx
  have c2 : ∀ gx, CallsC Tryz.prog 85 [Is (pAt gx 0), Is (pAt g2 0)] [IX gx x0 b0, ownP g2 48 (Ms.zReq num (((l.getD 0 default).1.toNat : Int) - 96))] (fun _ => TTup []) (fun _ => [IX gx (Ms.renI x0 b0).2.1 (Ms.renI x0 b0).2.2, ownP g2 48 (Ms.cReq (Ms.withNum (Ms.renI x0 b0).1 num))]) := by
    rw [show ((l.getD 0 default).1.toNat : Int) - 96 = 12 by omega]
    exact fun gx => miOpRename gx g2 num x0 b0 (by omega)
  have w3 : Ms.wI (Ms.renI x0 b0).2.1 ≤ Ms.wI x0 := Ms.op108_w x0 b0
  generalize Ms.renI x0 b0 = z at c2 w3 ⊢
  have c4 := fun g g2 => miEnds g g2 r z.2.1 false z.2.2 (by omega)
  unfold Ms.withNum at c2
  dsimp only [Ms.cReq] at c2 ⊢
  refine CallsC.of Tryz.call49 Tryz.func49 rfl Tryz.ntmps49 rfl fun w0 G0 S0 hs ho => ?_
  exact run trivial
set_option maxHeartbeats 4000000 in
theorem miReq110 (g g2 : Nat) (num : Int) (x : Ms.It) (r : List Ms.It) (hl : Ms.wI (x :: r) ≤ 100000000) (ht : x.1 = 110) : CallsC Tryz.prog 49 [Is (pAt g 0), Is (pAt g2 0)] [IX g (x :: r) false, ownP g2 48 (Ms.zReq num 0)] (fun _ => TTup []) (fun _ => [IX g (Ms.opP (x :: r) false).2.1 (Ms.opP (x :: r) false).2.2, ownP g2 48 (Ms.cReq (Ms.withNum (Ms.opP (x :: r) false).1 num))]) := by
  rw [Ms.opP_x, if_neg (by rw [ht]; decide), if_neg (by rw [ht]; decide), if_neg (by rw [ht]; decide)]
  have eK : Ms.opKP ((x.1.toNat : Int) - 96) = Ms.cmpM true := by
    funext l b
    rw [ht]
    unfold Ms.opKP
    simp
  rw [eK, Ms.inn_at]
  unfold Ms.withNum
  dsimp only
  have hle := Ms.wI_len (x :: r)
  have et : Ms.takeI (x :: r) false x.1 = (x.2, r, false) := by
    show (if false = false ∧ x.1 = x.1 then (x.2, r, false) else ([], x :: r, true)) = _
    rw [if_pos ⟨rfl, rfl⟩]
  have c1 := fun g => miInner g (x :: r) false x.1 hl
  rw [et] at c1
  dsimp only at c1
  rw [Bool.or_false] at c1
  have hw2 := Ms.inner_w (x :: r) false x.1
  rw [et] at hw2
  dsimp only at hw2
  clear et eK
  obtain ⟨l, hx⟩ : ∃ l : List Ms.It, l = x :: r := ⟨_, rfl⟩
  have f1 : ¬ (l.length : Int) = 0 := by rw [hx]; simp; omega
  have f2 : ((l.getD 0 default).1.toNat : Int) = 110 := by rw [hx, List.getD_cons_zero, ht]; rfl
  have f3 : ((l.getD (nat_lit 0) default).1.toNat : Int) = 110 := f2
  have f0 : (l.getD 0 default).1 = x.1 := by rw [hx, List.getD_cons_zero]
  rw [← f0, ← hx] at c1
  rw [← hx] at hle hl hw2 ⊢
  generalize Ms.allI x.2 = x0 at c1 hw2 ⊢
  generalize Ms.badI x.2 = b0 at c1 ⊢
  clear hx
  have c2 : ∀ gx, CallsC Tryz.prog 85 [Is (pAt gx 0), Is (pAt g2 0)] [IX gx x0 b0, ownP g2 48 (Ms.zReq num (((l.getD 0 default).1.toNat : Int) - 96))] (fun _ => TTup []) (fun _ => [IX gx (Ms.cmpM true x0 b0).2.1 (Ms.cmpM true x0 b0).2.2, ownP g2 48 (Ms.cReq (Ms.withNum (Ms.cmpM true x0 b0).1 num))]) := by
    rw [show ((l.getD 0 default).1.toNat : Int) - 96 = 14 by omega]
    exact fun gx => miOpCompare gx g2 num x0 b0 (by omega)
  have w3 : Ms.wI (Ms.cmpM true x0 b0).2.1 ≤ Ms.wI x0 := Ms.op110_w x0 b0
  generalize Ms.cmpM true x0 b0 = z at c2 w3 ⊢
  have c4 := fun g g2 => miEnds g g2 r z.2.1 false z.2.2 (by omega)
  unfold Ms.withNum at c2
  dsimp only [Ms.cReq] at c2 ⊢
  refine CallsC.of Tryz.call49 Tryz.func49 rfl Tryz.ntmps49 rfl fun w0 G0 S0 hs ho => ?_
  exact run trivial
set_option maxHeartbeats 4000000 in
theorem miReqX (g g2 : Nat) (num : Int) (x : Ms.It) (r : List Ms.It) (hl : Ms.wI (x :: r) ≤ 100000000) (h66 : x.1 ≠ 66) (h74 : x.1 ≠ 74) (h80 : x.1 ≠ 80) (h96 : x.1 ≠ 96) (h99 : x.1 ≠ 99) (h102 : x.1 ≠ 102) (h104 : x.1 ≠ 104) (h108 : x.1 ≠ 108) (h110 : x.1 ≠ 110) : CallsC Tryz.prog 49 [Is (pAt g 0), Is (pAt g2 0)] [IX g (x :: r) false, ownP g2 48 (Ms.zReq num 0)] (fun _ => TTup []) (fun _ => [IX g (Ms.opP (x :: r) false).2.1 (Ms.opP (x :: r) false).2.2, ownP g2 48 (Ms.cReq (Ms.withNum (Ms.opP (x :: r) false).1 num))]) := by
  have hv : ∀ n : Nat, n < 256 → x.1 ≠ UInt8.ofNat n → ¬ (x.1.toNat : Int) = (n : Int) := fun n hn h e => h (by
    apply UInt8.toNat_inj.1
    rw [UInt8.toNat_ofNat']
    omega)
  have v66 : ¬ (x.1.toNat : Int) = 66 := hv 66 (by decide) h66
  have v74 : ¬ (x.1.toNat : Int) = 74 := hv 74 (by decide) h74
  have v80 : ¬ (x.1.toNat : Int) = 80 := hv 80 (by decide) h80
  have v96 : ¬ (x.1.toNat : Int) = 96 := hv 96 (by decide) h96
  have v99 : ¬ (x.1.toNat : Int) = 99 := hv 99 (by decide) h99
  have v102 : ¬ (x.1.toNat : Int) = 102 := hv 102 (by decide) h102
  have v104 : ¬ (x.1.toNat : Int) = 104 := hv 104 (by decide) h104
  have v108 : ¬ (x.1.toNat : Int) = 108 := hv 108 (by decide) h108
  have v110 : ¬ (x.1.toNat : Int) = 110 := hv 110 (by decide) h110
  rw [Ms.opP_x, if_neg h66, if_neg h74, if_neg h80, Ms.inn_at]
  have eK : Ms.opKP ((x.1.toNat : Int) - 96) (Ms.allI x.2) (Ms.badI x.2) = ({ Ms.zR with kind := (x.1.toNat : Int) - 96 }, Ms.allI x.2, true) := by
    unfold Ms.opKP
    rw [if_neg (by omega), if_neg (by omega), if_neg (by omega), if_neg (by omega), if_neg (by omega), if_neg (by omega)]
  rw [eK]
  unfold Ms.withNum
  dsimp only
  have hle := Ms.wI_len (x :: r)
  have et : Ms.takeI (x :: r) false x.1 = (x.2, r, false) := by
    show (if false = false ∧ x.1 = x.1 then (x.2, r, false) else ([], x :: r, true)) = _
    rw [if_pos ⟨rfl, rfl⟩]
  have c1 := fun g => miInner g (x :: r) false x.1 hl
  rw [et] at c1
  dsimp only at c1
  rw [Bool.or_false] at c1
  have hw2 := Ms.inner_w (x :: r) false x.1
  rw [et] at hw2
  dsimp only at hw2
  clear et eK hv
  obtain ⟨l, hx⟩ : ∃ l : List Ms.It, l = x :: r := ⟨_, rfl⟩
  have f1 : ¬ (l.length : Int) = 0 := by rw [hx]; simp; omega
  have f0 : (l.getD 0 default).1 = x.1 := by rw [hx, List.getD_cons_zero]
  have f7 := (l.getD 0 default).1.toNat_lt
  have f8 : (l.getD (nat_lit 0) default).1.toNat < 256 := f7
  rw [← f0] at v66 v74 v80 v96 v99 v102 v104 v108 v110
  rw [← f0, ← hx] at c1
  rw [← f0]
  rw [← hx] at hle hl hw2 ⊢
  generalize Ms.allI x.2 = x0 at c1 hw2 ⊢
  generalize Ms.badI x.2 = b0 at c1 ⊢
  clear hx
  have c4 := fun g g2 => miEnds g g2 r x0 false true (by omega)
  dsimp only [Ms.cReq]
  refine CallsC.of Tryz.call49 Tryz.func49 rfl Tryz.ntmps49 rfl fun w0 G0 S0 hs ho => ?_
  refine run ?_
  and_intros <;> intros <;> rfl
theorem miRequest (g g2 : Nat) (num : Int) (l : List Ms.It) (bad : Bool) (hl : Ms.wI l ≤ 100000000) : CallsC Tryz.prog 49 [Is (pAt g 0), Is (pAt g2 0)] [IX g l bad, ownP g2 48 (Ms.zReq num 0)] (fun _ => TTup []) (fun _ => [IX g (Ms.opP l bad).2.1 (Ms.opP l bad).2.2, ownP g2 48 (Ms.cReq (Ms.withNum (Ms.opP l bad).1 num))]) := by
  cases l with
  | nil => exact miReqBad g g2 num [] bad hl (.inl rfl)
  | cons x r =>
    cases bad with
    | true => exact miReqBad g g2 num (x :: r) true hl (.inr rfl)
    | false =>
      by_cases h66 : x.1 = 66
      · exact miReq66 g g2 num x r hl h66
      by_cases h74 : x.1 = 74
      · exact miReq74 g g2 num x r hl h74
      by_cases h80 : x.1 = 80
      · exact miReq80 g g2 num x r hl h80
      by_cases h96 : x.1 = 96
      · exact miReq96 g g2 num x r hl h96
      by_cases h99 : x.1 = 99
      · exact miReq99 g g2 num x r hl h99
      by_cases h102 : x.1 = 102
      · exact miReq102 g g2 num x r hl h102
      by_cases h104 : x.1 = 104
      · exact miReq104 g g2 num x r hl h104
      by_cases h108 : x.1 = 108
      · exact miReq108 g g2 num x r hl h108
      by_cases h110 : x.1 = 110
      · exact miReq110 g g2 num x r hl h110
      exact miReqX g g2 num x r hl h66 h74 h80 h96 h99 h102 h104 h108 h110
end Go.Proofs.YtgaahjmgneallaaGreat
set_option linter.unusedVariables false
namespace Go.Ms
open Go.Vk
open Go.Fi (Fil)
theorem smc {α : Type} (f : α → Nat) (a : α) (l : List α) : sm f (a :: l) = f a + sm f l := by simp [sm]
theorem fromInt_ok (b : List UInt8) : okK (Ber.fromIntB b).1 := by
  unfold Ber.fromIntB okK
  split
  · dsimp only; omega
  · rename_i h
    have h1 := Ber.be_rb (b.drop (Int.toNat 1)) _ (Ber.s8_bd (b.getD 0 0))
    have h2 := Ber.rb_mono (show (b.drop (Int.toNat 1)).length ≤ 7 by simp; omega)
    rw [Ber.rb7] at h2
    dsimp only
    omega
theorem numI_ok (l : List It) (bad : Bool) (t : UInt8) : okK (numI l bad t).1 := fromInt_ok _
theorem take_b (l : List It) (bad : Bool) (t : UInt8) : (takeI l bad t).1.length + wI (takeI l bad t).2.1 ≤ wI l := by have := takeI_w l bad t; omega
theorem rep_wt {α : Type} {w : α → Nat} {step : List It → Bool → α × List It × Bool} {c d : Nat} (hs : ∀ l, w (step l false).1 + c * wI (step l false).2.1 ≤ c * wI l + (if (step l false).2.2 = true then d else 0)) : ∀ (n : Nat) (l : List It) (bad : Bool), sm w (rep step n l bad).1 + c * wI (rep step n l bad).2.1 ≤ c * wI l + d
  | 0, l, bad => by show 0 + c * wI l ≤ _; omega
  | n + 1, l, bad => by
    unfold rep
    by_cases hc : l ≠ [] ∧ bad = false
    · obtain ⟨hc1, rfl⟩ := hc
      rw [if_pos ⟨hc1, rfl⟩]
      have h := hs l
      dsimp only
      rw [smc]
      by_cases hb : (step l false).2.2 = true
      · rw [if_pos hb] at h
        rw [hb, rep_bad]
        show _ + 0 + _ ≤ _
        dsimp only
        omega
      · rw [if_neg hb] at h
        have ih := rep_wt hs n (step l false).2.1 (step l false).2.2
        omega
    · rw [if_neg hc]
      show 0 + c * wI l ≤ _; omega
theorem rep_all {α : Type} {P : α → Prop} {step : List It → Bool → α × List It × Bool} (hs : ∀ l b, P (step l b).1) : ∀ (n : Nat) (l : List It) (bad : Bool), ∀ a ∈ (rep step n l bad).1, P a
  | 0, l, bad => fun a h => by cases h
  | n + 1, l, bad => by
    unfold rep
    split
    · intro a h
      rcases List.mem_cons.1 h with rfl | h
      · exact hs _ _
      · exact rep_all hs n _ _ a h
    · intro a h; cases h
theorem inn_step {α : Type} {w : α → Nat} {m : Bool} {t : UInt8} {k : List It → Bool → α × List It × Bool} {c d : Nat} (hk : ∀ x b, w (k x b).1 ≤ c * wI x + d) (hd : d ≤ 2 * c) (l : List It) : w (innM m t k l false).1 + c * wI (innM m t k l false).2.1 ≤ c * wI l + (if (innM m t k l false).2.2 = true then d else 0) := by
  unfold innM
  cases hi : isI l false t with
  | true =>
    obtain ⟨_, x, r, rfl, _, e⟩ := takeI_is hi
    rw [e]
    dsimp only
    have h1 := hk (allI x.2) (xbM m (x.2, r, false))
    have h2 := Nat.mul_le_mul_left c (allI_w x.2)
    rw [wI_cons, Nat.mul_add, Nat.mul_add]
    omega
  | false =>
    rw [takeI_no hi]
    dsimp only
    have h1 := hk (allI []) (xbM m ([], l, true))
    have h2 : wI (allI ([] : List UInt8)) = 0 := rfl
    rw [h2, Nat.mul_zero] at h1
    have e : endI (pbM m (([] : List UInt8), l, true)) (k (allI []) (xbM m ([], l, true))).2.2 (k (allI []) (xbM m ([], l, true))).2.1 = true := by
      cases m <;> simp [endI, pbM]
    rw [if_pos e]
    omega
theorem inn_wt {α : Type} {w : α → Nat} {m : Bool} {t : UInt8} {k : List It → Bool → α × List It × Bool} {c d : Nat} (hk : ∀ x b, w (k x b).1 ≤ c * wI x + d) (l : List It) (bad : Bool) : w (innM m t k l bad).1 ≤ c * wI l + d := by
  unfold innM
  dsimp only
  have h1 := hk (allI (takeI l bad t).1) (xbM m (takeI l bad t))
  have h2 := Nat.mul_le_mul_left c (inner_w l bad t)
  omega
theorem text_step (l : List It) : wV (textI l false).1 + 5 * wI (textI l false).2.1 ≤ 5 * wI l + (if (textI l false).2.2 = true then 10 else 0) := by
  unfold textI
  cases hi : isI l false 4 with
  | true =>
    obtain ⟨_, x, r, rfl, _, e⟩ := takeI_is hi
    rw [e, wI_cons]
    unfold wV
    dsimp only
    omega
  | false =>
    rw [takeI_no hi]
    unfold wV
    dsimp only
    rw [if_pos rfl]
    simp only [List.length_nil]; omega
theorem texts_wt (m : Bool) (t : UInt8) (l : List It) (bad : Bool) : sm wV (textsM m t l bad).1 ≤ 5 * wI l + 10 := inn_wt (w := sm wV) (fun x b => by
  have := rep_wt text_step (x.length + 1) x b
  show sm wV (rep textI (x.length + 1) x b).1 ≤ _
  omega) l bad
def wP (v : List UInt8 × List (List UInt8)) : Nat := wAt v.1 v.2
theorem attK_wt (m : Bool) (x : List It) (b : Bool) : wP (attK m x b).1 ≤ 25 * wI x + 50 := by
  unfold attK wP wAt wVs
  dsimp only
  have h1 := take_b x b 4
  have h2 := texts_wt m 49 (textI x b).2.1 (textI x b).2.2
  have e : textI x b = takeI x b 4 := rfl
  rw [e] at h2 ⊢
  omega
theorem att_wt (m : Bool) (l : List It) (bad : Bool) : wP (attM m l bad).1 ≤ 25 * wI l + 50 := inn_wt (w := wP) (attK_wt m) l bad
theorem attr_step (m : Bool) (l : List It) : wA (attrM m l false).1 + 25 * wI (attrM m l false).2.1 ≤ 25 * wI l + (if (attrM m l false).2.2 = true then 50 else 0) := inn_step (w := wP) (attK_wt m) (by omega) l
theorem attrs_wt (m : Bool) (l : List It) (bad : Bool) : sm wA (attrsM m l bad).1 ≤ 25 * wI l + 50 := inn_wt (w := sm wA) (fun x b => by
  have := rep_wt (attr_step m) (x.length + 1) x b
  show sm wA (rep (attrM m) (x.length + 1) x b).1 ≤ _
  omega) l bad
theorem kindM_w (m : Bool) (l : List It) (bad : Bool) : wI (kindM m l bad).2.1 ≤ wI l := by cases m <;> exact take1_w _ _ _
theorem kindM_ok (m : Bool) (l : List It) (bad : Bool) : okK (kindM m l bad).1 := by cases m <;> exact numI_ok _ _ _
theorem modK_wt (m : Bool) (x : List It) (b : Bool) : wM (modK m x b).1 ≤ 45 * wI x + 90 := by
  unfold modK
  have h1 := kindM_w m x b
  have h2 := att_wt m (kindM m x b).2.1 (kindM m x b).2.2
  unfold wP at h2
  unfold wM
  dsimp only
  omega
theorem mod_step (m : Bool) (l : List It) : wM (modM m l false).1 + 45 * wI (modM m l false).2.1 ≤ 45 * wI l + (if (modM m l false).2.2 = true then 90 else 0) := inn_step (w := wM) (modK_wt m) (by omega) l
theorem mods_wt (m : Bool) (l : List It) (bad : Bool) : sm wM (modsM m l bad).1 ≤ 45 * wI l + 90 := inn_wt (w := sm wM) (fun x b => by
  have := rep_wt (mod_step m) (x.length + 1) x b
  show sm wM (rep (modM m) (x.length + 1) x b).1 ≤ _
  omega) l bad
theorem mods_ok (m : Bool) (l : List It) (bad : Bool) : ∀ a ∈ (modsM m l bad).1, okK a.kind := rep_all (P := fun a : Mod => okK a.kind) (fun l b => kindM_ok m _ _) _ _ _
/-! ### filters -/
theorem subsW_app (a b : List (List UInt8)) : Fi.subsW (a ++ b) = Fi.subsW a + Fi.subsW b := by
  induction a with
  | nil => simp [Fi.subsW]
  | cons x r ih => rw [List.cons_append, Fi.subsW, Fi.subsW, ih]; omega
theorem mid_sw : ∀ l : List It, Fi.subsW (midI l).1 + wI (midI l).2 ≤ wI l
  | [] => by simp [midI, Fi.subsW]
  | x :: r => by
    have h := mid_sw r
    unfold midI
    split
    · rw [wI_cons]; dsimp only; rw [Fi.subsW]; omega
    · show 0 + wI (x :: r) ≤ _; omega
theorem may_sw (l : List It) (bad : Bool) (t : UInt8) : (mayI l bad t).1.length + wI (mayI l bad t).2.1 ≤ wI l := by
  unfold mayI
  split
  · exact take_b l bad t
  · show 0 + wI l ≤ _; omega
theorem subsK_wt (x : List It) (b : Bool) : Fi.subsW (subsK x b).1 ≤ 1 * wI x + 2 := by
  have h1 := may_sw x b 128
  have h2 : Fi.subsW (midB (mayI x b 128).2.2 (mayI x b 128).2.1).1 + wI (midB (mayI x b 128).2.2 (mayI x b 128).2.1).2 ≤ wI (mayI x b 128).2.1 := by
    unfold midB
    split
    · show 0 + wI (mayI x b 128).2.1 ≤ _; omega
    · exact mid_sw _
  have h3 := may_sw (midB (mayI x b 128).2.2 (mayI x b 128).2.1).2 (mayI x b 128).2.2 130
  rw [subsK_def]
  dsimp only
  rw [Fi.subsW, subsW_app, Fi.subsW, Fi.subsW]
  omega
theorem subs_wt (m : Bool) (l : List It) (bad : Bool) : Fi.subsW (subsM m l bad).1 ≤ 1 * wI l + 2 := inn_wt (w := Fi.subsW) subsK_wt l bad
theorem wt_m (k : Int) (t v : List UInt8) (s : List (List UInt8)) (ks : List Fil) : Fi.wt (.mk k t v s ks) = 5 + t.length + v.length + Fi.subsW s + Fi.wtL ks := by rw [Fi.wt]
theorem wtL_sm : ∀ l : List Fil, Fi.wtL l = sm Fi.wt l
  | [] => by rw [Fi.wtL]; rfl
  | f :: r => by rw [Fi.wtL, smc, wtL_sm r]
theorem filt_step : ∀ (n : Nat) (l : List It), Fi.wt (filtP n l false).1 + 5 * wI (filtP n l false).2.1 ≤ 5 * wI l + (if (filtP n l false).2.2 = true then 5 else 0)
  | 0, l => by
    show Fi.wt Fi.zeroF + 5 * wI l ≤ _ + 5
    have : Fi.wt Fi.zeroF = 5 := by decide
    omega
  | n + 1, [] => by
    show Fi.wt Fi.zeroF + 5 * wI [] ≤ _ + 5
    have : Fi.wt Fi.zeroF = 5 := by decide
    omega
  | n + 1, x :: r => by
    have ih := filt_step n
    have e : filtP (n + 1) (x :: r) false = if x.1 = 135 then (.mk 7 x.2 [] [] [], r, false) else filtT (filtP n) x r := by
      conv => lhs; unfold filtP
      rw [if_neg (by simp)]
    rw [e, wI_cons]
    refine Nat.le_trans ?_ (Nat.le_add_right _ _)
    have z0 : Fi.subsW [] = 0 := rfl
    have z1 : Fi.wtL [] = 0 := by rw [Fi.wtL]
    have z2 : ([] : List UInt8).length = 0 := rfl
    have hx := allI_w x.2
    split
    · dsimp only
      rw [wt_m, z0, z1, z2]
      omega
    unfold filtT
    rw [inn_at, inn_at, inn_at]
    generalize (if x.1 = 168 then (163 : UInt8) else x.1) = tg
    dsimp only
    split
    · dsimp only
      rw [wt_m, z0, z1, z2]
      omega
    split
    · have h := rep_wt ih ((allI x.2).length + 1) (allI x.2) (badI x.2)
      have h2 : sm Fi.wt (repA (filtP n) (allI x.2) (badI x.2)).1 ≤ 5 * wI (allI x.2) + 5 := by
        show sm Fi.wt (rep (filtP n) ((allI x.2).length + 1) (allI x.2) (badI x.2)).1 ≤ _
        omega
      dsimp only
      rw [wt_m, z0, wtL_sm, z2]
      omega
    split
    · unfold leafK
      dsimp only
      have h1 := take_b (allI x.2) (badI x.2) 4
      have e4 : textI (allI x.2) (badI x.2) = takeI (allI x.2) (badI x.2) 4 := rfl
      have h2 := subs_wt true (textI (allI x.2) (badI x.2)).2.1 (textI (allI x.2) (badI x.2)).2.2
      rw [e4] at h2 ⊢
      rw [wt_m, z1, z2]
      omega
    split
    · unfold pairK
      dsimp only
      have h1 := take_b (allI x.2) (badI x.2) 4
      have e4 : ∀ l b, textI l b = takeI l b 4 := fun _ _ => rfl
      rw [e4, e4]
      have h2 := take_b (takeI (allI x.2) (badI x.2) 4).2.1 (takeI (allI x.2) (badI x.2) 4).2.2 4
      rw [wt_m, z0, z1]
      omega
    · dsimp only
      rw [wt_m, z0, z1, z2]
      omega
theorem filt_wt (n : Nat) (l : List It) (bad : Bool) : Fi.wt (filtP n l bad).1 ≤ 5 * wI l + 5 := by
  cases bad with
  | true =>
    have e : (filtP n l true).1 = Fi.zeroF := by
      cases n with
      | zero => rfl
      | succ n => cases l with
        | nil => rfl
        | cons x r => rfl
    have : Fi.wt Fi.zeroF = 5 := by decide
    rw [e]; omega
  | false =>
    have h := filt_step n l
    split at h <;> omega
mutual
theorem wF_wt : ∀ f : Fil, wF f ≤ 22 * Fi.wt f
  | .mk k t v s ks => by
    have h1 := wFs_wtL ks
    have h2 : ∀ l : List (List UInt8), sm wV l ≤ 10 * Fi.subsW l := fun l => by
      induction l with
      | nil => simp [sm, Fi.subsW]
      | cons x r ih => rw [smc, Fi.subsW]; unfold wV at *; omega
    have h3 := h2 s
    rw [wt_m]
    unfold wF wVs
    omega
theorem wFs_wtL : ∀ l : List Fil, wFs l ≤ 22 * Fi.wtL l
  | [] => by unfold wFs; omega
  | f :: r => by
    have h1 := wF_wt f
    have h2 := wFs_wtL r
    rw [Fi.wtL]
    unfold wFs
    omega
end
/-! ### requests -/
theorem opKP_okr (k : Int) (hk : okK k) (l : List It) (bad : Bool) (h : wI l ≤ 70000) : Okr (opKP k l bad).1 := by
  have hd : ∀ (l : List It) (b : Bool) (t : UInt8), wI l ≤ 70000 → (takeI l b t).1.length ≤ 2000000 := fun l b t h => by
    have := take_b l b t
    omega
  have e4 : ∀ l b, textI l b = takeI l b 4 := fun _ _ => rfl
  have hw : ∀ (l : List It) (b : Bool) (t : UInt8), wI (takeI l b t).2.1 ≤ wI l := take1_w
  have h1 := hw l bad 4
  unfold opKP
  split
  · unfold bindP
    dsimp only
    have n1 := numI_w l bad 2
    have n2 := hw (numI l bad 2).2.1 (decide ((numI l bad 2).1 ≠ 3) || (numI l bad 2).2.2) 4
    rw [e4]
    constructor <;> (try dsimp only [zR]) <;> first | exact okK0 | (unfold okK; omega) | exact Nat.zero_le _ | exact hd _ _ _ (by omega) | (intro m hm; cases hm) | decide
  split
  · unfold srchP
    dsimp only
    rw [e4]
    have hdd := hd l bad 4 h
    generalize takeI l bad 4 = d at h1 hdd ⊢
    have n1 := numI_w d.2.1 d.2.2 10
    have k1 := numI_ok d.2.1 d.2.2 10
    generalize numI d.2.1 d.2.2 10 = s at n1 k1 ⊢
    have n2 := numI_w s.2.1 s.2.2 10
    generalize numI s.2.1 s.2.2 10 = a at n2 ⊢
    have n3 := numI_w a.2.1 a.2.2 2
    have k3 := numI_ok a.2.1 a.2.2 2
    generalize numI a.2.1 a.2.2 2 = m at n3 k3 ⊢
    have n4 := numI_w m.2.1 m.2.2 2
    generalize numI m.2.1 m.2.2 2 = t at n4 ⊢
    have n5 := truthI_w t.2.1 t.2.2
    generalize truthI t.2.1 t.2.2 = b at n5 ⊢
    have n6 := (filtP_w 16 b.2.1 b.2.2).1
    have n7 := filt_wt 16 b.2.1 b.2.2
    have n8 := wF_wt (filtP 16 b.2.1 b.2.2).1
    generalize filtP 16 b.2.1 b.2.2 = f at n6 n7 n8 ⊢
    have n9 := texts_wt true 48 f.2.1 f.2.2
    generalize textsM true 48 f.2.1 f.2.2 = w at n9 ⊢
    constructor <;> (try dsimp only [zR]) <;> first | exact okK0 | exact k1 | exact k3 | (unfold okK; omega) | exact Nat.zero_le _ | exact hdd | omega | (intro m hm; cases hm) | decide
  split
  · unfold modfM
    dsimp only
    rw [e4]
    have m1 := mods_wt true (takeI l bad 4).2.1 (takeI l bad 4).2.2
    have m2 := mods_ok true (takeI l bad 4).2.1 (takeI l bad 4).2.2
    constructor <;> (try dsimp only [zR]) <;> first | exact okK0 | (unfold okK; omega) | exact Nat.zero_le _ | exact hd _ _ _ (by omega) | exact m2 | omega | (intro m hm; cases hm) | decide
  split
  · unfold addM
    dsimp only
    rw [e4]
    have m1 := attrs_wt true (takeI l bad 4).2.1 (takeI l bad 4).2.2
    constructor <;> (try dsimp only [zR]) <;> first | exact okK0 | (unfold okK; omega) | exact Nat.zero_le _ | exact hd _ _ _ (by omega) | omega | (intro m hm; cases hm) | decide
  split
  · unfold renI
    dsimp only
    rw [e4, e4]
    have h2 := hw (takeI l bad 4).2.1 (takeI l bad 4).2.2 4
    have h3 := truthI_w (takeI (takeI l bad 4).2.1 (takeI l bad 4).2.2 4).2.1 (takeI (takeI l bad 4).2.1 (takeI l bad 4).2.2 4).2.2
    have h4 := may_sw (truthI (takeI (takeI l bad 4).2.1 (takeI l bad 4).2.2 4).2.1 (takeI (takeI l bad 4).2.1 (takeI l bad 4).2.2 4).2.2).2.1 (truthI (takeI (takeI l bad 4).2.1 (takeI l bad 4).2.2 4).2.1 (takeI (takeI l bad 4).2.1 (takeI l bad 4).2.2 4).2.2).2.2 128
    constructor <;> (try dsimp only [zR]) <;> first | exact okK0 | (unfold okK; omega) | exact Nat.zero_le _ | exact hd _ _ _ (by omega) | omega | (intro m hm; cases hm) | decide
  split
  · unfold cmpM
    dsimp only
    rw [e4]
    have p : ∀ x b, (pairK x b).1.1.length + (pairK x b).1.2.length ≤ 1 * wI x + 0 := fun x b => by
      unfold pairK
      dsimp only
      rw [e4, e4]
      have g1 := take_b x b 4
      have g2 := take_b (takeI x b 4).2.1 (takeI x b 4).2.2 4
      omega
    have p2 := inn_wt (w := fun v : List UInt8 × List UInt8 => v.1.length + v.2.length) (m := true) (t := 48) p (takeI l bad 4).2.1 (takeI l bad 4).2.2
    (try dsimp only at p2)
    constructor <;> (try dsimp only [zR]) <;> first | exact okK0 | (unfold okK; omega) | exact Nat.zero_le _ | exact hd _ _ _ (by omega) | omega | (intro m hm; cases hm) | decide
  · constructor <;> (try dsimp only [zR]) <;> first | exact okK0 | (unfold okK; omega) | exact Nat.zero_le _ | exact hk | (intro m hm; cases hm) | decide
theorem opP_w (l : List It) (bad : Bool) : wI (opP l bad).2.1 ≤ wI l := by
  by_cases h : l = [] ∨ bad = true
  · rw [opP_bad' h]; exact Nat.le_refl _
  cases l with
  | nil => exact absurd (.inl rfl) h
  | cons x r =>
    have hb : bad = false := by cases bad with
      | true => exact absurd (.inr rfl) h
      | false => rfl
    subst hb
    rw [opP_x]
    have h0 : wI r ≤ wI (x :: r) := by rw [wI_cons]; omega
    split
    · exact h0
    split
    · exact h0
    split
    · exact numI_w _ _ _
    · exact innM_w _ _ _ _ _
theorem opP_okr (l : List It) (bad : Bool) (h : wI l ≤ 70000) : Okr (opP l bad).1 := by
  by_cases hc : l = [] ∨ bad = true
  · rw [opP_bad' hc]; exact zR_ok
  cases l with
  | nil => exact absurd (.inl rfl) hc
  | cons x r =>
    have hb : bad = false := by cases bad with
      | true => exact absurd (.inr rfl) hc
      | false => rfl
    subst hb
    rw [opP_x]
    have hx := wI_cons x r
    split
    · constructor <;> (try dsimp only [zR]) <;> first | exact okK0 | (unfold okK; omega) | exact Nat.zero_le _ | (intro m hm; cases hm) | decide
    split
    · constructor <;> (try dsimp only [zR]) <;> first | exact okK0 | (unfold okK; omega) | exact Nat.zero_le _ | omega | (intro m hm; cases hm) | decide
    split
    · have k1 := numI_ok (x :: r) false 80
      constructor <;> (try dsimp only [zR]) <;> first | exact okK0 | exact k1 | (unfold okK; omega) | exact Nat.zero_le _ | (intro m hm; cases hm) | decide
    · have h1 := inner_w (x :: r) false x.1
      have hl := x.1.toNat_lt
      exact opKP_okr _ (by unfold okK; omega) _ _ (by omega)
theorem okr_num {r : Req} (h : Okr r) {n : Int} (hn : okK n) : Okr (withNum r n) := ⟨hn, h.kind, h.scope, h.limit, h.which, h.dn, h.pass, h.rdn, h.up, h.avaT, h.avaV, h.fil, h.want, h.mods, h.attrs, h.kinds, h.filw⟩
theorem reqP_okr {b : List UInt8} (h : b.length ≤ 70000) : Okr (reqP b).1 := by
  have h1 := allI_w b
  have h2 := numI_w (allI b) (badI b) 2
  exact okr_num (opP_okr _ _ (by omega)) (numI_ok _ _ _)
theorem decP_okr {b : List UInt8} (h : b.length ≤ 70000) : Okr (decP b).1 := by
  have hn := Ber.nextB_len b
  unfold decP
  dsimp only
  split
  · exact zR_ok
  split
  · exact zR_ok
  · exact reqP_okr (by omega)
end Go.Ms
set_option linter.unusedVariables false
namespace Go.Ms
open Go.Vk
open Go.Fi (Fil)
theorem tot_flat : ∀ ls : List (List UInt8), Ber.tot ls = ls.flatten.length := fun ls => by simp [Ber.tot, List.length_flatten]
theorem tagB_flat (t : UInt8) (ls : List (List UInt8)) : Ber.tagB t ls = Ber.tagB t [ls.flatten] := by
  simp [Ber.tagB, tot_flat]
def itB (x : It) : List UInt8 := Ber.tagB x.1 [x.2]
def bodyB (l : List It) : List UInt8 := (l.map itB).flatten
theorem tagB_it (t : UInt8) (l : List It) : Ber.tagB t (l.map itB) = itB (t, bodyB l) := tagB_flat t _
theorem it_len (x : It) : x.2.length + 2 ≤ (itB x).length := by
  unfold itB
  rw [Ber.tagB_one]
  have h : 1 ≤ (Ber.lenB (x.2.length : Int)).length := by unfold Ber.lenB; dsimp only; split <;> simp
  simp only [List.length_cons, List.length_append]
  omega
theorem bodyB_cons (x : It) (l : List It) : bodyB (x :: l) = itB x ++ bodyB l := rfl
theorem body_mem {l : List It} {x : It} (h : x ∈ l) : x.2.length + 2 ≤ (bodyB l).length := by
  induction l with
  | nil => cases h
  | cons y r ih =>
    rw [bodyB_cons, List.length_append]
    rcases List.mem_cons.1 h with rfl | h
    · have := it_len x; omega
    · have := ih h; omega
theorem allE_enc : ∀ (l : List It) (k : Nat) (acc : List It), (∀ x ∈ l, Ber.TagOk x.1) → (bodyB l).length < 65536 → (bodyB l).length ≤ k → Ber.allE k (bodyB l) acc = (acc ++ l, 0)
  | [], k, acc, _, _, _ => by rw [Ber.allE_end rfl, List.append_nil]
  | x :: r, k, acc, ht, hl, hk => by
    have h1 := it_len x
    rw [bodyB_cons, List.length_append] at hl hk
    obtain ⟨k, rfl⟩ : ∃ j, k = j + 1 := ⟨k - 1, by omega⟩
    have h2 := Ber.back x.1 (ht x (.head _)) x.2 (bodyB r) (by omega)
    have h3 : Ber.nextB (bodyB (x :: r)) = ⟨x.1, x.2, bodyB r, 0⟩ := h2
    rw [Ber.allE_go (by rw [bodyB_cons, List.length_append]; omega) (by rw [h3]), h3]
    dsimp only
    rw [allE_enc r k _ (fun y hy => ht y (.tail _ hy)) (by omega) (by omega), List.append_assoc]
    rfl
theorem body_all {l : List It} (ht : ∀ x ∈ l, Ber.TagOk x.1) (h : (bodyB l).length < 65536) : allI (bodyB l) = l ∧ badI (bodyB l) = false := by
  have e := allE_enc l (bodyB l).length [] ht h (Nat.le_refl _)
  unfold allI badI
  rw [e]
  exact ⟨rfl, rfl⟩
theorem take_it (t : UInt8) (b : List UInt8) (r : List It) : takeI ((t, b) :: r) false t = (b, r, false) := by
  obtain ⟨_, x, r', h1, _, e⟩ := takeI_is (l := (t, b) :: r) (bad := false) (t := t) (by simp [isI])
  cases h1
  exact e
theorem inn_back {α : Type} {t : UInt8} {its : List It} {k : List It → Bool → α × List It × Bool} {v : α} (r : List It) (ht : ∀ x ∈ its, Ber.TagOk x.1) (h : (bodyB its).length < 65536) (hk : k its false = (v, [], false)) : innM true t k ((t, bodyB its) :: r) false = (v, r, false) := by
  obtain ⟨e1, e2⟩ := body_all ht h
  unfold innM
  rw [take_it]
  dsimp only [xbM, pbM]
  rw [e1, e2, Bool.or_false, hk]
  rfl
theorem repA_back {α : Type} {step : List It → Bool → α × List It × Bool} (hs : Eats step) (f : α → It) : ∀ xs : List α, (∀ x ∈ xs, ∀ r, step (f x :: r) false = (x, r, false)) → repA step (xs.map f) false = (xs, [], false)
  | [], _ => repA_nil false
  | x :: r, h => by
    rw [List.map_cons, repA_go hs (by simp), h x (.head _)]
    dsimp only
    rw [repA_back hs f r (fun y hy => h y (.tail _ hy))]
def textIt (s : List UInt8) : It := (4, s)
def textsIt (t : UInt8) (l : List (List UInt8)) : It := (t, bodyB (l.map textIt))
def attIt (t : List UInt8) (l : List (List UInt8)) : It := (48, bodyB [textIt t, textsIt 49 l])
def attrIt (a : En.Attr) : It := attIt a.typ a.vals
def attrsIt (l : List En.Attr) : It := (48, bodyB (l.map attrIt))
def modIt (m : Mod) : It := (48, bodyB [(10, Ber.intB m.kind), attIt m.typ m.vals])
def modsIt (l : List Mod) : It := (48, bodyB (l.map modIt))
theorem textB_it (s : List UInt8) : textB s = itB (textIt s) := rfl
theorem map_it {α : Type} {f : α → List UInt8} {g : α → It} (h : ∀ a, f a = itB (g a)) (l : List α) : l.map f = (l.map g).map itB := by
  rw [List.map_map]; exact List.map_congr_left (fun a _ => h a)
theorem textsB_it (t : UInt8) (l : List (List UInt8)) : textsB t l = itB (textsIt t l) := by
  unfold textsB; rw [map_it textB_it, tagB_it]; rfl
theorem attB_it (t : List UInt8) (l : List (List UInt8)) : attB t l = itB (attIt t l) := by
  unfold attB; rw [textsB_it, textB_it]; exact tagB_it 48 [textIt t, textsIt 49 l]
theorem attrB_it (a : En.Attr) : attrB a = itB (attrIt a) := attB_it _ _
theorem attrsB_it (l : List En.Attr) : attrsB l = itB (attrsIt l) := by
  unfold attrsB; rw [map_it attrB_it, tagB_it]; rfl
theorem modB_it (m : Mod) : modB m = itB (modIt m) := by
  unfold modB; rw [attB_it]; exact tagB_it 48 [(10, Ber.intB m.kind), attIt m.typ m.vals]
theorem modsB_it (l : List Mod) : modsB l = itB (modsIt l) := by
  unfold modsB; rw [map_it modB_it, tagB_it]; rfl
theorem text_back (s : List UInt8) (r : List It) : textI (textIt s :: r) false = (s, r, false) := take_it 4 s r
theorem texts_back {t : UInt8} {l : List (List UInt8)} (r : List It) (h : (textsIt t l).2.length < 65536) : textsM true t (textsIt t l :: r) false = (l, r, false) := by
  unfold textsM textsIt
  refine inn_back r (fun x hx => ?_) h (repA_back textI_eats _ l (fun s _ r => text_back s r))
  obtain ⟨s, _, rfl⟩ := List.mem_map.1 hx
  show Ber.TagOk 4
  decide
theorem att_back {t : List UInt8} {l : List (List UInt8)} (r : List It) (h : (attIt t l).2.length < 65536) : attM true (attIt t l :: r) false = ((t, l), r, false) := by
  have h2 : (bodyB [textIt t, textsIt 49 l]).length < 65536 := h
  have h1 := body_mem (l := [textIt t, textsIt 49 l]) (x := textsIt 49 l) (by simp)
  unfold attM attIt
  refine inn_back r ?_ h ?_
  · intro x hx
    rcases List.mem_cons.1 hx with rfl | hx
    · show Ber.TagOk 4; decide
    · rw [List.mem_singleton.1 hx]; show Ber.TagOk 49; decide
  · unfold attK
    rw [text_back]
    dsimp only
    rw [texts_back [] (by omega)]
theorem num_back {t : UInt8} {n : Int} (h : okK n) (r : List It) : numI ((t, Ber.intB n) :: r) false t = (n, r, false) := by
  unfold numI
  rw [take_it, Ber.fromInt_int n h]
  rfl
theorem attr_back {a : En.Attr} (r : List It) (h : (attrIt a).2.length < 65536) : attrM true (attrIt a :: r) false = (a, r, false) := by
  unfold attrM attrIt
  rw [att_back r h]
theorem attrs_back {l : List En.Attr} (r : List It) (h : (attrsIt l).2.length < 65536) : attrsM true (attrsIt l :: r) false = (l, r, false) := by
  have h2 : (bodyB (l.map attrIt)).length < 65536 := h
  unfold attrsM attrsIt
  refine inn_back r (fun x hx => ?_) h (repA_back (attrM_eats true) _ l (fun a ha r => attr_back r ?_))
  · obtain ⟨a, _, rfl⟩ := List.mem_map.1 hx
    show Ber.TagOk 48
    decide
  · have := body_mem (List.mem_map_of_mem (f := attrIt) ha)
    omega
theorem mod_back {m : Mod} (hk : okK m.kind) (r : List It) (h : (modIt m).2.length < 65536) : modM true (modIt m :: r) false = (m, r, false) := by
  have h2 : (bodyB [(10, Ber.intB m.kind), attIt m.typ m.vals]).length < 65536 := h
  have h1 := body_mem (l := [(10, Ber.intB m.kind), attIt m.typ m.vals]) (x := attIt m.typ m.vals) (by simp)
  unfold modM modIt
  refine inn_back r ?_ h ?_
  · intro x hx
    rcases List.mem_cons.1 hx with rfl | hx
    · show Ber.TagOk 10; decide
    · rw [List.mem_singleton.1 hx]; show Ber.TagOk 48; decide
  · unfold modK kindM
    rw [num_back hk]
    dsimp only
    rw [att_back [] (by omega)]
theorem mods_back {l : List Mod} (hk : ∀ m ∈ l, okK m.kind) (r : List It) (h : (modsIt l).2.length < 65536) : modsM true (modsIt l :: r) false = (l, r, false) := by
  have h2 : (bodyB (l.map modIt)).length < 65536 := h
  unfold modsM modsIt
  refine inn_back r (fun x hx => ?_) h (repA_back (modM_eats true) _ l (fun a ha r => mod_back (hk a ha) r ?_))
  · obtain ⟨a, _, rfl⟩ := List.mem_map.1 hx
    show Ber.TagOk 48
    decide
  · have := body_mem (List.mem_map_of_mem (f := modIt) ha)
    omega
end Go.Ms
set_option linter.unusedVariables false
namespace Go.Ms
open Go.Vk
open Go.Fi (Fil)
def endIt (t : UInt8) (s : List UInt8) : List It := if s = [] then [] else [(t, s)]
def midIt (s : List UInt8) : It := (129, s)
def pcsIt (a : List UInt8) (m : List (List UInt8)) (z : List UInt8) : List It := endIt 128 a ++ (m.map midIt ++ endIt 130 z)
theorem pcs_mid (a z : List UInt8) (m : List (List UInt8)) : ∀ j, j ≤ m.length → pcs (a :: (m ++ [z])) (j + 1) = (endIt 128 a ++ (m.take j).map midIt).map itB
  | 0, _ => by
    unfold pcs pcs pieceL endIt
    simp only [List.getD_cons_zero, List.length_cons, List.length_append, List.length_nil]
    rw [if_neg (by omega)]
    split
    · simp
    · simp [itB]
  | j + 1, h => by
    rw [pcs, pcs_mid a z m j (by omega)]
    have e : (a :: (m ++ [z])).getD (j + 1) default = m[j] := by
      rw [List.getD_cons_succ, List.getD_eq_getElem?_getD, List.getElem?_append_left (by omega), List.getElem?_eq_getElem (by omega)]
      rfl
    rw [e, List.take_succ_eq_append_getElem (by omega)]
    unfold pieceL
    rw [if_pos (by simp only [List.length_cons, List.length_append, List.length_nil]; omega)]
    simp only [List.map_append, List.append_assoc]
    rfl
theorem pcs_all (a z : List UInt8) (m : List (List UInt8)) : pcs (a :: (m ++ [z])) (a :: (m ++ [z])).length = (pcsIt a m z).map itB := by
  have e : (a :: (m ++ [z])).length = m.length + 1 + 1 := by simp
  rw [e, pcs, pcs_mid a z m m.length (Nat.le_refl _), List.take_length]
  have e2 : (a :: (m ++ [z])).getD (m.length + 1) default = z := by
    rw [List.getD_cons_succ, List.getD_eq_getElem?_getD, List.getElem?_append_right (Nat.le_refl _)]
    simp
  rw [e2, e]
  unfold pieceL pcsIt endIt
  rw [if_neg (show ¬ (0 < m.length + 1 ∧ m.length + 1 + 1 < m.length + 1 + 1) by omega)]
  simp only [List.map_append, List.append_assoc]
  congr 2
  by_cases hz : z = []
  · rw [if_pos hz, if_pos hz]; rfl
  · rw [if_neg hz, if_neg hz, if_neg (by omega)]; rfl
theorem take_no {t : UInt8} {l : List It} (h : ∀ x r, l = x :: r → x.1 ≠ t) : isI l false t = false := by
  cases l with
  | nil => rfl
  | cons x r => simp [isI, h x r rfl]
theorem may_end {t : UInt8} (s : List UInt8) (r : List It) (h : ∀ x q, r = x :: q → x.1 ≠ t) : mayI (endIt t s ++ r) false t = (s, r, false) := by
  unfold endIt mayI
  by_cases hs : s = []
  · rw [if_pos hs, List.nil_append, take_no h, if_neg (by simp), hs]
  · rw [if_neg hs, List.cons_append, List.nil_append, if_pos (by simp [isI]), take_it]
theorem mid_back : ∀ (m : List (List UInt8)) (r : List It), (∀ x q, r = x :: q → x.1 ≠ 129) → midI (m.map midIt ++ r) = (m, r)
  | [], r, h => by
    cases r with
    | nil => rfl
    | cons x q =>
      rw [List.map_nil, List.nil_append]
      unfold midI
      rw [if_neg (h x q rfl)]
  | s :: m, r, h => by
    rw [List.map_cons, List.cons_append]
    unfold midI
    rw [if_pos (show (midIt s).1 = 129 from rfl), mid_back m r h]
    rfl
def subsIt (a : List UInt8) (m : List (List UInt8)) (z : List UInt8) : It := (48, bodyB (pcsIt a m z))
theorem end_tag {t : UInt8} {s : List UInt8} {x : It} (h : x ∈ endIt t s) : x.1 = t := by
  unfold endIt at h
  split at h
  · cases h
  · rw [List.mem_singleton.1 h]
theorem subs_back {a z : List UInt8} {m : List (List UInt8)} (r : List It) (h : (subsIt a m z).2.length < 65536) : subsM true (subsIt a m z :: r) false = (a :: (m ++ [z]), r, false) := by
  have hz : ∀ x q, endIt 130 z = x :: q → x.1 = 130 := fun x q e => end_tag (s := z) (by rw [e]; exact .head _)
  unfold subsM subsIt
  refine inn_back r (fun x hx => ?_) h ?_
  · unfold pcsIt at hx
    rcases List.mem_append.1 hx with hx | hx
    · rw [end_tag hx]; decide
    rcases List.mem_append.1 hx with hx | hx
    · obtain ⟨s, _, rfl⟩ := List.mem_map.1 hx
      show Ber.TagOk 129
      decide
    · rw [end_tag hx]; decide
  · unfold subsK pcsIt
    rw [may_end a _ (fun x q e => ?_)]
    · dsimp only
      rw [if_neg Bool.false_ne_true, mid_back m _ (fun x q e => by rw [hz x q e]; decide)]
      dsimp only
      have e := may_end (t := 130) z [] (fun x q e => by cases e)
      rw [List.append_nil] at e
      rw [e]
    · cases m with
      | nil => rw [List.map_nil, List.nil_append] at e; rw [hz x q e]; decide
      | cons s m => rw [List.map_cons, List.cons_append] at e; injection e with e1; rw [← e1]; show (129 : UInt8) ≠ 128; decide
theorem pieces_it (a z : List UInt8) (m : List (List UInt8)) : piecesB (a :: (m ++ [z])) = itB (subsIt a m z) := by
  unfold piecesB
  rw [pcs_all, tagB_it]
  rfl
theorem two_parts {l : List (List UInt8)} (h : 2 ≤ l.length) : ∃ a m z, l = a :: (m ++ [z]) := by
  cases l with
  | nil => simp at h
  | cons a r =>
    have hr : r ≠ [] := by intro e; rw [e] at h; simp at h
    exact ⟨a, r.dropLast, r.getLast hr, by rw [List.dropLast_concat_getLast]⟩
/-! ### filters -/
mutual
def filIt : Fil → It
  | .mk k t v s ks => if k = 7 then (135, t) else if k = 4 then (tagF 4, bodyB [textIt t, (48, (pcs s s.length).flatten)]) else if k = 3 ∨ k = 5 ∨ k = 6 then (tagF k, bodyB [textIt t, textIt v]) else (tagF k, bodyB (filsIt ks))
def filsIt : List Fil → List It
  | [] => []
  | f :: r => filIt f :: filsIt r
end
theorem filsIt_map : ∀ l : List Fil, filsIt l = l.map filIt
  | [] => by unfold filsIt; rfl
  | f :: r => by unfold filsIt; rw [filsIt_map r]; rfl
mutual
theorem filB_it : ∀ f : Fil, filB f = itB (filIt f)
  | .mk k t v s ks => by
    unfold filB filIt
    split
    · rfl
    split
    · rw [show piecesB s = itB (48, (pcs s s.length).flatten) from tagB_flat 48 _]
      exact tagB_it _ [textIt t, (48, (pcs s s.length).flatten)]
    split
    · exact tagB_it _ [textIt t, textIt v]
    · rw [filsB_it ks, tagB_it]
theorem filsB_it : ∀ l : List Fil, filsB l = (filsIt l).map itB
  | [] => by unfold filsB filsIt; rfl
  | f :: r => by unfold filsB filsIt; rw [filB_it f, filsB_it r]; rfl
end
theorem oneL_mem : ∀ {l : List Fil} {d : Nat}, Fi.oneL l d = true → ∀ f ∈ l, Fi.oneF f d = true
  | [], d, _, f, h => by cases h
  | g :: r, d, h, f, hf => by
    unfold Fi.oneL at h
    rw [Bool.and_eq_true] at h
    rcases List.mem_cons.1 hf with rfl | hf
    · exact h.1
    · exact oneL_mem h.2 f hf
theorem tagF_ok (k : Int) (h : k = 0 ∨ k = 1 ∨ k = 2 ∨ k = 3 ∨ k = 4 ∨ k = 5 ∨ k = 6) : Ber.TagOk (tagF k) ∧ tagF k ≠ 135 ∧ tagF k ≠ 168 ∧ ¬ (tagF k).toNat < 160 ∧ kindT (tagF k) = k := by
  rcases h with rfl | rfl | rfl | rfl | rfl | rfl | rfl <;> decide +kernel
theorem pair_back {t v : List UInt8} {tg : UInt8} (r : List It) (h : (bodyB [textIt t, textIt v]).length < 65536) : innM true tg pairK ((tg, bodyB [textIt t, textIt v]) :: r) false = ((t, v), r, false) := by
  refine inn_back r (fun x hx => ?_) h ?_
  · rcases List.mem_cons.1 hx with rfl | hx
    · show Ber.TagOk 4; decide
    · rw [List.mem_singleton.1 hx]; show Ber.TagOk 4; decide
  · unfold pairK
    rw [text_back]
    dsimp only
    rw [text_back]
theorem fil_tag : ∀ f : Fil, (∃ d, Fi.oneF f d = true) → Ber.TagOk (filIt f).1
  | .mk k t v s ks, ⟨d, h⟩ => by
    unfold Fi.oneF at h
    rw [Bool.and_eq_true] at h
    have h := h.2
    unfold filIt
    by_cases h7 : k = 7
    · rw [if_pos h7]; show Ber.TagOk 135; decide
    rw [if_neg h7]
    by_cases h4 : k = 4
    · rw [if_pos h4]; exact (tagF_ok 4 (by simp)).1
    rw [if_neg h4]
    by_cases h3 : k = 3 ∨ k = 5 ∨ k = 6
    · rw [if_pos h3]; exact (tagF_ok k (by omega)).1
    rw [if_neg h3]
    by_cases h0 : k = 0 ∨ k = 1 ∨ k = 2
    · exact (tagF_ok k (by omega)).1
    · rw [if_neg h0, if_neg h3, if_neg h4, if_neg h7] at h; cases h
theorem fil_back : ∀ (n : Nat) (f : Fil) (d : Nat), n + d = 17 → Fi.oneF f d = true → (filIt f).2.length < 65536 → ∀ r, filtP n (filIt f :: r) false = (f, r, false)
  | 0, .mk k t v s ks, d, hd, h, _, r => by
    unfold Fi.oneF at h
    rw [Bool.and_eq_true, decide_eq_true_eq] at h
    omega
  | n + 1, .mk k t v s ks, d, hd, h, hl, r => by
    have IH := fil_back n
    have ht := fil_tag _ ⟨d, h⟩
    unfold Fi.oneF at h
    rw [Bool.and_eq_true] at h
    have h := h.2
    unfold filIt at hl ht ⊢
    unfold filtP
    rw [if_neg Bool.false_ne_true]
    by_cases h7 : k = 7
    · subst h7
      rw [if_pos rfl] at hl ht ⊢
      rw [if_neg (by omega), if_neg (by omega), if_neg (by omega), if_pos rfl] at h
      simp only [Bool.and_eq_true, decide_eq_true_eq] at h
      obtain ⟨⟨⟨h1, h2⟩, h3⟩, _⟩ := h
      rw [if_pos rfl, h1, h2, h3]
    rw [if_neg h7] at hl ht ⊢
    by_cases h4 : k = 4
    · subst h4
      rw [if_pos rfl] at hl ht ⊢
      rw [if_neg (by omega), if_neg (by omega), if_pos rfl] at h
      simp only [Bool.and_eq_true, decide_eq_true_eq] at h
      obtain ⟨⟨⟨h1, h2⟩, _⟩, h3⟩ := h
      obtain ⟨_, t2, t3, t4, t5⟩ := tagF_ok 4 (by simp)
      rw [if_neg t2]
      unfold filtT
      dsimp only
      rw [if_neg t3, if_neg t4, t5, if_neg (by omega), if_pos rfl]
      unfold Fi.subsB at h3
      simp only [Bool.and_eq_true, decide_eq_true_eq] at h3
      obtain ⟨a, m, z, rfl⟩ := two_parts h3.1.1.1.1
      have e : ((48 : UInt8), (pcs (a :: (m ++ [z])) (a :: (m ++ [z])).length).flatten) = subsIt a m z := by rw [pcs_all]; rfl
      rw [e] at hl ht ⊢
      dsimp only at hl
      have hb := body_mem (l := [textIt t, subsIt a m z]) (x := subsIt a m z) (by simp)
      rw [inn_back (v := (t, a :: (m ++ [z]))) r ?_ hl ?_, h1, h2]
      · intro x hx
        rcases List.mem_cons.1 hx with rfl | hx
        · show Ber.TagOk 4; decide
        · rw [List.mem_singleton.1 hx]; show Ber.TagOk 48; decide
      · unfold leafK
        rw [text_back]
        dsimp only
        rw [subs_back [] (by omega)]
    rw [if_neg h4] at hl ht ⊢
    by_cases h3 : k = 3 ∨ k = 5 ∨ k = 6
    · rw [if_pos h3] at hl ht ⊢
      rw [if_neg (by omega), if_pos h3] at h
      simp only [Bool.and_eq_true, decide_eq_true_eq] at h
      obtain ⟨⟨⟨h1, h2⟩, _⟩, _⟩ := h
      obtain ⟨_, t2, t3, t4, t5⟩ := tagF_ok k (by omega)
      rw [if_neg t2]
      unfold filtT
      dsimp only
      rw [if_neg t3, if_neg t4, t5, if_neg (by omega), if_neg h4, if_pos (by omega), pair_back r hl, h1, h2]
    rw [if_neg h3] at hl ht ⊢
    by_cases h0 : k = 0 ∨ k = 1 ∨ k = 2
    · rw [if_pos h0] at h
      simp only [Bool.and_eq_true, decide_eq_true_eq] at h
      obtain ⟨⟨⟨⟨⟨h1, h2⟩, h2'⟩, _⟩, _⟩, h5⟩ := h
      obtain ⟨_, t2, t3, t4, t5⟩ := tagF_ok k (by omega)
      rw [if_neg t2]
      unfold filtT
      dsimp only
      rw [if_neg t3, if_neg t4, t5, if_pos (by omega)]
      rw [filsIt_map] at hl ht ⊢
      dsimp only at hl
      rw [inn_back (v := ks) r ?_ hl ?_, h1, h2, h2']
      · intro x hx
        obtain ⟨g, hg, rfl⟩ := List.mem_map.1 hx
        exact fil_tag g ⟨_, oneL_mem h5 g hg⟩
      · refine repA_back (filtP_eats n) _ ks (fun g hg q => IH g (d + 1) (by omega) (oneL_mem h5 g hg) ?_ q)
        have := body_mem (List.mem_map_of_mem (f := filIt) hg)
        omega
    · rw [if_neg h0, if_neg h3, if_neg h4, if_neg h7] at h; cases h
end Go.Ms
