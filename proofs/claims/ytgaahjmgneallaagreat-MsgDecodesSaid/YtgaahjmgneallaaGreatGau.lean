/-
  The contracts of the program's request and Decode.
  What is read out of bytes is bounded by them. Nothing here speaks of a program.
  The contracts of the document's readers: read, peek, body, num, flag, inner, end.
  The contracts of the document's readers: texts, attr.
-/
import Derived.Test.YtgaahjmgneallaaGreatGat
import Derived.Test.YtgaahjmgneallaaGreatGaq
set_option linter.unusedSimpArgs false
set_option linter.unusedVariables false
set_option linter.unusedVariables false
namespace Go.Ms
open Go.Vk
theorem opP_bad' {l : List It} {bad : Bool} (h : l = [] ∨ bad = true) : opP l bad = (zR, l, true) := by
  cases l with
  | nil => rfl
  | cons x r =>
    have : bad = true := by simpa using h
    rw [this]; rfl
theorem opP_x (x : It) (r : List It) : opP (x :: r) false = if x.1 = 66 then ({ zR with kind := 2 }, r, decide (0 < x.2.length)) else if x.1 = 74 then ({ zR with kind := 10, dn := x.2 }, r, false) else if x.1 = 80 then ({ zR with kind := 16, which := (numI (x :: r) false 80).1 }, (numI (x :: r) false 80).2) else innM true x.1 (opKP ((x.1.toNat : Int) - 96)) (x :: r) false := by
  show (if (false : Bool) = true then (zR, x :: r, true) else _) = _
  rw [if_neg (by simp)]
  rfl
theorem op99_w (l : List It) (bad : Bool) : wI (srchP l bad).2.1 ≤ wI l := by
  unfold srchP
  dsimp only
  refine Nat.le_trans (innM_w _ _ _ _ _) ?_
  refine Nat.le_trans (filtP_w _ _ _).1 ?_
  refine Nat.le_trans (truthI_w _ _) ?_
  refine Nat.le_trans (numI_w _ _ _) ?_
  refine Nat.le_trans (numI_w _ _ _) ?_
  refine Nat.le_trans (numI_w _ _ _) ?_
  refine Nat.le_trans (numI_w _ _ _) ?_
  exact textI_w _ _
theorem op102_w (l : List It) (bad : Bool) : wI (modfM true l bad).2.1 ≤ wI l := Nat.le_trans (innM_w _ _ _ _ _) (textI_w _ _)
theorem op104_w (l : List It) (bad : Bool) : wI (addM true l bad).2.1 ≤ wI l := Nat.le_trans (innM_w _ _ _ _ _) (textI_w _ _)
theorem mayI_w (l : List It) (bad : Bool) (t : UInt8) : wI (mayI l bad t).2.1 ≤ wI l := by
  unfold mayI
  split
  · exact take1_w _ _ _
  · exact Nat.le_refl _
theorem op108_w (l : List It) (bad : Bool) : wI (renI l bad).2.1 ≤ wI l := by
  unfold renI
  dsimp only
  refine Nat.le_trans (mayI_w _ _ _) ?_
  refine Nat.le_trans (truthI_w _ _) ?_
  exact Nat.le_trans (textI_w _ _) (textI_w _ _)
theorem op110_w (l : List It) (bad : Bool) : wI (cmpM true l bad).2.1 ≤ wI l := Nat.le_trans (innM_w _ _ _ _ _) (textI_w _ _)
end Go.Ms
set_option maxRecDepth 8000
set_option linter.unusedVariables false
namespace Go.Proofs.YtgaahjmgneallaaGreat
open Go.Vk
attribute [local irreducible] HT HX RegS RegA RegM OpP OpC AltT
attribute [local irreducible] Ber.tagB Ber.lenB Ber.intB Ber.allE Ber.fromIntB Ber.nextB Ms.midB Ms.kindT Ms.textI Ms.numI Ms.truthI Ms.filtP Ms.textsM Ms.modsM Ms.attrsM Ms.opP Ms.bindP Ms.srchP Ms.modfM Ms.addM Ms.renI Ms.cmpM
set_option maxHeartbeats 4000000 in
theorem miReqBad (g g2 : Nat) (num : Int) (l : List Ms.It) (bad : Bool) (hl : Ms.wI l ≤ 100000000) (hc : l = [] ∨ bad = true) : CallsC Tryz.prog 49 [Is (pAt g 0), Is (pAt g2 0)] [IX g l bad, ownP g2 48 (Ms.zReq num 0)] (fun _ => TTup []) (fun _ => [IX g (Ms.opP l bad).2.1 (Ms.opP l bad).2.2, ownP g2 48 (Ms.cReq (Ms.withNum (Ms.opP l bad).1 num))]) := by
  rw [Ms.opP_bad' hc]
  unfold Ms.withNum
  dsimp only [Ms.cReq]
  have hle := Ms.wI_len l
  cases bad with
  | true =>
    clear hc
    refine CallsC.of Tryz.call49 Tryz.func49 rfl Tryz.ntmps49 rfl fun w0 G0 S0 hs ho => ?_
    refine run ?_
    and_intros <;> intros <;> rfl
  | false =>
    have h0 : l.length = 0 := by
      rcases hc with h | h
      · rw [h]; rfl
      · cases h
    have h0' : (l.length : Int) = 0 := by omega
    clear hc
    refine CallsC.of Tryz.call49 Tryz.func49 rfl Tryz.ntmps49 rfl fun w0 G0 S0 hs ho => ?_
    refine run ?_
    and_intros <;> intros <;> rfl
set_option maxHeartbeats 4000000 in
theorem miReq66 (g g2 : Nat) (num : Int) (x : Ms.It) (r : List Ms.It) (hl : Ms.wI (x :: r) ≤ 100000000) (ht : x.1 = 66) : CallsC Tryz.prog 49 [Is (pAt g 0), Is (pAt g2 0)] [IX g (x :: r) false, ownP g2 48 (Ms.zReq num 0)] (fun _ => TTup []) (fun _ => [IX g (Ms.opP (x :: r) false).2.1 (Ms.opP (x :: r) false).2.2, ownP g2 48 (Ms.cReq (Ms.withNum (Ms.opP (x :: r) false).1 num))]) := by
  rw [Ms.opP_x, if_pos ht]
  unfold Ms.withNum
  dsimp only
  have hle := Ms.wI_len (x :: r)
  have et : Ms.takeI (x :: r) false x.1 = (x.2, r, false) := by
    show (if false = false ∧ x.1 = x.1 then (x.2, r, false) else ([], x :: r, true)) = _
    rw [if_pos ⟨rfl, rfl⟩]
  rw [ht] at et
  obtain ⟨l, hx⟩ : ∃ l : List Ms.It, l = x :: r := ⟨_, rfl⟩
  have f1 : ¬ (l.length : Int) = 0 := by rw [hx]; simp; omega
  have f2 : ((l.getD 0 default).1.toNat : Int) = 66 := by rw [hx, List.getD_cons_zero, ht]; rfl
  have f3 : ((l.getD (nat_lit 0) default).1.toNat : Int) = 66 := f2
  have c1 : ∀ g, CallsC Tryz.prog 51 [Is (pAt g 0), okI .u8 ((l.getD 0 default).1.toNat : Int)] [IX g l false] (fun _ => TBytes x.2) (fun _ => [IX g r false]) := fun g => by
    have h := miTake g (x :: r) false 66 (by omega)
    rw [et] at h
    rw [f2, hx]; exact h
  have hx2 := Ms.wI_cons x r
  rw [← hx] at hle hl hx2 ⊢
  clear hx et
  dsimp only [Ms.cReq]
  refine CallsC.of Tryz.call49 Tryz.func49 rfl Tryz.ntmps49 rfl fun w0 G0 S0 hs ho => ?_
  refine run ?_
  and_intros <;> intros <;> rfl
set_option maxHeartbeats 4000000 in
theorem miReq74 (g g2 : Nat) (num : Int) (x : Ms.It) (r : List Ms.It) (hl : Ms.wI (x :: r) ≤ 100000000) (ht : x.1 = 74) : CallsC Tryz.prog 49 [Is (pAt g 0), Is (pAt g2 0)] [IX g (x :: r) false, ownP g2 48 (Ms.zReq num 0)] (fun _ => TTup []) (fun _ => [IX g (Ms.opP (x :: r) false).2.1 (Ms.opP (x :: r) false).2.2, ownP g2 48 (Ms.cReq (Ms.withNum (Ms.opP (x :: r) false).1 num))]) := by
  rw [Ms.opP_x, if_neg (by rw [ht]; decide), if_pos ht]
  unfold Ms.withNum
  dsimp only
  have hle := Ms.wI_len (x :: r)
  have et : Ms.takeI (x :: r) false x.1 = (x.2, r, false) := by
    show (if false = false ∧ x.1 = x.1 then (x.2, r, false) else ([], x :: r, true)) = _
    rw [if_pos ⟨rfl, rfl⟩]
  rw [ht] at et
  obtain ⟨l, hx⟩ : ∃ l : List Ms.It, l = x :: r := ⟨_, rfl⟩
  have f1 : ¬ (l.length : Int) = 0 := by rw [hx]; simp; omega
  have f2 : ((l.getD 0 default).1.toNat : Int) = 74 := by rw [hx, List.getD_cons_zero, ht]; rfl
  have f3 : ((l.getD (nat_lit 0) default).1.toNat : Int) = 74 := f2
  have c1 : ∀ g, CallsC Tryz.prog 51 [Is (pAt g 0), okI .u8 ((l.getD 0 default).1.toNat : Int)] [IX g l false] (fun _ => TBytes x.2) (fun _ => [IX g r false]) := fun g => by
    have h := miTake g (x :: r) false 74 (by omega)
    rw [et] at h
    rw [f2, hx]; exact h
  rw [← hx] at hle hl ⊢
  clear hx et
  dsimp only [Ms.cReq]
  refine CallsC.of Tryz.call49 Tryz.func49 rfl Tryz.ntmps49 rfl fun w0 G0 S0 hs ho => ?_
  refine run ?_
  and_intros <;> intros <;> rfl
set_option maxHeartbeats 4000000 in
theorem miReq80 (g g2 : Nat) (num : Int) (x : Ms.It) (r : List Ms.It) (hl : Ms.wI (x :: r) ≤ 100000000) (ht : x.1 = 80) : CallsC Tryz.prog 49 [Is (pAt g 0), Is (pAt g2 0)] [IX g (x :: r) false, ownP g2 48 (Ms.zReq num 0)] (fun _ => TTup []) (fun _ => [IX g (Ms.opP (x :: r) false).2.1 (Ms.opP (x :: r) false).2.2, ownP g2 48 (Ms.cReq (Ms.withNum (Ms.opP (x :: r) false).1 num))]) := by
  rw [Ms.opP_x, if_neg (by rw [ht]; decide), if_neg (by rw [ht]; decide), if_pos ht]
  unfold Ms.withNum
  dsimp only
  have hle := Ms.wI_len (x :: r)
  have et : Ms.takeI (x :: r) false x.1 = (x.2, r, false) := by
    show (if false = false ∧ x.1 = x.1 then (x.2, r, false) else ([], x :: r, true)) = _
    rw [if_pos ⟨rfl, rfl⟩]
  rw [ht] at et
  obtain ⟨l, hx⟩ : ∃ l : List Ms.It, l = x :: r := ⟨_, rfl⟩
  have f1 : ¬ (l.length : Int) = 0 := by rw [hx]; simp; omega
  have f2 : ((l.getD 0 default).1.toNat : Int) = 80 := by rw [hx, List.getD_cons_zero, ht]; rfl
  have f3 : ((l.getD (nat_lit 0) default).1.toNat : Int) = 80 := f2
  have c1 : ∀ g, CallsC Tryz.prog 39 [Is (pAt g 0), okI .u8 ((l.getD 0 default).1.toNat : Int)] [IX g l false] (fun _ => okI .i64 (Ms.numI (x :: r) false 80).1) (fun _ => [IX g (Ms.numI (x :: r) false 80).2.1 (Ms.numI (x :: r) false 80).2.2]) := fun g => by
    have h := miNum g (x :: r) false 80 (by omega)
    rw [f2, hx]; exact h
  generalize Ms.numI (x :: r) false 80 = n at c1 ⊢
  rw [← hx] at hle hl ⊢
  clear hx et
  dsimp only [Ms.cReq]
  refine CallsC.of Tryz.call49 Tryz.func49 rfl Tryz.ntmps49 rfl fun w0 G0 S0 hs ho => ?_
  refine run ?_
  and_intros <;> intros <;> rfl
set_option maxHeartbeats 4000000 in
theorem miReq96 (g g2 : Nat) (num : Int) (x : Ms.It) (r : List Ms.It) (hl : Ms.wI (x :: r) ≤ 100000000) (ht : x.1 = 96) : CallsC Tryz.prog 49 [Is (pAt g 0), Is (pAt g2 0)] [IX g (x :: r) false, ownP g2 48 (Ms.zReq num 0)] (fun _ => TTup []) (fun _ => [IX g (Ms.opP (x :: r) false).2.1 (Ms.opP (x :: r) false).2.2, ownP g2 48 (Ms.cReq (Ms.withNum (Ms.opP (x :: r) false).1 num))]) := by
  rw [Ms.opP_x, if_neg (by rw [ht]; decide), if_neg (by rw [ht]; decide), if_neg (by rw [ht]; decide)]
  have eK : Ms.opKP ((x.1.toNat : Int) - 96) = Ms.bindP := by
    funext l b
    rw [ht]
    unfold Ms.opKP
    simp
  rw [eK, Ms.inn_at]
  unfold Ms.withNum
  dsimp only
  have hle := Ms.wI_len (x :: r)
  have et : Ms.takeI (x :: r) false x.1 = (x.2, r, false) := by
    show (if false = false ∧ x.1 = x.1 then (x.2, r, false) else ([], x :: r, true)) = _
    rw [if_pos ⟨rfl, rfl⟩]
  have c1 := fun g => miInner g (x :: r) false x.1 hl
  rw [et] at c1
  dsimp only at c1
  rw [Bool.or_false] at c1
  have hw2 := Ms.inner_w (x :: r) false x.1
  rw [et] at hw2
  dsimp only at hw2
  clear et eK
  obtain ⟨l, hx⟩ : ∃ l : List Ms.It, l = x :: r := ⟨_, rfl⟩
  have f1 : ¬ (l.length : Int) = 0 := by rw [hx]; simp; omega
  have f2 : ((l.getD 0 default).1.toNat : Int) = 96 := by rw [hx, List.getD_cons_zero, ht]; rfl
  have f3 : ((l.getD (nat_lit 0) default).1.toNat : Int) = 96 := f2
  have f0 : (l.getD 0 default).1 = x.1 := by rw [hx, List.getD_cons_zero]
  rw [← f0, ← hx] at c1
  rw [← hx] at hle hl hw2 ⊢
  generalize Ms.allI x.2 = x0 at c1 hw2 ⊢
  generalize Ms.badI x.2 = b0 at c1 ⊢
  clear hx
  have w3 := Ms.numI_w x0 b0 2
  have l0 := Ms.wI_len x0
  unfold Ms.bindP
  dsimp only
  have c2 : ∀ g, CallsC Tryz.prog 39 [Is (pAt g 0), okI .u8 2] [IX g x0 b0] (fun _ => okI .i64 (Ms.numI x0 b0 2).1) (fun _ => [IX g (Ms.numI x0 b0 2).2.1 (Ms.numI x0 b0 2).2.2]) := fun g => miNum g x0 b0 2 (by omega)
  generalize Ms.numI x0 b0 2 = n at c2 w3 ⊢
  have c3 := fun g => miText g n.2.1 (decide (n.1 ≠ 3) || n.2.2) (by omega)
  have w4 := Ms.textI_w n.2.1 (decide (n.1 ≠ 3) || n.2.2)
  generalize Ms.textI n.2.1 (decide (n.1 ≠ 3) || n.2.2) = d at c3 w4 ⊢
  have l1 := Ms.wI_len d.2.1
  have c5 : ∀ g, CallsC Tryz.prog 51 [Is (pAt g 0), okI .u8 128] [IX g d.2.1 d.2.2] (fun _ => TBytes (Ms.takeI d.2.1 d.2.2 128).1) (fun _ => [IX g (Ms.takeI d.2.1 d.2.2 128).2.1 (Ms.takeI d.2.1 d.2.2 128).2.2]) := fun g => miTake g d.2.1 d.2.2 128 (by omega)
  have w5 := Ms.take1_w d.2.1 d.2.2 128
  generalize Ms.takeI d.2.1 d.2.2 128 = p at c5 w5 ⊢
  have c4 := fun g g2 => miEnds g g2 r p.2.1 false p.2.2 (by omega)
  dsimp only [Ms.cReq]
  refine CallsC.of Tryz.call49 Tryz.func49 rfl Tryz.ntmps49 rfl fun w0 G0 S0 hs ho => ?_
  refine run ?_
  and_intros <;> intros <;> rfl
set_option maxHeartbeats 4000000 in
theorem miReq99 (g g2 : Nat) (num : Int) (x : Ms.It) (r : List Ms.It) (hl : Ms.wI (x :: r) ≤ 100000000) (ht : x.1 = 99) : CallsC Tryz.prog 49 [Is (pAt g 0), Is (pAt g2 0)] [IX g (x :: r) false, ownP g2 48 (Ms.zReq num 0)] (fun _ => TTup []) (fun _ => [IX g (Ms.opP (x :: r) false).2.1 (Ms.opP (x :: r) false).2.2, ownP g2 48 (Ms.cReq (Ms.withNum (Ms.opP (x :: r) false).1 num))]) := by
  rw [Ms.opP_x, if_neg (by rw [ht]; decide), if_neg (by rw [ht]; decide), if_neg (by rw [ht]; decide)]
  have eK : Ms.opKP ((x.1.toNat : Int) - 96) = Ms.srchP := by
    funext l b
    rw [ht]
    unfold Ms.opKP
    simp
  rw [eK, Ms.inn_at]
  unfold Ms.withNum
  dsimp only
  have hle := Ms.wI_len (x :: r)
  have et : Ms.takeI (x :: r) false x.1 = (x.2, r, false) := by
    show (if false = false ∧ x.1 = x.1 then (x.2, r, false) else ([], x :: r, true)) = _
    rw [if_pos ⟨rfl, rfl⟩]
  have c1 := fun g => miInner g (x :: r) false x.1 hl
  rw [et] at c1
  dsimp only at c1
  rw [Bool.or_false] at c1
  have hw2 := Ms.inner_w (x :: r) false x.1
  rw [et] at hw2
  dsimp only at hw2
  clear et eK
  obtain ⟨l, hx⟩ : ∃ l : List Ms.It, l = x :: r := ⟨_, rfl⟩
  have f1 : ¬ (l.length : Int) = 0 := by rw [hx]; simp; omega
  have f2 : ((l.getD 0 default).1.toNat : Int) = 99 := by rw [hx, List.getD_cons_zero, ht]; rfl
  have f3 : ((l.getD (nat_lit 0) default).1.toNat : Int) = 99 := f2
  have f0 : (l.getD 0 default).1 = x.1 := by rw [hx, List.getD_cons_zero]
  rw [← f0, ← hx] at c1
  rw [← hx] at hle hl hw2 ⊢
  generalize Ms.allI x.2 = x0 at c1 hw2 ⊢
  generalize Ms.badI x.2 = b0 at c1 ⊢
  clear hx
  have c2 : ∀ gx, CallsC Tryz.prog 84 [Is (pAt gx 0), Is (pAt g2 0)] [IX gx x0 b0, ownP g2 48 (Ms.zReq num (((l.getD 0 default).1.toNat : Int) - 96))] (fun _ => TTup []) (fun _ => [IX gx (Ms.srchP x0 b0).2.1 (Ms.srchP x0 b0).2.2, ownP g2 48 (Ms.cReq (Ms.withNum (Ms.srchP x0 b0).1 num))]) := by
    rw [show ((l.getD 0 default).1.toNat : Int) - 96 = 3 by omega]
    exact fun gx => miSearch gx g2 num x0 b0 (by omega)
  have w3 : Ms.wI (Ms.srchP x0 b0).2.1 ≤ Ms.wI x0 := Ms.op99_w x0 b0
  generalize Ms.srchP x0 b0 = z at c2 w3 ⊢
  have c4 := fun g g2 => miEnds g g2 r z.2.1 false z.2.2 (by omega)
  unfold Ms.withNum at c2
  dsimp only [Ms.cReq] at c2 ⊢
  refine CallsC.of Tryz.call49 Tryz.func49 rfl Tryz.ntmps49 rfl fun w0 G0 S0 hs ho => ?_
  exact run trivial
set_option maxHeartbeats 4000000 in
theorem miReq102 (g g2 : Nat) (num : Int) (x : Ms.It) (r : List Ms.It) (hl : Ms.wI (x :: r) ≤ 100000000) (ht : x.1 = 102) : CallsC Tryz.prog 49 [Is (pAt g 0), Is (pAt g2 0)] [IX g (x :: r) false, ownP g2 48 (Ms.zReq num 0)] (fun _ => TTup []) (fun _ => [IX g (Ms.opP (x :: r) false).2.1 (Ms.opP (x :: r) false).2.2, ownP g2 48 (Ms.cReq (Ms.withNum (Ms.opP (x :: r) false).1 num))]) := by
  rw [Ms.opP_x, if_neg (by rw [ht]; decide), if_neg (by rw [ht]; decide), if_neg (by rw [ht]; decide)]
  have eK : Ms.opKP ((x.1.toNat : Int) - 96) = Ms.modfM true := by
    funext l b
    rw [ht]
    unfold Ms.opKP
    simp
  rw [eK, Ms.inn_at]
  unfold Ms.withNum
  dsimp only
  have hle := Ms.wI_len (x :: r)
  have et : Ms.takeI (x :: r) false x.1 = (x.2, r, false) := by
    show (if false = false ∧ x.1 = x.1 then (x.2, r, false) else ([], x :: r, true)) = _
    rw [if_pos ⟨rfl, rfl⟩]
  have c1 := fun g => miInner g (x :: r) false x.1 hl
  rw [et] at c1
  dsimp only at c1
  rw [Bool.or_false] at c1
  have hw2 := Ms.inner_w (x :: r) false x.1
  rw [et] at hw2
  dsimp only at hw2
  clear et eK
  obtain ⟨l, hx⟩ : ∃ l : List Ms.It, l = x :: r := ⟨_, rfl⟩
  have f1 : ¬ (l.length : Int) = 0 := by rw [hx]; simp; omega
  have f2 : ((l.getD 0 default).1.toNat : Int) = 102 := by rw [hx, List.getD_cons_zero, ht]; rfl
  have f3 : ((l.getD (nat_lit 0) default).1.toNat : Int) = 102 := f2
  have f0 : (l.getD 0 default).1 = x.1 := by rw [hx, List.getD_cons_zero]
  rw [← f0, ← hx] at c1
  rw [← hx] at hle hl hw2 ⊢
  generalize Ms.allI x.2 = x0 at c1 hw2 ⊢
  generalize Ms.badI x.2 = b0 at c1 ⊢
  clear hx
  have c2 : ∀ gx, CallsC Tryz.prog 85 [Is (pAt gx 0), Is (pAt g2 0)] [IX gx x0 b0, ownP g2 48 (Ms.zReq num (((l.getD 0 default).1.toNat : Int) - 96))] (fun _ => TTup []) (fun _ => [IX gx (Ms.modfM true x0 b0).2.1 (Ms.modfM true x0 b0).2.2, ownP g2 48 (Ms.cReq (Ms.withNum (Ms.modfM true x0 b0).1 num))]) := by
    rw [show ((l.getD 0 default).1.toNat : Int) - 96 = 6 by omega]
    exact fun gx => miOpModify gx g2 num x0 b0 (by omega)
  have w3 : Ms.wI (Ms.modfM true x0 b0).2.1 ≤ Ms.wI x0 := Ms.op102_w x0 b0
  generalize Ms.modfM true x0 b0 = z at c2 w3 ⊢
  have c4 := fun g g2 => miEnds g g2 r z.2.1 false z.2.2 (by omega)
  unfold Ms.withNum at c2
  dsimp only [Ms.cReq] at c2 ⊢
  refine CallsC.of Tryz.call49 Tryz.func49 rfl Tryz.ntmps49 rfl fun w0 G0 S0 hs ho => ?_
  exact run trivial
set_option maxHeartbeats 4000000 in
theorem miReq104 (g g2 : Nat) (num : Int) (x : Ms.It) (r : List Ms.It) (hl : Ms.wI (x :: r) ≤ 100000000) (ht : x.1 = 104) : CallsC Tryz.prog 49 [Is (pAt g 0), Is (pAt g2 0)] [IX g (x :: r) false, ownP g2 48 (Ms.zReq num 0)] (fun _ => TTup []) (fun _ => [IX g (Ms.opP (x :: r) false).2.1 (Ms.opP (x :: r) false).2.2, ownP g2 48 (Ms.cReq (Ms.withNum (Ms.opP (x :: r) false).1 num))]) := by
  rw [Ms.opP_x, if_neg (by rw [ht]; decide), if_neg (by rw [ht]; decide), if_neg (by rw [ht]; decide)]
  have eK : Ms.opKP ((x.1.toNat : Int) - 96) = Ms.addM true := by
    funext l b
    rw [ht]
    unfold Ms.opKP
    simp
  rw [eK, Ms.inn_at]
  unfold Ms.withNum
  dsimp only
  have hle := Ms.wI_len (x :: r)
  have et : Ms.takeI (x :: r) false x.1 = (x.2, r, false) := by
    show (if false = false ∧ x.1 = x.1 then (x.2, r, false) else ([], x :: r, true)) = _
    rw [if_pos ⟨rfl, rfl⟩]
  have c1 := fun g => miInner g (x :: r) false x.1 hl
  rw [et] at c1
  dsimp only at c1
  rw [Bool.or_false] at c1
  have hw2 := Ms.inner_w (x :: r) false x.1
  rw [et] at hw2
  dsimp only at hw2
  clear et eK
  obtain ⟨l, hx⟩ : ∃ l : List Ms.It, l = x :: r := ⟨_, rfl⟩
  have f1 : ¬ (l.length : Int) = 0 := by rw [hx]; simp; omega
  have f2 : ((l.getD 0 default).1.toNat : Int) = 104 := by rw [hx, List.getD_cons_zero, ht]; rfl
  have f3 : ((l.getD (nat_lit 0) default).1.toNat : Int) = 104 := f2
  have f0 : (l.getD 0 default).1 = x.1 := by rw [hx, List.getD_cons_zero]
  rw [← f0, ← hx] at c1
  rw [← hx] at hle hl hw2 ⊢
  generalize Ms.allI x.2 = x0 at c1 hw2 ⊢
  generalize Ms.badI x.2 = b0 at c1 ⊢
  clear hx
  have c2 : ∀ gx, CallsC Tryz.prog 85 [Is (pAt gx 0), Is (pAt g2 0)] [IX gx x0 b0, ownP g2 48 (Ms.zReq num (((l.getD 0 default).1.toNat : Int) - 96))] (fun _ => TTup []) (fun _ => [IX gx (Ms.addM true x0 b0).2.1 (Ms.addM true x0 b0).2.2, ownP g2 48 (Ms.cReq (Ms.withNum (Ms.addM true x0 b0).1 num))]) := by
    rw [show ((l.getD 0 default).1.toNat : Int) - 96 = 8 by omega]
    exact fun gx => miOpAdd gx g2 num x0 b0 (by omega)
  have w3 : Ms.wI (Ms.addM true x0 b0).2.1 ≤ Ms.wI x0 := Ms.op104_w x0 b0
  generalize Ms.addM true x0 b0 = z at c2 w3 ⊢
  have c4 := fun g g2 => miEnds g g2 r z.2.1 false z.2.2 (by omega)
  unfold Ms.withNum at c2
  dsimp only [Ms.cReq] at c2 ⊢
  refine CallsC.of Tryz.call49 Tryz.func49 rfl Tryz.ntmps49 rfl fun w0 G0 S0 hs ho => ?_
  exact run trivial
set_option maxHeartbeats 4000000 in
theorem miReq108 (g g2 : Nat) (num : Int) (x : Ms.It) (r : List Ms.It) (hl : Ms.wI (x :: r) ≤ 100000000) (ht : x.1 = 108) : CallsC Tryz.prog 49 [Is (pAt g 0), Is (pAt g2 0)] [IX g (x :: r) false, ownP g2 48 (Ms.zReq num 0)] (fun _ => TTup []) (fun _ => [IX g (Ms.opP (x :: r) false).2.1 (Ms.opP (x :: r) false).2.2, ownP g2 48 (Ms.cReq (Ms.withNum (Ms.opP (x :: r) false).1 num))]) := by
  rw [Ms.opP_x, if_neg (by rw [ht]; decide), if_neg (by rw [ht]; decide), if_neg (by rw [ht]; decide)]
  have eK : Ms.opKP ((x.1.toNat : Int) - 96) = Ms.renI := by
    funext l b
    rw [ht]
    unfold Ms.opKP
    simp
  rw [eK, Ms.inn_at]
  unfold Ms.withNum
  dsimp only
  have hle := Ms.wI_len (x :: r)
  have et : Ms.takeI (x :: r) false x.1 = (x.2, r, false) := by
    show (if false = false ∧ x.1 = x.1 then (x.2, r, false) else ([], x :: r, true)) = _
    rw [if_pos ⟨rfl, rfl⟩]
  have c1 := fun g => miInner g (x :: r) false x.1 hl
  rw [et] at c1
  dsimp only at c1
  rw [Bool.or_false] at c1
  have hw2 := Ms.inner_w (x :: r) false x.1
  rw [et] at hw2
  dsimp only at hw2
  clear et eK
  obtain ⟨l, hx⟩ : ∃ l : List Ms.It, l = x :: r := ⟨_, rfl⟩
  have f1 : ¬ (l.length : Int) = 0 := by rw [hx]; simp; omega
  have f2 : ((l.getD 0 default).1.toNat : Int) = 108 := by rw [hx, List.getD_cons_zero, ht]; rfl
  have f3 : ((l.getD (nat_lit 0) default).1.toNat : Int) = 108 := f2
  have f0 : (l.getD 0 default).1 = x.1 := by rw [hx, List.getD_cons_zero]
  rw [← f0, ← hx] at c1
  rw [← hx] at hle hl hw2 ⊢
  generalize Ms.allI x.2 = x0 at c1 hw2 ⊢
  generalize Ms.badI x.2 = b0 at c1 ⊢
  clear hx
  have c2 : ∀ gx, CallsC Tryz.prog 85 [Is (pAt gx 0), Is (pAt g2 0)] [IX gx x0 b0, ownP g2 48 (Ms.zReq num (((l.getD 0 default).1.toNat : Int) - 96))] (fun _ => TTup []) (fun _ => [IX gx (Ms.renI x0 b0).2.1 (Ms.renI x0 b0).2.2, ownP g2 48 (Ms.cReq (Ms.withNum (Ms.renI x0 b0).1 num))]) := by
    rw [show ((l.getD 0 default).1.toNat : Int) - 96 = 12 by omega]
    exact fun gx => miOpRename gx g2 num x0 b0 (by omega)
  have w3 : Ms.wI (Ms.renI x0 b0).2.1 ≤ Ms.wI x0 := Ms.op108_w x0 b0
  generalize Ms.renI x0 b0 = z at c2 w3 ⊢
  have c4 := fun g g2 => miEnds g g2 r z.2.1 false z.2.2 (by omega)
  unfold Ms.withNum at c2
  dsimp only [Ms.cReq] at c2 ⊢
  refine CallsC.of Tryz.call49 Tryz.func49 rfl Tryz.ntmps49 rfl fun w0 G0 S0 hs ho => ?_
  exact run trivial
set_option maxHeartbeats 4000000 in
theorem miReq110 (g g2 : Nat) (num : Int) (x : Ms.It) (r : List Ms.It) (hl : Ms.wI (x :: r) ≤ 100000000) (ht : x.1 = 110) : CallsC Tryz.prog 49 [Is (pAt g 0), Is (pAt g2 0)] [IX g (x :: r) false, ownP g2 48 (Ms.zReq num 0)] (fun _ => TTup []) (fun _ => [IX g (Ms.opP (x :: r) false).2.1 (Ms.opP (x :: r) false).2.2, ownP g2 48 (Ms.cReq (Ms.withNum (Ms.opP (x :: r) false).1 num))]) := by
  rw [Ms.opP_x, if_neg (by rw [ht]; decide), if_neg (by rw [ht]; decide), if_neg (by rw [ht]; decide)]
  have eK : Ms.opKP ((x.1.toNat : Int) - 96) = Ms.cmpM true := by
    funext l b
    rw [ht]
    unfold Ms.opKP
    simp
  rw [eK, Ms.inn_at]
  unfold Ms.withNum
  dsimp only
  have hle := Ms.wI_len (x :: r)
  have et : Ms.takeI (x :: r) false x.1 = (x.2, r, false) := by
    show (if false = false ∧ x.1 = x.1 then (x.2, r, false) else ([], x :: r, true)) = _
    rw [if_pos ⟨rfl, rfl⟩]
  have c1 := fun g => miInner g (x :: r) false x.1 hl
  rw [et] at c1
  dsimp only at c1
  rw [Bool.or_false] at c1
  have hw2 := Ms.inner_w (x :: r) false x.1
  rw [et] at hw2
  dsimp only at hw2
  clear et eK
  obtain ⟨l, hx⟩ : ∃ l : List Ms.It, l = x :: r := ⟨_, rfl⟩
  have f1 : ¬ (l.length : Int) = 0 := by rw [hx]; simp; omega
  have f2 : ((l.getD 0 default).1.toNat : Int) = 110 := by rw [hx, List.getD_cons_zero, ht]; rfl
  have f3 : ((l.getD (nat_lit 0) default).1.toNat : Int) = 110 := f2
  have f0 : (l.getD 0 default).1 = x.1 := by rw [hx, List.getD_cons_zero]
  rw [← f0, ← hx] at c1
  rw [← hx] at hle hl hw2 ⊢
  generalize Ms.allI x.2 = x0 at c1 hw2 ⊢
  generalize Ms.badI x.2 = b0 at c1 ⊢
  clear hx
  have c2 : ∀ gx, CallsC Tryz.prog 85 [Is (pAt gx 0), Is (pAt g2 0)] [IX gx x0 b0, ownP g2 48 (Ms.zReq num (((l.getD 0 default).1.toNat : Int) - 96))] (fun _ => TTup []) (fun _ => [IX gx (Ms.cmpM true x0 b0).2.1 (Ms.cmpM true x0 b0).2.2, ownP g2 48 (Ms.cReq (Ms.withNum (Ms.cmpM true x0 b0).1 num))]) := by
    rw [show ((l.getD 0 default).1.toNat : Int) - 96 = 14 by omega]
    exact fun gx => miOpCompare gx g2 num x0 b0 (by omega)
  have w3 : Ms.wI (Ms.cmpM true x0 b0).2.1 ≤ Ms.wI x0 := Ms.op110_w x0 b0
  generalize Ms.cmpM true x0 b0 = z at c2 w3 ⊢
  have c4 := fun g g2 => miEnds g g2 r z.2.1 false z.2.2 (by omega)
  unfold Ms.withNum at c2
  dsimp only [Ms.cReq] at c2 ⊢
  refine CallsC.of Tryz.call49 Tryz.func49 rfl Tryz.ntmps49 rfl fun w0 G0 S0 hs ho => ?_
  exact run trivial
set_option maxHeartbeats 4000000 in
theorem miReqX (g g2 : Nat) (num : Int) (x : Ms.It) (r : List Ms.It) (hl : Ms.wI (x :: r) ≤ 100000000) (h66 : x.1 ≠ 66) (h74 : x.1 ≠ 74) (h80 : x.1 ≠ 80) (h96 : x.1 ≠ 96) (h99 : x.1 ≠ 99) (h102 : x.1 ≠ 102) (h104 : x.1 ≠ 104) (h108 : x.1 ≠ 108) (h110 : x.1 ≠ 110) : CallsC Tryz.prog 49 [Is (pAt g 0), Is (pAt g2 0)] [IX g (x :: r) false, ownP g2 48 (Ms.zReq num 0)] (fun _ => TTup []) (fun _ => [IX g (Ms.opP (x :: r) false).2.1 (Ms.opP (x :: r) false).2.2, ownP g2 48 (Ms.cReq (Ms.withNum (Ms.opP (x :: r) false).1 num))]) := by
  have hv : ∀ n : Nat, n < 256 → x.1 ≠ UInt8.ofNat n → ¬ (x.1.toNat : Int) = (n : Int) := fun n hn h e => h (by
    apply UInt8.toNat_inj.1
    rw [UInt8.toNat_ofNat']
    omega)
  have v66 : ¬ (x.1.toNat : Int) = 66 := hv 66 (by decide) h66
  have v74 : ¬ (x.1.toNat : Int) = 74 := hv 74 (by decide) h74
  have v80 : ¬ (x.1.toNat : Int) = 80 := hv 80 (by decide) h80
  have v96 : ¬ (x.1.toNat : Int) = 96 := hv 96 (by decide) h96
  have v99 : ¬ (x.1.toNat : Int) = 99 := hv 99 (by decide) h99
  have v102 : ¬ (x.1.toNat : Int) = 102 := hv 102 (by decide) h102
  have v104 : ¬ (x.1.toNat : Int) = 104 := hv 104 (by decide) h104
  have v108 : ¬ (x.1.toNat : Int) = 108 := hv 108 (by decide) h108
  have v110 : ¬ (x.1.toNat : Int) = 110 := hv 110 (by decide) h110
  rw [Ms.opP_x, if_neg h66, if_neg h74, if_neg h80, Ms.inn_at]
  have eK : Ms.opKP ((x.1.toNat : Int) - 96) (Ms.allI x.2) (Ms.badI x.2) = ({ Ms.zR with kind := (x.1.toNat : Int) - 96 }, Ms.allI x.2, true) := by
    unfold Ms.opKP
    rw [if_neg (by omega), if_neg (by omega), if_neg (by omega), if_neg (by omega), if_neg (by omega), if_neg (by omega)]
  rw [eK]
  unfold Ms.withNum
  dsimp only
  have hle := Ms.wI_len (x :: r)
  have et : Ms.takeI (x :: r) false x.1 = (x.2, r, false) := by
    show (if false = false ∧ x.1 = x.1 then (x.2, r, false) else ([], x :: r, true)) = _
    rw [if_pos ⟨rfl, rfl⟩]
  have c1 := fun g => miInner g (x :: r) false x.1 hl
  rw [et] at c1
  dsimp only at c1
  rw [Bool.or_false] at c1
  have hw2 := Ms.inner_w (x :: r) false x.1
  rw [et] at hw2
  dsimp only at hw2
  clear et eK hv
  obtain ⟨l, hx⟩ : ∃ l : List Ms.It, l = x :: r := ⟨_, rfl⟩
  have f1 : ¬ (l.length : Int) = 0 := by rw [hx]; simp; omega
  have f0 : (l.getD 0 default).1 = x.1 := by rw [hx, List.getD_cons_zero]
  have f7 := (l.getD 0 default).1.toNat_lt
  have f8 : (l.getD (nat_lit 0) default).1.toNat < 256 := f7
  rw [← f0] at v66 v74 v80 v96 v99 v102 v104 v108 v110
  rw [← f0, ← hx] at c1
  rw [← f0]
  rw [← hx] at hle hl hw2 ⊢
  generalize Ms.allI x.2 = x0 at c1 hw2 ⊢
  generalize Ms.badI x.2 = b0 at c1 ⊢
  clear hx
  have c4 := fun g g2 => miEnds g g2 r x0 false true (by omega)
  dsimp only [Ms.cReq]
  refine CallsC.of Tryz.call49 Tryz.func49 rfl Tryz.ntmps49 rfl fun w0 G0 S0 hs ho => ?_
  refine run ?_
  and_intros <;> intros <;> rfl
theorem miRequest (g g2 : Nat) (num : Int) (l : List Ms.It) (bad : Bool) (hl : Ms.wI l ≤ 100000000) : CallsC Tryz.prog 49 [Is (pAt g 0), Is (pAt g2 0)] [IX g l bad, ownP g2 48 (Ms.zReq num 0)] (fun _ => TTup []) (fun _ => [IX g (Ms.opP l bad).2.1 (Ms.opP l bad).2.2, ownP g2 48 (Ms.cReq (Ms.withNum (Ms.opP l bad).1 num))]) := by
  cases l with
  | nil => exact miReqBad g g2 num [] bad hl (.inl rfl)
  | cons x r =>
    cases bad with
    | true => exact miReqBad g g2 num (x :: r) true hl (.inr rfl)
    | false =>
      by_cases h66 : x.1 = 66
      · exact miReq66 g g2 num x r hl h66
      by_cases h74 : x.1 = 74
      · exact miReq74 g g2 num x r hl h74
      by_cases h80 : x.1 = 80
      · exact miReq80 g g2 num x r hl h80
      by_cases h96 : x.1 = 96
      · exact miReq96 g g2 num x r hl h96
      by_cases h99 : x.1 = 99
      · exact miReq99 g g2 num x r hl h99
      by_cases h102 : x.1 = 102
      · exact miReq102 g g2 num x r hl h102
      by_cases h104 : x.1 = 104
      · exact miReq104 g g2 num x r hl h104
      by_cases h108 : x.1 = 108
      · exact miReq108 g g2 num x r hl h108
      by_cases h110 : x.1 = 110
      · exact miReq110 g g2 num x r hl h110
      exact miReqX g g2 num x r hl h66 h74 h80 h96 h99 h102 h104 h108 h110
end Go.Proofs.YtgaahjmgneallaaGreat
set_option linter.unusedVariables false
namespace Go.Ms
open Go.Vk
open Go.Fi (Fil)
theorem smc {α : Type} (f : α → Nat) (a : α) (l : List α) : sm f (a :: l) = f a + sm f l := by simp [sm]
theorem fromInt_ok (b : List UInt8) : okK (Ber.fromIntB b).1 := by
  unfold Ber.fromIntB okK
  split
  · dsimp only; omega
  · rename_i h
    have h1 := Ber.be_rb (b.drop (Int.toNat 1)) _ (Ber.s8_bd (b.getD 0 0))
    have h2 := Ber.rb_mono (show (b.drop (Int.toNat 1)).length ≤ 7 by simp; omega)
    rw [Ber.rb7] at h2
    dsimp only
    omega
theorem numI_ok (l : List It) (bad : Bool) (t : UInt8) : okK (numI l bad t).1 := fromInt_ok _
theorem take_b (l : List It) (bad : Bool) (t : UInt8) : (takeI l bad t).1.length + wI (takeI l bad t).2.1 ≤ wI l := by have := takeI_w l bad t; omega
theorem rep_wt {α : Type} {w : α → Nat} {step : List It → Bool → α × List It × Bool} {c d : Nat} (hs : ∀ l, w (step l false).1 + c * wI (step l false).2.1 ≤ c * wI l + (if (step l false).2.2 = true then d else 0)) : ∀ (n : Nat) (l : List It) (bad : Bool), sm w (rep step n l bad).1 + c * wI (rep step n l bad).2.1 ≤ c * wI l + d
  | 0, l, bad => by show 0 + c * wI l ≤ _; omega
  | n + 1, l, bad => by
    unfold rep
    by_cases hc : l ≠ [] ∧ bad = false
    · obtain ⟨hc1, rfl⟩ := hc
      rw [if_pos ⟨hc1, rfl⟩]
      have h := hs l
      dsimp only
      rw [smc]
      by_cases hb : (step l false).2.2 = true
      · rw [if_pos hb] at h
        rw [hb, rep_bad]
        show _ + 0 + _ ≤ _
        dsimp only
        omega
      · rw [if_neg hb] at h
        have ih := rep_wt hs n (step l false).2.1 (step l false).2.2
        omega
    · rw [if_neg hc]
      show 0 + c * wI l ≤ _; omega
theorem rep_all {α : Type} {P : α → Prop} {step : List It → Bool → α × List It × Bool} (hs : ∀ l b, P (step l b).1) : ∀ (n : Nat) (l : List It) (bad : Bool), ∀ a ∈ (rep step n l bad).1, P a
  | 0, l, bad => fun a h => by cases h
  | n + 1, l, bad => by
    unfold rep
    split
    · intro a h
      rcases List.mem_cons.1 h with rfl | h
      · exact hs _ _
      · exact rep_all hs n _ _ a h
    · intro a h; cases h
theorem inn_step {α : Type} {w : α → Nat} {m : Bool} {t : UInt8} {k : List It → Bool → α × List It × Bool} {c d : Nat} (hk : ∀ x b, w (k x b).1 ≤ c * wI x + d) (hd : d ≤ 2 * c) (l : List It) : w (innM m t k l false).1 + c * wI (innM m t k l false).2.1 ≤ c * wI l + (if (innM m t k l false).2.2 = true then d else 0) := by
  unfold innM
  cases hi : isI l false t with
  | true =>
    obtain ⟨_, x, r, rfl, _, e⟩ := takeI_is hi
    rw [e]
    dsimp only
    have h1 := hk (allI x.2) (xbM m (x.2, r, false))
    have h2 := Nat.mul_le_mul_left c (allI_w x.2)
    rw [wI_cons, Nat.mul_add, Nat.mul_add]
    omega
  | false =>
    rw [takeI_no hi]
    dsimp only
    have h1 := hk (allI []) (xbM m ([], l, true))
    have h2 : wI (allI ([] : List UInt8)) = 0 := rfl
    rw [h2, Nat.mul_zero] at h1
    have e : endI (pbM m (([] : List UInt8), l, true)) (k (allI []) (xbM m ([], l, true))).2.2 (k (allI []) (xbM m ([], l, true))).2.1 = true := by
      cases m <;> simp [endI, pbM]
    rw [if_pos e]
    omega
theorem inn_wt {α : Type} {w : α → Nat} {m : Bool} {t : UInt8} {k : List It → Bool → α × List It × Bool} {c d : Nat} (hk : ∀ x b, w (k x b).1 ≤ c * wI x + d) (l : List It) (bad : Bool) : w (innM m t k l bad).1 ≤ c * wI l + d := by
  unfold innM
  dsimp only
  have h1 := hk (allI (takeI l bad t).1) (xbM m (takeI l bad t))
  have h2 := Nat.mul_le_mul_left c (inner_w l bad t)
  omega
theorem text_step (l : List It) : wV (textI l false).1 + 5 * wI (textI l false).2.1 ≤ 5 * wI l + (if (textI l false).2.2 = true then 10 else 0) := by
  unfold textI
  cases hi : isI l false 4 with
  | true =>
    obtain ⟨_, x, r, rfl, _, e⟩ := takeI_is hi
    rw [e, wI_cons]
    unfold wV
    dsimp only
    omega
  | false =>
    rw [takeI_no hi]
    unfold wV
    dsimp only
    rw [if_pos rfl]
    simp only [List.length_nil]; omega
theorem texts_wt (m : Bool) (t : UInt8) (l : List It) (bad : Bool) : sm wV (textsM m t l bad).1 ≤ 5 * wI l + 10 := inn_wt (w := sm wV) (fun x b => by
  have := rep_wt text_step (x.length + 1) x b
  show sm wV (rep textI (x.length + 1) x b).1 ≤ _
  omega) l bad
def wP (v : List UInt8 × List (List UInt8)) : Nat := wAt v.1 v.2
theorem attK_wt (m : Bool) (x : List It) (b : Bool) : wP (attK m x b).1 ≤ 25 * wI x + 50 := by
  unfold attK wP wAt wVs
  dsimp only
  have h1 := take_b x b 4
  have h2 := texts_wt m 49 (textI x b).2.1 (textI x b).2.2
  have e : textI x b = takeI x b 4 := rfl
  rw [e] at h2 ⊢
  omega
theorem att_wt (m : Bool) (l : List It) (bad : Bool) : wP (attM m l bad).1 ≤ 25 * wI l + 50 := inn_wt (w := wP) (attK_wt m) l bad
theorem attr_step (m : Bool) (l : List It) : wA (attrM m l false).1 + 25 * wI (attrM m l false).2.1 ≤ 25 * wI l + (if (attrM m l false).2.2 = true then 50 else 0) := inn_step (w := wP) (attK_wt m) (by omega) l
theorem attrs_wt (m : Bool) (l : List It) (bad : Bool) : sm wA (attrsM m l bad).1 ≤ 25 * wI l + 50 := inn_wt (w := sm wA) (fun x b => by
  have := rep_wt (attr_step m) (x.length + 1) x b
  show sm wA (rep (attrM m) (x.length + 1) x b).1 ≤ _
  omega) l bad
theorem kindM_w (m : Bool) (l : List It) (bad : Bool) : wI (kindM m l bad).2.1 ≤ wI l := by cases m <;> exact take1_w _ _ _
theorem kindM_ok (m : Bool) (l : List It) (bad : Bool) : okK (kindM m l bad).1 := by cases m <;> exact numI_ok _ _ _
theorem modK_wt (m : Bool) (x : List It) (b : Bool) : wM (modK m x b).1 ≤ 45 * wI x + 90 := by
  unfold modK
  have h1 := kindM_w m x b
  have h2 := att_wt m (kindM m x b).2.1 (kindM m x b).2.2
  unfold wP at h2
  unfold wM
  dsimp only
  omega
theorem mod_step (m : Bool) (l : List It) : wM (modM m l false).1 + 45 * wI (modM m l false).2.1 ≤ 45 * wI l + (if (modM m l false).2.2 = true then 90 else 0) := inn_step (w := wM) (modK_wt m) (by omega) l
theorem mods_wt (m : Bool) (l : List It) (bad : Bool) : sm wM (modsM m l bad).1 ≤ 45 * wI l + 90 := inn_wt (w := sm wM) (fun x b => by
  have := rep_wt (mod_step m) (x.length + 1) x b
  show sm wM (rep (modM m) (x.length + 1) x b).1 ≤ _
  omega) l bad
theorem mods_ok (m : Bool) (l : List It) (bad : Bool) : ∀ a ∈ (modsM m l bad).1, okK a.kind := rep_all (P := fun a : Mod => okK a.kind) (fun l b => kindM_ok m _ _) _ _ _
/-! ### filters -/
theorem subsW_app (a b : List (List UInt8)) : Fi.subsW (a ++ b) = Fi.subsW a + Fi.subsW b := by
  induction a with
  | nil => simp [Fi.subsW]
  | cons x r ih => rw [List.cons_append, Fi.subsW, Fi.subsW, ih]; omega
theorem mid_sw : ∀ l : List It, Fi.subsW (midI l).1 + wI (midI l).2 ≤ wI l
  | [] => by simp [midI, Fi.subsW]
  | x :: r => by
    have h := mid_sw r
    unfold midI
    split
    · rw [wI_cons]; dsimp only; rw [Fi.subsW]; omega
    · show 0 + wI (x :: r) ≤ _; omega
theorem may_sw (l : List It) (bad : Bool) (t : UInt8) : (mayI l bad t).1.length + wI (mayI l bad t).2.1 ≤ wI l := by
  unfold mayI
  split
  · exact take_b l bad t
  · show 0 + wI l ≤ _; omega
theorem subsK_wt (x : List It) (b : Bool) : Fi.subsW (subsK x b).1 ≤ 1 * wI x + 2 := by
  have h1 := may_sw x b 128
  have h2 : Fi.subsW (midB (mayI x b 128).2.2 (mayI x b 128).2.1).1 + wI (midB (mayI x b 128).2.2 (mayI x b 128).2.1).2 ≤ wI (mayI x b 128).2.1 := by
    unfold midB
    split
    · show 0 + wI (mayI x b 128).2.1 ≤ _; omega
    · exact mid_sw _
  have h3 := may_sw (midB (mayI x b 128).2.2 (mayI x b 128).2.1).2 (mayI x b 128).2.2 130
  rw [subsK_def]
  dsimp only
  rw [Fi.subsW, subsW_app, Fi.subsW, Fi.subsW]
  omega
theorem subs_wt (m : Bool) (l : List It) (bad : Bool) : Fi.subsW (subsM m l bad).1 ≤ 1 * wI l + 2 := inn_wt (w := Fi.subsW) subsK_wt l bad
theorem wt_m (k : Int) (t v : List UInt8) (s : List (List UInt8)) (ks : List Fil) : Fi.wt (.mk k t v s ks) = 5 + t.length + v.length + Fi.subsW s + Fi.wtL ks := by rw [Fi.wt]
theorem wtL_sm : ∀ l : List Fil, Fi.wtL l = sm Fi.wt l
  | [] => by rw [Fi.wtL]; rfl
  | f :: r => by rw [Fi.wtL, smc, wtL_sm r]
theorem filt_step : ∀ (n : Nat) (l : List It), Fi.wt (filtP n l false).1 + 5 * wI (filtP n l false).2.1 ≤ 5 * wI l + (if (filtP n l false).2.2 = true then 5 else 0)
  | 0, l => by
    show Fi.wt Fi.zeroF + 5 * wI l ≤ _ + 5
    have : Fi.wt Fi.zeroF = 5 := by decide
    omega
  | n + 1, [] => by
    show Fi.wt Fi.zeroF + 5 * wI [] ≤ _ + 5
    have : Fi.wt Fi.zeroF = 5 := by decide
    omega
  | n + 1, x :: r => by
    have ih := filt_step n
    have e : filtP (n + 1) (x :: r) false = if x.1 = 135 then (.mk 7 x.2 [] [] [], r, false) else filtT (filtP n) x r := by
      conv => lhs; unfold filtP
      rw [if_neg (by simp)]
    rw [e, wI_cons]
    refine Nat.le_trans ?_ (Nat.le_add_right _ _)
    have z0 : Fi.subsW [] = 0 := rfl
    have z1 : Fi.wtL [] = 0 := by rw [Fi.wtL]
    have z2 : ([] : List UInt8).length = 0 := rfl
    have hx := allI_w x.2
    split
    · dsimp only
      rw [wt_m, z0, z1, z2]
      omega
    unfold filtT
    rw [inn_at, inn_at, inn_at]
    generalize (if x.1 = 168 then (163 : UInt8) else x.1) = tg
    dsimp only
    split
    · dsimp only
      rw [wt_m, z0, z1, z2]
      omega
    split
    · have h := rep_wt ih ((allI x.2).length + 1) (allI x.2) (badI x.2)
      have h2 : sm Fi.wt (repA (filtP n) (allI x.2) (badI x.2)).1 ≤ 5 * wI (allI x.2) + 5 := by
        show sm Fi.wt (rep (filtP n) ((allI x.2).length + 1) (allI x.2) (badI x.2)).1 ≤ _
        omega
      dsimp only
      rw [wt_m, z0, wtL_sm, z2]
      omega
    split
    · unfold leafK
      dsimp only
      have h1 := take_b (allI x.2) (badI x.2) 4
      have e4 : textI (allI x.2) (badI x.2) = takeI (allI x.2) (badI x.2) 4 := rfl
      have h2 := subs_wt true (textI (allI x.2) (badI x.2)).2.1 (textI (allI x.2) (badI x.2)).2.2
      rw [e4] at h2 ⊢
      rw [wt_m, z1, z2]
      omega
    split
    · unfold pairK
      dsimp only
      have h1 := take_b (allI x.2) (badI x.2) 4
      have e4 : ∀ l b, textI l b = takeI l b 4 := fun _ _ => rfl
      rw [e4, e4]
      have h2 := take_b (takeI (allI x.2) (badI x.2) 4).2.1 (takeI (allI x.2) (badI x.2) 4).2.2 4
      rw [wt_m, z0, z1]
      omega
    · dsimp only
      rw [wt_m, z0, z1, z2]
      omega
theorem filt_wt (n : Nat) (l : List It) (bad : Bool) : Fi.wt (filtP n l bad).1 ≤ 5 * wI l + 5 := by
  cases bad with
  | true =>
    have e : (filtP n l true).1 = Fi.zeroF := by
      cases n with
      | zero => rfl
      | succ n => cases l with
        | nil => rfl
        | cons x r => rfl
    have : Fi.wt Fi.zeroF = 5 := by decide
    rw [e]; omega
  | false =>
    have h := filt_step n l
    split at h <;> omega
mutual
theorem wF_wt : ∀ f : Fil, wF f ≤ 22 * Fi.wt f
  | .mk k t v s ks => by
    have h1 := wFs_wtL ks
    have h2 : ∀ l : List (List UInt8), sm wV l ≤ 10 * Fi.subsW l := fun l => by
      induction l with
      | nil => simp [sm, Fi.subsW]
      | cons x r ih => rw [smc, Fi.subsW]; unfold wV at *; omega
    have h3 := h2 s
    rw [wt_m]
    unfold wF wVs
    omega
theorem wFs_wtL : ∀ l : List Fil, wFs l ≤ 22 * Fi.wtL l
  | [] => by unfold wFs; omega
  | f :: r => by
    have h1 := wF_wt f
    have h2 := wFs_wtL r
    rw [Fi.wtL]
    unfold wFs
    omega
end
/-! ### requests -/
theorem opKP_okr (k : Int) (hk : okK k) (l : List It) (bad : Bool) (h : wI l ≤ 70000) : Okr (opKP k l bad).1 := by
  have hd : ∀ (l : List It) (b : Bool) (t : UInt8), wI l ≤ 70000 → (takeI l b t).1.length ≤ 2000000 := fun l b t h => by
    have := take_b l b t
    omega
  have e4 : ∀ l b, textI l b = takeI l b 4 := fun _ _ => rfl
  have hw : ∀ (l : List It) (b : Bool) (t : UInt8), wI (takeI l b t).2.1 ≤ wI l := take1_w
  have h1 := hw l bad 4
  unfold opKP
  split
  · unfold bindP
    dsimp only
    have n1 := numI_w l bad 2
    have n2 := hw (numI l bad 2).2.1 (decide ((numI l bad 2).1 ≠ 3) || (numI l bad 2).2.2) 4
    rw [e4]
    constructor <;> (try dsimp only [zR]) <;> first | exact okK0 | (unfold okK; omega) | exact Nat.zero_le _ | exact hd _ _ _ (by omega) | (intro m hm; cases hm) | decide
  split
  · unfold srchP
    dsimp only
    rw [e4]
    have hdd := hd l bad 4 h
    generalize takeI l bad 4 = d at h1 hdd ⊢
    have n1 := numI_w d.2.1 d.2.2 10
    have k1 := numI_ok d.2.1 d.2.2 10
    generalize numI d.2.1 d.2.2 10 = s at n1 k1 ⊢
    have n2 := numI_w s.2.1 s.2.2 10
    generalize numI s.2.1 s.2.2 10 = a at n2 ⊢
    have n3 := numI_w a.2.1 a.2.2 2
    have k3 := numI_ok a.2.1 a.2.2 2
    generalize numI a.2.1 a.2.2 2 = m at n3 k3 ⊢
    have n4 := numI_w m.2.1 m.2.2 2
    generalize numI m.2.1 m.2.2 2 = t at n4 ⊢
    have n5 := truthI_w t.2.1 t.2.2
    generalize truthI t.2.1 t.2.2 = b at n5 ⊢
    have n6 := (filtP_w 16 b.2.1 b.2.2).1
    have n7 := filt_wt 16 b.2.1 b.2.2
    have n8 := wF_wt (filtP 16 b.2.1 b.2.2).1
    generalize filtP 16 b.2.1 b.2.2 = f at n6 n7 n8 ⊢
    have n9 := texts_wt true 48 f.2.1 f.2.2
    generalize textsM true 48 f.2.1 f.2.2 = w at n9 ⊢
    constructor <;> (try dsimp only [zR]) <;> first | exact okK0 | exact k1 | exact k3 | (unfold okK; omega) | exact Nat.zero_le _ | exact hdd | omega | (intro m hm; cases hm) | decide
  split
  · unfold modfM
    dsimp only
    rw [e4]
    have m1 := mods_wt true (takeI l bad 4).2.1 (takeI l bad 4).2.2
    have m2 := mods_ok true (takeI l bad 4).2.1 (takeI l bad 4).2.2
    constructor <;> (try dsimp only [zR]) <;> first | exact okK0 | (unfold okK; omega) | exact Nat.zero_le _ | exact hd _ _ _ (by omega) | exact m2 | omega | (intro m hm; cases hm) | decide
  split
  · unfold addM
    dsimp only
    rw [e4]
    have m1 := attrs_wt true (takeI l bad 4).2.1 (takeI l bad 4).2.2
    constructor <;> (try dsimp only [zR]) <;> first | exact okK0 | (unfold okK; omega) | exact Nat.zero_le _ | exact hd _ _ _ (by omega) | omega | (intro m hm; cases hm) | decide
  split
  · unfold renI
    dsimp only
    rw [e4, e4]
    have h2 := hw (takeI l bad 4).2.1 (takeI l bad 4).2.2 4
    have h3 := truthI_w (takeI (takeI l bad 4).2.1 (takeI l bad 4).2.2 4).2.1 (takeI (takeI l bad 4).2.1 (takeI l bad 4).2.2 4).2.2
    have h4 := may_sw (truthI (takeI (takeI l bad 4).2.1 (takeI l bad 4).2.2 4).2.1 (takeI (takeI l bad 4).2.1 (takeI l bad 4).2.2 4).2.2).2.1 (truthI (takeI (takeI l bad 4).2.1 (takeI l bad 4).2.2 4).2.1 (takeI (takeI l bad 4).2.1 (takeI l bad 4).2.2 4).2.2).2.2 128
    constructor <;> (try dsimp only [zR]) <;> first | exact okK0 | (unfold okK; omega) | exact Nat.zero_le _ | exact hd _ _ _ (by omega) | omega | (intro m hm; cases hm) | decide
  split
  · unfold cmpM
    dsimp only
    rw [e4]
    have p : ∀ x b, (pairK x b).1.1.length + (pairK x b).1.2.length ≤ 1 * wI x + 0 := fun x b => by
      unfold pairK
      dsimp only
      rw [e4, e4]
      have g1 := take_b x b 4
      have g2 := take_b (takeI x b 4).2.1 (takeI x b 4).2.2 4
      omega
    have p2 := inn_wt (w := fun v : List UInt8 × List UInt8 => v.1.length + v.2.length) (m := true) (t := 48) p (takeI l bad 4).2.1 (takeI l bad 4).2.2
    (try dsimp only at p2)
    constructor <;> (try dsimp only [zR]) <;> first | exact okK0 | (unfold okK; omega) | exact Nat.zero_le _ | exact hd _ _ _ (by omega) | omega | (intro m hm; cases hm) | decide
  · constructor <;> (try dsimp only [zR]) <;> first | exact okK0 | (unfold okK; omega) | exact Nat.zero_le _ | exact hk | (intro m hm; cases hm) | decide
theorem opP_w (l : List It) (bad : Bool) : wI (opP l bad).2.1 ≤ wI l := by
  by_cases h : l = [] ∨ bad = true
  · rw [opP_bad' h]; exact Nat.le_refl _
  cases l with
  | nil => exact absurd (.inl rfl) h
  | cons x r =>
    have hb : bad = false := by cases bad with
      | true => exact absurd (.inr rfl) h
      | false => rfl
    subst hb
    rw [opP_x]
    have h0 : wI r ≤ wI (x :: r) := by rw [wI_cons]; omega
    split
    · exact h0
    split
    · exact h0
    split
    · exact numI_w _ _ _
    · exact innM_w _ _ _ _ _
theorem opP_okr (l : List It) (bad : Bool) (h : wI l ≤ 70000) : Okr (opP l bad).1 := by
  by_cases hc : l = [] ∨ bad = true
  · rw [opP_bad' hc]; exact zR_ok
  cases l with
  | nil => exact absurd (.inl rfl) hc
  | cons x r =>
    have hb : bad = false := by cases bad with
      | true => exact absurd (.inr rfl) hc
      | false => rfl
    subst hb
    rw [opP_x]
    have hx := wI_cons x r
    split
    · constructor <;> (try dsimp only [zR]) <;> first | exact okK0 | (unfold okK; omega) | exact Nat.zero_le _ | (intro m hm; cases hm) | decide
    split
    · constructor <;> (try dsimp only [zR]) <;> first | exact okK0 | (unfold okK; omega) | exact Nat.zero_le _ | omega | (intro m hm; cases hm) | decide
    split
    · have k1 := numI_ok (x :: r) false 80
      constructor <;> (try dsimp only [zR]) <;> first | exact okK0 | exact k1 | (unfold okK; omega) | exact Nat.zero_le _ | (intro m hm; cases hm) | decide
    · have h1 := inner_w (x :: r) false x.1
      have hl := x.1.toNat_lt
      exact opKP_okr _ (by unfold okK; omega) _ _ (by omega)
theorem okr_num {r : Req} (h : Okr r) {n : Int} (hn : okK n) : Okr (withNum r n) := ⟨hn, h.kind, h.scope, h.limit, h.which, h.dn, h.pass, h.rdn, h.up, h.avaT, h.avaV, h.fil, h.want, h.mods, h.attrs, h.kinds, h.filw⟩
theorem reqP_okr {b : List UInt8} (h : b.length ≤ 70000) : Okr (reqP b).1 := by
  have h1 := allI_w b
  have h2 := numI_w (allI b) (badI b) 2
  exact okr_num (opP_okr _ _ (by omega)) (numI_ok _ _ _)
theorem decP_okr {b : List UInt8} (h : b.length ≤ 70000) : Okr (decP b).1 := by
  have hn := Ber.nextB_len b
  unfold decP
  dsimp only
  split
  · exact zR_ok
  split
  · exact zR_ok
  · exact reqP_okr (by omega)
end Go.Ms
set_option linter.unusedVariables false
namespace Go.Ms
open Go.Vk
theorem drop_at {l : List It} {a : Nat} {x : It} {r : List It} (h : l.drop a = x :: r) : a < l.length ∧ l.getD a default = x ∧ l.drop (a + 1) = r := by
  have h1 : a < l.length := by
    rcases Nat.lt_or_ge a l.length with h1 | h1
    · exact h1
    · rw [List.drop_of_length_le h1] at h; cases h
  rw [List.drop_eq_getElem_cons h1] at h
  injection h with h2 h3
  refine ⟨h1, ?_, h3⟩
  rw [List.getD_eq_getElem?_getD, List.getElem?_eq_getElem h1]
  exact h2
theorem drop_nil {l : List It} {a : Nat} (h : l.drop a = []) : l.length ≤ a := List.drop_eq_nil_iff.1 h
theorem wI_drop (l : List It) (a : Nat) : wI (l.drop a) ≤ wI l := by
  have : wI l = wI (l.take a) + wI (l.drop a) := by rw [← wI_app, List.take_append_drop]
  omega
theorem peek_no {l : List It} {a : Nat} {bad : Bool} (h : bad = true ∨ l.length ≤ a) : peekI (l.drop a) bad = 0 := by
  rcases h with rfl | h
  · exact peek_true _
  · rw [List.drop_of_length_le h]; rfl
theorem peek_at {l : List It} {a : Nat} (h : a < l.length) : peekI (l.drop a) false = (l.getD a default).1 := by
  rw [List.drop_eq_getElem_cons h, List.getD_eq_getElem?_getD, List.getElem?_eq_getElem h]
  rfl
theorem isI_at {l : List It} {a : Nat} (h : a < l.length) (bad : Bool) (t : UInt8) : isI (l.drop a) bad t = (!bad && decide ((l.getD a default).1 = t)) := by
  rw [List.drop_eq_getElem_cons h, List.getD_eq_getElem?_getD, List.getElem?_eq_getElem h]
  rfl
end Go.Ms
set_option maxRecDepth 8000
set_option linter.unusedVariables false
namespace Go.Proofs.YtgaahjmgneallaaGreat
open Go.Vk
attribute [local irreducible] HT HX RegS RegA RegM OpP OpC AltT
attribute [local irreducible] Ber.tagB Ber.lenB Ber.intB Ber.allE Ber.fromIntB Ber.nextB
abbrev RX25 (g : Nat) (l : List Ms.It) (a : Nat) (bad : Bool) : Res := ownP g 97 [TSl 2 Ber.cIt l, okI .i64 (a : Int), Is (.bool bad)]
theorem rdRead (b : List UInt8) (hb : b.length ≤ 134217728) : CallsC Tryz.prog 43 [TBytes b] [] (fun v => Is (pAt (blk v) 0)) (fun v => [RX25 (blk v) (Ms.allI b) 0 (Ms.badI b)]) := by
  have c1 : CFn Tryz.prog 80 [TBytes b] (TTup [TSl 2 Ber.cIt (Ms.allI b), okI .i64 (Ber.allE b.length b []).2]) := refAll b hb
  have e : Ms.badI b = decide ((Ber.allE b.length b []).2 ≠ 0) := rfl
  rw [e]
  generalize (Ber.allE b.length b []).2 = z at c1 ⊢
  have mu := Mut.mk' [14]
  refine CallsC.of Tryz.call43 Tryz.func43 rfl Tryz.ntmps43 rfl fun w0 G0 S0 hs ho => ?_
  exact run trivial
theorem rdPeek (g : Nat) (l : List Ms.It) (a : Nat) (bad : Bool) (hl : Ms.wI l ≤ 100000000) (ha : a ≤ l.length) : CallsC Tryz.prog 45 [Is (pAt g 0)] [RX25 g l a bad] (fun _ => okI .u8 ((Ms.peekI (l.drop a) bad).toNat : Int)) (fun _ => [RX25 g l a bad]) := by
  have hle := Ms.wI_len l
  refine CallsC.of Tryz.call45 Tryz.func45 rfl Tryz.ntmps45 rfl fun w0 G0 S0 hs ho => ?_
  refine run ?_
  refine ⟨fun h => ?_, fun h => ?_⟩
  · rw [Ms.peek_no (h.imp id (fun h => by omega))]; rfl
  · obtain ⟨rfl, h⟩ := h
    rw [Ms.peek_at (by omega)]
theorem rdBody (l : List Ms.It) (a : Nat) (bad : Bool) (t : UInt8) (hl : Ms.wI l ≤ 100000000) (ha : a ≤ l.length) : ∃ a', a' ≤ l.length ∧ l.drop a' = (Ms.takeI (l.drop a) bad t).2.1 ∧ ∀ g, CallsC Tryz.prog 47 [Is (pAt g 0), okI .u8 (t.toNat : Int)] [RX25 g l a bad] (fun _ => TBytes (Ms.takeI (l.drop a) bad t).1) (fun _ => [RX25 g l a' (Ms.takeI (l.drop a) bad t).2.2]) := by
  have hle := Ms.wI_len l
  cases hi : Ms.isI (l.drop a) bad t with
  | true =>
    obtain ⟨rfl, x, r, hd, hx, e⟩ := Ms.takeI_is hi
    obtain ⟨d1, d2, d3⟩ := Ms.drop_at hd
    rw [e]
    refine ⟨a + 1, by omega, d3, fun g => ?_⟩
    have f1 : (l.getD a default).1 = t := by rw [d2]; exact hx
    have f2 : ((l.getD a default).1.toNat : Int) = (t.toNat : Int) := by rw [f1]
    clear e hi hd d3
    refine CallsC.of Tryz.call47 Tryz.func47 rfl Tryz.ntmps47 rfl fun w0 G0 S0 hs ho => ?_
    refine run ?_
    intro _
    rw [show ((a : Int) + 1 - 1).toNat = a by omega, d2]
  | false =>
    rw [Ms.takeI_no hi]
    refine ⟨a, ha, rfl, fun g => ?_⟩
    have hno : a < l.length → bad = false → ¬ ((l.getD a default).1.toNat : Int) = (t.toNat : Int) := fun h1 h2 h3 => by
      rw [Ms.isI_at h1, h2, decide_eq_true (Ms.u8_i.1 h3)] at hi
      cases hi
    clear hi
    refine CallsC.of Tryz.call47 Tryz.func47 rfl Tryz.ntmps47 rfl fun w0 G0 S0 hs ho => ?_
    refine run ?_
    and_intros <;> intro h <;> exact absurd (Decidable.not_not.1 h.2) (hno (by have := h.1.2; omega) h.1.1)
theorem rdNum (l : List Ms.It) (a : Nat) (bad : Bool) (t : UInt8) (lo hi : Int) (hl : Ms.wI l ≤ 100000000) (ha : a ≤ l.length) : ∃ a', a' ≤ l.length ∧ l.drop a' = (Ms.numR (l.drop a) bad t lo hi).2.1 ∧ ∀ g, CallsC Tryz.prog 44 [Is (pAt g 0), okI .u8 (t.toNat : Int), okI .i64 lo, okI .i64 hi] [RX25 g l a bad] (fun _ => okI .i64 (Ms.numR (l.drop a) bad t lo hi).1) (fun _ => [RX25 g l a' (Ms.numR (l.drop a) bad t lo hi).2.2]) := by
  obtain ⟨a1, h1, h2, c1⟩ := rdBody l a bad t hl ha
  refine ⟨a1, h1, h2, fun g => ?_⟩
  unfold Ms.numR Ms.numI
  dsimp only
  generalize Ms.takeI (l.drop a) bad t = y at c1 ⊢
  have c2 := refFromInt y.1
  generalize Ber.fromIntB y.1 = z at c2 ⊢
  clear h2
  refine CallsC.of Tryz.call44 Tryz.func44 rfl Tryz.ntmps44 rfl fun w0 G0 S0 hs ho => ?_
  refine run ?_
  intro h
  rw [decide_eq_false h.1.1, decide_eq_false h.1.2, decide_eq_false h.2]
  simp
theorem rdFlag (l : List Ms.It) (a : Nat) (bad : Bool) (hl : Ms.wI l ≤ 100000000) (ha : a ≤ l.length) : ∃ a', a' ≤ l.length ∧ l.drop a' = (Ms.truthI (l.drop a) bad).2.1 ∧ ∀ g, CallsC Tryz.prog 121 [Is (pAt g 0)] [RX25 g l a bad] (fun _ => Is (.bool (Ms.truthI (l.drop a) bad).1)) (fun _ => [RX25 g l a' (Ms.truthI (l.drop a) bad).2.2]) := by
  obtain ⟨a1, h1, h2, c1⟩ := rdBody l a bad 1 hl ha
  refine ⟨a1, h1, h2, fun g => ?_⟩
  unfold Ms.truthI
  generalize Ms.takeI (l.drop a) bad 1 = y at c1 ⊢
  have c2 : CFn Tryz.prog 137 [TBytes y.1] (TTup [Is (.bool (Ms.fromB y.1).1), okI .i64 (Ms.fromB y.1).2]) := refFromBool _
  generalize Ms.fromB y.1 = z at c2 ⊢
  clear h2
  have c3 : ∀ g, CallsC Tryz.prog 47 [Is (pAt g 0), okI .u8 1] [RX25 g l a bad] (fun _ => TBytes y.1) (fun _ => [RX25 g l a1 y.2.2]) := c1
  clear c1
  refine CallsC.of Tryz.call121 Tryz.func121 rfl Tryz.ntmps121 rfl fun w0 G0 S0 hs ho => ?_
  refine run ?_
  intro h
  rw [decide_eq_false h]
  simp
theorem rdInner (l : List Ms.It) (a : Nat) (bad : Bool) (t : UInt8) (hl : Ms.wI l ≤ 100000000) (ha : a ≤ l.length) : ∃ a', a' ≤ l.length ∧ l.drop a' = (Ms.takeI (l.drop a) bad t).2.1 ∧ ∀ g, CallsC Tryz.prog 46 [Is (pAt g 0), okI .u8 (t.toNat : Int)] [RX25 g l a bad] (fun v => Is (pAt (blk v) 0)) (fun v => [RX25 g l a' (Ms.pbM false (Ms.takeI (l.drop a) bad t)), RX25 (blk v) (Ms.allI (Ms.takeI (l.drop a) bad t).1) 0 (Ms.badI (Ms.takeI (l.drop a) bad t).1)]) := by
  obtain ⟨a1, h1, h2, c1⟩ := rdBody l a bad t hl ha
  refine ⟨a1, h1, h2, fun g => ?_⟩
  have hw := Ms.takeI_w (l.drop a) bad t
  have hw2 := Ms.wI_drop l a
  generalize Ms.takeI (l.drop a) bad t = y at c1 hw ⊢
  have c2 := rdRead y.1 (by omega)
  unfold Ms.pbM
  dsimp only
  generalize Ms.allI y.1 = x0 at c2 ⊢
  clear h2
  cases hb : Ms.badI y.1 with
  | true =>
    rw [hb] at c2
    rw [Bool.or_true]
    refine CallsC.of Tryz.call46 Tryz.func46 rfl Tryz.ntmps46 rfl fun w0 G0 S0 hs ho => ?_
    exact run trivial
  | false =>
    rw [hb] at c2
    rw [Bool.or_false]
    refine CallsC.of Tryz.call46 Tryz.func46 rfl Tryz.ntmps46 rfl fun w0 G0 S0 hs ho => ?_
    exact run trivial
theorem rdEnd (g g2 : Nat) (l l2 : List Ms.It) (a a2 : Nat) (bad bad2 : Bool) (hl : Ms.wI l2 ≤ 100000000) (ha : a2 ≤ l2.length) : CallsC Tryz.prog 83 [Is (pAt g 0), Is (pAt g2 0)] [RX25 g l a bad, RX25 g2 l2 a2 bad2] (fun _ => TTup []) (fun _ => [RX25 g l a (Ms.endI bad bad2 (l2.drop a2)), RX25 g2 l2 a2 bad2]) := by
  have hle := Ms.wI_len l2
  have he : l2.drop a2 = [] ↔ a2 = l2.length := by rw [List.drop_eq_nil_iff]; omega
  unfold Ms.endI
  by_cases h : bad2 = true ∨ l2.drop a2 ≠ []
  · have e : (bad || bad2 || decide (l2.drop a2 ≠ [])) = true := by
      rcases h with h | h
      · rw [h]; simp
      · rw [decide_eq_true h]; simp
    rw [e]
    have h' : bad2 = true ∨ ¬ (a2 : Int) = (l2.length : Int) := h.imp id (fun h h2 => h (he.2 (by omega)))
    clear h e he
    refine CallsC.of Tryz.call83 Tryz.func83 rfl Tryz.ntmps83 rfl fun w0 G0 S0 hs ho => ?_
    refine run ?_
    intros
    exfalso
    grind
  · have hb : bad2 = false := by cases bad2 with
      | true => exact absurd (.inl rfl) h
      | false => rfl
    have h2 : l2.drop a2 = [] := Decidable.not_not.1 (fun h3 => h (.inr h3))
    have h3 := he.1 h2
    have e : (bad || bad2 || decide (l2.drop a2 ≠ [])) = bad := by rw [hb, h2]; simp
    rw [e]
    subst hb
    subst h3
    clear h e he h2
    refine CallsC.of Tryz.call83 Tryz.func83 rfl Tryz.ntmps83 rfl fun w0 G0 S0 hs ho => ?_
    exact run trivial
end Go.Proofs.YtgaahjmgneallaaGreat
set_option linter.unusedVariables false
namespace Go.Ms
open Go.Vk
theorem drop_ne {l : List It} {i : Nat} : l.drop i ≠ [] ↔ i < l.length := by rw [ne_eq, List.drop_eq_nil_iff]; omega
end Go.Ms
set_option maxRecDepth 8000
set_option linter.unusedVariables false
namespace Go.Proofs.YtgaahjmgneallaaGreat
open Go.Vk
attribute [local irreducible] HT HX RegS RegA RegM OpP OpC AltT
attribute [local irreducible] Ber.tagB Ber.lenB Ber.intB Ber.allE Ber.fromIntB Ber.nextB
set_option maxHeartbeats 2000000 in
theorem rdTexts (l : List Ms.It) (a : Nat) (bad : Bool) (t : UInt8) (hl : Ms.wI l ≤ 100000000) (ha : a ≤ l.length) : ∃ a', a' ≤ l.length ∧ l.drop a' = (Ms.textsM false t (l.drop a) bad).2.1 ∧ ∀ g, CallsC Tryz.prog 116 [Is (pAt g 0), okI .u8 (t.toNat : Int)] [RX25 g l a bad] (fun _ => TSl 1 En.cS (Ms.textsM false t (l.drop a) bad).1) (fun _ => [RX25 g l a' (Ms.textsM false t (l.drop a) bad).2.2]) := by
  obtain ⟨a1, h1, h2, c1⟩ := rdInner l a bad t hl ha
  refine ⟨a1, h1, h2, fun g => ?_⟩
  have hw2 := Ms.inner_w (l.drop a) bad t
  have hw3 := Ms.wI_drop l a
  unfold Ms.textsM Ms.innM
  dsimp only [Ms.xbM]
  clear h2
  generalize Ms.takeI (l.drop a) bad t = y at c1 hw2 ⊢
  generalize hpb : Ms.pbM false y = pb at c1 ⊢
  generalize hx : Ms.allI y.1 = x0 at c1 hw2 ⊢
  generalize hb : Ms.badI y.1 = b0 at c1 ⊢
  have hlx := Ms.wI_len x0
  refine CallsC.of Tryz.call116 Tryz.func116 rfl Tryz.ntmps116 rfl fun w0 G0 S0 hs ho => ?_
  refine run ?_
  intro vx
  refine HT.loopX (σ := (List (List UInt8) × Nat × Bool) × Value) [0, 4, 5] (fun t' => [(6, TAnd (Is t'.2) (TSl 1 En.cS t'.1.1))]) (fun t' => [RX25 g l a1 pb, RX25 (blk vx) x0 t'.1.2.1 t'.1.2.2, ownSl t'.2 1 9]) (fun t' => t'.1.2.1 ≤ x0.length ∧ (t'.1.2.2 = false → t'.1.1.length ≤ t'.1.2.1) ∧ t'.1.1.length ≤ x0.length + 1 ∧ t'.1.1 ++ (Ms.repA Ms.textI (x0.drop t'.1.2.1) t'.1.2.2).1 = (Ms.repA Ms.textI x0 b0).1 ∧ (Ms.repA Ms.textI (x0.drop t'.1.2.1) t'.1.2.2).2 = (Ms.repA Ms.textI x0 b0).2) (fun t' => x0.length - t'.1.2.1 + (if t'.1.2.2 then 0 else 1)) (([], 0, b0), .slice none 0 0) ⟨Nat.zero_le _, fun _ => by simp, by simp, rfl, rfl⟩ (run trivial) (run trivial) ?_
  clear c1 hb
  rintro ⟨⟨acc, i, b⟩, w⟩ ⟨h1, h2, h5, h3, h4⟩
  dsimp only at h1 h2 h3 h4 h5 ⊢
  by_cases hgo : x0.drop i ≠ [] ∧ b = false
  · obtain ⟨hne, rfl⟩ := hgo
    rw [Ms.repA_go Ms.textI_eats hne] at h3 h4
    dsimp only at h3 h4
    have h2 := h2 rfl
    have hi := Ms.drop_ne.1 hne
    obtain ⟨i', k1, k2, c2⟩ := rdBody x0 i false 4 (by omega) h1
    have hea := Ms.textI_eats (x0.drop i)
    have hlen : (Ms.textI (x0.drop i) false).2.1.length ≤ (x0.drop i).length := Ms.takeI_len _ _ _
    have e : Ms.textI (x0.drop i) false = Ms.takeI (x0.drop i) false 4 := rfl
    rw [e] at h3 h4 hea hlen
    rw [← k2] at h3 h4 hea hlen
    clear e k2
    generalize Ms.takeI (x0.drop i) false 4 = z at c2 hea hlen h3 h4
    rw [List.length_drop, List.length_drop] at hea hlen
    have c3 : ∀ g, CallsC Tryz.prog 47 [Is (pAt g 0), okI .u8 4] [RX25 g x0 i false] (fun _ => TBytes z.1) (fun _ => [RX25 g x0 i' z.2.2]) := c2
    clear c2
    refine run ?_
    intro v' _
    refine HX.roundX ((acc ++ [z.1], i', z.2.2), v') ⟨⟨by dsimp only; omega, fun hz => by have := hea hz; simp only [List.length_append, List.length_singleton]; omega, by simp only [List.length_append, List.length_singleton]; omega, by dsimp only; rw [List.append_assoc]; exact h3, h4⟩, ?_⟩ rfl (run trivial) (run trivial)
    dsimp only
    split
    · simp; omega
    · rename_i hz
      have := hea (by simpa using hz)
      simp; omega
  · have hend := Ms.repA_end (step := Ms.textI) hgo
    rw [hend] at h3 h4
    rw [List.append_nil] at h3
    dsimp only at h4
    rw [← h3, ← h4]
    have c2 := fun g g2 => rdEnd g g2 l x0 a1 i pb b (by omega) h1
    refine run ?_
    intros
    rename_i hh
    exact absurd ⟨Ms.drop_ne.2 (by omega), hh.1⟩ hgo
theorem rdAttr (l : List Ms.It) (a : Nat) (bad : Bool) (hl : Ms.wI l ≤ 100000000) (ha : a ≤ l.length) : ∃ a', a' ≤ l.length ∧ l.drop a' = (Ms.attM false (l.drop a) bad).2.1 ∧ ∀ g, CallsC Tryz.prog 82 [Is (pAt g 0)] [RX25 g l a bad] (fun _ => TTup [Is (str (Ms.attM false (l.drop a) bad).1.1), TSl 1 En.cS (Ms.attM false (l.drop a) bad).1.2]) (fun _ => [RX25 g l a' (Ms.attM false (l.drop a) bad).2.2]) := by
  obtain ⟨a1, h1, h2, c1⟩ := rdInner l a bad 48 hl ha
  refine ⟨a1, h1, h2, fun g => ?_⟩
  have hw2 := Ms.inner_w (l.drop a) bad 48
  have hw3 := Ms.wI_drop l a
  unfold Ms.attM Ms.innM Ms.attK
  dsimp only [Ms.xbM]
  clear h2
  generalize Ms.takeI (l.drop a) bad 48 = y at c1 hw2 ⊢
  generalize hpb : Ms.pbM false y = pb at c1 ⊢
  generalize Ms.allI y.1 = x0 at c1 hw2 ⊢
  generalize Ms.badI y.1 = b0 at c1 ⊢
  obtain ⟨i1, k1, k2, c2⟩ := rdBody x0 0 b0 4 (by omega) (Nat.zero_le _)
  rw [List.drop_zero] at k2 c2
  have e : Ms.textI x0 b0 = Ms.takeI x0 b0 4 := rfl
  rw [e]
  generalize Ms.takeI x0 b0 4 = p at c2 k2 ⊢
  obtain ⟨i2, k3, k4, c3⟩ := rdTexts x0 i1 p.2.2 49 (by omega) k1
  rw [k2] at k4 c3
  have c4 := fun g g2 => rdEnd g g2 l x0 a1 i2 pb (Ms.textsM false 49 p.2.1 p.2.2).2.2 (by omega) k3
  rw [k4] at c4
  generalize Ms.textsM false 49 p.2.1 p.2.2 = v at c3 c4 ⊢
  have d1 : ∀ g, CallsC Tryz.prog 46 [Is (pAt g 0), okI .u8 48] [RX25 g l a bad] (fun v => Is (pAt (blk v) 0)) (fun v => [RX25 g l a1 pb, RX25 (blk v) x0 0 b0]) := c1
  have d2 : ∀ g, CallsC Tryz.prog 47 [Is (pAt g 0), okI .u8 4] [RX25 g x0 0 b0] (fun _ => TBytes p.1) (fun _ => [RX25 g x0 i1 p.2.2]) := c2
  have d3 : ∀ g, CallsC Tryz.prog 116 [Is (pAt g 0), okI .u8 49] [RX25 g x0 i1 p.2.2] (fun _ => TSl 1 En.cS v.1) (fun _ => [RX25 g x0 i2 v.2.2]) := c3
  clear c1 c2 c3 k2 k4 e
  refine CallsC.of Tryz.call82 Tryz.func82 rfl Tryz.ntmps82 rfl fun w0 G0 S0 hs ho => ?_
  exact run trivial
set_option maxHeartbeats 4000000 in
theorem rdAttrs (l : List Ms.It) (a : Nat) (bad : Bool) (hl : Ms.wI l ≤ 100000000) (ha : a ≤ l.length) : ∃ a', a' ≤ l.length ∧ l.drop a' = (Ms.attrsM false (l.drop a) bad).2.1 ∧ ∀ g, CallsC Tryz.prog 48 [Is (pAt g 0)] [RX25 g l a bad] (fun _ => TSl 2 En.cAttr (Ms.attrsM false (l.drop a) bad).1) (fun _ => [RX25 g l a' (Ms.attrsM false (l.drop a) bad).2.2]) := by
  obtain ⟨a1, h1, h2, c1⟩ := rdInner l a bad 48 hl ha
  refine ⟨a1, h1, h2, fun g => ?_⟩
  have hw2 := Ms.inner_w (l.drop a) bad 48
  have hw3 := Ms.wI_drop l a
  unfold Ms.attrsM
  conv => enter [6, v]; unfold Ms.innM
  conv => enter [5, v]; unfold Ms.innM
  dsimp only [Ms.xbM]
  clear h2
  generalize Ms.takeI (l.drop a) bad 48 = y at c1 hw2 ⊢
  generalize hpb : Ms.pbM false y = pb at c1 ⊢
  generalize hx : Ms.allI y.1 = x0 at c1 hw2 ⊢
  generalize hb : Ms.badI y.1 = b0 at c1 ⊢
  have hlx := Ms.wI_len x0
  have d1 : ∀ g, CallsC Tryz.prog 46 [Is (pAt g 0), okI .u8 48] [RX25 g l a bad] (fun v => Is (pAt (blk v) 0)) (fun v => [RX25 g l a1 pb, RX25 (blk v) x0 0 b0]) := c1
  clear c1
  refine CallsC.of Tryz.call48 Tryz.func48 rfl Tryz.ntmps48 rfl fun w0 G0 S0 hs ho => ?_
  refine run ?_
  intro vx
  refine HT.loopX (σ := (List En.Attr × Nat × Bool) × Value) [0, 2, 3] (fun t' => [(4, TAnd (Is t'.2) (TSl 2 En.cAttr t'.1.1))]) (fun t' => [RX25 g l a1 pb, RX25 (blk vx) x0 t'.1.2.1 t'.1.2.2, ownSl t'.2 2 64]) (fun t' => t'.1.2.1 ≤ x0.length ∧ (t'.1.2.2 = false → t'.1.1.length ≤ t'.1.2.1) ∧ t'.1.1.length ≤ x0.length + 1 ∧ t'.1.1 ++ (Ms.repA (Ms.attrM false) (x0.drop t'.1.2.1) t'.1.2.2).1 = (Ms.repA (Ms.attrM false) x0 b0).1 ∧ (Ms.repA (Ms.attrM false) (x0.drop t'.1.2.1) t'.1.2.2).2 = (Ms.repA (Ms.attrM false) x0 b0).2) (fun t' => x0.length - t'.1.2.1 + (if t'.1.2.2 then 0 else 1)) (([], 0, b0), .slice none 0 0) ⟨Nat.zero_le _, fun _ => by simp, by simp, rfl, rfl⟩ (run trivial) (run trivial) ?_
  clear d1 hb
  rintro ⟨⟨acc, i, b⟩, w⟩ ⟨h1, h2, h5, h3, h4⟩
  dsimp only at h1 h2 h3 h4 h5 ⊢
  by_cases hgo : x0.drop i ≠ [] ∧ b = false
  · obtain ⟨hne, rfl⟩ := hgo
    rw [Ms.repA_go (Ms.attrM_eats false) hne] at h3 h4
    dsimp only at h3 h4
    have h2 := h2 rfl
    have hi := Ms.drop_ne.1 hne
    have hea := Ms.attrM_eats false (x0.drop i)
    have hlen : (Ms.attrM false (x0.drop i) false).2.1.length ≤ (x0.drop i).length := Ms.takeI_len _ _ _
    obtain ⟨i', k1, k2, c2⟩ := rdAttr x0 i false (by omega) h1
    have e : Ms.attrM false (x0.drop i) false = (⟨(Ms.attM false (x0.drop i) false).1.1, (Ms.attM false (x0.drop i) false).1.2⟩, (Ms.attM false (x0.drop i) false).2) := rfl
    rw [e] at h3 h4 hea hlen
    dsimp only at h3 h4 hea hlen
    rw [← k2] at h3 h4 hea hlen
    clear e k2
    generalize Ms.attM false (x0.drop i) false = z at c2 hea hlen h3 h4
    rw [List.length_drop, List.length_drop] at hea hlen
    refine run ?_
    intro v0 v' _
    refine HX.roundX ((acc ++ [⟨z.1.1, z.1.2⟩], i', z.2.2), v') ⟨⟨by dsimp only; omega, fun hz => by have := hea hz; simp only [List.length_append, List.length_singleton]; omega, by simp only [List.length_append, List.length_singleton]; omega, by dsimp only; rw [List.append_assoc]; exact h3, h4⟩, ?_⟩ rfl (run trivial) (run trivial)
    dsimp only
    split
    · simp; omega
    · rename_i hz
      have := hea (by simpa using hz)
      simp; omega
  · have hend := Ms.repA_end (step := Ms.attrM false) hgo
    rw [hend] at h3 h4
    rw [List.append_nil] at h3
    dsimp only at h4
    rw [← h3, ← h4]
    have c2 := fun g g2 => rdEnd g g2 l x0 a1 i pb b (by omega) h1
    refine run ?_
    intros
    rename_i hh
    exact absurd ⟨Ms.drop_ne.2 (by omega), hh.1⟩ hgo
set_option maxHeartbeats 4000000 in
theorem rdMods (l : List Ms.It) (a : Nat) (bad : Bool) (hl : Ms.wI l ≤ 100000000) (ha : a ≤ l.length) : ∃ a', a' ≤ l.length ∧ l.drop a' = (Ms.modsM false (l.drop a) bad).2.1 ∧ ∀ g, CallsC Tryz.prog 89 [Is (pAt g 0)] [RX25 g l a bad] (fun _ => TSl 3 Ms.cMod (Ms.modsM false (l.drop a) bad).1) (fun _ => [RX25 g l a' (Ms.modsM false (l.drop a) bad).2.2]) := by
  obtain ⟨a1, h1, h2, c1⟩ := rdInner l a bad 48 hl ha
  refine ⟨a1, h1, h2, fun g => ?_⟩
  have hw2 := Ms.inner_w (l.drop a) bad 48
  have hw3 := Ms.wI_drop l a
  unfold Ms.modsM
  conv => enter [6, v]; unfold Ms.innM
  conv => enter [5, v]; unfold Ms.innM
  dsimp only [Ms.xbM]
  clear h2
  generalize Ms.takeI (l.drop a) bad 48 = y at c1 hw2 ⊢
  generalize hpb : Ms.pbM false y = pb at c1 ⊢
  generalize hx : Ms.allI y.1 = x0 at c1 hw2 ⊢
  generalize hb : Ms.badI y.1 = b0 at c1 ⊢
  have hlx := Ms.wI_len x0
  have d1 : ∀ g, CallsC Tryz.prog 46 [Is (pAt g 0), okI .u8 48] [RX25 g l a bad] (fun v => Is (pAt (blk v) 0)) (fun v => [RX25 g l a1 pb, RX25 (blk v) x0 0 b0]) := c1
  clear c1
  refine CallsC.of Tryz.call89 Tryz.func89 rfl Tryz.ntmps89 rfl fun w0 G0 S0 hs ho => ?_
  refine run ?_
  intro vx
  refine HT.loopX (σ := (List Ms.Mod × Nat × Bool) × Value) [0, 2, 3] (fun t' => [(4, TAnd (Is t'.2) (TSl 3 Ms.cMod t'.1.1))]) (fun t' => [RX25 g l a1 pb, RX25 (blk vx) x0 t'.1.2.1 t'.1.2.2, ownSl t'.2 3 103]) (fun t' => t'.1.2.1 ≤ x0.length ∧ (t'.1.2.2 = false → t'.1.1.length ≤ t'.1.2.1) ∧ t'.1.1.length ≤ x0.length + 1 ∧ t'.1.1 ++ (Ms.repA (Ms.modM false) (x0.drop t'.1.2.1) t'.1.2.2).1 = (Ms.repA (Ms.modM false) x0 b0).1 ∧ (Ms.repA (Ms.modM false) (x0.drop t'.1.2.1) t'.1.2.2).2 = (Ms.repA (Ms.modM false) x0 b0).2) (fun t' => x0.length - t'.1.2.1 + (if t'.1.2.2 then 0 else 1)) (([], 0, b0), .slice none 0 0) ⟨Nat.zero_le _, fun _ => by simp, by simp, rfl, rfl⟩ (run trivial) (run trivial) ?_
  clear d1 hb
  rintro ⟨⟨acc, i, b⟩, w⟩ ⟨h1, h2, h5, h3, h4⟩
  dsimp only at h1 h2 h3 h4 h5 ⊢
  by_cases hgo : x0.drop i ≠ [] ∧ b = false
  · obtain ⟨hne, rfl⟩ := hgo
    rw [Ms.repA_go (Ms.modM_eats false) hne] at h3 h4
    dsimp only at h3 h4
    have h2 := h2 rfl
    have hi := Ms.drop_ne.1 hne
    have hea := Ms.modM_eats false (x0.drop i)
    have hlen : (Ms.modM false (x0.drop i) false).2.1.length ≤ (x0.drop i).length := Ms.takeI_len _ _ _
    obtain ⟨i', k1, k2, c2⟩ := rdInner x0 i false 48 (by omega) h1
    have e : Ms.modM false (x0.drop i) false = (let y := Ms.takeI (x0.drop i) false 48; let k := Ms.numR (Ms.allI y.1) (Ms.badI y.1) 10 0 2; let a := Ms.attM false k.2.1 k.2.2; (⟨k.1, a.1.1, a.1.2⟩, y.2.1, Ms.endI (Ms.pbM false y) a.2.2 a.2.1)) := rfl
    rw [e] at h3 h4 hea hlen
    have hw4 := Ms.inner_w (x0.drop i) false 48
    have hw5 := Ms.wI_drop x0 i
    generalize Ms.takeI (x0.drop i) false 48 = y2 at c2 hea hlen h3 h4 hw4 k2
    dsimp only at hea hlen h3 h4
    rw [← k2] at h3 h4 hea hlen
    clear e k2
    generalize Ms.pbM false y2 = p2 at c2 hea h3 h4
    generalize Ms.allI y2.1 = x2 at c2 hea h3 h4 hw4
    generalize Ms.badI y2.1 = b2 at c2 hea h3 h4
    rw [List.length_drop, List.length_drop] at hlen
    rw [List.length_drop, List.length_drop] at hea
    obtain ⟨j1, k3, k4, c3⟩ := rdNum x2 0 b2 10 0 2 (by omega) (Nat.zero_le _)
    rw [List.drop_zero] at k4 c3
    generalize Ms.numR x2 b2 10 0 2 = k at c3 hea h3 h4 k4
    obtain ⟨j2, k5, k6, c4⟩ := rdAttr x2 j1 k.2.2 (by omega) k3
    rw [k4] at k6 c4
    generalize Ms.attM false k.2.1 k.2.2 = at' at c4 hea h3 h4 k6
    have c5 := fun g g2 => rdEnd g g2 x0 x2 i' j2 p2 at'.2.2 (by omega) k5
    rw [k6] at c5
    have d2 : ∀ g, CallsC Tryz.prog 46 [Is (pAt g 0), okI .u8 48] [RX25 g x0 i false] (fun v => Is (pAt (blk v) 0)) (fun v => [RX25 g x0 i' p2, RX25 (blk v) x2 0 b2]) := c2
    have d3 : ∀ g, CallsC Tryz.prog 44 [Is (pAt g 0), okI .u8 10, okI .i64 0, okI .i64 2] [RX25 g x2 0 b2] (fun _ => okI .i64 k.1) (fun _ => [RX25 g x2 j1 k.2.2]) := c3
    clear c2 c3 k4 k6
    refine run ?_
    intro v0 v1 v' _
    refine HX.roundX ((acc ++ [⟨k.1, at'.1.1, at'.1.2⟩], i', Ms.endI p2 at'.2.2 at'.2.1), v') ⟨⟨by dsimp only; omega, fun hz => by have := hea hz; simp only [List.length_append, List.length_singleton]; omega, by simp only [List.length_append, List.length_singleton]; omega, by dsimp only; rw [List.append_assoc]; exact h3, h4⟩, ?_⟩ rfl (run trivial) (run trivial)
    dsimp only
    split
    · simp; omega
    · rename_i hz
      have := hea (by simpa using hz)
      simp; omega
  · have hend := Ms.repA_end (step := Ms.modM false) hgo
    rw [hend] at h3 h4
    rw [List.append_nil] at h3
    dsimp only at h4
    rw [← h3, ← h4]
    have c2 := fun g g2 => rdEnd g g2 l x0 a1 i pb b (by omega) h1
    refine run ?_
    intros
    rename_i hh
    exact absurd ⟨Ms.drop_ne.2 (by omega), hh.1⟩ hgo
end Go.Proofs.YtgaahjmgneallaaGreat
