/-
  The contracts of the program's request and Decode.
  What is read out of bytes is bounded by them. Nothing here speaks of a program.
  A connection's bytes as requests: plain. Nothing here speaks of a program; no conditions.
  The contract of the program's Decode.
  The contracts of a connection's next and Take; of the law's requests.
-/
import Derived.Test.YtkpghepeagafoaaGreatJat
import Derived.Test.YtkpghepeagafoaaGreatJao
import Derived.Test.YtkpghepeagafoaaGreatJap
import Derived.Test.YtkpghepeagafoaaGreatJas
set_option linter.unusedSimpArgs false
set_option linter.unusedVariables false
set_option linter.unusedVariables false
namespace Go.Ms
open Go.Vk
theorem opP_bad' {l : List It} {bad : Bool} (h : l = [] ∨ bad = true) : opP l bad = (zR, l, true) := by
  cases l with
  | nil => rfl
  | cons x r =>
    have : bad = true := by simpa using h
    rw [this]; rfl
theorem opP_x (x : It) (r : List It) : opP (x :: r) false = if x.1 = 66 then ({ zR with kind := 2 }, r, decide (0 < x.2.length)) else if x.1 = 74 then ({ zR with kind := 10, dn := x.2 }, r, false) else if x.1 = 80 then ({ zR with kind := 16, which := (numI (x :: r) false 80).1 }, (numI (x :: r) false 80).2) else innM true x.1 (opKP ((x.1.toNat : Int) - 96)) (x :: r) false := by
  show (if (false : Bool) = true then (zR, x :: r, true) else _) = _
  rw [if_neg (by simp)]
  rfl
theorem op99_w (l : List It) (bad : Bool) : wI (srchP l bad).2.1 ≤ wI l := by
  unfold srchP
  dsimp only
  refine Nat.le_trans (innM_w _ _ _ _ _) ?_
  refine Nat.le_trans (filtP_w _ _ _).1 ?_
  refine Nat.le_trans (truthI_w _ _) ?_
  refine Nat.le_trans (numI_w _ _ _) ?_
  refine Nat.le_trans (numI_w _ _ _) ?_
  refine Nat.le_trans (numI_w _ _ _) ?_
  refine Nat.le_trans (numI_w _ _ _) ?_
  exact textI_w _ _
theorem op102_w (l : List It) (bad : Bool) : wI (modfM true l bad).2.1 ≤ wI l := Nat.le_trans (innM_w _ _ _ _ _) (textI_w _ _)
theorem op104_w (l : List It) (bad : Bool) : wI (addM true l bad).2.1 ≤ wI l := Nat.le_trans (innM_w _ _ _ _ _) (textI_w _ _)
theorem mayI_w (l : List It) (bad : Bool) (t : UInt8) : wI (mayI l bad t).2.1 ≤ wI l := by
  unfold mayI
  split
  · exact take1_w _ _ _
  · exact Nat.le_refl _
theorem op108_w (l : List It) (bad : Bool) : wI (renI l bad).2.1 ≤ wI l := by
  unfold renI
  dsimp only
  refine Nat.le_trans (mayI_w _ _ _) ?_
  refine Nat.le_trans (truthI_w _ _) ?_
  exact Nat.le_trans (textI_w _ _) (textI_w _ _)
theorem op110_w (l : List It) (bad : Bool) : wI (cmpM true l bad).2.1 ≤ wI l := Nat.le_trans (innM_w _ _ _ _ _) (textI_w _ _)
end Go.Ms
set_option maxRecDepth 8000
set_option linter.unusedVariables false
namespace Go.Proofs.YtkpghepeagafoaaGreat
open Go.Vk
attribute [local irreducible] HT HX RegS RegA RegM OpP OpC AltT
attribute [local irreducible] Ber.tagB Ber.lenB Ber.intB Ber.allE Ber.fromIntB Ber.nextB Ms.midB Ms.kindT Ms.textI Ms.numI Ms.truthI Ms.filtP Ms.textsM Ms.modsM Ms.attrsM Ms.opP Ms.bindP Ms.srchP Ms.modfM Ms.addM Ms.renI Ms.cmpM
set_option maxHeartbeats 4000000 in
theorem miReqBad (g g2 : Nat) (num : Int) (l : List Ms.It) (bad : Bool) (hl : Ms.wI l ≤ 100000000) (hc : l = [] ∨ bad = true) : CallsC Tryz.prog 46 [Is (pAt g 0), Is (pAt g2 0)] [IX g l bad, ownP g2 49 (Ms.zReq num 0)] (fun _ => TTup []) (fun _ => [IX g (Ms.opP l bad).2.1 (Ms.opP l bad).2.2, ownP g2 49 (Ms.cReq (Ms.withNum (Ms.opP l bad).1 num))]) := by
  rw [Ms.opP_bad' hc]
  unfold Ms.withNum
  dsimp only [Ms.cReq]
  have hle := Ms.wI_len l
  cases bad with
  | true =>
    clear hc
    refine CallsC.of Tryz.call46 Tryz.func46 rfl Tryz.ntmps46 rfl fun w0 G0 S0 hs ho => ?_
    refine run ?_
    and_intros <;> intros <;> rfl
  | false =>
    have h0 : l.length = 0 := by
      rcases hc with h | h
      · rw [h]; rfl
      · cases h
    have h0' : (l.length : Int) = 0 := by omega
    clear hc
    refine CallsC.of Tryz.call46 Tryz.func46 rfl Tryz.ntmps46 rfl fun w0 G0 S0 hs ho => ?_
    refine run ?_
    and_intros <;> intros <;> rfl
set_option maxHeartbeats 4000000 in
theorem miReq66 (g g2 : Nat) (num : Int) (x : Ms.It) (r : List Ms.It) (hl : Ms.wI (x :: r) ≤ 100000000) (ht : x.1 = 66) : CallsC Tryz.prog 46 [Is (pAt g 0), Is (pAt g2 0)] [IX g (x :: r) false, ownP g2 49 (Ms.zReq num 0)] (fun _ => TTup []) (fun _ => [IX g (Ms.opP (x :: r) false).2.1 (Ms.opP (x :: r) false).2.2, ownP g2 49 (Ms.cReq (Ms.withNum (Ms.opP (x :: r) false).1 num))]) := by
  rw [Ms.opP_x, if_pos ht]
  unfold Ms.withNum
  dsimp only
  have hle := Ms.wI_len (x :: r)
  have et : Ms.takeI (x :: r) false x.1 = (x.2, r, false) := by
    show (if false = false ∧ x.1 = x.1 then (x.2, r, false) else ([], x :: r, true)) = _
    rw [if_pos ⟨rfl, rfl⟩]
  rw [ht] at et
  obtain ⟨l, hx⟩ : ∃ l : List Ms.It, l = x :: r := ⟨_, rfl⟩
  have f1 : ¬ (l.length : Int) = 0 := by rw [hx]; simp; omega
  have f2 : ((l.getD 0 default).1.toNat : Int) = 66 := by rw [hx, List.getD_cons_zero, ht]; rfl
  have f3 : ((l.getD (nat_lit 0) default).1.toNat : Int) = 66 := f2
  have c1 : ∀ g, CallsC Tryz.prog 48 [Is (pAt g 0), okI .u8 ((l.getD 0 default).1.toNat : Int)] [IX g l false] (fun _ => TBytes x.2) (fun _ => [IX g r false]) := fun g => by
    have h := miTake g (x :: r) false 66 (by omega)
    rw [et] at h
    rw [f2, hx]; exact h
  have hx2 := Ms.wI_cons x r
  rw [← hx] at hle hl hx2 ⊢
  clear hx et
  dsimp only [Ms.cReq]
  refine CallsC.of Tryz.call46 Tryz.func46 rfl Tryz.ntmps46 rfl fun w0 G0 S0 hs ho => ?_
  refine run ?_
  and_intros <;> intros <;> rfl
set_option maxHeartbeats 4000000 in
theorem miReq74 (g g2 : Nat) (num : Int) (x : Ms.It) (r : List Ms.It) (hl : Ms.wI (x :: r) ≤ 100000000) (ht : x.1 = 74) : CallsC Tryz.prog 46 [Is (pAt g 0), Is (pAt g2 0)] [IX g (x :: r) false, ownP g2 49 (Ms.zReq num 0)] (fun _ => TTup []) (fun _ => [IX g (Ms.opP (x :: r) false).2.1 (Ms.opP (x :: r) false).2.2, ownP g2 49 (Ms.cReq (Ms.withNum (Ms.opP (x :: r) false).1 num))]) := by
  rw [Ms.opP_x, if_neg (by rw [ht]; decide), if_pos ht]
  unfold Ms.withNum
  dsimp only
  have hle := Ms.wI_len (x :: r)
  have et : Ms.takeI (x :: r) false x.1 = (x.2, r, false) := by
    show (if false = false ∧ x.1 = x.1 then (x.2, r, false) else ([], x :: r, true)) = _
    rw [if_pos ⟨rfl, rfl⟩]
  rw [ht] at et
  obtain ⟨l, hx⟩ : ∃ l : List Ms.It, l = x :: r := ⟨_, rfl⟩
  have f1 : ¬ (l.length : Int) = 0 := by rw [hx]; simp; omega
  have f2 : ((l.getD 0 default).1.toNat : Int) = 74 := by rw [hx, List.getD_cons_zero, ht]; rfl
  have f3 : ((l.getD (nat_lit 0) default).1.toNat : Int) = 74 := f2
  have c1 : ∀ g, CallsC Tryz.prog 48 [Is (pAt g 0), okI .u8 ((l.getD 0 default).1.toNat : Int)] [IX g l false] (fun _ => TBytes x.2) (fun _ => [IX g r false]) := fun g => by
    have h := miTake g (x :: r) false 74 (by omega)
    rw [et] at h
    rw [f2, hx]; exact h
  rw [← hx] at hle hl ⊢
  clear hx et
  dsimp only [Ms.cReq]
  refine CallsC.of Tryz.call46 Tryz.func46 rfl Tryz.ntmps46 rfl fun w0 G0 S0 hs ho => ?_
  refine run ?_
  and_intros <;> intros <;> rfl
set_option maxHeartbeats 4000000 in
theorem miReq80 (g g2 : Nat) (num : Int) (x : Ms.It) (r : List Ms.It) (hl : Ms.wI (x :: r) ≤ 100000000) (ht : x.1 = 80) : CallsC Tryz.prog 46 [Is (pAt g 0), Is (pAt g2 0)] [IX g (x :: r) false, ownP g2 49 (Ms.zReq num 0)] (fun _ => TTup []) (fun _ => [IX g (Ms.opP (x :: r) false).2.1 (Ms.opP (x :: r) false).2.2, ownP g2 49 (Ms.cReq (Ms.withNum (Ms.opP (x :: r) false).1 num))]) := by
  rw [Ms.opP_x, if_neg (by rw [ht]; decide), if_neg (by rw [ht]; decide), if_pos ht]
  unfold Ms.withNum
  dsimp only
  have hle := Ms.wI_len (x :: r)
  have et : Ms.takeI (x :: r) false x.1 = (x.2, r, false) := by
    show (if false = false ∧ x.1 = x.1 then (x.2, r, false) else ([], x :: r, true)) = _
    rw [if_pos ⟨rfl, rfl⟩]
  rw [ht] at et
  obtain ⟨l, hx⟩ : ∃ l : List Ms.It, l = x :: r := ⟨_, rfl⟩
  have f1 : ¬ (l.length : Int) = 0 := by rw [hx]; simp; omega
  have f2 : ((l.getD 0 default).1.toNat : Int) = 80 := by rw [hx, List.getD_cons_zero, ht]; rfl
  have f3 : ((l.getD (nat_lit 0) default).1.toNat : Int) = 80 := f2
  have c1 : ∀ g, CallsC Tryz.prog 45 [Is (pAt g 0), okI .u8 ((l.getD 0 default).1.toNat : Int)] [IX g l false] (fun _ => okI .i64 (Ms.numI (x :: r) false 80).1) (fun _ => [IX g (Ms.numI (x :: r) false 80).2.1 (Ms.numI (x :: r) false 80).2.2]) := fun g => by
    have h := miNum g (x :: r) false 80 (by omega)
    rw [f2, hx]; exact h
  generalize Ms.numI (x :: r) false 80 = n at c1 ⊢
  rw [← hx] at hle hl ⊢
  clear hx et
  dsimp only [Ms.cReq]
  refine CallsC.of Tryz.call46 Tryz.func46 rfl Tryz.ntmps46 rfl fun w0 G0 S0 hs ho => ?_
  refine run ?_
  and_intros <;> intros <;> rfl
set_option maxHeartbeats 4000000 in
theorem miReq96 (g g2 : Nat) (num : Int) (x : Ms.It) (r : List Ms.It) (hl : Ms.wI (x :: r) ≤ 100000000) (ht : x.1 = 96) : CallsC Tryz.prog 46 [Is (pAt g 0), Is (pAt g2 0)] [IX g (x :: r) false, ownP g2 49 (Ms.zReq num 0)] (fun _ => TTup []) (fun _ => [IX g (Ms.opP (x :: r) false).2.1 (Ms.opP (x :: r) false).2.2, ownP g2 49 (Ms.cReq (Ms.withNum (Ms.opP (x :: r) false).1 num))]) := by
  rw [Ms.opP_x, if_neg (by rw [ht]; decide), if_neg (by rw [ht]; decide), if_neg (by rw [ht]; decide)]
  have eK : Ms.opKP ((x.1.toNat : Int) - 96) = Ms.bindP := by
    funext l b
    rw [ht]
    unfold Ms.opKP
    simp
  rw [eK, Ms.inn_at]
  unfold Ms.withNum
  dsimp only
  have hle := Ms.wI_len (x :: r)
  have et : Ms.takeI (x :: r) false x.1 = (x.2, r, false) := by
    show (if false = false ∧ x.1 = x.1 then (x.2, r, false) else ([], x :: r, true)) = _
    rw [if_pos ⟨rfl, rfl⟩]
  have c1 := fun g => miInner g (x :: r) false x.1 hl
  rw [et] at c1
  dsimp only at c1
  rw [Bool.or_false] at c1
  have hw2 := Ms.inner_w (x :: r) false x.1
  rw [et] at hw2
  dsimp only at hw2
  clear et eK
  obtain ⟨l, hx⟩ : ∃ l : List Ms.It, l = x :: r := ⟨_, rfl⟩
  have f1 : ¬ (l.length : Int) = 0 := by rw [hx]; simp; omega
  have f2 : ((l.getD 0 default).1.toNat : Int) = 96 := by rw [hx, List.getD_cons_zero, ht]; rfl
  have f3 : ((l.getD (nat_lit 0) default).1.toNat : Int) = 96 := f2
  have f0 : (l.getD 0 default).1 = x.1 := by rw [hx, List.getD_cons_zero]
  rw [← f0, ← hx] at c1
  rw [← hx] at hle hl hw2 ⊢
  generalize Ms.allI x.2 = x0 at c1 hw2 ⊢
  generalize Ms.badI x.2 = b0 at c1 ⊢
  clear hx
  have w3 := Ms.numI_w x0 b0 2
  have l0 := Ms.wI_len x0
  unfold Ms.bindP
  dsimp only
  have c2 : ∀ g, CallsC Tryz.prog 45 [Is (pAt g 0), okI .u8 2] [IX g x0 b0] (fun _ => okI .i64 (Ms.numI x0 b0 2).1) (fun _ => [IX g (Ms.numI x0 b0 2).2.1 (Ms.numI x0 b0 2).2.2]) := fun g => miNum g x0 b0 2 (by omega)
  generalize Ms.numI x0 b0 2 = n at c2 w3 ⊢
  have c3 := fun g => miText g n.2.1 (decide (n.1 ≠ 3) || n.2.2) (by omega)
  have w4 := Ms.textI_w n.2.1 (decide (n.1 ≠ 3) || n.2.2)
  generalize Ms.textI n.2.1 (decide (n.1 ≠ 3) || n.2.2) = d at c3 w4 ⊢
  have l1 := Ms.wI_len d.2.1
  have c5 : ∀ g, CallsC Tryz.prog 48 [Is (pAt g 0), okI .u8 128] [IX g d.2.1 d.2.2] (fun _ => TBytes (Ms.takeI d.2.1 d.2.2 128).1) (fun _ => [IX g (Ms.takeI d.2.1 d.2.2 128).2.1 (Ms.takeI d.2.1 d.2.2 128).2.2]) := fun g => miTake g d.2.1 d.2.2 128 (by omega)
  have w5 := Ms.take1_w d.2.1 d.2.2 128
  generalize Ms.takeI d.2.1 d.2.2 128 = p at c5 w5 ⊢
  have c4 := fun g g2 => miEnds g g2 r p.2.1 false p.2.2 (by omega)
  dsimp only [Ms.cReq]
  refine CallsC.of Tryz.call46 Tryz.func46 rfl Tryz.ntmps46 rfl fun w0 G0 S0 hs ho => ?_
  refine run ?_
  and_intros <;> intros <;> rfl
set_option maxHeartbeats 4000000 in
theorem miReq99 (g g2 : Nat) (num : Int) (x : Ms.It) (r : List Ms.It) (hl : Ms.wI (x :: r) ≤ 100000000) (ht : x.1 = 99) : CallsC Tryz.prog 46 [Is (pAt g 0), Is (pAt g2 0)] [IX g (x :: r) false, ownP g2 49 (Ms.zReq num 0)] (fun _ => TTup []) (fun _ => [IX g (Ms.opP (x :: r) false).2.1 (Ms.opP (x :: r) false).2.2, ownP g2 49 (Ms.cReq (Ms.withNum (Ms.opP (x :: r) false).1 num))]) := by
  rw [Ms.opP_x, if_neg (by rw [ht]; decide), if_neg (by rw [ht]; decide), if_neg (by rw [ht]; decide)]
  have eK : Ms.opKP ((x.1.toNat : Int) - 96) = Ms.srchP := by
    funext l b
    rw [ht]
    unfold Ms.opKP
    simp
  rw [eK, Ms.inn_at]
  unfold Ms.withNum
  dsimp only
  have hle := Ms.wI_len (x :: r)
  have et : Ms.takeI (x :: r) false x.1 = (x.2, r, false) := by
    show (if false = false ∧ x.1 = x.1 then (x.2, r, false) else ([], x :: r, true)) = _
    rw [if_pos ⟨rfl, rfl⟩]
  have c1 := fun g => miInner g (x :: r) false x.1 hl
  rw [et] at c1
  dsimp only at c1
  rw [Bool.or_false] at c1
  have hw2 := Ms.inner_w (x :: r) false x.1
  rw [et] at hw2
  dsimp only at hw2
  clear et eK
  obtain ⟨l, hx⟩ : ∃ l : List Ms.It, l = x :: r := ⟨_, rfl⟩
  have f1 : ¬ (l.length : Int) = 0 := by rw [hx]; simp; omega
  have f2 : ((l.getD 0 default).1.toNat : Int) = 99 := by rw [hx, List.getD_cons_zero, ht]; rfl
  have f3 : ((l.getD (nat_lit 0) default).1.toNat : Int) = 99 := f2
  have f0 : (l.getD 0 default).1 = x.1 := by rw [hx, List.getD_cons_zero]
  rw [← f0, ← hx] at c1
  rw [← hx] at hle hl hw2 ⊢
  generalize Ms.allI x.2 = x0 at c1 hw2 ⊢
  generalize Ms.badI x.2 = b0 at c1 ⊢
  clear hx
  have c2 : ∀ gx, CallsC Tryz.prog 77 [Is (pAt gx 0), Is (pAt g2 0)] [IX gx x0 b0, ownP g2 49 (Ms.zReq num (((l.getD 0 default).1.toNat : Int) - 96))] (fun _ => TTup []) (fun _ => [IX gx (Ms.srchP x0 b0).2.1 (Ms.srchP x0 b0).2.2, ownP g2 49 (Ms.cReq (Ms.withNum (Ms.srchP x0 b0).1 num))]) := by
    rw [show ((l.getD 0 default).1.toNat : Int) - 96 = 3 by omega]
    exact fun gx => miSearch gx g2 num x0 b0 (by omega)
  have w3 : Ms.wI (Ms.srchP x0 b0).2.1 ≤ Ms.wI x0 := Ms.op99_w x0 b0
  generalize Ms.srchP x0 b0 = z at c2 w3 ⊢
  have c4 := fun g g2 => miEnds g g2 r z.2.1 false z.2.2 (by omega)
  unfold Ms.withNum at c2
  dsimp only [Ms.cReq] at c2 ⊢
  refine CallsC.of Tryz.call46 Tryz.func46 rfl Tryz.ntmps46 rfl fun w0 G0 S0 hs ho => ?_
  exact run trivial
set_option maxHeartbeats 4000000 in
theorem miReq102 (g g2 : Nat) (num : Int) (x : Ms.It) (r : List Ms.It) (hl : Ms.wI (x :: r) ≤ 100000000) (ht : x.1 = 102) : CallsC Tryz.prog 46 [Is (pAt g 0), Is (pAt g2 0)] [IX g (x :: r) false, ownP g2 49 (Ms.zReq num 0)] (fun _ => TTup []) (fun _ => [IX g (Ms.opP (x :: r) false).2.1 (Ms.opP (x :: r) false).2.2, ownP g2 49 (Ms.cReq (Ms.withNum (Ms.opP (x :: r) false).1 num))]) := by
  rw [Ms.opP_x, if_neg (by rw [ht]; decide), if_neg (by rw [ht]; decide), if_neg (by rw [ht]; decide)]
  have eK : Ms.opKP ((x.1.toNat : Int) - 96) = Ms.modfM true := by
    funext l b
    rw [ht]
    unfold Ms.opKP
    simp
  rw [eK, Ms.inn_at]
  unfold Ms.withNum
  dsimp only
  have hle := Ms.wI_len (x :: r)
  have et : Ms.takeI (x :: r) false x.1 = (x.2, r, false) := by
    show (if false = false ∧ x.1 = x.1 then (x.2, r, false) else ([], x :: r, true)) = _
    rw [if_pos ⟨rfl, rfl⟩]
  have c1 := fun g => miInner g (x :: r) false x.1 hl
  rw [et] at c1
  dsimp only at c1
  rw [Bool.or_false] at c1
  have hw2 := Ms.inner_w (x :: r) false x.1
  rw [et] at hw2
  dsimp only at hw2
  clear et eK
  obtain ⟨l, hx⟩ : ∃ l : List Ms.It, l = x :: r := ⟨_, rfl⟩
  have f1 : ¬ (l.length : Int) = 0 := by rw [hx]; simp; omega
  have f2 : ((l.getD 0 default).1.toNat : Int) = 102 := by rw [hx, List.getD_cons_zero, ht]; rfl
  have f3 : ((l.getD (nat_lit 0) default).1.toNat : Int) = 102 := f2
  have f0 : (l.getD 0 default).1 = x.1 := by rw [hx, List.getD_cons_zero]
  rw [← f0, ← hx] at c1
  rw [← hx] at hle hl hw2 ⊢
  generalize Ms.allI x.2 = x0 at c1 hw2 ⊢
  generalize Ms.badI x.2 = b0 at c1 ⊢
  clear hx
  have c2 : ∀ gx, CallsC Tryz.prog 78 [Is (pAt gx 0), Is (pAt g2 0)] [IX gx x0 b0, ownP g2 49 (Ms.zReq num (((l.getD 0 default).1.toNat : Int) - 96))] (fun _ => TTup []) (fun _ => [IX gx (Ms.modfM true x0 b0).2.1 (Ms.modfM true x0 b0).2.2, ownP g2 49 (Ms.cReq (Ms.withNum (Ms.modfM true x0 b0).1 num))]) := by
    rw [show ((l.getD 0 default).1.toNat : Int) - 96 = 6 by omega]
    exact fun gx => miOpModify gx g2 num x0 b0 (by omega)
  have w3 : Ms.wI (Ms.modfM true x0 b0).2.1 ≤ Ms.wI x0 := Ms.op102_w x0 b0
  generalize Ms.modfM true x0 b0 = z at c2 w3 ⊢
  have c4 := fun g g2 => miEnds g g2 r z.2.1 false z.2.2 (by omega)
  unfold Ms.withNum at c2
  dsimp only [Ms.cReq] at c2 ⊢
  refine CallsC.of Tryz.call46 Tryz.func46 rfl Tryz.ntmps46 rfl fun w0 G0 S0 hs ho => ?_
  exact run trivial
set_option maxHeartbeats 4000000 in
theorem miReq104 (g g2 : Nat) (num : Int) (x : Ms.It) (r : List Ms.It) (hl : Ms.wI (x :: r) ≤ 100000000) (ht : x.1 = 104) : CallsC Tryz.prog 46 [Is (pAt g 0), Is (pAt g2 0)] [IX g (x :: r) false, ownP g2 49 (Ms.zReq num 0)] (fun _ => TTup []) (fun _ => [IX g (Ms.opP (x :: r) false).2.1 (Ms.opP (x :: r) false).2.2, ownP g2 49 (Ms.cReq (Ms.withNum (Ms.opP (x :: r) false).1 num))]) := by
  rw [Ms.opP_x, if_neg (by rw [ht]; decide), if_neg (by rw [ht]; decide), if_neg (by rw [ht]; decide)]
  have eK : Ms.opKP ((x.1.toNat : Int) - 96) = Ms.addM true := by
    funext l b
    rw [ht]
    unfold Ms.opKP
    simp
  rw [eK, Ms.inn_at]
  unfold Ms.withNum
  dsimp only
  have hle := Ms.wI_len (x :: r)
  have et : Ms.takeI (x :: r) false x.1 = (x.2, r, false) := by
    show (if false = false ∧ x.1 = x.1 then (x.2, r, false) else ([], x :: r, true)) = _
    rw [if_pos ⟨rfl, rfl⟩]
  have c1 := fun g => miInner g (x :: r) false x.1 hl
  rw [et] at c1
  dsimp only at c1
  rw [Bool.or_false] at c1
  have hw2 := Ms.inner_w (x :: r) false x.1
  rw [et] at hw2
  dsimp only at hw2
  clear et eK
  obtain ⟨l, hx⟩ : ∃ l : List Ms.It, l = x :: r := ⟨_, rfl⟩
  have f1 : ¬ (l.length : Int) = 0 := by rw [hx]; simp; omega
  have f2 : ((l.getD 0 default).1.toNat : Int) = 104 := by rw [hx, List.getD_cons_zero, ht]; rfl
  have f3 : ((l.getD (nat_lit 0) default).1.toNat : Int) = 104 := f2
  have f0 : (l.getD 0 default).1 = x.1 := by rw [hx, List.getD_cons_zero]
  rw [← f0, ← hx] at c1
  rw [← hx] at hle hl hw2 ⊢
  generalize Ms.allI x.2 = x0 at c1 hw2 ⊢
  generalize Ms.badI x.2 = b0 at c1 ⊢
  clear hx
  have c2 : ∀ gx, CallsC Tryz.prog 78 [Is (pAt gx 0), Is (pAt g2 0)] [IX gx x0 b0, ownP g2 49 (Ms.zReq num (((l.getD 0 default).1.toNat : Int) - 96))] (fun _ => TTup []) (fun _ => [IX gx (Ms.addM true x0 b0).2.1 (Ms.addM true x0 b0).2.2, ownP g2 49 (Ms.cReq (Ms.withNum (Ms.addM true x0 b0).1 num))]) := by
    rw [show ((l.getD 0 default).1.toNat : Int) - 96 = 8 by omega]
    exact fun gx => miOpAdd gx g2 num x0 b0 (by omega)
  have w3 : Ms.wI (Ms.addM true x0 b0).2.1 ≤ Ms.wI x0 := Ms.op104_w x0 b0
  generalize Ms.addM true x0 b0 = z at c2 w3 ⊢
  have c4 := fun g g2 => miEnds g g2 r z.2.1 false z.2.2 (by omega)
  unfold Ms.withNum at c2
  dsimp only [Ms.cReq] at c2 ⊢
  refine CallsC.of Tryz.call46 Tryz.func46 rfl Tryz.ntmps46 rfl fun w0 G0 S0 hs ho => ?_
  exact run trivial
set_option maxHeartbeats 4000000 in
theorem miReq108 (g g2 : Nat) (num : Int) (x : Ms.It) (r : List Ms.It) (hl : Ms.wI (x :: r) ≤ 100000000) (ht : x.1 = 108) : CallsC Tryz.prog 46 [Is (pAt g 0), Is (pAt g2 0)] [IX g (x :: r) false, ownP g2 49 (Ms.zReq num 0)] (fun _ => TTup []) (fun _ => [IX g (Ms.opP (x :: r) false).2.1 (Ms.opP (x :: r) false).2.2, ownP g2 49 (Ms.cReq (Ms.withNum (Ms.opP (x :: r) false).1 num))]) := by
  rw [Ms.opP_x, if_neg (by rw [ht]; decide), if_neg (by rw [ht]; decide), if_neg (by rw [ht]; decide)]
  have eK : Ms.opKP ((x.1.toNat : Int) - 96) = Ms.renI := by
    funext l b
    rw [ht]
    unfold Ms.opKP
    simp
  rw [eK, Ms.inn_at]
  unfold Ms.withNum
  dsimp only
  have hle := Ms.wI_len (x :: r)
  have et : Ms.takeI (x :: r) false x.1 = (x.2, r, false) := by
    show (if false = false ∧ x.1 = x.1 then (x.2, r, false) else ([], x :: r, true)) = _
    rw [if_pos ⟨rfl, rfl⟩]
  have c1 := fun g => miInner g (x :: r) false x.1 hl
  rw [et] at c1
  dsimp only at c1
  rw [Bool.or_false] at c1
  have hw2 := Ms.inner_w (x :: r) false x.1
  rw [et] at hw2
  dsimp only at hw2
  clear et eK
  obtain ⟨l, hx⟩ : ∃ l : List Ms.It, l = x :: r := ⟨_, rfl⟩
  have f1 : ¬ (l.length : Int) = 0 := by rw [hx]; simp; omega
  have f2 : ((l.getD 0 default).1.toNat : Int) = 108 := by rw [hx, List.getD_cons_zero, ht]; rfl
  have f3 : ((l.getD (nat_lit 0) default).1.toNat : Int) = 108 := f2
  have f0 : (l.getD 0 default).1 = x.1 := by rw [hx, List.getD_cons_zero]
  rw [← f0, ← hx] at c1
  rw [← hx] at hle hl hw2 ⊢
  generalize Ms.allI x.2 = x0 at c1 hw2 ⊢
  generalize Ms.badI x.2 = b0 at c1 ⊢
  clear hx
  have c2 : ∀ gx, CallsC Tryz.prog 78 [Is (pAt gx 0), Is (pAt g2 0)] [IX gx x0 b0, ownP g2 49 (Ms.zReq num (((l.getD 0 default).1.toNat : Int) - 96))] (fun _ => TTup []) (fun _ => [IX gx (Ms.renI x0 b0).2.1 (Ms.renI x0 b0).2.2, ownP g2 49 (Ms.cReq (Ms.withNum (Ms.renI x0 b0).1 num))]) := by
    rw [show ((l.getD 0 default).1.toNat : Int) - 96 = 12 by omega]
    exact fun gx => miOpRename gx g2 num x0 b0 (by omega)
  have w3 : Ms.wI (Ms.renI x0 b0).2.1 ≤ Ms.wI x0 := Ms.op108_w x0 b0
  generalize Ms.renI x0 b0 = z at c2 w3 ⊢
  have c4 := fun g g2 => miEnds g g2 r z.2.1 false z.2.2 (by omega)
  unfold Ms.withNum at c2
  dsimp only [Ms.cReq] at c2 ⊢
  refine CallsC.of Tryz.call46 Tryz.func46 rfl Tryz.ntmps46 rfl fun w0 G0 S0 hs ho => ?_
  exact run trivial
set_option maxHeartbeats 4000000 in
theorem miReq110 (g g2 : Nat) (num : Int) (x : Ms.It) (r : List Ms.It) (hl : Ms.wI (x :: r) ≤ 100000000) (ht : x.1 = 110) : CallsC Tryz.prog 46 [Is (pAt g 0), Is (pAt g2 0)] [IX g (x :: r) false, ownP g2 49 (Ms.zReq num 0)] (fun _ => TTup []) (fun _ => [IX g (Ms.opP (x :: r) false).2.1 (Ms.opP (x :: r) false).2.2, ownP g2 49 (Ms.cReq (Ms.withNum (Ms.opP (x :: r) false).1 num))]) := by
  rw [Ms.opP_x, if_neg (by rw [ht]; decide), if_neg (by rw [ht]; decide), if_neg (by rw [ht]; decide)]
  have eK : Ms.opKP ((x.1.toNat : Int) - 96) = Ms.cmpM true := by
    funext l b
    rw [ht]
    unfold Ms.opKP
    simp
  rw [eK, Ms.inn_at]
  unfold Ms.withNum
  dsimp only
  have hle := Ms.wI_len (x :: r)
  have et : Ms.takeI (x :: r) false x.1 = (x.2, r, false) := by
    show (if false = false ∧ x.1 = x.1 then (x.2, r, false) else ([], x :: r, true)) = _
    rw [if_pos ⟨rfl, rfl⟩]
  have c1 := fun g => miInner g (x :: r) false x.1 hl
  rw [et] at c1
  dsimp only at c1
  rw [Bool.or_false] at c1
  have hw2 := Ms.inner_w (x :: r) false x.1
  rw [et] at hw2
  dsimp only at hw2
  clear et eK
  obtain ⟨l, hx⟩ : ∃ l : List Ms.It, l = x :: r := ⟨_, rfl⟩
  have f1 : ¬ (l.length : Int) = 0 := by rw [hx]; simp; omega
  have f2 : ((l.getD 0 default).1.toNat : Int) = 110 := by rw [hx, List.getD_cons_zero, ht]; rfl
  have f3 : ((l.getD (nat_lit 0) default).1.toNat : Int) = 110 := f2
  have f0 : (l.getD 0 default).1 = x.1 := by rw [hx, List.getD_cons_zero]
  rw [← f0, ← hx] at c1
  rw [← hx] at hle hl hw2 ⊢
  generalize Ms.allI x.2 = x0 at c1 hw2 ⊢
  generalize Ms.badI x.2 = b0 at c1 ⊢
  clear hx
  have c2 : ∀ gx, CallsC Tryz.prog 78 [Is (pAt gx 0), Is (pAt g2 0)] [IX gx x0 b0, ownP g2 49 (Ms.zReq num (((l.getD 0 default).1.toNat : Int) - 96))] (fun _ => TTup []) (fun _ => [IX gx (Ms.cmpM true x0 b0).2.1 (Ms.cmpM true x0 b0).2.2, ownP g2 49 (Ms.cReq (Ms.withNum (Ms.cmpM true x0 b0).1 num))]) := by
    rw [show ((l.getD 0 default).1.toNat : Int) - 96 = 14 by omega]
    exact fun gx => miOpCompare gx g2 num x0 b0 (by omega)
  have w3 : Ms.wI (Ms.cmpM true x0 b0).2.1 ≤ Ms.wI x0 := Ms.op110_w x0 b0
  generalize Ms.cmpM true x0 b0 = z at c2 w3 ⊢
  have c4 := fun g g2 => miEnds g g2 r z.2.1 false z.2.2 (by omega)
  unfold Ms.withNum at c2
  dsimp only [Ms.cReq] at c2 ⊢
  refine CallsC.of Tryz.call46 Tryz.func46 rfl Tryz.ntmps46 rfl fun w0 G0 S0 hs ho => ?_
  exact run trivial
set_option maxHeartbeats 4000000 in
theorem miReqX (g g2 : Nat) (num : Int) (x : Ms.It) (r : List Ms.It) (hl : Ms.wI (x :: r) ≤ 100000000) (h66 : x.1 ≠ 66) (h74 : x.1 ≠ 74) (h80 : x.1 ≠ 80) (h96 : x.1 ≠ 96) (h99 : x.1 ≠ 99) (h102 : x.1 ≠ 102) (h104 : x.1 ≠ 104) (h108 : x.1 ≠ 108) (h110 : x.1 ≠ 110) : CallsC Tryz.prog 46 [Is (pAt g 0), Is (pAt g2 0)] [IX g (x :: r) false, ownP g2 49 (Ms.zReq num 0)] (fun _ => TTup []) (fun _ => [IX g (Ms.opP (x :: r) false).2.1 (Ms.opP (x :: r) false).2.2, ownP g2 49 (Ms.cReq (Ms.withNum (Ms.opP (x :: r) false).1 num))]) := by
  have hv : ∀ n : Nat, n < 256 → x.1 ≠ UInt8.ofNat n → ¬ (x.1.toNat : Int) = (n : Int) := fun n hn h e => h (by
    apply UInt8.toNat_inj.1
    rw [UInt8.toNat_ofNat']
    omega)
  have v66 : ¬ (x.1.toNat : Int) = 66 := hv 66 (by decide) h66
  have v74 : ¬ (x.1.toNat : Int) = 74 := hv 74 (by decide) h74
  have v80 : ¬ (x.1.toNat : Int) = 80 := hv 80 (by decide) h80
  have v96 : ¬ (x.1.toNat : Int) = 96 := hv 96 (by decide) h96
  have v99 : ¬ (x.1.toNat : Int) = 99 := hv 99 (by decide) h99
  have v102 : ¬ (x.1.toNat : Int) = 102 := hv 102 (by decide) h102
  have v104 : ¬ (x.1.toNat : Int) = 104 := hv 104 (by decide) h104
  have v108 : ¬ (x.1.toNat : Int) = 108 := hv 108 (by decide) h108
  have v110 : ¬ (x.1.toNat : Int) = 110 := hv 110 (by decide) h110
  rw [Ms.opP_x, if_neg h66, if_neg h74, if_neg h80, Ms.inn_at]
  have eK : Ms.opKP ((x.1.toNat : Int) - 96) (Ms.allI x.2) (Ms.badI x.2) = ({ Ms.zR with kind := (x.1.toNat : Int) - 96 }, Ms.allI x.2, true) := by
    unfold Ms.opKP
    rw [if_neg (by omega), if_neg (by omega), if_neg (by omega), if_neg (by omega), if_neg (by omega), if_neg (by omega)]
  rw [eK]
  unfold Ms.withNum
  dsimp only
  have hle := Ms.wI_len (x :: r)
  have et : Ms.takeI (x :: r) false x.1 = (x.2, r, false) := by
    show (if false = false ∧ x.1 = x.1 then (x.2, r, false) else ([], x :: r, true)) = _
    rw [if_pos ⟨rfl, rfl⟩]
  have c1 := fun g => miInner g (x :: r) false x.1 hl
  rw [et] at c1
  dsimp only at c1
  rw [Bool.or_false] at c1
  have hw2 := Ms.inner_w (x :: r) false x.1
  rw [et] at hw2
  dsimp only at hw2
  clear et eK hv
  obtain ⟨l, hx⟩ : ∃ l : List Ms.It, l = x :: r := ⟨_, rfl⟩
  have f1 : ¬ (l.length : Int) = 0 := by rw [hx]; simp; omega
  have f0 : (l.getD 0 default).1 = x.1 := by rw [hx, List.getD_cons_zero]
  have f7 := (l.getD 0 default).1.toNat_lt
  have f8 : (l.getD (nat_lit 0) default).1.toNat < 256 := f7
  rw [← f0] at v66 v74 v80 v96 v99 v102 v104 v108 v110
  rw [← f0, ← hx] at c1
  rw [← f0]
  rw [← hx] at hle hl hw2 ⊢
  generalize Ms.allI x.2 = x0 at c1 hw2 ⊢
  generalize Ms.badI x.2 = b0 at c1 ⊢
  clear hx
  have c4 := fun g g2 => miEnds g g2 r x0 false true (by omega)
  dsimp only [Ms.cReq]
  refine CallsC.of Tryz.call46 Tryz.func46 rfl Tryz.ntmps46 rfl fun w0 G0 S0 hs ho => ?_
  refine run ?_
  and_intros <;> intros <;> rfl
theorem miRequest (g g2 : Nat) (num : Int) (l : List Ms.It) (bad : Bool) (hl : Ms.wI l ≤ 100000000) : CallsC Tryz.prog 46 [Is (pAt g 0), Is (pAt g2 0)] [IX g l bad, ownP g2 49 (Ms.zReq num 0)] (fun _ => TTup []) (fun _ => [IX g (Ms.opP l bad).2.1 (Ms.opP l bad).2.2, ownP g2 49 (Ms.cReq (Ms.withNum (Ms.opP l bad).1 num))]) := by
  cases l with
  | nil => exact miReqBad g g2 num [] bad hl (.inl rfl)
  | cons x r =>
    cases bad with
    | true => exact miReqBad g g2 num (x :: r) true hl (.inr rfl)
    | false =>
      by_cases h66 : x.1 = 66
      · exact miReq66 g g2 num x r hl h66
      by_cases h74 : x.1 = 74
      · exact miReq74 g g2 num x r hl h74
      by_cases h80 : x.1 = 80
      · exact miReq80 g g2 num x r hl h80
      by_cases h96 : x.1 = 96
      · exact miReq96 g g2 num x r hl h96
      by_cases h99 : x.1 = 99
      · exact miReq99 g g2 num x r hl h99
      by_cases h102 : x.1 = 102
      · exact miReq102 g g2 num x r hl h102
      by_cases h104 : x.1 = 104
      · exact miReq104 g g2 num x r hl h104
      by_cases h108 : x.1 = 108
      · exact miReq108 g g2 num x r hl h108
      by_cases h110 : x.1 = 110
      · exact miReq110 g g2 num x r hl h110
      exact miReqX g g2 num x r hl h66 h74 h80 h96 h99 h102 h104 h108 h110
end Go.Proofs.YtkpghepeagafoaaGreat
set_option linter.unusedVariables false
namespace Go.Ms
open Go.Vk
open Go.Fi (Fil)
theorem smc {α : Type} (f : α → Nat) (a : α) (l : List α) : sm f (a :: l) = f a + sm f l := by simp [sm]
theorem fromInt_ok (b : List UInt8) : okK (Ber.fromIntB b).1 := by
  unfold Ber.fromIntB okK
  split
  · dsimp only; omega
  · rename_i h
    have h1 := Ber.be_rb (b.drop (Int.toNat 1)) _ (Ber.s8_bd (b.getD 0 0))
    have h2 := Ber.rb_mono (show (b.drop (Int.toNat 1)).length ≤ 7 by simp; omega)
    rw [Ber.rb7] at h2
    dsimp only
    omega
theorem numI_ok (l : List It) (bad : Bool) (t : UInt8) : okK (numI l bad t).1 := fromInt_ok _
theorem take_b (l : List It) (bad : Bool) (t : UInt8) : (takeI l bad t).1.length + wI (takeI l bad t).2.1 ≤ wI l := by have := takeI_w l bad t; omega
theorem rep_wt {α : Type} {w : α → Nat} {step : List It → Bool → α × List It × Bool} {c d : Nat} (hs : ∀ l, w (step l false).1 + c * wI (step l false).2.1 ≤ c * wI l + (if (step l false).2.2 = true then d else 0)) : ∀ (n : Nat) (l : List It) (bad : Bool), sm w (rep step n l bad).1 + c * wI (rep step n l bad).2.1 ≤ c * wI l + d
  | 0, l, bad => by show 0 + c * wI l ≤ _; omega
  | n + 1, l, bad => by
    unfold rep
    by_cases hc : l ≠ [] ∧ bad = false
    · obtain ⟨hc1, rfl⟩ := hc
      rw [if_pos ⟨hc1, rfl⟩]
      have h := hs l
      dsimp only
      rw [smc]
      by_cases hb : (step l false).2.2 = true
      · rw [if_pos hb] at h
        rw [hb, rep_bad]
        show _ + 0 + _ ≤ _
        dsimp only
        omega
      · rw [if_neg hb] at h
        have ih := rep_wt hs n (step l false).2.1 (step l false).2.2
        omega
    · rw [if_neg hc]
      show 0 + c * wI l ≤ _; omega
theorem rep_all {α : Type} {P : α → Prop} {step : List It → Bool → α × List It × Bool} (hs : ∀ l b, P (step l b).1) : ∀ (n : Nat) (l : List It) (bad : Bool), ∀ a ∈ (rep step n l bad).1, P a
  | 0, l, bad => fun a h => by cases h
  | n + 1, l, bad => by
    unfold rep
    split
    · intro a h
      rcases List.mem_cons.1 h with rfl | h
      · exact hs _ _
      · exact rep_all hs n _ _ a h
    · intro a h; cases h
theorem inn_step {α : Type} {w : α → Nat} {m : Bool} {t : UInt8} {k : List It → Bool → α × List It × Bool} {c d : Nat} (hk : ∀ x b, w (k x b).1 ≤ c * wI x + d) (hd : d ≤ 2 * c) (l : List It) : w (innM m t k l false).1 + c * wI (innM m t k l false).2.1 ≤ c * wI l + (if (innM m t k l false).2.2 = true then d else 0) := by
  unfold innM
  cases hi : isI l false t with
  | true =>
    obtain ⟨_, x, r, rfl, _, e⟩ := takeI_is hi
    rw [e]
    dsimp only
    have h1 := hk (allI x.2) (xbM m (x.2, r, false))
    have h2 := Nat.mul_le_mul_left c (allI_w x.2)
    rw [wI_cons, Nat.mul_add, Nat.mul_add]
    omega
  | false =>
    rw [takeI_no hi]
    dsimp only
    have h1 := hk (allI []) (xbM m ([], l, true))
    have h2 : wI (allI ([] : List UInt8)) = 0 := rfl
    rw [h2, Nat.mul_zero] at h1
    have e : endI (pbM m (([] : List UInt8), l, true)) (k (allI []) (xbM m ([], l, true))).2.2 (k (allI []) (xbM m ([], l, true))).2.1 = true := by
      cases m <;> simp [endI, pbM]
    rw [if_pos e]
    omega
theorem inn_wt {α : Type} {w : α → Nat} {m : Bool} {t : UInt8} {k : List It → Bool → α × List It × Bool} {c d : Nat} (hk : ∀ x b, w (k x b).1 ≤ c * wI x + d) (l : List It) (bad : Bool) : w (innM m t k l bad).1 ≤ c * wI l + d := by
  unfold innM
  dsimp only
  have h1 := hk (allI (takeI l bad t).1) (xbM m (takeI l bad t))
  have h2 := Nat.mul_le_mul_left c (inner_w l bad t)
  omega
theorem text_step (l : List It) : wV (textI l false).1 + 5 * wI (textI l false).2.1 ≤ 5 * wI l + (if (textI l false).2.2 = true then 10 else 0) := by
  unfold textI
  cases hi : isI l false 4 with
  | true =>
    obtain ⟨_, x, r, rfl, _, e⟩ := takeI_is hi
    rw [e, wI_cons]
    unfold wV
    dsimp only
    omega
  | false =>
    rw [takeI_no hi]
    unfold wV
    dsimp only
    rw [if_pos rfl]
    simp only [List.length_nil]; omega
theorem texts_wt (m : Bool) (t : UInt8) (l : List It) (bad : Bool) : sm wV (textsM m t l bad).1 ≤ 5 * wI l + 10 := inn_wt (w := sm wV) (fun x b => by
  have := rep_wt text_step (x.length + 1) x b
  show sm wV (rep textI (x.length + 1) x b).1 ≤ _
  omega) l bad
def wP (v : List UInt8 × List (List UInt8)) : Nat := wAt v.1 v.2
theorem attK_wt (m : Bool) (x : List It) (b : Bool) : wP (attK m x b).1 ≤ 25 * wI x + 50 := by
  unfold attK wP wAt wVs
  dsimp only
  have h1 := take_b x b 4
  have h2 := texts_wt m 49 (textI x b).2.1 (textI x b).2.2
  have e : textI x b = takeI x b 4 := rfl
  rw [e] at h2 ⊢
  omega
theorem att_wt (m : Bool) (l : List It) (bad : Bool) : wP (attM m l bad).1 ≤ 25 * wI l + 50 := inn_wt (w := wP) (attK_wt m) l bad
theorem attr_step (m : Bool) (l : List It) : wA (attrM m l false).1 + 25 * wI (attrM m l false).2.1 ≤ 25 * wI l + (if (attrM m l false).2.2 = true then 50 else 0) := inn_step (w := wP) (attK_wt m) (by omega) l
theorem attrs_wt (m : Bool) (l : List It) (bad : Bool) : sm wA (attrsM m l bad).1 ≤ 25 * wI l + 50 := inn_wt (w := sm wA) (fun x b => by
  have := rep_wt (attr_step m) (x.length + 1) x b
  show sm wA (rep (attrM m) (x.length + 1) x b).1 ≤ _
  omega) l bad
theorem kindM_w (m : Bool) (l : List It) (bad : Bool) : wI (kindM m l bad).2.1 ≤ wI l := by cases m <;> exact take1_w _ _ _
theorem kindM_ok (m : Bool) (l : List It) (bad : Bool) : okK (kindM m l bad).1 := by cases m <;> exact numI_ok _ _ _
theorem modK_wt (m : Bool) (x : List It) (b : Bool) : wM (modK m x b).1 ≤ 45 * wI x + 90 := by
  unfold modK
  have h1 := kindM_w m x b
  have h2 := att_wt m (kindM m x b).2.1 (kindM m x b).2.2
  unfold wP at h2
  unfold wM
  dsimp only
  omega
theorem mod_step (m : Bool) (l : List It) : wM (modM m l false).1 + 45 * wI (modM m l false).2.1 ≤ 45 * wI l + (if (modM m l false).2.2 = true then 90 else 0) := inn_step (w := wM) (modK_wt m) (by omega) l
theorem mods_wt (m : Bool) (l : List It) (bad : Bool) : sm wM (modsM m l bad).1 ≤ 45 * wI l + 90 := inn_wt (w := sm wM) (fun x b => by
  have := rep_wt (mod_step m) (x.length + 1) x b
  show sm wM (rep (modM m) (x.length + 1) x b).1 ≤ _
  omega) l bad
theorem mods_ok (m : Bool) (l : List It) (bad : Bool) : ∀ a ∈ (modsM m l bad).1, okK a.kind := rep_all (P := fun a : Mod => okK a.kind) (fun l b => kindM_ok m _ _) _ _ _
/-! ### filters -/
theorem subsW_app (a b : List (List UInt8)) : Fi.subsW (a ++ b) = Fi.subsW a + Fi.subsW b := by
  induction a with
  | nil => simp [Fi.subsW]
  | cons x r ih => rw [List.cons_append, Fi.subsW, Fi.subsW, ih]; omega
theorem mid_sw : ∀ l : List It, Fi.subsW (midI l).1 + wI (midI l).2 ≤ wI l
  | [] => by simp [midI, Fi.subsW]
  | x :: r => by
    have h := mid_sw r
    unfold midI
    split
    · rw [wI_cons]; dsimp only; rw [Fi.subsW]; omega
    · show 0 + wI (x :: r) ≤ _; omega
theorem may_sw (l : List It) (bad : Bool) (t : UInt8) : (mayI l bad t).1.length + wI (mayI l bad t).2.1 ≤ wI l := by
  unfold mayI
  split
  · exact take_b l bad t
  · show 0 + wI l ≤ _; omega
theorem subsK_wt (x : List It) (b : Bool) : Fi.subsW (subsK x b).1 ≤ 1 * wI x + 2 := by
  have h1 := may_sw x b 128
  have h2 : Fi.subsW (midB (mayI x b 128).2.2 (mayI x b 128).2.1).1 + wI (midB (mayI x b 128).2.2 (mayI x b 128).2.1).2 ≤ wI (mayI x b 128).2.1 := by
    unfold midB
    split
    · show 0 + wI (mayI x b 128).2.1 ≤ _; omega
    · exact mid_sw _
  have h3 := may_sw (midB (mayI x b 128).2.2 (mayI x b 128).2.1).2 (mayI x b 128).2.2 130
  rw [subsK_def]
  dsimp only
  rw [Fi.subsW, subsW_app, Fi.subsW, Fi.subsW]
  omega
theorem subs_wt (m : Bool) (l : List It) (bad : Bool) : Fi.subsW (subsM m l bad).1 ≤ 1 * wI l + 2 := inn_wt (w := Fi.subsW) subsK_wt l bad
theorem wt_m (k : Int) (t v : List UInt8) (s : List (List UInt8)) (ks : List Fil) : Fi.wt (.mk k t v s ks) = 5 + t.length + v.length + Fi.subsW s + Fi.wtL ks := by rw [Fi.wt]
theorem wtL_sm : ∀ l : List Fil, Fi.wtL l = sm Fi.wt l
  | [] => by rw [Fi.wtL]; rfl
  | f :: r => by rw [Fi.wtL, smc, wtL_sm r]
theorem filt_step : ∀ (n : Nat) (l : List It), Fi.wt (filtP n l false).1 + 5 * wI (filtP n l false).2.1 ≤ 5 * wI l + (if (filtP n l false).2.2 = true then 5 else 0)
  | 0, l => by
    show Fi.wt Fi.zeroF + 5 * wI l ≤ _ + 5
    have : Fi.wt Fi.zeroF = 5 := by decide
    omega
  | n + 1, [] => by
    show Fi.wt Fi.zeroF + 5 * wI [] ≤ _ + 5
    have : Fi.wt Fi.zeroF = 5 := by decide
    omega
  | n + 1, x :: r => by
    have ih := filt_step n
    have e : filtP (n + 1) (x :: r) false = if x.1 = 135 then (.mk 7 x.2 [] [] [], r, false) else filtT (filtP n) x r := by
      conv => lhs; unfold filtP
      rw [if_neg (by simp)]
    rw [e, wI_cons]
    refine Nat.le_trans ?_ (Nat.le_add_right _ _)
    have z0 : Fi.subsW [] = 0 := rfl
    have z1 : Fi.wtL [] = 0 := by rw [Fi.wtL]
    have z2 : ([] : List UInt8).length = 0 := rfl
    have hx := allI_w x.2
    split
    · dsimp only
      rw [wt_m, z0, z1, z2]
      omega
    unfold filtT
    rw [inn_at, inn_at, inn_at]
    generalize (if x.1 = 168 then (163 : UInt8) else x.1) = tg
    dsimp only
    split
    · dsimp only
      rw [wt_m, z0, z1, z2]
      omega
    split
    · have h := rep_wt ih ((allI x.2).length + 1) (allI x.2) (badI x.2)
      have h2 : sm Fi.wt (repA (filtP n) (allI x.2) (badI x.2)).1 ≤ 5 * wI (allI x.2) + 5 := by
        show sm Fi.wt (rep (filtP n) ((allI x.2).length + 1) (allI x.2) (badI x.2)).1 ≤ _
        omega
      dsimp only
      rw [wt_m, z0, wtL_sm, z2]
      omega
    split
    · unfold leafK
      dsimp only
      have h1 := take_b (allI x.2) (badI x.2) 4
      have e4 : textI (allI x.2) (badI x.2) = takeI (allI x.2) (badI x.2) 4 := rfl
      have h2 := subs_wt true (textI (allI x.2) (badI x.2)).2.1 (textI (allI x.2) (badI x.2)).2.2
      rw [e4] at h2 ⊢
      rw [wt_m, z1, z2]
      omega
    split
    · unfold pairK
      dsimp only
      have h1 := take_b (allI x.2) (badI x.2) 4
      have e4 : ∀ l b, textI l b = takeI l b 4 := fun _ _ => rfl
      rw [e4, e4]
      have h2 := take_b (takeI (allI x.2) (badI x.2) 4).2.1 (takeI (allI x.2) (badI x.2) 4).2.2 4
      rw [wt_m, z0, z1]
      omega
    · dsimp only
      rw [wt_m, z0, z1, z2]
      omega
theorem filt_wt (n : Nat) (l : List It) (bad : Bool) : Fi.wt (filtP n l bad).1 ≤ 5 * wI l + 5 := by
  cases bad with
  | true =>
    have e : (filtP n l true).1 = Fi.zeroF := by
      cases n with
      | zero => rfl
      | succ n => cases l with
        | nil => rfl
        | cons x r => rfl
    have : Fi.wt Fi.zeroF = 5 := by decide
    rw [e]; omega
  | false =>
    have h := filt_step n l
    split at h <;> omega
mutual
theorem wF_wt : ∀ f : Fil, wF f ≤ 22 * Fi.wt f
  | .mk k t v s ks => by
    have h1 := wFs_wtL ks
    have h2 : ∀ l : List (List UInt8), sm wV l ≤ 10 * Fi.subsW l := fun l => by
      induction l with
      | nil => simp [sm, Fi.subsW]
      | cons x r ih => rw [smc, Fi.subsW]; unfold wV at *; omega
    have h3 := h2 s
    rw [wt_m]
    unfold wF wVs
    omega
theorem wFs_wtL : ∀ l : List Fil, wFs l ≤ 22 * Fi.wtL l
  | [] => by unfold wFs; omega
  | f :: r => by
    have h1 := wF_wt f
    have h2 := wFs_wtL r
    rw [Fi.wtL]
    unfold wFs
    omega
end
/-! ### requests -/
theorem opKP_okr (k : Int) (hk : okK k) (l : List It) (bad : Bool) (h : wI l ≤ 70000) : Okr (opKP k l bad).1 := by
  have hd : ∀ (l : List It) (b : Bool) (t : UInt8), wI l ≤ 70000 → (takeI l b t).1.length ≤ 2000000 := fun l b t h => by
    have := take_b l b t
    omega
  have e4 : ∀ l b, textI l b = takeI l b 4 := fun _ _ => rfl
  have hw : ∀ (l : List It) (b : Bool) (t : UInt8), wI (takeI l b t).2.1 ≤ wI l := take1_w
  have h1 := hw l bad 4
  unfold opKP
  split
  · unfold bindP
    dsimp only
    have n1 := numI_w l bad 2
    have n2 := hw (numI l bad 2).2.1 (decide ((numI l bad 2).1 ≠ 3) || (numI l bad 2).2.2) 4
    rw [e4]
    constructor <;> (try dsimp only [zR]) <;> first | exact okK0 | (unfold okK; omega) | exact Nat.zero_le _ | exact hd _ _ _ (by omega) | (intro m hm; cases hm) | decide
  split
  · unfold srchP
    dsimp only
    rw [e4]
    have hdd := hd l bad 4 h
    generalize takeI l bad 4 = d at h1 hdd ⊢
    have n1 := numI_w d.2.1 d.2.2 10
    have k1 := numI_ok d.2.1 d.2.2 10
    generalize numI d.2.1 d.2.2 10 = s at n1 k1 ⊢
    have n2 := numI_w s.2.1 s.2.2 10
    generalize numI s.2.1 s.2.2 10 = a at n2 ⊢
    have n3 := numI_w a.2.1 a.2.2 2
    have k3 := numI_ok a.2.1 a.2.2 2
    generalize numI a.2.1 a.2.2 2 = m at n3 k3 ⊢
    have n4 := numI_w m.2.1 m.2.2 2
    generalize numI m.2.1 m.2.2 2 = t at n4 ⊢
    have n5 := truthI_w t.2.1 t.2.2
    generalize truthI t.2.1 t.2.2 = b at n5 ⊢
    have n6 := (filtP_w 16 b.2.1 b.2.2).1
    have n7 := filt_wt 16 b.2.1 b.2.2
    have n8 := wF_wt (filtP 16 b.2.1 b.2.2).1
    generalize filtP 16 b.2.1 b.2.2 = f at n6 n7 n8 ⊢
    have n9 := texts_wt true 48 f.2.1 f.2.2
    generalize textsM true 48 f.2.1 f.2.2 = w at n9 ⊢
    constructor <;> (try dsimp only [zR]) <;> first | exact okK0 | exact k1 | exact k3 | (unfold okK; omega) | exact Nat.zero_le _ | exact hdd | omega | (intro m hm; cases hm) | decide
  split
  · unfold modfM
    dsimp only
    rw [e4]
    have m1 := mods_wt true (takeI l bad 4).2.1 (takeI l bad 4).2.2
    have m2 := mods_ok true (takeI l bad 4).2.1 (takeI l bad 4).2.2
    constructor <;> (try dsimp only [zR]) <;> first | exact okK0 | (unfold okK; omega) | exact Nat.zero_le _ | exact hd _ _ _ (by omega) | exact m2 | omega | (intro m hm; cases hm) | decide
  split
  · unfold addM
    dsimp only
    rw [e4]
    have m1 := attrs_wt true (takeI l bad 4).2.1 (takeI l bad 4).2.2
    constructor <;> (try dsimp only [zR]) <;> first | exact okK0 | (unfold okK; omega) | exact Nat.zero_le _ | exact hd _ _ _ (by omega) | omega | (intro m hm; cases hm) | decide
  split
  · unfold renI
    dsimp only
    rw [e4, e4]
    have h2 := hw (takeI l bad 4).2.1 (takeI l bad 4).2.2 4
    have h3 := truthI_w (takeI (takeI l bad 4).2.1 (takeI l bad 4).2.2 4).2.1 (takeI (takeI l bad 4).2.1 (takeI l bad 4).2.2 4).2.2
    have h4 := may_sw (truthI (takeI (takeI l bad 4).2.1 (takeI l bad 4).2.2 4).2.1 (takeI (takeI l bad 4).2.1 (takeI l bad 4).2.2 4).2.2).2.1 (truthI (takeI (takeI l bad 4).2.1 (takeI l bad 4).2.2 4).2.1 (takeI (takeI l bad 4).2.1 (takeI l bad 4).2.2 4).2.2).2.2 128
    constructor <;> (try dsimp only [zR]) <;> first | exact okK0 | (unfold okK; omega) | exact Nat.zero_le _ | exact hd _ _ _ (by omega) | omega | (intro m hm; cases hm) | decide
  split
  · unfold cmpM
    dsimp only
    rw [e4]
    have p : ∀ x b, (pairK x b).1.1.length + (pairK x b).1.2.length ≤ 1 * wI x + 0 := fun x b => by
      unfold pairK
      dsimp only
      rw [e4, e4]
      have g1 := take_b x b 4
      have g2 := take_b (takeI x b 4).2.1 (takeI x b 4).2.2 4
      omega
    have p2 := inn_wt (w := fun v : List UInt8 × List UInt8 => v.1.length + v.2.length) (m := true) (t := 48) p (takeI l bad 4).2.1 (takeI l bad 4).2.2
    (try dsimp only at p2)
    constructor <;> (try dsimp only [zR]) <;> first | exact okK0 | (unfold okK; omega) | exact Nat.zero_le _ | exact hd _ _ _ (by omega) | omega | (intro m hm; cases hm) | decide
  · constructor <;> (try dsimp only [zR]) <;> first | exact okK0 | (unfold okK; omega) | exact Nat.zero_le _ | exact hk | (intro m hm; cases hm) | decide
theorem opP_w (l : List It) (bad : Bool) : wI (opP l bad).2.1 ≤ wI l := by
  by_cases h : l = [] ∨ bad = true
  · rw [opP_bad' h]; exact Nat.le_refl _
  cases l with
  | nil => exact absurd (.inl rfl) h
  | cons x r =>
    have hb : bad = false := by cases bad with
      | true => exact absurd (.inr rfl) h
      | false => rfl
    subst hb
    rw [opP_x]
    have h0 : wI r ≤ wI (x :: r) := by rw [wI_cons]; omega
    split
    · exact h0
    split
    · exact h0
    split
    · exact numI_w _ _ _
    · exact innM_w _ _ _ _ _
theorem opP_okr (l : List It) (bad : Bool) (h : wI l ≤ 70000) : Okr (opP l bad).1 := by
  by_cases hc : l = [] ∨ bad = true
  · rw [opP_bad' hc]; exact zR_ok
  cases l with
  | nil => exact absurd (.inl rfl) hc
  | cons x r =>
    have hb : bad = false := by cases bad with
      | true => exact absurd (.inr rfl) hc
      | false => rfl
    subst hb
    rw [opP_x]
    have hx := wI_cons x r
    split
    · constructor <;> (try dsimp only [zR]) <;> first | exact okK0 | (unfold okK; omega) | exact Nat.zero_le _ | (intro m hm; cases hm) | decide
    split
    · constructor <;> (try dsimp only [zR]) <;> first | exact okK0 | (unfold okK; omega) | exact Nat.zero_le _ | omega | (intro m hm; cases hm) | decide
    split
    · have k1 := numI_ok (x :: r) false 80
      constructor <;> (try dsimp only [zR]) <;> first | exact okK0 | exact k1 | (unfold okK; omega) | exact Nat.zero_le _ | (intro m hm; cases hm) | decide
    · have h1 := inner_w (x :: r) false x.1
      have hl := x.1.toNat_lt
      exact opKP_okr _ (by unfold okK; omega) _ _ (by omega)
theorem okr_num {r : Req} (h : Okr r) {n : Int} (hn : okK n) : Okr (withNum r n) := ⟨hn, h.kind, h.scope, h.limit, h.which, h.dn, h.pass, h.rdn, h.up, h.avaT, h.avaV, h.fil, h.want, h.mods, h.attrs, h.kinds, h.filw⟩
theorem reqP_okr {b : List UInt8} (h : b.length ≤ 70000) : Okr (reqP b).1 := by
  have h1 := allI_w b
  have h2 := numI_w (allI b) (badI b) 2
  exact okr_num (opP_okr _ _ (by omega)) (numI_ok _ _ _)
theorem decP_okr {b : List UInt8} (h : b.length ≤ 70000) : Okr (decP b).1 := by
  have hn := Ber.nextB_len b
  unfold decP
  dsimp only
  split
  · exact zR_ok
  split
  · exact zR_ok
  · exact reqP_okr (by omega)
end Go.Ms
set_option linter.unusedVariables false
namespace Go.Ss
open Go.Vk
/-- The bytes that wait are taken apart; fuel. What comes of it: the requests, whether it broke, whether it is open, what waits. -/
def runW : Nat → List Ms.Req → List UInt8 → (List Ms.Req × Bool) × Bool × List UInt8
  | 0, acc, w => ((acc, false), true, w)
  | k + 1, acc, w =>
    if (Ms.frameB w).2 ≠ 0 then ((acc, true), false, [])
    else if (Ms.frameB w).1 = 0 then ((acc, false), true, w)
    else if (Ms.decP (w.take (Ms.frameB w).1.toNat)).2 ≠ 0 then ((acc, true), false, [])
    else if (Ms.decP (w.take (Ms.frameB w).1.toNat)).1.kind = 2 then ((acc ++ [(Ms.decP (w.take (Ms.frameB w).1.toNat)).1], false), false, [])
    else runW k (acc ++ [(Ms.decP (w.take (Ms.frameB w).1.toNat)).1]) (w.drop (Ms.frameB w).1.toNat)
theorem drop_lt {w : List UInt8} (h : (Ms.frameB w).1 ≠ 0) : (w.drop (Ms.frameB w).1.toNat).length < w.length := by
  have := Ms.frameB_le w
  rw [List.length_drop]
  omega
theorem runW_fuel : ∀ (k k' : Nat) (acc : List Ms.Req) (w : List UInt8), w.length < k → w.length < k' → runW k acc w = runW k' acc w
  | 0, _, _, w, h, _ => by omega
  | k + 1, 0, _, w, _, h => by omega
  | k + 1, k' + 1, acc, w, h, h' => by
    rw [runW, runW]
    split
    · rfl
    split
    · rfl
    rename_i h0
    split
    · rfl
    split
    · rfl
    have := drop_lt h0
    exact runW_fuel k k' _ _ (by omega) (by omega)
def tk (acc : List Ms.Req) (w : List UInt8) : (List Ms.Req × Bool) × Bool × List UInt8 := runW (w.length + 1) acc w
theorem tk_bad {acc : List Ms.Req} {w : List UInt8} (h : (Ms.frameB w).2 ≠ 0) : tk acc w = ((acc, true), false, []) := by
  unfold tk; rw [runW, if_pos h]
theorem tk_wait {acc : List Ms.Req} {w : List UInt8} (h : ¬ (Ms.frameB w).2 ≠ 0) (h1 : (Ms.frameB w).1 = 0) : tk acc w = ((acc, false), true, w) := by
  unfold tk; rw [runW, if_neg h, if_pos h1]
theorem tk_err {acc : List Ms.Req} {w : List UInt8} (h : ¬ (Ms.frameB w).2 ≠ 0) (h1 : ¬ (Ms.frameB w).1 = 0) (h2 : (Ms.decP (w.take (Ms.frameB w).1.toNat)).2 ≠ 0) : tk acc w = ((acc, true), false, []) := by
  unfold tk; rw [runW, if_neg h, if_neg h1, if_pos h2]
theorem tk_end {acc : List Ms.Req} {w : List UInt8} (h : ¬ (Ms.frameB w).2 ≠ 0) (h1 : ¬ (Ms.frameB w).1 = 0) (h2 : ¬ (Ms.decP (w.take (Ms.frameB w).1.toNat)).2 ≠ 0) (h3 : (Ms.decP (w.take (Ms.frameB w).1.toNat)).1.kind = 2) : tk acc w = ((acc ++ [(Ms.decP (w.take (Ms.frameB w).1.toNat)).1], false), false, []) := by
  unfold tk; rw [runW, if_neg h, if_neg h1, if_neg h2, if_pos h3]
theorem tk_go {acc : List Ms.Req} {w : List UInt8} (h : ¬ (Ms.frameB w).2 ≠ 0) (h1 : ¬ (Ms.frameB w).1 = 0) (h2 : ¬ (Ms.decP (w.take (Ms.frameB w).1.toNat)).2 ≠ 0) (h3 : ¬ (Ms.decP (w.take (Ms.frameB w).1.toNat)).1.kind = 2) : tk acc w = tk (acc ++ [(Ms.decP (w.take (Ms.frameB w).1.toNat)).1]) (w.drop (Ms.frameB w).1.toNat) := by
  have h0 := drop_lt h1
  unfold tk; rw [runW, if_neg h, if_neg h1, if_neg h2, if_neg h3]
  exact runW_fuel _ _ _ _ (by omega) (by omega)
/-- What comes of it is sane. -/
structure Sane (n : Nat) (k : Nat) (r : (List Ms.Req × Bool) × Bool × List UInt8) : Prop where
  okr : ∀ x ∈ r.1.1, Ms.Okr x
  num : r.1.1.length ≤ k + n
  left : r.2.2.length ≤ n
  shut : r.2.1 = false → r.2.2 = []
theorem tk_sane (w : List UInt8) (hw : w.length ≤ 70000) (acc : List Ms.Req) (ha : ∀ x ∈ acc, Ms.Okr x) : Sane w.length acc.length (tk acc w) := by
  by_cases h : (Ms.frameB w).2 ≠ 0
  · rw [tk_bad h]; exact ⟨ha, by dsimp only; omega, by simp, fun _ => rfl⟩
  by_cases h1 : (Ms.frameB w).1 = 0
  · rw [tk_wait h h1]; exact ⟨ha, by dsimp only; omega, Nat.le_refl _, fun e => by cases e⟩
  have h0 := drop_lt h1
  have hk := Ms.decP_okr (b := w.take (Ms.frameB w).1.toNat) (by rw [List.length_take]; omega)
  have ha' : ∀ x ∈ acc ++ [(Ms.decP (w.take (Ms.frameB w).1.toNat)).1], Ms.Okr x := fun x hx => by
    rcases List.mem_append.1 hx with hx | hx
    · exact ha x hx
    · simp at hx; subst hx; exact hk
  by_cases h2 : (Ms.decP (w.take (Ms.frameB w).1.toNat)).2 ≠ 0
  · rw [tk_err h h1 h2]; exact ⟨ha, by dsimp only; omega, by simp, fun _ => rfl⟩
  by_cases h3 : (Ms.decP (w.take (Ms.frameB w).1.toNat)).1.kind = 2
  · rw [tk_end h h1 h2 h3]
    exact ⟨ha', by dsimp only; rw [List.length_append]; simp; omega, by simp, fun _ => rfl⟩
  · rw [tk_go h h1 h2 h3]
    have ih := tk_sane (w.drop (Ms.frameB w).1.toNat) (by omega) (acc ++ [(Ms.decP (w.take (Ms.frameB w).1.toNat)).1]) ha'
    have h4 := ih.num
    rw [List.length_append, List.length_cons, List.length_nil] at h4
    exact ⟨ih.okr, by omega, by have := ih.left; omega, ih.shut⟩
termination_by w.length
decreasing_by exact drop_lt h1
theorem take_le (w : List UInt8) : (w.take (Ms.frameB w).1.toNat).length ≤ w.length := by rw [List.length_take]; omega
end Go.Ss
set_option linter.unusedVariables false
set_option maxRecDepth 8000
set_option linter.unusedVariables false
namespace Go.Proofs.YtkpghepeagafoaaGreat
open Go.Vk
attribute [local irreducible] HT HX RegS RegA RegM OpP OpC AltT
attribute [local irreducible] Ber.tagB Ber.lenB Ber.intB Ber.allE Ber.fromIntB Ber.nextB Ms.midB Ms.kindT Ms.textI Ms.numI Ms.truthI Ms.filtP Ms.textsM Ms.modsM Ms.attrsM Ms.opP Ms.isR
set_option maxHeartbeats 4000000 in
theorem msDecode (b : List UInt8) (hb : b.length ≤ 70000) : CFn Tryz.prog 25 [TBytes b] (TTup [TAgg (Ms.cReq (Ms.decP b).1), okI .i64 (Ms.decP b).2]) := by
  have c1 := nextP b (by omega)
  have hn := Ber.nextB_len b
  unfold Ms.decP
  generalize Ber.nextB b = n at c1 hn ⊢
  dsimp only
  by_cases he : n.e = 0
  case neg =>
    rw [if_pos he]
    dsimp only
    have hz : Ms.cReq Ms.zR = [okI .i64 0, okI .i64 0, Is (str []), Is (str []), okI .i64 0, okI .i64 0, okI .i64 0, Is (str []), Is (str []), TSl 1 Fi.cS [], TSl 5 Fi.cF [], TSl 1 En.cS [], TSl 3 Ms.cMod [], TSl 2 En.cAttr [], Is (str []), Is (.bool false), Is (.bool false), Is (str []), Is (str []), Is (str []), okI .i64 0] := rfl
    rw [hz]
    refine CallsC.of Tryz.call25 Tryz.func25 rfl Tryz.ntmps25 rfl fun w0 G0 S0 hs ho => ?_
    exact run trivial
  rw [if_neg (by simpa using he)]
  have c2 : CallsC Tryz.prog 44 [TBytes n.body] [] (fun v => Is (pAt (blk v) 0)) (fun v => [IX (blk v) (Ms.allI n.body) (Ms.badI n.body)]) := miApart n.body (by omega)
  have hw := Ms.allI_w n.body
  have hr := Ms.reqP_okr (b := n.body) (by omega)
  have hz : Ms.cReq Ms.zR = [okI .i64 0, okI .i64 0, Is (str []), Is (str []), okI .i64 0, okI .i64 0, okI .i64 0, Is (str []), Is (str []), TSl 1 Fi.cS [], TSl 5 Fi.cF [], TSl 1 En.cS [], TSl 3 Ms.cMod [], TSl 2 En.cAttr [], Is (str []), Is (.bool false), Is (.bool false), Is (str []), Is (str []), Is (str []), okI .i64 0] := rfl
  have ht : ((n.tag.toNat : Int) = 48) ↔ n.tag = 48 := ⟨fun h => UInt8.toNat_inj.1 (by have : ((48 : UInt8).toNat : Int) = 48 := rfl; omega), fun h => by rw [h]; rfl⟩
  have hr0 : n.rest = [] ↔ n.rest.length = 0 := List.length_eq_zero_iff.symm
  cases hB : (decide (n.tag ≠ 48) || decide (n.rest ≠ []) || (Ms.reqP n.body).2.2 || decide ((Ms.reqP n.body).2.1 ≠ []) || !Ms.isR (Ms.reqP n.body).1) with
  | true =>
    rw [if_pos rfl]
    dsimp only
    rw [hz]
    simp only [Bool.or_eq_true, decide_eq_true_eq, Bool.not_eq_true'] at hB
    unfold Ms.reqP at hr hB
    dsimp only at hr hB
    generalize Ms.allI n.body = x0 at c2 hw hr hB
    generalize Ms.badI n.body = b0 at c2 hr hB
    have l0 := Ms.wI_len x0
    have c3 : ∀ g, CallsC Tryz.prog 45 [Is (pAt g 0), okI .u8 2] [IX g x0 b0] (fun _ => okI .i64 (Ms.numI x0 b0 2).1) (fun _ => [IX g (Ms.numI x0 b0 2).2.1 (Ms.numI x0 b0 2).2.2]) := fun g => miNum g x0 b0 2 (by omega)
    have w1 := Ms.numI_w x0 b0 2
    generalize Ms.numI x0 b0 2 = q at c3 w1 hr hB
    have c4 : ∀ g g2, CallsC Tryz.prog 46 [Is (pAt g 0), Is (pAt g2 0)] [IX g q.2.1 q.2.2, ownP g2 49 (Ms.zReq q.1 0)] (fun _ => TTup []) (fun _ => [IX g (Ms.opP q.2.1 q.2.2).2.1 (Ms.opP q.2.1 q.2.2).2.2, ownP g2 49 (Ms.cReq (Ms.withNum (Ms.opP q.2.1 q.2.2).1 q.1))]) := fun g g2 => miRequest g g2 q.1 q.2.1 q.2.2 (by omega)
    have w2 := Ms.opP_w q.2.1 q.2.2
    generalize Ms.opP q.2.1 q.2.2 = o at c4 w2 hr hB
    have l1 := Ms.wI_len o.2.1
    have c5 : ∀ g, CallsC Tryz.prog 47 [Is (pAt g 0), okI .u8 160] [IX g o.2.1 o.2.2] (fun _ => Is (.bool (Ms.isI o.2.1 o.2.2 160))) (fun _ => [IX g o.2.1 o.2.2]) := fun g => miIs g o.2.1 o.2.2 160
    have c6 : ∀ g, CallsC Tryz.prog 48 [Is (pAt g 0), okI .u8 160] [IX g o.2.1 o.2.2] (fun _ => TBytes (Ms.takeI o.2.1 o.2.2 160).1) (fun _ => [IX g (Ms.takeI o.2.1 o.2.2 160).2.1 (Ms.takeI o.2.1 o.2.2 160).2.2]) := fun g => miTake g o.2.1 o.2.2 160 (by omega)
    have w3 := Ms.take1_w o.2.1 o.2.2 160
    have c7 := msIs (Ms.withNum o.1 q.1) hr
    generalize Ms.withNum o.1 q.1 = R at c4 c7 hr hB
    clear hr
    have mu := Mut.mk' [8]
    unfold Ms.mayI at hB
    cases hi : Ms.isI o.2.1 o.2.2 160 with
    | true =>
      rw [hi] at c5
      rw [hi, if_pos rfl] at hB
      generalize Ms.takeI o.2.1 o.2.2 160 = c at c6 w3 hB
      have l2 := Ms.wI_len c.2.1
      have hc0 : c.2.1 = [] ↔ c.2.1.length = 0 := List.length_eq_zero_iff.symm
      refine CallsC.of Tryz.call25 Tryz.func25 rfl Tryz.ntmps25 rfl fun w0 G0 S0 hs ho => ?_
      refine run ?_
      and_intros <;> intros <;> exfalso <;> grind
    | false =>
      rw [hi] at c5
      rw [hi, if_neg (by simp)] at hB
      have hc0 : o.2.1 = [] ↔ o.2.1.length = 0 := List.length_eq_zero_iff.symm
      clear c6
      refine CallsC.of Tryz.call25 Tryz.func25 rfl Tryz.ntmps25 rfl fun w0 G0 S0 hs ho => ?_
      refine run ?_
      and_intros <;> intros <;> exfalso <;> grind
  | false =>
    rw [if_neg (by simp)]
    dsimp only
    simp only [Bool.or_eq_false_iff, decide_eq_false_iff_not, Bool.not_eq_false', ne_eq, Decidable.not_not] at hB
    unfold Ms.reqP at hr hB ⊢
    dsimp only at hr hB ⊢
    generalize Ms.allI n.body = x0 at c2 hw hr hB ⊢
    generalize Ms.badI n.body = b0 at c2 hr hB ⊢
    have l0 := Ms.wI_len x0
    have c3 : ∀ g, CallsC Tryz.prog 45 [Is (pAt g 0), okI .u8 2] [IX g x0 b0] (fun _ => okI .i64 (Ms.numI x0 b0 2).1) (fun _ => [IX g (Ms.numI x0 b0 2).2.1 (Ms.numI x0 b0 2).2.2]) := fun g => miNum g x0 b0 2 (by omega)
    have w1 := Ms.numI_w x0 b0 2
    generalize Ms.numI x0 b0 2 = q at c3 w1 hr hB ⊢
    have c4 : ∀ g g2, CallsC Tryz.prog 46 [Is (pAt g 0), Is (pAt g2 0)] [IX g q.2.1 q.2.2, ownP g2 49 (Ms.zReq q.1 0)] (fun _ => TTup []) (fun _ => [IX g (Ms.opP q.2.1 q.2.2).2.1 (Ms.opP q.2.1 q.2.2).2.2, ownP g2 49 (Ms.cReq (Ms.withNum (Ms.opP q.2.1 q.2.2).1 q.1))]) := fun g g2 => miRequest g g2 q.1 q.2.1 q.2.2 (by omega)
    have w2 := Ms.opP_w q.2.1 q.2.2
    generalize Ms.opP q.2.1 q.2.2 = o at c4 w2 hr hB ⊢
    have l1 := Ms.wI_len o.2.1
    have c5 : ∀ g, CallsC Tryz.prog 47 [Is (pAt g 0), okI .u8 160] [IX g o.2.1 o.2.2] (fun _ => Is (.bool (Ms.isI o.2.1 o.2.2 160))) (fun _ => [IX g o.2.1 o.2.2]) := fun g => miIs g o.2.1 o.2.2 160
    have c6 : ∀ g, CallsC Tryz.prog 48 [Is (pAt g 0), okI .u8 160] [IX g o.2.1 o.2.2] (fun _ => TBytes (Ms.takeI o.2.1 o.2.2 160).1) (fun _ => [IX g (Ms.takeI o.2.1 o.2.2 160).2.1 (Ms.takeI o.2.1 o.2.2 160).2.2]) := fun g => miTake g o.2.1 o.2.2 160 (by omega)
    have w3 := Ms.take1_w o.2.1 o.2.2 160
    have c7 := msIs (Ms.withNum o.1 q.1) hr
    generalize Ms.withNum o.1 q.1 = R at c4 c7 hr hB ⊢
    clear hr
    have mu := Mut.mk' [8]
    unfold Ms.mayI at hB
    cases hi : Ms.isI o.2.1 o.2.2 160 with
    | true =>
      rw [hi] at c5
      rw [hi, if_pos rfl] at hB
      generalize Ms.takeI o.2.1 o.2.2 160 = c at c6 w3 hB
      have l2 := Ms.wI_len c.2.1
      have hc0 : c.2.1 = [] ↔ c.2.1.length = 0 := List.length_eq_zero_iff.symm
      refine CallsC.of Tryz.call25 Tryz.func25 rfl Tryz.ntmps25 rfl fun w0 G0 S0 hs ho => ?_
      refine run ?_
      and_intros <;> intros <;> exfalso <;> grind
    | false =>
      rw [hi] at c5
      rw [hi, if_neg (by simp)] at hB
      have hc0 : o.2.1 = [] ↔ o.2.1.length = 0 := List.length_eq_zero_iff.symm
      clear c6
      refine CallsC.of Tryz.call25 Tryz.func25 rfl Tryz.ntmps25 rfl fun w0 G0 S0 hs ho => ?_
      refine run ?_
      and_intros <;> intros <;> exfalso <;> grind
end Go.Proofs.YtkpghepeagafoaaGreat
set_option maxRecDepth 8000
set_option linter.unusedVariables false
namespace Go.Proofs.YtkpghepeagafoaaGreat
open Go.Vk
attribute [local irreducible] HT HX RegS RegA RegM OpP OpC AltT
attribute [local irreducible] Ber.tagB Ber.lenB Ber.intB Ber.allE Ber.fromIntB Ber.nextB Ms.frameB Ms.decP
theorem bGrow0 : CallsC Tryz.prog 23 [Is (.slice none 0 0), okI .i64 0] [] (fun v => TAnd (Is v) (TBytes [])) (fun v => [ownSl v 1 5]) := by
  refine CallsC.of Tryz.call23 Tryz.func23 rfl Tryz.ntmps23 rfl fun w0 G0 S0 hs ho => ?_
  refine run ?_
  intro _ _
  refine HX.sub (E' := [(4, TAnd (Is (.slice none 0 0)) (TBytes []))]) (SubE.cons rfl (Sub.nilO rfl) SubE.done) ?_
  exact run trivial
theorem bGrowA (n : Int) (h : 0 ≤ n ∧ n ≤ 100000000) : CallsC Tryz.prog 23 [Is (.slice none 0 0), okI .i64 n] [] (fun v => TAnd (Is v) (TBytes [])) (fun v => [ownSl v 1 5]) := by
  by_cases h0 : n = 0
  · subst h0; exact bGrow0
  · exact bGrow n (by omega)
set_option maxHeartbeats 1000000 in
theorem bConcatA (ls : List (List UInt8)) (h1 : ls.flatten.length ≤ 10000000) (hn : ls.length ≤ 1000000) : CFn Tryz.prog 14 [TSl 1 Ss.cTB ls] (TBytes ls.flatten) := by
  have c1 := bGrowA
  refine CallsC.of Tryz.call14 Tryz.func14 rfl Tryz.ntmps14 rfl fun w0 G0 S0 hs ho => ?_
  refine run ?_
  refine HT.loopX (σ := Nat) [0, 2, 9, 10] (fun i => [(3, okI .i64 ((ls.take i).flatten.length : Int)), (11, okI .i64 (i : Int))]) (fun _ => []) (fun i => i ≤ ls.length) (fun i => ls.length - i) 0 (Nat.zero_le _) (run trivial) (by refine run ?_; rfl) ?_
  intro i hi
  by_cases hlt : i < ls.length
  · have e1 := Ss.tot_snoc hlt
    have e2 := Ss.tot_take ls (i + 1)
    rw [e1, List.length_append] at e2
    clear c1
    refine run ?_
    intro _ _
    exact HX.roundX (i + 1) ⟨by omega, by omega⟩ rfl (run trivial) (by refine run ?_; rw [e1, List.length_append]; omega)
  · rw [List.take_of_length_le (by omega)]
    refine run ?_
    intro v0 _
    refine HT.loopX (σ := (Nat × List UInt8) × Value) [2, 25, 26] (fun t => [(6, TAnd (Is t.2) (TBytes t.1.2)), (27, okI .i64 (t.1.1 : Int))]) (fun t => [ownSl t.2 1 5]) (fun t => t.1.1 ≤ ls.length ∧ t.1.2 = (ls.take t.1.1).flatten) (fun t => ls.length - t.1.1) ((0, []), v0) ⟨Nat.zero_le _, rfl⟩ (run trivial) (run trivial) ?_
    clear hi hlt c1
    rintro ⟨⟨j, b⟩, v⟩ ⟨hj, hb⟩
    dsimp only at hj hb ⊢
    by_cases hlt : j < ls.length
    · have e1 := Ss.tot_snoc hlt
      have e2 := Ss.tot_take ls (j + 1)
      rw [e1, List.length_append, ← hb] at e2
      refine run ?_
      intro v' _
      exact HX.roundX ((j + 1, b ++ ls.getD j default), v') ⟨⟨by dsimp only; omega, by dsimp only; rw [e1, hb]⟩, by dsimp only; omega⟩ rfl (run trivial) (run trivial)
    · have hb' : b = ls.flatten := by rw [hb, List.take_of_length_le (by omega)]
      subst hb'
      exact run trivial
theorem bConcat2 (a b : List UInt8) (h1 : a.length + b.length ≤ 10000000) : CFn Tryz.prog 14 [TSlX 1 (fun ts : List Ty => ts) [[TBytes a], [TBytes b]]] (TBytes (a ++ b)) := by
  have := bConcatA [a, b] (by simpa using h1) (by simp)
  rw [show [a, b].flatten = a ++ b by simp] at this
  exact CFn.sub this (TsSub.cons (Sub.slxT rfl) TsSub.nil)
theorem seNextA (g : Nat) (o : Bool) (W : Ty) (w : List UInt8) (hw : w.length ≤ 70000) (h : (Ms.frameB w).1 = 0 ∨ (Ms.frameB w).2 ≠ 0) : CallsC Tryz.prog 15 [Is (pAt g 0)] [SX g o W (TBytes w)] (fun _ => TTup [TAgg (Ms.cReq Ms.zR), Is (.bool false), Is (.bool (decide ((Ms.frameB w).2 ≠ 0)))]) (fun _ => [SX g o W (TBytes w)]) := by
  have c1 := msFrame w (by omega)
  generalize Ms.frameB w = f at c1 h ⊢
  refine CallsC.of Tryz.call15 Tryz.func15 rfl Tryz.ntmps15 rfl fun w0 G0 S0 hs ho => ?_
  refine run ?_
  and_intros <;> intros <;> rfl
theorem seNextB (g : Nat) (o : Bool) (W : Ty) (w : List UInt8) (hw : w.length ≤ 70000) (h : ¬ (Ms.frameB w).2 ≠ 0) (h1 : ¬ (Ms.frameB w).1 = 0) : CallsC Tryz.prog 15 [Is (pAt g 0)] [SX g o W (TBytes w)] (fun _ => TTup [TAgg (Ms.cReq (Ms.decP (w.take (Ms.frameB w).1.toNat)).1), Is (.bool (decide ((Ms.decP (w.take (Ms.frameB w).1.toNat)).2 = 0))), Is (.bool (decide ((Ms.decP (w.take (Ms.frameB w).1.toNat)).2 ≠ 0)))]) (fun _ => [SX g o W (TBytes (w.drop (Ms.frameB w).1.toNat))]) := by
  have c1 := msFrame w (by omega)
  have hle := Ms.frameB_le w
  have c2 := msDecode (w.take (Ms.frameB w).1.toNat) (by have := Ss.take_le w; omega)
  generalize Ms.frameB w = f at c1 c2 h h1 hle ⊢
  generalize Ms.decP (w.take f.1.toNat) = d at c2 ⊢
  refine CallsC.of Tryz.call15 Tryz.func15 rfl Tryz.ntmps15 rfl fun w0 G0 S0 hs ho => ?_
  exact run trivial
attribute [local irreducible] Ss.tk
set_option maxHeartbeats 4000000 in
theorem seTakeA (g : Nat) (W : Ty) (w p : List UInt8) (hw : w.length + p.length ≤ 10000) : CallsC Tryz.prog 7 [Is (pAt g 0), TBytes p] [SX g true W (TBytes w)] (fun _ => TTup [TSl 21 Ms.cReq (Ss.tk [] (w ++ p)).1.1, Is (.bool (Ss.tk [] (w ++ p)).1.2)]) (fun _ => [SX g (Ss.tk [] (w ++ p)).2.1 W (TBytes (Ss.tk [] (w ++ p)).2.2)]) := by
  have c1 := seOpen g true W (TBytes w)
  have c2 := bConcat2 w p (by omega)
  have hl : (w ++ p).length ≤ 10000 := by rw [List.length_append]; omega
  generalize w ++ p = q at *
  refine CallsC.of Tryz.call7 Tryz.func7 rfl Tryz.ntmps7 rfl fun w0 G0 S0 hs ho => ?_
  refine run ?_
  intro _
  clear c1 c2
  obtain ⟨R, hR⟩ : ∃ R, R = Ss.tk [] q := ⟨_, rfl⟩
  rw [← hR]
  refine HT.loopX (σ := (Bool × List Ms.Req × List UInt8) × Value) [0] (fun t => [(6, TAnd (Is t.2) (TSl 21 Ms.cReq t.1.2.1))]) (fun t => [SX g t.1.1 W (TBytes t.1.2.2), ownSl t.2 21 49]) (fun t => t.1.2.1.length + t.1.2.2.length ≤ 20000 ∧ (t.1.1 = true → R = Ss.tk t.1.2.1 t.1.2.2 ∧ t.1.2.2.length ≤ 10000) ∧ (t.1.1 = false → R = ((t.1.2.1, false), false, []) ∧ t.1.2.2 = [])) (fun t => if t.1.1 = true then t.1.2.2.length + 1 else 0) ((true, [], q), .slice none 0 0) ⟨by dsimp only [List.length_nil]; omega, fun _ => ⟨hR, hl⟩, fun h => by cases h⟩ (run trivial) (run trivial) ?_
  rintro ⟨⟨o, acc, x⟩, u⟩ ⟨h1, h2, h3⟩
  dsimp only at h1 h2 h3 ⊢
  cases o with
  | false =>
    obtain ⟨h4, h5⟩ := h3 rfl
    subst h5
    rw [h4]
    exact run trivial
  | true =>
    obtain ⟨h4, h5⟩ := h2 rfl
    clear h2 h3
    have hcl := seClose g true W
    by_cases hn : (Ms.frameB x).1 = 0 ∨ (Ms.frameB x).2 ≠ 0
    · have c3 := seNextA g true W x (by omega) hn
      by_cases he : (Ms.frameB x).2 ≠ 0
      · rw [decide_eq_true he] at c3
        rw [Ss.tk_bad he] at h4
        rw [h4]
        exact run trivial
      · rw [decide_eq_false he] at c3
        rw [Ss.tk_wait he (by omega)] at h4
        rw [h4]
        exact run trivial
    · have he : ¬ (Ms.frameB x).2 ≠ 0 := fun h => hn (.inr h)
      have hn0 : ¬ (Ms.frameB x).1 = 0 := fun h => hn (.inl h)
      have c3 := seNextB g true W x (by omega) he hn0
      have hdl := Ss.drop_lt hn0
      have t1 := fun h => Ss.tk_err (acc := acc) he hn0 h
      have t2 := fun h k => Ss.tk_end (acc := acc) he hn0 h k
      have t3 := fun h k => Ss.tk_go (acc := acc) he hn0 h k
      generalize x.drop (Ms.frameB x).1.toNat = y at *
      generalize Ms.decP (x.take (Ms.frameB x).1.toNat) = d at *
      by_cases hd : d.2 = 0
      · rw [decide_eq_true hd, decide_eq_false (by simpa using hd)] at c3
        by_cases hk : d.1.kind = 2
        · rw [t2 (by simpa using hd) hk] at h4
          clear t1 t2 t3
          refine run ?_
          intro _ u' _ _ _ _
          exact HX.roundX ((false, acc ++ [d.1], []), u') ⟨⟨by dsimp only; rw [List.length_append]; simp; omega, fun h => (by cases h), fun _ => ⟨h4, rfl⟩⟩, by simp⟩ rfl (run trivial) (run trivial)
        · rw [t3 (by simpa using hd) hk] at h4
          clear t1 t2 t3 hcl
          refine run ?_
          intro _ u' _ _ _ _
          exact HX.roundX ((true, acc ++ [d.1], y), u') ⟨⟨by dsimp only; rw [List.length_append, List.length_cons, List.length_nil]; omega, fun _ => ⟨h4, by dsimp only; omega⟩, fun h => (by cases h)⟩, by dsimp only; simp only [if_true]; omega⟩ rfl (run trivial) (run trivial)
      · rw [decide_eq_false hd, decide_eq_true hd] at c3
        rw [t1 hd] at h4
        rw [h4]
        clear t1 t2 t3
        exact run trivial
theorem seRequests (a : List Ms.Req) (ha : ∀ x ∈ a, Ms.Okr x) (hl : a.length ≤ 100000) : CFn Tryz.prog 9 [TSl 21 Ms.cReq a, TSl 21 Ms.cReq a] (Is (.bool true)) := by
  refine CallsC.of Tryz.call9 Tryz.func9 rfl Tryz.ntmps9 rfl fun w0 G0 S0 hs ho => ?_
  refine run ?_
  intro _
  refine HT.loopX (σ := Nat) [0, 1] (fun i => [(5, okI .i64 (i : Int))]) (fun _ => []) (fun i => i ≤ a.length) (fun i => a.length - i) 0 (Nat.zero_le _) (run trivial) (run trivial) ?_
  intro i hi
  by_cases hlt : i < a.length
  · have c1 := rfSame25 (a.getD i default) (a.getD i default) (ha _ (by
      rw [List.getD_eq_getElem?_getD, List.getElem?_eq_getElem hlt]; simp))
    rw [decide_eq_true rfl] at c1
    refine run ?_
    intro _ _
    exact HX.roundX (i + 1) ⟨by omega, by omega⟩ rfl (run trivial) (run trivial)
  · exact run trivial
end Go.Proofs.YtkpghepeagafoaaGreat
