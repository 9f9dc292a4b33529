/-
  The contracts of the document's operations: bind, search, rename, compare, modify, add (printed by mkp2.py).
  The contract of the document's operation (printed by mkp3.py).
  The contract of the document's Decode (printed by mkp4.py).
  The contracts of the document's connection: Close and Take.
  The contract of long; the law SessTakes.
-/
import Derived.Test.YtkpghepeagafoaaGreatGav
import Derived.Test.YtkpghepeagafoaaGreatGat
import Derived.Test.YtkpghepeagafoaaGreatGas
import Derived.Test.YtkpghepeagafoaaGreatGao
import Derived.Test.YtkpghepeagafoaaGreatGau
set_option linter.unusedSimpArgs false
set_option linter.unusedVariables false
set_option linter.unusedVariables false
set_option maxRecDepth 8000
set_option linter.unusedVariables false
namespace Go.Proofs.YtkpghepeagafoaaGreat
open Go.Vk
attribute [local irreducible] HT HX RegS RegA RegM OpP OpC AltT
attribute [local irreducible] Ber.tagB Ber.lenB Ber.intB Ber.allE Ber.fromIntB Ber.nextB Ms.midB Ms.filtD Ms.subsM Ms.textsM Ms.attrsM Ms.modsM Ms.truthI Ms.numR Ms.takeI
theorem rdPeekN (g : Nat) (l : List Ms.It) (a : Nat) (bad : Bool) (hl : Ms.wI l ≤ 100000000) (ha : a ≤ l.length) (t : UInt8) (ht : Ms.peekI (l.drop a) bad = t) : CallsC Tryz.prog 30 [Is (pAt g 0)] [RX25 g l a bad] (fun _ => okI .u8 (t.toNat : Int)) (fun _ => [RX25 g l a bad]) := by
  have c1 := rdPeek g l a bad hl ha
  rw [ht] at c1
  exact c1
theorem drop_ite {l : List Ms.It} {c : Prop} [Decidable c] {a b : Nat} : l.drop (if c then a else b) = if c then l.drop a else l.drop b := by split <;> rfl

set_option maxHeartbeats 8000000 in
theorem rdBind (l : List Ms.It) (a : Nat) (bad : Bool) (hl : Ms.wI l ≤ 100000000) (ha : a ≤ l.length) : ∃ a', a' ≤ l.length ∧ l.drop a' = (Ms.innM false 96 Ms.bindD (l.drop a) bad).2.1 ∧ ∀ g, CallsC Tryz.prog 52 [Is (pAt g 0)] [RX25 g l a bad] (fun _ => TAgg (Ms.cReq (Ms.innM false 96 Ms.bindD (l.drop a) bad).1)) (fun _ => [RX25 g l a' (Ms.innM false 96 Ms.bindD (l.drop a) bad).2.2]) := by
  obtain ⟨a1, h1, h2, c2⟩ := rdInner l a bad 96 hl ha
  refine ⟨a1, h1, h2, fun g => ?_⟩
  have hw2 := Ms.inner_w (l.drop a) bad 96
  have hw3 := Ms.wI_drop l a
  unfold Ms.innM Ms.bindD
  dsimp only [Ms.xbM]
  clear h2
  generalize Ms.takeI (l.drop a) bad 96 = y at c2 hw2 ⊢
  generalize hpb : Ms.pbM false y = pb at c2 ⊢
  generalize hx : Ms.allI y.1 = x0 at c2 hw2 ⊢
  generalize hb : Ms.badI y.1 = b0 at c2 ⊢
  have e : ∀ x b, Ms.textI x b = Ms.takeI x b 4 := fun _ _ => rfl
  try rw [e]
  have d2 : ∀ g, CallsC Tryz.prog 54 [Is (pAt g 0), okI .u8 96] [RX25 g l a bad] (fun v => Is (pAt (blk v) 0)) (fun v => [RX25 g l a1 pb, RX25 (blk v) x0 0 b0]) := c2
  clear c2
  obtain ⟨i1, k1, k2, c11⟩ := rdNum x0 0 (b0) 2 3 3 (by omega) (Nat.zero_le _)
  rw [List.drop_zero] at k2 c11
  generalize Ms.numR x0 b0 2 3 3 = p1 at c11 k2 ⊢
  have d11 : ∀ g, CallsC Tryz.prog 28 [Is (pAt g 0), okI .u8 2, okI .i64 3, okI .i64 3] [RX25 g x0 0 (b0)] (fun _ => okI .i64 p1.1) (fun _ => [RX25 g x0 i1 p1.2.2]) := c11
  clear c11
  obtain ⟨i2, k3, k4, c12⟩ := rdBody x0 i1 (p1.2.2) 4 (by omega) k1
  rw [k2] at k4 c12
  try rw [e]
  generalize Ms.takeI p1.2.1 p1.2.2 4 = p2 at c12 k4 ⊢
  have d12 : ∀ g, CallsC Tryz.prog 31 [Is (pAt g 0), okI .u8 4] [RX25 g x0 i1 (p1.2.2)] (fun _ => TBytes p2.1) (fun _ => [RX25 g x0 i2 p2.2.2]) := c12
  clear c12
  obtain ⟨i3, k5, k6, c13⟩ := rdBody x0 i2 (p2.2.2) 128 (by omega) k3
  rw [k4] at k6 c13
  try rw [e]
  generalize Ms.takeI p2.2.1 p2.2.2 128 = p3 at c13 k6 ⊢
  have d13 : ∀ g, CallsC Tryz.prog 31 [Is (pAt g 0), okI .u8 128] [RX25 g x0 i2 (p2.2.2)] (fun _ => TBytes p3.1) (fun _ => [RX25 g x0 i3 p3.2.2]) := c13
  clear c13
  have cE := fun g g2 => rdEnd g g2 l x0 a1 i3 pb p3.2.2 (by omega) k5
  rw [k6] at cE
  clear e
  dsimp only [Ms.cReq]
  refine CallsC.of Tryz.call52 Tryz.func52 rfl Tryz.ntmps52 rfl fun w0 G0 S0 hs ho => ?_
  refine run ?_
  and_intros <;> intros <;> rfl

set_option maxHeartbeats 8000000 in
theorem rdSearch (l : List Ms.It) (a : Nat) (bad : Bool) (hl : Ms.wI l ≤ 100000000) (ha : a ≤ l.length) : ∃ a', a' ≤ l.length ∧ l.drop a' = (Ms.innM false 99 Ms.srchD (l.drop a) bad).2.1 ∧ ∀ g, CallsC Tryz.prog 53 [Is (pAt g 0)] [RX25 g l a bad] (fun _ => TAgg (Ms.cReq (Ms.innM false 99 Ms.srchD (l.drop a) bad).1)) (fun _ => [RX25 g l a' (Ms.innM false 99 Ms.srchD (l.drop a) bad).2.2]) := by
  obtain ⟨a1, h1, h2, c2⟩ := rdInner l a bad 99 hl ha
  refine ⟨a1, h1, h2, fun g => ?_⟩
  have hw2 := Ms.inner_w (l.drop a) bad 99
  have hw3 := Ms.wI_drop l a
  unfold Ms.innM Ms.srchD
  dsimp only [Ms.xbM]
  clear h2
  generalize Ms.takeI (l.drop a) bad 99 = y at c2 hw2 ⊢
  generalize hpb : Ms.pbM false y = pb at c2 ⊢
  generalize hx : Ms.allI y.1 = x0 at c2 hw2 ⊢
  generalize hb : Ms.badI y.1 = b0 at c2 ⊢
  have e : ∀ x b, Ms.textI x b = Ms.takeI x b 4 := fun _ _ => rfl
  try rw [e]
  have d2 : ∀ g, CallsC Tryz.prog 54 [Is (pAt g 0), okI .u8 99] [RX25 g l a bad] (fun v => Is (pAt (blk v) 0)) (fun v => [RX25 g l a1 pb, RX25 (blk v) x0 0 b0]) := c2
  clear c2
  obtain ⟨i1, k1, k2, c11⟩ := rdBody x0 0 (b0) 4 (by omega) (Nat.zero_le _)
  rw [List.drop_zero] at k2 c11
  try rw [e]
  generalize Ms.takeI x0 b0 4 = p1 at c11 k2 ⊢
  have d11 : ∀ g, CallsC Tryz.prog 31 [Is (pAt g 0), okI .u8 4] [RX25 g x0 0 (b0)] (fun _ => TBytes p1.1) (fun _ => [RX25 g x0 i1 p1.2.2]) := c11
  clear c11
  obtain ⟨i2, k3, k4, c12⟩ := rdNum x0 i1 (p1.2.2) 10 0 2 (by omega) k1
  rw [k2] at k4 c12
  generalize Ms.numR p1.2.1 p1.2.2 10 0 2 = p2 at c12 k4 ⊢
  have d12 : ∀ g, CallsC Tryz.prog 28 [Is (pAt g 0), okI .u8 10, okI .i64 0, okI .i64 2] [RX25 g x0 i1 (p1.2.2)] (fun _ => okI .i64 p2.1) (fun _ => [RX25 g x0 i2 p2.2.2]) := c12
  clear c12
  obtain ⟨i3, k5, k6, c13⟩ := rdNum x0 i2 (p2.2.2) 10 0 3 (by omega) k3
  rw [k4] at k6 c13
  generalize Ms.numR p2.2.1 p2.2.2 10 0 3 = p3 at c13 k6 ⊢
  have d13 : ∀ g, CallsC Tryz.prog 28 [Is (pAt g 0), okI .u8 10, okI .i64 0, okI .i64 3] [RX25 g x0 i2 (p2.2.2)] (fun _ => okI .i64 p3.1) (fun _ => [RX25 g x0 i3 p3.2.2]) := c13
  clear c13
  obtain ⟨i4, k7, k8, c14⟩ := rdNum x0 i3 (p3.2.2) 2 0 Ms.mostN (by omega) k5
  rw [k6] at k8 c14
  generalize Ms.numR p3.2.1 p3.2.2 2 0 Ms.mostN = p4 at c14 k8 ⊢
  have d14 : ∀ g, CallsC Tryz.prog 28 [Is (pAt g 0), okI .u8 2, okI .i64 0, okI .i64 2147483647] [RX25 g x0 i3 (p3.2.2)] (fun _ => okI .i64 p4.1) (fun _ => [RX25 g x0 i4 p4.2.2]) := c14
  clear c14
  obtain ⟨i5, k9, k10, c15⟩ := rdNum x0 i4 (p4.2.2) 2 0 Ms.mostN (by omega) k7
  rw [k8] at k10 c15
  generalize Ms.numR p4.2.1 p4.2.2 2 0 Ms.mostN = p5 at c15 k10 ⊢
  have d15 : ∀ g, CallsC Tryz.prog 28 [Is (pAt g 0), okI .u8 2, okI .i64 0, okI .i64 2147483647] [RX25 g x0 i4 (p4.2.2)] (fun _ => okI .i64 p5.1) (fun _ => [RX25 g x0 i5 p5.2.2]) := c15
  clear c15
  obtain ⟨i6, k11, k12, c16⟩ := rdFlag x0 i5 (p5.2.2)  (by omega) k9
  rw [k10] at k12 c16
  generalize Ms.truthI p5.2.1 p5.2.2 = p6 at c16 k12 ⊢
  have d16 : ∀ g, CallsC Tryz.prog 81 [Is (pAt g 0)] [RX25 g x0 i5 (p5.2.2)] (fun _ => Is (.bool p6.1)) (fun _ => [RX25 g x0 i6 p6.2.2]) := c16
  clear c16
  obtain ⟨i7, k13, k14, c17⟩ := rdFilter 16 (by decide) x0 i6 (p6.2.2) (by omega) k11
  rw [k12] at k14 c17
  generalize Ms.filtD 16 p6.2.1 p6.2.2 = p7 at c17 k14 ⊢
  have d17 : ∀ g, CallsC Tryz.prog 82 [Is (pAt g 0), okI .i64 1] [RX25 g x0 i6 (p6.2.2)] (fun _ => TAgg (Fi.cF p7.1)) (fun _ => [RX25 g x0 i7 p7.2.2]) := c17
  clear c17
  obtain ⟨i8, k15, k16, c18⟩ := rdTexts x0 i7 (p7.2.2) 48 (by omega) k13
  rw [k14] at k16 c18
  generalize Ms.textsM false 48 p7.2.1 p7.2.2 = p8 at c18 k16 ⊢
  have d18 : ∀ g, CallsC Tryz.prog 83 [Is (pAt g 0), okI .u8 48] [RX25 g x0 i7 (p7.2.2)] (fun _ => TSl 1 En.cS p8.1) (fun _ => [RX25 g x0 i8 p8.2.2]) := c18
  clear c18
  have cE := fun g g2 => rdEnd g g2 l x0 a1 i8 pb p8.2.2 (by omega) k15
  rw [k16] at cE
  clear e
  rw [Fi.cF_open] at d17
  have h15 := Hold.mk d15
  clear d15
  have st := Stop.mk' 6
  dsimp only [Ms.cReq]
  refine CallsC.of Tryz.call53 Tryz.func53 rfl Tryz.ntmps53 rfl fun w0 G0 S0 hs ho => ?_
  refine run ?_
  intros
  refine HTs.mk ?_
  have d15 := h15.h
  clear st d14 h15
  refine run ?_
  and_intros <;> intros <;> rfl

set_option maxHeartbeats 8000000 in
theorem rdModify (l : List Ms.It) (a : Nat) (bad : Bool) (hl : Ms.wI l ≤ 100000000) (ha : a ≤ l.length) (ht : Ms.peekI (l.drop a) bad = 102) : ∃ a', a' ≤ l.length ∧ l.drop a' = (Ms.innM false 102 (Ms.modfM false) (l.drop a) bad).2.1 ∧ ∀ g, CallsC Tryz.prog 29 [Is (pAt g 0)] [RX25 g l a bad] (fun _ => TAgg (Ms.cReq (Ms.innM false 102 (Ms.modfM false) (l.drop a) bad).1)) (fun _ => [RX25 g l a' (Ms.innM false 102 (Ms.modfM false) (l.drop a) bad).2.2]) := by
  obtain ⟨a1, h1, h2, c2⟩ := rdInner l a bad 102 hl ha
  refine ⟨a1, h1, h2, fun g => ?_⟩
  have hw2 := Ms.inner_w (l.drop a) bad 102
  have hw3 := Ms.wI_drop l a
  unfold Ms.innM Ms.modfM
  dsimp only [Ms.xbM]
  clear h2
  generalize Ms.takeI (l.drop a) bad 102 = y at c2 hw2 ⊢
  generalize hpb : Ms.pbM false y = pb at c2 ⊢
  generalize hx : Ms.allI y.1 = x0 at c2 hw2 ⊢
  generalize hb : Ms.badI y.1 = b0 at c2 ⊢
  have e : ∀ x b, Ms.textI x b = Ms.takeI x b 4 := fun _ _ => rfl
  try rw [e]
  have d2 : ∀ g, CallsC Tryz.prog 54 [Is (pAt g 0), okI .u8 102] [RX25 g l a bad] (fun v => Is (pAt (blk v) 0)) (fun v => [RX25 g l a1 pb, RX25 (blk v) x0 0 b0]) := c2
  clear c2
  obtain ⟨i1, k1, k2, c11⟩ := rdBody x0 0 (b0) 4 (by omega) (Nat.zero_le _)
  rw [List.drop_zero] at k2 c11
  try rw [e]
  generalize Ms.takeI x0 b0 4 = p1 at c11 k2 ⊢
  have d11 : ∀ g, CallsC Tryz.prog 31 [Is (pAt g 0), okI .u8 4] [RX25 g x0 0 (b0)] (fun _ => TBytes p1.1) (fun _ => [RX25 g x0 i1 p1.2.2]) := c11
  clear c11
  obtain ⟨i2, k3, k4, c12⟩ := rdMods x0 i1 (p1.2.2)  (by omega) k1
  rw [k2] at k4 c12
  generalize Ms.modsM false p1.2.1 p1.2.2 = p2 at c12 k4 ⊢
  have d12 : ∀ g, CallsC Tryz.prog 55 [Is (pAt g 0)] [RX25 g x0 i1 (p1.2.2)] (fun _ => TSl 3 Ms.cMod p2.1) (fun _ => [RX25 g x0 i2 p2.2.2]) := c12
  clear c12
  have cE := fun g g2 => rdEnd g g2 l x0 a1 i2 pb p2.2.2 (by omega) k3
  rw [k4] at cE
  clear e
  have cP : CallsC Tryz.prog 30 [Is (pAt g 0)] [RX25 g l a bad] (fun _ => okI .u8 102) (fun _ => [RX25 g l a bad]) := rdPeekN g l a bad hl ha 102 ht
  clear ht
  dsimp only [Ms.cReq]
  refine CallsC.of Tryz.call29 Tryz.func29 rfl Tryz.ntmps29 rfl fun w0 G0 S0 hs ho => ?_
  refine run ?_
  and_intros <;> intros <;> rfl

set_option maxHeartbeats 8000000 in
theorem rdAdd (l : List Ms.It) (a : Nat) (bad : Bool) (hl : Ms.wI l ≤ 100000000) (ha : a ≤ l.length) (ht : Ms.peekI (l.drop a) bad = 104) : ∃ a', a' ≤ l.length ∧ l.drop a' = (Ms.innM false 104 (Ms.addM false) (l.drop a) bad).2.1 ∧ ∀ g, CallsC Tryz.prog 29 [Is (pAt g 0)] [RX25 g l a bad] (fun _ => TAgg (Ms.cReq (Ms.innM false 104 (Ms.addM false) (l.drop a) bad).1)) (fun _ => [RX25 g l a' (Ms.innM false 104 (Ms.addM false) (l.drop a) bad).2.2]) := by
  obtain ⟨a1, h1, h2, c2⟩ := rdInner l a bad 104 hl ha
  refine ⟨a1, h1, h2, fun g => ?_⟩
  have hw2 := Ms.inner_w (l.drop a) bad 104
  have hw3 := Ms.wI_drop l a
  unfold Ms.innM Ms.addM
  dsimp only [Ms.xbM]
  clear h2
  generalize Ms.takeI (l.drop a) bad 104 = y at c2 hw2 ⊢
  generalize hpb : Ms.pbM false y = pb at c2 ⊢
  generalize hx : Ms.allI y.1 = x0 at c2 hw2 ⊢
  generalize hb : Ms.badI y.1 = b0 at c2 ⊢
  have e : ∀ x b, Ms.textI x b = Ms.takeI x b 4 := fun _ _ => rfl
  try rw [e]
  have d2 : ∀ g, CallsC Tryz.prog 54 [Is (pAt g 0), okI .u8 104] [RX25 g l a bad] (fun v => Is (pAt (blk v) 0)) (fun v => [RX25 g l a1 pb, RX25 (blk v) x0 0 b0]) := c2
  clear c2
  obtain ⟨i1, k1, k2, c11⟩ := rdBody x0 0 (b0) 4 (by omega) (Nat.zero_le _)
  rw [List.drop_zero] at k2 c11
  try rw [e]
  generalize Ms.takeI x0 b0 4 = p1 at c11 k2 ⊢
  have d11 : ∀ g, CallsC Tryz.prog 31 [Is (pAt g 0), okI .u8 4] [RX25 g x0 0 (b0)] (fun _ => TBytes p1.1) (fun _ => [RX25 g x0 i1 p1.2.2]) := c11
  clear c11
  obtain ⟨i2, k3, k4, c12⟩ := rdAttrs x0 i1 (p1.2.2)  (by omega) k1
  rw [k2] at k4 c12
  generalize Ms.attrsM false p1.2.1 p1.2.2 = p2 at c12 k4 ⊢
  have d12 : ∀ g, CallsC Tryz.prog 57 [Is (pAt g 0)] [RX25 g x0 i1 (p1.2.2)] (fun _ => TSl 2 En.cAttr p2.1) (fun _ => [RX25 g x0 i2 p2.2.2]) := c12
  clear c12
  have cE := fun g g2 => rdEnd g g2 l x0 a1 i2 pb p2.2.2 (by omega) k3
  rw [k4] at cE
  clear e
  have cP : CallsC Tryz.prog 30 [Is (pAt g 0)] [RX25 g l a bad] (fun _ => okI .u8 104) (fun _ => [RX25 g l a bad]) := rdPeekN g l a bad hl ha 104 ht
  clear ht
  dsimp only [Ms.cReq]
  refine CallsC.of Tryz.call29 Tryz.func29 rfl Tryz.ntmps29 rfl fun w0 G0 S0 hs ho => ?_
  refine run ?_
  and_intros <;> intros <;> rfl

set_option maxHeartbeats 8000000 in
theorem rdRename (l : List Ms.It) (a : Nat) (bad : Bool) (hl : Ms.wI l ≤ 100000000) (ha : a ≤ l.length) : ∃ a', a' ≤ l.length ∧ l.drop a' = (Ms.innM false 108 Ms.renI (l.drop a) bad).2.1 ∧ ∀ g, CallsC Tryz.prog 58 [Is (pAt g 0)] [RX25 g l a bad] (fun _ => TAgg (Ms.cReq (Ms.innM false 108 Ms.renI (l.drop a) bad).1)) (fun _ => [RX25 g l a' (Ms.innM false 108 Ms.renI (l.drop a) bad).2.2]) := by
  obtain ⟨a1, h1, h2, c2⟩ := rdInner l a bad 108 hl ha
  refine ⟨a1, h1, h2, fun g => ?_⟩
  have hw2 := Ms.inner_w (l.drop a) bad 108
  have hw3 := Ms.wI_drop l a
  unfold Ms.innM Ms.renI
  dsimp only [Ms.xbM]
  clear h2
  generalize Ms.takeI (l.drop a) bad 108 = y at c2 hw2 ⊢
  generalize hpb : Ms.pbM false y = pb at c2 ⊢
  generalize hx : Ms.allI y.1 = x0 at c2 hw2 ⊢
  generalize hb : Ms.badI y.1 = b0 at c2 ⊢
  have e : ∀ x b, Ms.textI x b = Ms.takeI x b 4 := fun _ _ => rfl
  try rw [e]
  have d2 : ∀ g, CallsC Tryz.prog 54 [Is (pAt g 0), okI .u8 108] [RX25 g l a bad] (fun v => Is (pAt (blk v) 0)) (fun v => [RX25 g l a1 pb, RX25 (blk v) x0 0 b0]) := c2
  clear c2
  obtain ⟨i1, k1, k2, c11⟩ := rdBody x0 0 (b0) 4 (by omega) (Nat.zero_le _)
  rw [List.drop_zero] at k2 c11
  try rw [e]
  generalize Ms.takeI x0 b0 4 = p1 at c11 k2 ⊢
  have d11 : ∀ g, CallsC Tryz.prog 31 [Is (pAt g 0), okI .u8 4] [RX25 g x0 0 (b0)] (fun _ => TBytes p1.1) (fun _ => [RX25 g x0 i1 p1.2.2]) := c11
  clear c11
  obtain ⟨i2, k3, k4, c12⟩ := rdBody x0 i1 (p1.2.2) 4 (by omega) k1
  rw [k2] at k4 c12
  try rw [e]
  generalize Ms.takeI p1.2.1 p1.2.2 4 = p2 at c12 k4 ⊢
  have d12 : ∀ g, CallsC Tryz.prog 31 [Is (pAt g 0), okI .u8 4] [RX25 g x0 i1 (p1.2.2)] (fun _ => TBytes p2.1) (fun _ => [RX25 g x0 i2 p2.2.2]) := c12
  clear c12
  obtain ⟨i3, k5, k6, c13⟩ := rdFlag x0 i2 (p2.2.2)  (by omega) k3
  rw [k4] at k6 c13
  generalize Ms.truthI p2.2.1 p2.2.2 = p3 at c13 k6 ⊢
  have d13 : ∀ g, CallsC Tryz.prog 81 [Is (pAt g 0)] [RX25 g x0 i2 (p2.2.2)] (fun _ => Is (.bool p3.1)) (fun _ => [RX25 g x0 i3 p3.2.2]) := c13
  clear c13
  clear e
  have h12 := Hold.mk d12
  clear d12
  unfold Ms.mayI
  have st := Stop.mk' 3
  have cP := fun g => rdPeek g x0 i3 p3.2.2 (by omega) k5
  rw [k6] at cP
  dsimp only [Ms.cReq]
  cases hi : Ms.isI p3.2.1 p3.2.2 128 with
  | true =>
    rw [if_pos rfl]
    obtain ⟨i4, k7, k8, c14⟩ := rdBody x0 i3 p3.2.2 128 (by omega) k5
    rw [k6] at k8 c14
    have f2 := Ms.peek_is hi
    rw [f2] at cP
    generalize Ms.takeI p3.2.1 p3.2.2 128 = p4 at c14 k8 ⊢
    have d14 : ∀ g, CallsC Tryz.prog 31 [Is (pAt g 0), okI .u8 128] [RX25 g x0 i3 p3.2.2] (fun _ => TBytes p4.1) (fun _ => [RX25 g x0 i4 p4.2.2]) := c14
    have dP : ∀ g, CallsC Tryz.prog 30 [Is (pAt g 0)] [RX25 g x0 i3 p3.2.2] (fun _ => okI .u8 128) (fun _ => [RX25 g x0 i3 p3.2.2]) := cP
    have cE := fun g g2 => rdEnd g g2 l x0 a1 i4 pb p4.2.2 (by omega) k7
    rw [k8] at cE
    clear c14 cP hi f2
    refine CallsC.of Tryz.call58 Tryz.func58 rfl Tryz.ntmps58 rfl fun w0 G0 S0 hs ho => ?_
    refine run ?_
    intros
    refine HTs.mk ?_
    have d12 := h12.h
    clear st d11 h12
    refine run ?_
    and_intros <;> intros <;> rfl
  | false =>
    rw [if_neg Bool.false_ne_true]
    have f2 : ¬ ((Ms.peekI p3.2.1 p3.2.2).toNat : Int) = 128 := Ms.peek_not (t := 128) (by decide) hi
    generalize ((Ms.peekI p3.2.1 p3.2.2).toNat : Int) = pk at cP f2
    have cE := fun g g2 => rdEnd g g2 l x0 a1 i3 pb p3.2.2 (by omega) k5
    rw [k6] at cE
    clear hi
    refine CallsC.of Tryz.call58 Tryz.func58 rfl Tryz.ntmps58 rfl fun w0 G0 S0 hs ho => ?_
    refine run ?_
    intros
    refine HTs.mk ?_
    have d12 := h12.h
    clear st d11 h12
    refine run ?_
    and_intros <;> intros <;> rfl

set_option maxHeartbeats 8000000 in
theorem rdCompare (l : List Ms.It) (a : Nat) (bad : Bool) (hl : Ms.wI l ≤ 100000000) (ha : a ≤ l.length) : ∃ a', a' ≤ l.length ∧ l.drop a' = (Ms.innM false 110 (Ms.cmpM false) (l.drop a) bad).2.1 ∧ ∀ g, CallsC Tryz.prog 59 [Is (pAt g 0)] [RX25 g l a bad] (fun _ => TAgg (Ms.cReq (Ms.innM false 110 (Ms.cmpM false) (l.drop a) bad).1)) (fun _ => [RX25 g l a' (Ms.innM false 110 (Ms.cmpM false) (l.drop a) bad).2.2]) := by
  obtain ⟨a1, h1, h2, c2⟩ := rdInner l a bad 110 hl ha
  refine ⟨a1, h1, h2, fun g => ?_⟩
  have hw2 := Ms.inner_w (l.drop a) bad 110
  have hw3 := Ms.wI_drop l a
  unfold Ms.innM Ms.cmpM
  dsimp only [Ms.xbM]
  clear h2
  generalize Ms.takeI (l.drop a) bad 110 = y at c2 hw2 ⊢
  generalize hpb : Ms.pbM false y = pb at c2 ⊢
  generalize hx : Ms.allI y.1 = x0 at c2 hw2 ⊢
  generalize hb : Ms.badI y.1 = b0 at c2 ⊢
  have e : ∀ x b, Ms.textI x b = Ms.takeI x b 4 := fun _ _ => rfl
  try rw [e]
  have d2 : ∀ g, CallsC Tryz.prog 54 [Is (pAt g 0), okI .u8 110] [RX25 g l a bad] (fun v => Is (pAt (blk v) 0)) (fun v => [RX25 g l a1 pb, RX25 (blk v) x0 0 b0]) := c2
  clear c2
  obtain ⟨i1, k1, k2, c11⟩ := rdBody x0 0 (b0) 4 (by omega) (Nat.zero_le _)
  rw [List.drop_zero] at k2 c11
  try rw [e]
  generalize Ms.takeI x0 b0 4 = p1 at c11 k2 ⊢
  have d11 : ∀ g, CallsC Tryz.prog 31 [Is (pAt g 0), okI .u8 4] [RX25 g x0 0 (b0)] (fun _ => TBytes p1.1) (fun _ => [RX25 g x0 i1 p1.2.2]) := c11
  clear c11
  clear e
  unfold Ms.innM Ms.pairK
  dsimp only [Ms.xbM]
  have e : ∀ x b, Ms.textI x b = Ms.takeI x b 4 := fun _ _ => rfl
  rw [e, e]
  obtain ⟨j1, m1, m2, c12⟩ := rdInner x0 i1 p1.2.2 48 (by omega) k1
  have hw4 := Ms.inner_w (x0.drop i1) p1.2.2 48
  have hw5 := Ms.wI_drop x0 i1
  rw [k2] at m2 c12 hw4 hw5
  generalize Ms.takeI p1.2.1 p1.2.2 48 = y2 at c12 m2 hw4 ⊢
  generalize hpb2 : Ms.pbM false y2 = pb2 at c12 ⊢
  generalize hx2 : Ms.allI y2.1 = x2 at c12 hw4 ⊢
  generalize hb2 : Ms.badI y2.1 = b2 at c12 ⊢
  have d12 : ∀ g, CallsC Tryz.prog 54 [Is (pAt g 0), okI .u8 48] [RX25 g x0 i1 p1.2.2] (fun v => Is (pAt (blk v) 0)) (fun v => [RX25 g x0 j1 pb2, RX25 (blk v) x2 0 b2]) := c12
  obtain ⟨j2, m3, m4, c13⟩ := rdBody x2 0 b2 4 (by omega) (Nat.zero_le _)
  rw [List.drop_zero] at m4 c13
  generalize Ms.takeI x2 b2 4 = p at c13 m4 ⊢
  obtain ⟨j3, m5, m6, c14⟩ := rdBody x2 j2 p.2.2 4 (by omega) m3
  rw [m4] at m6 c14
  generalize Ms.takeI p.2.1 p.2.2 4 = q at c14 m6 ⊢
  have cE := fun g g2 => rdEnd g g2 x0 x2 j1 j3 pb2 q.2.2 (by omega) m5
  rw [m6] at cE
  have cF := fun g g2 => rdEnd g g2 l x0 a1 j1 pb (Ms.endI pb2 q.2.2 q.2.1) (by omega) m1
  rw [m2] at cF
  have h13 := Hold.mk (show ∀ g, CallsC Tryz.prog 31 [Is (pAt g 0), okI .u8 4] [RX25 g x2 0 b2] (fun _ => TBytes p.1) (fun _ => [RX25 g x2 j2 p.2.2]) from c13)
  have h14 := Hold.mk (show ∀ g, CallsC Tryz.prog 31 [Is (pAt g 0), okI .u8 4] [RX25 g x2 j2 p.2.2] (fun _ => TBytes q.1) (fun _ => [RX25 g x2 j3 q.2.2]) from c14)
  have hF := Hold.mk cF
  have h12 := Hold.mk d12
  clear c12 c13 c14 cF e d12
  have st := Stop.mk' 3
  dsimp only [Ms.cReq]
  refine CallsC.of Tryz.call59 Tryz.func59 rfl Tryz.ntmps59 rfl fun w0 G0 S0 hs ho => ?_
  refine run ?_
  intros
  refine HTs.mk ?_
  have d12 := h12.h
  clear st d2 h12
  have st := Stop.mk' 4
  refine run ?_
  intros
  refine HTs.mk ?_
  have d13 := h13.h
  clear st d11 h13
  have st := Stop.mk' 5
  refine run ?_
  intros
  refine HTs.mk ?_
  have d14 := h14.h
  clear st d13 h14
  have st := Stop.mk' 7
  refine run ?_
  intros
  refine HTs.mk ?_
  have cF := hF.h
  clear st cE hF
  refine run ?_
  and_intros <;> intros <;> rfl
end Go.Proofs.YtkpghepeagafoaaGreat
set_option linter.unusedVariables false
set_option maxRecDepth 8000
set_option linter.unusedVariables false
namespace Go.Proofs.YtkpghepeagafoaaGreat
open Go.Vk
attribute [local irreducible] HT HX RegS RegA RegM OpP OpC AltT
attribute [local irreducible] Ber.tagB Ber.lenB Ber.intB Ber.allE Ber.fromIntB Ber.nextB Ms.midB Ms.filtD Ms.subsM Ms.innM Ms.takeI Ms.numR
set_option maxHeartbeats 4000000 in
theorem rdOpBind (l : List Ms.It) (a : Nat) (bad : Bool) (hl : Ms.wI l ≤ 100000000) (ha : a ≤ l.length) (ht : Ms.peekI (l.drop a) bad = 96) : ∃ a', a' ≤ l.length ∧ l.drop a' = (Ms.innM false 96 Ms.bindD (l.drop a) bad).2.1 ∧ ∀ g, CallsC Tryz.prog 29 [Is (pAt g 0)] [RX25 g l a bad] (fun _ => TAgg (Ms.cReq (Ms.innM false 96 Ms.bindD (l.drop a) bad).1)) (fun _ => [RX25 g l a' (Ms.innM false 96 Ms.bindD (l.drop a) bad).2.2]) := by
  obtain ⟨a1, k1, k2, c⟩ := rdBind l a bad hl ha
  refine ⟨a1, k1, k2, fun g => ?_⟩
  have cP : CallsC Tryz.prog 30 [Is (pAt g 0)] [RX25 g l a bad] (fun _ => okI .u8 96) (fun _ => [RX25 g l a bad]) := rdPeekN g l a bad hl ha 96 ht
  clear ht k2
  generalize Ms.innM false 96 Ms.bindD (l.drop a) bad = z at c ⊢
  refine CallsC.of Tryz.call29 Tryz.func29 rfl Tryz.ntmps29 rfl fun w0 G0 S0 hs ho => ?_
  exact run trivial
set_option maxHeartbeats 4000000 in
theorem rdOpSearch (l : List Ms.It) (a : Nat) (bad : Bool) (hl : Ms.wI l ≤ 100000000) (ha : a ≤ l.length) (ht : Ms.peekI (l.drop a) bad = 99) : ∃ a', a' ≤ l.length ∧ l.drop a' = (Ms.innM false 99 Ms.srchD (l.drop a) bad).2.1 ∧ ∀ g, CallsC Tryz.prog 29 [Is (pAt g 0)] [RX25 g l a bad] (fun _ => TAgg (Ms.cReq (Ms.innM false 99 Ms.srchD (l.drop a) bad).1)) (fun _ => [RX25 g l a' (Ms.innM false 99 Ms.srchD (l.drop a) bad).2.2]) := by
  obtain ⟨a1, k1, k2, c⟩ := rdSearch l a bad hl ha
  refine ⟨a1, k1, k2, fun g => ?_⟩
  have cP : CallsC Tryz.prog 30 [Is (pAt g 0)] [RX25 g l a bad] (fun _ => okI .u8 99) (fun _ => [RX25 g l a bad]) := rdPeekN g l a bad hl ha 99 ht
  clear ht k2
  generalize Ms.innM false 99 Ms.srchD (l.drop a) bad = z at c ⊢
  refine CallsC.of Tryz.call29 Tryz.func29 rfl Tryz.ntmps29 rfl fun w0 G0 S0 hs ho => ?_
  exact run trivial
set_option maxHeartbeats 4000000 in
theorem rdOpRename (l : List Ms.It) (a : Nat) (bad : Bool) (hl : Ms.wI l ≤ 100000000) (ha : a ≤ l.length) (ht : Ms.peekI (l.drop a) bad = 108) : ∃ a', a' ≤ l.length ∧ l.drop a' = (Ms.innM false 108 Ms.renI (l.drop a) bad).2.1 ∧ ∀ g, CallsC Tryz.prog 29 [Is (pAt g 0)] [RX25 g l a bad] (fun _ => TAgg (Ms.cReq (Ms.innM false 108 Ms.renI (l.drop a) bad).1)) (fun _ => [RX25 g l a' (Ms.innM false 108 Ms.renI (l.drop a) bad).2.2]) := by
  obtain ⟨a1, k1, k2, c⟩ := rdRename l a bad hl ha
  refine ⟨a1, k1, k2, fun g => ?_⟩
  have cP : CallsC Tryz.prog 30 [Is (pAt g 0)] [RX25 g l a bad] (fun _ => okI .u8 108) (fun _ => [RX25 g l a bad]) := rdPeekN g l a bad hl ha 108 ht
  clear ht k2
  generalize Ms.innM false 108 Ms.renI (l.drop a) bad = z at c ⊢
  refine CallsC.of Tryz.call29 Tryz.func29 rfl Tryz.ntmps29 rfl fun w0 G0 S0 hs ho => ?_
  exact run trivial
set_option maxHeartbeats 4000000 in
theorem rdOpCompare (l : List Ms.It) (a : Nat) (bad : Bool) (hl : Ms.wI l ≤ 100000000) (ha : a ≤ l.length) (ht : Ms.peekI (l.drop a) bad = 110) : ∃ a', a' ≤ l.length ∧ l.drop a' = (Ms.innM false 110 (Ms.cmpM false) (l.drop a) bad).2.1 ∧ ∀ g, CallsC Tryz.prog 29 [Is (pAt g 0)] [RX25 g l a bad] (fun _ => TAgg (Ms.cReq (Ms.innM false 110 (Ms.cmpM false) (l.drop a) bad).1)) (fun _ => [RX25 g l a' (Ms.innM false 110 (Ms.cmpM false) (l.drop a) bad).2.2]) := by
  obtain ⟨a1, k1, k2, c⟩ := rdCompare l a bad hl ha
  refine ⟨a1, k1, k2, fun g => ?_⟩
  have cP : CallsC Tryz.prog 30 [Is (pAt g 0)] [RX25 g l a bad] (fun _ => okI .u8 110) (fun _ => [RX25 g l a bad]) := rdPeekN g l a bad hl ha 110 ht
  clear ht k2
  generalize Ms.innM false 110 (Ms.cmpM false) (l.drop a) bad = z at c ⊢
  refine CallsC.of Tryz.call29 Tryz.func29 rfl Tryz.ntmps29 rfl fun w0 G0 S0 hs ho => ?_
  exact run trivial
set_option maxHeartbeats 4000000 in
theorem rdOpUnbind (l : List Ms.It) (a : Nat) (bad : Bool) (hl : Ms.wI l ≤ 100000000) (ha : a ≤ l.length) (ht : Ms.peekI (l.drop a) bad = 66) : ∃ a', a' ≤ l.length ∧ l.drop a' = ((({ Ms.zR with kind := 2 } : Ms.Req), (Ms.takeI (l.drop a) bad 66).2.1, (Ms.takeI (l.drop a) bad 66).2.2 || decide (0 < (Ms.takeI (l.drop a) bad 66).1.length))).2.1 ∧ ∀ g, CallsC Tryz.prog 29 [Is (pAt g 0)] [RX25 g l a bad] (fun _ => TAgg (Ms.cReq ((({ Ms.zR with kind := 2 } : Ms.Req), (Ms.takeI (l.drop a) bad 66).2.1, (Ms.takeI (l.drop a) bad 66).2.2 || decide (0 < (Ms.takeI (l.drop a) bad 66).1.length))).1)) (fun _ => [RX25 g l a' ((({ Ms.zR with kind := 2 } : Ms.Req), (Ms.takeI (l.drop a) bad 66).2.1, (Ms.takeI (l.drop a) bad 66).2.2 || decide (0 < (Ms.takeI (l.drop a) bad 66).1.length))).2.2]) := by
  obtain ⟨a1, k1, k2, c⟩ := rdBody l a bad 66 hl ha
  refine ⟨a1, k1, k2, fun g => ?_⟩
  have hw := Ms.take_b (l.drop a) bad 66
  have hw2 := Ms.wI_drop l a
  have cP : CallsC Tryz.prog 30 [Is (pAt g 0)] [RX25 g l a bad] (fun _ => okI .u8 66) (fun _ => [RX25 g l a bad]) := rdPeekN g l a bad hl ha 66 ht
  clear ht k2
  generalize Ms.takeI (l.drop a) bad 66 = z at c hw ⊢
  have d : ∀ g, CallsC Tryz.prog 31 [Is (pAt g 0), okI .u8 66] [RX25 g l a bad] (fun _ => TBytes z.1) (fun _ => [RX25 g l a1 z.2.2]) := c
  clear c
  dsimp only [Ms.cReq]
  cases hz : decide (0 < z.1.length) with
  | true =>
    have hz := of_decide_eq_true hz
    rw [Bool.or_true]
    refine CallsC.of Tryz.call29 Tryz.func29 rfl Tryz.ntmps29 rfl fun w0 G0 S0 hs ho => ?_
    refine run ?_
    and_intros <;> intros <;> first | rfl | (exfalso; omega)
  | false =>
    have hz := of_decide_eq_false hz
    rw [Bool.or_false]
    refine CallsC.of Tryz.call29 Tryz.func29 rfl Tryz.ntmps29 rfl fun w0 G0 S0 hs ho => ?_
    refine run ?_
    and_intros <;> intros <;> first | rfl | (exfalso; omega)
set_option maxHeartbeats 4000000 in
theorem rdOpDelete (l : List Ms.It) (a : Nat) (bad : Bool) (hl : Ms.wI l ≤ 100000000) (ha : a ≤ l.length) (ht : Ms.peekI (l.drop a) bad = 74) : ∃ a', a' ≤ l.length ∧ l.drop a' = ((({ Ms.zR with kind := 10, dn := (Ms.takeI (l.drop a) bad 74).1 } : Ms.Req), (Ms.takeI (l.drop a) bad 74).2)).2.1 ∧ ∀ g, CallsC Tryz.prog 29 [Is (pAt g 0)] [RX25 g l a bad] (fun _ => TAgg (Ms.cReq ((({ Ms.zR with kind := 10, dn := (Ms.takeI (l.drop a) bad 74).1 } : Ms.Req), (Ms.takeI (l.drop a) bad 74).2)).1)) (fun _ => [RX25 g l a' ((({ Ms.zR with kind := 10, dn := (Ms.takeI (l.drop a) bad 74).1 } : Ms.Req), (Ms.takeI (l.drop a) bad 74).2)).2.2]) := by
  obtain ⟨a1, k1, k2, c⟩ := rdBody l a bad 74 hl ha
  refine ⟨a1, k1, k2, fun g => ?_⟩
  have cP : CallsC Tryz.prog 30 [Is (pAt g 0)] [RX25 g l a bad] (fun _ => okI .u8 74) (fun _ => [RX25 g l a bad]) := rdPeekN g l a bad hl ha 74 ht
  clear ht k2
  generalize Ms.takeI (l.drop a) bad 74 = z at c ⊢
  have d : ∀ g, CallsC Tryz.prog 31 [Is (pAt g 0), okI .u8 74] [RX25 g l a bad] (fun _ => TBytes z.1) (fun _ => [RX25 g l a1 z.2.2]) := c
  clear c
  dsimp only [Ms.cReq]
  refine CallsC.of Tryz.call29 Tryz.func29 rfl Tryz.ntmps29 rfl fun w0 G0 S0 hs ho => ?_
  refine run ?_
  and_intros <;> intros <;> rfl
set_option maxHeartbeats 4000000 in
theorem rdOpAbandon (l : List Ms.It) (a : Nat) (bad : Bool) (hl : Ms.wI l ≤ 100000000) (ha : a ≤ l.length) (t : UInt8) (ht : Ms.peekI (l.drop a) bad = t) (h96 : t ≠ 96) (h66 : t ≠ 66) (h99 : t ≠ 99) (h102 : t ≠ 102) (h104 : t ≠ 104) (h74 : t ≠ 74) (h108 : t ≠ 108) (h110 : t ≠ 110) : ∃ a', a' ≤ l.length ∧ l.drop a' = ((({ Ms.zR with kind := 16, which := (Ms.numR (l.drop a) bad 80 0 Ms.mostN).1 } : Ms.Req), (Ms.numR (l.drop a) bad 80 0 Ms.mostN).2)).2.1 ∧ ∀ g, CallsC Tryz.prog 29 [Is (pAt g 0)] [RX25 g l a bad] (fun _ => TAgg (Ms.cReq ((({ Ms.zR with kind := 16, which := (Ms.numR (l.drop a) bad 80 0 Ms.mostN).1 } : Ms.Req), (Ms.numR (l.drop a) bad 80 0 Ms.mostN).2)).1)) (fun _ => [RX25 g l a' ((({ Ms.zR with kind := 16, which := (Ms.numR (l.drop a) bad 80 0 Ms.mostN).1 } : Ms.Req), (Ms.numR (l.drop a) bad 80 0 Ms.mostN).2)).2.2]) := by
  obtain ⟨a1, k1, k2, c⟩ := rdNum l a bad 80 0 Ms.mostN hl ha
  refine ⟨a1, k1, k2, fun g => ?_⟩
  have cP := rdPeekN g l a bad hl ha t ht
  clear ht k2
  have v96 := Ms.peek_v (n := 96) (by decide) h96
  have v66 := Ms.peek_v (n := 66) (by decide) h66
  have v99 := Ms.peek_v (n := 99) (by decide) h99
  have v102 := Ms.peek_v (n := 102) (by decide) h102
  have v104 := Ms.peek_v (n := 104) (by decide) h104
  have v74 := Ms.peek_v (n := 74) (by decide) h74
  have v108 := Ms.peek_v (n := 108) (by decide) h108
  have v110 := Ms.peek_v (n := 110) (by decide) h110
  clear h96 h66 h99 h102 h104 h74 h108 h110
  generalize (t.toNat : Int) = p at cP v96 v66 v99 v102 v104 v74 v108 v110
  generalize Ms.numR (l.drop a) bad 80 0 Ms.mostN = z at c ⊢
  have d : ∀ g, CallsC Tryz.prog 28 [Is (pAt g 0), okI .u8 80, okI .i64 0, okI .i64 2147483647] [RX25 g l a bad] (fun _ => okI .i64 z.1) (fun _ => [RX25 g l a1 z.2.2]) := c
  clear c
  dsimp only [Ms.cReq]
  refine CallsC.of Tryz.call29 Tryz.func29 rfl Tryz.ntmps29 rfl fun w0 G0 S0 hs ho => ?_
  refine run ?_
  and_intros <;> intros <;> rfl
theorem rdOp (l : List Ms.It) (a : Nat) (bad : Bool) (hl : Ms.wI l ≤ 100000000) (ha : a ≤ l.length) : ∃ a', a' ≤ l.length ∧ l.drop a' = (Ms.opD (l.drop a) bad).2.1 ∧ ∀ g, CallsC Tryz.prog 29 [Is (pAt g 0)] [RX25 g l a bad] (fun _ => TAgg (Ms.cReq (Ms.opD (l.drop a) bad).1)) (fun _ => [RX25 g l a' (Ms.opD (l.drop a) bad).2.2]) := by
  unfold Ms.opD
  dsimp only
  generalize ht : Ms.peekI (l.drop a) bad = t
  by_cases h96 : t = 96
  · rw [if_pos h96]; subst h96; exact rdOpBind l a bad hl ha ht
  rw [if_neg h96]
  by_cases h66 : t = 66
  · rw [if_pos h66]; subst h66; exact rdOpUnbind l a bad hl ha ht
  rw [if_neg h66]
  by_cases h99 : t = 99
  · rw [if_pos h99]; subst h99; exact rdOpSearch l a bad hl ha ht
  rw [if_neg h99]
  by_cases h102 : t = 102
  · rw [if_pos h102]; subst h102; exact rdModify l a bad hl ha ht
  rw [if_neg h102]
  by_cases h104 : t = 104
  · rw [if_pos h104]; subst h104; exact rdAdd l a bad hl ha ht
  rw [if_neg h104]
  by_cases h74 : t = 74
  · rw [if_pos h74]; subst h74; exact rdOpDelete l a bad hl ha ht
  rw [if_neg h74]
  by_cases h108 : t = 108
  · rw [if_pos h108]; subst h108; exact rdOpRename l a bad hl ha ht
  rw [if_neg h108]
  by_cases h110 : t = 110
  · rw [if_pos h110]; subst h110; exact rdOpCompare l a bad hl ha ht
  rw [if_neg h110]
  exact rdOpAbandon l a bad hl ha t ht h96 h66 h99 h102 h104 h74 h108 h110
end Go.Proofs.YtkpghepeagafoaaGreat
set_option linter.unusedVariables false
set_option maxRecDepth 8000
set_option linter.unusedVariables false
namespace Go.Proofs.YtkpghepeagafoaaGreat
open Go.Vk
attribute [local irreducible] HT HX RegS RegA RegM OpP OpC AltT
attribute [local irreducible] Ber.tagB Ber.lenB Ber.intB Ber.allE Ber.fromIntB Ber.nextB Ms.midB Ms.filtD Ms.subsM Ms.innM Ms.takeI Ms.numR Ms.opD Ms.isR
set_option maxHeartbeats 8000000 in
theorem rfDecode25 (b : List UInt8) (hb : b.length ≤ 70000) : CFn Tryz.prog 19 [TBytes b] (TTup [TAgg (Ms.cReq (Ms.decD b).1), okI .i64 (Ms.decD b).2]) := by
  have c1 := refNext b (by omega)
  have hn := Ber.nextB_len b
  unfold Ms.decD
  generalize Ber.nextB b = n at c1 hn ⊢
  dsimp only
  have hz : Ms.cReq Ms.zR = [okI .i64 0, okI .i64 0, Is (str []), Is (str []), okI .i64 0, okI .i64 0, okI .i64 0, Is (str []), Is (str []), TSl 1 Fi.cS [], TSl 5 Fi.cF [], TSl 1 En.cS [], TSl 3 Ms.cMod [], TSl 2 En.cAttr [], Is (str []), Is (.bool false), Is (.bool false), Is (str []), Is (str []), Is (str []), okI .i64 0] := rfl
  by_cases he : n.e = 0
  case neg =>
    rw [if_pos he]
    dsimp only
    rw [hz]
    refine CallsC.of Tryz.call19 Tryz.func19 rfl Tryz.ntmps19 rfl fun w0 G0 S0 hs ho => ?_
    exact run trivial
  rw [if_neg (by simpa using he)]
  have c2 : CallsC Tryz.prog 27 [TBytes n.body] [] (fun v => Is (pAt (blk v) 0)) (fun v => [RX25 (blk v) (Ms.allI n.body) 0 (Ms.badI n.body)]) := rdRead n.body (by omega)
  have hw := Ms.allI_w n.body
  have ht : ((n.tag.toNat : Int) = 48) ↔ n.tag = 48 := ⟨fun h => UInt8.toNat_inj.1 (by have : ((48 : UInt8).toNat : Int) = 48 := rfl; omega), fun h => by rw [h]; rfl⟩
  have hr0 : n.rest = [] ↔ n.rest.length = 0 := List.length_eq_zero_iff.symm
  cases hbd : (decide (n.tag ≠ 48) || decide (n.rest ≠ [])) with
  | true =>
    simp only [Bool.or_eq_true, decide_eq_true_eq] at hbd
    have hbd : ¬ (n.tag.toNat : Int) = 48 ∨ 0 < (n.rest.length : Int) := hbd.imp (fun h h2 => h (ht.1 h2)) (fun h => by have : ¬ n.rest.length = 0 := fun h2 => h (hr0.2 h2); omega)
    have hB : (Ms.reqD n.body true).2.2 = true := Ms.reqD_bad _
    rw [if_pos (by rw [hB]; rfl)]
    dsimp only
    rw [hz]
    unfold Ms.reqD at hB
    dsimp only at hB
    generalize Ms.allI n.body = x0 at c2 hw hB
    generalize Ms.badI n.body = b0 at c2 hB
    have l0 := Ms.wI_len x0
    have e0 : (b0 || true) = true := by simp
    rw [e0] at hB
    obtain ⟨i1, k1, k2, c3⟩ := rdNum x0 0 (true) 2 1 Ms.mostN (by omega) (Nat.zero_le _)
    rw [List.drop_zero] at k2 c3
    generalize Ms.numR x0 (true) 2 1 Ms.mostN = q at c3 k2 hB
    have d3 : ∀ g, CallsC Tryz.prog 28 [Is (pAt g 0), okI .u8 2, okI .i64 1, okI .i64 2147483647] [RX25 g x0 0 (true)] (fun _ => okI .i64 q.1) (fun _ => [RX25 g x0 i1 q.2.2]) := c3
    obtain ⟨i2, k3, k4, c4⟩ := rdOp x0 i1 q.2.2 (by omega) k1
    rw [k2] at k4 c4
    generalize Ms.opD q.2.1 q.2.2 = o at c4 k4 hB
    have cP := fun g => rdPeek g x0 i2 o.2.2 (by omega) k3
    rw [k4] at cP
    generalize hok : Ms.isR (Ms.withNum o.1 q.1) = ok at hB
    dsimp only [Ms.cReq] at c4
    unfold Ms.mayI at hB
    clear c3 k2
    cases hi : Ms.isI o.2.1 o.2.2 160 with
    | true =>
      rw [hi, if_pos rfl] at hB
      obtain ⟨i3, k5, k6, c5⟩ := rdBody x0 i2 o.2.2 160 (by omega) k3
      rw [k4] at k6 c5
      have f2 := Ms.peek_is hi
      rw [f2] at cP
      generalize Ms.takeI o.2.1 o.2.2 160 = c at c5 k6 hB
      have he : c.2.1 = [] ↔ (i3 : Int) = (x0.length : Int) := by rw [← k6, List.drop_eq_nil_iff]; omega
      have dP : ∀ g, CallsC Tryz.prog 30 [Is (pAt g 0)] [RX25 g x0 i2 o.2.2] (fun _ => okI .u8 160) (fun _ => [RX25 g x0 i2 o.2.2]) := cP
      have d5 : ∀ g, CallsC Tryz.prog 31 [Is (pAt g 0), okI .u8 160] [RX25 g x0 i2 o.2.2] (fun _ => TBytes c.1) (fun _ => [RX25 g x0 i3 c.2.2]) := c5
      clear cP c5 k6 f2 hi
      refine CallsC.of Tryz.call19 Tryz.func19 rfl Tryz.ntmps19 rfl fun w0 G0 S0 hs ho => ?_
      refine run ?_
      intros
      refine ⟨Is (.bool false), fun h => ?_, ?_⟩
      · exfalso
        revert h
        rw [hB]
        simp
      exact run trivial
    | false =>
      rw [hi, if_neg Bool.false_ne_true] at hB
      have f2 : ¬ ((Ms.peekI o.2.1 o.2.2).toNat : Int) = 160 := Ms.peek_not (t := 160) (by decide) hi
      generalize ((Ms.peekI o.2.1 o.2.2).toNat : Int) = pk at cP f2
      have he : o.2.1 = [] ↔ (i2 : Int) = (x0.length : Int) := by rw [← k4, List.drop_eq_nil_iff]; omega
      clear hi
      refine CallsC.of Tryz.call19 Tryz.func19 rfl Tryz.ntmps19 rfl fun w0 G0 S0 hs ho => ?_
      refine run ?_
      intros
      refine ⟨Is (.bool false), fun h => ?_, ?_⟩
      · exfalso
        revert h
        rw [hB]
        simp
      exact run trivial
  | false =>
    simp only [Bool.or_eq_false_iff, decide_eq_false_iff_not, ne_eq, Decidable.not_not] at hbd
    have hbd1 : (n.tag.toNat : Int) = 48 := ht.2 hbd.1
    have hbd2 : ¬ 0 < (n.rest.length : Int) := by have := hr0.1 hbd.2; omega
    cases hc : (Ms.reqD n.body false).2.2 with
    | true =>
      rw [if_pos (by simp)]
      dsimp only
      rw [hz]
      have hB := hc
      clear hc
      unfold Ms.reqD at hB
      dsimp only at hB
      generalize Ms.allI n.body = x0 at c2 hw hB
      generalize Ms.badI n.body = b0 at c2 hB
      have l0 := Ms.wI_len x0
      have e0 : (b0 || false) = b0 := by simp
      rw [e0] at hB
      obtain ⟨i1, k1, k2, c3⟩ := rdNum x0 0 (b0) 2 1 Ms.mostN (by omega) (Nat.zero_le _)
      rw [List.drop_zero] at k2 c3
      generalize Ms.numR x0 (b0) 2 1 Ms.mostN = q at c3 k2 hB
      have d3 : ∀ g, CallsC Tryz.prog 28 [Is (pAt g 0), okI .u8 2, okI .i64 1, okI .i64 2147483647] [RX25 g x0 0 (b0)] (fun _ => okI .i64 q.1) (fun _ => [RX25 g x0 i1 q.2.2]) := c3
      obtain ⟨i2, k3, k4, c4⟩ := rdOp x0 i1 q.2.2 (by omega) k1
      rw [k2] at k4 c4
      generalize Ms.opD q.2.1 q.2.2 = o at c4 k4 hB
      have cP := fun g => rdPeek g x0 i2 o.2.2 (by omega) k3
      rw [k4] at cP
      generalize hok : Ms.isR (Ms.withNum o.1 q.1) = ok at hB
      dsimp only [Ms.cReq] at c4
      unfold Ms.mayI at hB
      clear c3 k2
      cases hi : Ms.isI o.2.1 o.2.2 160 with
      | true =>
        rw [hi, if_pos rfl] at hB
        obtain ⟨i3, k5, k6, c5⟩ := rdBody x0 i2 o.2.2 160 (by omega) k3
        rw [k4] at k6 c5
        have f2 := Ms.peek_is hi
        rw [f2] at cP
        generalize Ms.takeI o.2.1 o.2.2 160 = c at c5 k6 hB
        have he : c.2.1 = [] ↔ (i3 : Int) = (x0.length : Int) := by rw [← k6, List.drop_eq_nil_iff]; omega
        have dP : ∀ g, CallsC Tryz.prog 30 [Is (pAt g 0)] [RX25 g x0 i2 o.2.2] (fun _ => okI .u8 160) (fun _ => [RX25 g x0 i2 o.2.2]) := cP
        have d5 : ∀ g, CallsC Tryz.prog 31 [Is (pAt g 0), okI .u8 160] [RX25 g x0 i2 o.2.2] (fun _ => TBytes c.1) (fun _ => [RX25 g x0 i3 c.2.2]) := c5
        clear cP c5 k6 f2 hi
        refine CallsC.of Tryz.call19 Tryz.func19 rfl Tryz.ntmps19 rfl fun w0 G0 S0 hs ho => ?_
        refine run ?_
        intros
        refine ⟨Is (.bool false), fun h => ?_, ?_⟩
        · exfalso
          revert h
          rw [hB]
          simp
        exact run trivial
      | false =>
        rw [hi, if_neg Bool.false_ne_true] at hB
        have f2 : ¬ ((Ms.peekI o.2.1 o.2.2).toNat : Int) = 160 := Ms.peek_not (t := 160) (by decide) hi
        generalize ((Ms.peekI o.2.1 o.2.2).toNat : Int) = pk at cP f2
        have he : o.2.1 = [] ↔ (i2 : Int) = (x0.length : Int) := by rw [← k4, List.drop_eq_nil_iff]; omega
        clear hi
        refine CallsC.of Tryz.call19 Tryz.func19 rfl Tryz.ntmps19 rfl fun w0 G0 S0 hs ho => ?_
        refine run ?_
        intros
        refine ⟨Is (.bool false), fun h => ?_, ?_⟩
        · exfalso
          revert h
          rw [hB]
          simp
        exact run trivial
    | false =>
      have hr : Ms.Okr (Ms.reqD n.body false).1 := by rw [← Ms.req_eq1 hc]; exact Ms.reqP_okr (by omega)
      cases hB : (false || decide ((Ms.reqD n.body false).2.1 ≠ []) || !Ms.isR (Ms.reqD n.body false).1) with
      | true =>
        rw [if_pos rfl]
        dsimp only
        rw [hz]
        have hB := And.intro hc hB
        clear hc
        simp only [Bool.or_eq_true, decide_eq_true_eq, Bool.not_eq_true', Bool.false_or] at hB
        unfold Ms.reqD at hB
        dsimp only at hB
        unfold Ms.reqD at hr
        dsimp only at hr
        generalize Ms.allI n.body = x0 at c2 hw hB hr
        generalize Ms.badI n.body = b0 at c2 hB hr
        have l0 := Ms.wI_len x0
        have e0 : (b0 || false) = b0 := by simp
        rw [e0] at hB hr
        obtain ⟨i1, k1, k2, c3⟩ := rdNum x0 0 (b0) 2 1 Ms.mostN (by omega) (Nat.zero_le _)
        rw [List.drop_zero] at k2 c3
        generalize Ms.numR x0 (b0) 2 1 Ms.mostN = q at c3 k2 hB hr
        have d3 : ∀ g, CallsC Tryz.prog 28 [Is (pAt g 0), okI .u8 2, okI .i64 1, okI .i64 2147483647] [RX25 g x0 0 (b0)] (fun _ => okI .i64 q.1) (fun _ => [RX25 g x0 i1 q.2.2]) := c3
        obtain ⟨i2, k3, k4, c4⟩ := rdOp x0 i1 q.2.2 (by omega) k1
        rw [k2] at k4 c4
        generalize Ms.opD q.2.1 q.2.2 = o at c4 k4 hB hr
        have cP := fun g => rdPeek g x0 i2 o.2.2 (by omega) k3
        rw [k4] at cP
        have c7 := rfIs25 (Ms.withNum o.1 q.1) hr
        generalize hok : Ms.isR (Ms.withNum o.1 q.1) = ok at hB c7
        unfold Ms.withNum at c7
        dsimp only [Ms.cReq] at c4 c7
        unfold Ms.mayI at hB
        clear c3 k2 hr
        cases hi : Ms.isI o.2.1 o.2.2 160 with
        | true =>
          rw [hi, if_pos rfl] at hB
          obtain ⟨i3, k5, k6, c5⟩ := rdBody x0 i2 o.2.2 160 (by omega) k3
          rw [k4] at k6 c5
          have f2 := Ms.peek_is hi
          rw [f2] at cP
          generalize Ms.takeI o.2.1 o.2.2 160 = c at c5 k6 hB
          have he : c.2.1 = [] ↔ (i3 : Int) = (x0.length : Int) := by rw [← k6, List.drop_eq_nil_iff]; omega
          have dP : ∀ g, CallsC Tryz.prog 30 [Is (pAt g 0)] [RX25 g x0 i2 o.2.2] (fun _ => okI .u8 160) (fun _ => [RX25 g x0 i2 o.2.2]) := cP
          have d5 : ∀ g, CallsC Tryz.prog 31 [Is (pAt g 0), okI .u8 160] [RX25 g x0 i2 o.2.2] (fun _ => TBytes c.1) (fun _ => [RX25 g x0 i3 c.2.2]) := c5
          clear cP c5 k6 f2 hi
          refine CallsC.of Tryz.call19 Tryz.func19 rfl Tryz.ntmps19 rfl fun w0 G0 S0 hs ho => ?_
          refine run ?_
          and_intros <;> intros <;> first | rfl | (exfalso; grind)
        | false =>
          rw [hi, if_neg Bool.false_ne_true] at hB
          have f2 : ¬ ((Ms.peekI o.2.1 o.2.2).toNat : Int) = 160 := Ms.peek_not (t := 160) (by decide) hi
          generalize ((Ms.peekI o.2.1 o.2.2).toNat : Int) = pk at cP f2
          have he : o.2.1 = [] ↔ (i2 : Int) = (x0.length : Int) := by rw [← k4, List.drop_eq_nil_iff]; omega
          clear hi
          refine CallsC.of Tryz.call19 Tryz.func19 rfl Tryz.ntmps19 rfl fun w0 G0 S0 hs ho => ?_
          refine run ?_
          and_intros <;> intros <;> first | rfl | (exfalso; grind)
      | false =>
        rw [if_neg (by simp)]
        dsimp only
        have hB := And.intro hc hB
        clear hc
        simp only [Bool.or_eq_false_iff, decide_eq_false_iff_not, Bool.not_eq_false', ne_eq, Decidable.not_not] at hB
        unfold Ms.reqD at hB ⊢
        dsimp only at hB ⊢
        unfold Ms.reqD at hr
        dsimp only at hr
        generalize Ms.allI n.body = x0 at c2 hw hB hr ⊢
        generalize Ms.badI n.body = b0 at c2 hB hr ⊢
        have l0 := Ms.wI_len x0
        have e0 : (b0 || false) = b0 := by simp
        rw [e0] at hB hr ⊢
        obtain ⟨i1, k1, k2, c3⟩ := rdNum x0 0 (b0) 2 1 Ms.mostN (by omega) (Nat.zero_le _)
        rw [List.drop_zero] at k2 c3
        generalize Ms.numR x0 (b0) 2 1 Ms.mostN = q at c3 k2 hB hr ⊢
        have d3 : ∀ g, CallsC Tryz.prog 28 [Is (pAt g 0), okI .u8 2, okI .i64 1, okI .i64 2147483647] [RX25 g x0 0 (b0)] (fun _ => okI .i64 q.1) (fun _ => [RX25 g x0 i1 q.2.2]) := c3
        obtain ⟨i2, k3, k4, c4⟩ := rdOp x0 i1 q.2.2 (by omega) k1
        rw [k2] at k4 c4
        generalize Ms.opD q.2.1 q.2.2 = o at c4 k4 hB hr ⊢
        have cP := fun g => rdPeek g x0 i2 o.2.2 (by omega) k3
        rw [k4] at cP
        have c7 := rfIs25 (Ms.withNum o.1 q.1) hr
        generalize hok : Ms.isR (Ms.withNum o.1 q.1) = ok at hB c7
        unfold Ms.withNum at c7 ⊢
        dsimp only [Ms.cReq] at c4 c7 ⊢
        unfold Ms.mayI at hB
        clear c3 k2 hr
        cases hi : Ms.isI o.2.1 o.2.2 160 with
        | true =>
          rw [hi, if_pos rfl] at hB
          obtain ⟨i3, k5, k6, c5⟩ := rdBody x0 i2 o.2.2 160 (by omega) k3
          rw [k4] at k6 c5
          have f2 := Ms.peek_is hi
          rw [f2] at cP
          generalize Ms.takeI o.2.1 o.2.2 160 = c at c5 k6 hB
          have he : c.2.1 = [] ↔ (i3 : Int) = (x0.length : Int) := by rw [← k6, List.drop_eq_nil_iff]; omega
          have dP : ∀ g, CallsC Tryz.prog 30 [Is (pAt g 0)] [RX25 g x0 i2 o.2.2] (fun _ => okI .u8 160) (fun _ => [RX25 g x0 i2 o.2.2]) := cP
          have d5 : ∀ g, CallsC Tryz.prog 31 [Is (pAt g 0), okI .u8 160] [RX25 g x0 i2 o.2.2] (fun _ => TBytes c.1) (fun _ => [RX25 g x0 i3 c.2.2]) := c5
          clear cP c5 k6 f2 hi
          refine CallsC.of Tryz.call19 Tryz.func19 rfl Tryz.ntmps19 rfl fun w0 G0 S0 hs ho => ?_
          refine run ?_
          and_intros <;> intros <;> first | rfl | (exfalso; grind)
        | false =>
          rw [hi, if_neg Bool.false_ne_true] at hB
          have f2 : ¬ ((Ms.peekI o.2.1 o.2.2).toNat : Int) = 160 := Ms.peek_not (t := 160) (by decide) hi
          generalize ((Ms.peekI o.2.1 o.2.2).toNat : Int) = pk at cP f2
          have he : o.2.1 = [] ↔ (i2 : Int) = (x0.length : Int) := by rw [← k4, List.drop_eq_nil_iff]; omega
          clear hi
          refine CallsC.of Tryz.call19 Tryz.func19 rfl Tryz.ntmps19 rfl fun w0 G0 S0 hs ho => ?_
          refine run ?_
          and_intros <;> intros <;> first | rfl | (exfalso; grind)
end Go.Proofs.YtkpghepeagafoaaGreat
set_option maxRecDepth 8000
set_option linter.unusedVariables false
namespace Go.Proofs.YtkpghepeagafoaaGreat
open Go.Vk
attribute [local irreducible] HT HX RegS RegA RegM OpP OpC AltT
attribute [local irreducible] Ber.tagB Ber.lenB Ber.intB Ber.allE Ber.fromIntB Ber.nextB Ms.frameB Ms.decP
/-- The document's connection. -/
abbrev RX (g : Nat) (B W : Ty) (s : Bool) : Res := ownP g 30 [B, W, Is (.bool s)]
theorem rsClose (g : Nat) (B W : Ty) (s : Bool) : CallsC Tryz.prog 18 [Is (pAt g 0)] [RX g B W s] (fun _ => TTup []) (fun _ => [RX g Ss.nilS W true]) := by
  refine CallsC.of Tryz.call18 Tryz.func18 rfl Tryz.ntmps18 rfl fun w0 G0 S0 hs ho => ?_
  exact run trivial
attribute [local irreducible] Ss.tk
set_option maxHeartbeats 4000000 in
theorem rsTakeA (g : Nat) (W : Ty) (w p : List UInt8) (hw : w.length + p.length ≤ 10000) : CallsC Tryz.prog 8 [Is (pAt g 0), TBytes p] [RX g (TBytes w) W false] (fun _ => TTup [TSl 21 Ms.cReq (Ss.tk [] (w ++ p)).1.1, Is (.bool (Ss.tk [] (w ++ p)).1.2)]) (fun _ => [RX g (TBytes (Ss.tk [] (w ++ p)).2.2) W (!(Ss.tk [] (w ++ p)).2.1)]) := by
  have hl : (w ++ p).length ≤ 10000 := by rw [List.length_append]; omega
  have ew : ([] ++ w : List UInt8).length = w.length := rfl
  obtain ⟨R, hR⟩ : ∃ R, R = Ss.tk [] (w ++ p) := ⟨_, rfl⟩
  rw [← hR]
  have mu := Mut.mk' [15]
  refine CallsC.of Tryz.call8 Tryz.func8 rfl Tryz.ntmps8 rfl fun w0 G0 S0 hs ho => ?_
  refine run ?_
  intro _ _ _ _
  refine HT.loopX (σ := (List Ms.Req × List UInt8) × Value) [0] (fun t => [(6, TAnd (Is t.2) (TSl 21 Ms.cReq t.1.1))]) (fun t => [RX g (TBytes t.1.2) W false, ownSl t.2 21 49]) (fun t => t.1.1.length + t.1.2.length ≤ 20000 ∧ R = Ss.tk t.1.1 t.1.2 ∧ t.1.2.length ≤ 10000) (fun t => t.1.2.length) (([], w ++ p), .slice none 0 0) ⟨by dsimp only [List.length_nil]; omega, hR, hl⟩ (run trivial) (run trivial) ?_
  clear hl ew
  rintro ⟨⟨acc, x⟩, u⟩ ⟨h1, h4, h5⟩
  dsimp only at h1 h4 h5 ⊢
  have c1 := rfFrame25 x (by omega)
  have hcl := fun B => rsClose g B W false
  by_cases he : (Ms.frameB x).2 ≠ 0
  · rw [Ss.tk_bad he] at h4
    rw [h4]
    generalize Ms.frameB x = f at *
    refine run ?_
    intros
    rfl
  by_cases hn0 : (Ms.frameB x).1 = 0
  · rw [Ss.tk_wait he hn0] at h4
    rw [h4]
    generalize Ms.frameB x = f at *
    refine run ?_
    intros
    rfl
  have hle := Ms.frameB_le x
  have c2 := rfDecode25 (x.take (Ms.frameB x).1.toNat) (by have := Ss.take_le x; omega)
  rw [← Ms.dec_eq] at c2
  have hdl := Ss.drop_lt hn0
  have t1 := fun h => Ss.tk_err (acc := acc) he hn0 h
  have t2 := fun h k => Ss.tk_end (acc := acc) he hn0 h k
  have t3 := fun h k => Ss.tk_go (acc := acc) he hn0 h k
  have hdr := List.length_drop (i := (Ms.frameB x).1.toNat) (l := x)
  generalize Ms.decP (x.take (Ms.frameB x).1.toNat) = d at *
  generalize Ms.frameB x = f at *
  by_cases hd : d.2 = 0
  · by_cases hk : d.1.kind = 2
    · rw [t2 (by simpa using hd) hk] at h4
      clear t1 t2 t3
      rw [h4]
      refine run ?_
      intros
      rfl
    · rw [t3 (by simpa using hd) hk] at h4
      clear t1 t2 t3 hcl
      refine run ?_
      intro _ u' _ _ _ _
      exact HX.roundX ((acc ++ [d.1], x.drop f.1.toNat), u') ⟨⟨by dsimp only; rw [List.length_append, List.length_cons, List.length_nil]; omega, h4, by dsimp only; omega⟩, by dsimp only; omega⟩ rfl (run trivial) (run trivial)
  · rw [t1 hd] at h4
    rw [h4]
    clear t1 t2 t3
    refine run ?_
    intros
    rfl
end Go.Proofs.YtkpghepeagafoaaGreat
set_option maxRecDepth 8000
set_option linter.unusedVariables false
namespace Go.Proofs.YtkpghepeagafoaaGreat
open Go.Vk
attribute [local irreducible] HT HX RegS RegA RegM OpP OpC AltT
attribute [local irreducible] Ber.tagB Ber.lenB Ber.intB Ber.allE Ber.fromIntB Ber.nextB Ms.frameB Ms.decP Ss.tk
/-- What pieces weigh. -/
def seSum (l : List (List UInt8)) (i : Nat) : Int := ((l.take i).map fun p => 1 + (p.length : Int)).sum
theorem seSum_succ {l : List (List UInt8)} {i : Nat} (h : i < l.length) : seSum l (i + 1) = seSum l i + 1 + ((l.getD i default).length : Int) := by
  unfold seSum
  rw [List.take_succ_eq_append_getElem h, List.map_append, List.sum_append, List.getD_eq_getElem?_getD, List.getElem?_eq_getElem h, Option.getD_some]
  simp
  omega
theorem seSum_0 (l : List (List UInt8)) : seSum l 0 = 0 := by unfold seSum; simp
theorem seSum_nn (l : List (List UInt8)) (i : Nat) : 0 ≤ seSum l i := by
  unfold seSum
  induction (l.take i) with
  | nil => simp
  | cons a r ih => simp only [List.map_cons, List.sum_cons]; omega
def seLongB (l : List (List UInt8)) : Bool := (List.range l.length).any fun i => decide (3000 < seSum l (i + 1))
theorem seLong_yes {l : List (List UInt8)} {i : Nat} (h : i < l.length) (k : 3000 < seSum l (i + 1)) : seLongB l = true := by
  unfold seLongB
  rw [List.any_eq_true]
  exact ⟨i, List.mem_range.2 h, decide_eq_true k⟩
theorem seLong_no {l : List (List UInt8)} (h : ∀ i, i < l.length → ¬ 3000 < seSum l (i + 1)) : seLongB l = false := by
  cases e : seLongB l with
  | false => rfl
  | true =>
    unfold seLongB at e
    rw [List.any_eq_true] at e
    obtain ⟨i, hi, k⟩ := e
    exact (h i (List.mem_range.1 hi) (of_decide_eq_true k)).elim
theorem seLong_at {l : List (List UInt8)} (h : seLongB l = false) {i : Nat} (hi : i < l.length) : seSum l (i + 1) ≤ 3000 := by
  by_cases k : 3000 < seSum l (i + 1)
  · rw [seLong_yes hi k] at h; cases h
  · omega
attribute [local irreducible] seSum seLongB
theorem seLong (l : List (List UInt8)) (hl : ∀ i, i < l.length → (l.getD i default).length ≤ 140737488351232) : CFn Tryz.prog 5 [TSl 1 Ss.cTB l] (Is (.bool (seLongB l))) := by
  refine CallsC.of Tryz.call5 Tryz.func5 rfl Tryz.ntmps5 rfl fun w0 G0 S0 hs ho => ?_
  refine run ?_
  refine HT.loopX (σ := Nat) [0] (fun i => [(3, okI .i64 (seSum l i)), (4, okI .i64 (i : Int))]) (fun _ => []) (fun i => i ≤ l.length ∧ (i : Int) ≤ seSum l i ∧ seSum l i ≤ 3000 ∧ ∀ j, j < i → ¬ 3000 < seSum l (j + 1)) (fun i => l.length - i) 0 ⟨Nat.zero_le _, by rw [seSum_0]; omega, by rw [seSum_0]; omega, by omega⟩ (run trivial) (by rw [seSum_0]; exact run trivial) ?_
  rintro i ⟨hi, hs0, hs, hno⟩
  by_cases hlt : i < l.length
  · have h1 := seSum_succ hlt
    have h2 := hl i hlt
    refine run ?_
    rw [← h1]
    refine ⟨fun _ h => (seLong_yes hlt h).symm, fun _ h => ?_⟩
    refine HX.roundX (i + 1) ⟨⟨by omega, by omega, by omega, fun j hj => ?_⟩, by omega⟩ rfl (run trivial) (run trivial)
    rcases (by omega : j < i ∨ j = i) with hj | rfl
    · exact hno j hj
    · exact h
  · have e : i = l.length := by omega
    subst e
    rw [seLong_no hno]
    exact run trivial
theorem seOpenC (o : Bool) (W T : Ty) : CFn Tryz.prog 10 [TPc [Is (.bool o), W, T]] (Is (.bool o)) := by
  refine CallsC.of Tryz.call10 Tryz.func10 rfl Tryz.ntmps10 rfl fun w0 G0 S0 hs ho => ?_
  refine run ?_
  simp
theorem seWaitingC (o : Bool) (W : Ty) (w : List UInt8) : CFn Tryz.prog 11 [TPc [Is (.bool o), W, TBytes w]] (okI .i64 (w.length : Int)) := by
  refine CallsC.of Tryz.call11 Tryz.func11 rfl Tryz.ntmps11 rfl fun w0 G0 S0 hs ho => ?_
  exact run trivial
theorem rsTakeC (g : Nat) (B W : Ty) (p : List UInt8) : CallsC Tryz.prog 8 [Is (pAt g 0), TBytes p] [RX g B W true] (fun _ => TTup [Ss.nilS, Is (.bool false)]) (fun _ => [RX g B W true]) := by
  refine CallsC.of Tryz.call8 Tryz.func8 rfl Tryz.ntmps8 rfl fun w0 G0 S0 hs ho => ?_
  exact run trivial
theorem seTakeC' (g : Nat) (W T : Ty) (p : List UInt8) : CallsC Tryz.prog 7 [Is (pAt g 0), TBytes p] [SX g false W T] (fun _ => TTup [TSl 21 Ms.cReq [], Is (.bool false)]) (fun _ => [SX g false W T]) := by
  have c1 := seOpen g false W T
  refine CallsC.of Tryz.call7 Tryz.func7 rfl Tryz.ntmps7 rfl fun w0 G0 S0 hs ho => ?_
  exact run trivial
set_option maxHeartbeats 4000000 in
theorem lwTakes26 (l : List (List UInt8)) (hl : l.length ≤ 140737488351232 ∧ ∀ x ∈ l, x.length ≤ 140737488351232) : CFn Tryz.prog 3 [TSl 1 Ss.cTB l] (Is (.bool true)) := by
  have c9 := lwKnown26
  have c0 := seLong l (fun i hi => hl.2 _ (by rw [List.getD_eq_getElem?_getD, List.getElem?_eq_getElem hi]; simp))
  cases hb : seLongB l with
  | true =>
    rw [hb] at c0
    refine CallsC.of Tryz.call3 Tryz.func3 rfl Tryz.ntmps3 rfl fun w0 G0 S0 hs ho => ?_
    exact run trivial
  | false =>
    rw [hb] at c0
    have c1 := seNew
    have mu := Mut.mk' [14]
    refine CallsC.of Tryz.call3 Tryz.func3 rfl Tryz.ntmps3 rfl fun w0 G0 S0 hs ho => ?_
    refine run ?_
    intro v0 v1 _ _
    clear c0 c1
    refine HT.loopX (σ := Nat × Bool × List UInt8) [0, 3, 4] (fun t => [(5, okI .i64 (t.1 : Int))]) (fun t => [SX (blk v0) t.2.1 (TSl 2 Dn.cAva []) (TBytes t.2.2), RX (blk v1) (TBytes t.2.2) Ss.nilS (!t.2.1)]) (fun t => t.1 ≤ l.length ∧ (t.2.2.length : Int) ≤ seSum l t.1 ∧ seSum l t.1 ≤ 3000) (fun t => l.length - t.1) (0, true, []) ⟨Nat.zero_le _, by rw [seSum_0]; simp, by rw [seSum_0]; omega⟩ (run ?_) (run trivial) ?_
    · rfl
    rintro ⟨i, o, w⟩ ⟨hi, hw, hs⟩
    dsimp only at hi hw hs ⊢
    by_cases hlt : i < l.length
    · have h1 := seSum_succ hlt
      have h2 := seLong_at hb hlt
      have c5 := seOpenC
      have c6 := seWaitingC
      cases o with
      | true =>
        have c2 : CallsC Tryz.prog 7 [Is (pAt (blk v0) 0), TBytes ([] ++ l.getD i default)] [SX (blk v0) true (TSl 2 Dn.cAva []) (TBytes w)] (fun _ => TTup [TSl 21 Ms.cReq (Ss.tk [] (w ++ l.getD i default)).1.1, Is (.bool (Ss.tk [] (w ++ l.getD i default)).1.2)]) (fun _ => [SX (blk v0) (Ss.tk [] (w ++ l.getD i default)).2.1 (TSl 2 Dn.cAva []) (TBytes (Ss.tk [] (w ++ l.getD i default)).2.2)]) := seTakeA (blk v0) (TSl 2 Dn.cAva []) w (l.getD i default) (by omega)
        have c3 := rsTakeA (blk v1) Ss.nilS w (l.getD i default) (by omega)
        have hsn := Ss.tk_sane (w ++ l.getD i default) (by rw [List.length_append]; omega) [] (fun x hx => by simp at hx)
        have hn := hsn.num
        have hlf := hsn.left
        rw [List.length_append] at hn hlf
        have c4 := seRequests (Ss.tk [] (w ++ l.getD i default)).1.1 hsn.okr (by rw [List.length_nil] at hn; omega)
        clear hsn
        generalize Ss.tk [] (w ++ l.getD i default) = R at *
        refine run ?_
        refine ⟨fun _ h => ?_, fun _ h => ?_⟩
        · exfalso
          rcases h with (h | h) | h
          · simp at h
          · revert h; cases R.2.1 <;> simp
          · exact h rfl
        · exact HX.roundX (i + 1, R.2.1, R.2.2) ⟨⟨by dsimp only; omega, by dsimp only; omega, by dsimp only; omega⟩, by dsimp only; omega⟩ rfl (run trivial) (run trivial)
      | false =>
        have c2 := seTakeC' (blk v0) (TSl 2 Dn.cAva []) (TBytes w)
        have c3 := rsTakeC (blk v1) (TBytes w) Ss.nilS
        have c4 := seRequests [] (fun x hx => by simp at hx) (by simp)
        refine run ?_
        intro _ _
        exact HX.roundX (i + 1, false, w) ⟨⟨by dsimp only; omega, by dsimp only; omega, by dsimp only; omega⟩, by dsimp only; omega⟩ rfl (by refine run ?_; rfl) (run trivial)
    · exact run trivial
theorem opnPieces : Opn Tryz.prog 22 (cL 1 Ss.cTB) (fun l => l.length ≤ 140737488351232 ∧ ∀ x ∈ l, x.length ≤ 140737488351232) := by
  have h := Opn.slice opnBytes Tryz.underlying22 (by kernel_rfl) (by kernel_rfl)
  rw [show Tryz.prog.cellsOf 27 = 1 by kernel_rfl] at h
  have hb : Tryz.prog.bytesOf 27 = 24 := by kernel_rfl
  exact h.map id (fun l => by rw [show Tryz.prog.cellsOf 22 = 1 by kernel_rfl]; rfl) (fun _ => rfl) (fun l hl => ⟨by have := reach_le hl.1; rw [hb] at this; show l.length ≤ _; omega, hl.2⟩)
end Go.Proofs.YtkpghepeagafoaaGreat
