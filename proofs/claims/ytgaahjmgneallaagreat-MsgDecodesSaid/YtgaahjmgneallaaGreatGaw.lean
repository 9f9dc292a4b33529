/-
  The contract of the document's Decode (printed by mkp4.py).
  The contract of the program's Decode.
  The contract of the law MsgDecodes.
-/
import Derived.Test.YtgaahjmgneallaaGreatGav
import Derived.Test.YtgaahjmgneallaaGreatGar
import Derived.Test.YtgaahjmgneallaaGreatGaq
import Derived.Test.YtgaahjmgneallaaGreatGau
import Derived.Test.YtgaahjmgneallaaGreatGap
set_option linter.unusedSimpArgs false
set_option linter.unusedVariables false
set_option linter.unusedVariables false
set_option maxRecDepth 8000
set_option linter.unusedVariables false
namespace Go.Proofs.YtgaahjmgneallaaGreat
open Go.Vk
attribute [local irreducible] HT HX RegS RegA RegM OpP OpC AltT
attribute [local irreducible] Ber.tagB Ber.lenB Ber.intB Ber.allE Ber.fromIntB Ber.nextB Ms.midB Ms.filtD Ms.subsM Ms.innM Ms.takeI Ms.numR Ms.opD Ms.isR
set_option maxHeartbeats 8000000 in
theorem rfDecode25 (b : List UInt8) (hb : b.length ≤ 70000) : CFn Tryz.prog 17 [TBytes b] (TTup [TAgg (Ms.cReq (Ms.decD b).1), okI .i64 (Ms.decD b).2]) := by
  have c1 := refNext b (by omega)
  have hn := Ber.nextB_len b
  unfold Ms.decD
  generalize Ber.nextB b = n at c1 hn ⊢
  dsimp only
  have hz : Ms.cReq Ms.zR = [okI .i64 0, okI .i64 0, Is (str []), Is (str []), okI .i64 0, okI .i64 0, okI .i64 0, Is (str []), Is (str []), TSl 1 Fi.cS [], TSl 5 Fi.cF [], TSl 1 En.cS [], TSl 3 Ms.cMod [], TSl 2 En.cAttr [], Is (str []), Is (.bool false), Is (.bool false), Is (str []), Is (str []), Is (str []), okI .i64 0] := rfl
  by_cases he : n.e = 0
  case neg =>
    rw [if_pos he]
    dsimp only
    rw [hz]
    refine CallsC.of Tryz.call17 Tryz.func17 rfl Tryz.ntmps17 rfl fun w0 G0 S0 hs ho => ?_
    exact run trivial
  rw [if_neg (by simpa using he)]
  have c2 : CallsC Tryz.prog 43 [TBytes n.body] [] (fun v => Is (pAt (blk v) 0)) (fun v => [RX25 (blk v) (Ms.allI n.body) 0 (Ms.badI n.body)]) := rdRead n.body (by omega)
  have hw := Ms.allI_w n.body
  have ht : ((n.tag.toNat : Int) = 48) ↔ n.tag = 48 := ⟨fun h => UInt8.toNat_inj.1 (by have : ((48 : UInt8).toNat : Int) = 48 := rfl; omega), fun h => by rw [h]; rfl⟩
  have hr0 : n.rest = [] ↔ n.rest.length = 0 := List.length_eq_zero_iff.symm
  cases hbd : (decide (n.tag ≠ 48) || decide (n.rest ≠ [])) with
  | true =>
    simp only [Bool.or_eq_true, decide_eq_true_eq] at hbd
    have hbd : ¬ (n.tag.toNat : Int) = 48 ∨ 0 < (n.rest.length : Int) := hbd.imp (fun h h2 => h (ht.1 h2)) (fun h => by have : ¬ n.rest.length = 0 := fun h2 => h (hr0.2 h2); omega)
    have hB : (Ms.reqD n.body true).2.2 = true := Ms.reqD_bad _
    rw [if_pos (by rw [hB]; rfl)]
    dsimp only
    rw [hz]
    unfold Ms.reqD at hB
    dsimp only at hB
    generalize Ms.allI n.body = x0 at c2 hw hB
    generalize Ms.badI n.body = b0 at c2 hB
    have l0 := Ms.wI_len x0
    have e0 : (b0 || true) = true := by simp
    rw [e0] at hB
    obtain ⟨i1, k1, k2, c3⟩ := rdNum x0 0 (true) 2 1 Ms.mostN (by omega) (Nat.zero_le _)
    rw [List.drop_zero] at k2 c3
    generalize Ms.numR x0 (true) 2 1 Ms.mostN = q at c3 k2 hB
    have d3 : ∀ g, CallsC Tryz.prog 44 [Is (pAt g 0), okI .u8 2, okI .i64 1, okI .i64 2147483647] [RX25 g x0 0 (true)] (fun _ => okI .i64 q.1) (fun _ => [RX25 g x0 i1 q.2.2]) := c3
    obtain ⟨i2, k3, k4, c4⟩ := rdOp x0 i1 q.2.2 (by omega) k1
    rw [k2] at k4 c4
    generalize Ms.opD q.2.1 q.2.2 = o at c4 k4 hB
    have cP := fun g => rdPeek g x0 i2 o.2.2 (by omega) k3
    rw [k4] at cP
    generalize hok : Ms.isR (Ms.withNum o.1 q.1) = ok at hB
    dsimp only [Ms.cReq] at c4
    unfold Ms.mayI at hB
    clear c3 k2
    cases hi : Ms.isI o.2.1 o.2.2 160 with
    | true =>
      rw [hi, if_pos rfl] at hB
      obtain ⟨i3, k5, k6, c5⟩ := rdBody x0 i2 o.2.2 160 (by omega) k3
      rw [k4] at k6 c5
      have f2 := Ms.peek_is hi
      rw [f2] at cP
      generalize Ms.takeI o.2.1 o.2.2 160 = c at c5 k6 hB
      have he : c.2.1 = [] ↔ (i3 : Int) = (x0.length : Int) := by rw [← k6, List.drop_eq_nil_iff]; omega
      have dP : ∀ g, CallsC Tryz.prog 45 [Is (pAt g 0)] [RX25 g x0 i2 o.2.2] (fun _ => okI .u8 160) (fun _ => [RX25 g x0 i2 o.2.2]) := cP
      have d5 : ∀ g, CallsC Tryz.prog 47 [Is (pAt g 0), okI .u8 160] [RX25 g x0 i2 o.2.2] (fun _ => TBytes c.1) (fun _ => [RX25 g x0 i3 c.2.2]) := c5
      clear cP c5 k6 f2 hi
      refine CallsC.of Tryz.call17 Tryz.func17 rfl Tryz.ntmps17 rfl fun w0 G0 S0 hs ho => ?_
      refine run ?_
      intros
      refine ⟨Is (.bool false), fun h => ?_, ?_⟩
      · exfalso
        revert h
        rw [hB]
        simp
      exact run trivial
    | false =>
      rw [hi, if_neg Bool.false_ne_true] at hB
      have f2 : ¬ ((Ms.peekI o.2.1 o.2.2).toNat : Int) = 160 := Ms.peek_not (t := 160) (by decide) hi
      generalize ((Ms.peekI o.2.1 o.2.2).toNat : Int) = pk at cP f2
      have he : o.2.1 = [] ↔ (i2 : Int) = (x0.length : Int) := by rw [← k4, List.drop_eq_nil_iff]; omega
      clear hi
      refine CallsC.of Tryz.call17 Tryz.func17 rfl Tryz.ntmps17 rfl fun w0 G0 S0 hs ho => ?_
      refine run ?_
      intros
      refine ⟨Is (.bool false), fun h => ?_, ?_⟩
      · exfalso
        revert h
        rw [hB]
        simp
      exact run trivial
  | false =>
    simp only [Bool.or_eq_false_iff, decide_eq_false_iff_not, ne_eq, Decidable.not_not] at hbd
    have hbd1 : (n.tag.toNat : Int) = 48 := ht.2 hbd.1
    have hbd2 : ¬ 0 < (n.rest.length : Int) := by have := hr0.1 hbd.2; omega
    cases hc : (Ms.reqD n.body false).2.2 with
    | true =>
      rw [if_pos (by simp)]
      dsimp only
      rw [hz]
      have hB := hc
      clear hc
      unfold Ms.reqD at hB
      dsimp only at hB
      generalize Ms.allI n.body = x0 at c2 hw hB
      generalize Ms.badI n.body = b0 at c2 hB
      have l0 := Ms.wI_len x0
      have e0 : (b0 || false) = b0 := by simp
      rw [e0] at hB
      obtain ⟨i1, k1, k2, c3⟩ := rdNum x0 0 (b0) 2 1 Ms.mostN (by omega) (Nat.zero_le _)
      rw [List.drop_zero] at k2 c3
      generalize Ms.numR x0 (b0) 2 1 Ms.mostN = q at c3 k2 hB
      have d3 : ∀ g, CallsC Tryz.prog 44 [Is (pAt g 0), okI .u8 2, okI .i64 1, okI .i64 2147483647] [RX25 g x0 0 (b0)] (fun _ => okI .i64 q.1) (fun _ => [RX25 g x0 i1 q.2.2]) := c3
      obtain ⟨i2, k3, k4, c4⟩ := rdOp x0 i1 q.2.2 (by omega) k1
      rw [k2] at k4 c4
      generalize Ms.opD q.2.1 q.2.2 = o at c4 k4 hB
      have cP := fun g => rdPeek g x0 i2 o.2.2 (by omega) k3
      rw [k4] at cP
      generalize hok : Ms.isR (Ms.withNum o.1 q.1) = ok at hB
      dsimp only [Ms.cReq] at c4
      unfold Ms.mayI at hB
      clear c3 k2
      cases hi : Ms.isI o.2.1 o.2.2 160 with
      | true =>
        rw [hi, if_pos rfl] at hB
        obtain ⟨i3, k5, k6, c5⟩ := rdBody x0 i2 o.2.2 160 (by omega) k3
        rw [k4] at k6 c5
        have f2 := Ms.peek_is hi
        rw [f2] at cP
        generalize Ms.takeI o.2.1 o.2.2 160 = c at c5 k6 hB
        have he : c.2.1 = [] ↔ (i3 : Int) = (x0.length : Int) := by rw [← k6, List.drop_eq_nil_iff]; omega
        have dP : ∀ g, CallsC Tryz.prog 45 [Is (pAt g 0)] [RX25 g x0 i2 o.2.2] (fun _ => okI .u8 160) (fun _ => [RX25 g x0 i2 o.2.2]) := cP
        have d5 : ∀ g, CallsC Tryz.prog 47 [Is (pAt g 0), okI .u8 160] [RX25 g x0 i2 o.2.2] (fun _ => TBytes c.1) (fun _ => [RX25 g x0 i3 c.2.2]) := c5
        clear cP c5 k6 f2 hi
        refine CallsC.of Tryz.call17 Tryz.func17 rfl Tryz.ntmps17 rfl fun w0 G0 S0 hs ho => ?_
        refine run ?_
        intros
        refine ⟨Is (.bool false), fun h => ?_, ?_⟩
        · exfalso
          revert h
          rw [hB]
          simp
        exact run trivial
      | false =>
        rw [hi, if_neg Bool.false_ne_true] at hB
        have f2 : ¬ ((Ms.peekI o.2.1 o.2.2).toNat : Int) = 160 := Ms.peek_not (t := 160) (by decide) hi
        generalize ((Ms.peekI o.2.1 o.2.2).toNat : Int) = pk at cP f2
        have he : o.2.1 = [] ↔ (i2 : Int) = (x0.length : Int) := by rw [← k4, List.drop_eq_nil_iff]; omega
        clear hi
        refine CallsC.of Tryz.call17 Tryz.func17 rfl Tryz.ntmps17 rfl fun w0 G0 S0 hs ho => ?_
        refine run ?_
        intros
        refine ⟨Is (.bool false), fun h => ?_, ?_⟩
        · exfalso
          revert h
          rw [hB]
          simp
        exact run trivial
    | false =>
      have hr : Ms.Okr (Ms.reqD n.body false).1 := by rw [← Ms.req_eq1 hc]; exact Ms.reqP_okr (by omega)
      cases hB : (false || decide ((Ms.reqD n.body false).2.1 ≠ []) || !Ms.isR (Ms.reqD n.body false).1) with
      | true =>
        rw [if_pos rfl]
        dsimp only
        rw [hz]
        have hB := And.intro hc hB
        clear hc
        simp only [Bool.or_eq_true, decide_eq_true_eq, Bool.not_eq_true', Bool.false_or] at hB
        unfold Ms.reqD at hB
        dsimp only at hB
        unfold Ms.reqD at hr
        dsimp only at hr
        generalize Ms.allI n.body = x0 at c2 hw hB hr
        generalize Ms.badI n.body = b0 at c2 hB hr
        have l0 := Ms.wI_len x0
        have e0 : (b0 || false) = b0 := by simp
        rw [e0] at hB hr
        obtain ⟨i1, k1, k2, c3⟩ := rdNum x0 0 (b0) 2 1 Ms.mostN (by omega) (Nat.zero_le _)
        rw [List.drop_zero] at k2 c3
        generalize Ms.numR x0 (b0) 2 1 Ms.mostN = q at c3 k2 hB hr
        have d3 : ∀ g, CallsC Tryz.prog 44 [Is (pAt g 0), okI .u8 2, okI .i64 1, okI .i64 2147483647] [RX25 g x0 0 (b0)] (fun _ => okI .i64 q.1) (fun _ => [RX25 g x0 i1 q.2.2]) := c3
        obtain ⟨i2, k3, k4, c4⟩ := rdOp x0 i1 q.2.2 (by omega) k1
        rw [k2] at k4 c4
        generalize Ms.opD q.2.1 q.2.2 = o at c4 k4 hB hr
        have cP := fun g => rdPeek g x0 i2 o.2.2 (by omega) k3
        rw [k4] at cP
        have c7 := rfIs25 (Ms.withNum o.1 q.1) hr
        generalize hok : Ms.isR (Ms.withNum o.1 q.1) = ok at hB c7
        unfold Ms.withNum at c7
        dsimp only [Ms.cReq] at c4 c7
        unfold Ms.mayI at hB
        clear c3 k2 hr
        cases hi : Ms.isI o.2.1 o.2.2 160 with
        | true =>
          rw [hi, if_pos rfl] at hB
          obtain ⟨i3, k5, k6, c5⟩ := rdBody x0 i2 o.2.2 160 (by omega) k3
          rw [k4] at k6 c5
          have f2 := Ms.peek_is hi
          rw [f2] at cP
          generalize Ms.takeI o.2.1 o.2.2 160 = c at c5 k6 hB
          have he : c.2.1 = [] ↔ (i3 : Int) = (x0.length : Int) := by rw [← k6, List.drop_eq_nil_iff]; omega
          have dP : ∀ g, CallsC Tryz.prog 45 [Is (pAt g 0)] [RX25 g x0 i2 o.2.2] (fun _ => okI .u8 160) (fun _ => [RX25 g x0 i2 o.2.2]) := cP
          have d5 : ∀ g, CallsC Tryz.prog 47 [Is (pAt g 0), okI .u8 160] [RX25 g x0 i2 o.2.2] (fun _ => TBytes c.1) (fun _ => [RX25 g x0 i3 c.2.2]) := c5
          clear cP c5 k6 f2 hi
          refine CallsC.of Tryz.call17 Tryz.func17 rfl Tryz.ntmps17 rfl fun w0 G0 S0 hs ho => ?_
          refine run ?_
          and_intros <;> intros <;> first | rfl | (exfalso; grind)
        | false =>
          rw [hi, if_neg Bool.false_ne_true] at hB
          have f2 : ¬ ((Ms.peekI o.2.1 o.2.2).toNat : Int) = 160 := Ms.peek_not (t := 160) (by decide) hi
          generalize ((Ms.peekI o.2.1 o.2.2).toNat : Int) = pk at cP f2
          have he : o.2.1 = [] ↔ (i2 : Int) = (x0.length : Int) := by rw [← k4, List.drop_eq_nil_iff]; omega
          clear hi
          refine CallsC.of Tryz.call17 Tryz.func17 rfl Tryz.ntmps17 rfl fun w0 G0 S0 hs ho => ?_
          refine run ?_
          and_intros <;> intros <;> first | rfl | (exfalso; grind)
      | false =>
        rw [if_neg (by simp)]
        dsimp only
        have hB := And.intro hc hB
        clear hc
        simp only [Bool.or_eq_false_iff, decide_eq_false_iff_not, Bool.not_eq_false', ne_eq, Decidable.not_not] at hB
        unfold Ms.reqD at hB ⊢
        dsimp only at hB ⊢
        unfold Ms.reqD at hr
        dsimp only at hr
        generalize Ms.allI n.body = x0 at c2 hw hB hr ⊢
        generalize Ms.badI n.body = b0 at c2 hB hr ⊢
        have l0 := Ms.wI_len x0
        have e0 : (b0 || false) = b0 := by simp
        rw [e0] at hB hr ⊢
        obtain ⟨i1, k1, k2, c3⟩ := rdNum x0 0 (b0) 2 1 Ms.mostN (by omega) (Nat.zero_le _)
        rw [List.drop_zero] at k2 c3
        generalize Ms.numR x0 (b0) 2 1 Ms.mostN = q at c3 k2 hB hr ⊢
        have d3 : ∀ g, CallsC Tryz.prog 44 [Is (pAt g 0), okI .u8 2, okI .i64 1, okI .i64 2147483647] [RX25 g x0 0 (b0)] (fun _ => okI .i64 q.1) (fun _ => [RX25 g x0 i1 q.2.2]) := c3
        obtain ⟨i2, k3, k4, c4⟩ := rdOp x0 i1 q.2.2 (by omega) k1
        rw [k2] at k4 c4
        generalize Ms.opD q.2.1 q.2.2 = o at c4 k4 hB hr ⊢
        have cP := fun g => rdPeek g x0 i2 o.2.2 (by omega) k3
        rw [k4] at cP
        have c7 := rfIs25 (Ms.withNum o.1 q.1) hr
        generalize hok : Ms.isR (Ms.withNum o.1 q.1) = ok at hB c7
        unfold Ms.withNum at c7 ⊢
        dsimp only [Ms.cReq] at c4 c7 ⊢
        unfold Ms.mayI at hB
        clear c3 k2 hr
        cases hi : Ms.isI o.2.1 o.2.2 160 with
        | true =>
          rw [hi, if_pos rfl] at hB
          obtain ⟨i3, k5, k6, c5⟩ := rdBody x0 i2 o.2.2 160 (by omega) k3
          rw [k4] at k6 c5
          have f2 := Ms.peek_is hi
          rw [f2] at cP
          generalize Ms.takeI o.2.1 o.2.2 160 = c at c5 k6 hB
          have he : c.2.1 = [] ↔ (i3 : Int) = (x0.length : Int) := by rw [← k6, List.drop_eq_nil_iff]; omega
          have dP : ∀ g, CallsC Tryz.prog 45 [Is (pAt g 0)] [RX25 g x0 i2 o.2.2] (fun _ => okI .u8 160) (fun _ => [RX25 g x0 i2 o.2.2]) := cP
          have d5 : ∀ g, CallsC Tryz.prog 47 [Is (pAt g 0), okI .u8 160] [RX25 g x0 i2 o.2.2] (fun _ => TBytes c.1) (fun _ => [RX25 g x0 i3 c.2.2]) := c5
          clear cP c5 k6 f2 hi
          refine CallsC.of Tryz.call17 Tryz.func17 rfl Tryz.ntmps17 rfl fun w0 G0 S0 hs ho => ?_
          refine run ?_
          and_intros <;> intros <;> first | rfl | (exfalso; grind)
        | false =>
          rw [hi, if_neg Bool.false_ne_true] at hB
          have f2 : ¬ ((Ms.peekI o.2.1 o.2.2).toNat : Int) = 160 := Ms.peek_not (t := 160) (by decide) hi
          generalize ((Ms.peekI o.2.1 o.2.2).toNat : Int) = pk at cP f2
          have he : o.2.1 = [] ↔ (i2 : Int) = (x0.length : Int) := by rw [← k4, List.drop_eq_nil_iff]; omega
          clear hi
          refine CallsC.of Tryz.call17 Tryz.func17 rfl Tryz.ntmps17 rfl fun w0 G0 S0 hs ho => ?_
          refine run ?_
          and_intros <;> intros <;> first | rfl | (exfalso; grind)
end Go.Proofs.YtgaahjmgneallaaGreat
set_option linter.unusedVariables false
set_option maxRecDepth 8000
set_option linter.unusedVariables false
namespace Go.Proofs.YtgaahjmgneallaaGreat
open Go.Vk
attribute [local irreducible] HT HX RegS RegA RegM OpP OpC AltT
attribute [local irreducible] Ber.tagB Ber.lenB Ber.intB Ber.allE Ber.fromIntB Ber.nextB Ms.midB Ms.kindT Ms.textI Ms.numI Ms.truthI Ms.filtP Ms.textsM Ms.modsM Ms.attrsM Ms.opP Ms.isR
set_option maxHeartbeats 4000000 in
theorem msDecode (b : List UInt8) (hb : b.length ≤ 70000) : CFn Tryz.prog 16 [TBytes b] (TTup [TAgg (Ms.cReq (Ms.decP b).1), okI .i64 (Ms.decP b).2]) := by
  have c1 := nextP b (by omega)
  have hn := Ber.nextB_len b
  unfold Ms.decP
  generalize Ber.nextB b = n at c1 hn ⊢
  dsimp only
  by_cases he : n.e = 0
  case neg =>
    rw [if_pos he]
    dsimp only
    have hz : Ms.cReq Ms.zR = [okI .i64 0, okI .i64 0, Is (str []), Is (str []), okI .i64 0, okI .i64 0, okI .i64 0, Is (str []), Is (str []), TSl 1 Fi.cS [], TSl 5 Fi.cF [], TSl 1 En.cS [], TSl 3 Ms.cMod [], TSl 2 En.cAttr [], Is (str []), Is (.bool false), Is (.bool false), Is (str []), Is (str []), Is (str []), okI .i64 0] := rfl
    rw [hz]
    refine CallsC.of Tryz.call16 Tryz.func16 rfl Tryz.ntmps16 rfl fun w0 G0 S0 hs ho => ?_
    exact run trivial
  rw [if_neg (by simpa using he)]
  have c2 : CallsC Tryz.prog 38 [TBytes n.body] [] (fun v => Is (pAt (blk v) 0)) (fun v => [IX (blk v) (Ms.allI n.body) (Ms.badI n.body)]) := miApart n.body (by omega)
  have hw := Ms.allI_w n.body
  have hr := Ms.reqP_okr (b := n.body) (by omega)
  have hz : Ms.cReq Ms.zR = [okI .i64 0, okI .i64 0, Is (str []), Is (str []), okI .i64 0, okI .i64 0, okI .i64 0, Is (str []), Is (str []), TSl 1 Fi.cS [], TSl 5 Fi.cF [], TSl 1 En.cS [], TSl 3 Ms.cMod [], TSl 2 En.cAttr [], Is (str []), Is (.bool false), Is (.bool false), Is (str []), Is (str []), Is (str []), okI .i64 0] := rfl
  have ht : ((n.tag.toNat : Int) = 48) ↔ n.tag = 48 := ⟨fun h => UInt8.toNat_inj.1 (by have : ((48 : UInt8).toNat : Int) = 48 := rfl; omega), fun h => by rw [h]; rfl⟩
  have hr0 : n.rest = [] ↔ n.rest.length = 0 := List.length_eq_zero_iff.symm
  cases hB : (decide (n.tag ≠ 48) || decide (n.rest ≠ []) || (Ms.reqP n.body).2.2 || decide ((Ms.reqP n.body).2.1 ≠ []) || !Ms.isR (Ms.reqP n.body).1) with
  | true =>
    rw [if_pos rfl]
    dsimp only
    rw [hz]
    simp only [Bool.or_eq_true, decide_eq_true_eq, Bool.not_eq_true'] at hB
    unfold Ms.reqP at hr hB
    dsimp only at hr hB
    generalize Ms.allI n.body = x0 at c2 hw hr hB
    generalize Ms.badI n.body = b0 at c2 hr hB
    have l0 := Ms.wI_len x0
    have c3 : ∀ g, CallsC Tryz.prog 39 [Is (pAt g 0), okI .u8 2] [IX g x0 b0] (fun _ => okI .i64 (Ms.numI x0 b0 2).1) (fun _ => [IX g (Ms.numI x0 b0 2).2.1 (Ms.numI x0 b0 2).2.2]) := fun g => miNum g x0 b0 2 (by omega)
    have w1 := Ms.numI_w x0 b0 2
    generalize Ms.numI x0 b0 2 = q at c3 w1 hr hB
    have c4 : ∀ g g2, CallsC Tryz.prog 49 [Is (pAt g 0), Is (pAt g2 0)] [IX g q.2.1 q.2.2, ownP g2 48 (Ms.zReq q.1 0)] (fun _ => TTup []) (fun _ => [IX g (Ms.opP q.2.1 q.2.2).2.1 (Ms.opP q.2.1 q.2.2).2.2, ownP g2 48 (Ms.cReq (Ms.withNum (Ms.opP q.2.1 q.2.2).1 q.1))]) := fun g g2 => miRequest g g2 q.1 q.2.1 q.2.2 (by omega)
    have w2 := Ms.opP_w q.2.1 q.2.2
    generalize Ms.opP q.2.1 q.2.2 = o at c4 w2 hr hB
    have l1 := Ms.wI_len o.2.1
    have c5 : ∀ g, CallsC Tryz.prog 50 [Is (pAt g 0), okI .u8 160] [IX g o.2.1 o.2.2] (fun _ => Is (.bool (Ms.isI o.2.1 o.2.2 160))) (fun _ => [IX g o.2.1 o.2.2]) := fun g => miIs g o.2.1 o.2.2 160
    have c6 : ∀ g, CallsC Tryz.prog 51 [Is (pAt g 0), okI .u8 160] [IX g o.2.1 o.2.2] (fun _ => TBytes (Ms.takeI o.2.1 o.2.2 160).1) (fun _ => [IX g (Ms.takeI o.2.1 o.2.2 160).2.1 (Ms.takeI o.2.1 o.2.2 160).2.2]) := fun g => miTake g o.2.1 o.2.2 160 (by omega)
    have w3 := Ms.take1_w o.2.1 o.2.2 160
    have c7 := msIs (Ms.withNum o.1 q.1) hr
    generalize Ms.withNum o.1 q.1 = R at c4 c7 hr hB
    clear hr
    have mu := Mut.mk' [8]
    unfold Ms.mayI at hB
    cases hi : Ms.isI o.2.1 o.2.2 160 with
    | true =>
      rw [hi] at c5
      rw [hi, if_pos rfl] at hB
      generalize Ms.takeI o.2.1 o.2.2 160 = c at c6 w3 hB
      have l2 := Ms.wI_len c.2.1
      have hc0 : c.2.1 = [] ↔ c.2.1.length = 0 := List.length_eq_zero_iff.symm
      refine CallsC.of Tryz.call16 Tryz.func16 rfl Tryz.ntmps16 rfl fun w0 G0 S0 hs ho => ?_
      refine run ?_
      and_intros <;> intros <;> exfalso <;> grind
    | false =>
      rw [hi] at c5
      rw [hi, if_neg (by simp)] at hB
      have hc0 : o.2.1 = [] ↔ o.2.1.length = 0 := List.length_eq_zero_iff.symm
      clear c6
      refine CallsC.of Tryz.call16 Tryz.func16 rfl Tryz.ntmps16 rfl fun w0 G0 S0 hs ho => ?_
      refine run ?_
      and_intros <;> intros <;> exfalso <;> grind
  | false =>
    rw [if_neg (by simp)]
    dsimp only
    simp only [Bool.or_eq_false_iff, decide_eq_false_iff_not, Bool.not_eq_false', ne_eq, Decidable.not_not] at hB
    unfold Ms.reqP at hr hB ⊢
    dsimp only at hr hB ⊢
    generalize Ms.allI n.body = x0 at c2 hw hr hB ⊢
    generalize Ms.badI n.body = b0 at c2 hr hB ⊢
    have l0 := Ms.wI_len x0
    have c3 : ∀ g, CallsC Tryz.prog 39 [Is (pAt g 0), okI .u8 2] [IX g x0 b0] (fun _ => okI .i64 (Ms.numI x0 b0 2).1) (fun _ => [IX g (Ms.numI x0 b0 2).2.1 (Ms.numI x0 b0 2).2.2]) := fun g => miNum g x0 b0 2 (by omega)
    have w1 := Ms.numI_w x0 b0 2
    generalize Ms.numI x0 b0 2 = q at c3 w1 hr hB ⊢
    have c4 : ∀ g g2, CallsC Tryz.prog 49 [Is (pAt g 0), Is (pAt g2 0)] [IX g q.2.1 q.2.2, ownP g2 48 (Ms.zReq q.1 0)] (fun _ => TTup []) (fun _ => [IX g (Ms.opP q.2.1 q.2.2).2.1 (Ms.opP q.2.1 q.2.2).2.2, ownP g2 48 (Ms.cReq (Ms.withNum (Ms.opP q.2.1 q.2.2).1 q.1))]) := fun g g2 => miRequest g g2 q.1 q.2.1 q.2.2 (by omega)
    have w2 := Ms.opP_w q.2.1 q.2.2
    generalize Ms.opP q.2.1 q.2.2 = o at c4 w2 hr hB ⊢
    have l1 := Ms.wI_len o.2.1
    have c5 : ∀ g, CallsC Tryz.prog 50 [Is (pAt g 0), okI .u8 160] [IX g o.2.1 o.2.2] (fun _ => Is (.bool (Ms.isI o.2.1 o.2.2 160))) (fun _ => [IX g o.2.1 o.2.2]) := fun g => miIs g o.2.1 o.2.2 160
    have c6 : ∀ g, CallsC Tryz.prog 51 [Is (pAt g 0), okI .u8 160] [IX g o.2.1 o.2.2] (fun _ => TBytes (Ms.takeI o.2.1 o.2.2 160).1) (fun _ => [IX g (Ms.takeI o.2.1 o.2.2 160).2.1 (Ms.takeI o.2.1 o.2.2 160).2.2]) := fun g => miTake g o.2.1 o.2.2 160 (by omega)
    have w3 := Ms.take1_w o.2.1 o.2.2 160
    have c7 := msIs (Ms.withNum o.1 q.1) hr
    generalize Ms.withNum o.1 q.1 = R at c4 c7 hr hB ⊢
    clear hr
    have mu := Mut.mk' [8]
    unfold Ms.mayI at hB
    cases hi : Ms.isI o.2.1 o.2.2 160 with
    | true =>
      rw [hi] at c5
      rw [hi, if_pos rfl] at hB
      generalize Ms.takeI o.2.1 o.2.2 160 = c at c6 w3 hB
      have l2 := Ms.wI_len c.2.1
      have hc0 : c.2.1 = [] ↔ c.2.1.length = 0 := List.length_eq_zero_iff.symm
      refine CallsC.of Tryz.call16 Tryz.func16 rfl Tryz.ntmps16 rfl fun w0 G0 S0 hs ho => ?_
      refine run ?_
      and_intros <;> intros <;> exfalso <;> grind
    | false =>
      rw [hi] at c5
      rw [hi, if_neg (by simp)] at hB
      have hc0 : o.2.1 = [] ↔ o.2.1.length = 0 := List.length_eq_zero_iff.symm
      clear c6
      refine CallsC.of Tryz.call16 Tryz.func16 rfl Tryz.ntmps16 rfl fun w0 G0 S0 hs ho => ?_
      refine run ?_
      and_intros <;> intros <;> exfalso <;> grind
end Go.Proofs.YtgaahjmgneallaaGreat
set_option linter.unusedVariables false
set_option maxRecDepth 8000
set_option linter.unusedVariables false
namespace Go.Proofs.YtgaahjmgneallaaGreat
open Go.Vk
attribute [local irreducible] HT HX RegS RegA RegM OpP OpC AltT
attribute [local irreducible] Ber.tagB Ber.lenB Ber.intB Ber.allE Ber.fromIntB Ber.nextB Ms.decP Ms.decD
set_option maxHeartbeats 4000000 in
theorem lwDecodes25 (b : List UInt8) (hl : b.length ≤ 140737488351232) : CFn Tryz.prog 4 [TBytes b] (Is (.bool true)) := by
  have c9 := lwKnown25
  by_cases h : (2000 : Int) < (b.length : Int)
  · refine CallsC.of Tryz.call4 Tryz.func4 rfl Tryz.ntmps4 rfl fun w0 G0 S0 hs ho => ?_
    exact run trivial
  have c1 := msDecode b (by omega)
  have c2 := rfDecode25 b (by omega)
  have c3 := Ms.decP_okr (b := b) (by omega)
  rw [← Ms.dec_eq b] at c2
  generalize Ms.decP b = z at c1 c2 c3
  have c4 := rfSame25 z.1 z.1 c3
  rw [decide_eq_true rfl] at c4
  clear c3
  refine CallsC.of Tryz.call4 Tryz.func4 rfl Tryz.ntmps4 rfl fun w0 G0 S0 hs ho => ?_
  exact run trivial
end Go.Proofs.YtgaahjmgneallaaGreat
