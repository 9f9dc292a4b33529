/-
  The contract of the document's Encode.
-/
import Derived.Test.YtibabbepnhpaiaaN2
set_option linter.unusedVariables false
namespace Go.Proofs.Ytibabbepnhpaiaa
open Go.Vk
attribute [local irreducible] HT HX RegS RegA RegM OpP OpC AltT
theorem encB_def (e : En.Entry) : En.encB e = Oct.numB e.dn.length ++ e.dn.flatMap En.avaB ++ Oct.numB e.attrs.length ++ e.attrs.flatMap En.attrB := rfl
attribute [local irreducible] Dn.typB Dn.isE Dn.okA En.okT En.isN Oct.bytB En.avaB En.attrB En.encB
set_option maxRecDepth 8000 in
set_option maxHeartbeats 8000000 in
theorem rf20Encode (e : En.Entry) (h : En.sane e) : CFn Try.prog 12 [TAgg (En.cEnt e)] (TTup [Is (str (if En.isN e = true then En.encB e else [])), okI .i64 (if En.isN e = true then 0 else 1)]) := by
  have c0 := rf20Is e h
  have c1 := rfNum
  have c2 := rfBytB
  by_cases hN : En.isN e = true
  · rw [if_pos hN, if_pos hN]
    rw [hN] at c0
    obtain ⟨b1, b2, b3, b4⟩ := En.isN_bd hN
    have k1 := Oct.numB_le (n := e.dn.length) (by omega)
    have k2 := Oct.numB_le (n := e.attrs.length) (by omega)
    have k3 := En.flat_take (f := En.avaB) (k := 200) (fun a ha => En.avaB_len (b2 a ha)) b1
    have k4 := En.flat_take (f := En.attrB) (k := 5000) (fun a ha => En.attrB_len (b4 a ha)) b3
    refine CallsC.of Try.call12 Try.func12 rfl Try.ntmps12 rfl fun w0 G0 S0 hs ho => ?_
    refine run ?_
    intro v0 _
    refine HT.loopX (σ := Nat × List UInt8 × Value) [1, 2, 3] (fun t => [(4, TAnd (Is t.2.2) (TBytes t.2.1)), (5, okI .i64 (t.1 : Int))]) (fun t => [ownSl t.2.2 1 5]) (fun t => t.1 ≤ e.dn.length ∧ t.2.1 = Oct.numB e.dn.length ++ (e.dn.take t.1).flatMap En.avaB) (fun t => e.dn.length - t.1) (0, Oct.numB e.dn.length, v0) ⟨Nat.zero_le _, by simp⟩ (run trivial) (run trivial) ?_
    rintro ⟨i, q, v⟩ ⟨hi, hq1⟩
    dsimp only at hi hq1 ⊢
    have k3i := k3 i
    have hql : q.length ≤ 3000 := by rw [hq1, List.length_append]; omega
    by_cases hlt : i < e.dn.length
    · have h2 := b2 _ (En.getD_mem hlt)
      have h3 := En.ava_snoc hlt
      have k6 := En.bytB_len (k := 32) h2.1 (by omega)
      have k7 := En.bytB_len (k := 64) h2.2 (by omega)
      refine run ?_
      intro w1 w2 w3 v' _
      exact HX.roundX (i + 1, q ++ Oct.bytB (e.dn.getD i default).typ ++ Oct.bytB (e.dn.getD i default).val, v') ⟨⟨by dsimp only; omega, by dsimp only; rw [h3, hq1]; simp only [List.append_assoc]⟩, by dsimp only; omega⟩ rfl (run trivial) (run trivial)
    · rw [List.take_of_length_le (by omega)] at hq1
      refine run ?_
      intro w1 v1 _
      refine HT.loopX (σ := Nat × List UInt8 × Value) [1, 2, 3] (fun t => [(4, TAnd (Is t.2.2) (TBytes t.2.1)), (6, okI .i64 (t.1 : Int))]) (fun t => [ownSl t.2.2 1 5]) (fun t => t.1 ≤ e.attrs.length ∧ t.2.1 = q ++ Oct.numB e.attrs.length ++ (e.attrs.take t.1).flatMap En.attrB) (fun t => e.attrs.length - t.1) (0, q ++ Oct.numB e.attrs.length, v1) ⟨Nat.zero_le _, by simp⟩ (run trivial) (run trivial) ?_
      rintro ⟨j, r, v⟩ ⟨hj, hr1⟩
      dsimp only at hj hr1 ⊢
      have k4j := k4 j
      have hrl : r.length ≤ 90000 := by rw [hr1, List.length_append, List.length_append]; omega
      by_cases hjt : j < e.attrs.length
      · obtain ⟨h2, h4, h5⟩ := b4 _ (En.getD_mem hjt)
        have h3 := En.attr_snoc hjt
        have k5 := Oct.numB_le (n := (e.attrs.getD j default).vals.length) (by omega)
        have k6 := En.bytB_len (k := 32) h2 (by omega)
        have k7 := En.flat_take (f := Oct.bytB) (k := 265) (fun v hv => En.bytB_len (k := 256) (h5 v hv) (by omega)) h4
        refine run ?_
        intro w2 w3 w4 w5 v2 _
        refine HT.loopX (σ := Nat × List UInt8 × Value) [1, 2, 3, 6, 7] (fun t => [(4, TAnd (Is t.2.2) (TBytes t.2.1)), (8, okI .i64 (t.1 : Int))]) (fun t => [ownSl t.2.2 1 5, ownP (blk w2) 46 (En.cAttr (e.attrs.getD j default))]) (fun t => t.1 ≤ (e.attrs.getD j default).vals.length ∧ t.2.1 = r ++ (Oct.bytB (e.attrs.getD j default).typ ++ Oct.numB (e.attrs.getD j default).vals.length ++ ((e.attrs.getD j default).vals.take t.1).flatMap Oct.bytB)) (fun t => (e.attrs.getD j default).vals.length - t.1) (0, r ++ Oct.bytB (e.attrs.getD j default).typ ++ Oct.numB (e.attrs.getD j default).vals.length, v2) ⟨Nat.zero_le _, by simp⟩ (run trivial) (run trivial) ?_
        rintro ⟨k, z, v⟩ ⟨hk, hz1⟩
        dsimp only at hk hz1 ⊢
        have k7k := k7 k
        have hzl : z.length ≤ 100000 := by rw [hz1, List.length_append, List.length_append, List.length_append]; omega
        by_cases hkt : k < (e.attrs.getD j default).vals.length
        · have h6 := h5 _ (En.getD_mem hkt)
          have h7 := En.flat_snoc Oct.bytB hkt
          have k8 := En.bytB_len (k := 256) h6 (by omega)
          refine run ?_
          intro w6 v3 _
          exact HX.roundX (k + 1, z ++ Oct.bytB ((e.attrs.getD j default).vals.getD k default), v3) ⟨⟨by dsimp only; omega, by dsimp only; rw [h7, hz1]; simp only [List.append_assoc]⟩, by dsimp only; omega⟩ rfl (run trivial) (run trivial)
        · rw [List.take_of_length_le (by omega)] at hz1
          refine run ?_
          intro _
          exact HX.roundX (j + 1, z, v) ⟨⟨by dsimp only; omega, by dsimp only; rw [h3, hz1, hr1, List.append_assoc]⟩, by dsimp only; omega⟩ rfl (run trivial) (run trivial)
      · rw [List.take_of_length_le (by omega)] at hr1
        have hr2 : r = En.encB e := by rw [hr1, hq1, encB_def]
        rw [← hr2]
        clear hr2 hr1 hq1 k3 k4 k4j k3i k1 k2 c0 c1 c2
        exact run trivial
  · have hN' : En.isN e = false := by simpa using hN
    rw [if_neg hN, if_neg hN]
    clear c1 c2
    rw [hN'] at c0
    refine CallsC.of Try.call12 Try.func12 rfl Try.ntmps12 rfl fun w0 G0 S0 hs ho => ?_
    exact run trivial
end Go.Proofs.Ytibabbepnhpaiaa
