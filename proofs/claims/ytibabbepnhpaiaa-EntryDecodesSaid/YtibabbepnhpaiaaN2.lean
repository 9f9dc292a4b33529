/-
  The contract of the document's Is; the contracts of Encode, the program's and the document's.
-/
import Derived.Test.YtibabbepnhpaiaaN1
import Derived.Test.YtibabbepnhpaiaaO1
set_option linter.unusedVariables false
namespace Go.Proofs.Ytibabbepnhpaiaa
open Go.Vk
attribute [local irreducible] HT HX RegS RegA RegM OpP OpC AltT
attribute [local irreducible] Dn.typB Dn.isE Dn.okA En.okT En.isN
theorem rf20Is (e : En.Entry) (h : En.sane e) : CFn Try.prog 14 [TAgg (En.cEnt e)] (Is (.bool (En.isN e))) := by
  have c1 := rfIs e.dn h.1 h.2.1
  have c2 := rfType
  have hb := h.2.2.1
  refine CallsC.of Try.call14 Try.func14 rfl Try.ntmps14 rfl fun w0 G0 S0 hs ho => ?_
  refine run ?_
  refine ⟨fun h1 => ?_, fun h1 => ?_⟩
  · exact (En.isN_no1 h1).symm
  refine HT.loopX (σ := Nat) [1] (fun i => [(3, okI .i64 (i : Int))]) (fun _ => []) (fun i => i ≤ e.attrs.length ∧ (e.attrs.take i).all En.okT = true) (fun i => e.attrs.length - i) 0 ⟨Nat.zero_le _, by simp⟩ (run trivial) (run trivial) ?_
  rintro i ⟨hi, hp⟩
  by_cases hlt : i < e.attrs.length
  · have h2 := h.2.2.2 _ (En.getD_mem hlt)
    refine run ?_
    refine ⟨fun v1 _ h3 => (En.isN_no2 hlt (En.okT_no1 h3)).symm, fun v1 _ h3 => ?_⟩
    refine HT.loopX (σ := Nat) [1, 3, 4] (fun k => [(5, okI .i64 (k : Int))]) (fun k => [ownP (blk v1) 46 (En.cAttr (e.attrs.getD i default))]) (fun k => k ≤ (e.attrs.getD i default).vals.length ∧ ((e.attrs.getD i default).vals.take k).all En.okV = true) (fun k => (e.attrs.getD i default).vals.length - k) 0 ⟨Nat.zero_le _, by simp⟩ (run trivial) (run trivial) ?_
    rintro k ⟨hk, hq1⟩
    by_cases hkt : k < (e.attrs.getD i default).vals.length
    · refine run ?_
      refine ⟨fun _ h4 => (En.isN_no2 hlt (En.okT_no2 hkt h4)).symm, fun _ h4 => ?_⟩
      exact HX.roundX (k + 1) ⟨⟨by omega, En.all_snoc hkt hq1 (En.okV_yes h4)⟩, by omega⟩ rfl (run trivial) (run trivial)
    · refine run ?_
      intro _
      rw [List.take_of_length_le (by omega)] at hq1
      exact HX.roundX (i + 1) ⟨⟨by omega, En.all_snoc hlt hp (En.okT_yes h3 hq1)⟩, by omega⟩ rfl (run trivial) (run trivial)
  · refine run ?_
    intro _
    rw [List.take_of_length_le (by omega)] at hp
    exact (En.isN_yes h1.1 h1.2 hp).symm
attribute [local irreducible] Oct.bytB En.avaB En.attrB
set_option maxHeartbeats 4000000 in
theorem enEncode (e : En.Entry) (h : En.sane e) : CFn Try.prog 11 [TAgg (En.cEnt e)] (TTup [Is (str (if En.isN e = true then En.encB e else [])), okI .i64 (if En.isN e = true then 0 else 1)]) := by
  have c0 := enIs e h
  have c1 := wrNums
  have c2 := wrBytes2
  have c3 := wrOut
  by_cases hN : En.isN e = true
  · rw [if_pos hN, if_pos hN]
    rw [hN] at c0
    obtain ⟨b1, b2, b3, b4⟩ := En.isN_bd hN
    have k1 := Oct.numB_le (n := e.dn.length) (by omega)
    have k2 := Oct.numB_le (n := e.attrs.length) (by omega)
    have k3 := En.flat_take (f := En.avaB) (k := 200) (fun a ha => En.avaB_len (b2 a ha)) b1
    have k4 := En.flat_take (f := En.attrB) (k := 5000) (fun a ha => En.attrB_len (b4 a ha)) b3
    refine CallsC.of Try.call11 Try.func11 rfl Try.ntmps11 rfl fun w0 G0 S0 hs ho => ?_
    refine run ?_
    intro v0 _
    refine HT.loopX (σ := Nat × List UInt8) [1, 2, 3, 4, 20, 21] (fun t => [(22, okI .i64 (t.1 : Int))]) (fun t => [WX (blk v0) t.2]) (fun t => t.1 ≤ e.dn.length ∧ t.2 = Oct.numB e.dn.length ++ (e.dn.take t.1).flatMap En.avaB) (fun t => e.dn.length - t.1) (0, Oct.numB e.dn.length) ⟨Nat.zero_le _, by simp⟩ (run trivial) (run trivial) ?_
    rintro ⟨i, q⟩ ⟨hi, hq1⟩
    dsimp only at hi hq1 ⊢
    have k3i := k3 i
    have hql : q.length ≤ 3000 := by rw [hq1, List.length_append]; omega
    by_cases hlt : i < e.dn.length
    · have h2 := b2 _ (En.getD_mem hlt)
      have h3 := En.ava_snoc hlt
      refine run ?_
      intro v1 _
      exact HX.roundX (i + 1, q ++ (Oct.bytB (e.dn.getD i default).typ ++ Oct.bytB (e.dn.getD i default).val)) ⟨⟨by dsimp only; omega, by dsimp only; rw [h3, hq1, List.append_assoc]⟩, by dsimp only; omega⟩ rfl (run trivial) (run trivial)
    · clear c2
      have c2 := wrBytes1
      rw [List.take_of_length_le (by omega)] at hq1
      refine run ?_
      intro _
      refine HT.loopX (σ := Nat × List UInt8) [2, 3, 4, 41, 42] (fun t => [(43, okI .i64 (t.1 : Int))]) (fun t => [WX (blk v0) t.2]) (fun t => t.1 ≤ e.attrs.length ∧ t.2 = q ++ Oct.numB e.attrs.length ++ (e.attrs.take t.1).flatMap En.attrB) (fun t => e.attrs.length - t.1) (0, q ++ Oct.numB e.attrs.length) ⟨Nat.zero_le _, by simp⟩ (run trivial) (run trivial) ?_
      rintro ⟨j, r⟩ ⟨hj, hr1⟩
      dsimp only at hj hr1 ⊢
      have k4j := k4 j
      have hrl : r.length ≤ 90000 := by rw [hr1, List.length_append, List.length_append]; omega
      by_cases hjt : j < e.attrs.length
      · obtain ⟨h2, h4, h5⟩ := b4 _ (En.getD_mem hjt)
        have h3 := En.attr_snoc hjt
        have k5 := Oct.numB_le (n := (e.attrs.getD j default).vals.length) (by omega)
        have k6 := En.bytB_len (k := 32) h2 (by omega)
        have k7 := En.flat_take (f := Oct.bytB) (k := 265) (fun v hv => En.bytB_len (k := 256) (h5 v hv) (by omega)) h4
        refine run ?_
        intro v1 _
        refine HT.loopX (σ := Nat × List UInt8) [2, 3, 4, 41, 42, 43, 58, 59] (fun t => [(60, okI .i64 (t.1 : Int))]) (fun t => [WX (blk v0) t.2]) (fun t => t.1 ≤ (e.attrs.getD j default).vals.length ∧ t.2 = r ++ (Oct.bytB (e.attrs.getD j default).typ ++ Oct.numB (e.attrs.getD j default).vals.length ++ ((e.attrs.getD j default).vals.take t.1).flatMap Oct.bytB)) (fun t => (e.attrs.getD j default).vals.length - t.1) (0, r ++ Oct.bytB (e.attrs.getD j default).typ ++ Oct.numB (e.attrs.getD j default).vals.length) ⟨Nat.zero_le _, by simp⟩ (run trivial) (run trivial) ?_
        rintro ⟨k, z⟩ ⟨hk, hz1⟩
        dsimp only at hk hz1 ⊢
        have k7k := k7 k
        have hzl : z.length ≤ 100000 := by rw [hz1, List.length_append, List.length_append, List.length_append]; omega
        by_cases hkt : k < (e.attrs.getD j default).vals.length
        · have h6 := h5 _ (En.getD_mem hkt)
          have h7 := En.flat_snoc Oct.bytB hkt
          refine run ?_
          intro _
          exact HX.roundX (k + 1, z ++ Oct.bytB ((e.attrs.getD j default).vals.getD k default)) ⟨⟨by dsimp only; omega, by dsimp only; rw [h7, hz1]; simp only [List.append_assoc]⟩, by dsimp only; omega⟩ rfl (run trivial) (run trivial)
        · rw [List.take_of_length_le (by omega)] at hz1
          refine run ?_
          intro _
          exact HX.roundX (j + 1, z) ⟨⟨by dsimp only; omega, by dsimp only; rw [h3, hz1, hr1, List.append_assoc]⟩, by dsimp only; omega⟩ rfl (run trivial) (run trivial)
      · rw [List.take_of_length_le (by omega)] at hr1
        have hr2 : r = En.encB e := by rw [hr1, hq1]; rfl
        rw [← hr2]
        exact run trivial
  · have hN' : En.isN e = false := by simpa using hN
    rw [if_neg hN, if_neg hN]
    clear c1 c2 c3
    rw [hN'] at c0
    refine CallsC.of Try.call11 Try.func11 rfl Try.ntmps11 rfl fun w0 G0 S0 hs ho => ?_
    exact run trivial
end Go.Proofs.Ytibabbepnhpaiaa
