/-
  The contracts of Same, the program's and the document's.
-/
import Derived.Test.YtibabbepnhpaiaaD7
import Derived.Test.YtibabbepnhpaiaaL3
import Derived.Test.YtibabbepnhpaiaaN1
set_option linter.unusedVariables false
namespace Go.Proofs.Ytibabbepnhpaiaa
open Go.Vk
attribute [local irreducible] HT HX RegS RegA RegM OpP OpC AltT
theorem txtEq (l m : List (List UInt8)) (hl : l.length ≤ 1152921504606846976) : CFn Try.prog 43 [TSl 1 En.cS l, TSl 1 En.cS m] (Is (.bool (decide (l = m)))) := by
  refine CallsC.of Try.call43 Try.func43 rfl Try.ntmps43 rfl fun w0 G0 S0 hs ho => ?_
  refine run ?_
  refine ⟨?_, ?_⟩
  · intro h
    exact (decide_eq_false (fun e => h (by rw [e]))).symm
  intro hc
  refine HT.loopX (σ := Nat) [0, 1, 12] (fun i => [(13, okI .i64 (i : Int))]) (fun _ => []) (fun i => i ≤ l.length ∧ l.take i = m.take i) (fun i => l.length - i) 0 ⟨Nat.zero_le _, rfl⟩ (run trivial) (run trivial) ?_
  rintro i ⟨hi, he⟩
  have hc' : l.length = m.length := by
    have : (l.length : Int) = (m.length : Int) := Decidable.not_not.1 hc
    omega
  refine run ?_
  and_intros
  all_goals intros
  · rename_i h1 h2
    exact (decide_eq_false (fun e => h2 (by rw [e]))).symm
  · rename_i h1 h2
    exact HX.roundX (i + 1) ⟨⟨by omega, En.take_ext (by omega) hc' he (Decidable.not_not.1 h2)⟩, by omega⟩ rfl (run trivial) (run trivial)
  · rename_i h1
    exact (decide_eq_true (En.take_all h1 hc' he)).symm
theorem enSame1 (a b : En.Attr) (h : a.vals.length ≤ 1152921504606846976) : CFn Try.prog 42 [TAgg (En.cAttr a), TAgg (En.cAttr b)] (Is (.bool (decide (a = b)))) := by
  have c1 := txtEq a.vals b.vals h
  have e : decide (a = b) = (decide (a.typ = b.typ) && decide (a.vals = b.vals)) := by
    rw [← Bool.decide_and]
    exact decide_eq_decide.2 ⟨fun h => by rw [h]; exact ⟨rfl, rfl⟩, fun h => En.Attr.ext' h.1 h.2⟩
  rw [e]
  refine CallsC.of Try.call42 Try.func42 rfl Try.ntmps42 rfl fun w0 G0 S0 hs ho => ?_
  exact run trivial
theorem attrEq {f : FuncId} {Cs : List Ty} (l m : List En.Attr) (hl : l.length ≤ 1152921504606846976) (cf : ∀ a ∈ l, ∀ b, CFn Try.prog f ([TAgg (En.cAttr a), TAgg (En.cAttr b)] ++ Cs) (Is (.bool (decide (a = b))))) : CFn Try.prog 41 [TSl 2 En.cAttr l, TSl 2 En.cAttr m, TFn f Cs] (Is (.bool (decide (l = m)))) := by
  refine CallsC.of Try.call41 Try.func41 rfl Try.ntmps41 rfl fun w0 G0 S0 hs ho => ?_
  refine run ?_
  refine ⟨?_, ?_⟩
  · intro h
    exact (decide_eq_false (fun e => h (by rw [e]))).symm
  intro hc
  refine HT.loopX (σ := Nat) [1, 2, 15, 16] (fun i => [(17, okI .i64 (i : Int))]) (fun _ => []) (fun i => i ≤ l.length ∧ l.take i = m.take i) (fun i => l.length - i) 0 ⟨Nat.zero_le _, rfl⟩ (run trivial) (run trivial) ?_
  rintro i ⟨hi, he⟩
  have hc' : l.length = m.length := by
    have : (l.length : Int) = (m.length : Int) := Decidable.not_not.1 hc
    omega
  have cf' := fun (hlt : i < l.length) => cf (l.getD i default) (En.getD_mem hlt) (m.getD i default)
  clear cf
  refine run ?_
  refine ⟨fun _ _ h1 h2 => ?_, fun _ _ h1 h2 => ?_, fun h1 => ?_⟩
  · exact (decide_eq_false (fun e => h2 (by rw [e]))).symm
  · exact HX.roundX (i + 1) ⟨⟨by omega, En.take_ext (by omega) hc' he h2⟩, by omega⟩ rfl (run trivial) (run trivial)
  · exact (decide_eq_true (En.take_all h1 hc' he)).symm
theorem enSame (a b : En.Entry) (h : En.sane a) : CFn Try.prog 18 [TAgg (En.cEnt a), TAgg (En.cEnt b)] (Is (.bool (decide (a = b)))) := by
  have c1 := avaEq a.dn b.dn h.1
  have c2 := attrEq (f := 42) (Cs := []) a.attrs b.attrs h.2.2.1 (fun x hx y => enSame1 x y (h.2.2.2 x hx).2)
  have e : decide (a = b) = (decide (a.dn = b.dn) && decide (a.attrs = b.attrs)) := by
    rw [← Bool.decide_and]
    exact decide_eq_decide.2 ⟨fun h => by rw [h]; exact ⟨rfl, rfl⟩, fun h => En.Entry.ext' h.1 h.2⟩
  rw [e]
  refine CallsC.of Try.call18 Try.func18 rfl Try.ntmps18 rfl fun w0 G0 S0 hs ho => ?_
  exact run trivial
set_option maxRecDepth 8000 in
set_option maxHeartbeats 8000000 in
theorem rf20Same (a b : En.Entry) (h : En.sane a) : CFn Try.prog 8 [TAgg (En.cEnt a), TAgg (En.cEnt b)] (Is (.bool (decide (a = b)))) := by
  have hb := h.2.2.1
  have hd := h.1
  have st := Stop.mk' 11
  refine CallsC.of Try.call8 Try.func8 rfl Try.ntmps8 rfl fun w0 G0 S0 hs ho => ?_
  refine run ?_
  refine ⟨fun h1 => ?_, fun h1 => ?_⟩
  · refine (decide_eq_false (fun e => ?_)).symm
    subst e
    omega
  refine HT.loopX (σ := Nat) [2, 3] (fun i => [(5, okI .i64 (i : Int))]) (fun _ => []) (fun i => i ≤ a.dn.length ∧ a.dn.take i = b.dn.take i) (fun i => a.dn.length - i) 0 ⟨Nat.zero_le _, rfl⟩ (run trivial) (run trivial) ?_
  rintro i ⟨hi, he⟩
  have hc1 : a.dn.length = b.dn.length := by omega
  have hc2 : a.attrs.length = b.attrs.length := by omega
  refine run ?_
  simp only [Dn.avaB, decide_eq_false_iff_not, decide_eq_true_eq]
  refine ⟨fun h3 h4 => ?_, fun h3 h4 => ?_, fun h3 => ?_⟩
  · exact (decide_eq_false (fun e => h4 (by rw [e]))).symm
  · exact HX.roundX (i + 1) ⟨⟨by omega, En.take_ext (by omega) hc1 he h4⟩, by omega⟩ rfl (run trivial) (run trivial)
  have hd1 : a.dn = b.dn := En.take_all h3 hc1 he
  refine HT.loopX (σ := Nat) [2, 3] (fun i => [(6, okI .i64 (i : Int))]) (fun _ => []) (fun i => i ≤ a.attrs.length ∧ a.attrs.take i = b.attrs.take i) (fun i => a.attrs.length - i) 0 ⟨Nat.zero_le _, rfl⟩ (run trivial) (run trivial) ?_
  rintro j ⟨hj, hf⟩
  by_cases hjt : j < a.attrs.length
  · have hv := (h.2.2.2 _ (En.getD_mem hjt)).2
    refine run ?_
    intro _
    refine HT.regionT (σ := Nat × Nat) [(0,3,[]),(1,3,[]),(2,3,[]),(3,3,[]),(4,3,[]),(5,3,[]),(6,3,[]),(7,3,[]),(8,3,[]),(9,3,[])] (altT (seqT [(10,0,[]),(11,0,[]),(12,0,[]),(13,0,[])]) (seqT [(11,0,[]),(10,0,[]),(12,0,[]),(13,0,[])])) [2, 3, 6] (fun t => [(7, Is (pAt t.1 0)), (8, Is (pAt t.2 0))]) (fun t => [ownP t.1 46 (En.cAttr (a.attrs.getD j default)), ownP t.2 46 (En.cAttr (b.attrs.getD j default))]) rfl rfl rfl (by decide +kernel) (run ?_) ?_
    · exact ⟨fun v1 v2 => Met.at (blk v1, blk v2) rfl (run trivial) (run trivial), fun v1 v2 => Met.at (blk v2, blk v1) rfl (run trivial) (run trivial)⟩
    rintro ⟨g1, g2⟩
    have hne : ¬ a.attrs.getD j default = b.attrs.getD j default → false = decide (a = b) := fun h => (decide_eq_false (fun e => h (by rw [e]))).symm
    refine run ?_
    refine ⟨fun h4 => ?_, fun h4 => ?_⟩
    · refine hne fun e => ?_
      rw [e] at h4
      rcases h4 with h4 | h4 <;> exact h4 rfl
    have ht1 : (a.attrs.getD j default).typ = (b.attrs.getD j default).typ := Decidable.not_not.1 h4.1
    have ht2 : (a.attrs.getD j default).vals.length = (b.attrs.getD j default).vals.length := by have := Decidable.not_not.1 h4.2; omega
    refine HT.loopX (σ := Nat) [2, 3, 6, 7, 8] (fun k => [(9, okI .i64 (k : Int))]) (fun _ => [ownP g1 46 (En.cAttr (a.attrs.getD j default)), ownP g2 46 (En.cAttr (b.attrs.getD j default))]) (fun k => k ≤ (a.attrs.getD j default).vals.length ∧ (a.attrs.getD j default).vals.take k = (b.attrs.getD j default).vals.take k) (fun k => (a.attrs.getD j default).vals.length - k) 0 ⟨Nat.zero_le _, rfl⟩ (run trivial) (run trivial) ?_
    rintro k ⟨hk, hke⟩
    refine run ?_
    and_intros
    all_goals intros
    · rename_i h5 h6
      exact hne fun e => h6 (by rw [e])
    · rename_i h5 h6
      exact HX.roundX (k + 1) ⟨⟨by omega, En.take_ext (by omega) ht2 hke (Decidable.not_not.1 h6)⟩, by omega⟩ rfl (run trivial) (run trivial)
    · rename_i h5
      have hv2 := En.take_all h5 ht2 hke
      exact HX.roundX (j + 1) ⟨⟨by omega, En.take_ext hjt hc2 hf (En.Attr.ext' ht1 hv2)⟩, by omega⟩ rfl (run trivial) (run trivial)
  · refine run ?_
    intro h5
    exact (decide_eq_true (En.Entry.ext' hd1 (En.take_all h5 hc2 hf))).symm
end Go.Proofs.Ytibabbepnhpaiaa
