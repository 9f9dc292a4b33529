/-
  The contracts of entry.Is and of the document's.
-/
import Derived.Test.YtibabbepnhpaiaaDT
import Derived.Test.YtibabbepnhpaiaaN0
set_option linter.unusedVariables false
namespace Go.Proofs.Ytibabbepnhpaiaa
open Go.Vk
attribute [local irreducible] HT HX RegS RegA RegM OpP OpC AltT
attribute [local irreducible] Dn.typB Dn.isE Dn.okA
theorem ixTxt {f : FuncId} {Cs : List Ty} (l : List (List UInt8)) (p : List UInt8 → Bool) (hl : l.length ≤ 1152921504606846976) (cf : ∀ a ∈ l, CFn Try.prog f ([Is (str a)] ++ Cs) (Is (.bool (p a)))) : CFn Try.prog 63 [TSl 1 En.cS l, TFn f Cs] (okI .i64 (En.ixOf p l)) := by
  refine CallsC.of Try.call63 Try.func63 rfl Try.ntmps63 rfl fun w0 G0 S0 hs ho => ?_
  refine run ?_
  refine HT.loopX (σ := Nat) [0, 1, 7] (fun i => [(8, okI .i64 (i : Int))]) (fun i => []) (fun i => i ≤ l.length ∧ (l.take i).any p = false) (fun i => l.length - i) 0 ⟨by omega, by simp⟩ (run trivial) (run trivial) ?_
  rintro i ⟨hi, hp⟩
  have cf' := fun (hlt : i < l.length) => cf (l.getD i default) (En.getD_mem hlt)
  clear cf
  refine run ?_
  refine ⟨fun h1 h2 => ?_, fun h1 h2 => ?_, fun h1 => ?_⟩
  · exact (En.ixOf_at (by omega) hp h2).symm
  · exact HX.roundX (i + 1) ⟨⟨by omega, En.any_snoc (by omega) hp h2⟩, by omega⟩ rfl (run trivial) (run trivial)
  · exact (En.ixOf_none (by rwa [List.take_of_length_le (by omega)] at hp)).symm
theorem anyTxt {f : FuncId} {Cs : List Ty} (l : List (List UInt8)) (p : List UInt8 → Bool) (hl : l.length ≤ 1152921504606846976) (cf : ∀ a ∈ l, CFn Try.prog f ([Is (str a)] ++ Cs) (Is (.bool (p a)))) : CFn Try.prog 57 [TSl 1 En.cS l, TFn f Cs] (Is (.bool (l.any p))) := by
  have c1 := ixTxt l p hl cf
  refine CallsC.of Try.call57 Try.func57 rfl Try.ntmps57 rfl fun w0 G0 S0 hs ho => ?_
  refine run ?_
  exact En.ixOf_nonneg
theorem ixAttr {f : FuncId} {Cs : List Ty} (l : List En.Attr) (p : En.Attr → Bool) (hl : l.length ≤ 1152921504606846976) (cf : ∀ a ∈ l, CFn Try.prog f ([TAgg (En.cAttr a)] ++ Cs) (Is (.bool (p a)))) : CFn Try.prog 56 [TSl 2 En.cAttr l, TFn f Cs] (okI .i64 (En.ixOf p l)) := by
  refine CallsC.of Try.call56 Try.func56 rfl Try.ntmps56 rfl fun w0 G0 S0 hs ho => ?_
  refine run ?_
  refine HT.loopX (σ := Nat) [0, 1, 7] (fun i => [(8, okI .i64 (i : Int))]) (fun i => []) (fun i => i ≤ l.length ∧ (l.take i).any p = false) (fun i => l.length - i) 0 ⟨by omega, by simp⟩ (run trivial) (run trivial) ?_
  rintro i ⟨hi, hp⟩
  have cf' := fun (hlt : i < l.length) => cf (l.getD i default) (En.getD_mem hlt)
  clear cf
  refine run ?_
  refine ⟨fun h1 h2 => ?_, fun h1 h2 => ?_, fun h1 => ?_⟩
  · exact (En.ixOf_at (by omega) hp h2).symm
  · exact HX.roundX (i + 1) ⟨⟨by omega, En.any_snoc (by omega) hp h2⟩, by omega⟩ rfl (run trivial) (run trivial)
  · exact (En.ixOf_none (by rwa [List.take_of_length_le (by omega)] at hp)).symm
theorem anyAttr {f : FuncId} {Cs : List Ty} (l : List En.Attr) (p : En.Attr → Bool) (hl : l.length ≤ 1152921504606846976) (cf : ∀ a ∈ l, CFn Try.prog f ([TAgg (En.cAttr a)] ++ Cs) (Is (.bool (p a)))) : CFn Try.prog 33 [TSl 2 En.cAttr l, TFn f Cs] (Is (.bool (l.any p))) := by
  have c1 := ixAttr l p hl cf
  refine CallsC.of Try.call33 Try.func33 rfl Try.ntmps33 rfl fun w0 G0 S0 hs ho => ?_
  refine run ?_
  exact En.ixOf_nonneg
theorem enVal1 (v : List UInt8) : CFn Try.prog 58 [Is (str v)] (Is (.bool (decide (256 < (v.length : Int))))) := by
  refine CallsC.of Try.call58 Try.func58 rfl Try.ntmps58 rfl fun w0 G0 S0 hs ho => ?_
  exact run trivial
theorem enIsAttr (a : En.Attr) (h : a.typ.length ≤ 1152921504606846976 ∧ a.vals.length ≤ 1152921504606846976) : CFn Try.prog 35 [TAgg (En.cAttr a)] (Is (.bool (En.okT a))) := by
  have c1 := dnType
  have c2 := anyTxt (f := 58) (Cs := []) a.vals (fun v => decide (256 < (v.length : Int))) h.2 (fun a _ => enVal1 a)
  rw [En.okT_any]
  refine CallsC.of Try.call35 Try.func35 rfl Try.ntmps35 rfl fun w0 G0 S0 hs ho => ?_
  exact run trivial
theorem enIs1 (a : En.Attr) (h : a.typ.length ≤ 1152921504606846976 ∧ a.vals.length ≤ 1152921504606846976) : CFn Try.prog 34 [TAgg (En.cAttr a)] (Is (.bool (!En.okT a))) := by
  have c1 := enIsAttr a h
  refine CallsC.of Try.call34 Try.func34 rfl Try.ntmps34 rfl fun w0 G0 S0 hs ho => ?_
  exact run trivial
theorem enIs (e : En.Entry) (h : En.sane e) : CFn Try.prog 13 [TAgg (En.cEnt e)] (Is (.bool (En.isN e))) := by
  have c1 := dnIsF e.dn h.1 h.2.1
  have c2 := anyAttr (f := 34) (Cs := []) e.attrs (fun a => !En.okT a) h.2.2.1 (fun a ha => enIs1 a (h.2.2.2 a ha))
  rw [En.isN_any]
  refine CallsC.of Try.call13 Try.func13 rfl Try.ntmps13 rfl fun w0 G0 S0 hs ho => ?_
  exact run trivial
end Go.Proofs.Ytibabbepnhpaiaa
