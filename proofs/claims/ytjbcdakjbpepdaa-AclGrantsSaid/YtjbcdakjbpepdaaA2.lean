/-
  The contracts of acl's May and Check, and of the document's.
-/
import Derived.Test.YtjbcdakjbpepdaaA1
set_option linter.unusedVariables false
namespace Go.Ac
open Go.Vk
theorem getD_mem {l : List Rule} {i : Nat} (h : i < l.length) : l.getD i default ∈ l := by
  rw [List.getD_eq_getElem?_getD, List.getElem?_eq_getElem h]; exact List.getElem_mem h
theorem drop_cons {l : List Rule} {i : Nat} (h : i < l.length) : l.drop i = l.getD i default :: l.drop (i + 1) := by
  rw [List.drop_eq_getElem_cons h, List.getD_eq_getElem?_getD, List.getElem?_eq_getElem h]; rfl
theorem mayR_yes {l : List Rule} {i : Nat} {who target : List Dn.Ava} {typ : List UInt8} {right : Int} (h : i < l.length) (h1 : fitsB (l.getD i default) who target typ right = true) : mayR (l.drop i) who target typ right = (l.getD i default).grant := by
  rw [drop_cons h]; unfold mayR; rw [if_pos h1]
theorem mayR_no {l : List Rule} {i : Nat} {who target : List Dn.Ava} {typ : List UInt8} {right : Int} (h : i < l.length) (h1 : fitsB (l.getD i default) who target typ right = false) : mayR (l.drop i) who target typ right = mayR (l.drop (i + 1)) who target typ right := by
  conv => lhs; rw [drop_cons h]; unfold mayR
  rw [if_neg (by rw [h1]; simp)]
theorem mayR_end {l : List Rule} {i : Nat} {who target : List Dn.Ava} {typ : List UInt8} {right : Int} (h : ¬ (i : Int) < (l.length : Int)) : mayR (l.drop i) who target typ right = false := by
  rw [List.drop_eq_nil_of_le (by omega)]; rfl
theorem all_snoc {l : List Rule} {i : Nat} (h : i < l.length) (h1 : (l.take i).all isR = true) (h2 : isR (l.getD i default) = true) : (l.take (i + 1)).all isR = true := by
  rw [List.take_succ_eq_append_getElem h, List.all_append, h1]
  rw [List.getD_eq_getElem?_getD, List.getElem?_eq_getElem h] at h2
  simpa using h2
theorem all_no {l : List Rule} {i : Nat} (h : i < l.length) (h1 : isR (l.getD i default) = false) : l.all isR = false := by
  rw [List.all_eq_false]; exact ⟨_, getD_mem h, by rw [h1]; simp⟩
def ixOf (p : Rule → Bool) (l : List Rule) : Int := if l.any p = true then (l.findIdx p : Int) else -1
theorem any_snoc {p : Rule → Bool} {l : List Rule} {i : Nat} (h : i < l.length) (h1 : (l.take i).any p = false) (h2 : p (l.getD i default) = false) : (l.take (i + 1)).any p = false := by
  rw [List.take_succ_eq_append_getElem h, List.any_append, h1]
  rw [List.getD_eq_getElem?_getD, List.getElem?_eq_getElem h] at h2
  simpa using h2
theorem ixOf_none {p : Rule → Bool} {l : List Rule} (h : l.any p = false) : ixOf p l = -1 := by unfold ixOf; rw [h]; rfl
theorem ixOf_at {p : Rule → Bool} {l : List Rule} {i : Nat} (h : i < l.length) (h1 : (l.take i).any p = false) (h2 : p (l.getD i default) = true) : ixOf p l = i := by
  have h3 : p l[i] = true := by rw [List.getD_eq_getElem?_getD, List.getElem?_eq_getElem h] at h2; exact h2
  have h4 : l.any p = true := List.any_eq_true.2 ⟨l[i], List.getElem_mem h, h3⟩
  unfold ixOf
  rw [if_pos h4]
  congr 1
  rw [List.findIdx_eq h]
  refine ⟨h3, fun j hj => ?_⟩
  rw [List.any_eq_false] at h1
  have := h1 (l[j]) (List.mem_take_iff_getElem.2 ⟨j, by omega, rfl⟩)
  simpa using this
theorem ixOf_nonneg {p : Rule → Bool} {l : List Rule} : decide (0 ≤ ixOf p l) = l.any p := by
  unfold ixOf
  cases h : l.any p
  · rfl
  · simp
end Go.Ac
set_option linter.unusedVariables false
namespace Go.Proofs.Ytjbcdakjbpepdaa
open Go.Vk
attribute [local irreducible] HT HX RegS RegA RegM OpP OpC
attribute [local irreducible] Dn.typB Dn.isE Dn.sameE Dn.underE Dn.foldE Dn.wgt Ac.isR Ac.fitsB Ac.mayR
theorem ixRule {f : FuncId} {Cs : List Ty} (l : List Ac.Rule) (p : Ac.Rule → Bool) (hl : l.length ≤ 1152921504606846976) (cf : ∀ a ∈ l, CFn Try.prog f ([TAgg (Ac.cRule a)] ++ Cs) (Is (.bool (p a)))) : CFn Try.prog 40 [TSl 7 Ac.cRule l, TFn f Cs] (okI .i64 (Ac.ixOf p l)) := by
  refine CallsC.of Try.call40 Try.func40 rfl Try.ntmps40 rfl fun w0 G0 S0 hs ho => ?_
  refine run ?_
  refine HT.loopX (σ := Nat) [0, 1, 7] (fun i => [(8, okI .i64 (i : Int))]) (fun i => []) (fun i => i ≤ l.length ∧ (l.take i).any p = false) (fun i => l.length - i) 0 ⟨by omega, by simp⟩ (run trivial) (run trivial) ?_
  rintro i ⟨hi, hp⟩
  have cf' := fun (hlt : i < l.length) => cf (l.getD i default) (Ac.getD_mem hlt)
  clear cf
  refine run ?_
  refine ⟨fun h1 h2 => ?_, fun h1 h2 => ?_, fun h1 => ?_⟩
  · exact (Ac.ixOf_at (by omega) hp h2).symm
  · exact HX.roundX (i + 1) ⟨⟨by omega, Ac.any_snoc (by omega) hp h2⟩, by omega⟩ rfl (run trivial) (run trivial)
  · exact (Ac.ixOf_none (by rwa [List.take_of_length_le (by omega)] at hp)).symm
theorem anyRule {f : FuncId} {Cs : List Ty} (l : List Ac.Rule) (p : Ac.Rule → Bool) (hl : l.length ≤ 1152921504606846976) (cf : ∀ a ∈ l, CFn Try.prog f ([TAgg (Ac.cRule a)] ++ Cs) (Is (.bool (p a)))) : CFn Try.prog 24 [TSl 7 Ac.cRule l, TFn f Cs] (Is (.bool (l.any p))) := by
  have c1 := ixRule l p hl cf
  refine CallsC.of Try.call24 Try.func24 rfl Try.ntmps24 rfl fun w0 G0 S0 hs ho => ?_
  refine run ?_
  exact Ac.ixOf_nonneg
theorem acCheck (l : List Ac.Rule) (hl : l.length ≤ 1152921504606846976) (ha : ∀ a ∈ l, Ac.okR a) : CFn Try.prog 14 [TSl 7 Ac.cRule l] (Is (.bool (Ac.chkB l))) := by
  have c1 := anyRule (f := 25) (Cs := []) l (fun a => !Ac.isR a) hl (fun a h => acCheck1 a (ha a h))
  refine CallsC.of Try.call14 Try.func14 rfl Try.ntmps14 rfl fun w0 G0 S0 hs ho => ?_
  refine run ?_
  unfold Ac.chkB
  rw [List.not_any_eq_all_not]
  simp
theorem rf18Check (l : List Ac.Rule) (hl : l.length ≤ 1152921504606846976) (ha : ∀ a ∈ l, Ac.okR a) : CFn Try.prog 15 [TSl 7 Ac.cRule l] (Is (.bool (Ac.chkB l))) := by
  refine CallsC.of Try.call15 Try.func15 rfl Try.ntmps15 rfl fun w0 G0 S0 hs ho => ?_
  refine run ?_
  refine HT.loopX (σ := Nat) [0] (fun i => [(3, okI .i64 (i : Int))]) (fun _ => []) (fun i => i ≤ l.length ∧ (l.take i).all Ac.isR = true) (fun i => l.length - i) 0 ⟨by omega, by simp⟩ (run trivial) (run trivial) ?_
  rintro i ⟨hi, hp⟩
  by_cases hlt : i < l.length
  · have c1 := rf18Is _ (ha _ (Ac.getD_mem hlt))
    refine run ?_
    refine ⟨fun _ h1 => ?_, fun _ h1 => ?_⟩
    · unfold Ac.chkB; rw [Ac.all_no hlt h1]; simp
    · exact HX.roundX (i + 1) ⟨⟨by omega, Ac.all_snoc hlt hp h1⟩, by omega⟩ rfl (run trivial) (run trivial)
  · refine run ?_
    intro _
    rw [List.take_of_length_le (by omega)] at hp
    unfold Ac.chkB; rw [hp]; simp
theorem acMay (l : List Ac.Rule) (root who target : List Dn.Ava) (typ : List UInt8) (right : Int) (hri : InK .i64 right) (hl : l.length ≤ 1152921504606846976) (ha : ∀ a ∈ l, Ac.okR a) (h0 : Dn.wgt root ≤ 1500) (h1 : Dn.wgt who ≤ 1500) (h2 : Dn.wgt target ≤ 1500) (h3 : typ.length ≤ 100) : CFn Try.prog 9 [TSl 7 Ac.cRule l, TSl 2 Dn.cAva root, TSl 2 Dn.cAva who, TSl 2 Dn.cAva target, Is (str typ), okI .i64 right] (Is (.bool (Ac.mayB l root who target typ right))) := by
  have c1 := dnSame who root (by omega) (by omega)
  unfold Ac.mayB
  refine CallsC.of Try.call9 Try.func9 rfl Try.ntmps9 rfl fun w0 G0 S0 hs ho => ?_
  refine run ?_
  refine ⟨fun h => ?_, fun h => ?_⟩
  · rw [if_pos ⟨by omega, h.2⟩]
  rw [if_neg (by grind)]
  refine HT.loopX (σ := Nat) [2, 3, 4, 5, 23, 24] (fun i => [(25, okI .i64 (i : Int))]) (fun _ => []) (fun i => i ≤ l.length ∧ Ac.mayR (l.drop i) who target typ right = Ac.mayR l who target typ right) (fun i => l.length - i) 0 ⟨by omega, by simp⟩ (run trivial) (run trivial) ?_
  rintro i ⟨hi, hp⟩
  by_cases hlt : i < l.length
  · have c2 := acFits _ who target typ right hri (ha _ (Ac.getD_mem hlt)) h1 h2 h3
    refine run ?_
    and_intros
    all_goals intros
    · rename_i h5
      rw [← hp, Ac.mayR_yes hlt h5]
    · rename_i h5
      exact HX.roundX (i + 1) ⟨⟨by omega, by rw [← hp, Ac.mayR_no hlt h5]⟩, by omega⟩ rfl (run trivial) (run trivial)
  · refine run ?_
    intro h
    rw [← hp, Ac.mayR_end h]
theorem rf18May (l : List Ac.Rule) (root who target : List Dn.Ava) (typ : List UInt8) (right : Int) (hl : l.length ≤ 1152921504606846976) (ha : ∀ a ∈ l, Ac.okR a) (h0 : Dn.wgt root ≤ 1500) (h1 : Dn.wgt who ≤ 1500) (h2 : Dn.wgt target ≤ 1500) (h3 : typ.length ≤ 100) : CFn Try.prog 11 [TSl 7 Ac.cRule l, TSl 2 Dn.cAva root, TSl 2 Dn.cAva who, TSl 2 Dn.cAva target, Is (str typ), okI .i64 right] (Is (.bool (Ac.mayB l root who target typ right))) := by
  have c1 := rfSame who root (by omega) (by omega)
  unfold Ac.mayB
  refine CallsC.of Try.call11 Try.func11 rfl Try.ntmps11 rfl fun w0 G0 S0 hs ho => ?_
  refine run ?_
  refine ⟨fun h => ?_, fun h => ?_⟩
  · rw [if_pos ⟨by omega, h.2⟩]
  rw [if_neg (by grind)]
  refine HT.loopX (σ := Nat) [0, 2, 3, 4, 5] (fun i => [(13, okI .i64 (i : Int))]) (fun _ => []) (fun i => i ≤ l.length ∧ Ac.mayR (l.drop i) who target typ right = Ac.mayR l who target typ right) (fun i => l.length - i) 0 ⟨by omega, by simp⟩ (run trivial) (run trivial) ?_
  rintro i ⟨hi, hp⟩
  by_cases hlt : i < l.length
  · have c2 := rf18Fits _ who target typ right (ha _ (Ac.getD_mem hlt)) h1 h2 h3
    refine run ?_
    and_intros
    all_goals intros
    · rename_i h5
      rw [← hp, Ac.mayR_yes hlt h5]
    · rename_i h5
      exact HX.roundX (i + 1) ⟨⟨by omega, by rw [← hp, Ac.mayR_no hlt h5]⟩, by omega⟩ rfl (run trivial) (run trivial)
  · refine run ?_
    intro h
    rw [← hp, Ac.mayR_end h]
end Go.Proofs.Ytjbcdakjbpepdaa
