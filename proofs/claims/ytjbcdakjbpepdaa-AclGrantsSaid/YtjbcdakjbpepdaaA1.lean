/-
  The contracts of acl and of the document's acl.
-/
import Derived.Test.YtjbcdakjbpepdaaA0
import Derived.Test.YtjbcdakjbpepdaaDS
set_option linter.unusedVariables false
namespace Go.Proofs.Ytjbcdakjbpepdaa
open Go.Vk
attribute [local irreducible] HT HX RegS RegA RegM OpP OpC
attribute [local irreducible] Dn.typB Dn.isE Dn.sameE Dn.underE Dn.foldE Dn.wgt
theorem wgt_mem {l : List Dn.Ava} {a : Dn.Ava} (h : a ∈ l) : a.typ.length ≤ Dn.wgt l ∧ a.val.length ≤ Dn.wgt l := by
  obtain ⟨i, hi, e⟩ := List.getElem_of_mem h
  have := Dn.wgt_at hi
  rw [List.getD_eq_getElem?_getD, List.getElem?_eq_getElem hi] at this
  simp only [Option.getD_some, e] at this
  omega
theorem dnIsW (l : List Dn.Ava) (hw : Dn.wgt l ≤ 1048576) : CFn Try.prog 20 [TSl 2 Dn.cAva l] (Is (.bool (Dn.isE l))) :=
  dnIsF l (by have := Dn.wgt_len l; omega) (fun a h => by have := wgt_mem h; omega)
theorem rfIsW (l : List Dn.Ava) (hw : Dn.wgt l ≤ 1048576) : CFn Try.prog 22 [TSl 2 Dn.cAva l] (Is (.bool (Dn.isE l))) :=
  rfIs l (by have := Dn.wgt_len l; omega) (fun a h => by have := wgt_mem h; omega)
set_option maxHeartbeats 1000000 in
theorem acIs (r : Ac.Rule) (hr : Ac.okR r) : CFn Try.prog 12 [TAgg (Ac.cRule r)] (Is (.bool (Ac.isR r))) := by
  obtain ⟨h1, h2, h3⟩ := hr
  have c1 := dnIsW r.name (by omega)
  have c2 := dnIsW r.base (by omega)
  have c3 := dnType r.typ (by omega)
  refine CallsC.of Try.call12 Try.func12 rfl Try.ntmps12 rfl fun w0 G0 S0 hs ho => ?_
  refine run ?_
  and_intros
  all_goals intros
  all_goals grind [Ac.isR]
theorem rf18Is (r : Ac.Rule) (hr : Ac.okR r) : CFn Try.prog 13 [TAgg (Ac.cRule r)] (Is (.bool (Ac.isR r))) := by
  obtain ⟨h1, h2, h3⟩ := hr
  have c1 := rfIsW r.name (by omega)
  have c2 := rfIsW r.base (by omega)
  have c3 := rfType r.typ (by omega)
  refine CallsC.of Try.call13 Try.func13 rfl Try.ntmps13 rfl fun w0 G0 S0 hs ho => ?_
  refine run ?_
  grind [Ac.isR]
theorem acCheck1 (r : Ac.Rule) (hr : Ac.okR r) : CFn Try.prog 25 [TAgg (Ac.cRule r)] (Is (.bool (!Ac.isR r))) := by
  have c1 := acIs r hr
  refine CallsC.of Try.call25 Try.func25 rfl Try.ntmps25 rfl fun w0 G0 S0 hs ho => ?_
  exact run trivial
theorem acFor (r : Ac.Rule) (who target : List Dn.Ava) (hr : Ac.okR r) (h1 : Dn.wgt who ≤ 1500) (h2 : Dn.wgt target ≤ 1500) : CFn Try.prog 28 [TAgg (Ac.cRule r), TSl 2 Dn.cAva who, TSl 2 Dn.cAva target] (Is (.bool (Ac.forB r who target))) := by
  have c1 := dnSame who target (by omega) (by omega)
  have c2 := dnSame who r.name (by omega) (by have := hr.1; omega)
  refine CallsC.of Try.call28 Try.func28 rfl Try.ntmps28 rfl fun w0 G0 S0 hs ho => ?_
  refine run ?_
  unfold Ac.forB
  and_intros
  all_goals intros
  all_goals grind
theorem rf18For (r : Ac.Rule) (who target : List Dn.Ava) (hr : Ac.okR r) (hw : 0 ≤ r.who ∧ r.who ≤ 3) (h1 : Dn.wgt who ≤ 1500) (h2 : Dn.wgt target ≤ 1500) : CFn Try.prog 32 [TAgg (Ac.cRule r), TSl 2 Dn.cAva who, TSl 2 Dn.cAva target] (Is (.bool (Ac.forB r who target))) := by
  have c1 := rfSame who target (by omega) (by omega)
  have c2 := rfSame who r.name (by omega) (by have := hr.1; omega)
  refine CallsC.of Try.call32 Try.func32 rfl Try.ntmps32 rfl fun w0 G0 S0 hs ho => ?_
  refine run ?_
  unfold Ac.forB
  and_intros
  all_goals intros
  all_goals grind
set_option maxHeartbeats 2000000 in
theorem acFits (r : Ac.Rule) (who target : List Dn.Ava) (typ : List UInt8) (right : Int) (hri : InK .i64 right) (hr : Ac.okR r) (h1 : Dn.wgt who ≤ 1500) (h2 : Dn.wgt target ≤ 1500) (h3 : typ.length ≤ 100) : CFn Try.prog 17 [TAgg (Ac.cRule r), TSl 2 Dn.cAva who, TSl 2 Dn.cAva target, Is (str typ), okI .i64 right] (Is (.bool (Ac.fitsB r who target typ right))) := by
  have c0 := acIs r hr
  have c1 := acFor r who target hr h1 h2
  have c2 := dnSame target r.base (by omega) (by have := hr.2.1; omega)
  have c3 := dnUnder target r.base (by omega) (by have := hr.2.1; omega)
  have c4 := dnFold r.typ (by have := hr.2.2; omega)
  have c5 := dnFold typ (by omega)
  have hb := Ac.and15_bd right hri
  have hn := fun h => Ac.rgt_no (n := right) h
  have hm := fun h => Ac.rgt_bd (n := right) h
  refine CallsC.of Try.call17 Try.func17 rfl Try.ntmps17 rfl fun w0 G0 S0 hs ho => ?_
  refine run ?_
  and_intros
  all_goals intros
  all_goals grind [Ac.fitsB]
set_option maxHeartbeats 2000000 in
theorem rf18Fits (r : Ac.Rule) (who target : List Dn.Ava) (typ : List UInt8) (right : Int) (hr : Ac.okR r) (h1 : Dn.wgt who ≤ 1500) (h2 : Dn.wgt target ≤ 1500) (h3 : typ.length ≤ 100) : CFn Try.prog 19 [TAgg (Ac.cRule r), TSl 2 Dn.cAva who, TSl 2 Dn.cAva target, Is (str typ), okI .i64 right] (Is (.bool (Ac.fitsB r who target typ right))) := by
  have c0 := rf18Is r hr
  have c1 := fun (h : 0 ≤ r.who ∧ r.who ≤ 3) => rf18For r who target hr h h1 h2
  have c2 := rfSame target r.base (by omega) (by have := hr.2.1; omega)
  have c3 := rfUnder target r.base (by omega) (by have := hr.2.1; omega)
  have c4 := rfFold r.typ (by have := hr.2.2; omega)
  have c5 := rfFold typ (by omega)
  refine CallsC.of Try.call19 Try.func19 rfl Try.ntmps19 rfl fun w0 G0 S0 hs ho => ?_
  refine run ?_
  and_intros
  all_goals intros
  all_goals grind [Ac.fitsB, Ac.rgtB, Ac.isR]
end Go.Proofs.Ytjbcdakjbpepdaa
