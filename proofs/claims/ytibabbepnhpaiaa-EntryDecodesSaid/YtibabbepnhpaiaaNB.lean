/-
  The law EntryDecodes, walked through.
-/
import Derived.Test.YtibabbepnhpaiaaNA
import Derived.Test.YtibabbepnhpaiaaN4
set_option linter.unusedVariables false
namespace Go.Proofs.Ytibabbepnhpaiaa
open Go.Vk
attribute [local irreducible] HT HX RegS RegA RegM OpP OpC AltT
theorem known_en : En.isN En.empE = true ∧ En.encB En.empE = [0, 0] := by
  constructor
  · rfl
  · unfold En.encB En.empE
    simp only [List.length_nil, List.flatMap_nil, List.append_nil, List.nil_append]
    rw [Oct.numB_lt (by decide)]
    rfl
theorem sane_emp : En.sane En.empE := by unfold En.sane En.empE; simp
theorem lwKnown : CFn Try.prog 9 [] (Is (.bool true)) := by
  have c1 := enEncode En.empE sane_emp
  rw [known_en.1, known_en.2, if_pos rfl, if_pos rfl] at c1
  refine CallsC.of Try.call9 Try.func9 rfl Try.ntmps9 rfl fun w0 G0 S0 hs ho => ?_
  exact run trivial
attribute [local irreducible] En.okD En.decN
theorem lwDecodes (s : List UInt8) (hl : s.length ≤ 140737488351232) : CFn Try.prog 3 [Is (str s)] (Is (.bool true)) := by
  have c1 := enDecode s
  have c2 := rf20Decode s
  have c4 := lwKnown
  have c3 := fun h : s.length ≤ 1000000 => rf20Same (if En.okD s = true then En.decN s else En.empE) (if En.okD s = true then En.decN s else En.empE) (by
    split
    · exact En.decN_sane h
    · exact sane_emp)
  refine CallsC.of Try.call3 Try.func3 rfl Try.ntmps3 rfl fun w0 G0 S0 hs ho => ?_
  exact run trivial
end Go.Proofs.Ytibabbepnhpaiaa
