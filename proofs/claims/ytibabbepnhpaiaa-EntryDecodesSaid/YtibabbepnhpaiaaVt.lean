/-
  From a contract to a law's walk: the whole heap as the call finds it is the persistent heap. Nothing here speaks of a program; no conditions.
-/
import Derived.Test.YtibabbepnhpaiaaVs
import Derived.ProofKit
set_option linter.unusedVariables false
namespace Go.Vk
def heapImm (w : World) : Imm := fun b o => w.cell? ⟨b, o, none⟩
theorem heapImm.sat (w : World) : Sat (heapImm w) w := fun _ _ _ h => h
theorem law_of {P : Program} {f : FuncId} {A : List Ty} (h : CFn P f A (Is (.bool true))) (vs : List Value) (w : World) (ha : ArgsT (heapImm w) A vs) : Calls P f vs.toArray w fun e w' => e = .returned (.bool true) ∧ RowKit.Below w.heap.size w w' := by
  refine (h.calls vs w (heapImm w) _ (heapImm.sat w) (Owns.none _ w) ha).mono ?_
  rintro e w' ⟨v, G', S', rfl, hext, -, -, hT⟩
  cases hT
  exact ⟨rfl, ⟨hext.os, hext.tape, hext.output, hext.size, fun k hk => (hext.blk k hk (fun ⟨_, z⟩ => z)).1⟩⟩
theorem wf_u8 {n : Int} (h : (Lit.int .u8 n).wf = true) : 0 ≤ n ∧ n ≤ 255 := by
  simp [Lit.wf, IntKind.min, IntKind.max, IntKind.bits, IntKind.signed] at h; omega
theorem wf_i64 {n : Int} (h : (Lit.int .i64 n).wf = true) : -9223372036854775808 ≤ n ∧ n ≤ 9223372036854775807 := by
  simp [Lit.wf, IntKind.min, IntKind.max, IntKind.bits, IntKind.signed] at h; omega
end Go.Vk
