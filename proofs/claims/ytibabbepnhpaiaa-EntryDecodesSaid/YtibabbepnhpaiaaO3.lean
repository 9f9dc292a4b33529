/-
  The contract of the document's Reader.Bytes.
-/
import Derived.Test.YtibabbepnhpaiaaO2
set_option linter.unusedVariables false
namespace Go.Proofs.Ytibabbepnhpaiaa
open Go.Vk
attribute [local irreducible] HT HX RegS RegA RegM OpP OpC AltT
attribute [local irreducible] Oct.numV Oct.numT Oct.numE Oct.rawV Oct.rawT Oct.rawE
theorem rfBytesR (g : Nat) (l : List UInt8) (b : Bool) (hb : b = true → l = []) (hl : l.length ≤ 134217728) : CallsC Try.prog 26 [Is (pAt g 0)] [EX g l b] (fun _ => TBytes (Oct.bytV l)) (fun _ => [EX g (Oct.bytT l) (Oct.bytE l b)]) := by
  have c1 := rfNumR g l b hb hl
  have ht := Oct.numT_len l
  have hn := Oct.numE_nil hb
  have c2 := fun n => rfRaw g (Oct.numT l) (Oct.numE l b) n hn (by omega)
  unfold Oct.bytV Oct.bytT Oct.bytE
  refine CallsC.of Try.call26 Try.func26 rfl Try.ntmps26 rfl fun w0 G0 S0 hs ho => ?_
  cases he : Oct.numE l b with
  | true =>
    have h0 := hn he
    have h1 : Oct.numV l = 0 := Oct.numV_of he hb
    have h2 := Oct.raw_nil
    rw [he] at c1 c2
    rw [h0, h1]
    rw [h0] at c1
    rw [h1] at c1
    refine run ?_
    exact ⟨fun _ => h2.2.1.symm, fun _ => (h2.2.2 true).symm, fun _ => h2.1.symm⟩
  | false =>
    rw [he] at c1 c2
    exact run trivial
end Go.Proofs.Ytibabbepnhpaiaa
