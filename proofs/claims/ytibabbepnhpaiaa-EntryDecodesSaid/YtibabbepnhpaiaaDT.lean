/-
  The laws of chapter 13 whose plain side is that both tell the same.
-/
import Derived.Test.YtibabbepnhpaiaaDS
import Derived.Test.YtibabbepnhpaiaaVc
import Derived.KernelRfl
set_option linter.unusedVariables false
namespace Go.Dn
open Go.Vk
def kS : List UInt8 := [99, 110, 61, 97, 92, 44, 98, 32, 44, 32, 79, 32, 61, 32, 120, 32, 121]
def kL : List Ava := [⟨[99, 110], [97, 44, 98]⟩, ⟨[79], [120, 32, 121]⟩]
def kT : List UInt8 := [99, 110, 61, 97, 92, 44, 98, 44, 79, 61, 120, 32, 121]
theorem kParse : parseE kS = (kL, 0) := by decide +kernel
theorem kWgt : wgt kL = 11 := by decide +kernel
theorem parseE_len (s : List UInt8) : (parseE s).1.length ≤ 12 := by
  unfold parseE
  split
  · simp
  · split
    · simp
    · split
      · rename_i l _ h
        simp only [isE, Bool.and_eq_true, decide_eq_true_eq] at h
        dsimp only; omega
      · simp
theorem wgt_nil : wgt [] = 0 := rfl
theorem sameE_refl (l : List Ava) : sameE l l = true := decide_eq_true rfl
theorem underE_drop (l : List Ava) (k : Nat) (h : k ≤ l.length) : underE l (l.drop k) = true := by
  unfold underE
  rw [List.length_drop, show l.length - (l.length - k) = k by omega, sameE_refl]
  simp
theorem underE_refl (l : List Ava) : underE l l = true := underE_drop l 0 (Nat.zero_le _)
theorem underE_nil (l : List Ava) : underE l [] = true := by
  have := underE_drop l l.length (Nat.le_refl _)
  rwa [List.drop_length] at this
theorem underE_drop1 (l : List Ava) : underE l (l.drop 1) = true := by
  cases l with
  | nil => exact underE_refl []
  | cons a l => exact underE_drop (a :: l) 1 (by simp)
theorem kPrint : printE kL = kT := by decide +kernel
end Go.Dn
set_option linter.unusedVariables false
namespace Go.Proofs.Ytibabbepnhpaiaa
open Go.Vk
attribute [local irreducible] HT HX RegS RegA RegM OpP OpC AltT
attribute [local irreducible] Dn.tellR Dn.tellC Dn.tellE Dn.printR Dn.printC Dn.printE Dn.foldR Dn.foldE Dn.normE Dn.normA Dn.sameE Dn.underE Dn.parseE Dn.isE Dn.typB Dn.wgt
theorem wgt_of {l : List Dn.Ava} (h : ¬ 1000 < Dn.wgt l) : Dn.wgt l ≤ 1048576 := by omega
theorem opnAva : Opn Try.prog 53 Dn.cAva (fun a => a.typ.length ≤ 140737488351232 ∧ a.val.length ≤ 140737488351232) :=
  (Opn.struct Try.underlying53 (by kernel_rfl) (OpnF.cons rfl (Opn.str Try.underlying9 (by kernel_rfl)) (OpnF.cons rfl (Opn.str Try.underlying9 (by kernel_rfl)) (OpnF.nil _)))).map
    (fun p => ⟨p.1, p.2.1⟩) (fun a => by kernel_rfl) (fun p => rfl) (fun p h => ⟨h.1, h.2.1⟩)
theorem opnAvas : Opn Try.prog 22 (cL 2 Dn.cAva) (fun l => l.length ≤ 140737488351232 ∧ ∀ a ∈ l, a.typ.length ≤ 140737488351232 ∧ a.val.length ≤ 140737488351232) := by
  have h := Opn.slice opnAva Try.underlying22 (by kernel_rfl) (by kernel_rfl)
  rw [show Try.prog.cellsOf 53 = 2 by kernel_rfl] at h
  have hb : Try.prog.bytesOf 53 = 32 := by kernel_rfl
  exact h.map id (fun l => by rw [show Try.prog.cellsOf 22 = 1 by kernel_rfl]; rfl) (fun _ => rfl) (fun l hl => ⟨by have := reach_le hl.1; rw [hb] at this; show l.length ≤ _; omega, hl.2⟩)
end Go.Proofs.Ytibabbepnhpaiaa
