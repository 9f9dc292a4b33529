/-
  The laws of chapter 13 whose plain side is that both tell the same.
-/
import Derived.Test.YtahbeeakfbchlaaDS
import Derived.Test.YtahbeeakfbchlaaVc
import Derived.KernelRfl
set_option linter.unusedVariables false
namespace Go.Dn
open Go.Vk
def kS : List UInt8 := [99, 110, 61, 97, 92, 44, 98, 32, 44, 32, 79, 32, 61, 32, 120, 32, 121]
def kL : List Ava := [⟨[99, 110], [97, 44, 98]⟩, ⟨[79], [120, 32, 121]⟩]
def kT : List UInt8 := [99, 110, 61, 97, 92, 44, 98, 44, 79, 61, 120, 32, 121]
theorem kParse : parseE kS = (kL, 0) := by decide +kernel
theorem kWgt : wgt kL = 11 := by decide +kernel
theorem parseE_len (s : List UInt8) : (parseE s).1.length ≤ 12 := by
  unfold parseE
  split
  · simp
  · split
    · simp
    · split
      · rename_i l _ h
        simp only [isE, Bool.and_eq_true, decide_eq_true_eq] at h
        dsimp only; omega
      · simp
theorem wgt_nil : wgt [] = 0 := rfl
theorem sameE_refl (l : List Ava) : sameE l l = true := decide_eq_true rfl
theorem underE_drop (l : List Ava) (k : Nat) (h : k ≤ l.length) : underE l (l.drop k) = true := by
  unfold underE
  rw [List.length_drop, show l.length - (l.length - k) = k by omega, sameE_refl]
  simp
theorem underE_refl (l : List Ava) : underE l l = true := underE_drop l 0 (Nat.zero_le _)
theorem underE_nil (l : List Ava) : underE l [] = true := by
  have := underE_drop l l.length (Nat.le_refl _)
  rwa [List.drop_length] at this
theorem underE_drop1 (l : List Ava) : underE l (l.drop 1) = true := by
  cases l with
  | nil => exact underE_refl []
  | cons a l => exact underE_drop (a :: l) 1 (by simp)
theorem kPrint : printE kL = kT := by decide +kernel
end Go.Dn
set_option linter.unusedVariables false
namespace Go.Proofs.Ytahbeeakfbchlaa
open Go.Vk
attribute [local irreducible] HT HX RegS RegA RegM OpP OpC
attribute [local irreducible] Dn.tellR Dn.tellC Dn.tellE Dn.printR Dn.printC Dn.printE Dn.foldR Dn.foldE Dn.normE Dn.normA Dn.sameE Dn.underE Dn.parseE Dn.isE Dn.typB Dn.wgt
set_option maxHeartbeats 2000000 in
theorem lwKnown : CFn Try.prog 16 [] (Is (.bool true)) := by
  have c1 := dnParse Dn.kS (by decide)
  rw [Dn.kParse] at c1
  have c2 := lwNames Dn.kL Dn.kL (by decide)
  have c3 := dnPrint Dn.kL (by rw [Dn.kWgt]; omega)
  rw [Dn.kPrint] at c3
  unfold Dn.kS at c1
  unfold Dn.kT Dn.kL at c3
  unfold Dn.kL at c1 c2
  refine CallsC.of Try.call16 Try.func16 rfl Try.ntmps16 rfl fun w0 G0 S0 hs ho => ?_
  exact run trivial
set_option maxHeartbeats 2000000 in
theorem dnParses (s : List UInt8) : CFn Try.prog 6 [Is (str s)] (Is (.bool true)) := by
  have c0 := lwKnown
  have c1 := dnParse
  have c2 := rfParse
  have c3 := lwNames
  have c4 := dnType
  have c5 := rfType
  have c6 := dnFold
  have c7 := rfFold
  refine CallsC.of Try.call6 Try.func6 rfl Try.ntmps6 rfl fun w0 G0 S0 hs ho => ?_
  refine run ?_
  have := Dn.parseE_len s
  refine ⟨fun _ _ => by omega, fun _ => by simp⟩
theorem wgt_of {l : List Dn.Ava} (h : ¬ 1000 < Dn.wgt l) : Dn.wgt l ≤ 1048576 := by omega
theorem dnPrints (l : List Dn.Ava) (hl : l.length ≤ 140737488351232) (ha : ∀ a ∈ l, a.typ.length ≤ 140737488351232 ∧ a.val.length ≤ 140737488351232) : CFn Try.prog 8 [TSl 2 Dn.cAva l] (Is (.bool true)) := by
  have c0 := lwKnown
  have c1 := lwHeavy l hl ha
  have c2 := dnPrint l
  have c3 := rfPrint l
  have c4 := dnIsF l (by omega) (fun a h => by have := ha a h; omega)
  have c5 := rfIs l (by omega) (fun a h => by have := ha a h; omega)
  have c6 := dnNorm l
  have c7 := rfNorm l
  have c8 := lwNames
  have c9 := dnUp l
  have c10 := rfUp l
  have hw := Dn.wgt_len l
  have hn : (Dn.normE l).length = l.length := by unfold Dn.normE; rw [List.length_map]
  refine CallsC.of Try.call8 Try.func8 rfl Try.ntmps8 rfl fun w0 G0 S0 hs ho => ?_
  refine run ?_
  intro _
  simp
theorem dnAlike (l m : List Dn.Ava) (hl : l.length ≤ 140737488351232) (ha : ∀ a ∈ l, a.typ.length ≤ 140737488351232 ∧ a.val.length ≤ 140737488351232) (hm : m.length ≤ 140737488351232) (hb : ∀ a ∈ m, a.typ.length ≤ 140737488351232 ∧ a.val.length ≤ 140737488351232) : CFn Try.prog 9 [TSl 2 Dn.cAva l, TSl 2 Dn.cAva m] (Is (.bool true)) := by
  have c0 := lwKnown
  have c1 := lwHeavy
  have c2 := dnSame
  have c3 := rfSame
  have c4 := dnUnder
  have c5 := rfUnder
  have c9 := dnUp l
  have hw := Dn.wgt_len l
  have hw1 := Dn.wgt_drop l 1
  have hw2 := Dn.wgt_nil
  refine CallsC.of Try.call9 Try.func9 rfl Try.ntmps9 rfl fun w0 G0 S0 hs ho => ?_
  refine run ?_
  intro _
  rw [Dn.sameE_refl, Dn.underE_refl, Dn.underE_nil, Dn.underE_drop1]; simp
/-! ### arguments -/
theorem opnAva : Opn Try.prog 31 Dn.cAva (fun a => a.typ.length ≤ 140737488351232 ∧ a.val.length ≤ 140737488351232) :=
  (Opn.struct Try.underlying31 (by kernel_rfl) (OpnF.cons rfl (Opn.str Try.underlying9 (by kernel_rfl)) (OpnF.cons rfl (Opn.str Try.underlying9 (by kernel_rfl)) (OpnF.nil _)))).map
    (fun p => ⟨p.1, p.2.1⟩) (fun a => by kernel_rfl) (fun p => rfl) (fun p h => ⟨h.1, h.2.1⟩)
theorem opnAvas : Opn Try.prog 22 (cL 2 Dn.cAva) (fun l => l.length ≤ 140737488351232 ∧ ∀ a ∈ l, a.typ.length ≤ 140737488351232 ∧ a.val.length ≤ 140737488351232) := by
  have h := Opn.slice opnAva Try.underlying22 (by kernel_rfl) (by kernel_rfl)
  rw [show Try.prog.cellsOf 31 = 2 by kernel_rfl] at h
  have hb : Try.prog.bytesOf 31 = 32 := by kernel_rfl
  exact h.map id (fun l => by rw [show Try.prog.cellsOf 22 = 1 by kernel_rfl]; rfl) (fun _ => rfl) (fun l hl => ⟨by have := reach_le hl.1; rw [hb] at this; show l.length ≤ _; omega, hl.2⟩)
end Go.Proofs.Ytahbeeakfbchlaa
