/-
  The contracts of octet's Reader and of the document's reader.
-/
import Derived.Test.YtibabbepnhpaiaaO1
set_option linter.unusedVariables false
namespace Go.Proofs.Ytibabbepnhpaiaa
open Go.Vk
attribute [local irreducible] HT HX RegS RegA RegM OpP OpC AltT
/-- A Reader: what is left; whether it erred. -/
abbrev QX (g : Nat) (l : List UInt8) (b : Bool) : Res := ownP g 76 [TBytes l, Is (.bool b)]
abbrev EX (g : Nat) (l : List UInt8) (b : Bool) : Res := ownP g 57 [TBytes l, Is (.bool b)]
theorem rdNew (l : List UInt8) (hl : l.length ≤ 134217728) : CallsC Try.prog 20 [TBytes l] [] (fun v => Is (pAt (blk v) 0)) (fun v => [QX (blk v) l false]) := by
  have c1 := wrClone
  have mu := Mut.mk' [6]
  refine CallsC.of Try.call20 Try.func20 rfl Try.ntmps20 rfl fun w0 G0 S0 hs ho => ?_
  exact run trivial
theorem rdGood (g : Nat) (l : List UInt8) (b : Bool) : CallsC Try.prog 22 [Is (pAt g 0)] [QX g l b] (fun _ => Is (.bool (!b))) (fun _ => [QX g l b]) := by
  refine CallsC.of Try.call22 Try.func22 rfl Try.ntmps22 rfl fun w0 G0 S0 hs ho => ?_
  refine run ?_
  simp
theorem rdGoodC (l : List UInt8) (b : Bool) : CFn Try.prog 22 [TPc [TBytes l, Is (.bool b)]] (Is (.bool (!b))) := by
  refine CallsC.of Try.call22 Try.func22 rfl Try.ntmps22 rfl fun w0 G0 S0 hs ho => ?_
  refine run ?_
  simp
theorem rdBad (g : Nat) (l : List UInt8) (b : Bool) : CallsC Try.prog 48 [Is (pAt g 0)] [QX g l b] (fun _ => TTup []) (fun _ => [QX g [] true]) := by
  refine CallsC.of Try.call48 Try.func48 rfl Try.ntmps48 rfl fun w0 G0 S0 hs ho => ?_
  exact run trivial
theorem rdRaw (g : Nat) (l : List UInt8) (b : Bool) (n : Int) (hl : l.length ≤ 134217728) : CallsC Try.prog 49 [Is (pAt g 0), okI .i64 n] [QX g l b] (fun _ => TBytes (Oct.rawV l n)) (fun _ => [QX g (Oct.rawT l n) (Oct.rawE l n b)]) := by
  have c1 := wrClone
  have c2 := rdBad
  refine CallsC.of Try.call49 Try.func49 rfl Try.ntmps49 rfl fun w0 G0 S0 hs ho => ?_
  by_cases h : n < 0 ∨ (l.length : Int) < n
  · obtain ⟨e1, e2, e3⟩ := Oct.raw_no h b
    rw [e1, e2, e3]
    exact run trivial
  · obtain ⟨e1, e2, e3⟩ := Oct.raw_yes h b
    rw [e1, e2, e3]
    refine run ?_
    and_intros
    all_goals (intro h'; exfalso; grind)
attribute [local irreducible] Oct.rdF Oct.numV Oct.numT Oct.numE Oct.rawV Oct.rawT Oct.rawE orU shlU
set_option maxHeartbeats 4000000 in
theorem rdNum (g : Nat) (l : List UInt8) (b : Bool) (hl : l.length ≤ 134217728) : CallsC Try.prog 21 [Is (pAt g 0)] [QX g l b] (fun _ => okI .i64 (Oct.numV l)) (fun _ => [QX g (Oct.numT l) (Oct.numE l b)]) := by
  have c2 := rdBad
  refine CallsC.of Try.call21 Try.func21 rfl Try.ntmps21 rfl fun w0 G0 S0 hs ho => ?_
  refine run ?_
  intro _
  refine HT.loopX (σ := Nat × Int) [0, 11, 12] (fun t => [(2, Is (.int .i64 0)), (3, okI .u64 t.2), (13, okI .i64 (t.1 : Int))]) (fun t => [QX g l b]) (fun t => t.1 ≤ l.length ∧ Oct.rdF t.1 t.2 (l.drop t.1) = Oct.rdF 0 0 l ∧ 0 ≤ t.2 ∧ t.2 < 18446744073709551616) (fun t => l.length - t.1) (0, 0) ⟨Nat.zero_le _, rfl, by decide⟩ (run trivial) (run trivial) ?_
  rintro ⟨i, u⟩ ⟨hi, he, hu⟩
  dsimp only at hi he hu ⊢
  have hor := Oct.orU_bd u (shlU ((l.getD i 0 &&& b8 127).toNat : Int) (7 * (i : Int)))
  refine run ?_
  and_intros
  all_goals intros
  all_goals (first
    | exact HX.roundX (i + 1, orU u (shlU ((l.getD i 0 &&& b8 127).toNat : Int) (7 * (i : Int)))) ⟨⟨by dsimp only; omega, (Oct.rd_next (by omega) (by omega) (by assumption)).symm.trans he, hor⟩, by dsimp only; omega⟩ rfl (run trivial) (run trivial)
    | exact Oct.noneV (he.symm.trans (Oct.rd_end (by omega)))
    | exact Oct.noneT (he.symm.trans (Oct.rd_end (by omega)))
    | exact Oct.noneE (he.symm.trans (Oct.rd_end (by omega)))
    | exact Oct.noneV (he.symm.trans (Oct.rd_no (by omega) (by omega)))
    | exact Oct.noneT (he.symm.trans (Oct.rd_no (by omega) (by omega)))
    | exact Oct.noneE (he.symm.trans (Oct.rd_no (by omega) (by omega)))
    | exact Oct.someV (he.symm.trans (Oct.rd_good (by omega) (by omega) (by assumption) (by assumption)))
    | exact Oct.someT (he.symm.trans (Oct.rd_good (by omega) (by omega) (by assumption) (by assumption))) (by rw [show ((i : Int) + 1).toNat = i + 1 by omega])
    | exact Oct.someE (he.symm.trans (Oct.rd_good (by omega) (by omega) (by assumption) (by assumption))))
theorem rdBytes (g : Nat) (l : List UInt8) (b : Bool) (hl : l.length ≤ 134217728) : CallsC Try.prog 23 [Is (pAt g 0)] [QX g l b] (fun _ => TBytes (Oct.bytV l)) (fun _ => [QX g (Oct.bytT l) (Oct.bytE l b)]) := by
  have c1 := rdNum
  have c2 := rdRaw
  have ht := Oct.numT_len l
  unfold Oct.bytV Oct.bytT Oct.bytE
  refine CallsC.of Try.call23 Try.func23 rfl Try.ntmps23 rfl fun w0 G0 S0 hs ho => ?_
  exact run trivial
theorem rfBad (g : Nat) (l : List UInt8) (b : Bool) : CallsC Try.prog 51 [Is (pAt g 0)] [EX g l b] (fun _ => TTup []) (fun _ => [EX g [] true]) := by
  refine CallsC.of Try.call51 Try.func51 rfl Try.ntmps51 rfl fun w0 G0 S0 hs ho => ?_
  exact run trivial
theorem rfRaw (g : Nat) (l : List UInt8) (b : Bool) (n : Int) (hb : b = true → l = []) (hl : l.length ≤ 134217728) : CallsC Try.prog 50 [Is (pAt g 0), okI .i64 n] [EX g l b] (fun _ => TBytes (Oct.rawV l n)) (fun _ => [EX g (Oct.rawT l n) (Oct.rawE l n b)]) := by
  have c2 := rfBad
  refine CallsC.of Try.call50 Try.func50 rfl Try.ntmps50 rfl fun w0 G0 S0 hs ho => ?_
  by_cases h : n < 0 ∨ (l.length : Int) < n
  · obtain ⟨e1, e2, e3⟩ := Oct.raw_no h b
    rw [e1, e2, e3]
    exact run trivial
  · obtain ⟨e1, e2, e3⟩ := Oct.raw_yes h b
    rw [e1, e2, e3]
    cases b with
    | true =>
      have := hb rfl
      subst this
      refine run ?_
      simp
    | false =>
      refine run ?_
      intros
      rfl
set_option maxHeartbeats 4000000 in
theorem rfNumR (g : Nat) (l : List UInt8) (b : Bool) (hb : b = true → l = []) (hl : l.length ≤ 134217728) : CallsC Try.prog 25 [Is (pAt g 0)] [EX g l b] (fun _ => okI .i64 (Oct.numV l)) (fun _ => [EX g (Oct.numT l) (Oct.numE l b)]) := by
  have c2 := rfBad
  refine CallsC.of Try.call25 Try.func25 rfl Try.ntmps25 rfl fun w0 G0 S0 hs ho => ?_
  refine run ?_
  refine HT.loopX (σ := Nat × Int) [0] (fun t => [(2, Is (.int .i64 0)), (3, okI .u64 t.2), (4, okI .i64 (t.1 : Int))]) (fun t => [EX g (l.drop t.1) b]) (fun t => t.1 ≤ 9 ∧ Oct.rdF t.1 t.2 (l.drop t.1) = Oct.rdF 0 0 l ∧ 0 ≤ t.2 ∧ t.2 < 18446744073709551616) (fun t => 10 - t.1) (0, 0) ⟨Nat.zero_le _, rfl, by decide⟩ (run ?_) (run trivial) ?_
  · rfl
  rintro ⟨i, u⟩ ⟨hi, he, hu⟩
  dsimp only at hi he hu ⊢
  have hor := Oct.orU_bd u (shlU ((l.getD i 0 &&& b8 127).toNat : Int) (7 * (i : Int)))
  have hn := Oct.or_nine (i := (i : Int)) (c := l.getD i 0) hu
  have hbd : b = true → l.drop i = [] := fun h => by rw [hb h]; simp
  have c1 := rfRaw g (l.drop i) b 1 hbd (by rw [List.length_drop]; omega)
  by_cases hlt : i < l.length
  · have hb0 : b = false := by
      cases b with
      | false => rfl
      | true => exfalso; rw [hb rfl] at hlt; simp at hlt
    subst hb0
    obtain ⟨e1, e2, e3⟩ := Oct.raw_one hlt false
    rw [e1, e2, e3] at c1
    have hor2 := Oct.orU_bd u (shlU (([l.getD i 0].getD 0 0 &&& b8 127).toNat : Int) (7 * (i : Int)))
    refine run ?_
    simp only [List.getD_cons_zero]
    and_intros
    all_goals intros
    all_goals (first
      | exact HX.roundX (i + 1, orU u (shlU ((l.getD i 0 &&& b8 127).toNat : Int) (7 * (i : Int)))) ⟨⟨by dsimp only; omega, (Oct.rd_next (by omega) (by omega) (by omega)).symm.trans he, hor⟩, by dsimp only; omega⟩ rfl (run trivial) (run trivial)
      | exact Oct.noneV (he.symm.trans (Oct.rd_no (by omega) (by omega)))
      | exact Oct.noneT (he.symm.trans (Oct.rd_no (by omega) (by omega)))
      | exact Oct.noneE (he.symm.trans (Oct.rd_no (by omega) (by omega)))
      | exact Oct.someV (he.symm.trans (Oct.rd_good (by omega) (by omega) (by omega) (by omega)))
      | exact Oct.someT (he.symm.trans (Oct.rd_good (by omega) (by omega) (by omega) (by omega))) rfl
      | exact Oct.someE (he.symm.trans (Oct.rd_good (by omega) (by omega) (by omega) (by omega))))
  · obtain ⟨e1, e2, e3⟩ := Oct.raw_end hlt b
    rw [e1, e2, e3] at c1
    have hz := he.symm.trans (Oct.rd_end hlt)
    refine run ?_
    exact ⟨fun _ _ => Oct.noneT hz, fun _ _ => Oct.noneE hz, fun _ _ => Oct.noneV hz⟩
end Go.Proofs.Ytibabbepnhpaiaa
