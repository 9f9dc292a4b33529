/-
  The law BerAlls, for all arguments; All and the document's All.
  The contracts of msg's items: apart, is, take, num; and of Decode, at an unbind.
  The contracts of Decode, and of a connection, at an unbind in two pieces.
  The contracts of a connection: New, Open, Close, Waiting, Who, Bind, and Take at an unbind in two pieces.
  Requests as bytes: the plain functions; the contracts of the program's texts, attr, attrs, mods.
  Filters as bytes: the plain functions; the contracts of the program's pieces and filters.
  The contracts of the program's Is of filters.
  The contract of the program's Is of filters: every filter, however deep.
  The contract of the program's Is of filters: And, Or, Not.
-/
import Derived.Test.YtkpghepeagafoaaGreatJao
import Derived.Test.YtkpghepeagafoaaGreatJal
import Derived.Test.YtkpghepeagafoaaGreatJam
import Derived.Test.YtkpghepeagafoaaGreatJan
set_option linter.unusedSimpArgs false
set_option linter.unusedVariables false
set_option linter.unusedVariables false
namespace Go.Ber
open Go.Vk
abbrev It := UInt8 × List UInt8
def cIt (x : It) : List Ty := [okI .u8 (x.1.toNat : Int), TBytes x.2]
/-- All tags and bodies, one behind the other; the error. -/
def allE : Nat → List UInt8 → List It → List It × Int
  | 0, _, l => (l, 0)
  | k + 1, b, l => if b.length = 0 then (l, 0) else if (nextB b).e = 0 then allE k (nextB b).rest (l ++ [((nextB b).tag, (nextB b).body)]) else ([], (nextB b).e)
theorem allE_end {k : Nat} {b : List UInt8} {l : List It} (h : b.length = 0) : allE k b l = (l, 0) := by
  cases k
  · rfl
  · unfold allE; rw [if_pos h]
theorem allE_bad {k : Nat} {b : List UInt8} {l : List It} (h : ¬ b.length = 0) (h1 : ¬ (nextB b).e = 0) : allE (k + 1) b l = ([], (nextB b).e) := by
  unfold allE; rw [if_neg h, if_neg h1]
theorem allE_go {k : Nat} {b : List UInt8} {l : List It} (h : ¬ b.length = 0) (h1 : (nextB b).e = 0) : allE (k + 1) b l = allE k (nextB b).rest (l ++ [((nextB b).tag, (nextB b).body)]) := by
  conv => lhs; unfold allE
  rw [if_neg h, if_pos h1]
theorem allE_len : ∀ (k : Nat) (b : List UInt8) (l : List It), (allE k b l).1.length ≤ l.length + b.length
  | 0, b, l => by show l.length ≤ _; omega
  | k + 1, b, l => by
    have h := nextB_len b
    unfold allE
    split
    · dsimp only; omega
    · split
      · rename_i h1
        have := allE_len k (nextB b).rest (l ++ [((nextB b).tag, (nextB b).body)])
        have h2 := h.2.2 h1
        simp only [List.length_append, List.length_cons, List.length_nil] at this
        omega
      · simp
end Go.Ber
set_option maxRecDepth 8000
set_option linter.unusedVariables false
namespace Go.Proofs.YtkpghepeagafoaaGreat
open Go.Vk
attribute [local irreducible] HT HX RegS RegA RegM OpP OpC AltT
attribute [local irreducible] Ber.lenB Ber.tagB Ber.nextB Ber.allE
set_option maxHeartbeats 1000000 in
theorem all (b : List UInt8) (hl : b.length ≤ 134217728) : CFn Tryz.prog 73 [TBytes b] (TTup [TSl 2 Ber.cIt (Ber.allE b.length b []).1, okI .i64 (Ber.allE b.length b []).2]) := by
  have c1 := @next
  have c2 := @clone
  refine CallsC.of Tryz.call73 Tryz.func73 rfl Tryz.ntmps73 rfl fun w0 G0 S0 hs ho => ?_
  refine run ?_
  refine HT.loopX (σ := (Nat × List UInt8) × List Ber.It × Value) [] (fun t => [(0, TBytes t.1.2), (4, TAnd (Is t.2.2) (TSl 2 Ber.cIt t.2.1))]) (fun t => [ownSl t.2.2 2 126]) (fun t => Ber.allE t.1.1 t.1.2 t.2.1 = Ber.allE b.length b [] ∧ t.1.2.length ≤ t.1.1 ∧ t.2.1.length + t.1.2.length ≤ b.length) (fun t => t.1.2.length) ((b.length, b), [], .slice none 0 0) ⟨rfl, by simp, by simp⟩ (run trivial) (run trivial) ?_
  rintro ⟨⟨k, c⟩, l, v⟩ ⟨h1, h2, h3⟩
  dsimp only at h1 h2 h3 ⊢
  have hn := Ber.nextB_len c
  by_cases h0 : c.length = 0
  · rw [Ber.allE_end h0] at h1
    rw [← h1]
    exact run trivial
  · obtain ⟨k, rfl⟩ : ∃ j, k = j + 1 := ⟨k - 1, by omega⟩
    by_cases h5 : (Ber.nextB c).e = 0
    · rw [Ber.allE_go h0 h5] at h1
      have hn2 := hn.2.2 h5
      refine run ?_
      intro v' _ _
      exact HX.roundX ((k, (Ber.nextB c).rest), l ++ [((Ber.nextB c).tag, (Ber.nextB c).body)], v') ⟨⟨h1, by dsimp only; omega, by simp; omega⟩, by dsimp only; omega⟩ rfl (run trivial) (run trivial)
    · rw [Ber.allE_bad h0 h5] at h1
      rw [← h1]
      exact run trivial
set_option maxHeartbeats 1000000 in
theorem refAll (b : List UInt8) (hl : b.length ≤ 134217728) : CFn Tryz.prog 50 [TBytes b] (TTup [TSl 2 Ber.cIt (Ber.allE b.length b []).1, okI .i64 (Ber.allE b.length b []).2]) := by
  have c1 := @refNext
  refine CallsC.of Tryz.call50 Tryz.func50 rfl Tryz.ntmps50 rfl fun w0 G0 S0 hs ho => ?_
  refine run ?_
  refine HT.loopX (σ := (Nat × List UInt8) × List Ber.It × Value) [] (fun t => [(0, TBytes t.1.2), (4, TAnd (Is t.2.2) (TSl 2 Ber.cIt t.2.1))]) (fun t => [ownSl t.2.2 2 108]) (fun t => Ber.allE t.1.1 t.1.2 t.2.1 = Ber.allE b.length b [] ∧ t.1.2.length ≤ t.1.1 ∧ t.2.1.length + t.1.2.length ≤ b.length) (fun t => t.1.2.length) ((b.length, b), [], .slice none 0 0) ⟨rfl, by simp, by simp⟩ (run trivial) (run trivial) ?_
  rintro ⟨⟨k, c⟩, l, v⟩ ⟨h1, h2, h3⟩
  dsimp only at h1 h2 h3 ⊢
  have hn := Ber.nextB_len c
  by_cases h0 : c.length = 0
  · rw [Ber.allE_end h0] at h1
    rw [← h1]
    exact run trivial
  · obtain ⟨k, rfl⟩ : ∃ j, k = j + 1 := ⟨k - 1, by omega⟩
    by_cases h5 : (Ber.nextB c).e = 0
    · rw [Ber.allE_go h0 h5] at h1
      have hn2 := hn.2.2 h5
      refine run ?_
      intro v' _ _
      exact HX.roundX ((k, (Ber.nextB c).rest), l ++ [((Ber.nextB c).tag, (Ber.nextB c).body)], v') ⟨⟨h1, by dsimp only; omega, by simp; omega⟩, by dsimp only; omega⟩ rfl (run trivial) (run trivial)
    · rw [Ber.allE_bad h0 h5] at h1
      rw [← h1]
      exact run trivial
end Go.Proofs.YtkpghepeagafoaaGreat
set_option linter.unusedVariables false
namespace Go.Ms
open Go.Vk
/-- Whether an item of a tag is next. -/
def isI : List Ber.It → Bool → UInt8 → Bool
  | [], _, _ => false
  | x :: _, bad, t => !bad && decide (x.1 = t)
/-- What is taken; what is left. -/
def takeI : List Ber.It → Bool → UInt8 → List UInt8 × List Ber.It × Bool
  | [], _, _ => ([], [], true)
  | x :: r, bad, t => if bad = false ∧ x.1 = t then (x.2, r, bad) else ([], x :: r, true)
theorem takeI_is {l : List Ber.It} {bad : Bool} {t : UInt8} (h : isI l bad t = true) : bad = false ∧ ∃ x r, l = x :: r ∧ x.1 = t ∧ takeI l bad t = (x.2, r, false) := by
  cases l with
  | nil => cases h
  | cons x r =>
    unfold isI at h
    simp only [Bool.and_eq_true, Bool.not_eq_true', decide_eq_true_eq] at h
    obtain ⟨h1, h2⟩ := h
    subst h1
    exact ⟨rfl, x, r, rfl, h2, if_pos ⟨rfl, h2⟩⟩
theorem takeI_no {l : List Ber.It} {bad : Bool} {t : UInt8} (h : isI l bad t = false) : takeI l bad t = ([], l, true) := by
  cases l with
  | nil => rfl
  | cons x r =>
    unfold isI at h
    refine if_neg ?_
    intro hh
    have h' : (!bad && decide (x.1 = t)) = false := h
    rw [hh.1, decide_eq_true hh.2] at h'
    exact absurd h' (by simp)
def numI (l : List Ber.It) (bad : Bool) (t : UInt8) : Int × List Ber.It × Bool := ((Ber.fromIntB (takeI l bad t).1).1, (takeI l bad t).2.1, (takeI l bad t).2.2 || decide ((Ber.fromIntB (takeI l bad t).1).2 ≠ 0))
theorem u8_i {a b : UInt8} : ((a.toNat : Int) = (b.toNat : Int)) ↔ a = b := ⟨fun h => UInt8.toNat_inj.1 (by omega), fun h => by rw [h]⟩
end Go.Ms
set_option maxRecDepth 8000
set_option linter.unusedVariables false
namespace Go.Proofs.YtkpghepeagafoaaGreat
open Go.Vk
attribute [local irreducible] HT HX RegS RegA RegM OpP OpC AltT
attribute [local irreducible] Ber.tagB Ber.lenB Ber.intB Ber.allE Ber.fromIntB Ber.nextB
abbrev IX (g : Nat) (l : List Ber.It) (bad : Bool) : Res := ownP g 100 [TSl 2 Ber.cIt l, Is (.bool bad)]
theorem miApart (b : List UInt8) (hb : b.length ≤ 134217728) : CallsC Tryz.prog 44 [TBytes b] [] (fun v => Is (pAt (blk v) 0)) (fun v => [IX (blk v) (Ber.allE b.length b []).1 (decide ((Ber.allE b.length b []).2 ≠ 0))]) := by
  have c1 := all b hb
  have mu := Mut.mk' [14]
  refine CallsC.of Tryz.call44 Tryz.func44 rfl Tryz.ntmps44 rfl fun w0 G0 S0 hs ho => ?_
  exact run trivial
theorem miIs (g : Nat) (l : List Ber.It) (bad : Bool) (t : UInt8) : CallsC Tryz.prog 47 [Is (pAt g 0), okI .u8 (t.toNat : Int)] [IX g l bad] (fun _ => Is (.bool (Ms.isI l bad t))) (fun _ => [IX g l bad]) := by
  refine CallsC.of Tryz.call47 Tryz.func47 rfl Tryz.ntmps47 rfl fun w0 G0 S0 hs ho => ?_
  refine run ?_
  cases l with
  | nil => simp [Ms.isI]
  | cons x r =>
    have hx : ((x.1.toNat : Int) = (t.toNat : Int)) ↔ x.1 = t := Ms.u8_i
    have e : Ms.isI (x :: r) bad t = (!bad && decide (x.1 = t)) := rfl
    rw [e, List.getD_cons_zero]
    have : decide ((x.1.toNat : Int) = (t.toNat : Int)) = decide (x.1 = t) := decide_eq_decide.2 hx
    rw [this]
    simp
theorem miTake (g : Nat) (l : List Ber.It) (bad : Bool) (t : UInt8) (hl : l.length ≤ 134217728) : CallsC Tryz.prog 48 [Is (pAt g 0), okI .u8 (t.toNat : Int)] [IX g l bad] (fun _ => TBytes (Ms.takeI l bad t).1) (fun _ => [IX g (Ms.takeI l bad t).2.1 (Ms.takeI l bad t).2.2]) := by
  have c1 := miIs g l bad t
  cases h : Ms.isI l bad t with
  | true =>
    obtain ⟨rfl, x, r, rfl, hx, e⟩ := Ms.takeI_is h
    rw [e]
    rw [h] at c1
    refine CallsC.of Tryz.call48 Tryz.func48 rfl Tryz.ntmps48 rfl fun w0 G0 S0 hs ho => ?_
    refine run ?_
    exact ⟨fun _ => rfl, fun _ => rfl⟩
  | false =>
    rw [Ms.takeI_no h]
    rw [h] at c1
    refine CallsC.of Tryz.call48 Tryz.func48 rfl Tryz.ntmps48 rfl fun w0 G0 S0 hs ho => ?_
    exact run trivial
theorem miNum (g : Nat) (l : List Ber.It) (bad : Bool) (t : UInt8) (hl : l.length ≤ 134217728) : CallsC Tryz.prog 45 [Is (pAt g 0), okI .u8 (t.toNat : Int)] [IX g l bad] (fun _ => okI .i64 (Ms.numI l bad t).1) (fun _ => [IX g (Ms.numI l bad t).2.1 (Ms.numI l bad t).2.2]) := by
  have c1 := miTake g l bad t hl
  have c2 := fromInt (Ms.takeI l bad t).1
  unfold Ms.numI
  generalize Ms.takeI l bad t = y at c1 c2 ⊢
  generalize Ber.fromIntB y.1 = z at c2 ⊢
  refine CallsC.of Tryz.call45 Tryz.func45 rfl Tryz.ntmps45 rfl fun w0 G0 S0 hs ho => ?_
  exact run trivial
end Go.Proofs.YtkpghepeagafoaaGreat
set_option linter.unusedVariables false
namespace Go.Ss
open Go.Vk
theorem next0 : Ber.nextB [48, 5, 2, 1, 1, 66, 0] = ⟨48, [2, 1, 1, 66, 0], [], 0⟩ := by rfl
end Go.Ss
set_option maxRecDepth 8000
set_option linter.unusedVariables false
namespace Go.Proofs.YtkpghepeagafoaaGreat
open Go.Vk
attribute [local irreducible] HT HX RegS RegA RegM OpP OpC AltT
attribute [local irreducible] Ber.tagB Ber.lenB Ber.intB Ber.allE Ber.fromIntB Ber.nextB
theorem msIs0 : CFn Tryz.prog 49 [TAgg (Ms.zReq 1 2)] (Is (.bool true)) := by
  have c1 := msEncode0
  refine CallsC.of Tryz.call49 Tryz.func49 rfl Tryz.ntmps49 rfl fun w0 G0 S0 hs ho => ?_
  exact run trivial
theorem miRequest0 (g g2 : Nat) : CallsC Tryz.prog 46 [Is (pAt g 0), Is (pAt g2 0)] [IX g [(66, [])] false, ownP g2 49 (Ms.zReq 1 0)] (fun _ => TTup []) (fun _ => [IX g [] false, ownP g2 49 (Ms.zReq 1 2)]) := by
  have c1 : CallsC Tryz.prog 48 [Is (pAt g 0), okI .u8 66] [IX g [(66, [])] false] (fun _ => TBytes []) (fun _ => [IX g [] false]) := miTake g [(66, [])] false 66 (by decide)
  obtain ⟨l, hl⟩ : ∃ l : List Ber.It, l = [(66, [])] := ⟨_, rfl⟩
  have f1 : l.length = 1 := by rw [hl]; rfl
  have f2 : ((l.getD 0 default).1.toNat : Int) = 66 := by rw [hl]; rfl
  have f3 : ((l.getD (nat_lit 0) default).1.toNat : Int) = 66 := f2
  have c2 : CallsC Tryz.prog 48 [Is (pAt g 0), okI .u8 ((l.getD 0 default).1.toNat : Int)] [IX g l false] (fun _ => TBytes []) (fun _ => [IX g [] false]) := by rw [f2, hl]; exact c1
  rw [← hl]
  clear c1 hl
  refine CallsC.of Tryz.call46 Tryz.func46 rfl Tryz.ntmps46 rfl fun w0 G0 S0 hs ho => ?_
  exact run trivial
theorem msDecode0 : CFn Tryz.prog 25 [TBytes [48, 5, 2, 1, 1, 66, 0]] (TTup [TAgg (Ms.zReq 1 2), okI .i64 0]) := by
  have c1 := nextP [48, 5, 2, 1, 1, 66, 0] (by decide)
  rw [Ss.next0] at c1
  dsimp only at c1
  have n1 : Ber.allE ([2, 1, 1, 66, 0] : List UInt8).length [2, 1, 1, 66, 0] [] = ([(2, [1]), (66, [])], 0) := by decide +kernel
  have c2 := miApart [2, 1, 1, 66, 0] (by decide)
  rw [n1] at c2
  dsimp only at c2
  have n2 : Ms.numI [(2, [1]), (66, [])] false 2 = (1, [(66, [])], false) := by decide +kernel
  have c3 := fun g => miNum g [(2, [1]), (66, [])] false 2 (by decide)
  rw [n2] at c3
  dsimp only at c3
  have c4 := miRequest0
  have c5 : ∀ g, CallsC Tryz.prog 47 [Is (pAt g 0), okI .u8 160] [IX g [] false] (fun _ => Is (.bool false)) (fun _ => [IX g [] false]) := fun g => miIs g [] false 160
  have c6 := msIs0
  have mu := Mut.mk' [8]
  refine CallsC.of Tryz.call25 Tryz.func25 rfl Tryz.ntmps25 rfl fun w0 G0 S0 hs ho => ?_
  refine run ?_
  refine ⟨?_, ?_, ?_⟩ <;> (intro _ _ _ _ _ h; exact absurd h (by decide))
end Go.Proofs.YtkpghepeagafoaaGreat
set_option linter.unusedVariables false
namespace Go.Ss
open Go.Vk
abbrev nilS : Ty := Is (.slice none 0 0)
abbrev cR1 (_ : Unit) : List Ty := Ms.zReq 1 2
def half1 : List UInt8 := [48, 5, 2, 1, 1]
def half2 : List UInt8 := [66, 0]
theorem fr1 : Ms.frameB half1 = (0, 0) := by decide +kernel
theorem fr2 : Ms.frameB [48, 5, 2, 1, 1, 66, 0] = (7, 0) := by decide +kernel
end Go.Ss
set_option maxRecDepth 8000
set_option linter.unusedVariables false
namespace Go.Proofs.YtkpghepeagafoaaGreat
open Go.Vk
attribute [local irreducible] HT HX RegS RegA RegM OpP OpC AltT
attribute [local irreducible] Ber.tagB Ber.lenB Ber.intB Ber.allE Ber.fromIntB Ber.nextB Ms.frameB
abbrev SX (g : Nat) (o : Bool) (W T : Ty) : Res := ownP g 52 [Is (.bool o), W, T]
theorem seNew : CallsC Tryz.prog 6 [] [] (fun v => Is (pAt (blk v) 0)) (fun v => [SX (blk v) true (TSl 2 Dn.cAva []) (TBytes [])]) := by
  have mu := Mut.mk' [2]
  refine CallsC.of Tryz.call6 Tryz.func6 rfl Tryz.ntmps6 rfl fun w0 G0 S0 hs ho => ?_
  exact run trivial
theorem seOpen (g : Nat) (o : Bool) (W T : Ty) : CallsC Tryz.prog 10 [Is (pAt g 0)] [SX g o W T] (fun _ => Is (.bool o)) (fun _ => [SX g o W T]) := by
  refine CallsC.of Tryz.call10 Tryz.func10 rfl Tryz.ntmps10 rfl fun w0 G0 S0 hs ho => ?_
  refine run ?_
  simp
theorem seOpenN : CFn Tryz.prog 10 [Is (.pointer none)] (Is (.bool false)) := by
  have su := Sure.mk' [6, 7, 8, 9]
  refine CallsC.of Tryz.call10 Tryz.func10 rfl Tryz.ntmps10 rfl fun w0 G0 S0 hs ho => ?_
  refine run ?_
  rfl
theorem seClose (g : Nat) (o : Bool) (W T : Ty) : CallsC Tryz.prog 16 [Is (pAt g 0)] [SX g o W T] (fun _ => TTup []) (fun _ => [SX g false W Ss.nilS]) := by
  refine CallsC.of Tryz.call16 Tryz.func16 rfl Tryz.ntmps16 rfl fun w0 G0 S0 hs ho => ?_
  exact run trivial
theorem seCloseN : CFn Tryz.prog 16 [Is (.pointer none)] (TTup []) := by
  refine CallsC.of Tryz.call16 Tryz.func16 rfl Tryz.ntmps16 rfl fun w0 G0 S0 hs ho => ?_
  exact run trivial
theorem seWaiting (g : Nat) (o : Bool) (W : Ty) : CallsC Tryz.prog 11 [Is (pAt g 0)] [SX g o W Ss.nilS] (fun _ => okI .i64 0) (fun _ => [SX g o W Ss.nilS]) := by
  refine CallsC.of Tryz.call11 Tryz.func11 rfl Tryz.ntmps11 rfl fun w0 G0 S0 hs ho => ?_
  exact run trivial
theorem seWaitingN : CFn Tryz.prog 11 [Is (.pointer none)] (okI .i64 0) := by
  refine CallsC.of Tryz.call11 Tryz.func11 rfl Tryz.ntmps11 rfl fun w0 G0 S0 hs ho => ?_
  exact run trivial
theorem seTakeN (p : List UInt8) : CFn Tryz.prog 7 [Is (.pointer none), TBytes p] (TTup [Ss.nilS, Is (.bool false)]) := by
  have c1 := seOpenN
  refine CallsC.of Tryz.call7 Tryz.func7 rfl Tryz.ntmps7 rfl fun w0 G0 S0 hs ho => ?_
  exact run trivial
theorem seTakeC (g : Nat) (W T : Ty) (p : List UInt8) : CallsC Tryz.prog 7 [Is (pAt g 0), TBytes p] [SX g false W T] (fun _ => TTup [Ss.nilS, Is (.bool false)]) (fun _ => [SX g false W T]) := by
  have c1 := seOpen g false W T
  refine CallsC.of Tryz.call7 Tryz.func7 rfl Tryz.ntmps7 rfl fun w0 G0 S0 hs ho => ?_
  exact run trivial
theorem seNext1 (g : Nat) (W : Ty) : CallsC Tryz.prog 15 [Is (pAt g 0)] [SX g true W (TBytes Ss.half1)] (fun _ => TTup [TAgg (Ms.zReq 0 0), Is (.bool false), Is (.bool false)]) (fun _ => [SX g true W (TBytes Ss.half1)]) := by
  have c1 := msFrame Ss.half1 (by decide)
  rw [Ss.fr1] at c1
  dsimp only at c1
  refine CallsC.of Tryz.call15 Tryz.func15 rfl Tryz.ntmps15 rfl fun w0 G0 S0 hs ho => ?_
  exact run trivial
theorem seNext2 (g : Nat) (W : Ty) : CallsC Tryz.prog 15 [Is (pAt g 0)] [SX g true W (TBytes [48, 5, 2, 1, 1, 66, 0])] (fun _ => TTup [TAgg (Ms.zReq 1 2), Is (.bool true), Is (.bool false)]) (fun _ => [SX g true W (TBytes [])]) := by
  have c1 := msFrame [48, 5, 2, 1, 1, 66, 0] (by decide)
  rw [Ss.fr2] at c1
  dsimp only at c1
  have c2 := msDecode0
  refine CallsC.of Tryz.call15 Tryz.func15 rfl Tryz.ntmps15 rfl fun w0 G0 S0 hs ho => ?_
  refine run ?_
  intros; rfl
theorem seTake1 (g : Nat) : CallsC Tryz.prog 7 [Is (pAt g 0), TBytes Ss.half1] [SX g true (TSl 2 Dn.cAva []) (TBytes [])] (fun _ => TTup [TSl 21 Ss.cR1 [], Is (.bool false)]) (fun _ => [SX g true (TSl 2 Dn.cAva []) (TBytes Ss.half1)]) := by
  have c1 := seOpen g true (TSl 2 Dn.cAva []) (TBytes [])
  have c2 := bConcat [[], Ss.half1] (by decide) (by decide) (by decide)
  have e : ([[], Ss.half1] : List (List UInt8)).flatten = Ss.half1 := rfl
  rw [e] at c2
  have c3 := seNext1 g (TSl 2 Dn.cAva [])
  refine CallsC.of Tryz.call7 Tryz.func7 rfl Tryz.ntmps7 rfl fun w0 G0 S0 hs ho => ?_
  refine run ?_
  intro _
  refine HT.loopX (σ := Unit) [0] (fun t => [(6, TSl 21 Ss.cR1 [])]) (fun t => [SX g true (TSl 2 Dn.cAva []) (TBytes Ss.half1)]) (fun t => True) (fun t => 0) () trivial (run trivial) (run trivial) ?_
  clear c1 c2
  intro _ _
  exact run trivial
theorem seTake2 (g : Nat) : CallsC Tryz.prog 7 [Is (pAt g 0), TBytes Ss.half2] [SX g true (TSl 2 Dn.cAva []) (TBytes Ss.half1)] (fun _ => TTup [TSl 21 Ss.cR1 [()], Is (.bool false)]) (fun _ => [SX g false (TSl 2 Dn.cAva []) Ss.nilS]) := by
  have c1 := seOpen g true (TSl 2 Dn.cAva []) (TBytes Ss.half1)
  have c2 := bConcat [Ss.half1, Ss.half2] (by decide) (by decide) (by decide)
  have e : ([Ss.half1, Ss.half2] : List (List UInt8)).flatten = [48, 5, 2, 1, 1, 66, 0] := rfl
  rw [e] at c2
  have c3 := seNext2 g (TSl 2 Dn.cAva [])
  have c4 := seClose g true (TSl 2 Dn.cAva []) (TBytes [])
  refine CallsC.of Tryz.call7 Tryz.func7 rfl Tryz.ntmps7 rfl fun w0 G0 S0 hs ho => ?_
  refine run ?_
  intro _
  refine HT.loopX (σ := (Bool × List Unit × Ty) × Value) [0] (fun t => [(6, TAnd (Is t.2) (TSl 21 Ss.cR1 t.1.2.1))]) (fun t => [SX g t.1.1 (TSl 2 Dn.cAva []) t.1.2.2, ownSl t.2 21 49]) (fun t => (t.1 = (true, [], TBytes [48, 5, 2, 1, 1, 66, 0]) ∨ t.1 = (false, [()], Ss.nilS))) (fun t => if t.1.1 then 1 else 0) ((true, [], TBytes [48, 5, 2, 1, 1, 66, 0]), .slice none 0 0) (.inl rfl) (run trivial) (run trivial) ?_
  clear c1 c2
  rintro ⟨⟨o, l, T⟩, w⟩ hh
  dsimp only at hh ⊢
  rcases hh with hh | hh
  · cases hh
    refine run ?_
    intro v0 v1 _ _ _ _
    exact HX.roundX ((false, [()], Ss.nilS), v1) ⟨.inr rfl, by simp⟩ rfl (run trivial) (run trivial)
  · cases hh
    clear c3 c4
    exact run trivial
theorem lwKnown26 : CFn Tryz.prog 12 [] (Is (.bool true)) := by
  have c1 := seNew
  have c2 := seTake1
  unfold Ss.half1 at c2
  have su := Sure.mk' [25, 26, 29, 30, 31, 34, 35, 38, 39, 40, 41, 42, 45, 46, 47]
  have st := Stop.mk' 5
  refine CallsC.of Tryz.call12 Tryz.func12 rfl Tryz.ntmps12 rfl fun w0 G0 S0 hs ho => ?_
  refine run ?_
  intro v0 _
  refine HTs.mk ?_
  clear st c1 c2
  have c3 := seTake2
  unfold Ss.half1 Ss.half2 at c3
  have c4 := fun g => seOpen g false (TSl 2 Dn.cAva []) Ss.nilS
  exact run trivial
theorem opnBytes26 : Opn Tryz.prog 27 (cL 1 cB) (fun l => l.length ≤ 140737488351232) := opnBytes
end Go.Proofs.YtkpghepeagafoaaGreat
set_option linter.unusedVariables false
namespace Go.Ms
open Go.Vk
open Go.En (Attr)
/-- The sum of a measure. -/
def sm {α : Type} (f : α → Nat) (l : List α) : Nat := (l.map f).sum
theorem sm_snoc {α : Type} [Inhabited α] {f : α → Nat} {l : List α} {i : Nat} (h : i < l.length) : sm f (l.take (i + 1)) = sm f (l.take i) + f (l.getD i default) := by
  unfold sm
  rw [List.take_add_one, List.map_append, List.sum_append, List.getElem?_eq_getElem h, List.getD_eq_getElem?_getD, List.getElem?_eq_getElem h]
  simp
theorem sm_take {α : Type} (f : α → Nat) (l : List α) (i : Nat) : sm f (l.take i) ≤ sm f l := by
  have : sm f l = sm f (l.take i) + sm f (l.drop i) := by
    unfold sm; rw [← List.sum_append, ← List.map_append, List.take_append_drop]
  omega
theorem sm_mem {α : Type} {f : α → Nat} : ∀ {l : List α} {a : α}, a ∈ l → f a ≤ sm f l
  | [], a, h => by simp at h
  | b :: r, a, h => by
    unfold sm
    rw [List.map_cons, List.sum_cons]
    rcases List.mem_cons.1 h with rfl | h
    · omega
    · have := sm_mem (f := f) h; unfold sm at this; omega
theorem sm_len {α : Type} {f : α → Nat} (h : ∀ a, 1 ≤ f a) : ∀ l : List α, l.length ≤ sm f l
  | [] => by simp [sm]
  | b :: r => by
    have := sm_len h r
    have := h b
    unfold sm at *
    rw [List.map_cons, List.sum_cons, List.length_cons]; omega
theorem map_snoc {α β : Type} [Inhabited α] {f : α → β} {l : List α} {i : Nat} (h : i < l.length) : (l.take (i + 1)).map f = (l.take i).map f ++ [f (l.getD i default)] := by
  rw [List.take_add_one, List.map_append, List.getElem?_eq_getElem h, List.getD_eq_getElem?_getD, List.getElem?_eq_getElem h]
  rfl
theorem tagB_le (t : UInt8) (ls : List (List UInt8)) : (Ber.tagB t ls).length ≤ Ber.tot ls + 10 := by
  have h := Ber.lenB_len (Ber.tot ls : Int)
  unfold Ber.tagB
  simp only [List.length_cons, List.length_append, Ber.tot_flat]
  omega
theorem tot_map {α : Type} {g : α → List UInt8} {f : α → Nat} (h : ∀ a, (g a).length ≤ f a) : ∀ l : List α, Ber.tot (l.map g) ≤ sm f l
  | [] => by simp [Ber.tot, sm]
  | a :: r => by
    have h1 := h a
    have h2 := tot_map h r
    unfold Ber.tot sm at *
    simp only [List.map_cons, List.sum_cons]
    omega
theorem tot_mem {α : Type} {g : α → List UInt8} {f : α → Nat} : ∀ l : List α, (∀ a ∈ l, (g a).length ≤ f a) → Ber.tot (l.map g) ≤ sm f l
  | [], _ => by simp [Ber.tot, sm]
  | a :: r, h => by
    have h1 := h a (by simp)
    have h2 := tot_mem r (fun a ha => h a (by simp [ha]))
    unfold Ber.tot sm at *
    simp only [List.map_cons, List.sum_cons]
    omega
theorem tot_nil : Ber.tot [] = 0 := rfl
theorem tot_cons (a : List UInt8) (l : List (List UInt8)) : Ber.tot (a :: l) = a.length + Ber.tot l := by simp [Ber.tot]
def textB (s : List UInt8) : List UInt8 := Ber.tagB 4 [s]
def textsB (t : UInt8) (l : List (List UInt8)) : List UInt8 := Ber.tagB t (l.map textB)
def attB (t : List UInt8) (l : List (List UInt8)) : List UInt8 := Ber.tagB 48 [textB t, textsB 49 l]
def attrB (a : Attr) : List UInt8 := attB a.typ a.vals
def attrsB (l : List Attr) : List UInt8 := Ber.tagB 48 (l.map attrB)
def modB (m : Mod) : List UInt8 := Ber.tagB 48 [Ber.tagB 10 [Ber.intB m.kind], attB m.typ m.vals]
def modsB (l : List Mod) : List UInt8 := Ber.tagB 48 (l.map modB)
/-! ### how long -/
def wV (s : List UInt8) : Nat := s.length + 10
def wVs (l : List (List UInt8)) : Nat := sm wV l + 10
def wAt (t : List UInt8) (l : List (List UInt8)) : Nat := t.length + wVs l + 30
def wA (a : Attr) : Nat := wAt a.typ a.vals
def wM (m : Mod) : Nat := wAt m.typ m.vals + 40
theorem textB_le (s : List UInt8) : (textB s).length ≤ wV s := by
  have := tagB_le 4 [s]
  rw [Ber.tot_one] at this
  exact this
theorem textsB_le (t : UInt8) (l : List (List UInt8)) : (textsB t l).length ≤ wVs l := by
  have h1 := tagB_le t (l.map textB)
  have h2 := tot_map textB_le l
  unfold textsB wVs; omega
theorem attB_le (t : List UInt8) (l : List (List UInt8)) : (attB t l).length ≤ wAt t l := by
  have h1 := tagB_le 48 [textB t, textsB 49 l]
  have h2 := textB_le t
  have h3 := textsB_le 49 l
  rw [tot_cons, tot_cons, tot_nil] at h1
  unfold attB wAt
  unfold wV at h2
  omega
theorem attrB_le (a : Attr) : (attrB a).length ≤ wA a := attB_le _ _
def okK (n : Int) : Prop := -9223372036854775808 ≤ n ∧ n ≤ 9223372036854775807
theorem modB_le {m : Mod} (h : okK m.kind) : (modB m).length ≤ wM m := by
  have h1 := tagB_le 48 [Ber.tagB 10 [Ber.intB m.kind], attB m.typ m.vals]
  have h2 := attB_le m.typ m.vals
  have h3 := tagB_le 10 [Ber.intB m.kind]
  have h4 := Ber.intB_len m.kind h
  rw [tot_cons, tot_cons, tot_nil] at h1
  rw [Ber.tot_one] at h3
  unfold modB wM
  omega
theorem wV_pos (s : List UInt8) : 1 ≤ wV s := by unfold wV; omega
theorem wA_pos (a : Attr) : 1 ≤ wA a := by unfold wA wAt; omega
theorem wM_pos (a : Mod) : 1 ≤ wM a := by unfold wM wAt; omega
end Go.Ms
set_option maxRecDepth 8000
set_option linter.unusedVariables false
namespace Go.Proofs.YtkpghepeagafoaaGreat
open Go.Vk
attribute [local irreducible] HT HX RegS RegA RegM OpP OpC AltT
attribute [local irreducible] Ber.tagB Ber.lenB Ber.intB Ms.textB Ms.textsB Ms.attB Ms.attrB Ms.modB Ms.wV Ms.wA Ms.wM
theorem msText' (s : List UInt8) (hs9 : s.length ≤ 100000000) : CFn Tryz.prog 119 [Is (str s)] (TBytes (Ms.textB s)) := by
  have c1 := (tagO 4 [s] (by rw [Ber.tot_one]; omega) (by simp)).justFn
  have e : Ms.textB s = Ber.tagB 4 [s] := by unfold Ms.textB; rfl
  rw [e]
  refine CallsC.of Tryz.call119 Tryz.func119 rfl Tryz.ntmps119 rfl fun w0 G0 S0 hs ho => ?_
  exact run trivial
set_option maxHeartbeats 1000000 in
theorem msTexts (t : UInt8) (l : List (List UInt8)) (hl : Ms.sm Ms.wV l ≤ 100000000) : CFn Tryz.prog 122 [okI .u8 (t.toNat : Int), TSl 1 En.cS l] (TBytes (Ms.textsB t l)) := by
  have hlen := Ms.sm_len Ms.wV_pos l
  have htot := Ms.tot_map Ms.textB_le l
  have c2 := (tagO t (l.map Ms.textB) (by omega) (by rw [List.length_map]; omega)).justFn
  have e : Ms.textsB t l = Ber.tagB t (l.map Ms.textB) := by unfold Ms.textsB; rfl
  rw [e]
  refine CallsC.of Tryz.call122 Tryz.func122 rfl Tryz.ntmps122 rfl fun w0 G0 S0 hs ho => ?_
  refine run ?_
  refine HT.loopX (σ := (Nat × List (List UInt8)) × Value) [0, 4, 8, 9] (fun t => [(5, TAnd (Is t.2) (TSl 1 (cL 1 cB) t.1.2)), (10, okI .i64 (t.1.1 : Int))]) (fun t => [ownSl t.2 1 27]) (fun t => t.1.1 ≤ l.length ∧ t.1.2 = (l.take t.1.1).map Ms.textB) (fun t => l.length - t.1.1) ((0, []), .slice none 0 0) ⟨Nat.zero_le _, rfl⟩ (run trivial) (run trivial) ?_
  rintro ⟨⟨i, acc⟩, w⟩ ⟨hi, ha⟩
  dsimp only at hi ha ⊢
  have hal : acc.length = i := by rw [ha, List.length_map, List.length_take]; omega
  by_cases hlt : i < l.length
  · have c1 := msText' (l.getD i default) (by
      have h9 := Ms.sm_mem (f := Ms.wV) (En.getD_mem hlt)
      have h8 : Ms.wV (l.getD i default) = (l.getD i default).length + 10 := by unfold Ms.wV; rfl
      omega)
    clear c2
    refine run ?_
    intro w' _
    exact HX.roundX ((i + 1, acc ++ [Ms.textB (l.getD i default)]), w') ⟨⟨by dsimp only; omega, by dsimp only; rw [Ms.map_snoc hlt, ha]⟩, by dsimp only; omega⟩ rfl (run trivial) (run trivial)
  · have ha' : acc = l.map Ms.textB := by rw [ha, List.take_of_length_le (by omega)]
    subst ha'
    exact run trivial
theorem msAttr (t : List UInt8) (l : List (List UInt8)) (hl : Ms.wAt t l ≤ 100000000) : CFn Tryz.prog 136 [Is (str t), TSl 1 En.cS l] (TBytes (Ms.attB t l)) := by
  have hd : Ms.wAt t l = t.length + (Ms.sm Ms.wV l + 10) + 30 := rfl
  have c1 := msText' t (by omega)
  have c2 := msTexts 49 l (by omega)
  have h1 := Ms.textB_le t
  have h2 := Ms.textsB_le 49 l
  have hd1 : Ms.wV t = t.length + 10 := by unfold Ms.wV; rfl
  have hd2 : Ms.wVs l = Ms.sm Ms.wV l + 10 := rfl
  have c3 := (tagO 48 [Ms.textB t, Ms.textsB 49 l] (by rw [Ms.tot_cons, Ms.tot_cons, Ms.tot_nil]; omega) (by simp)).justFn
  have e : Ms.attB t l = Ber.tagB 48 [Ms.textB t, Ms.textsB 49 l] := by unfold Ms.attB; rfl
  rw [e]
  have c4 : CFn Tryz.prog 97 [okI .u8 48, TSlX 1 (fun ts : List Ty => ts) [[TBytes (Ms.textB t)], [TBytes (Ms.textsB 49 l)]]] (TBytes (Ber.tagB 48 [Ms.textB t, Ms.textsB 49 l])) := CFn.sub c3 (by exact byQ)
  clear c3
  refine CallsC.of Tryz.call136 Tryz.func136 rfl Tryz.ntmps136 rfl fun w0 G0 S0 hs ho => ?_
  exact run trivial
set_option maxHeartbeats 1000000 in
theorem msAttrs (l : List En.Attr) (hl : Ms.sm Ms.wA l ≤ 100000000) : CFn Tryz.prog 124 [TSl 2 En.cAttr l] (TBytes (Ms.attrsB l)) := by
  have hlen := Ms.sm_len Ms.wA_pos l
  have htot := Ms.tot_map Ms.attrB_le l
  have c2 := (tagO 48 (l.map Ms.attrB) (by omega) (by rw [List.length_map]; omega)).justFn
  have e : Ms.attrsB l = Ber.tagB 48 (l.map Ms.attrB) := by unfold Ms.attrsB; rfl
  rw [e]
  refine CallsC.of Tryz.call124 Tryz.func124 rfl Tryz.ntmps124 rfl fun w0 G0 S0 hs ho => ?_
  refine run ?_
  refine HT.loopX (σ := (Nat × List (List UInt8)) × Value) [2, 6, 7] (fun t => [(3, TAnd (Is t.2) (TSl 1 (cL 1 cB) t.1.2)), (8, okI .i64 (t.1.1 : Int))]) (fun t => [ownSl t.2 1 27]) (fun t => t.1.1 ≤ l.length ∧ t.1.2 = (l.take t.1.1).map Ms.attrB) (fun t => l.length - t.1.1) ((0, []), .slice none 0 0) ⟨Nat.zero_le _, rfl⟩ (run trivial) (run trivial) ?_
  rintro ⟨⟨i, acc⟩, w⟩ ⟨hi, ha⟩
  dsimp only at hi ha ⊢
  have hal : acc.length = i := by rw [ha, List.length_map, List.length_take]; omega
  by_cases hlt : i < l.length
  · have c1 : CFn Tryz.prog 136 [Is (str (l.getD i default).typ), TSl 1 En.cS (l.getD i default).vals] (TBytes (Ms.attrB (l.getD i default))) := by
      have h9 := Ms.sm_mem (f := Ms.wA) (En.getD_mem hlt)
      have h8 : Ms.wA (l.getD i default) = Ms.wAt (l.getD i default).typ (l.getD i default).vals := by unfold Ms.wA; rfl
      have e : Ms.attrB (l.getD i default) = Ms.attB (l.getD i default).typ (l.getD i default).vals := by unfold Ms.attrB; rfl
      rw [e]
      exact msAttr _ _ (by omega)
    clear c2
    refine run ?_
    intro v0 w' _
    exact HX.roundX ((i + 1, acc ++ [Ms.attrB (l.getD i default)]), w') ⟨⟨by dsimp only; omega, by dsimp only; rw [Ms.map_snoc hlt, ha]⟩, by dsimp only; omega⟩ rfl (run trivial) (run trivial)
  · have ha' : acc = l.map Ms.attrB := by rw [ha, List.take_of_length_le (by omega)]
    subst ha'
    exact run trivial
set_option maxHeartbeats 1000000 in
theorem msMods (l : List Ms.Mod) (hl : Ms.sm Ms.wM l ≤ 100000000) (hk : ∀ m ∈ l, Ms.okK m.kind) : CFn Tryz.prog 123 [TSl 3 Ms.cMod l] (TBytes (Ms.modsB l)) := by
  have hlen := Ms.sm_len Ms.wM_pos l
  have htot := Ms.tot_mem (f := Ms.wM) (g := Ms.modB) l (fun a ha => Ms.modB_le (hk a ha))
  have c2 := (tagO 48 (l.map Ms.modB) (by omega) (by rw [List.length_map]; omega)).justFn
  have e : Ms.modsB l = Ber.tagB 48 (l.map Ms.modB) := by unfold Ms.modsB; rfl
  rw [e]
  refine CallsC.of Tryz.call123 Tryz.func123 rfl Tryz.ntmps123 rfl fun w0 G0 S0 hs ho => ?_
  refine run ?_
  refine HT.loopX (σ := (Nat × List (List UInt8)) × Value) [2, 6, 7] (fun t => [(3, TAnd (Is t.2) (TSl 1 (cL 1 cB) t.1.2)), (8, okI .i64 (t.1.1 : Int))]) (fun t => [ownSl t.2 1 27]) (fun t => t.1.1 ≤ l.length ∧ t.1.2 = (l.take t.1.1).map Ms.modB) (fun t => l.length - t.1.1) ((0, []), .slice none 0 0) ⟨Nat.zero_le _, rfl⟩ (run trivial) (run trivial) ?_
  rintro ⟨⟨i, acc⟩, w⟩ ⟨hi, ha⟩
  dsimp only at hi ha ⊢
  have hal : acc.length = i := by rw [ha, List.length_map, List.length_take]; omega
  by_cases hlt : i < l.length
  · have h9 := Ms.sm_mem (f := Ms.wM) (En.getD_mem hlt)
    have hk9 := hk _ (En.getD_mem hlt)
    have h8 : Ms.wM (l.getD i default) = Ms.wAt (l.getD i default).typ (l.getD i default).vals + 40 := by unfold Ms.wM; rfl
    have c1 := msAttr (l.getD i default).typ (l.getD i default).vals (by omega)
    have c3 := int (l.getD i default).kind hk9
    have h4 := Ber.intB_len (l.getD i default).kind hk9
    have h5 := Ms.attB_le (l.getD i default).typ (l.getD i default).vals
    have h3 := Ms.tagB_le 10 [Ber.intB (l.getD i default).kind]
    rw [Ber.tot_one] at h3
    have c4 : CFn Tryz.prog 97 [okI .u8 10, TSlX 1 (fun ts : List Ty => ts) [[TBytes (Ber.intB (l.getD i default).kind)]]] (TBytes (Ber.tagB 10 [Ber.intB (l.getD i default).kind])) := CFn.sub (tagO 10 [Ber.intB (l.getD i default).kind] (by rw [Ber.tot_one]; omega) (by simp)).justFn (by exact byQ)
    have c5 : CFn Tryz.prog 97 [okI .u8 48, TSlX 1 (fun ts : List Ty => ts) [[TBytes (Ber.tagB 10 [Ber.intB (l.getD i default).kind])], [TBytes (Ms.attB (l.getD i default).typ (l.getD i default).vals)]]] (TBytes (Ms.modB (l.getD i default))) := by
      have e : Ms.modB (l.getD i default) = Ber.tagB 48 [Ber.tagB 10 [Ber.intB (l.getD i default).kind], Ms.attB (l.getD i default).typ (l.getD i default).vals] := by unfold Ms.modB; rfl
      rw [e]
      exact CFn.sub (tagO 48 [Ber.tagB 10 [Ber.intB (l.getD i default).kind], Ms.attB (l.getD i default).typ (l.getD i default).vals] (by rw [Ms.tot_cons, Ms.tot_cons, Ms.tot_nil]; omega) (by simp)).justFn (by exact byQ)
    have pl := Plan.mk' 5 [(0,3,[]),(1,3,[]),(2,2,[1]),(3,3,[]),(4,3,[]),(5,3,[]),(6,3,[]),(7,2,[1]),(8,3,[]),(9,2,[1]),(10,3,[]),(11,3,[]),(12,3,[]),(13,3,[]),(14,0,[1]),(15,3,[])]
    clear c2 hk
    refine run ?_
    intro v0 w' _
    exact HX.roundX ((i + 1, acc ++ [Ms.modB (l.getD i default)]), w') ⟨⟨by dsimp only; omega, by dsimp only; rw [Ms.map_snoc hlt, ha]⟩, by dsimp only; omega⟩ rfl (run trivial) (run trivial)
  · have ha' : acc = l.map Ms.modB := by rw [ha, List.take_of_length_le (by omega)]
    subst ha'
    exact run trivial
end Go.Proofs.YtkpghepeagafoaaGreat
set_option linter.unusedVariables false
namespace Go.Ms
open Go.Vk
open Go.Fi (Fil)
def pieceL (n i : Nat) (s : List UInt8) : List (List UInt8) := if 0 < i ∧ i + 1 < n then [Ber.tagB 129 [s]] else if s = [] then [] else if i = 0 then [Ber.tagB 128 [s]] else [Ber.tagB 130 [s]]
def pcs (l : List (List UInt8)) : Nat → List (List UInt8)
  | 0 => []
  | i + 1 => pcs l i ++ pieceL l.length i (l.getD i default)
def piecesB (l : List (List UInt8)) : List UInt8 := Ber.tagB 48 (pcs l l.length)
theorem pieceL_le (n i : Nat) (s : List UInt8) : Ber.tot (pieceL n i s) ≤ wV s ∧ (pieceL n i s).length ≤ 1 := by
  have h1 := tagB_le 129 [s]
  have h2 := tagB_le 128 [s]
  have h3 := tagB_le 130 [s]
  rw [Ber.tot_one] at h1 h2 h3
  unfold pieceL wV
  split
  · rw [Ber.tot_one]; exact ⟨h1, Nat.le_refl _⟩
  split
  · rw [tot_nil]; exact ⟨Nat.zero_le _, Nat.zero_le _⟩
  split
  · rw [Ber.tot_one]; exact ⟨h2, Nat.le_refl _⟩
  · rw [Ber.tot_one]; exact ⟨h3, Nat.le_refl _⟩
theorem pcs_le (l : List (List UInt8)) : ∀ i, i ≤ l.length → Ber.tot (pcs l i) ≤ sm wV (l.take i) ∧ (pcs l i).length ≤ i
  | 0, _ => by rw [pcs, tot_nil]; exact ⟨Nat.zero_le _, Nat.le_refl _⟩
  | i + 1, h => by
    have h1 := pcs_le l i (by omega)
    have h2 := pieceL_le l.length i (l.getD i default)
    have h3 := sm_snoc (f := wV) (l := l) (i := i) (by omega)
    rw [pcs, Ber.tot_append, List.length_append, h3]
    omega
theorem piecesB_le (l : List (List UInt8)) : (piecesB l).length ≤ wVs l := by
  have h1 := tagB_le 48 (pcs l l.length)
  have h2 := pcs_le l l.length (Nat.le_refl _)
  rw [List.take_length] at h2
  unfold piecesB wVs; omega
/-- The tag of a filter of a kind. -/
def tagF (k : Int) : UInt8 := b8 160 ||| b8 k
mutual
def filB : Fil → List UInt8
  | .mk k t v s ks => if k = 7 then Ber.tagB 135 [t] else if k = 4 then Ber.tagB (tagF 4) [textB t, piecesB s] else if k = 3 ∨ k = 5 ∨ k = 6 then Ber.tagB (tagF k) [textB t, textB v] else Ber.tagB (tagF k) (filsB ks)
def filsB : List Fil → List (List UInt8)
  | [] => []
  | f :: r => filB f :: filsB r
end
theorem filsB_map : ∀ l : List Fil, filsB l = l.map filB
  | [] => by unfold filsB; rfl
  | f :: r => by unfold filsB; rw [filsB_map r]; rfl
mutual
/-- How heavy. -/
def wF : Fil → Nat
  | .mk _ t v s ks => t.length + v.length + wVs s + 100 + wFs ks
def wFs : List Fil → Nat
  | [] => 0
  | f :: r => wF f + wFs r
end
theorem wFs_sm : ∀ l : List Fil, wFs l = sm wF l
  | [] => by unfold wFs; rfl
  | f :: r => by unfold wFs; rw [wFs_sm r]; rfl
theorem wF_pos (f : Fil) : 1 ≤ wF f := by cases f; unfold wF; omega
mutual
theorem filB_le : ∀ f : Fil, (filB f).length ≤ wF f
  | .mk k t v s ks => by
    have h1 := tagB_le 135 [t]
    have h2 := tagB_le (tagF 4) [textB t, piecesB s]
    have h3 := tagB_le (tagF k) [textB t, textB v]
    have h4 := tagB_le (tagF k) (filsB ks)
    have h5 := filsB_le ks
    have h6 := textB_le t
    have h7 := textB_le v
    have h8 := piecesB_le s
    rw [Ber.tot_one] at h1
    rw [tot_cons, tot_cons, tot_nil] at h2 h3
    unfold wV at h6 h7
    unfold filB wF
    split
    · omega
    split
    · omega
    split
    · omega
    · omega
theorem filsB_le : ∀ l : List Fil, Ber.tot (filsB l) ≤ wFs l
  | [] => by unfold filsB wFs; exact Nat.le_refl _
  | f :: r => by
    have h1 := filB_le f
    have h2 := filsB_le r
    unfold filsB wFs
    rw [tot_cons]; omega
end
mutual
/-- A filter of one of the eight kinds; who compares has no kids. -/
def Prf : Fil → Prop
  | .mk k _ _ _ ks => ((k = 0 ∨ k = 1 ∨ k = 2) ∨ ((k = 3 ∨ k = 4 ∨ k = 5 ∨ k = 6 ∨ k = 7) ∧ ks = [])) ∧ PrfL ks
def PrfL : List Fil → Prop
  | [] => True
  | f :: r => Prf f ∧ PrfL r
end
theorem PrfL_mem : ∀ {l : List Fil}, PrfL l ↔ ∀ f ∈ l, Prf f
  | [] => by unfold PrfL; simp
  | f :: r => by unfold PrfL; rw [PrfL_mem (l := r)]; simp
mutual
theorem one_pr : ∀ (f : Fil) (d : Nat), Fi.oneF f d = true → Prf f
  | .mk k t v s ks, d, h => by
    have h0 := h
    by_cases hd : d ≤ 16
    case neg => rw [show Fi.oneF (.mk k t v s ks) d = false by unfold Fi.oneF; simp [hd]] at h; exact absurd h (by simp)
    have hks : ∀ d', Fi.oneL ks d' = true → PrfL ks := fun d' h' => oneL_pr ks d' h'
    have hnil : ks = [] → PrfL ks := fun e => by subst e; unfold PrfL; trivial
    unfold Prf
    unfold Fi.oneF at h
    grind
theorem oneL_pr : ∀ (l : List Fil) (d : Nat), Fi.oneL l d = true → PrfL l
  | [], _, _ => by unfold PrfL; trivial
  | f :: r, d, h => by
    unfold Fi.oneL at h
    rw [Bool.and_eq_true] at h
    unfold PrfL
    exact ⟨one_pr f d h.1, oneL_pr r d h.2⟩
end
theorem isF_pr {f : Fil} (h : Fi.isF f = true) : Prf f := by
  unfold Fi.isF at h
  rw [Bool.and_eq_true] at h
  exact one_pr f 1 h.1
theorem tagF_or (k : Int) : ((b8 160 ||| b8 k).toNat : Int) = ((tagF k).toNat : Int) := rfl
theorem filB_b {k : Int} (h : k = 0 ∨ k = 1 ∨ k = 2) (t v : List UInt8) (s : List (List UInt8)) (ks : List Fil) : filB (.mk k t v s ks) = Ber.tagB (tagF k) (ks.map filB) := by
  unfold filB; rw [if_neg (by omega), if_neg (by omega), if_neg (by omega), filsB_map]
theorem filB_3 {k : Int} (h : k = 3 ∨ k = 5 ∨ k = 6) (t v : List UInt8) (s : List (List UInt8)) (ks : List Fil) : filB (.mk k t v s ks) = Ber.tagB (tagF k) [textB t, textB v] := by
  unfold filB; rw [if_neg (by omega), if_neg (by omega), if_pos h]
theorem filB_4 (t v : List UInt8) (s : List (List UInt8)) (ks : List Fil) : filB (.mk 4 t v s ks) = Ber.tagB (tagF 4) [textB t, piecesB s] := by
  unfold filB; rw [if_neg (by omega), if_pos rfl]
theorem filB_7 (t v : List UInt8) (s : List (List UInt8)) (ks : List Fil) : filB (.mk 7 t v s ks) = Ber.tagB 135 [t] := by
  unfold filB; rw [if_pos rfl]
theorem wF_mk (k : Int) (t v : List UInt8) (s : List (List UInt8)) (ks : List Fil) : wF (.mk k t v s ks) = t.length + v.length + (sm wV s + 10) + 100 + sm wF ks := by
  unfold wF; rw [wFs_sm]; rfl
end Go.Ms
set_option maxRecDepth 8000
set_option linter.unusedVariables false
namespace Go.Proofs.YtkpghepeagafoaaGreat
open Go.Vk
attribute [local irreducible] HT HX RegS RegA RegM OpP OpC AltT
attribute [local irreducible] Ber.tagB Ber.lenB Ber.intB Ms.textB Ms.wV Ms.wF Ms.filB Ms.piecesB Ms.tagF
set_option maxHeartbeats 2000000 in
theorem msPieces (l : List (List UInt8)) (hl : Ms.sm Ms.wV l ≤ 100000000) : CFn Tryz.prog 135 [TSl 1 En.cS l] (TBytes (Ms.piecesB l)) := by
  have hlen := Ms.sm_len Ms.wV_pos l
  have htot := Ms.pcs_le l l.length (Nat.le_refl _)
  rw [List.take_length] at htot
  have c2 := (tagO 48 (Ms.pcs l l.length) (by omega) (by omega)).justFn
  have e : Ms.piecesB l = Ber.tagB 48 (Ms.pcs l l.length) := by unfold Ms.piecesB; rfl
  rw [e]
  refine CallsC.of Tryz.call135 Tryz.func135 rfl Tryz.ntmps135 rfl fun w0 G0 S0 hs ho => ?_
  refine run ?_
  refine HT.loopX (σ := (Nat × List (List UInt8)) × Value) [0, 2, 6, 7] (fun t => [(3, TAnd (Is t.2) (TSl 1 (cL 1 cB) t.1.2)), (8, okI .i64 (t.1.1 : Int))]) (fun t => [ownSl t.2 1 27]) (fun t => t.1.1 ≤ l.length ∧ t.1.2 = Ms.pcs l t.1.1) (fun t => l.length - t.1.1) ((0, []), .slice none 0 0) ⟨Nat.zero_le _, rfl⟩ (run trivial) (run trivial) ?_
  rintro ⟨⟨i, acc⟩, w⟩ ⟨hi, ha⟩
  dsimp only at hi ha ⊢
  have hal : acc.length ≤ i := by rw [ha]; exact (Ms.pcs_le l i hi).2
  by_cases hlt : i < l.length
  · have h9 := Ms.sm_mem (f := Ms.wV) (En.getD_mem hlt)
    have h8 : Ms.wV (l.getD i default) = (l.getD i default).length + 10 := by unfold Ms.wV; rfl
    have hz : Ms.pcs l (i + 1) = acc ++ Ms.pieceL l.length i (l.getD i default) := by rw [Ms.pcs, ha]
    have cT : ∀ t : UInt8, CFn Tryz.prog 97 [okI .u8 (t.toNat : Int), TSlX 1 (fun ts : List Ty => ts) [[TBytes (l.getD i default)]]] (TBytes (Ber.tagB t [l.getD i default])) := fun t => CFn.sub (tagO t [l.getD i default] (by rw [Ber.tot_one]; omega) (by simp)).justFn (by exact byQ)
    clear c2
    have c3 := cT 128
    have c4 := cT 129
    have c5 := cT 130
    clear cT
    refine run ?_
    refine ⟨fun w' _ h1 => ?_, fun _ h1 h2 => ?_, fun w' _ h1 h2 h3 => ?_, fun w' _ h1 h2 h3 => ?_⟩
    · have e : Ms.pieceL l.length i (l.getD i default) = [Ber.tagB 129 [l.getD i default]] := if_pos (by omega)
      rw [e] at hz
      exact HX.roundX ((i + 1, acc ++ [Ber.tagB 129 [l.getD i default]]), w') ⟨⟨by dsimp only; omega, hz.symm⟩, by dsimp only; omega⟩ rfl (run trivial) (run trivial)
    · have e : Ms.pieceL l.length i (l.getD i default) = [] := by unfold Ms.pieceL; rw [if_neg (by omega), if_pos h2]
      rw [e, List.append_nil] at hz
      exact HX.roundX ((i + 1, acc), w) ⟨⟨by dsimp only; omega, hz.symm⟩, by dsimp only; omega⟩ rfl (run trivial) (run trivial)
    · have e : Ms.pieceL l.length i (l.getD i default) = [Ber.tagB 128 [l.getD i default]] := by unfold Ms.pieceL; rw [if_neg (by omega), if_neg h2, if_pos (by omega)]
      rw [e] at hz
      exact HX.roundX ((i + 1, acc ++ [Ber.tagB 128 [l.getD i default]]), w') ⟨⟨by dsimp only; omega, hz.symm⟩, by dsimp only; omega⟩ rfl (run trivial) (run trivial)
    · have e : Ms.pieceL l.length i (l.getD i default) = [Ber.tagB 130 [l.getD i default]] := by unfold Ms.pieceL; rw [if_neg (by omega), if_neg h2, if_neg (by omega)]
      rw [e] at hz
      exact HX.roundX ((i + 1, acc ++ [Ber.tagB 130 [l.getD i default]]), w') ⟨⟨by dsimp only; omega, hz.symm⟩, by dsimp only; omega⟩ rfl (run trivial) (run trivial)
  · have hie : i = l.length := by omega
    subst hie
    rw [← ha] at c2 ⊢
    exact run trivial
set_option maxHeartbeats 2000000 in
theorem msFilterS (k : Int) (t v : List UInt8) (s : List (List UInt8)) (ks : List Fi.Fil) (hk : (k = 0 ∨ k = 1 ∨ k = 2) ∨ ((k = 3 ∨ k = 4 ∨ k = 5 ∨ k = 6 ∨ k = 7) ∧ ks = [])) (hw : Ms.wF (.mk k t v s ks) ≤ 100000000) (IH : ∀ f ∈ ks, CFn Tryz.prog 121 [TAgg (Fi.cF f)] (TBytes (Ms.filB f))) : CFn Tryz.prog 121 [TAgg (Fi.cF (.mk k t v s ks))] (TBytes (Ms.filB (.mk k t v s ks))) := by
  rw [Ms.wF_mk] at hw
  rw [Fi.cF_open]
  dsimp only [Fi.Fil.kind, Fi.Fil.typ, Fi.Fil.val, Fi.Fil.subs, Fi.Fil.kids]
  have ct := msText' t (by omega)
  have hT := Ms.textB_le t
  have hd1 : Ms.wV t = t.length + 10 := by unfold Ms.wV; rfl
  rcases hk with hk | ⟨hk, rfl⟩
  · have hlen := Ms.sm_len Ms.wF_pos ks
    have htot := Ms.tot_map Ms.filB_le ks
    have c2 : CFn Tryz.prog 97 [okI .u8 ((b8 160 ||| b8 k).toNat : Int), TSl 1 (cL 1 cB) (ks.map Ms.filB)] (TBytes (Ber.tagB (Ms.tagF k) (ks.map Ms.filB))) := by
      rw [Ms.tagF_or]
      exact (tagO (Ms.tagF k) (ks.map Ms.filB) (by omega) (by rw [List.length_map]; omega)).justFn
    rw [Ms.filB_b hk]
    clear ct
    refine CallsC.of Tryz.call121 Tryz.func121 rfl Tryz.ntmps121 rfl fun w0 G0 S0 hs ho => ?_
    refine run ?_
    intro _ _ _ _ _
    refine HT.loopX (σ := (Nat × List (List UInt8)) × Value) [1, 2, 36, 37] (fun t' => [(3, TAnd (Is t'.2) (TSl 1 (cL 1 cB) t'.1.2)), (38, okI .i64 (t'.1.1 : Int))]) (fun t' => [ownSl t'.2 1 27]) (fun t' => t'.1.1 ≤ ks.length ∧ t'.1.2 = (ks.take t'.1.1).map Ms.filB) (fun t' => ks.length - t'.1.1) ((0, []), .slice none 0 0) ⟨Nat.zero_le _, rfl⟩ (run trivial) (run trivial) ?_
    rintro ⟨⟨i, acc⟩, w⟩ ⟨hi, ha⟩
    dsimp only at hi ha ⊢
    have hal : acc.length = i := by rw [ha, List.length_map, List.length_take]; omega
    by_cases hlt : i < ks.length
    · have c1 := IH _ (En.getD_mem hlt)
      clear c2 IH
      refine run ?_
      intro v0 w' _
      exact HX.roundX ((i + 1, acc ++ [Ms.filB (ks.getD i default)]), w') ⟨⟨by dsimp only; omega, by dsimp only; rw [Ms.map_snoc hlt, ha]⟩, by dsimp only; omega⟩ rfl (run trivial) (run trivial)
    · have ha' : acc = ks.map Ms.filB := by rw [ha, List.take_of_length_le (by omega)]
      subst ha'
      clear IH
      exact run trivial
  · by_cases h7 : k = 7
    · subst h7
      have c2 : CFn Tryz.prog 97 [okI .u8 135, TSlX 1 (fun ts : List Ty => ts) [[TBytes t]]] (TBytes (Ber.tagB 135 [t])) := CFn.sub (tagO 135 [t] (by rw [Ber.tot_one]; omega) (by simp)).justFn (by exact byQ)
      rw [Ms.filB_7]
      clear IH
      refine CallsC.of Tryz.call121 Tryz.func121 rfl Tryz.ntmps121 rfl fun w0 G0 S0 hs ho => ?_
      exact run trivial
    by_cases h4 : k = 4
    · subst h4
      have cp := msPieces s (by omega)
      have hP := Ms.piecesB_le s
      have hd2 : Ms.wVs s = Ms.sm Ms.wV s + 10 := rfl
      have c2 : CFn Tryz.prog 97 [okI .u8 ((b8 160 ||| b8 4).toNat : Int), TSlX 1 (fun ts : List Ty => ts) [[TBytes (Ms.textB t)], [TBytes (Ms.piecesB s)]]] (TBytes (Ber.tagB (Ms.tagF 4) [Ms.textB t, Ms.piecesB s])) := by
        rw [Ms.tagF_or]
        exact CFn.sub (tagO (Ms.tagF 4) [Ms.textB t, Ms.piecesB s] (by rw [Ms.tot_cons, Ms.tot_cons, Ms.tot_nil]; omega) (by simp)).justFn (by exact byQ)
      rw [Ms.filB_4]
      clear IH
      have hz0 : ((@List.nil Fi.Fil).length : Int) = 0 := rfl
      refine CallsC.of Tryz.call121 Tryz.func121 rfl Tryz.ntmps121 rfl fun w0 G0 S0 hs ho => ?_
      refine run ?_
      intro _ _
      refine HT.loopX (σ := Unit) [1, 2, 36, 37] (fun _ => [(3, TSlX 1 (fun ts : List Ty => ts) [[TBytes (Ms.textB t)], [TBytes (Ms.piecesB s)]]), (38, okI .i64 0)]) (fun _ => []) (fun _ => True) (fun _ => 0) () trivial (run trivial) (run trivial) ?_
      intro _ _
      exact run trivial
    · have cv := msText' v (by omega)
      have hV := Ms.textB_le v
      have hd2 : Ms.wV v = v.length + 10 := by unfold Ms.wV; rfl
      have c2 : CFn Tryz.prog 97 [okI .u8 ((b8 160 ||| b8 k).toNat : Int), TSlX 1 (fun ts : List Ty => ts) [[TBytes (Ms.textB t)], [TBytes (Ms.textB v)]]] (TBytes (Ber.tagB (Ms.tagF k) [Ms.textB t, Ms.textB v])) := by
        rw [Ms.tagF_or]
        exact CFn.sub (tagO (Ms.tagF k) [Ms.textB t, Ms.textB v] (by rw [Ms.tot_cons, Ms.tot_cons, Ms.tot_nil]; omega) (by simp)).justFn (by exact byQ)
      rw [Ms.filB_3 (by omega)]
      clear IH
      have hz0 : ((@List.nil Fi.Fil).length : Int) = 0 := rfl
      refine CallsC.of Tryz.call121 Tryz.func121 rfl Tryz.ntmps121 rfl fun w0 G0 S0 hs ho => ?_
      refine run ?_
      refine ⟨?_, ?_, ?_⟩ <;> intros
      all_goals
        refine HT.loopX (σ := Unit) [1, 2, 36, 37] (fun _ => [(3, TSlX 1 (fun ts : List Ty => ts) [[TBytes (Ms.textB t)], [TBytes (Ms.textB v)]]), (38, okI .i64 0)]) (fun _ => []) (fun _ => True) (fun _ => 0) () trivial (run trivial) (run trivial) ?_
        intro _ _
        exact run trivial
theorem msFilterN : ∀ (N : Nat) (f : Fi.Fil), Fi.nodes f ≤ N → Ms.wF f ≤ 100000000 → Ms.Prf f → CFn Tryz.prog 121 [TAgg (Fi.cF f)] (TBytes (Ms.filB f))
  | 0, .mk k t v s ks, h, _, _ => by unfold Fi.nodes at h; omega
  | N + 1, .mk k t v s ks, h, hw, hp => by
    have e : Fi.nodes (.mk k t v s ks) = 1 + Fi.nodesL ks := by unfold Fi.nodes; rfl
    rw [e] at h
    have hw' := hw
    rw [Ms.wF_mk] at hw'
    unfold Ms.Prf at hp
    exact msFilterS k t v s ks hp.1 hw (fun f hf => msFilterN N f (by have := Fi.kid_lt hf; omega) (by have := Ms.sm_mem (f := Ms.wF) hf; omega) (Ms.PrfL_mem.1 hp.2 f hf))
theorem msFilters (f : Fi.Fil) (hw : Ms.wF f ≤ 100000000) (hp : Ms.Prf f) : CFn Tryz.prog 121 [TAgg (Fi.cF f)] (TBytes (Ms.filB f)) := msFilterN (Fi.nodes f) f (Nat.le_refl _) hw hp
end Go.Proofs.YtkpghepeagafoaaGreat
set_option linter.unusedVariables false
namespace Go.Fi
open Go.Vk
open Go.Dn (typB)
theorem mid_all (l : List (List UInt8)) : ((l.drop 1).dropLast.all fun s => !decide (s = [])) = !decide ([] ∈ (l.drop 1).dropLast) := by
  rw [Bool.eq_iff_iff]
  simp only [List.all_eq_true, Bool.not_eq_true', decide_eq_false_iff_not]
  exact ⟨fun h hm => h _ hm rfl, fun h x hx e => h (e ▸ hx)⟩
theorem mid_slice (l : List (List UInt8)) (h : 1 ≤ l.length) : (l.take ((l.length : Int) - 1).toNat).drop 1 = (l.drop 1).dropLast := by
  rw [show ((l.length : Int) - 1).toNat = l.length - 1 by omega, List.dropLast_eq_take, List.drop_take, List.length_drop]
theorem subs_any {l : List (List UInt8)} (h : 2 ≤ l.length) (hm : [] ∉ (l.drop 1).dropLast) : (l.any fun s => !decide (s = [])) = (decide (2 < l.length) || (decide (l.getD 0 [] ≠ []) || decide (l.getD 1 [] ≠ []))) := by
  match l, h with
  | [a, b], _ => simp
  | a :: b :: c :: r, _ =>
    have hb : b ≠ [] := fun e => hm (by subst e; simp)
    simp [hb]
theorem okS_any (l : List (List UInt8)) : l.all okS = !l.any (fun v => decide (256 < (v.length : Int))) := by
  rw [List.not_any_eq_all_not]
  congr 1
  funext v
  unfold okS
  rw [Bool.eq_iff_iff]
  simp only [decide_eq_true_eq, Bool.not_eq_true', decide_eq_false_iff_not]
  omega
theorem subsB_no {l : List (List UInt8)} (h : (l.length : Int) < 2 ∨ 16 < (l.length : Int) ∨ l.any (fun v => decide (256 < (v.length : Int))) = true) : subsB l = false := by
  unfold subsB
  rcases h with h | h | h
  · rw [decide_eq_false (p := 2 ≤ l.length) (by omega)]; simp
  · rw [decide_eq_false (p := l.length ≤ 16) (by omega)]; simp
  · rw [okS_any, h]; simp
theorem subsB_eq {l : List (List UInt8)} (h1 : ¬ (l.length : Int) < 2) (h2 : ¬ 16 < (l.length : Int)) (h3 : l.any (fun v => decide (256 < (v.length : Int))) = false) : subsB l = (!decide ([] ∈ (l.drop 1).dropLast) && (decide (2 < l.length) || (decide (l.getD 0 [] ≠ []) || decide (l.getD 1 [] ≠ [])))) := by
  unfold subsB
  rw [decide_eq_true (p := 2 ≤ l.length) (by omega), decide_eq_true (p := l.length ≤ 16) (by omega), okS_any, h3, mid_all]
  by_cases hm : [] ∈ (l.drop 1).dropLast
  · rw [decide_eq_true hm]; simp
  · rw [decide_eq_false hm, subs_any (by omega) hm]; simp
end Go.Fi
set_option maxRecDepth 8000
set_option linter.unusedVariables false
namespace Go.Proofs.YtkpghepeagafoaaGreat
open Go.Vk
attribute [local irreducible] HT HX RegS RegA RegM OpP OpC AltT
attribute [local irreducible] Dn.typB
theorem ixStr (l : List (List UInt8)) (x : List UInt8) (hl : l.length ≤ 1152921504606846976) : CFn Tryz.prog 150 [TSl 1 Fi.cS l, Is (str x)] (okI .i64 (En.ixOf (fun y => decide (x = y)) l)) := by
  refine CallsC.of Tryz.call150 Tryz.func150 rfl Tryz.ntmps150 rfl fun w0 G0 S0 hs ho => ?_
  refine run ?_
  refine HT.loopX (σ := Nat) [0, 1, 7] (fun i => [(8, okI .i64 (i : Int))]) (fun i => []) (fun i => i ≤ l.length ∧ (l.take i).any (fun y => decide (x = y)) = false) (fun i => l.length - i) 0 ⟨by omega, by simp⟩ (run trivial) (run trivial) ?_
  rintro i ⟨hi, hp⟩
  refine run ?_
  refine ⟨fun h1 h2 => ?_, fun h1 h2 => ?_, fun h1 => ?_⟩
  · exact (En.ixOf_at (by omega) hp (decide_eq_true h2)).symm
  · exact HX.roundX (i + 1) ⟨⟨by omega, En.any_snoc (by omega) hp (decide_eq_false h2)⟩, by omega⟩ rfl (run trivial) (run trivial)
  · exact (En.ixOf_none (by rwa [List.take_of_length_le (by omega)] at hp)).symm
theorem inStr (l : List (List UInt8)) (x : List UInt8) (hl : l.length ≤ 1152921504606846976) : CFn Tryz.prog 147 [TSl 1 Fi.cS l, Is (str x)] (Is (.bool (decide (x ∈ l)))) := by
  have c1 := ixStr l x hl
  refine CallsC.of Tryz.call147 Tryz.func147 rfl Tryz.ntmps147 rfl fun w0 G0 S0 hs ho => ?_
  refine run ?_
  rw [En.ixOf_nonneg, Bool.eq_iff_iff, List.any_eq_true, decide_eq_true_eq]
  exact ⟨fun ⟨y, hy, e⟩ => by rw [decide_eq_true_eq] at e; rw [e]; exact hy, fun h => ⟨x, h, decide_eq_true rfl⟩⟩
theorem fpSub1 (v : List UInt8) : CFn Tryz.prog 146 [Is (str v)] (Is (.bool (decide (256 < (v.length : Int))))) := by
  refine CallsC.of Tryz.call146 Tryz.func146 rfl Tryz.ntmps146 rfl fun w0 G0 S0 hs ho => ?_
  exact run trivial
theorem fpSubs (l : List (List UInt8)) (hl : l.length ≤ 1152921504606846976) : CFn Tryz.prog 140 [TSl 1 Fi.cS l] (Is (.bool (Fi.subsB l))) := by
  have c1 := anyTxt (f := 146) (Cs := []) l (fun v => decide (256 < (v.length : Int))) hl (fun a _ => fpSub1 a)
  have c2 := inStr
  refine CallsC.of Tryz.call140 Tryz.func140 rfl Tryz.ntmps140 rfl fun w0 G0 S0 hs ho => ?_
  refine run ?_
  refine ⟨fun h => (Fi.subsB_no ?_).symm, fun h => ?_⟩
  · rcases h with (h | h) | h
    · exact .inl h
    · exact .inr (.inl h)
    · exact .inr (.inr h)
  · rw [Fi.subsB_eq h.1.1 h.1.2 h.2, ← Fi.mid_slice l (by omega), Bool.or_assoc]
    congr 2
    exact decide_eq_decide.2 (by omega)
end Go.Proofs.YtkpghepeagafoaaGreat
set_option linter.unusedVariables false
namespace Go.Fi
open Go.Vk
open Go.Dn (typB)
def badIx : List Fil → Nat → Int → Nat
  | [], _, _ => 0
  | f :: r, deep, left => if (mayF f deep left).1 = true then badIx r deep (mayF f deep left).2 + 1 else 0
def mayIx (l : List Fil) (deep : Nat) (left : Int) : Int := if (mayL l deep left).1 = true then -1 else (badIx l deep left : Int)
theorem mayL_cons (f : Fil) (r : List Fil) (deep : Nat) (left : Int) : mayL (f :: r) deep left = if (mayF f deep left).1 = true then mayL r deep (mayF f deep left).2 else (false, (mayF f deep left).2) := by conv => lhs; unfold mayL
theorem badIx_cons (f : Fil) (r : List Fil) (deep : Nat) (left : Int) : badIx (f :: r) deep left = if (mayF f deep left).1 = true then badIx r deep (mayF f deep left).2 + 1 else 0 := rfl
theorem may_left {f : Fil} {deep : Nat} {left : Int} (h0 : 0 ≤ left) (h : (mayF f deep left).1 = true) : 0 ≤ (mayF f deep left).2 ∧ (mayF f deep left).2 ≤ left := by
  obtain ⟨h1, h2⟩ := may_one f deep left h0
  rw [h2 h]
  rw [h1, Bool.and_eq_true, decide_eq_true_eq] at h
  omega
theorem nodes_pos (f : Fil) : 1 ≤ nodes f := by
  cases f with
  | mk k t v s ks => rw [nodes]; omega
theorem kid_nodes : ∀ {l : List Fil} {f : Fil}, f ∈ l → nodes f ≤ nodesL l
  | [], f, h => by simp at h
  | g :: r, f, h => by
    rw [nodesL]
    rcases List.mem_cons.1 h with rfl | h
    · omega
    · have := kid_nodes h; omega
theorem getF_mem {l : List Fil} {i : Nat} (h : i < l.length) : l.getD i default ∈ l := En.getD_mem h
theorem dropF {l : List Fil} {i : Nat} (h : i < l.length) : l.drop i = l.getD i default :: l.drop (i + 1) := by
  rw [List.drop_eq_getElem_cons h, List.getD_eq_getElem?_getD, List.getElem?_eq_getElem h]; rfl
theorem mayIx_sign (l : List Fil) (deep : Nat) (left : Int) : decide (0 ≤ mayIx l deep left) = !(mayL l deep left).1 := by
  unfold mayIx
  cases (mayL l deep left).1
  · simp
  · rfl
theorem mayF_mk (k : Int) (t v : List UInt8) (s : List (List UInt8)) (ks : List Fil) (deep : Nat) (left : Int) : mayF (.mk k t v s ks) deep left = if left - 1 < 0 ∨ 16 ≤ deep then (false, left - 1) else if mayH (.mk k t v s ks) = true then mayL ks (deep + 1) (left - 1) else (false, left - 1) := by conv => lhs; unfold mayF
theorem len0 {α : Type} [DecidableEq (List α)] (l : List α) : decide ((l.length : Int) = 0) = decide (l = []) := by
  refine decide_eq_decide.2 ⟨fun h => List.eq_nil_of_length_eq_zero (by omega), fun h => by rw [h]; rfl⟩
theorem len0F (l : List Fil) : decide ((l.length : Int) = 0) = decide (l = []) := by
  refine decide_eq_decide.2 ⟨fun h => List.eq_nil_of_length_eq_zero (by omega), fun h => by rw [h]; rfl⟩
theorem mayH_0 {k : Int} (hk : k = 0 ∨ k = 1 ∨ k = 2) (t v : List UInt8) (s : List (List UInt8)) (ks : List Fil) : mayH (.mk k t v s ks) = (decide (t = []) && decide (v = []) && decide ((s.length : Int) = 0) && (!decide ((ks.length : Int) = 0) && (decide (k ≠ 2) || decide ((ks.length : Int) = 1)))) := by
  rw [mayH_mk, if_pos hk, len0, len0F]
  have : decide (ks.length = 1) = decide ((ks.length : Int) = 1) := decide_eq_decide.2 (by omega)
  rw [this, decide_not]
theorem mayH_3 {k : Int} (hk : k = 3 ∨ k = 5 ∨ k = 6) (t v : List UInt8) (s : List (List UInt8)) (ks : List Fil) : mayH (.mk k t v s ks) = (typB t && decide ((v.length : Int) ≤ 256) && decide ((s.length : Int) = 0) && decide ((ks.length : Int) = 0)) := by
  rw [mayH_mk, if_neg (by omega), if_pos hk, len0, len0F]
  rfl
theorem mayH_4 (t v : List UInt8) (s : List (List UInt8)) (ks : List Fil) : mayH (.mk 4 t v s ks) = (typB t && decide (v = []) && subsB s && decide ((ks.length : Int) = 0)) := by
  rw [mayH_mk, if_neg (by omega), if_neg (by omega), if_pos rfl, len0F]
theorem mayH_7 (t v : List UInt8) (s : List (List UInt8)) (ks : List Fil) : mayH (.mk 7 t v s ks) = (typB t && decide (v = []) && decide ((s.length : Int) = 0) && decide ((ks.length : Int) = 0)) := by
  rw [mayH_mk, if_neg (by omega), if_neg (by omega), if_neg (by omega), if_pos rfl, len0, len0F]
theorem mayH_x {k : Int} (hk : ¬ (k = 0 ∨ k = 1 ∨ k = 2) ∧ ¬ (k = 3 ∨ k = 5 ∨ k = 6) ∧ k ≠ 4 ∧ k ≠ 7) (t v : List UInt8) (s : List (List UInt8)) (ks : List Fil) : mayH (.mk k t v s ks) = false := by
  rw [mayH_mk, if_neg hk.1, if_neg hk.2.1, if_neg hk.2.2.1, if_neg hk.2.2.2]
end Go.Fi
set_option maxRecDepth 8000
set_option linter.unusedVariables false
namespace Go.Proofs.YtkpghepeagafoaaGreat
open Go.Vk
attribute [local irreducible] HT HX RegS RegA RegM OpP OpC AltT
attribute [local irreducible] Dn.typB Fi.mayF Fi.mayL Fi.mayIx Fi.badIx Fi.subsB
abbrev LX (g : Nat) (left : Int) : Res := ownP g 3 [okI .i64 left]
theorem ixFil {f : FuncId} {Cs : List Ty} (l : List Fi.Fil) (deep g : Nat) (left : Int) (hl : l.length ≤ 1100000) (h0 : 0 ≤ left ∧ left ≤ 1000) (cf : ∀ k ∈ l, ∀ n : Int, 0 ≤ n → n ≤ 1000 → CallsC Tryz.prog f ([TAgg (Fi.cF k)] ++ Cs) [LX g n] (fun _ => Is (.bool (!(Fi.mayF k deep n).1))) (fun _ => [LX g (Fi.mayF k deep n).2])) : CallsC Tryz.prog 148 [TSl 5 Fi.cF l, TFn f Cs] [LX g left] (fun _ => okI .i64 (Fi.mayIx l deep left)) (fun _ => [LX g (Fi.mayL l deep left).2]) := by
  refine CallsC.of Tryz.call148 Tryz.func148 rfl Tryz.ntmps148 rfl fun w0 G0 S0 hs ho => ?_
  refine run ?_
  refine HT.loopX (σ := Nat × Int) [0, 1, 7] (fun t => [(8, okI .i64 (t.1 : Int))]) (fun t => [LX g t.2]) (fun t => t.1 ≤ l.length ∧ (0 ≤ t.2 ∧ t.2 ≤ 1000) ∧ Fi.mayL (l.drop t.1) deep t.2 = Fi.mayL l deep left ∧ Fi.badIx l deep left = t.1 + Fi.badIx (l.drop t.1) deep t.2) (fun t => l.length - t.1) (0, left) ⟨Nat.zero_le _, h0, rfl, by simp⟩ (run trivial) (run trivial) ?_
  rintro ⟨i, n⟩ ⟨hi, hn, hm, hx⟩
  dsimp only at hi hn hm hx ⊢
  by_cases hlt : i < l.length
  · have c1 := cf _ (Fi.getF_mem hlt) n hn.1 hn.2
    clear cf
    rw [Fi.dropF hlt, Fi.mayL_cons] at hm
    rw [Fi.dropF hlt, Fi.badIx_cons] at hx
    have hlf := fun h => Fi.may_left (f := l.getD i default) (deep := deep) hn.1 h
    refine run ?_
    refine ⟨fun _ h => ?_, fun _ h => ?_, fun _ h => ?_⟩
    · rw [if_neg (by rw [h]; simp)] at hm
      rw [← hm]
    · rw [if_neg (by rw [h]; simp)] at hm hx
      unfold Fi.mayIx
      rw [← hm, if_neg (by simp), hx]
      rfl
    · rw [if_pos h] at hm hx
      have := hlf h
      exact HX.roundX (i + 1, (Fi.mayF (l.getD i default) deep n).2) ⟨⟨by dsimp only; omega, by dsimp only; omega, hm, by dsimp only; omega⟩, by dsimp only; omega⟩ rfl (run trivial) (run trivial)
  · clear cf
    rw [List.drop_of_length_le (by omega)] at hm
    have e : Fi.mayL [] deep n = (true, n) := by unfold Fi.mayL; rfl
    rw [e] at hm
    refine run ?_
    refine ⟨fun _ => by rw [← hm], fun _ => ?_⟩
    unfold Fi.mayIx
    rw [← hm]; rfl
theorem anyFil {f : FuncId} {Cs : List Ty} (l : List Fi.Fil) (deep g : Nat) (left : Int) (hl : l.length ≤ 1100000) (h0 : 0 ≤ left ∧ left ≤ 1000) (cf : ∀ k ∈ l, ∀ n : Int, 0 ≤ n → n ≤ 1000 → CallsC Tryz.prog f ([TAgg (Fi.cF k)] ++ Cs) [LX g n] (fun _ => Is (.bool (!(Fi.mayF k deep n).1))) (fun _ => [LX g (Fi.mayF k deep n).2])) : CallsC Tryz.prog 141 [TSl 5 Fi.cF l, TFn f Cs] [LX g left] (fun _ => Is (.bool (!(Fi.mayL l deep left).1))) (fun _ => [LX g (Fi.mayL l deep left).2]) := by
  have c1 := ixFil l deep g left hl h0 cf
  clear cf
  refine CallsC.of Tryz.call141 Tryz.func141 rfl Tryz.ntmps141 rfl fun w0 G0 S0 hs ho => ?_
  refine run ?_
  exact Fi.mayIx_sign l deep left
/-- What the contract of may is. -/
def MayC (f : Fi.Fil) : Prop := ∀ (deep g : Nat) (left : Int), deep ≤ 100 → 0 ≤ left → left ≤ 1000 → CallsC Tryz.prog 132 [TAgg (Fi.cF f), okI .i64 (deep : Int), Is (pAt g 0)] [LX g left] (fun _ => Is (.bool (Fi.mayF f deep left).1)) (fun _ => [LX g (Fi.mayF f deep left).2])
theorem fpMay1 (k : Fi.Fil) (h : MayC k) (deep g : Nat) (n : Int) (hd : deep ≤ 99) (h0 : 0 ≤ n) (h1 : n ≤ 1000) : CallsC Tryz.prog 142 ([TAgg (Fi.cF k)] ++ [TPc [okI .i64 (deep : Int)], TPc [Is (pAt g 0)]]) [LX g n] (fun _ => Is (.bool (!(Fi.mayF k (deep + 1) n).1))) (fun _ => [LX g (Fi.mayF k (deep + 1) n).2]) := by
  have c1 := h (deep + 1) g n (by omega) h0 h1
  rw [show ((deep + 1 : Nat) : Int) = (deep : Int) + 1 by omega] at c1
  refine CallsC.of Tryz.call142 Tryz.func142 rfl Tryz.ntmps142 rfl fun w0 G0 S0 hs ho => ?_
  exact run trivial
theorem wt_kid : ∀ {l : List Fi.Fil} {f : Fi.Fil}, f ∈ l → Fi.wt f ≤ Fi.wtL l
  | [], f, h => by simp at h
  | g :: r, f, h => by
    rw [Fi.wtL]
    rcases List.mem_cons.1 h with rfl | h
    · omega
    · have := wt_kid h; omega
theorem wtL_len : ∀ l : List Fi.Fil, l.length ≤ Fi.wtL l
  | [] => Nat.le_refl _
  | f :: r => by
    have := wtL_len r
    rw [Fi.wtL]
    cases f with
    | mk k t v s ks => rw [Fi.wt]; simp only [List.length_cons]; omega
theorem subsW_len : ∀ l : List (List UInt8), l.length ≤ Fi.subsW l
  | [] => Nat.le_refl _
  | s :: r => by
    have := subsW_len r
    rw [Fi.subsW]; simp only [List.length_cons]; omega
end Go.Proofs.YtkpghepeagafoaaGreat
set_option linter.unusedVariables false
set_option maxRecDepth 8000
set_option linter.unusedVariables false
namespace Go.Proofs.YtkpghepeagafoaaGreat
open Go.Vk
attribute [local irreducible] HT HX RegS RegA RegM OpP OpC AltT
attribute [local irreducible] Dn.typB Fi.mayF Fi.mayL Fi.mayIx Fi.badIx Fi.subsB
set_option maxHeartbeats 8000000 in
theorem fpMay_0 (t v : List UInt8) (s : List (List UInt8)) (ks : List Fi.Fil) (hk : ∀ f ∈ ks, MayC f) (hw : Fi.wt (.mk 0 t v s ks) ≤ 1100000) : MayC (.mk 0 t v s ks) := by
  intro deep g left hd h0 h1
  have hw' := hw
  rw [Fi.wt] at hw'
  have w1 := wtL_len ks
  have w2 := subsW_len s
  rw [Fi.mayF_mk, Fi.cF_open]
  dsimp only [Fi.Fil.kind, Fi.Fil.typ, Fi.Fil.val, Fi.Fil.subs, Fi.Fil.kids]
  have c1 := dnType t
  have c2 := fpSubs s
  by_cases hout : left - 1 < 0 ∨ 16 ≤ deep
  · rw [if_pos hout]
    clear hk
    refine CallsC.of Tryz.call132 Tryz.func132 rfl Tryz.ntmps132 rfl fun w0 G0 S0 hs ho => ?_
    exact run trivial
  · rw [if_neg hout]
    have c3 := anyFil (f := 142) (Cs := [TPc [okI .i64 (deep : Int)], TPc [Is (pAt g 0)]]) ks (deep + 1) g (left - 1) (by omega) (by omega) (fun k hk' n n0 n1 => fpMay1 k (hk k hk') deep g n (by omega) n0 n1)
    clear hk
    have su := Sure.mk' [86, 87, 88, 89, 90]
    rw [Fi.mayH_0 (by simp)]
    have st := Stop.mk' 18
    refine CallsC.of Tryz.call132 Tryz.func132 rfl Tryz.ntmps132 rfl fun w0 G0 S0 hs ho => ?_
    refine run ?_
    intros
    refine HTs.mk ?_
    clear st
    cases hB : (decide (t = []) && decide (v = []) && decide ((s.length : Int) = 0) && (!decide ((ks.length : Int) = 0) && (decide ((0 : Int) ≠ 2) || decide ((ks.length : Int) = 1)))) with
    | true =>
      rw [if_pos rfl]
      refine run ?_
      intros
      rw [hB]; simp
    | false =>
      rw [if_neg (by simp)]
      refine run ?_
      intros
      rw [hB]; simp
set_option maxHeartbeats 8000000 in
theorem fpMay_1 (t v : List UInt8) (s : List (List UInt8)) (ks : List Fi.Fil) (hk : ∀ f ∈ ks, MayC f) (hw : Fi.wt (.mk 1 t v s ks) ≤ 1100000) : MayC (.mk 1 t v s ks) := by
  intro deep g left hd h0 h1
  have hw' := hw
  rw [Fi.wt] at hw'
  have w1 := wtL_len ks
  have w2 := subsW_len s
  rw [Fi.mayF_mk, Fi.cF_open]
  dsimp only [Fi.Fil.kind, Fi.Fil.typ, Fi.Fil.val, Fi.Fil.subs, Fi.Fil.kids]
  have c1 := dnType t
  have c2 := fpSubs s
  by_cases hout : left - 1 < 0 ∨ 16 ≤ deep
  · rw [if_pos hout]
    clear hk
    refine CallsC.of Tryz.call132 Tryz.func132 rfl Tryz.ntmps132 rfl fun w0 G0 S0 hs ho => ?_
    exact run trivial
  · rw [if_neg hout]
    have c3 := anyFil (f := 142) (Cs := [TPc [okI .i64 (deep : Int)], TPc [Is (pAt g 0)]]) ks (deep + 1) g (left - 1) (by omega) (by omega) (fun k hk' n n0 n1 => fpMay1 k (hk k hk') deep g n (by omega) n0 n1)
    clear hk
    have su := Sure.mk' [86, 87, 88, 89, 90]
    rw [Fi.mayH_0 (by simp)]
    have st := Stop.mk' 18
    refine CallsC.of Tryz.call132 Tryz.func132 rfl Tryz.ntmps132 rfl fun w0 G0 S0 hs ho => ?_
    refine run ?_
    intros
    refine HTs.mk ?_
    clear st
    cases hB : (decide (t = []) && decide (v = []) && decide ((s.length : Int) = 0) && (!decide ((ks.length : Int) = 0) && (decide ((1 : Int) ≠ 2) || decide ((ks.length : Int) = 1)))) with
    | true =>
      rw [if_pos rfl]
      refine run ?_
      intros
      rw [hB]; simp
    | false =>
      rw [if_neg (by simp)]
      refine run ?_
      intros
      rw [hB]; simp
set_option maxHeartbeats 8000000 in
theorem fpMay_2 (t v : List UInt8) (s : List (List UInt8)) (ks : List Fi.Fil) (hk : ∀ f ∈ ks, MayC f) (hw : Fi.wt (.mk 2 t v s ks) ≤ 1100000) : MayC (.mk 2 t v s ks) := by
  intro deep g left hd h0 h1
  have hw' := hw
  rw [Fi.wt] at hw'
  have w1 := wtL_len ks
  have w2 := subsW_len s
  rw [Fi.mayF_mk, Fi.cF_open]
  dsimp only [Fi.Fil.kind, Fi.Fil.typ, Fi.Fil.val, Fi.Fil.subs, Fi.Fil.kids]
  have c1 := dnType t
  have c2 := fpSubs s
  by_cases hout : left - 1 < 0 ∨ 16 ≤ deep
  · rw [if_pos hout]
    clear hk
    refine CallsC.of Tryz.call132 Tryz.func132 rfl Tryz.ntmps132 rfl fun w0 G0 S0 hs ho => ?_
    exact run trivial
  · rw [if_neg hout]
    have c3 := anyFil (f := 142) (Cs := [TPc [okI .i64 (deep : Int)], TPc [Is (pAt g 0)]]) ks (deep + 1) g (left - 1) (by omega) (by omega) (fun k hk' n n0 n1 => fpMay1 k (hk k hk') deep g n (by omega) n0 n1)
    clear hk
    have su := Sure.mk' [86, 87, 88, 89, 90]
    rw [Fi.mayH_0 (by simp)]
    have st := Stop.mk' 18
    refine CallsC.of Tryz.call132 Tryz.func132 rfl Tryz.ntmps132 rfl fun w0 G0 S0 hs ho => ?_
    refine run ?_
    intros
    refine HTs.mk ?_
    clear st
    cases hB : (decide (t = []) && decide (v = []) && decide ((s.length : Int) = 0) && (!decide ((ks.length : Int) = 0) && (decide ((2 : Int) ≠ 2) || decide ((ks.length : Int) = 1)))) with
    | true =>
      rw [if_pos rfl]
      refine run ?_
      intros
      rw [hB]; simp
    | false =>
      rw [if_neg (by simp)]
      refine run ?_
      intros
      rw [hB]; simp
end Go.Proofs.YtkpghepeagafoaaGreat
