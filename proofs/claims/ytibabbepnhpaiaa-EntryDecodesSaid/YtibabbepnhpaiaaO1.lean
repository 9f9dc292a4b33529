/-
  The contracts of octet's Writer and of the document's numbers and bytes.
-/
import Derived.Test.YtibabbepnhpaiaaRows
import Derived.Test.YtibabbepnhpaiaaO0
import Derived.Test.YtibabbepnhpaiaaVz
set_option linter.unusedVariables false
namespace Go.Proofs.Ytibabbepnhpaiaa
open Go.Vk
attribute [local irreducible] HT HX RegS RegA RegM OpP OpC AltT
/-- A Writer that holds l. -/
abbrev WX (g : Nat) (l : List UInt8) : Res := packR fun v : Value => [ownP g 60 [TAnd (Is v) (TBytes l)], ownSl v 1 5]
abbrev cN (n : Nat) : List Ty := [okI .i64 (n : Int)]
theorem wrNums (g : Nat) (l : List UInt8) (n : Nat) (hn : n ≤ 4611686018427387904) (hl : l.length ≤ 134217728) : CallsC Try.prog 27 [Is (pAt g 0), TSl 1 cN [n]] [WX g l] (fun _ => TTup []) (fun _ => [WX g (l ++ Oct.numB n)]) := by
  refine CallsC.of Try.call27 Try.func27 rfl Try.ntmps27 rfl fun w0 G0 S0 hs ho => ?_
  refine HT.unpack 0 rfl fun v => ?_
  refine run ?_
  intro _
  refine HT.loopX (σ := Nat × List UInt8) [0, 9, 10] (fun t => [(11, okI .i64 (t.1 : Int))]) (fun t => [WX g t.2]) (fun t => t.1 ≤ 1 ∧ t.2 = if t.1 = 0 then l else l ++ Oct.numB n) (fun t => 1 - t.1) (0, l) ⟨Nat.zero_le _, rfl⟩ (run trivial) (run trivial) ?_
  rintro ⟨i, q⟩ ⟨hi, hq0⟩
  have hb := Oct.numB_le hn
  have hlen : ([n] : List Nat).length = 1 := rfl
  dsimp only at hi hq0 ⊢
  rcases (by omega : i = 0 ∨ i = 1) with rfl | rfl
  · have hq1 : q = l := hq0
    subst hq1
    have h0 : ((([n].getD 0 0 : Nat) : Int)) = n := rfl
    refine run ?_
    intro _
    refine HT.loopX (σ := Nat × List UInt8) [0, 9, 10, 11] (fun t => [(6, okI .u64 (t.1 : Int))]) (fun t => [WX g t.2]) (fun t => t.2 ++ Oct.numB t.1 = q ++ Oct.numB n ∧ t.1 ≤ n) (fun t => t.1) (n, q) ⟨rfl, Nat.le_refl _⟩ (run trivial) (run ?_) ?_
    · rw [show ([n].getD 0 default : Nat) = n from rfl]
      repeat' split
      all_goals omega
    rintro ⟨u, m⟩ ⟨he, hu⟩
    dsimp only at he hu ⊢
    have hm : m.length ≤ q.length + 9 := by
      have := congrArg List.length he
      simp only [List.length_append] at this
      omega
    refine HT.unpack 0 rfl fun v => ?_
    refine run ?_
    refine ⟨fun v' h1 => ?_, fun v' h1 => ?_⟩
    · exact HX.roundX (u / 128, m ++ [b8 (u : Int) ||| b8 128]) ⟨⟨(Oct.numB_snoc (by omega) m).trans he, by dsimp only; omega⟩, by dsimp only; omega⟩ rfl (run trivial) (run trivial)
    · have e : m ++ [b8 (u : Int)] = q ++ Oct.numB n := by rw [← he, Oct.numB_lt (by omega)]
      rw [e]
      exact HX.roundX (1, q ++ Oct.numB n) ⟨⟨Nat.le_refl _, rfl⟩, Nat.zero_lt_one⟩ rfl (run trivial) (run trivial)
  · have hq1 : q = l ++ Oct.numB n := hq0
    subst hq1
    refine HT.unpack 0 rfl fun v => ?_
    exact run trivial
theorem wrRaw (g : Nat) (l m : List UInt8) (hl : l.length + m.length ≤ 134217728) : CallsC Try.prog 52 [Is (pAt g 0), TBytes m] [WX g l] (fun _ => TTup []) (fun _ => [WX g (l ++ m)]) := by
  refine CallsC.of Try.call52 Try.func52 rfl Try.ntmps52 rfl fun w0 G0 S0 hs ho => ?_
  refine HT.unpack 0 rfl fun v => ?_
  exact run trivial
theorem wrClone (m : List UInt8) (hl : m.length ≤ 134217728) : CFn Try.prog 47 [TBytes m] (TBytes m) := by
  refine CallsC.of Try.call47 Try.func47 rfl Try.ntmps47 rfl fun w0 G0 S0 hs ho => ?_
  refine run ?_
  exact ⟨Eq.symm, rfl⟩
theorem rfNum (n : Nat) (hn : n ≤ 4611686018427387904) : CallsC Try.prog 30 [okI .i64 (n : Int)] [] (fun v => TAnd (Is v) (TBytes (Oct.numB n))) (fun v => [ownSl v 1 5]) := by
  have hb := Oct.numB_le hn
  refine CallsC.of Try.call30 Try.func30 rfl Try.ntmps30 rfl fun w0 G0 S0 hs ho => ?_
  refine run ?_
  and_intros
  all_goals intros
  · refine HT.loopX (σ := Nat × List UInt8 × Value) [2] (fun t => [(3, okI .u64 (t.1 : Int)), (4, TAnd (Is t.2.2) (TBytes t.2.1))]) (fun t => [ownSl t.2.2 1 5]) (fun t => t.2.1 ++ Oct.numB t.1 = Oct.numB n ∧ t.1 ≤ n) (fun t => t.1) (n, [], .slice none 0 0) ⟨rfl, Nat.le_refl _⟩ (run trivial) (run trivial) ?_
    rintro ⟨u, m, v⟩ ⟨he, hu⟩
    dsimp only at he hu ⊢
    have hm : m.length ≤ 9 := by
      have := congrArg List.length he
      simp only [List.length_append] at this
      omega
    refine run ?_
    refine ⟨fun v' h1 => ?_, fun v' h1 => ?_⟩
    · exact HX.roundX (u / 128, m ++ [b8 ((u : Int) % 128) ||| b8 128], v') ⟨⟨(Oct.numB_snoc7 (by omega) m).trans he, by dsimp only; omega⟩, by dsimp only; omega⟩ rfl (run trivial) (run trivial)
    · rw [← he, Oct.numB_lt (by omega)]
  · have h0 : n = 0 := by omega
    subst h0
    refine HT.loopX (σ := Unit) [2] (fun t => [(3, okI .u64 0), (4, Is (.slice none 0 0))]) (fun t => []) (fun t => True) (fun t => 0) () trivial (run trivial) (run trivial) ?_
    intro _ _
    refine run ?_
    intro _ _
    rw [Oct.numB_lt (by decide)]
    rfl
theorem rfBytes (l : List UInt8) (hl : l.length ≤ 134217728) : CallsC Try.prog 31 [TBytes l] [] (fun v => TAnd (Is v) (TBytes (Oct.numB l.length ++ l))) (fun v => [ownSl v 1 5]) := by
  have c1 := rfNum
  have hb := Oct.numB_le (n := l.length) (by omega)
  refine CallsC.of Try.call31 Try.func31 rfl Try.ntmps31 rfl fun w0 G0 S0 hs ho => ?_
  exact run trivial
abbrev cTB (l : List UInt8) : List Ty := [TBytes l]
theorem subA {P : Program} {f : FuncId} {A B : List Ty} {L : List Res} {T : Value → Ty} {L' : Value → List Res} (h : CallsC P f B L T L') (s : TsSub A B) : CallsC P f A L T L' :=
  ⟨h.enter, fun vs w G S hs ho ha => h.calls vs w G S hs ho (ArgsT.sub s ha)⟩
theorem wrBytesL (g : Nat) (l : List UInt8) (ms : List (List UInt8)) (hl : l.length + (ms.flatMap Oct.bytB).length ≤ 134217000) (hm : ms.length ≤ 134217000) : CallsC Try.prog 28 [Is (pAt g 0), TSl 1 cTB ms] [WX g l] (fun _ => TTup []) (fun _ => [WX g (l ++ ms.flatMap Oct.bytB)]) := by
  have c1 := wrNums
  have c2 := wrRaw
  refine CallsC.of Try.call28 Try.func28 rfl Try.ntmps28 rfl fun w0 G0 S0 hs ho => ?_
  refine run ?_
  refine HT.loopX (σ := Nat × List UInt8) [0, 6, 7] (fun t => [(8, okI .i64 (t.1 : Int))]) (fun t => [WX g t.2]) (fun t => t.1 ≤ ms.length ∧ t.2 = l ++ (ms.take t.1).flatMap Oct.bytB) (fun t => ms.length - t.1) (0, l) ⟨Nat.zero_le _, by simp⟩ (run trivial) (run trivial) ?_
  rintro ⟨i, q⟩ ⟨hi, hq0⟩
  dsimp only at hi hq0 ⊢
  by_cases hlt : i < ms.length
  · have h1 := Oct.flat_snoc Oct.bytB hlt
    have h2 := Oct.flat_part (l := ms) Oct.bytB (i + 1)
    rw [h1, List.length_append] at h2
    have h3 : (Oct.bytB (ms.getD i default)).length = (Oct.numB (ms.getD i default).length).length + (ms.getD i default).length := by unfold Oct.bytB; rw [List.length_append]
    have h4 : q.length = l.length + ((ms.take i).flatMap Oct.bytB).length := by rw [hq0, List.length_append]
    refine run ?_
    rw [List.append_assoc]
    intro _
    exact HX.roundX (i + 1, q ++ (Oct.numB (ms.getD i default).length ++ ms.getD i default)) ⟨⟨by dsimp only; omega, by dsimp only; rw [h1, hq0, List.append_assoc]; rfl⟩, by dsimp only; omega⟩ rfl (run trivial) (run trivial)
  · have hq1 : q = l ++ ms.flatMap Oct.bytB := by rw [hq0, List.take_of_length_le (by omega)]
    subst hq1
    exact run trivial
theorem wrBytes1 (g : Nat) (l m : List UInt8) (hl : l.length + m.length ≤ 134000000) : CallsC Try.prog 28 [Is (pAt g 0), TSlX 1 (fun ts : List Ty => ts) [[TBytes m]]] [WX g l] (fun _ => TTup []) (fun _ => [WX g (l ++ Oct.bytB m)]) := by
  have h := Oct.numB_le (n := m.length) (by omega)
  have := wrBytesL g l [m] (by simp [Oct.bytB]; omega) (by simp)
  rw [show [m].flatMap Oct.bytB = Oct.bytB m by simp] at this
  exact subA this (by (repeat (first | exact TsSub.nil | apply TsSub.cons (by first | with_reducible exact Sub.refl _ | exact Sub.slxT rfl | exact Sub.slT rfl | exact Sub.slx rfl | exact Sub.nil _ _ | exact Sub.refl _) | fail)); done)
theorem wrBytes2 (g : Nat) (l m n : List UInt8) (hl : l.length + m.length + n.length ≤ 134000000) : CallsC Try.prog 28 [Is (pAt g 0), TSlX 1 (fun ts : List Ty => ts) [[TBytes m], [TBytes n]]] [WX g l] (fun _ => TTup []) (fun _ => [WX g (l ++ (Oct.bytB m ++ Oct.bytB n))]) := by
  have h := Oct.numB_le (n := m.length) (by omega)
  have h' := Oct.numB_le (n := n.length) (by omega)
  have := wrBytesL g l [m, n] (by simp [Oct.bytB]; omega) (by simp)
  rw [show [m, n].flatMap Oct.bytB = Oct.bytB m ++ Oct.bytB n by simp] at this
  exact subA this (by (repeat (first | exact TsSub.nil | apply TsSub.cons (by first | with_reducible exact Sub.refl _ | exact Sub.slxT rfl | exact Sub.slT rfl | exact Sub.slx rfl | exact Sub.nil _ _ | exact Sub.refl _) | fail)); done)
theorem rfBytB (l : List UInt8) (hl : l.length ≤ 134217728) : CallsC Try.prog 31 [TBytes l] [] (fun v => TAnd (Is v) (TBytes (Oct.bytB l))) (fun v => [ownSl v 1 5]) := rfBytes l hl
theorem wrOut (g : Nat) (l : List UInt8) (hl : l.length ≤ 134217728) : CallsC Try.prog 29 [Is (pAt g 0)] [WX g l] (fun _ => TBytes l) (fun _ => [empR]) := by
  have c1 := wrClone
  refine CallsC.of Try.call29 Try.func29 rfl Try.ntmps29 rfl fun w0 G0 S0 hs ho => ?_
  refine HT.unpack 0 rfl fun v => ?_
  exact run trivial
end Go.Proofs.Ytibabbepnhpaiaa
