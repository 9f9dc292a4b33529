/-
  The law BerAlls, for all arguments; All and the document's All.
-/
import Derived.Test.YtmfhacngjbhldaaC3
set_option linter.unusedVariables false
namespace Go.Ber
open Go.Vk
abbrev It := UInt8 × List UInt8
def cIt (x : It) : List Ty := [okI .u8 (x.1.toNat : Int), TBytes x.2]
/-- All tags and bodies, one behind the other; the error. -/
def allE : Nat → List UInt8 → List It → List It × Int
  | 0, _, l => (l, 0)
  | k + 1, b, l => if b.length = 0 then (l, 0) else if (nextB b).e = 0 then allE k (nextB b).rest (l ++ [((nextB b).tag, (nextB b).body)]) else ([], (nextB b).e)
theorem allE_end {k : Nat} {b : List UInt8} {l : List It} (h : b.length = 0) : allE k b l = (l, 0) := by
  cases k
  · rfl
  · unfold allE; rw [if_pos h]
theorem allE_bad {k : Nat} {b : List UInt8} {l : List It} (h : ¬ b.length = 0) (h1 : ¬ (nextB b).e = 0) : allE (k + 1) b l = ([], (nextB b).e) := by
  unfold allE; rw [if_neg h, if_neg h1]
theorem allE_go {k : Nat} {b : List UInt8} {l : List It} (h : ¬ b.length = 0) (h1 : (nextB b).e = 0) : allE (k + 1) b l = allE k (nextB b).rest (l ++ [((nextB b).tag, (nextB b).body)]) := by
  conv => lhs; unfold allE
  rw [if_neg h, if_pos h1]
theorem allE_len : ∀ (k : Nat) (b : List UInt8) (l : List It), (allE k b l).1.length ≤ l.length + b.length
  | 0, b, l => by show l.length ≤ _; omega
  | k + 1, b, l => by
    have h := nextB_len b
    unfold allE
    split
    · dsimp only; omega
    · split
      · rename_i h1
        have := allE_len k (nextB b).rest (l ++ [((nextB b).tag, (nextB b).body)])
        have h2 := h.2.2 h1
        simp only [List.length_append, List.length_cons, List.length_nil] at this
        omega
      · simp
end Go.Ber
set_option linter.unusedVariables false
namespace Go.Proofs.Ytmfhacngjbhldaa
open Go.Vk
attribute [local irreducible] HT HX RegS RegA RegM OpP OpC
attribute [local irreducible] Ber.lenB Ber.tagB Ber.nextB Ber.allE
set_option maxHeartbeats 1000000 in
theorem all (b : List UInt8) (hl : b.length ≤ 134217728) : CFn Try.prog 22 [TBytes b] (TTup [TSl 2 Ber.cIt (Ber.allE b.length b []).1, okI .i64 (Ber.allE b.length b []).2]) := by
  have c1 := @next
  have c2 := @clone
  refine CallsC.of Try.call22 Try.func22 rfl Try.ntmps22 rfl fun w0 G0 S0 hs ho => ?_
  refine run ?_
  refine HT.loopX (σ := (Nat × List UInt8) × List Ber.It × Value) [] (fun t => [(0, TBytes t.1.2), (4, TAnd (Is t.2.2) (TSl 2 Ber.cIt t.2.1))]) (fun t => [ownSl t.2.2 2 53]) (fun t => Ber.allE t.1.1 t.1.2 t.2.1 = Ber.allE b.length b [] ∧ t.1.2.length ≤ t.1.1 ∧ t.2.1.length + t.1.2.length ≤ b.length) (fun t => t.1.2.length) ((b.length, b), [], .slice none 0 0) ⟨rfl, by simp, by simp⟩ (run trivial) (run trivial) ?_
  rintro ⟨⟨k, c⟩, l, v⟩ ⟨h1, h2, h3⟩
  dsimp only at h1 h2 h3 ⊢
  have hn := Ber.nextB_len c
  by_cases h0 : c.length = 0
  · rw [Ber.allE_end h0] at h1
    rw [← h1]
    exact run trivial
  · obtain ⟨k, rfl⟩ : ∃ j, k = j + 1 := ⟨k - 1, by omega⟩
    by_cases h5 : (Ber.nextB c).e = 0
    · rw [Ber.allE_go h0 h5] at h1
      have hn2 := hn.2.2 h5
      refine run ?_
      intro v' _ _
      exact HX.roundX ((k, (Ber.nextB c).rest), l ++ [((Ber.nextB c).tag, (Ber.nextB c).body)], v') ⟨⟨h1, by dsimp only; omega, by simp; omega⟩, by dsimp only; omega⟩ rfl (run trivial) (run trivial)
    · rw [Ber.allE_bad h0 h5] at h1
      rw [← h1]
      exact run trivial
set_option maxHeartbeats 1000000 in
theorem refAll (b : List UInt8) (hl : b.length ≤ 134217728) : CFn Try.prog 23 [TBytes b] (TTup [TSl 2 Ber.cIt (Ber.allE b.length b []).1, okI .i64 (Ber.allE b.length b []).2]) := by
  have c1 := @refNext
  refine CallsC.of Try.call23 Try.func23 rfl Try.ntmps23 rfl fun w0 G0 S0 hs ho => ?_
  refine run ?_
  refine HT.loopX (σ := (Nat × List UInt8) × List Ber.It × Value) [] (fun t => [(0, TBytes t.1.2), (4, TAnd (Is t.2.2) (TSl 2 Ber.cIt t.2.1))]) (fun t => [ownSl t.2.2 2 54]) (fun t => Ber.allE t.1.1 t.1.2 t.2.1 = Ber.allE b.length b [] ∧ t.1.2.length ≤ t.1.1 ∧ t.2.1.length + t.1.2.length ≤ b.length) (fun t => t.1.2.length) ((b.length, b), [], .slice none 0 0) ⟨rfl, by simp, by simp⟩ (run trivial) (run trivial) ?_
  rintro ⟨⟨k, c⟩, l, v⟩ ⟨h1, h2, h3⟩
  dsimp only at h1 h2 h3 ⊢
  have hn := Ber.nextB_len c
  by_cases h0 : c.length = 0
  · rw [Ber.allE_end h0] at h1
    rw [← h1]
    exact run trivial
  · obtain ⟨k, rfl⟩ : ∃ j, k = j + 1 := ⟨k - 1, by omega⟩
    by_cases h5 : (Ber.nextB c).e = 0
    · rw [Ber.allE_go h0 h5] at h1
      have hn2 := hn.2.2 h5
      refine run ?_
      intro v' _ _
      exact HX.roundX ((k, (Ber.nextB c).rest), l ++ [((Ber.nextB c).tag, (Ber.nextB c).body)], v') ⟨⟨h1, by dsimp only; omega, by simp; omega⟩, by dsimp only; omega⟩ rfl (run trivial) (run trivial)
    · rw [Ber.allE_bad h0 h5] at h1
      rw [← h1]
      exact run trivial
theorem berAlls (b : List UInt8) : CFn Try.prog 9 [TBytes b] (Is (.bool true)) := by
  have c1 := @all
  have c2 := @refAll
  have c3 := known
  have hb := Ber.allE_len b.length b []
  refine CallsC.of Try.call9 Try.func9 rfl Try.ntmps9 rfl fun w0 G0 S0 hs ho => ?_
  refine run ?_
  refine ⟨?_, ?_⟩
  · rintro _ (h | h)
    · exact absurd rfl h
    · exact absurd rfl h
  intro hc _
  simp only [List.nil_append]
  have hb : (Ber.allE b.length b []).1.length ≤ b.length := by simpa using hb
  refine HT.loopX (σ := Nat) [3, 5] (fun i => [(7, okI .i64 (i : Int))]) (fun _ => []) (fun i => i ≤ (Ber.allE b.length b []).1.length) (fun i => (Ber.allE b.length b []).1.length - i) 0 (Nat.zero_le _) (run trivial) (run trivial) ?_
  intro i hi
  refine run ?_
  refine ⟨?_, ?_⟩
  · rintro _ (h | h)
    · exact absurd rfl h
    · exact absurd rfl h
  intro _ _
  exact HX.roundX (i + 1) ⟨by omega, by omega⟩ rfl (run trivial) (run trivial)
end Go.Proofs.Ytmfhacngjbhldaa
