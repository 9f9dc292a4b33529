/-
  The laws of chapter 18: what is looked at, and what is known.
-/
import Derived.Test.YtjbcdakjbpepdaaA2
set_option linter.unusedVariables false
namespace Go.Ac
open Go.Vk
open Go.Dn (Ava cAva wgt)
def wgts (L : List (List Ava)) : Nat := (L.map wgt).sum
theorem wgts_take_succ {L : List (List Ava)} {i : Nat} (h : i < L.length) : wgts (L.take (i + 1)) = wgts (L.take i) + wgt (L.getD i default) := by
  unfold wgts
  rw [List.take_succ_eq_append_getElem h, List.getD_eq_getElem?_getD, List.getElem?_eq_getElem h, List.map_append, List.sum_append]
  simp
theorem wgts_take_le (L : List (List Ava)) (i : Nat) : wgts (L.take i) ≤ wgts L := by
  have : ∀ (a b : List (List Ava)), wgts (a ++ b) = wgts a + wgts b := by intro a b; simp [wgts]
  have h := this (L.take i) (L.drop i)
  rw [List.take_append_drop] at h
  omega
theorem wgts_mem {L : List (List Ava)} {l : List Ava} (h : l ∈ L) : wgt l ≤ wgts L := by
  obtain ⟨i, hi, e⟩ := List.getElem_of_mem h
  have h1 := wgts_take_succ hi
  have h2 := wgts_take_le L (i + 1)
  rw [List.getD_eq_getElem?_getD, List.getElem?_eq_getElem hi] at h1
  simp only [Option.getD_some, e] at h1
  omega
/-- The names of some rules. -/
def names (l : List Rule) : List (List Ava) := l.flatMap fun r => [r.name, r.base]
theorem names_take {l : List Rule} {i : Nat} (h : i < l.length) : names (l.take (i + 1)) = names (l.take i) ++ [(l.getD i default).name, (l.getD i default).base] := by
  unfold names
  rw [List.take_succ_eq_append_getElem h, List.getD_eq_getElem?_getD, List.getElem?_eq_getElem h, List.flatMap_append]
  simp
def greatB (l : List Rule) : Bool := decide (81 < l.length) || l.any (fun r => decide (100 < r.typ.length)) || decide (1500 < wgts (names l))
theorem names_len (l : List Rule) : (names l).length = 2 * l.length := by
  induction l with
  | nil => rfl
  | cons a l ih => unfold names at *; rw [List.flatMap_cons, List.length_append, ih]; simp; omega
theorem names_mem {l : List Rule} {x : List Ava} (h : x ∈ names l) : ∃ r ∈ l, x = r.name ∨ x = r.base := by
  unfold names at h
  obtain ⟨r, hr, hx⟩ := List.mem_flatMap.1 h
  exact ⟨r, hr, by simpa using hx⟩
theorem great_any {l : List Rule} {i : Nat} (h : i < l.length) (h1 : 80 < (i : Int) ∨ 100 < ((l.getD i default).typ.length : Int)) : greatB l = true := by
  unfold greatB
  rcases h1 with h1 | h1
  · rw [decide_eq_true (by omega)]; simp
  · have : l.any (fun r => decide (100 < r.typ.length)) = true := List.any_eq_true.2 ⟨_, getD_mem h, decide_eq_true (by omega)⟩
    rw [this]; simp
theorem great_end {l : List Rule} {i : Nat} (h : ¬ (i : Int) < (l.length : Int)) (hi : i ≤ l.length) (h1 : i ≤ 81) (h2 : (l.take i).any (fun r => decide (100 < r.typ.length)) = false) : decide (1500 < wgts (names (l.take i))) = greatB l := by
  rw [List.take_of_length_le (by omega)] at h2 ⊢
  unfold greatB
  rw [decide_eq_false (p := 81 < l.length) (by omega), h2]; simp
theorem great_ok {l : List Rule} (h : greatB l = false) : l.length ≤ 81 ∧ ∀ r ∈ l, okR r := by
  unfold greatB at h
  simp only [Bool.or_eq_false_iff, decide_eq_false_iff_not, List.any_eq_false, decide_eq_true_eq] at h
  obtain ⟨⟨h1, h2⟩, h3⟩ := h
  refine ⟨by omega, fun r hr => ⟨?_, ?_, by have := h2 r hr; omega⟩⟩
  · have := wgts_mem (L := names l) (l := r.name) (by unfold names; exact List.mem_flatMap.2 ⟨r, hr, by simp⟩); omega
  · have := wgts_mem (L := names l) (l := r.base) (by unfold names; exact List.mem_flatMap.2 ⟨r, hr, by simp⟩); omega
/-- What the form's reach bounds. -/
def bigN (l : List Ava) : Prop := l.length ≤ 140737488351232 ∧ ∀ a ∈ l, a.typ.length ≤ 140737488351232 ∧ a.val.length ≤ 140737488351232
def bigR (r : Rule) : Prop := bigN r.name ∧ bigN r.base ∧ r.typ.length ≤ 140737488351232
end Go.Ac
set_option linter.unusedVariables false
namespace Go.Proofs.Ytjbcdakjbpepdaa
open Go.Vk
attribute [local irreducible] HT HX RegS RegA RegM OpP OpC
attribute [local irreducible] Dn.typB Dn.isE Dn.sameE Dn.underE Dn.foldE Dn.wgt Ac.isR Ac.fitsB Ac.mayR Ac.mayB Ac.wgts Ac.names
set_option maxHeartbeats 2000000 in
theorem lw18Heavy (L : List (List Dn.Ava)) (hl : L.length ≤ 140737488351232) (ha : ∀ l ∈ L, Ac.bigN l) : CFn Try.prog 8 [TSl 1 (cL 2 Dn.cAva) L] (Is (.bool (decide (1500 < Ac.wgts L)))) := by
  refine CallsC.of Try.call8 Try.func8 rfl Try.ntmps8 rfl fun w0 G0 S0 hs ho => ?_
  refine run ?_
  refine HT.loopX (σ := Nat) [0] (fun j => [(3, okI .i64 (Ac.wgts (L.take j) : Int)), (4, okI .i64 (j : Int))]) (fun _ => []) (fun j => j ≤ L.length ∧ Ac.wgts (L.take j) ≤ 1500) (fun j => L.length - j) 0 ⟨Nat.zero_le _, by unfold Ac.wgts; simp⟩ (run trivial) (run ?_) ?_
  · unfold Ac.wgts; simp
  rintro j ⟨hj, hk⟩
  by_cases hlt : j < L.length
  · have hm : L.getD j default ∈ L := by rw [List.getD_eq_getElem?_getD, List.getElem?_eq_getElem hlt]; exact List.getElem_mem hlt
    obtain ⟨hm1, hm2⟩ := ha _ hm
    have h4 := Ac.wgts_take_succ hlt
    have h5 := Ac.wgts_take_le L (j + 1)
    refine run ?_
    intro _
    refine HT.loopX (σ := Nat) [0, 4] (fun i => [(3, okI .i64 ((Ac.wgts (L.take j) + Dn.wgt ((L.getD j default).take i) : Nat) : Int)), (5, okI .i64 (i : Int))]) (fun _ => []) (fun i => i ≤ (L.getD j default).length ∧ Ac.wgts (L.take j) + Dn.wgt ((L.getD j default).take i) ≤ 1500) (fun i => (L.getD j default).length - i) 0 ⟨Nat.zero_le _, by unfold Dn.wgt; simpa using hk⟩ (run trivial) (run ?_) ?_
    · unfold Dn.wgt; simp
    rintro i ⟨hi, hk2⟩
    by_cases hlt2 : i < (L.getD j default).length
    · have h3 := hm2 _ (Dn.getD_mem hlt2)
      have h6 := Dn.wgt_take_succ hlt2
      have h7 := Dn.wgt_take_le (L.getD j default) (i + 1)
      refine run ?_
      and_intros
      all_goals intros
      exact HX.roundX (i + 1) ⟨⟨by omega, by omega⟩, by omega⟩ rfl (run trivial) (run trivial)
    · refine run ?_
      and_intros
      all_goals intros
      rw [List.take_of_length_le (show (L.getD j default).length ≤ i by omega)] at *
      exact HX.roundX (j + 1) ⟨⟨by omega, by omega⟩, by omega⟩ rfl (run trivial) (run trivial)
  · refine run ?_
    intro _
    rw [List.take_of_length_le (by omega)] at hk
    exact (decide_eq_false (by omega)).symm
set_option maxHeartbeats 2000000 in
theorem lw18Great (l : List Ac.Rule) (hl : l.length ≤ 140737488351232) (ha : ∀ r ∈ l, Ac.bigR r) : CFn Try.prog 7 [TSl 7 Ac.cRule l] (Is (.bool (Ac.greatB l))) := by
  have c1 := lw18Heavy
  have pl := Plan.mk' 5 [(0,3,[]),(1,3,[]),(2,3,[]),(3,3,[]),(4,3,[]),(5,3,[]),(6,3,[]),(7,3,[]),(8,3,[]),(9,3,[]),(10,3,[]),(11,3,[]),(12,0,[]),(13,3,[])]
  refine CallsC.of Try.call7 Try.func7 rfl Try.ntmps7 rfl fun w0 G0 S0 hs ho => ?_
  refine run ?_
  refine HT.loopX (σ := Nat × Value) [0] (fun t => [(3, TAnd (Is t.2) (TSl 1 (cL 2 Dn.cAva) (Ac.names (l.take t.1)))), (4, okI .i64 (t.1 : Int))]) (fun t => [ownSl t.2 1 23]) (fun t => t.1 ≤ l.length ∧ t.1 ≤ 81 ∧ (l.take t.1).any (fun r => decide (100 < r.typ.length)) = false) (fun t => l.length - t.1) (0, .slice none 0 0) ⟨Nat.zero_le _, Nat.zero_le _, by simp⟩ (run trivial) (run ?_) ?_
  · unfold Ac.names; rfl
  rintro ⟨i, v⟩ ⟨hi, hi2, hp⟩
  dsimp only at hi hi2 hp ⊢
  have hnl := Ac.names_len (l.take i)
  have htl : (l.take i).length = i := by rw [List.length_take]; omega
  by_cases hlt : i < l.length
  · refine run ?_
    and_intros
    all_goals intros
    · rename_i h
      exact (Ac.great_any hlt h).symm
    · rename_i v' _ h
      refine HX.roundX (i + 1, v') ⟨⟨by dsimp only; omega, by dsimp only; omega, ?_⟩, by dsimp only; omega⟩ rfl (run trivial) (run ?_)
      · dsimp only
        rw [List.take_succ_eq_append_getElem hlt, List.any_append, hp]
        have h2 := h.2
        rw [List.getD_eq_getElem?_getD, List.getElem?_eq_getElem hlt] at h2
        have h3 : ¬ 100 < (l[i].typ.length : Int) := h2
        simp; omega
      · rw [Ac.names_take hlt, List.map_append]; rfl
  · have hN : ∀ x ∈ Ac.names (l.take i), Ac.bigN x := by
      intro x hx
      obtain ⟨r, hr, hx⟩ := Ac.names_mem hx
      have := ha r (List.mem_of_mem_take hr)
      rcases hx with rfl | rfl
      · exact this.1
      · exact this.2.1
    have c1 := lw18Heavy (Ac.names (l.take i)) (by omega) hN
    refine run ?_
    exact fun h => Ac.great_end h hi hi2 hp
end Go.Proofs.Ytjbcdakjbpepdaa
