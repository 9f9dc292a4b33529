/-
  The contracts of whether a filter may be: the document's.
  The contract of the document's Parse of filters: it answers as the plain parser does.
  The contracts of the laws FilterParses, FilterSettles, FilterDeep.
  How heavy a filter is, and filters as arguments: the contracts of heavy, of the laws FilterBack and FilterLooks.
  The contracts of the document's text of a filter, and of the law FilterLooks.
-/
import Derived.Test.YthjckklijlfghaaGak
import Derived.Test.YthjckklijlfghaaGal
import Derived.Test.YthjckklijlfghaaGao
import Derived.Test.YthjckklijlfghaaGap
import Derived.Test.YthjckklijlfghaaGad
import Derived.Test.YthjckklijlfghaaGam
set_option linter.unusedSimpArgs false
set_option linter.unusedVariables false
set_option linter.unusedVariables false
namespace Go.Fi
open Go.Vk
open Go.Dn (typB typC halfV)
/-- Whether a piece may not stand where it stands. -/
def badAt (l : List (List UInt8)) (i : Nat) : Bool := decide ((256 : Int) < ((l.getD i default).length : Int)) || (decide (l.getD i default = []) && decide (0 < i) && decide (i + 1 < l.length))
theorem mem_mid {l : List (List UInt8)} {s : List UInt8} : s ∈ (l.drop 1).dropLast ↔ ∃ i, 0 < i ∧ i + 1 < l.length ∧ l.getD i default = s := by
  rw [List.mem_iff_getElem]
  simp only [List.length_dropLast, List.length_drop]
  constructor
  · rintro ⟨i, hi, h⟩
    refine ⟨i + 1, by omega, by omega, ?_⟩
    rw [List.getElem_dropLast, List.getElem_drop] at h
    rw [List.getD_eq_getElem?_getD, List.getElem?_eq_getElem (by omega), Option.getD_some, ← h]
    congr 1; omega
  · rintro ⟨i, h0, h1, h⟩
    refine ⟨i - 1, by omega, ?_⟩
    rw [List.getElem_dropLast, List.getElem_drop]
    rw [List.getD_eq_getElem?_getD, List.getElem?_eq_getElem (by omega), Option.getD_some] at h
    rw [← h]
    congr 1; omega
theorem mem_at {l : List (List UInt8)} {s : List UInt8} : s ∈ l ↔ ∃ i, i < l.length ∧ l.getD i default = s := by
  rw [List.mem_iff_getElem]
  constructor
  · rintro ⟨i, hi, h⟩
    exact ⟨i, hi, by rw [List.getD_eq_getElem?_getD, List.getElem?_eq_getElem hi, Option.getD_some, h]⟩
  · rintro ⟨i, hi, h⟩
    rw [List.getD_eq_getElem?_getD, List.getElem?_eq_getElem hi, Option.getD_some] at h
    exact ⟨i, hi, h⟩
theorem bad_snoc {l : List (List UInt8)} {i : Nat} (h : ∀ j, j < i → badAt l j = false) (hb : badAt l i = false) : ∀ j, j < i + 1 → badAt l j = false := fun j hj => by
  rcases Nat.lt_succ_iff_lt_or_eq.1 hj with h1 | h1
  · exact h j h1
  · rw [h1]; exact hb
theorem subsB_short {l : List (List UInt8)} (h : l.length < 2 ∨ 16 < l.length) : subsB l = false := by
  unfold subsB
  rcases h with h | h
  · rw [decide_eq_false (by omega : ¬ 2 ≤ l.length)]; simp
  · rw [decide_eq_false (by omega : ¬ l.length ≤ 16)]; simp
theorem subsB_bad {l : List (List UInt8)} {i : Nat} (hi : i < l.length) (h : badAt l i = true) : subsB l = false := by
  unfold subsB
  unfold badAt at h
  simp only [Bool.or_eq_true, Bool.and_eq_true, decide_eq_true_eq] at h
  rcases h with h | ⟨⟨h1, h2⟩, h3⟩
  · have : l.all okS = false := by
      rw [Bool.eq_false_iff]
      intro ha
      rw [List.all_eq_true] at ha
      have := ha _ (mem_at.2 ⟨i, hi, rfl⟩)
      unfold okS at this
      simp only [decide_eq_true_eq] at this
      omega
    rw [this]; simp
  · have : (l.drop 1).dropLast.all (fun s => !decide (s = [])) = false := by
      rw [Bool.eq_false_iff]
      intro ha
      rw [List.all_eq_true] at ha
      have := ha _ (mem_mid.2 ⟨i, h2, h3, rfl⟩)
      rw [h1] at this
      simp at this
    rw [this]; simp
theorem subsB_end {l : List (List UInt8)} (h1 : 2 ≤ l.length) (h2 : l.length ≤ 16) (h : ∀ i, i < l.length → badAt l i = false) : subsB l = l.any (fun s => !decide (s = [])) := by
  have ha : l.all okS = true := by
    rw [List.all_eq_true]
    intro s hs
    obtain ⟨i, hi, rfl⟩ := mem_at.1 hs
    have := h i hi
    unfold badAt at this
    simp only [Bool.or_eq_false_iff, decide_eq_false_iff_not] at this
    unfold okS
    simp only [decide_eq_true_eq]
    omega
  have hb : (l.drop 1).dropLast.all (fun s => !decide (s = [])) = true := by
    rw [List.all_eq_true]
    intro s hs
    obtain ⟨i, h3, h4, rfl⟩ := mem_mid.1 hs
    have := h i (by omega)
    unfold badAt at this
    rw [decide_eq_true h3, decide_eq_true h4] at this
    simp only [Bool.and_true, Bool.or_eq_false_iff] at this
    rw [this.2]; rfl
  unfold subsB
  rw [ha, hb, decide_eq_true h1, decide_eq_true h2]; rfl
theorem any_snoc {l : List (List UInt8)} {i : Nat} (h : i < l.length) : (l.take (i + 1)).any (fun s => !decide (s = [])) = ((l.take i).any (fun s => !decide (s = [])) || !decide (l.getD i default = [])) := by
  rw [List.take_add_one, List.any_append, List.getElem?_eq_getElem h, List.getD_eq_getElem?_getD, List.getElem?_eq_getElem h]
  simp
theorem one_big {k : Int} {t v : List UInt8} {s : List (List UInt8)} {ks : List Fil} {d : Nat} (h : ¬ d ≤ 16) : oneF (.mk k t v s ks) d = false := by
  unfold oneF; rw [decide_eq_false h]; rfl
theorem one_box {k : Int} {t v : List UInt8} {s : List (List UInt8)} {ks : List Fil} {d : Nat} (h : d ≤ 16) (hk : k = 0 ∨ k = 1 ∨ k = 2) : oneF (.mk k t v s ks) d = (decide (t = []) && decide (v = []) && decide (s = []) && decide (ks ≠ []) && (decide (k ≠ 2) || decide (ks.length ≤ 1)) && oneL ks (d + 1)) := by
  conv => lhs; unfold oneF
  rw [decide_eq_true h, if_pos hk]; rfl
theorem one_leaf {k : Int} {t v : List UInt8} {s : List (List UInt8)} {ks : List Fil} {d : Nat} (h : d ≤ 16) (hk : k = 3 ∨ k = 5 ∨ k = 6) : oneF (.mk k t v s ks) d = (decide (ks = []) && decide (s = []) && typB t && okS v) := by
  conv => lhs; unfold oneF
  rw [decide_eq_true h, if_neg (by omega), if_pos hk]; rfl
theorem one_4 {t v : List UInt8} {s : List (List UInt8)} {ks : List Fil} {d : Nat} (h : d ≤ 16) : oneF (.mk 4 t v s ks) d = (decide (ks = []) && decide (v = []) && typB t && subsB s) := by
  conv => lhs; unfold oneF
  rw [decide_eq_true h]; rfl
theorem one_7 {t v : List UInt8} {s : List (List UInt8)} {ks : List Fil} {d : Nat} (h : d ≤ 16) : oneF (.mk 7 t v s ks) d = (decide (ks = []) && decide (v = []) && decide (s = []) && typB t) := by
  conv => lhs; unfold oneF
  rw [decide_eq_true h]; rfl
theorem one_x {k : Int} {t v : List UInt8} {s : List (List UInt8)} {ks : List Fil} {d : Nat} (h : d ≤ 16) (hk : ¬ (k = 0 ∨ k = 1 ∨ k = 2) ∧ ¬ (k = 3 ∨ k = 5 ∨ k = 6) ∧ k ≠ 4 ∧ k ≠ 7) : oneF (.mk k t v s ks) d = false := by
  unfold oneF
  rw [if_neg hk.1, if_neg hk.2.1, if_neg hk.2.2.1, if_neg hk.2.2.2]; simp
theorem drop_fil {l : List Fil} {i : Nat} (h : i < l.length) : l.drop i = l.getD i default :: l.drop (i + 1) := by
  rw [List.drop_eq_getElem_cons h, List.getD_eq_getElem?_getD, List.getElem?_eq_getElem h, Option.getD_some]
theorem oneL_cons (f : Fil) (r : List Fil) (d : Nat) : oneL (f :: r) d = (oneF f d && oneL r d) := by
  conv => lhs; unfold oneL
theorem nilF {l : List Fil} : l = [] ↔ (l.length : Int) = 0 := by
  rw [← List.length_eq_zero_iff]; omega
theorem nilS {l : List (List UInt8)} : l = [] ↔ (l.length : Int) = 0 := by
  rw [← List.length_eq_zero_iff]; omega
mutual
theorem nodes_wt : ∀ f : Fil, nodes f ≤ wt f
  | .mk k t v s ks => by
    have := nodesL_wt ks
    rw [nodes, wt]; omega
theorem nodesL_wt : ∀ l : List Fil, nodesL l ≤ wtL l
  | [] => by rw [nodesL, wtL]; omega
  | f :: r => by
    have h1 := nodes_wt f
    have h2 := nodesL_wt r
    rw [nodesL, wtL]; omega
end
end Go.Fi
set_option linter.unusedVariables false
namespace Go.Proofs.Ythjckklijlfghaa
open Go.Vk
attribute [local irreducible] HT HX RegS RegA RegM OpP OpC AltT
attribute [local irreducible] Dn.typB Fi.nodes Fi.nodesL Fi.oneF Fi.oneL Fi.subsB
set_option maxHeartbeats 2000000 in
theorem rfSubs (l : List (List UInt8)) (hl : l.length ≤ 1000000) : CFn Try.prog 38 [TSl 1 Fi.cS l] (Is (.bool (Fi.subsB l))) := by
  by_cases hs : l.length < 2 ∨ 16 < l.length
  · rw [Fi.subsB_short hs]
    refine CallsC.of Try.call38 Try.func38 rfl Try.ntmps38 rfl fun w0 G0 S0 hs ho => ?_
    exact run trivial
  refine CallsC.of Try.call38 Try.func38 rfl Try.ntmps38 rfl fun w0 G0 S0 hs ho => ?_
  refine run ?_
  intro _
  refine HT.loopX (σ := Nat) [0] (fun i => [(3, Is (.bool ((l.take i).any (fun s => !decide (s = []))))), (4, okI .i64 (i : Int))]) (fun _ => []) (fun i => i ≤ l.length ∧ ∀ j, j < i → Fi.badAt l j = false) (fun i => l.length - i) 0 ⟨Nat.zero_le _, fun j h => absurd h (Nat.not_lt_zero _)⟩ (run trivial) (by first | exact run trivial | (refine run ?_; simp)) ?_
  rintro i ⟨hi, he⟩
  by_cases hlt : i < l.length
  · have hu : Fi.badAt l i = (decide ((256 : Int) < ((l.getD i default).length : Int)) || (decide (l.getD i default = []) && decide (0 < i) && decide (i + 1 < l.length))) := rfl
    have hsn := Fi.any_snoc hlt
    cases hb : Fi.badAt l i with
    | true =>
      rw [Fi.subsB_bad hlt hb]
      rw [hb] at hu
      simp only [Bool.true_eq, Bool.or_eq_true, Bool.and_eq_true, decide_eq_true_eq] at hu
      refine run ?_
      intros
      exfalso; grind
    | false =>
      rw [hb] at hu
      simp only [Bool.false_eq, Bool.or_eq_false_iff, Bool.and_eq_false_iff, decide_eq_false_iff_not] at hu
      refine run ?_
      refine ⟨?_, ?_⟩ <;> intros
      · exfalso; grind
      · exact HX.roundX (i + 1) ⟨⟨by omega, Fi.bad_snoc he hb⟩, by omega⟩ rfl (run trivial) (by refine run ?_; rw [hsn]; simp)
  · have ht : l.take i = l := List.take_of_length_le (by omega)
    rw [Fi.subsB_end (by omega) (by omega) (fun j hj => he j (by omega)), ht]
    have hno : ¬ (i : Int) < (l.length : Int) := by omega
    exact run trivial
/-- What a filter's contract is, where it stands so deep. -/
def OneC (f : Fi.Fil) : Prop := ∀ d : Nat, d ≤ 17 → CFn Try.prog 24 [TAgg (Fi.cF f), okI .i64 (d : Int)] (Is (.bool (Fi.oneF f d)))
set_option maxHeartbeats 4000000 in
theorem rfOne_b (k : Int) (t v : List UInt8) (s : List (List UInt8)) (ks : List Fi.Fil) (hk : k = 0 ∨ k = 1 ∨ k = 2) (hk1 : ks.length ≤ 1000000) (IH : ∀ f ∈ ks, OneC f) : OneC (.mk k t v s ks) := by
  intro d hd
  by_cases hdd : d ≤ 16
  · rw [Fi.one_box hdd hk, Fi.cF_open]
    dsimp only [Fi.Fil.kind, Fi.Fil.typ, Fi.Fil.val, Fi.Fil.subs, Fi.Fil.kids]
    cases hB : (decide (t = []) && decide (v = []) && decide (s = []) && decide (ks ≠ []) && (decide (k ≠ 2) || decide (ks.length ≤ 1))) with
    | true =>
      rw [Bool.true_and]
      simp only [Bool.and_eq_true, Bool.or_eq_true, decide_eq_true_eq] at hB
      obtain ⟨⟨⟨⟨rfl, rfl⟩, rfl⟩, hne⟩, hB⟩ := hB
      rw [ne_eq, Fi.nilF] at hne
      rcases hk with rfl | rfl | rfl
      all_goals
        refine CallsC.of Try.call24 Try.func24 rfl Try.ntmps24 rfl fun w0 G0 S0 hs ho => ?_
        refine run ?_
        (refine ⟨?_, ?_⟩ <;> intros)
        · exfalso; grind
        refine HT.loopX (σ := Nat) [1, 2, 9] (fun i => [(5, okI .i64 (i : Int))]) (fun _ => []) (fun i => i ≤ ks.length ∧ Fi.oneL (ks.drop i) (d + 1) = Fi.oneL ks (d + 1)) (fun i => ks.length - i) 0 ⟨Nat.zero_le _, rfl⟩ (run trivial) (run trivial) ?_
        rintro i ⟨hi, he⟩
        by_cases hlt : i < ks.length
        · have c1 : CFn Try.prog 24 [TAgg (Fi.cF (ks.getD i default)), okI .i64 ((d : Int) + 1)] (Is (.bool (Fi.oneF (ks.getD i default) (d + 1)))) := IH _ (En.getD_mem hlt) (d + 1) (by omega)
          rw [Fi.drop_fil hlt, Fi.oneL_cons] at he
          clear IH
          cases h1 : Fi.oneF (ks.getD i default) (d + 1) with
          | true =>
            rw [h1] at c1
            rw [h1, Bool.true_and] at he
            refine run ?_
            intros
            exact HX.roundX (i + 1) ⟨⟨by omega, he⟩, by omega⟩ rfl (run trivial) (run trivial)
          | false =>
            rw [h1] at c1
            rw [h1, Bool.false_and] at he
            rw [← he]
            exact run trivial
        · rw [← he, List.drop_of_length_le (by omega)]
          clear IH
          refine run ?_
          intros
          unfold Fi.oneL; rfl
    | false =>
      rw [Bool.false_and]
      clear IH
      rcases hk with rfl | rfl | rfl
      all_goals
        refine CallsC.of Try.call24 Try.func24 rfl Try.ntmps24 rfl fun w0 G0 S0 hs ho => ?_
        refine run ?_
        intros
        exfalso
        have e1 := Fi.nilF (l := ks)
        have e2 := Fi.nilS (l := s)
        grind
  · rw [Fi.one_big hdd]
    clear IH
    refine CallsC.of Try.call24 Try.func24 rfl Try.ntmps24 rfl fun w0 G0 S0 hs ho => ?_
    exact run trivial
set_option maxHeartbeats 4000000 in
theorem rfOne_3 (k : Int) (t v : List UInt8) (s : List (List UInt8)) (ks : List Fi.Fil) (hk : k = 3 ∨ k = 5 ∨ k = 6) (ht : t.length ≤ 1000000) : OneC (.mk k t v s ks) := by
  intro d hd
  by_cases hdd : d ≤ 16
  · rw [Fi.one_leaf hdd hk, Fi.cF_open]
    dsimp only [Fi.Fil.kind, Fi.Fil.typ, Fi.Fil.val, Fi.Fil.subs, Fi.Fil.kids]
    have c1 := rfType t (by omega)
    refine CallsC.of Try.call24 Try.func24 rfl Try.ntmps24 rfl fun w0 G0 S0 hs ho => ?_
    refine run ?_
    and_intros <;> intros <;> simp only [Fi.nilF, Fi.nilS, Fi.okS]
  · rw [Fi.one_big hdd]
    refine CallsC.of Try.call24 Try.func24 rfl Try.ntmps24 rfl fun w0 G0 S0 hs ho => ?_
    exact run trivial
set_option maxHeartbeats 4000000 in
theorem rfOne_4 (t v : List UInt8) (s : List (List UInt8)) (ks : List Fi.Fil) (ht : t.length ≤ 1000000) (hs1 : s.length ≤ 1000000) : OneC (.mk 4 t v s ks) := by
  intro d hd
  by_cases hdd : d ≤ 16
  · rw [Fi.one_4 hdd, Fi.cF_open]
    dsimp only [Fi.Fil.kind, Fi.Fil.typ, Fi.Fil.val, Fi.Fil.subs, Fi.Fil.kids]
    have c1 := rfType t (by omega)
    have c2 := rfSubs s hs1
    refine CallsC.of Try.call24 Try.func24 rfl Try.ntmps24 rfl fun w0 G0 S0 hs ho => ?_
    refine run ?_
    and_intros <;> intros <;> simp only [Fi.nilF, Fi.nilS, Fi.okS]
  · rw [Fi.one_big hdd]
    refine CallsC.of Try.call24 Try.func24 rfl Try.ntmps24 rfl fun w0 G0 S0 hs ho => ?_
    exact run trivial
set_option maxHeartbeats 4000000 in
theorem rfOne_7 (t v : List UInt8) (s : List (List UInt8)) (ks : List Fi.Fil) (ht : t.length ≤ 1000000) : OneC (.mk 7 t v s ks) := by
  intro d hd
  by_cases hdd : d ≤ 16
  · rw [Fi.one_7 hdd, Fi.cF_open]
    dsimp only [Fi.Fil.kind, Fi.Fil.typ, Fi.Fil.val, Fi.Fil.subs, Fi.Fil.kids]
    have c1 := rfType t (by omega)
    refine CallsC.of Try.call24 Try.func24 rfl Try.ntmps24 rfl fun w0 G0 S0 hs ho => ?_
    refine run ?_
    and_intros <;> intros <;> simp only [Fi.nilF, Fi.nilS, Fi.okS]
  · rw [Fi.one_big hdd]
    refine CallsC.of Try.call24 Try.func24 rfl Try.ntmps24 rfl fun w0 G0 S0 hs ho => ?_
    exact run trivial
set_option maxHeartbeats 4000000 in
theorem rfOne_x (k : Int) (t v : List UInt8) (s : List (List UInt8)) (ks : List Fi.Fil) (hk : ¬ (k = 0 ∨ k = 1 ∨ k = 2) ∧ ¬ (k = 3 ∨ k = 5 ∨ k = 6) ∧ k ≠ 4 ∧ k ≠ 7) : OneC (.mk k t v s ks) := by
  intro d hd
  by_cases hdd : d ≤ 16
  · rw [Fi.one_x hdd hk, Fi.cF_open]
    dsimp only [Fi.Fil.kind, Fi.Fil.typ, Fi.Fil.val, Fi.Fil.subs, Fi.Fil.kids]
    refine CallsC.of Try.call24 Try.func24 rfl Try.ntmps24 rfl fun w0 G0 S0 hs ho => ?_
    exact run trivial
  · rw [Fi.one_big hdd]
    refine CallsC.of Try.call24 Try.func24 rfl Try.ntmps24 rfl fun w0 G0 S0 hs ho => ?_
    exact run trivial
theorem rfOne : ∀ (N : Nat) (f : Fi.Fil), Fi.nodes f ≤ N → Fi.wt f ≤ 1000000 → OneC f
  | 0, .mk k t v s ks, h, _ => by unfold Fi.nodes at h; omega
  | N + 1, .mk k t v s ks, h, hw => by
    have e : Fi.nodes (.mk k t v s ks) = 1 + Fi.nodesL ks := by unfold Fi.nodes; rfl
    rw [e] at h
    rw [Fi.wt] at hw
    have w1 := Fi.wtl ks
    have w2 := Fi.sbl s
    by_cases k1 : k = 0 ∨ k = 1 ∨ k = 2
    · exact rfOne_b k t v s ks k1 (by omega) (fun a ha => rfOne N a (by have := Fi.kid_lt ha; omega) (by have := Fi.wtk ha; omega))
    by_cases k2 : k = 3 ∨ k = 5 ∨ k = 6
    · exact rfOne_3 k t v s ks k2 (by omega)
    by_cases k3 : k = 4
    · subst k3; exact rfOne_4 t v s ks (by omega) (by omega)
    by_cases k4 : k = 7
    · subst k4; exact rfOne_7 t v s ks (by omega)
    · exact rfOne_x k t v s ks ⟨k1, k2, k3, k4⟩
theorem rfIs (f : Fi.Fil) (hw : Fi.wt f ≤ 1000000) : CFn Try.prog 13 [TAgg (Fi.cF f)] (Is (.bool (Fi.isF f))) := by
  have c1 := rfOne (Fi.nodes f) f (Nat.le_refl _) hw 1 (by omega)
  have hn := Fi.nodes_wt f
  have c2 := rfNodes (Fi.nodes f) f (Nat.le_refl _) (by omega)
  unfold Fi.isF
  refine CallsC.of Try.call13 Try.func13 rfl Try.ntmps13 rfl fun w0 G0 S0 hs ho => ?_
  have e : decide ((Fi.nodes f : Int) ≤ 64) = decide (Fi.nodes f ≤ 64) := decide_eq_decide.2 (by omega)
  refine run ?_
  rw [e]
end Go.Proofs.Ythjckklijlfghaa
set_option linter.unusedVariables false
namespace Go.Fi
open Go.Vk
theorem rParse_err {s : List UInt8} (h : (rFilt 16 s).2.2 ≠ 0) : rParse s = (zeroF, (rFilt 16 s).2.2) := if_pos h
theorem rParse_more {s : List UInt8} (h : (rFilt 16 s).2.2 = 0) (h1 : (rFilt 16 s).2.1 ≠ []) : rParse s = (zeroF, 3) := by
  unfold rParse; rw [if_neg (by rw [h]; simp), if_pos h1]
theorem rParse_end {s : List UInt8} (h : (rFilt 16 s).2.2 = 0) (h1 : (rFilt 16 s).2.1 = []) : rParse s = if isF (rFilt 16 s).1 = true then ((rFilt 16 s).1, 0) else (zeroF, 5) := by
  unfold rParse; rw [if_neg (by rw [h]; simp), if_neg (by rw [h1]; simp)]
theorem rFilt_wt (s : List UInt8) (h : s.length ≤ 100000) (h0 : (rFilt 16 s).2.2 = 0) : wt (rFilt 16 s).1 ≤ 1000000 := by
  have h1 := filt_same 16 s
  have h2 := h1.f (h1.e.trans h0)
  rw [← h2.1]
  exact parse_wt s h
end Go.Fi
set_option linter.unusedVariables false
namespace Go.Proofs.Ythjckklijlfghaa
open Go.Vk
attribute [local irreducible] HT HX RegS RegA RegM OpP OpC AltT
attribute [local irreducible] Dn.typB Dn.halfV Fi.tk Fi.posI Fi.rFilt Fi.isF
set_option maxHeartbeats 2000000 in
theorem rdParse (s : List UInt8) (hs : s.length ≤ 100000) : CFn Try.prog 9 [Is (str s)] (TTup [TAgg (Fi.cF (Fi.rParse s).1), okI .i64 (Fi.rParse s).2]) := by
  have c1 : ∀ g, CallsC Try.prog 21 [Is (pAt g 0), okI .i64 1] [RX16 g s 0 0] (fun _ => TAgg (Fi.cF (Fi.rFilt 16 s).1)) (fun _ => [RX16 g s (Fi.posI s (Fi.rFilt 16 s).2.1) (Fi.rFilt 16 s).2.2]) := fun g => rdFilt 16 (Nat.le_refl _) g s 0 (by omega) (by omega)
  have hsf := Fi.rFilt_suf 16 s
  have hpe := Fi.pos_end hsf
  have hwt := Fi.rFilt_wt s hs
  have mu := Mut.mk' [8]
  have pl := Plan.mk' 6 [(0,3,[]),(1,3,[]),(2,3,[]),(3,3,[]),(4,2,[1]),(5,0,[1]),(6,3,[])]
  have hP1 := @Fi.rParse_err s
  have hP2 := @Fi.rParse_more s
  have hP3 := @Fi.rParse_end s
  generalize hx : Fi.rFilt 16 s = x at c1 hsf hpe hP1 hP2 hP3 hwt
  by_cases h0 : x.2.2 = 0
  · have hwt := hwt h0
    have c2 := rfIs x.1 hwt
    by_cases h1 : x.2.1 = []
    · rw [hP3 h0 h1]
      have hn : ¬ Fi.posI s x.2.1 < (s.length : Int) := fun h => hpe.1 h h1
      cases hi : Fi.isF x.1 with
      | true =>
        rw [if_pos rfl]
        rw [hi] at c2
        clear hP1 hP2 hP3
        refine CallsC.of Try.call9 Try.func9 rfl Try.ntmps9 rfl fun w0 G0 S0 hs ho => ?_
        exact run trivial
      | false =>
        rw [if_neg (by simp)]
        rw [hi] at c2
        clear hP1 hP2 hP3
        refine CallsC.of Try.call9 Try.func9 rfl Try.ntmps9 rfl fun w0 G0 S0 hs ho => ?_
        (refine run ?_; (and_intros <;> intros <;> first | rfl | assumption | omega))
    · rw [hP2 h0 h1]
      have hn : Fi.posI s x.2.1 < (s.length : Int) := hpe.2 h1
      have c3 : ∀ g, CallsC Try.prog 22 [Is (pAt g 0), okI .i64 3] [RX16 g s (Fi.posI s x.2.1) 0] (fun _ => TAgg (Fi.cF Fi.zeroF)) (fun _ => [RX16 g s (Fi.posI s x.2.1) 3]) := fun g => rdBad g s (Fi.posI s x.2.1) 0 3
      rw [h0] at c1
      clear c2 hP1 hP2 hP3
      refine CallsC.of Try.call9 Try.func9 rfl Try.ntmps9 rfl fun w0 G0 S0 hs ho => ?_
      (refine run ?_; (and_intros <;> intros <;> first | rfl | assumption | omega))
  · rw [hP1 h0]
    clear hP1 hP2 hP3
    refine CallsC.of Try.call9 Try.func9 rfl Try.ntmps9 rfl fun w0 G0 S0 hs ho => ?_
    (refine run ?_; (and_intros <;> intros <;> first | rfl | assumption | omega))
end Go.Proofs.Ythjckklijlfghaa
set_option linter.unusedVariables false
namespace Go.Fi
open Go.Vk
theorem pParse_wt3 (s : List UInt8) (h : s.length ≤ 600) : wt (pParse s).1 ≤ 4000 := by
  have := (pFilt_wt 16 s).1
  unfold pParse
  split
  · simp [zeroF, wt, wtL, subsW]
  split
  · simp [zeroF, wt, wtL, subsW]
  split
  · dsimp only; omega
  · simp [zeroF, wt, wtL, subsW]
theorem wt_nest : ∀ n : Nat, wt (nest n) = 5 * n + 8
  | 0 => rfl
  | n + 1 => by rw [nest, wt, wtL, wtL, wt_nest n]; simp [subsW]; omega
theorem wt_zero : wt zeroF = 5 := by decide +kernel
theorem nest0_pr : [40, 99, 110, 61, 97, 41] = prF (nest 0) := by decide +kernel
end Go.Fi
set_option linter.unusedVariables false
namespace Go.Proofs.Ythjckklijlfghaa
open Go.Vk
attribute [local irreducible] HT HX RegS RegA RegM OpP OpC AltT
attribute [local irreducible] Fi.isF Fi.prF Fi.pParse Fi.nodes Fi.wt Fi.nest
theorem lwParses16 (s : List UInt8) : CFn Try.prog 3 [Is (str s)] (Is (.bool true)) := by
  have c4 := lwKnown16
  by_cases hs : s.length ≤ 600
  · have c1 := fpParse s (by omega)
    have c2 := rdParse s (by omega)
    rw [← Fi.parse_same] at c2
    have hw := Fi.pParse_wt s (by omega)
    have c3 := rfSame (Fi.nodes (Fi.pParse s).1) (Fi.pParse s).1 (Nat.le_refl _) hw (Fi.pParse s).1
    rw [decide_eq_true rfl] at c3
    generalize Fi.pParse s = x at c1 c2 c3
    have su := Sure.mk' [24, 25, 26, 29]
    refine CallsC.of Try.call3 Try.func3 rfl Try.ntmps3 rfl fun w0 G0 S0 hs ho => ?_
    exact run trivial
  · refine CallsC.of Try.call3 Try.func3 rfl Try.ntmps3 rfl fun w0 G0 S0 hs ho => ?_
    exact run trivial
theorem lwSettles (s : List UInt8) : CFn Try.prog 5 [Is (str s)] (Is (.bool true)) := by
  have c9 := lwKnown16
  by_cases hs : s.length ≤ 600
  · have c1 := fpParse s (by omega)
    have c2 := rdParse s (by omega)
    rw [← Fi.parse_same] at c2
    have hw := Fi.pParse_wt3 s hs
    cases hp : Fi.pParse s with
    | mk f e =>
      rw [hp] at c1 c2 hw
      dsimp only at c1 c2 hw
      by_cases he : e = 0
      · subst he
        have hi := Fi.parse_isF hp
        have hb := Fi.parse_back hi
        have hl := Fi.prF_len3 f
        have c3 := fpPrint f (by omega) hi
        have c4 := fpParse (Fi.prF f) (by omega)
        rw [hb] at c4
        dsimp only at c4
        have c5 := fpIs f (by omega)
        rw [hi] at c5
        have c6 := rfSame (Fi.nodes f) f (Nat.le_refl _) (by omega) f
        rw [decide_eq_true rfl] at c6
        clear c2
        have su := Sure.mk' [38, 39, 40, 43, 44, 47]
        refine CallsC.of Try.call5 Try.func5 rfl Try.ntmps5 rfl fun w0 G0 S0 hs ho => ?_
        exact run trivial
      · have su := Sure.mk' [27]
        refine CallsC.of Try.call5 Try.func5 rfl Try.ntmps5 rfl fun w0 G0 S0 hs ho => ?_
        refine run ?_
        intros
        rw [decide_eq_true he]; rfl
  · refine CallsC.of Try.call5 Try.func5 rfl Try.ntmps5 rfl fun w0 G0 S0 hs ho => ?_
    exact run trivial
set_option maxHeartbeats 1000000 in
theorem lwDeep (n : Int) : CFn Try.prog 6 [okI .i64 n] (Is (.bool true)) := by
  have c9 := lwKnown16
  by_cases hb : n < 0 ∨ 60 < n
  · refine CallsC.of Try.call6 Try.func6 rfl Try.ntmps6 rfl fun w0 G0 S0 hs ho => ?_
    exact run trivial
  obtain ⟨m, rfl⟩ : ∃ m : Nat, n = (m : Int) := ⟨n.toNat, by omega⟩
  have hm : m ≤ 60 := by omega
  refine CallsC.of Try.call6 Try.func6 rfl Try.ntmps6 rfl fun w0 G0 S0 hs ho => ?_
  refine run ?_
  intro _
  refine HT.loopX (σ := Nat) [0, 2] (fun i => [(3, Is (str (Fi.prF (Fi.nest i)))), (4, okI .i64 (i : Int))]) (fun i => []) (fun i => i ≤ m) (fun i => m - i) 0 (Nat.zero_le _) (run trivial) (by refine run ?_; exact Fi.nest0_pr) ?_
  intro i hi
  by_cases hlt : i < m
  · have := Fi.prF_len3 (Fi.nest i)
    have hw := Fi.wt_nest i
    clear c9
    refine run ?_
    intro _
    exact HX.roundX (i + 1) ⟨by omega, by omega⟩ rfl (run trivial) (by refine run ?_; rw [Fi.nest_pr])
  · have he : i = m := by omega
    subst he
    have hl := Fi.prF_len3 (Fi.nest i)
    have hw := Fi.wt_nest i
    have c1 := fpParse (Fi.prF (Fi.nest i)) (by omega)
    by_cases h16 : 16 ≤ i
    · rw [Fi.parse_deep h16] at c1
      dsimp only at c1
      have c2 := rfSame (Fi.nodes Fi.zeroF) Fi.zeroF (Nat.le_refl _) (by rw [Fi.wt_zero]; decide) Fi.zeroF
      rw [decide_eq_true rfl] at c2
      rw [zeroCF] at c1 c2
      have su := Sure.mk' [32, 33, 34, 37]
      exact run trivial
    · rw [Fi.parse_back (Fi.nest_isF (by omega))] at c1
      dsimp only at c1
      have hnn := Fi.nest_nodes i
      have c2 := fpNodes (Fi.nodes (Fi.nest i)) (Fi.nest i) (Nat.le_refl _) (by omega)
      rw [hnn] at c2
      have su := Sure.mk' [42, 43, 44, 45, 46, 49]
      refine run ?_
      intros
      rw [decide_eq_true (show ((i + 1 : Nat) : Int) = (i : Int) + 1 by omega)]
      rfl
end Go.Proofs.Ythjckklijlfghaa
set_option linter.unusedVariables false
namespace Go.Fi
open Go.Vk
/-- The reach. -/
def RR : Nat := 140737488351232
mutual
/-- What is known of a filter that is an argument. -/
def Okf : Fil → Prop
  | .mk _ t v s ks => t.length ≤ RR ∧ v.length ≤ RR ∧ (s.length ≤ RR ∧ ∀ x ∈ s, x.length ≤ RR) ∧ ks.length ≤ RR ∧ OkfL ks
def OkfL : List Fil → Prop
  | [] => True
  | f :: r => Okf f ∧ OkfL r
end
theorem OkfL_mem : ∀ {l : List Fil}, OkfL l ↔ ∀ f ∈ l, Okf f
  | [] => by unfold OkfL; simp
  | f :: r => by unfold OkfL; rw [OkfL_mem (l := r)]; simp
def hvS : List (List UInt8) → Int → Int
  | [], n => n
  | s :: r, n => if 0 ≤ n then hvS r (n - 1 - (s.length : Int)) else n
mutual
def hv : Fil → Int → Int
  | .mk _ t v s ks, n => hvL ks (hvS s (n - 5 - (t.length : Int) - (v.length : Int)))
def hvL : List Fil → Int → Int
  | [], n => n
  | f :: r, n => if 0 ≤ n then hvL r (hv f n) else n
end
theorem hv_mk (k : Int) (t v : List UInt8) (s : List (List UInt8)) (ks : List Fil) (n : Int) : hv (.mk k t v s ks) n = hvL ks (hvS s (n - 5 - (t.length : Int) - (v.length : Int))) := by conv => lhs; unfold hv
theorem hvL_cons (f : Fil) (r : List Fil) (n : Int) : hvL (f :: r) n = if 0 ≤ n then hvL r (hv f n) else n := by conv => lhs; unfold hvL
theorem hvL_nil (n : Int) : hvL [] n = n := by unfold hvL; rfl
theorem hvS_neg : ∀ (l : List (List UInt8)) {n : Int}, n < 0 → hvS l n = n
  | [], _, _ => rfl
  | s :: r, n, h => by unfold hvS; rw [if_neg (by omega)]
theorem hvL_neg : ∀ (l : List Fil) {n : Int}, n < 0 → hvL l n = n
  | [], _, _ => hvL_nil _
  | s :: r, n, h => by rw [hvL_cons, if_neg (by omega)]
theorem hvS_bd : ∀ (l : List (List UInt8)) (n : Int), 0 ≤ hvS l n → hvS l n = n - (subsW l : Int)
  | [], n, _ => by simp [hvS, subsW]
  | s :: r, n, h => by
    unfold hvS at h ⊢
    by_cases hn : 0 ≤ n
    · rw [if_pos hn] at h ⊢
      rw [hvS_bd r _ h, subsW]; omega
    · rw [if_neg hn] at h; omega
mutual
theorem hv_bd : ∀ (f : Fil) (n : Int), 0 ≤ hv f n → hv f n = n - (wt f : Int)
  | .mk k t v s ks, n, h => by
    rw [hv_mk] at h ⊢
    by_cases h1 : 0 ≤ hvS s (n - 5 - (t.length : Int) - (v.length : Int))
    · rw [hvL_bd ks _ h, hvS_bd s _ h1, wt]; omega
    · rw [hvL_neg ks (by omega)] at h; omega
theorem hvL_bd : ∀ (l : List Fil) (n : Int), 0 ≤ hvL l n → hvL l n = n - (wtL l : Int)
  | [], n, h => by rw [hvL_nil, wtL]; simp
  | f :: r, n, h => by
    rw [hvL_cons] at h ⊢
    by_cases hn : 0 ≤ n
    · rw [if_pos hn] at h ⊢
      by_cases h1 : 0 ≤ hv f n
      · rw [hvL_bd r _ h, hv_bd f _ h1, wtL]; omega
      · rw [hvL_neg r (by omega)] at h; omega
    · rw [if_neg hn] at h; omega
end
theorem dropS1 {l : List (List UInt8)} {i : Nat} (h : i < l.length) : l.drop i = l.getD i default :: l.drop (i + 1) := by
  rw [List.drop_eq_getElem_cons h, List.getD_eq_getElem?_getD, List.getElem?_eq_getElem h]; rfl
theorem hvS_nil (n : Int) : hvS [] n = n := rfl
theorem hvS_cons (s : List UInt8) (r : List (List UInt8)) (n : Int) : hvS (s :: r) n = if 0 ≤ n then hvS r (n - 1 - (s.length : Int)) else n := rfl
theorem hvS_rng : ∀ (l : List (List UInt8)) (n : Int), (∀ x ∈ l, x.length ≤ 140737488351232) → n ≤ 600 ∧ -300000000000000 ≤ n → hvS l n ≤ 600 ∧ -300000000000000 ≤ hvS l n
  | [], n, _, h => h
  | s :: r, n, hl, h => by
    have h1 := hl s (by simp)
    rw [hvS_cons]
    split
    · exact hvS_rng r _ (fun x hx => hl x (by simp [hx])) (by omega)
    · exact h
mutual
theorem hv_rng : ∀ (f : Fil) (n : Int), Okf f → n ≤ 600 ∧ 0 ≤ n → hv f n ≤ 600 ∧ -300000000000000 ≤ hv f n
  | .mk k t v s ks, n, hf, h => by
    unfold Okf RR at hf
    rw [hv_mk]
    exact hvL_rng ks _ hf.2.2.2.2 (hvS_rng s _ hf.2.2.1.2 (by omega))
theorem hvL_rng : ∀ (l : List Fil) (n : Int), OkfL l → n ≤ 600 ∧ -300000000000000 ≤ n → hvL l n ≤ 600 ∧ -300000000000000 ≤ hvL l n
  | [], n, _, h => by rw [hvL_nil]; exact h
  | f :: r, n, hl, h => by
    unfold OkfL at hl
    rw [hvL_cons]
    split
    · exact hvL_rng r _ hl.2 (hv_rng f n hl.1 (by omega))
    · exact h
end
end Go.Fi
set_option maxRecDepth 8000
set_option linter.unusedVariables false
namespace Go.Proofs.Ythjckklijlfghaa
open Go.Vk
attribute [local irreducible] HT HX RegS RegA RegM OpP OpC AltT
attribute [local irreducible] Fi.nodes Fi.nodesL Fi.wt Fi.wtL Fi.hv Fi.hvL Fi.hvS Fi.isF Fi.prF Fi.pParse Fi.Okf
set_option maxHeartbeats 2000000 in
theorem lwHeavyS (k : Int) (t v : List UInt8) (s : List (List UInt8)) (ks : List Fi.Fil) (n : Int) (hn : 0 ≤ n ∧ n ≤ 600) (h1 : t.length ≤ 140737488351232) (h2 : v.length ≤ 140737488351232) (h3 : s.length ≤ 140737488351232 ∧ ∀ x ∈ s, x.length ≤ 140737488351232) (h4 : ks.length ≤ 140737488351232) (IH : ∀ f ∈ ks, ∀ n : Int, 0 ≤ n ∧ n ≤ 600 → CFn Try.prog 12 [TAgg (Fi.cF f), okI .i64 n] (okI .i64 (Fi.hv f n)) ∧ Fi.hv f n ≤ 600 ∧ -300000000000000 ≤ Fi.hv f n) : CFn Try.prog 12 [TAgg (Fi.cF (.mk k t v s ks)), okI .i64 n] (okI .i64 (Fi.hv (.mk k t v s ks) n)) := by
  rw [Fi.cF_open, Fi.hv_mk]
  dsimp only [Fi.Fil.kind, Fi.Fil.typ, Fi.Fil.val, Fi.Fil.subs, Fi.Fil.kids]
  refine CallsC.of Try.call12 Try.func12 rfl Try.ntmps12 rfl fun w0 G0 S0 hs ho => ?_
  refine run ?_
  refine HT.loopX (σ := Nat × Int) [2, 4] (fun t' => [(1, okI .i64 t'.2), (5, okI .i64 (t'.1 : Int))]) (fun _ => []) (fun t' => t'.1 ≤ s.length ∧ (t'.2 ≤ 600 ∧ -300000000000000 ≤ t'.2) ∧ Fi.hvS (s.drop t'.1) t'.2 = Fi.hvS s (n - 5 - (t.length : Int) - (v.length : Int))) (fun t' => s.length - t'.1) (0, n - 5 - (t.length : Int) - (v.length : Int)) ⟨Nat.zero_le _, by dsimp only; omega, rfl⟩ (run trivial) (run trivial) ?_
  rintro ⟨i, m⟩ ⟨hi, hm, he⟩
  dsimp only at hi hm he ⊢
  by_cases hgo : i < s.length ∧ 0 ≤ m
  · obtain ⟨hlt, hm0⟩ := hgo
    have hgl := h3.2 (s.getD i default) (En.getD_mem hlt)
    rw [Fi.dropS1 hlt, Fi.hvS, if_pos hm0] at he
    clear IH
    refine run ?_
    intro _
    exact HX.roundX (i + 1, m - 1 - ((s.getD i default).length : Int)) ⟨⟨by dsimp only; omega, by dsimp only; omega, he⟩, by dsimp only; omega⟩ rfl (run trivial) (run trivial)
  · have hend : Fi.hvS s (n - 5 - (t.length : Int) - (v.length : Int)) = m := by
      rw [← he]
      by_cases hlt : i < s.length
      · exact Fi.hvS_neg _ (by omega)
      · rw [List.drop_of_length_le (by omega), Fi.hvS_nil]
    rw [hend]
    clear he hend
    refine run ?_
    intro _
    refine HT.loopX (σ := Nat × Int) [2, 4] (fun t' => [(1, okI .i64 t'.2), (6, okI .i64 (t'.1 : Int))]) (fun _ => []) (fun t' => t'.1 ≤ ks.length ∧ (t'.2 ≤ 600 ∧ -300000000000000 ≤ t'.2) ∧ Fi.hvL (ks.drop t'.1) t'.2 = Fi.hvL ks m) (fun t' => ks.length - t'.1) (0, m) ⟨Nat.zero_le _, hm, rfl⟩ (run trivial) (run trivial) ?_
    clear hi hm hgo
    rintro ⟨j, m'⟩ ⟨hi, hm, he⟩
    dsimp only at hi hm he ⊢
    by_cases hgo : j < ks.length ∧ 0 ≤ m'
    · obtain ⟨hlt, hm0⟩ := hgo
      obtain ⟨c1, c2⟩ := IH (ks.getD j default) (En.getD_mem hlt) m' ⟨hm0, hm.1⟩
      rw [Fi.dropF hlt, Fi.hvL_cons, if_pos hm0] at he
      clear IH
      refine run ?_
      intro _
      exact HX.roundX (j + 1, Fi.hv (ks.getD j default) m') ⟨⟨by dsimp only; omega, c2, he⟩, by dsimp only; omega⟩ rfl (run trivial) (run trivial)
    · have hend : Fi.hvL ks m = m' := by
        rw [← he]
        by_cases hlt : j < ks.length
        · exact Fi.hvL_neg _ (by omega)
        · rw [List.drop_of_length_le (by omega), Fi.hvL_nil]
      rw [hend]
      clear IH
      exact run trivial
theorem lwHeavyN : ∀ (N : Nat) (f : Fi.Fil), Fi.nodes f ≤ N → Fi.Okf f → ∀ n : Int, 0 ≤ n ∧ n ≤ 600 → CFn Try.prog 12 [TAgg (Fi.cF f), okI .i64 n] (okI .i64 (Fi.hv f n)) ∧ Fi.hv f n ≤ 600 ∧ -300000000000000 ≤ Fi.hv f n
  | 0, .mk k t v s ks, h, _, _, _ => by unfold Fi.nodes at h; omega
  | N + 1, .mk k t v s ks, h, hok, n, hn => by
    have e : Fi.nodes (.mk k t v s ks) = 1 + Fi.nodesL ks := by unfold Fi.nodes; rfl
    rw [e] at h
    have hok' := hok
    unfold Fi.Okf Fi.RR at hok'
    exact ⟨lwHeavyS k t v s ks n hn hok'.1 hok'.2.1 hok'.2.2.1 hok'.2.2.2.1 (fun f hf n hn => lwHeavyN N f (by have := Fi.kid_lt hf; omega) (Fi.OkfL_mem.1 hok'.2.2.2.2 f hf) n hn), Fi.hv_rng _ n hok ⟨hn.2, hn.1⟩⟩
theorem lwHeavy (f : Fi.Fil) (h : Fi.Okf f) : CFn Try.prog 12 [TAgg (Fi.cF f), okI .i64 600] (okI .i64 (Fi.hv f 600)) := (lwHeavyN (Fi.nodes f) f (Nat.le_refl _) h 600 (by decide)).1
theorem heavy_wt {f : Fi.Fil} (h : ¬ Fi.hv f 600 < 0) : Fi.wt f ≤ 600 := by
  have := Fi.hv_bd f 600 (by omega)
  omega
/-! ### filters as arguments -/
theorem cF_size (f : Fi.Fil) : (Fi.cF f).length = 5 := rfl
theorem opnFilN : ∀ N : Nat, OpnN N Try.prog 25 Fi.cF Fi.Okf
  | 0 => OpnN.none (fun a => by rw [cF_size]; kernel_rfl) Try.underlying25
  | N + 1 => by
    have IH := opnFilN N
    have hsub := Opn.slice (Opn.str (P := Try.prog) Try.underlying9 (by kernel_rfl)) Try.underlying22 (by kernel_rfl) (by kernel_rfl)
    have hkid := OpnN.slice IH Try.underlying23 (by kernel_rfl) (by kernel_rfl)
    rw [show Try.prog.cellsOf 25 = 5 by kernel_rfl] at hkid
    rw [show Try.prog.cellsOf 9 = 1 by kernel_rfl] at hsub
    have hb1 : Try.prog.bytesOf 9 = 16 := by kernel_rfl
    have hb2 : Try.prog.bytesOf 25 = 88 := by kernel_rfl
    have H := OpnN.struct (N := N) Try.underlying25 (by kernel_rfl) (OpnFN.cons rfl (Opn.int Try.underlying3 (by kernel_rfl)).toN (OpnFN.cons rfl (Opn.str Try.underlying9 (by kernel_rfl)).toN (OpnFN.cons rfl (Opn.str Try.underlying9 (by kernel_rfl)).toN (OpnFN.cons rfl hsub.toN (OpnFN.cons rfl (hkid.less (Nat.le_succ N)) (OpnFN.nil _))))))
    refine H.map (fun p => .mk p.1 p.2.1 p.2.2.1 p.2.2.2.1 p.2.2.2.2.1) (fun a => by rw [cF_size]; kernel_rfl) (fun p => ?_) (fun p h => ?_)
    · have e : ∀ (k : Int) (t v : List UInt8) (s : List (List UInt8)) (ks : List Fi.Fil), Fi.cF (.mk k t v s ks) = [okI .i64 k, Is (str t), Is (str v), TSl 1 Fi.cS s, TSl 5 Fi.cFil ks] := fun _ _ _ _ _ => rfl
      rw [e, Fi.cF_eq]; rfl
    · unfold Fi.Okf Fi.RR
      refine ⟨reach_le h.2.1, reach_le h.2.2.1, ⟨?_, fun x hx => reach_le (h.2.2.2.1.2 x hx)⟩, ?_, Fi.OkfL_mem.2 h.2.2.2.2.1.2⟩
      · have := reach_le h.2.2.2.1.1
        rw [hb1] at this
        omega
      · have := reach_le h.2.2.2.2.1.1
        rw [hb2] at this
        omega
theorem opnFil : Opn Try.prog 25 Fi.cF Fi.Okf := OpnN.all opnFilN
/-! ### the law FilterBack -/
theorem lwBack16 (f : Fi.Fil) (hf : Fi.Okf f) : CFn Try.prog 4 [TAgg (Fi.cF f)] (Is (.bool true)) := by
  have c1 := lwHeavy f hf
  have c9 := lwKnown16
  by_cases h : Fi.hv f 600 < 0
  · have su := Sure.mk' [9, 10, 11]
    refine CallsC.of Try.call4 Try.func4 rfl Try.ntmps4 rfl fun w0 G0 S0 hs ho => ?_
    exact run trivial
  have hw := heavy_wt h
  have c2 := rfIs f (by omega)
  cases hi : Fi.isF f with
  | false =>
    rw [hi] at c2
    refine CallsC.of Try.call4 Try.func4 rfl Try.ntmps4 rfl fun w0 G0 S0 hs ho => ?_
    exact run trivial
  | true =>
    rw [hi] at c2
    have hl := Fi.prF_len3 f
    have c3 := fpPrint f (by omega) hi
    have c4 := fpParse (Fi.prF f) (by omega)
    rw [Fi.parse_back hi] at c4
    dsimp only at c4
    have c6 := rfSame (Fi.nodes f) f (Nat.le_refl _) (by omega) f
    rw [decide_eq_true rfl] at c6
    have su := Sure.mk' [22, 23, 24, 27]
    refine CallsC.of Try.call4 Try.func4 rfl Try.ntmps4 rfl fun w0 G0 S0 hs ho => ?_
    exact run trivial
end Go.Proofs.Ythjckklijlfghaa
set_option linter.unusedVariables false
namespace Go.Fi
open Go.Vk
mutual
/-- A filter of one of the eight kinds; who compares has no kids. -/
def Prf : Fil → Prop
  | .mk k _ _ _ ks => ((k = 0 ∨ k = 1 ∨ k = 2) ∨ ((k = 3 ∨ k = 4 ∨ k = 5 ∨ k = 6 ∨ k = 7) ∧ ks = [])) ∧ PrfL ks
def PrfL : List Fil → Prop
  | [] => True
  | f :: r => Prf f ∧ PrfL r
end
theorem PrfL_mem : ∀ {l : List Fil}, PrfL l ↔ ∀ f ∈ l, Prf f
  | [] => by unfold PrfL; simp
  | f :: r => by unfold PrfL; rw [PrfL_mem (l := r)]; simp
mutual
theorem one_pr : ∀ (f : Fil) (d : Nat), oneF f d = true → Prf f
  | .mk k t v s ks, d, h => by
    unfold oneF at h
    unfold Prf
    simp only [Bool.and_eq_true, decide_eq_true_eq] at h
    obtain ⟨_, h⟩ := h
    by_cases h0 : k = 0 ∨ k = 1 ∨ k = 2
    · rw [if_pos h0] at h
      simp only [Bool.and_eq_true] at h
      exact ⟨.inl h0, oneL_pr ks (d + 1) h.2⟩
    rw [if_neg h0] at h
    by_cases h3 : k = 3 ∨ k = 5 ∨ k = 6
    · rw [if_pos h3] at h
      simp only [Bool.and_eq_true, decide_eq_true_eq] at h
      refine ⟨.inr ⟨by omega, h.1.1.1⟩, ?_⟩
      rw [h.1.1.1]; unfold PrfL; trivial
    rw [if_neg h3] at h
    by_cases h4 : k = 4
    · rw [if_pos h4] at h
      simp only [Bool.and_eq_true, decide_eq_true_eq] at h
      refine ⟨.inr ⟨by omega, h.1.1.1⟩, ?_⟩
      rw [h.1.1.1]; unfold PrfL; trivial
    rw [if_neg h4] at h
    by_cases h7 : k = 7
    · rw [if_pos h7] at h
      simp only [Bool.and_eq_true, decide_eq_true_eq] at h
      refine ⟨.inr ⟨by omega, h.1.1.1⟩, ?_⟩
      rw [h.1.1.1]; unfold PrfL; trivial
    rw [if_neg h7] at h
    exact absurd h (by simp)
theorem oneL_pr : ∀ (l : List Fil) (d : Nat), oneL l d = true → PrfL l
  | [], _, _ => by unfold PrfL; trivial
  | f :: r, d, h => by
    unfold oneL at h
    simp only [Bool.and_eq_true] at h
    unfold PrfL
    exact ⟨one_pr f d h.1, oneL_pr r d h.2⟩
end
theorem isF_pr {f : Fil} (h : isF f = true) : Prf f := by
  unfold isF at h
  simp only [Bool.and_eq_true] at h
  exact one_pr f 1 h.1
/-- So many pieces, with stars. -/
def starR (s : List (List UInt8)) (i : Nat) : List UInt8 := joinB ((s.take i).map told)
theorem starR_0 (s : List (List UInt8)) : starR s 0 = [] := rfl
theorem starR_1 {s : List (List UInt8)} (h : 0 < s.length) : starR s (0 + 1) = told (s.getD 0 default) := by
  match s, h with
  | x :: r, _ => simp [starR, joinB]
theorem starR_succ {s : List (List UInt8)} {i : Nat} (h : i < s.length) (h0 : 0 < i) : starR s (i + 1) = starR s i ++ [42] ++ told (s.getD i default) := by
  obtain ⟨j, rfl⟩ : ∃ j, i = j + 1 := ⟨i - 1, by omega⟩
  have h1 := joinB_snoc (l := s.map told) (i := j) (by simpa using h)
  unfold starR
  rw [List.map_take, List.map_take, h1]
  have : (s.map told).getD (j + 1) default = told (s.getD (j + 1) default) := by
    rw [List.getD_eq_getElem?_getD, List.getElem?_map, List.getElem?_eq_getElem h, List.getD_eq_getElem?_getD, List.getElem?_eq_getElem h]; rfl
  rw [this]; simp
theorem starR_all (s : List (List UInt8)) : starR s s.length = joinB (s.map told) := by unfold starR; rw [List.take_length]
theorem starR_len (s : List (List UInt8)) (i : Nat) : (starR s i).length ≤ 3 * subsW s := by
  have h1 := joinB_len ((s.take i).map told)
  have h2 := subsW_told (s.take i)
  have h3 := subsW_take s i
  unfold starR; omega
end Go.Fi
set_option maxRecDepth 8000
set_option linter.unusedVariables false
namespace Go.Proofs.Ythjckklijlfghaa
open Go.Vk
attribute [local irreducible] HT HX RegS RegA RegM OpP OpC AltT
attribute [local irreducible] Fi.nodes Fi.nodesL Fi.told Fi.joinB Fi.prF Fi.prL Fi.wt Fi.wtL Fi.subsW Fi.starR
set_option maxHeartbeats 4000000 in
theorem rfTextS (k : Int) (t v : List UInt8) (s : List (List UInt8)) (ks : List Fi.Fil) (hk : (k = 0 ∨ k = 1 ∨ k = 2) ∨ ((k = 3 ∨ k = 4 ∨ k = 5 ∨ k = 6 ∨ k = 7) ∧ ks = [])) (hw : Fi.wt (.mk k t v s ks) ≤ 1000000) (IH : ∀ f ∈ ks, CFn Try.prog 27 [TAgg (Fi.cF f)] (Is (str (Fi.prF f)))) : CFn Try.prog 27 [TAgg (Fi.cF (.mk k t v s ks))] (Is (str (Fi.prF (.mk k t v s ks)))) := by
  rw [Fi.cF_open, Fi.prF_mk]
  have hw' := Fi.wt_mk k t v s ks
  rw [hw'] at hw
  dsimp only [Fi.Fil.kind, Fi.Fil.typ, Fi.Fil.val, Fi.Fil.subs, Fi.Fil.kids]
  have w1 := wtL_len ks
  have w2 := subsW_len s
  have c1 := rfTold16
  have htl := Fi.told_len v
  have ma := MutA.mk' [12]
  rcases hk with hk | ⟨hk, rfl⟩
  · have hK : ∀ i, i < ks.length → CFn Try.prog 27 [TAgg (Fi.cF (ks.getD i default))] (Is (str (Fi.prF (ks.getD i default)))) := fun i h => IH _ (En.getD_mem h)
    clear IH c1
    rcases hk with rfl | rfl | rfl
    · rw [Fi.headT_0]
      refine CallsC.of Try.call27 Try.func27 rfl Try.ntmps27 rfl fun w0 G0 S0 hs ho => ?_
      refine run ?_
      intros
      refine HT.loopX (σ := Nat) [1, 2, 7] (fun i => [(3, Is (str ([40] ++ [38] ++ Fi.prL (ks.take i)))), (4, okI .i64 (i : Int))]) (fun _ => []) (fun i => i ≤ ks.length) (fun i => ks.length - i) 0 (Nat.zero_le _) (run trivial) (by refine run ?_; rw [show List.take 0 ks = [] from rfl, Fi.prL_nil, List.append_nil]) ?_
      intro j hj
      have e2 := Fi.prL_len3 (ks.take j)
      have e3 := Fi.wtL_take ks j
      by_cases hlt : j < ks.length
      · have c3 := hK j hlt
        have e1 := Fi.prL_snoc hlt
        have e4 := Fi.prF_len3 (ks.getD j default)
        have e5 := Fi.wtL_get hlt
        clear hK
        refine run ?_
        intro _
        exact HX.roundX (j + 1) ⟨by omega, by omega⟩ rfl (run trivial) (by refine run ?_; rw [e1, List.append_assoc])
      · rw [List.take_of_length_le (by omega)] at e2 ⊢
        clear hK
        refine run ?_
        intro _
        simp
    · rw [Fi.headT_1]
      refine CallsC.of Try.call27 Try.func27 rfl Try.ntmps27 rfl fun w0 G0 S0 hs ho => ?_
      refine run ?_
      intros
      refine HT.loopX (σ := Nat) [1, 2, 7] (fun i => [(3, Is (str ([40] ++ [124] ++ Fi.prL (ks.take i)))), (4, okI .i64 (i : Int))]) (fun _ => []) (fun i => i ≤ ks.length) (fun i => ks.length - i) 0 (Nat.zero_le _) (run trivial) (by refine run ?_; rw [show List.take 0 ks = [] from rfl, Fi.prL_nil, List.append_nil]) ?_
      intro j hj
      have e2 := Fi.prL_len3 (ks.take j)
      have e3 := Fi.wtL_take ks j
      by_cases hlt : j < ks.length
      · have c3 := hK j hlt
        have e1 := Fi.prL_snoc hlt
        have e4 := Fi.prF_len3 (ks.getD j default)
        have e5 := Fi.wtL_get hlt
        clear hK
        refine run ?_
        intro _
        exact HX.roundX (j + 1) ⟨by omega, by omega⟩ rfl (run trivial) (by refine run ?_; rw [e1, List.append_assoc])
      · rw [List.take_of_length_le (by omega)] at e2 ⊢
        clear hK
        refine run ?_
        intro _
        simp
    · rw [Fi.headT_2]
      refine CallsC.of Try.call27 Try.func27 rfl Try.ntmps27 rfl fun w0 G0 S0 hs ho => ?_
      refine run ?_
      intros
      refine HT.loopX (σ := Nat) [1, 2, 7] (fun i => [(3, Is (str ([40] ++ [33] ++ Fi.prL (ks.take i)))), (4, okI .i64 (i : Int))]) (fun _ => []) (fun i => i ≤ ks.length) (fun i => ks.length - i) 0 (Nat.zero_le _) (run trivial) (by refine run ?_; rw [show List.take 0 ks = [] from rfl, Fi.prL_nil, List.append_nil]) ?_
      intro j hj
      have e2 := Fi.prL_len3 (ks.take j)
      have e3 := Fi.wtL_take ks j
      by_cases hlt : j < ks.length
      · have c3 := hK j hlt
        have e1 := Fi.prL_snoc hlt
        have e4 := Fi.prF_len3 (ks.getD j default)
        have e5 := Fi.wtL_get hlt
        clear hK
        refine run ?_
        intro _
        exact HX.roundX (j + 1) ⟨by omega, by omega⟩ rfl (run trivial) (by refine run ?_; rw [e1, List.append_assoc])
      · rw [List.take_of_length_le (by omega)] at e2 ⊢
        clear hK
        refine run ?_
        intro _
        simp
  · clear IH
    rw [Fi.prL_nil, List.append_nil]
    rcases hk with rfl | rfl | rfl | rfl | rfl
    · rw [Fi.headT_3]
      refine CallsC.of Try.call27 Try.func27 rfl Try.ntmps27 rfl fun w0 G0 S0 hs ho => ?_
      refine run ?_
      intros
      simp
    · rw [Fi.headT_4]
      clear htl
      refine CallsC.of Try.call27 Try.func27 rfl Try.ntmps27 rfl fun w0 G0 S0 hs ho => ?_
      refine run ?_
      intros
      refine HT.loopX (σ := Nat) [1, 2] (fun i => [(3, Is (str (Fi.starR s i))), (5, okI .i64 (i : Int))]) (fun _ => []) (fun i => i ≤ s.length) (fun i => s.length - i) 0 (Nat.zero_le _) (run trivial) (by refine run ?_; exact (Fi.starR_0 s).symm) ?_
      intro i hi
      have hsl := Fi.starR_len s i
      by_cases hlt : i < s.length
      · have hg := Fi.subsW_get hlt
        have hgt := Fi.told_len (s.getD i default)
        by_cases h0 : 0 < i
        · have e := Fi.starR_succ hlt h0
          refine run ?_
          intro _ _
          exact HX.roundX (i + 1) ⟨by omega, by omega⟩ rfl (run trivial) (by refine run ?_; rw [e])
        · have h00 : i = 0 := by omega
          subst h00
          have e := Fi.starR_1 hlt
          refine run ?_
          intro _ _
          exact HX.roundX (0 + 1) ⟨by omega, by omega⟩ rfl (run trivial) (by refine run ?_; rw [Fi.starR_0, List.nil_append, e])
      · have hi' : i = s.length := by omega
        subst hi'
        rw [← Fi.starR_all]
        refine run ?_
        intro _
        simp
    · rw [Fi.headT_5]
      refine CallsC.of Try.call27 Try.func27 rfl Try.ntmps27 rfl fun w0 G0 S0 hs ho => ?_
      refine run ?_
      intros
      simp
    · rw [Fi.headT_6]
      refine CallsC.of Try.call27 Try.func27 rfl Try.ntmps27 rfl fun w0 G0 S0 hs ho => ?_
      refine run ?_
      intros
      simp
    · rw [Fi.headT_7]
      refine CallsC.of Try.call27 Try.func27 rfl Try.ntmps27 rfl fun w0 G0 S0 hs ho => ?_
      refine run ?_
      intros
      simp
theorem rfTextN : ∀ (N : Nat) (f : Fi.Fil), Fi.nodes f ≤ N → Fi.wt f ≤ 1000000 → Fi.Prf f → CFn Try.prog 27 [TAgg (Fi.cF f)] (Is (str (Fi.prF f)))
  | 0, .mk k t v s ks, h, _, _ => by unfold Fi.nodes at h; omega
  | N + 1, .mk k t v s ks, h, hw, hp => by
    have e : Fi.nodes (.mk k t v s ks) = 1 + Fi.nodesL ks := by unfold Fi.nodes; rfl
    rw [e] at h
    unfold Fi.Prf at hp
    exact rfTextS k t v s ks hp.1 hw (fun f hf => rfTextN N f (by have := Fi.kid_lt hf; omega) (by have := wt_kid hf; rw [Fi.wt_mk] at hw; omega) (Fi.PrfL_mem.1 hp.2 f hf))
def printV (f : Fi.Fil) : List UInt8 := if Fi.isF f = true then Fi.prF f else []
theorem rfPrint16 (f : Fi.Fil) (hw : Fi.wt f ≤ 1000000) : CFn Try.prog 17 [TAgg (Fi.cF f)] (Is (str (printV f))) := by
  have c1 := rfIs f hw
  unfold printV
  cases hi : Fi.isF f with
  | true =>
    rw [hi] at c1
    have c2 := rfTextN (Fi.nodes f) f (Nat.le_refl _) hw (Fi.isF_pr hi)
    rw [if_pos rfl]
    refine CallsC.of Try.call17 Try.func17 rfl Try.ntmps17 rfl fun w0 G0 S0 hs ho => ?_
    exact run trivial
  | false =>
    rw [hi] at c1
    rw [if_neg (by simp)]
    refine CallsC.of Try.call17 Try.func17 rfl Try.ntmps17 rfl fun w0 G0 S0 hs ho => ?_
    exact run trivial
theorem fpPrintV (f : Fi.Fil) (hw : Fi.wt f ≤ 1000000) : CFn Try.prog 14 [TAgg (Fi.cF f)] (Is (str (printV f))) := by
  unfold printV
  cases hi : Fi.isF f with
  | true => rw [if_pos rfl]; exact fpPrint f hw hi
  | false =>
    have c1 := fpIs f hw
    rw [hi] at c1
    rw [if_neg (by simp)]
    refine CallsC.of Try.call14 Try.func14 rfl Try.ntmps14 rfl fun w0 G0 S0 hs ho => ?_
    exact run trivial
attribute [local irreducible] printV Fi.isF Fi.Okf Fi.hv
set_option maxHeartbeats 2000000 in
theorem lwLooks (f g : Fi.Fil) (hf : Fi.Okf f) (hg : Fi.Okf g) : CFn Try.prog 7 [TAgg (Fi.cF f), TAgg (Fi.cF g)] (Is (.bool true)) := by
  have c0 := lwHeavy g hg
  have c1 := lwHeavy f hf
  have c9 := lwKnown16
  by_cases h : Fi.hv f 600 < 0
  · have su := Sure.mk' [9, 10, 11]
    clear c0
    refine CallsC.of Try.call7 Try.func7 rfl Try.ntmps7 rfl fun w0 G0 S0 hs ho => ?_
    exact run trivial
  by_cases h' : Fi.hv g 600 < 0
  · have su := Sure.mk' [9, 10, 11]
    refine CallsC.of Try.call7 Try.func7 rfl Try.ntmps7 rfl fun w0 G0 S0 hs ho => ?_
    exact run trivial
  have hw := heavy_wt h
  have hw' := heavy_wt h'
  have hn := Fi.nodes_wt f
  have c2 := fpPrintV f (by omega)
  have c3 := rfPrint16 f (by omega)
  have c4 := fpIs f (by omega)
  have c5 := rfIs f (by omega)
  have c6 := fpNodes (Fi.nodes f) f (Nat.le_refl _) (by omega)
  have c7 := rfNodes (Fi.nodes f) f (Nat.le_refl _) (by omega)
  have c8 := fpSame (Fi.nodes f) f (Nat.le_refl _) (by omega) g
  have d1 := rfSame (Fi.nodes f) f (Nat.le_refl _) (by omega) g
  have d2 := fpSame (Fi.nodes f) f (Nat.le_refl _) (by omega) f
  rw [decide_eq_true rfl] at d2
  have su := Sure.mk' [9, 10, 11, 19, 20, 21, 22, 23, 26, 27, 28, 29, 30, 33, 34, 35, 36, 37, 38, 39, 42, 43, 44, 47]
  refine CallsC.of Try.call7 Try.func7 rfl Try.ntmps7 rfl fun w0 G0 S0 hs ho => ?_
  refine run ?_
  intro _
  simp
end Go.Proofs.Ythjckklijlfghaa
