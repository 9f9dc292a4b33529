/-
  The contracts of whether a filter may be: the document's.
  The contract of the document's Parse of filters: it answers as the plain parser does.
  The contracts of the laws FilterParses, FilterSettles, FilterDeep.
-/
import Derived.Test.YthjckklijlfghaaGaj
import Derived.Test.YthjckklijlfghaaGak
import Derived.Test.YthjckklijlfghaaGan
import Derived.Test.YthjckklijlfghaaGao
set_option linter.unusedVariables false
namespace Go.Fi
open Go.Vk
open Go.Dn (typB typC halfV)
/-- Whether a piece may not stand where it stands. -/
def badAt (l : List (List UInt8)) (i : Nat) : Bool := decide ((256 : Int) < ((l.getD i default).length : Int)) || (decide (l.getD i default = []) && decide (0 < i) && decide (i + 1 < l.length))
theorem mem_mid {l : List (List UInt8)} {s : List UInt8} : s ∈ (l.drop 1).dropLast ↔ ∃ i, 0 < i ∧ i + 1 < l.length ∧ l.getD i default = s := by
  rw [List.mem_iff_getElem]
  simp only [List.length_dropLast, List.length_drop]
  constructor
  · rintro ⟨i, hi, h⟩
    refine ⟨i + 1, by omega, by omega, ?_⟩
    rw [List.getElem_dropLast, List.getElem_drop] at h
    rw [List.getD_eq_getElem?_getD, List.getElem?_eq_getElem (by omega), Option.getD_some, ← h]
    congr 1; omega
  · rintro ⟨i, h0, h1, h⟩
    refine ⟨i - 1, by omega, ?_⟩
    rw [List.getElem_dropLast, List.getElem_drop]
    rw [List.getD_eq_getElem?_getD, List.getElem?_eq_getElem (by omega), Option.getD_some] at h
    rw [← h]
    congr 1; omega
theorem mem_at {l : List (List UInt8)} {s : List UInt8} : s ∈ l ↔ ∃ i, i < l.length ∧ l.getD i default = s := by
  rw [List.mem_iff_getElem]
  constructor
  · rintro ⟨i, hi, h⟩
    exact ⟨i, hi, by rw [List.getD_eq_getElem?_getD, List.getElem?_eq_getElem hi, Option.getD_some, h]⟩
  · rintro ⟨i, hi, h⟩
    rw [List.getD_eq_getElem?_getD, List.getElem?_eq_getElem hi, Option.getD_some] at h
    exact ⟨i, hi, h⟩
theorem bad_snoc {l : List (List UInt8)} {i : Nat} (h : ∀ j, j < i → badAt l j = false) (hb : badAt l i = false) : ∀ j, j < i + 1 → badAt l j = false := fun j hj => by
  rcases Nat.lt_succ_iff_lt_or_eq.1 hj with h1 | h1
  · exact h j h1
  · rw [h1]; exact hb
theorem subsB_short {l : List (List UInt8)} (h : l.length < 2 ∨ 16 < l.length) : subsB l = false := by
  unfold subsB
  rcases h with h | h
  · rw [decide_eq_false (by omega : ¬ 2 ≤ l.length)]; simp
  · rw [decide_eq_false (by omega : ¬ l.length ≤ 16)]; simp
theorem subsB_bad {l : List (List UInt8)} {i : Nat} (hi : i < l.length) (h : badAt l i = true) : subsB l = false := by
  unfold subsB
  unfold badAt at h
  simp only [Bool.or_eq_true, Bool.and_eq_true, decide_eq_true_eq] at h
  rcases h with h | ⟨⟨h1, h2⟩, h3⟩
  · have : l.all okS = false := by
      rw [Bool.eq_false_iff]
      intro ha
      rw [List.all_eq_true] at ha
      have := ha _ (mem_at.2 ⟨i, hi, rfl⟩)
      unfold okS at this
      simp only [decide_eq_true_eq] at this
      omega
    rw [this]; simp
  · have : (l.drop 1).dropLast.all (fun s => !decide (s = [])) = false := by
      rw [Bool.eq_false_iff]
      intro ha
      rw [List.all_eq_true] at ha
      have := ha _ (mem_mid.2 ⟨i, h2, h3, rfl⟩)
      rw [h1] at this
      simp at this
    rw [this]; simp
theorem subsB_end {l : List (List UInt8)} (h1 : 2 ≤ l.length) (h2 : l.length ≤ 16) (h : ∀ i, i < l.length → badAt l i = false) : subsB l = l.any (fun s => !decide (s = [])) := by
  have ha : l.all okS = true := by
    rw [List.all_eq_true]
    intro s hs
    obtain ⟨i, hi, rfl⟩ := mem_at.1 hs
    have := h i hi
    unfold badAt at this
    simp only [Bool.or_eq_false_iff, decide_eq_false_iff_not] at this
    unfold okS
    simp only [decide_eq_true_eq]
    omega
  have hb : (l.drop 1).dropLast.all (fun s => !decide (s = [])) = true := by
    rw [List.all_eq_true]
    intro s hs
    obtain ⟨i, h3, h4, rfl⟩ := mem_mid.1 hs
    have := h i (by omega)
    unfold badAt at this
    rw [decide_eq_true h3, decide_eq_true h4] at this
    simp only [Bool.and_true, Bool.or_eq_false_iff] at this
    rw [this.2]; rfl
  unfold subsB
  rw [ha, hb, decide_eq_true h1, decide_eq_true h2]; rfl
theorem any_snoc {l : List (List UInt8)} {i : Nat} (h : i < l.length) : (l.take (i + 1)).any (fun s => !decide (s = [])) = ((l.take i).any (fun s => !decide (s = [])) || !decide (l.getD i default = [])) := by
  rw [List.take_add_one, List.any_append, List.getElem?_eq_getElem h, List.getD_eq_getElem?_getD, List.getElem?_eq_getElem h]
  simp
theorem one_big {k : Int} {t v : List UInt8} {s : List (List UInt8)} {ks : List Fil} {d : Nat} (h : ¬ d ≤ 16) : oneF (.mk k t v s ks) d = false := by
  unfold oneF; rw [decide_eq_false h]; rfl
theorem one_box {k : Int} {t v : List UInt8} {s : List (List UInt8)} {ks : List Fil} {d : Nat} (h : d ≤ 16) (hk : k = 0 ∨ k = 1 ∨ k = 2) : oneF (.mk k t v s ks) d = (decide (t = []) && decide (v = []) && decide (s = []) && decide (ks ≠ []) && (decide (k ≠ 2) || decide (ks.length ≤ 1)) && oneL ks (d + 1)) := by
  conv => lhs; unfold oneF
  rw [decide_eq_true h, if_pos hk]; rfl
theorem one_leaf {k : Int} {t v : List UInt8} {s : List (List UInt8)} {ks : List Fil} {d : Nat} (h : d ≤ 16) (hk : k = 3 ∨ k = 5 ∨ k = 6) : oneF (.mk k t v s ks) d = (decide (ks = []) && decide (s = []) && typB t && okS v) := by
  conv => lhs; unfold oneF
  rw [decide_eq_true h, if_neg (by omega), if_pos hk]; rfl
theorem one_4 {t v : List UInt8} {s : List (List UInt8)} {ks : List Fil} {d : Nat} (h : d ≤ 16) : oneF (.mk 4 t v s ks) d = (decide (ks = []) && decide (v = []) && typB t && subsB s) := by
  conv => lhs; unfold oneF
  rw [decide_eq_true h]; rfl
theorem one_7 {t v : List UInt8} {s : List (List UInt8)} {ks : List Fil} {d : Nat} (h : d ≤ 16) : oneF (.mk 7 t v s ks) d = (decide (ks = []) && decide (v = []) && decide (s = []) && typB t) := by
  conv => lhs; unfold oneF
  rw [decide_eq_true h]; rfl
theorem one_x {k : Int} {t v : List UInt8} {s : List (List UInt8)} {ks : List Fil} {d : Nat} (h : d ≤ 16) (hk : ¬ (k = 0 ∨ k = 1 ∨ k = 2) ∧ ¬ (k = 3 ∨ k = 5 ∨ k = 6) ∧ k ≠ 4 ∧ k ≠ 7) : oneF (.mk k t v s ks) d = false := by
  unfold oneF
  rw [if_neg hk.1, if_neg hk.2.1, if_neg hk.2.2.1, if_neg hk.2.2.2]; simp
theorem drop_fil {l : List Fil} {i : Nat} (h : i < l.length) : l.drop i = l.getD i default :: l.drop (i + 1) := by
  rw [List.drop_eq_getElem_cons h, List.getD_eq_getElem?_getD, List.getElem?_eq_getElem h, Option.getD_some]
theorem oneL_cons (f : Fil) (r : List Fil) (d : Nat) : oneL (f :: r) d = (oneF f d && oneL r d) := by
  conv => lhs; unfold oneL
theorem nilF {l : List Fil} : l = [] ↔ (l.length : Int) = 0 := by
  rw [← List.length_eq_zero_iff]; omega
theorem nilS {l : List (List UInt8)} : l = [] ↔ (l.length : Int) = 0 := by
  rw [← List.length_eq_zero_iff]; omega
mutual
theorem nodes_wt : ∀ f : Fil, nodes f ≤ wt f
  | .mk k t v s ks => by
    have := nodesL_wt ks
    rw [nodes, wt]; omega
theorem nodesL_wt : ∀ l : List Fil, nodesL l ≤ wtL l
  | [] => by rw [nodesL, wtL]; omega
  | f :: r => by
    have h1 := nodes_wt f
    have h2 := nodesL_wt r
    rw [nodesL, wtL]; omega
end
end Go.Fi
set_option linter.unusedVariables false
namespace Go.Proofs.Ythjckklijlfghaa
open Go.Vk
attribute [local irreducible] HT HX RegS RegA RegM OpP OpC AltT
attribute [local irreducible] Dn.typB Fi.nodes Fi.nodesL Fi.oneF Fi.oneL Fi.subsB
set_option maxHeartbeats 2000000 in
theorem rfSubs (l : List (List UInt8)) (hl : l.length ≤ 1000000) : CFn Try.prog 38 [TSl 1 Fi.cS l] (Is (.bool (Fi.subsB l))) := by
  by_cases hs : l.length < 2 ∨ 16 < l.length
  · rw [Fi.subsB_short hs]
    refine CallsC.of Try.call38 Try.func38 rfl Try.ntmps38 rfl fun w0 G0 S0 hs ho => ?_
    exact run trivial
  refine CallsC.of Try.call38 Try.func38 rfl Try.ntmps38 rfl fun w0 G0 S0 hs ho => ?_
  refine run ?_
  intro _
  refine HT.loopX (σ := Nat) [0] (fun i => [(3, Is (.bool ((l.take i).any (fun s => !decide (s = []))))), (4, okI .i64 (i : Int))]) (fun _ => []) (fun i => i ≤ l.length ∧ ∀ j, j < i → Fi.badAt l j = false) (fun i => l.length - i) 0 ⟨Nat.zero_le _, fun j h => absurd h (Nat.not_lt_zero _)⟩ (run trivial) (by first | exact run trivial | (refine run ?_; simp)) ?_
  rintro i ⟨hi, he⟩
  by_cases hlt : i < l.length
  · have hu : Fi.badAt l i = (decide ((256 : Int) < ((l.getD i default).length : Int)) || (decide (l.getD i default = []) && decide (0 < i) && decide (i + 1 < l.length))) := rfl
    have hsn := Fi.any_snoc hlt
    cases hb : Fi.badAt l i with
    | true =>
      rw [Fi.subsB_bad hlt hb]
      rw [hb] at hu
      simp only [Bool.true_eq, Bool.or_eq_true, Bool.and_eq_true, decide_eq_true_eq] at hu
      refine run ?_
      intros
      exfalso; grind
    | false =>
      rw [hb] at hu
      simp only [Bool.false_eq, Bool.or_eq_false_iff, Bool.and_eq_false_iff, decide_eq_false_iff_not] at hu
      refine run ?_
      refine ⟨?_, ?_⟩ <;> intros
      · exfalso; grind
      · exact HX.roundX (i + 1) ⟨⟨by omega, Fi.bad_snoc he hb⟩, by omega⟩ rfl (run trivial) (by refine run ?_; rw [hsn]; simp)
  · have ht : l.take i = l := List.take_of_length_le (by omega)
    rw [Fi.subsB_end (by omega) (by omega) (fun j hj => he j (by omega)), ht]
    have hno : ¬ (i : Int) < (l.length : Int) := by omega
    exact run trivial
/-- What a filter's contract is, where it stands so deep. -/
def OneC (f : Fi.Fil) : Prop := ∀ d : Nat, d ≤ 17 → CFn Try.prog 24 [TAgg (Fi.cF f), okI .i64 (d : Int)] (Is (.bool (Fi.oneF f d)))
set_option maxHeartbeats 4000000 in
theorem rfOne_b (k : Int) (t v : List UInt8) (s : List (List UInt8)) (ks : List Fi.Fil) (hk : k = 0 ∨ k = 1 ∨ k = 2) (hk1 : ks.length ≤ 1000000) (IH : ∀ f ∈ ks, OneC f) : OneC (.mk k t v s ks) := by
  intro d hd
  by_cases hdd : d ≤ 16
  · rw [Fi.one_box hdd hk, Fi.cF_open]
    dsimp only [Fi.Fil.kind, Fi.Fil.typ, Fi.Fil.val, Fi.Fil.subs, Fi.Fil.kids]
    cases hB : (decide (t = []) && decide (v = []) && decide (s = []) && decide (ks ≠ []) && (decide (k ≠ 2) || decide (ks.length ≤ 1))) with
    | true =>
      rw [Bool.true_and]
      simp only [Bool.and_eq_true, Bool.or_eq_true, decide_eq_true_eq] at hB
      obtain ⟨⟨⟨⟨rfl, rfl⟩, rfl⟩, hne⟩, hB⟩ := hB
      rw [ne_eq, Fi.nilF] at hne
      rcases hk with rfl | rfl | rfl
      all_goals
        refine CallsC.of Try.call24 Try.func24 rfl Try.ntmps24 rfl fun w0 G0 S0 hs ho => ?_
        refine run ?_
        (refine ⟨?_, ?_⟩ <;> intros)
        · exfalso; grind
        refine HT.loopX (σ := Nat) [1, 2, 9] (fun i => [(5, okI .i64 (i : Int))]) (fun _ => []) (fun i => i ≤ ks.length ∧ Fi.oneL (ks.drop i) (d + 1) = Fi.oneL ks (d + 1)) (fun i => ks.length - i) 0 ⟨Nat.zero_le _, rfl⟩ (run trivial) (run trivial) ?_
        rintro i ⟨hi, he⟩
        by_cases hlt : i < ks.length
        · have c1 : CFn Try.prog 24 [TAgg (Fi.cF (ks.getD i default)), okI .i64 ((d : Int) + 1)] (Is (.bool (Fi.oneF (ks.getD i default) (d + 1)))) := IH _ (En.getD_mem hlt) (d + 1) (by omega)
          rw [Fi.drop_fil hlt, Fi.oneL_cons] at he
          clear IH
          cases h1 : Fi.oneF (ks.getD i default) (d + 1) with
          | true =>
            rw [h1] at c1
            rw [h1, Bool.true_and] at he
            refine run ?_
            intros
            exact HX.roundX (i + 1) ⟨⟨by omega, he⟩, by omega⟩ rfl (run trivial) (run trivial)
          | false =>
            rw [h1] at c1
            rw [h1, Bool.false_and] at he
            rw [← he]
            exact run trivial
        · rw [← he, List.drop_of_length_le (by omega)]
          clear IH
          refine run ?_
          intros
          unfold Fi.oneL; rfl
    | false =>
      rw [Bool.false_and]
      clear IH
      rcases hk with rfl | rfl | rfl
      all_goals
        refine CallsC.of Try.call24 Try.func24 rfl Try.ntmps24 rfl fun w0 G0 S0 hs ho => ?_
        refine run ?_
        intros
        exfalso
        have e1 := Fi.nilF (l := ks)
        have e2 := Fi.nilS (l := s)
        grind
  · rw [Fi.one_big hdd]
    clear IH
    refine CallsC.of Try.call24 Try.func24 rfl Try.ntmps24 rfl fun w0 G0 S0 hs ho => ?_
    exact run trivial
set_option maxHeartbeats 4000000 in
theorem rfOne_3 (k : Int) (t v : List UInt8) (s : List (List UInt8)) (ks : List Fi.Fil) (hk : k = 3 ∨ k = 5 ∨ k = 6) (ht : t.length ≤ 1000000) : OneC (.mk k t v s ks) := by
  intro d hd
  by_cases hdd : d ≤ 16
  · rw [Fi.one_leaf hdd hk, Fi.cF_open]
    dsimp only [Fi.Fil.kind, Fi.Fil.typ, Fi.Fil.val, Fi.Fil.subs, Fi.Fil.kids]
    have c1 := rfType t (by omega)
    refine CallsC.of Try.call24 Try.func24 rfl Try.ntmps24 rfl fun w0 G0 S0 hs ho => ?_
    refine run ?_
    and_intros <;> intros <;> simp only [Fi.nilF, Fi.nilS, Fi.okS]
  · rw [Fi.one_big hdd]
    refine CallsC.of Try.call24 Try.func24 rfl Try.ntmps24 rfl fun w0 G0 S0 hs ho => ?_
    exact run trivial
set_option maxHeartbeats 4000000 in
theorem rfOne_4 (t v : List UInt8) (s : List (List UInt8)) (ks : List Fi.Fil) (ht : t.length ≤ 1000000) (hs1 : s.length ≤ 1000000) : OneC (.mk 4 t v s ks) := by
  intro d hd
  by_cases hdd : d ≤ 16
  · rw [Fi.one_4 hdd, Fi.cF_open]
    dsimp only [Fi.Fil.kind, Fi.Fil.typ, Fi.Fil.val, Fi.Fil.subs, Fi.Fil.kids]
    have c1 := rfType t (by omega)
    have c2 := rfSubs s hs1
    refine CallsC.of Try.call24 Try.func24 rfl Try.ntmps24 rfl fun w0 G0 S0 hs ho => ?_
    refine run ?_
    and_intros <;> intros <;> simp only [Fi.nilF, Fi.nilS, Fi.okS]
  · rw [Fi.one_big hdd]
    refine CallsC.of Try.call24 Try.func24 rfl Try.ntmps24 rfl fun w0 G0 S0 hs ho => ?_
    exact run trivial
set_option maxHeartbeats 4000000 in
theorem rfOne_7 (t v : List UInt8) (s : List (List UInt8)) (ks : List Fi.Fil) (ht : t.length ≤ 1000000) : OneC (.mk 7 t v s ks) := by
  intro d hd
  by_cases hdd : d ≤ 16
  · rw [Fi.one_7 hdd, Fi.cF_open]
    dsimp only [Fi.Fil.kind, Fi.Fil.typ, Fi.Fil.val, Fi.Fil.subs, Fi.Fil.kids]
    have c1 := rfType t (by omega)
    refine CallsC.of Try.call24 Try.func24 rfl Try.ntmps24 rfl fun w0 G0 S0 hs ho => ?_
    refine run ?_
    and_intros <;> intros <;> simp only [Fi.nilF, Fi.nilS, Fi.okS]
  · rw [Fi.one_big hdd]
    refine CallsC.of Try.call24 Try.func24 rfl Try.ntmps24 rfl fun w0 G0 S0 hs ho => ?_
    exact run trivial
set_option maxHeartbeats 4000000 in
theorem rfOne_x (k : Int) (t v : List UInt8) (s : List (List UInt8)) (ks : List Fi.Fil) (hk : ¬ (k = 0 ∨ k = 1 ∨ k = 2) ∧ ¬ (k = 3 ∨ k = 5 ∨ k = 6) ∧ k ≠ 4 ∧ k ≠ 7) : OneC (.mk k t v s ks) := by
  intro d hd
  by_cases hdd : d ≤ 16
  · rw [Fi.one_x hdd hk, Fi.cF_open]
    dsimp only [Fi.Fil.kind, Fi.Fil.typ, Fi.Fil.val, Fi.Fil.subs, Fi.Fil.kids]
    refine CallsC.of Try.call24 Try.func24 rfl Try.ntmps24 rfl fun w0 G0 S0 hs ho => ?_
    exact run trivial
  · rw [Fi.one_big hdd]
    refine CallsC.of Try.call24 Try.func24 rfl Try.ntmps24 rfl fun w0 G0 S0 hs ho => ?_
    exact run trivial
theorem rfOne : ∀ (N : Nat) (f : Fi.Fil), Fi.nodes f ≤ N → Fi.wt f ≤ 1000000 → OneC f
  | 0, .mk k t v s ks, h, _ => by unfold Fi.nodes at h; omega
  | N + 1, .mk k t v s ks, h, hw => by
    have e : Fi.nodes (.mk k t v s ks) = 1 + Fi.nodesL ks := by unfold Fi.nodes; rfl
    rw [e] at h
    rw [Fi.wt] at hw
    have w1 := Fi.wtl ks
    have w2 := Fi.sbl s
    by_cases k1 : k = 0 ∨ k = 1 ∨ k = 2
    · exact rfOne_b k t v s ks k1 (by omega) (fun a ha => rfOne N a (by have := Fi.kid_lt ha; omega) (by have := Fi.wtk ha; omega))
    by_cases k2 : k = 3 ∨ k = 5 ∨ k = 6
    · exact rfOne_3 k t v s ks k2 (by omega)
    by_cases k3 : k = 4
    · subst k3; exact rfOne_4 t v s ks (by omega) (by omega)
    by_cases k4 : k = 7
    · subst k4; exact rfOne_7 t v s ks (by omega)
    · exact rfOne_x k t v s ks ⟨k1, k2, k3, k4⟩
theorem rfIs (f : Fi.Fil) (hw : Fi.wt f ≤ 1000000) : CFn Try.prog 13 [TAgg (Fi.cF f)] (Is (.bool (Fi.isF f))) := by
  have c1 := rfOne (Fi.nodes f) f (Nat.le_refl _) hw 1 (by omega)
  have hn := Fi.nodes_wt f
  have c2 := rfNodes (Fi.nodes f) f (Nat.le_refl _) (by omega)
  unfold Fi.isF
  refine CallsC.of Try.call13 Try.func13 rfl Try.ntmps13 rfl fun w0 G0 S0 hs ho => ?_
  have e : decide ((Fi.nodes f : Int) ≤ 64) = decide (Fi.nodes f ≤ 64) := decide_eq_decide.2 (by omega)
  refine run ?_
  rw [e]
end Go.Proofs.Ythjckklijlfghaa
set_option linter.unusedVariables false
namespace Go.Fi
open Go.Vk
theorem rParse_err {s : List UInt8} (h : (rFilt 16 s).2.2 ≠ 0) : rParse s = (zeroF, (rFilt 16 s).2.2) := if_pos h
theorem rParse_more {s : List UInt8} (h : (rFilt 16 s).2.2 = 0) (h1 : (rFilt 16 s).2.1 ≠ []) : rParse s = (zeroF, 3) := by
  unfold rParse; rw [if_neg (by rw [h]; simp), if_pos h1]
theorem rParse_end {s : List UInt8} (h : (rFilt 16 s).2.2 = 0) (h1 : (rFilt 16 s).2.1 = []) : rParse s = if isF (rFilt 16 s).1 = true then ((rFilt 16 s).1, 0) else (zeroF, 5) := by
  unfold rParse; rw [if_neg (by rw [h]; simp), if_neg (by rw [h1]; simp)]
theorem rFilt_wt (s : List UInt8) (h : s.length ≤ 100000) (h0 : (rFilt 16 s).2.2 = 0) : wt (rFilt 16 s).1 ≤ 1000000 := by
  have h1 := filt_same 16 s
  have h2 := h1.f (h1.e.trans h0)
  rw [← h2.1]
  exact parse_wt s h
end Go.Fi
set_option linter.unusedVariables false
namespace Go.Proofs.Ythjckklijlfghaa
open Go.Vk
attribute [local irreducible] HT HX RegS RegA RegM OpP OpC AltT
attribute [local irreducible] Dn.typB Dn.halfV Fi.tk Fi.posI Fi.rFilt Fi.isF
set_option maxHeartbeats 2000000 in
theorem rdParse (s : List UInt8) (hs : s.length ≤ 100000) : CFn Try.prog 9 [Is (str s)] (TTup [TAgg (Fi.cF (Fi.rParse s).1), okI .i64 (Fi.rParse s).2]) := by
  have c1 : ∀ g, CallsC Try.prog 21 [Is (pAt g 0), okI .i64 1] [RX16 g s 0 0] (fun _ => TAgg (Fi.cF (Fi.rFilt 16 s).1)) (fun _ => [RX16 g s (Fi.posI s (Fi.rFilt 16 s).2.1) (Fi.rFilt 16 s).2.2]) := fun g => rdFilt 16 (Nat.le_refl _) g s 0 (by omega) (by omega)
  have hsf := Fi.rFilt_suf 16 s
  have hpe := Fi.pos_end hsf
  have hwt := Fi.rFilt_wt s hs
  have mu := Mut.mk' [8]
  have pl := Plan.mk' 6 [(0,3,[]),(1,3,[]),(2,3,[]),(3,3,[]),(4,2,[1]),(5,0,[1]),(6,3,[])]
  have hP1 := @Fi.rParse_err s
  have hP2 := @Fi.rParse_more s
  have hP3 := @Fi.rParse_end s
  generalize hx : Fi.rFilt 16 s = x at c1 hsf hpe hP1 hP2 hP3 hwt
  by_cases h0 : x.2.2 = 0
  · have hwt := hwt h0
    have c2 := rfIs x.1 hwt
    by_cases h1 : x.2.1 = []
    · rw [hP3 h0 h1]
      have hn : ¬ Fi.posI s x.2.1 < (s.length : Int) := fun h => hpe.1 h h1
      cases hi : Fi.isF x.1 with
      | true =>
        rw [if_pos rfl]
        rw [hi] at c2
        clear hP1 hP2 hP3
        refine CallsC.of Try.call9 Try.func9 rfl Try.ntmps9 rfl fun w0 G0 S0 hs ho => ?_
        exact run trivial
      | false =>
        rw [if_neg (by simp)]
        rw [hi] at c2
        clear hP1 hP2 hP3
        refine CallsC.of Try.call9 Try.func9 rfl Try.ntmps9 rfl fun w0 G0 S0 hs ho => ?_
        (refine run ?_; (and_intros <;> intros <;> first | rfl | assumption | omega))
    · rw [hP2 h0 h1]
      have hn : Fi.posI s x.2.1 < (s.length : Int) := hpe.2 h1
      have c3 : ∀ g, CallsC Try.prog 22 [Is (pAt g 0), okI .i64 3] [RX16 g s (Fi.posI s x.2.1) 0] (fun _ => TAgg (Fi.cF Fi.zeroF)) (fun _ => [RX16 g s (Fi.posI s x.2.1) 3]) := fun g => rdBad g s (Fi.posI s x.2.1) 0 3
      rw [h0] at c1
      clear c2 hP1 hP2 hP3
      refine CallsC.of Try.call9 Try.func9 rfl Try.ntmps9 rfl fun w0 G0 S0 hs ho => ?_
      (refine run ?_; (and_intros <;> intros <;> first | rfl | assumption | omega))
  · rw [hP1 h0]
    clear hP1 hP2 hP3
    refine CallsC.of Try.call9 Try.func9 rfl Try.ntmps9 rfl fun w0 G0 S0 hs ho => ?_
    (refine run ?_; (and_intros <;> intros <;> first | rfl | assumption | omega))
end Go.Proofs.Ythjckklijlfghaa
set_option linter.unusedVariables false
namespace Go.Fi
open Go.Vk
theorem pParse_wt3 (s : List UInt8) (h : s.length ≤ 600) : wt (pParse s).1 ≤ 4000 := by
  have := (pFilt_wt 16 s).1
  unfold pParse
  split
  · simp [zeroF, wt, wtL, subsW]
  split
  · simp [zeroF, wt, wtL, subsW]
  split
  · dsimp only; omega
  · simp [zeroF, wt, wtL, subsW]
theorem wt_nest : ∀ n : Nat, wt (nest n) = 5 * n + 8
  | 0 => rfl
  | n + 1 => by rw [nest, wt, wtL, wtL, wt_nest n]; simp [subsW]; omega
theorem wt_zero : wt zeroF = 5 := by decide +kernel
theorem nest0_pr : [40, 99, 110, 61, 97, 41] = prF (nest 0) := by decide +kernel
end Go.Fi
set_option linter.unusedVariables false
namespace Go.Proofs.Ythjckklijlfghaa
open Go.Vk
attribute [local irreducible] HT HX RegS RegA RegM OpP OpC AltT
attribute [local irreducible] Fi.isF Fi.prF Fi.pParse Fi.nodes Fi.wt Fi.nest
theorem lwParses16 (s : List UInt8) : CFn Try.prog 3 [Is (str s)] (Is (.bool true)) := by
  have c4 := lwKnown16
  by_cases hs : s.length ≤ 600
  · have c1 := fpParse s (by omega)
    have c2 := rdParse s (by omega)
    rw [← Fi.parse_same] at c2
    have hw := Fi.pParse_wt s (by omega)
    have c3 := rfSame (Fi.nodes (Fi.pParse s).1) (Fi.pParse s).1 (Nat.le_refl _) hw (Fi.pParse s).1
    rw [decide_eq_true rfl] at c3
    generalize Fi.pParse s = x at c1 c2 c3
    have su := Sure.mk' [24, 25, 26, 29]
    refine CallsC.of Try.call3 Try.func3 rfl Try.ntmps3 rfl fun w0 G0 S0 hs ho => ?_
    exact run trivial
  · refine CallsC.of Try.call3 Try.func3 rfl Try.ntmps3 rfl fun w0 G0 S0 hs ho => ?_
    exact run trivial
theorem lwSettles (s : List UInt8) : CFn Try.prog 5 [Is (str s)] (Is (.bool true)) := by
  have c9 := lwKnown16
  by_cases hs : s.length ≤ 600
  · have c1 := fpParse s (by omega)
    have c2 := rdParse s (by omega)
    rw [← Fi.parse_same] at c2
    have hw := Fi.pParse_wt3 s hs
    cases hp : Fi.pParse s with
    | mk f e =>
      rw [hp] at c1 c2 hw
      dsimp only at c1 c2 hw
      by_cases he : e = 0
      · subst he
        have hi := Fi.parse_isF hp
        have hb := Fi.parse_back hi
        have hl := Fi.prF_len3 f
        have c3 := fpPrint f (by omega) hi
        have c4 := fpParse (Fi.prF f) (by omega)
        rw [hb] at c4
        dsimp only at c4
        have c5 := fpIs f (by omega)
        rw [hi] at c5
        have c6 := rfSame (Fi.nodes f) f (Nat.le_refl _) (by omega) f
        rw [decide_eq_true rfl] at c6
        clear c2
        have su := Sure.mk' [38, 39, 40, 43, 44, 47]
        refine CallsC.of Try.call5 Try.func5 rfl Try.ntmps5 rfl fun w0 G0 S0 hs ho => ?_
        exact run trivial
      · have su := Sure.mk' [27]
        refine CallsC.of Try.call5 Try.func5 rfl Try.ntmps5 rfl fun w0 G0 S0 hs ho => ?_
        refine run ?_
        intros
        rw [decide_eq_true he]; rfl
  · refine CallsC.of Try.call5 Try.func5 rfl Try.ntmps5 rfl fun w0 G0 S0 hs ho => ?_
    exact run trivial
set_option maxHeartbeats 1000000 in
theorem lwDeep (n : Int) : CFn Try.prog 6 [okI .i64 n] (Is (.bool true)) := by
  have c9 := lwKnown16
  by_cases hb : n < 0 ∨ 60 < n
  · refine CallsC.of Try.call6 Try.func6 rfl Try.ntmps6 rfl fun w0 G0 S0 hs ho => ?_
    exact run trivial
  obtain ⟨m, rfl⟩ : ∃ m : Nat, n = (m : Int) := ⟨n.toNat, by omega⟩
  have hm : m ≤ 60 := by omega
  refine CallsC.of Try.call6 Try.func6 rfl Try.ntmps6 rfl fun w0 G0 S0 hs ho => ?_
  refine run ?_
  intro _
  refine HT.loopX (σ := Nat) [0, 2] (fun i => [(3, Is (str (Fi.prF (Fi.nest i)))), (4, okI .i64 (i : Int))]) (fun i => []) (fun i => i ≤ m) (fun i => m - i) 0 (Nat.zero_le _) (run trivial) (by refine run ?_; exact Fi.nest0_pr) ?_
  intro i hi
  by_cases hlt : i < m
  · have := Fi.prF_len3 (Fi.nest i)
    have hw := Fi.wt_nest i
    clear c9
    refine run ?_
    intro _
    exact HX.roundX (i + 1) ⟨by omega, by omega⟩ rfl (run trivial) (by refine run ?_; rw [Fi.nest_pr])
  · have he : i = m := by omega
    subst he
    have hl := Fi.prF_len3 (Fi.nest i)
    have hw := Fi.wt_nest i
    have c1 := fpParse (Fi.prF (Fi.nest i)) (by omega)
    by_cases h16 : 16 ≤ i
    · rw [Fi.parse_deep h16] at c1
      dsimp only at c1
      have c2 := rfSame (Fi.nodes Fi.zeroF) Fi.zeroF (Nat.le_refl _) (by rw [Fi.wt_zero]; decide) Fi.zeroF
      rw [decide_eq_true rfl] at c2
      rw [zeroCF] at c1 c2
      have su := Sure.mk' [32, 33, 34, 37]
      exact run trivial
    · rw [Fi.parse_back (Fi.nest_isF (by omega))] at c1
      dsimp only at c1
      have hnn := Fi.nest_nodes i
      have c2 := fpNodes (Fi.nodes (Fi.nest i)) (Fi.nest i) (Nat.le_refl _) (by omega)
      rw [hnn] at c2
      have su := Sure.mk' [42, 43, 44, 45, 46, 49]
      refine run ?_
      intros
      rw [decide_eq_true (show ((i + 1 : Nat) : Int) = (i : Int) + 1 by omega)]
      rfl
end Go.Proofs.Ythjckklijlfghaa
