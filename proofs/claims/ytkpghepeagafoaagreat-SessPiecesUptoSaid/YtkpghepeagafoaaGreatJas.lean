/-
  The contracts of the document's Same, blank, lists, kind, Is, Encode.
  Requests out of items: the plain functions that the program's readers compute.
  The contracts of the program's readers: texts, attr, attrs, mods, pieces.
  The contract of the program's reader of pieces.
  The program's readers and the document's: where one is good, so is the other, and they read the same. Nothing here speaks of a program.
-/
import Derived.Test.YtkpghepeagafoaaGreatJar
import Derived.Test.YtkpghepeagafoaaGreatJap
set_option linter.unusedSimpArgs false
set_option linter.unusedVariables false
set_option linter.unusedVariables false
namespace Go.Ms
open Go.Vk
/-- A request of its kind, with what that names. -/
def blankR (r : Req) : Req :=
  let k := r.kind
  ⟨r.num, r.kind, if k = 0 ∨ k = 3 ∨ k = 6 ∨ k = 8 ∨ k = 10 ∨ k = 12 ∨ k = 14 then r.dn else [], if k = 0 then r.pass else [], if k = 3 then r.scope else 0, if k = 3 then r.limit else 0, if k = 3 then r.fil else Fi.zeroF, if k = 3 then r.want else [], if k = 6 then r.mods else [], if k = 8 then r.attrs else [], if k = 12 then r.rdn else [], if k = 12 then r.keep else false, if k = 12 then r.above else false, if k = 12 then r.up else [], if k = 14 then r.avaT else [], if k = 14 then r.avaV else [], if k = 16 then r.which else 0⟩
theorem blank_iff {r : Req} (h : isKindB r.kind = true) : r = blankR r ↔ unnR r = zR := by
  obtain ⟨num, kind, dn, pass, scope, limit, fil, want, mods, attrs, rdn, keep, above, up, avaT, avaV, which⟩ := r
  unfold blankR unnR zR
  dsimp only
  rcases isKindB_iff.1 h with h | h | h | h | h | h | h | h | h <;> dsimp only at h <;> subst h <;> simp only [Req.mk.injEq, reduceIte, Int.reduceEq, or_self, or_false, false_or, or_true, true_or, true_and, and_true]
def listsB (r : Req) : Bool := fewB r.want && fewB r.mods && fewB r.attrs && (r.mods.all modOk && r.attrs.all attrOk)
theorem all_snoc {α : Type} [Inhabited α] {p : α → Bool} {l : List α} {i : Nat} (h : i < l.length) (h0 : (l.take i).all p = true) (h1 : p (l.getD i default) = true) : (l.take (i + 1)).all p = true := by
  rw [List.take_add_one, List.all_append, h0, List.getElem?_eq_getElem h]
  rw [List.getD_eq_getElem?_getD, List.getElem?_eq_getElem h] at h1
  simpa using h1
theorem all_no {α : Type} [Inhabited α] {p : α → Bool} {l : List α} {i : Nat} (h : i < l.length) (h1 : p (l.getD i default) = false) : l.all p = false := by
  rw [List.all_eq_false]
  exact ⟨_, En.getD_mem h, by rw [h1]; simp⟩
end Go.Ms
set_option maxRecDepth 8000
set_option linter.unusedVariables false
namespace Go.Proofs.YtkpghepeagafoaaGreat
open Go.Vk
attribute [local irreducible] HT HX RegS RegA RegM OpP OpC AltT
attribute [local irreducible] Ber.tagB Ber.lenB Ber.intB Ms.textB Ms.wV Ms.wF Ms.filB Ms.piecesB Ms.tagF Fi.isF Fi.wt Ms.wM Ms.wA Ms.textsB Ms.modsB Ms.attrsB Ms.opB
theorem rfTexts25 (l m : List (List UInt8)) (hl : l.length ≤ 1152921504606846976) : CFn Tryz.prog 33 [TSl 1 En.cS l, TSl 1 En.cS m] (Is (.bool (decide (l = m)))) := by
  refine CallsC.of Tryz.call33 Tryz.func33 rfl Tryz.ntmps33 rfl fun w0 G0 S0 hs ho => ?_
  refine run ?_
  refine ⟨fun h => ?_, fun hc => ?_⟩
  · exact (decide_eq_false (fun e => h (by rw [e]))).symm
  refine HT.loopX (σ := Nat) [0, 1] (fun i => [(5, okI .i64 (i : Int))]) (fun _ => []) (fun i => i ≤ l.length ∧ l.take i = m.take i) (fun i => l.length - i) 0 ⟨Nat.zero_le _, rfl⟩ (run trivial) (run trivial) ?_
  rintro i ⟨hi, he⟩
  have hc' : l.length = m.length := by
    have : (l.length : Int) = (m.length : Int) := Decidable.not_not.1 hc
    omega
  refine run ?_
  refine ⟨fun h1 h2 => ?_, fun h1 h2 => ?_, fun h1 => ?_⟩
  · exact (decide_eq_false (fun e => h2 (by rw [e]))).symm
  · exact HX.roundX (i + 1) ⟨⟨by omega, En.take_ext (by omega) hc' he (by exact Decidable.not_not.1 h2)⟩, by omega⟩ rfl (run trivial) (run trivial)
  · exact (decide_eq_true (En.take_all h1 hc' he)).symm
theorem rfSameMods25 (l m : List Ms.Mod) (hl : l.length ≤ 1152921504606846976) (hv : ∀ a ∈ l, a.vals.length ≤ 1000000000) : CFn Tryz.prog 34 [TSl 3 Ms.cMod l, TSl 3 Ms.cMod m] (Is (.bool (decide (l = m)))) := by
  refine CallsC.of Tryz.call34 Tryz.func34 rfl Tryz.ntmps34 rfl fun w0 G0 S0 hs ho => ?_
  refine run ?_
  refine ⟨fun h => ?_, fun hc => ?_⟩
  · exact (decide_eq_false (fun e => h (by rw [e]))).symm
  refine HT.loopX (σ := Nat) [0, 1] (fun i => [(5, okI .i64 (i : Int))]) (fun _ => []) (fun i => i ≤ l.length ∧ l.take i = m.take i) (fun i => l.length - i) 0 ⟨Nat.zero_le _, rfl⟩ (run trivial) (run trivial) ?_
  rintro i ⟨hi, he⟩
  have hc' : l.length = m.length := by
    have : (l.length : Int) = (m.length : Int) := Decidable.not_not.1 hc
    omega
  have cf' := fun (hlt : i < l.length) => rfTexts25 (l.getD i default).vals (m.getD i default).vals (by have := hv _ (En.getD_mem hlt); omega)
  clear hv
  have hme := Ms.mod_eq (l.getD i default) (m.getD i default)
  refine run ?_
  refine ⟨fun h1 h2 => ?_, fun h1 h2 => ?_, fun h1 => ?_⟩
  · refine (decide_eq_false (fun e => ?_)).symm
    rw [e] at h2
    simp at h2
  · exact HX.roundX (i + 1) ⟨⟨by omega, En.take_ext (by omega) hc' he (of_decide_eq_true (by rw [hme]; simp only [Bool.and_eq_true, decide_eq_true_eq]; simp only [ne_eq, Decidable.not_not] at h2; exact h2))⟩, by omega⟩ rfl (run trivial) (run trivial)
  · exact (decide_eq_true (En.take_all h1 hc' he)).symm
theorem rfSameAttrs25 (l m : List En.Attr) (hl : l.length ≤ 1152921504606846976) (hv : ∀ a ∈ l, a.vals.length ≤ 1000000000) : CFn Tryz.prog 35 [TSl 2 En.cAttr l, TSl 2 En.cAttr m] (Is (.bool (decide (l = m)))) := by
  refine CallsC.of Tryz.call35 Tryz.func35 rfl Tryz.ntmps35 rfl fun w0 G0 S0 hs ho => ?_
  refine run ?_
  refine ⟨fun h => ?_, fun hc => ?_⟩
  · exact (decide_eq_false (fun e => h (by rw [e]))).symm
  refine HT.loopX (σ := Nat) [0, 1] (fun i => [(5, okI .i64 (i : Int))]) (fun _ => []) (fun i => i ≤ l.length ∧ l.take i = m.take i) (fun i => l.length - i) 0 ⟨Nat.zero_le _, rfl⟩ (run trivial) (run trivial) ?_
  rintro i ⟨hi, he⟩
  have hc' : l.length = m.length := by
    have : (l.length : Int) = (m.length : Int) := Decidable.not_not.1 hc
    omega
  have cf' := fun (hlt : i < l.length) => rfTexts25 (l.getD i default).vals (m.getD i default).vals (by have := hv _ (En.getD_mem hlt); omega)
  clear hv
  have hme := Ms.attr_eq (l.getD i default) (m.getD i default)
  refine run ?_
  refine ⟨fun h1 h2 => ?_, fun h1 h2 => ?_, fun h1 => ?_⟩
  · refine (decide_eq_false (fun e => ?_)).symm
    rw [e] at h2
    simp at h2
  · exact HX.roundX (i + 1) ⟨⟨by omega, En.take_ext (by omega) hc' he (of_decide_eq_true (by rw [hme]; simp only [Bool.and_eq_true, decide_eq_true_eq]; simp only [ne_eq, Decidable.not_not] at h2; exact h2))⟩, by omega⟩ rfl (run trivial) (run trivial)
  · exact (decide_eq_true (En.take_all h1 hc' he)).symm
set_option maxHeartbeats 8000000 in
theorem rfSame25 (a b : Ms.Req) (ha : Ms.Okr a) : CFn Tryz.prog 20 [TAgg (Ms.cReq a), TAgg (Ms.cReq b)] (Is (.bool (decide (a = b)))) := by
  have h1 := ha.filw
  have h2 := ha.want
  have h3 := ha.mods
  have h4 := ha.attrs
  have c1 := rfSame (Fi.nodes a.fil) a.fil (Nat.le_refl _) h1 b.fil
  rw [Fi.cF_open a.fil, Fi.cF_open b.fil] at c1
  have c2 := rfTexts25 a.want b.want (by have := Ms.sm_len Ms.wV_pos a.want; omega)
  have c3 := rfSameMods25 a.mods b.mods (by have := Ms.sm_len Ms.wM_pos a.mods; omega) (fun x hx => by have := Ms.wM_vals x; have := Ms.sm_mem (f := Ms.wM) hx; omega)
  have c4 := rfSameAttrs25 a.attrs b.attrs (by have := Ms.sm_len Ms.wA_pos a.attrs; omega) (fun x hx => by have := Ms.wA_vals x; have := Ms.sm_mem (f := Ms.wA) hx; omega)
  rw [Ms.req_eq]
  clear h1 h2 h3 h4 ha
  refine CallsC.of Tryz.call20 Tryz.func20 rfl Tryz.ntmps20 rfl fun w0 G0 S0 hs ho => ?_
  refine run ?_
  rw [Bool.eq_iff_iff]
  simp only [allB, Bool.and_eq_true, Bool.and_true, decide_eq_true_eq, beq_iff_eq]
  constructor <;> (intro h; simp [h])
theorem rfKind25 (k : Int) : CFn Tryz.prog 36 [okI .i64 k] (Is (.bool (Ms.isKindB k))) := by
  have h := @Ms.isKindB_iff k
  refine CallsC.of Tryz.call36 Tryz.func36 rfl Tryz.ntmps36 rfl fun w0 G0 S0 hs ho => ?_
  refine run ?_
  rw [Bool.eq_iff_iff, h]
  simp only [Bool.or_eq_true, decide_eq_true_eq]
  constructor <;> (intro h; omega)
set_option maxHeartbeats 4000000 in
theorem rfLists25 (r : Ms.Req) (ha : Ms.Okr r) : CFn Tryz.prog 37 [TAgg (Ms.cReq r)] (Is (.bool (Ms.listsB r))) := by
  have h3 := Ms.sm_len Ms.wM_pos r.mods
  have h4 := Ms.sm_len Ms.wA_pos r.attrs
  have o3 := ha.mods
  have o4 := ha.attrs
  have hmv : ∀ i, i < r.mods.length → (r.mods.getD i default).vals.length ≤ 90000000 := fun i hi => Nat.le_trans (Ms.wM_vals _) (Nat.le_trans (Ms.sm_mem (f := Ms.wM) (En.getD_mem hi)) o3)
  have hav : ∀ i, i < r.attrs.length → (r.attrs.getD i default).vals.length ≤ 90000000 := fun i hi => Nat.le_trans (Ms.wA_vals _) (Nat.le_trans (Ms.sm_mem (f := Ms.wA) (En.getD_mem hi)) o4)
  clear ha
  unfold Ms.listsB Ms.fewB
  refine CallsC.of Tryz.call37 Tryz.func37 rfl Tryz.ntmps37 rfl fun w0 G0 S0 hs ho => ?_
  refine run ?_
  intro hf
  have hf' : (decide ((r.want.length : Int) ≤ 64) && decide ((r.mods.length : Int) ≤ 64) && decide ((r.attrs.length : Int) ≤ 64)) = true := by grind
  rw [hf', Bool.true_and]
  refine HT.loopX (σ := Nat) [1] (fun i => [(3, okI .i64 (i : Int))]) (fun _ => []) (fun i => i ≤ r.mods.length ∧ (r.mods.take i).all Ms.modOk = true) (fun i => r.mods.length - i) 0 ⟨Nat.zero_le _, rfl⟩ (run trivial) (run trivial) ?_
  rintro i ⟨hi, he⟩
  by_cases hlt : i < r.mods.length
  · have hv := hmv i hlt
    clear hmv hav
    have hd : Ms.modOk (r.mods.getD i default) = (decide (0 ≤ (r.mods.getD i default).kind) && decide ((r.mods.getD i default).kind ≤ 2) && decide (((r.mods.getD i default).vals.length : Int) ≤ 64)) := rfl
    refine run ?_
    refine ⟨fun _ h => ?_, fun _ h => ?_⟩
    · have hn : Ms.modOk (r.mods.getD i default) = false := by rw [hd]; grind
      rw [Ms.all_no hlt hn, Bool.false_and]
    · have hn : Ms.modOk (r.mods.getD i default) = true := by rw [hd]; grind
      exact HX.roundX (i + 1) ⟨⟨by omega, Ms.all_snoc hlt he hn⟩, by omega⟩ rfl (run trivial) (run trivial)
  · rw [List.take_of_length_le (by omega)] at he
    rw [he, Bool.true_and]
    clear hmv
    refine run ?_
    intro _
    refine HT.loopX (σ := Nat) [1] (fun i => [(4, okI .i64 (i : Int))]) (fun _ => []) (fun i => i ≤ r.attrs.length ∧ (r.attrs.take i).all Ms.attrOk = true) (fun i => r.attrs.length - i) 0 ⟨Nat.zero_le _, rfl⟩ (run trivial) (run trivial) ?_
    clear hi hlt he
    rintro i ⟨hi, he⟩
    by_cases hlt : i < r.attrs.length
    · have hv := hav i hlt
      clear hav
      have hd : Ms.attrOk (r.attrs.getD i default) = decide (((r.attrs.getD i default).vals.length : Int) ≤ 64) := rfl
      refine run ?_
      refine ⟨fun _ h => ?_, fun _ h => ?_⟩
      · have hn : Ms.attrOk (r.attrs.getD i default) = false := by rw [hd]; grind
        exact (Ms.all_no hlt hn).symm
      · have hn : Ms.attrOk (r.attrs.getD i default) = true := by rw [hd]; grind
        exact HX.roundX (i + 1) ⟨⟨by omega, Ms.all_snoc hlt he hn⟩, by omega⟩ rfl (run trivial) (run trivial)
    · rw [List.take_of_length_le (by omega)] at he
      rw [he]
      clear hav
      exact run trivial
set_option maxHeartbeats 4000000 in
theorem rfBlank25 (r : Ms.Req) : CFn Tryz.prog 39 [TAgg (Ms.cReq r)] (TAgg (Ms.cReq (Ms.blankR r))) := by
  obtain ⟨num, kind, dn, pass, scope, limit, fil, want, mods, attrs, rdn, keep, above, up, avaT, avaV, which⟩ := r
  unfold Ms.blankR
  dsimp only
  by_cases h0 : kind = 0
  · subst h0
    simp only [reduceIte, Int.reduceEq, or_self, or_false, false_or, or_true, true_or]
    dsimp only [Ms.cReq]
    have pl := Plan.mk' 4 [(0,3,[]),(1,3,[]),(2,3,[]),(3,3,[]),(4,3,[]),(6,3,[]),(5,0,[]),(7,0,[])]
    refine CallsC.of Tryz.call39 Tryz.func39 rfl Tryz.ntmps39 rfl fun w0 G0 S0 hs ho => ?_
    refine run ?_
    and_intros <;> intros <;> rfl
  by_cases h2 : kind = 2
  · subst h2
    simp only [reduceIte, Int.reduceEq, or_self, or_false, false_or, or_true, true_or]
    dsimp only [Ms.cReq]
    refine CallsC.of Tryz.call39 Tryz.func39 rfl Tryz.ntmps39 rfl fun w0 G0 S0 hs ho => ?_
    refine run ?_
    and_intros <;> intros <;> rfl
  by_cases h3 : kind = 3
  · subst h3
    simp only [reduceIte, Int.reduceEq, or_self, or_false, false_or, or_true, true_or]
    dsimp only [Ms.cReq]
    have pl := Plan.mk' 6 [(0,3,[]),(1,3,[]),(2,3,[]),(3,3,[]),(4,3,[]),(5,3,[]),(6,3,[]),(7,3,[]),(8,3,[]),(9,3,[]),(10,3,[]),(12,3,[]),(14,3,[]),(16,3,[]),(18,3,[]),(11,0,[]),(13,0,[]),(15,0,[]),(17,0,[]),(19,0,[])]
    refine CallsC.of Tryz.call39 Tryz.func39 rfl Tryz.ntmps39 rfl fun w0 G0 S0 hs ho => ?_
    exact run trivial
  by_cases h6 : kind = 6
  · subst h6
    simp only [reduceIte, Int.reduceEq, or_self, or_false, false_or, or_true, true_or]
    dsimp only [Ms.cReq]
    have pl := Plan.mk' 8 [(0,3,[]),(1,3,[]),(2,3,[]),(3,3,[]),(4,3,[]),(6,3,[]),(5,0,[]),(7,0,[])]
    refine CallsC.of Tryz.call39 Tryz.func39 rfl Tryz.ntmps39 rfl fun w0 G0 S0 hs ho => ?_
    refine run ?_
    and_intros <;> intros <;> rfl
  by_cases h8 : kind = 8
  · subst h8
    simp only [reduceIte, Int.reduceEq, or_self, or_false, false_or, or_true, true_or]
    dsimp only [Ms.cReq]
    have pl := Plan.mk' 10 [(0,3,[]),(1,3,[]),(2,3,[]),(3,3,[]),(4,3,[]),(6,3,[]),(5,0,[]),(7,0,[])]
    refine CallsC.of Tryz.call39 Tryz.func39 rfl Tryz.ntmps39 rfl fun w0 G0 S0 hs ho => ?_
    refine run ?_
    and_intros <;> intros <;> rfl
  by_cases h10 : kind = 10
  · subst h10
    simp only [reduceIte, Int.reduceEq, or_self, or_false, false_or, or_true, true_or]
    dsimp only [Ms.cReq]
    refine CallsC.of Tryz.call39 Tryz.func39 rfl Tryz.ntmps39 rfl fun w0 G0 S0 hs ho => ?_
    refine run ?_
    and_intros <;> intros <;> rfl
  by_cases h12 : kind = 12
  · subst h12
    simp only [reduceIte, Int.reduceEq, or_self, or_false, false_or, or_true, true_or]
    dsimp only [Ms.cReq]
    have pl := Plan.mk' 14 [(0,3,[]),(1,3,[]),(2,3,[]),(3,3,[]),(4,3,[]),(5,3,[]),(6,3,[]),(7,3,[]),(8,3,[]),(9,3,[]),(10,3,[]),(12,3,[]),(14,3,[]),(16,3,[]),(18,3,[]),(11,0,[]),(13,0,[]),(15,0,[]),(17,0,[]),(19,0,[])]
    refine CallsC.of Tryz.call39 Tryz.func39 rfl Tryz.ntmps39 rfl fun w0 G0 S0 hs ho => ?_
    refine run ?_
    and_intros <;> intros <;> rfl
  by_cases h14 : kind = 14
  · subst h14
    simp only [reduceIte, Int.reduceEq, or_self, or_false, false_or, or_true, true_or]
    dsimp only [Ms.cReq]
    have pl := Plan.mk' 16 [(0,3,[]),(1,3,[]),(2,3,[]),(3,3,[]),(4,3,[]),(6,3,[]),(5,0,[]),(7,0,[])]
    refine CallsC.of Tryz.call39 Tryz.func39 rfl Tryz.ntmps39 rfl fun w0 G0 S0 hs ho => ?_
    refine run ?_
    and_intros <;> intros <;> rfl
  by_cases h16 : kind = 16
  · subst h16
    simp only [reduceIte, Int.reduceEq, or_self, or_false, false_or, or_true, true_or]
    dsimp only [Ms.cReq]
    refine CallsC.of Tryz.call39 Tryz.func39 rfl Tryz.ntmps39 rfl fun w0 G0 S0 hs ho => ?_
    refine run ?_
    and_intros <;> intros <;> rfl
  simp only [h0, h2, h3, h6, h8, h10, h12, h14, h16, reduceIte, or_self]
  dsimp only [Ms.cReq]
  refine CallsC.of Tryz.call39 Tryz.func39 rfl Tryz.ntmps39 rfl fun w0 G0 S0 hs ho => ?_
  refine run ?_
  and_intros <;> intros <;> rfl
attribute [local irreducible] Ms.soundB Ms.reqB Ms.blankR
set_option maxHeartbeats 8000000 in
theorem rfIs25 (r : Ms.Req) (ha : Ms.Okr r) : CFn Tryz.prog 21 [TAgg (Ms.cReq r)] (Is (.bool (Ms.isR r))) := by
  have c1 := rfKind25 r.kind
  have c2 := rfLists25 r ha
  have c3 := rfBlank25 r
  have c4 := rfSame25 r (Ms.blankR r) ha
  have h1 := ha.filw
  have c5 := rfIs r.fil h1
  rw [Fi.cF_open r.fil] at c5
  have hd : Ms.soundB r = (Ms.isKindB r.kind && Ms.numB r.num 1 && decide (Ms.unnR r = Ms.zR) && (decide (0 ≤ r.scope) && decide (r.scope ≤ 2) && Ms.numB r.limit 0 && Ms.numB r.which 0) && (!decide (r.kind = 3) || Fi.isF r.fil) && (r.above || decide (r.up = [])) && (Ms.fewB r.want && Ms.fewB r.mods && Ms.fewB r.attrs) && (r.mods.all Ms.modOk && r.attrs.all Ms.attrOk)) := by unfold Ms.soundB; rfl
  have hl : Ms.listsB r = (Ms.fewB r.want && Ms.fewB r.mods && Ms.fewB r.attrs && (r.mods.all Ms.modOk && r.attrs.all Ms.attrOk)) := rfl
  have hb : Ms.isKindB r.kind = true → (r = Ms.blankR r ↔ Ms.unnR r = Ms.zR) := Ms.blank_iff
  have hn : ∀ n m : Int, Ms.numB n m = (decide (m ≤ n) && decide (n ≤ 2147483647)) := fun _ _ => rfl
  unfold Ms.isR
  cases hS : Ms.soundB r with
  | false =>
    rw [hd, hn, hn, hn] at hS
    clear hd hn h1 ha
    rw [Bool.false_and]
    refine CallsC.of Tryz.call21 Tryz.func21 rfl Tryz.ntmps21 rfl fun w0 G0 S0 hs ho => ?_
    refine run ?_
    intro g1 g2
    exfalso
    rw [hl] at g1
    grind
  | true =>
    have hs2 := Ms.soundB_iff hS
    have c6 := rfBytes25 r ha hs2.1 (fun h => Ms.isF_pr (hs2.2 h))
    rw [hd, hn, hn, hn] at hS
    clear hd hn h1 ha hs2
    rw [Bool.true_and]
    refine CallsC.of Tryz.call21 Tryz.func21 rfl Tryz.ntmps21 rfl fun w0 G0 S0 hs ho => ?_
    refine run ?_
    rw [hl]
    refine ⟨fun g1 => ?_, fun g1 g2 => ?_⟩
    · exfalso; grind
    · exfalso; grind
theorem rfEncode25 (r : Ms.Req) (ha : Ms.Okr r) : CFn Tryz.prog 13 [TAgg (Ms.cReq r)] (TTup [TBytes (if Ms.isR r = true then Ms.reqB r else []), okI .i64 (if Ms.isR r = true then 0 else 1)]) := by
  have c1 := rfIs25 r ha
  cases h : Ms.isR r with
  | false =>
    rw [h] at c1
    simp only [Bool.false_eq_true, reduceIte]
    clear ha
    refine CallsC.of Tryz.call13 Tryz.func13 rfl Tryz.ntmps13 rfl fun w0 G0 S0 hs ho => ?_
    exact run trivial
  | true =>
    rw [h] at c1
    simp only [reduceIte]
    have hS : Ms.soundB r = true := by unfold Ms.isR at h; rw [Bool.and_eq_true] at h; exact h.1
    have hs2 := Ms.soundB_iff hS
    have c6 := rfBytes25 r ha hs2.1 (fun h => Ms.isF_pr (hs2.2 h))
    clear ha hs2 hS h
    refine CallsC.of Tryz.call13 Tryz.func13 rfl Tryz.ntmps13 rfl fun w0 G0 S0 hs ho => ?_
    exact run trivial
end Go.Proofs.YtkpghepeagafoaaGreat
set_option linter.unusedVariables false
namespace Go.Ms
open Go.Vk
open Go.Fi (Fil)
abbrev It := Ber.It
def wIt (x : It) : Nat := x.2.length + 2
/-- How much some items hold. -/
def wI (l : List It) : Nat := sm wIt l
theorem wI_len (l : List It) : l.length ≤ wI l := sm_len (fun a => by unfold wIt; omega) l
theorem wI_cons (x : It) (l : List It) : wI (x :: l) = x.2.length + 2 + wI l := by simp [wI, sm, wIt]
theorem wI_nil : wI [] = 0 := rfl
theorem wI_app (l m : List It) : wI (l ++ m) = wI l + wI m := by unfold wI sm; rw [List.map_append, List.sum_append]
theorem next_w (b : List UInt8) (h : (Ber.nextB b).e = 0) : (Ber.nextB b).body.length + (Ber.nextB b).rest.length + 2 ≤ b.length := by
  have h1 := Ber.headB_ok b
  unfold Ber.nextB at h ⊢
  dsimp only at h ⊢
  by_cases h2 : (Ber.headB b).2.2 ≠ 0
  · rw [if_pos h2] at h; exact absurd h h2
  rw [if_neg h2] at h ⊢
  by_cases h3 : 65536 < (Ber.headB b).2.1
  · rw [if_pos h3] at h; cases h
  rw [if_neg h3] at h ⊢
  by_cases h4 : (b.length : Int) - (Ber.headB b).1 < (Ber.headB b).2.1
  · rw [if_pos h4] at h; cases h
  rw [if_neg h4]
  have h5 := h1.2.2.2.2 (Decidable.not_not.1 h2)
  simp only [List.length_drop, List.length_take]
  omega
theorem allE_w : ∀ (k : Nat) (b : List UInt8) (l : List It), wI (Ber.allE k b l).1 ≤ wI l + b.length
  | 0, b, l => by show wI l ≤ _; omega
  | k + 1, b, l => by
    by_cases h0 : b.length = 0
    · rw [Ber.allE_end h0]; dsimp only; omega
    by_cases h1 : (Ber.nextB b).e = 0
    · rw [Ber.allE_go h0 h1]
      have h2 := allE_w k (Ber.nextB b).rest (l ++ [((Ber.nextB b).tag, (Ber.nextB b).body)])
      have h3 := next_w b h1
      rw [wI_app, wI_cons, wI_nil] at h2
      dsimp only at h2
      omega
    · rw [Ber.allE_bad h0 h1]; dsimp only; rw [wI_nil]; omega
/-- A body's items; whether they are none. -/
def allI (b : List UInt8) : List It := (Ber.allE b.length b []).1
def badI (b : List UInt8) : Bool := decide ((Ber.allE b.length b []).2 ≠ 0)
theorem allI_w (b : List UInt8) : wI (allI b) ≤ b.length := by
  have := allE_w b.length b []
  rw [wI_nil] at this
  unfold allI; omega
theorem takeI_w (l : List It) (bad : Bool) (t : UInt8) : wI (takeI l bad t).2.1 + (takeI l bad t).1.length ≤ wI l := by
  cases h : isI l bad t with
  | true =>
    obtain ⟨_, x, r, rfl, _, e⟩ := takeI_is h
    rw [e, wI_cons]; dsimp only; omega
  | false =>
    rw [takeI_no h]
    show wI l + 0 ≤ _; omega
theorem takeI_bad (l : List It) (t : UInt8) : takeI l true t = ([], l, true) := takeI_no (by cases l <;> rfl)
theorem takeI_lt {l : List It} {bad : Bool} {t : UInt8} (h : (takeI l bad t).2.2 = false) : bad = false ∧ (takeI l bad t).2.1.length < l.length := by
  cases hh : isI l bad t with
  | true =>
    obtain ⟨h1, x, r, rfl, h2, e⟩ := takeI_is hh
    rw [e]
    exact ⟨h1, by simp⟩
  | false => rw [takeI_no hh] at h; cases h
/-- Values one behind the other, until nothing is left or something is bad. -/
def rep {α : Type} (step : List It → Bool → α × List It × Bool) : Nat → List It → Bool → List α × List It × Bool
  | 0, l, bad => ([], l, bad)
  | n + 1, l, bad => if l ≠ [] ∧ bad = false then let y := step l bad; let z := rep step n y.2.1 y.2.2; (y.1 :: z.1, z.2) else ([], l, bad)
def repA {α : Type} (step : List It → Bool → α × List It × Bool) (l : List It) (bad : Bool) : List α × List It × Bool := rep step (l.length + 1) l bad
/-- Each step eats, or is bad. -/
def Eats {α : Type} (step : List It → Bool → α × List It × Bool) : Prop := ∀ l, (step l false).2.2 = false → (step l false).2.1.length < l.length
section
variable {α : Type} {step : List It → Bool → α × List It × Bool}
theorem rep_fuel (hs : Eats step) : ∀ (n m : Nat) (l : List It) (bad : Bool), l.length < n → l.length < m → rep step n l bad = rep step m l bad
  | 0, m, l, bad, h, _ => by omega
  | n + 1, 0, l, bad, _, h => by omega
  | n + 1, m + 1, l, bad, h1, h2 => by
    unfold rep
    split
    · rename_i hc
      obtain ⟨hc1, rfl⟩ := hc
      dsimp only
      cases hb : (step l false).2.2 with
      | false =>
        have := hs l hb
        rw [rep_fuel hs n m _ _ (by omega) (by omega)]
      | true =>
        have e : ∀ k (l' : List It), rep step k l' true = ([], l', true) := fun k l' => by
          cases k with
          | zero => rfl
          | succ k => unfold rep; rw [if_neg (by simp)]
        rw [e, e]
    · rfl
theorem repA_bad (l : List It) : repA step l true = ([], l, true) := by
  unfold repA rep; rw [if_neg (by simp)]
theorem repA_nil (bad : Bool) : repA step [] bad = ([], [], bad) := by
  unfold repA rep; rw [if_neg (by simp)]
theorem repA_go (hs : Eats step) {l : List It} (h : l ≠ []) : repA step l false = ((step l false).1 :: (repA step (step l false).2.1 (step l false).2.2).1, (repA step (step l false).2.1 (step l false).2.2).2) := by
  have e : repA step l false = ((step l false).1 :: (rep step l.length (step l false).2.1 (step l false).2.2).1, (rep step l.length (step l false).2.1 (step l false).2.2).2) := by
    unfold repA
    conv => lhs; unfold rep
    rw [if_pos ⟨h, rfl⟩]
  rw [e]
  cases hb : (step l false).2.2 with
  | false =>
    have h1 := hs l hb
    have h2 : rep step l.length (step l false).2.1 false = repA step (step l false).2.1 false := rep_fuel hs _ _ _ _ (by omega) (by omega)
    rw [h2]
  | true =>
    rw [repA_bad]
    have e : ∀ k (l' : List It), rep step k l' true = ([], l', true) := fun k l' => by
      cases k with
      | zero => rfl
      | succ k => unfold rep; rw [if_neg (by simp)]
    rw [e]
end
/-! ### the readers; m: the program's, else the document's -/
def textI (l : List It) (bad : Bool) : List UInt8 × List It × Bool := takeI l bad 4
def fromB (b : List UInt8) : Bool × Int := (decide (b.length = 1) && decide ((b.getD 0 0).toNat ≠ 0), if b.length = 1 then 0 else 3)
def truthI (l : List It) (bad : Bool) : Bool × List It × Bool := ((fromB (takeI l bad 1).1).1, (takeI l bad 1).2.1, (takeI l bad 1).2.2 || decide ((fromB (takeI l bad 1).1).2 ≠ 0))
/-- A number within bounds. -/
def numR (l : List It) (bad : Bool) (t : UInt8) (lo hi : Int) : Int × List It × Bool := ((numI l bad t).1, (numI l bad t).2.1, (numI l bad t).2.2 || (decide ((numI l bad t).1 < lo) || decide (hi < (numI l bad t).1)))
/-- Is an inner item's own reader bad from its start? Is the outer one bad then? -/
def xbM (m : Bool) (y : List UInt8 × List It × Bool) : Bool := match m with | true => badI y.1 || y.2.2 | false => badI y.1
def pbM (m : Bool) (y : List UInt8 × List It × Bool) : Bool := match m with | true => y.2.2 | false => y.2.2 || badI y.1
/-- What is bad when an inner item's reader ends. -/
def endI (bad bad2 : Bool) (l2 : List It) : Bool := bad || bad2 || decide (l2 ≠ [])
/-- An item's own items, read to their end. -/
def innM {α : Type} (m : Bool) (t : UInt8) (k : List It → Bool → α × List It × Bool) (l : List It) (bad : Bool) : α × List It × Bool :=
  let y := takeI l bad t
  let z := k (allI y.1) (xbM m y)
  (z.1, y.2.1, endI (pbM m y) z.2.2 z.2.1)
def textsM (m : Bool) (t : UInt8) : List It → Bool → List (List UInt8) × List It × Bool := innM m t (repA textI)
def attK (m : Bool) (l : List It) (bad : Bool) : (List UInt8 × List (List UInt8)) × List It × Bool :=
  let a := textI l bad
  let v := textsM m 49 a.2.1 a.2.2
  ((a.1, v.1), v.2)
def attM (m : Bool) : List It → Bool → (List UInt8 × List (List UInt8)) × List It × Bool := innM m 48 (attK m)
def attrM (m : Bool) (l : List It) (bad : Bool) : En.Attr × List It × Bool := let y := attM m l bad; (⟨y.1.1, y.1.2⟩, y.2)
def attrsM (m : Bool) : List It → Bool → List En.Attr × List It × Bool := innM m 48 (repA (attrM m))
def kindM (m : Bool) (l : List It) (bad : Bool) : Int × List It × Bool := match m with | true => numI l bad 10 | false => numR l bad 10 0 2
def modK (m : Bool) (l : List It) (bad : Bool) : Mod × List It × Bool :=
  let k := kindM m l bad
  let a := attM m k.2.1 k.2.2
  (⟨k.1, a.1.1, a.1.2⟩, a.2)
def modM (m : Bool) : List It → Bool → Mod × List It × Bool := innM m 48 (modK m)
def modsM (m : Bool) : List It → Bool → List Mod × List It × Bool := innM m 48 (repA (modM m))
/-- The middle pieces. -/
def midI : List It → List (List UInt8) × List It
  | [] => ([], [])
  | x :: r => if x.1 = 129 then (x.2 :: (midI r).1, (midI r).2) else ([], x :: r)
/-- A piece that may be there. -/
def mayI (l : List It) (bad : Bool) (t : UInt8) : List UInt8 × List It × Bool := if isI l bad t = true then takeI l bad t else ([], l, bad)
def subsK (l : List It) (bad : Bool) : List (List UInt8) × List It × Bool :=
  let f := mayI l bad 128
  let m := if f.2.2 = true then ([], f.2.1) else midI f.2.1
  let e := mayI m.2 f.2.2 130
  (f.1 :: (m.1 ++ [e.1]), e.2)
def subsM (m : Bool) : List It → Bool → List (List UInt8) × List It × Bool := innM m 48 subsK
theorem textI_eats : Eats textI := fun l h => (takeI_lt h).2
theorem endI_f {a b : Bool} {l : List It} (h : endI a b l = false) : a = false ∧ b = false ∧ l = [] := by
  unfold endI at h
  simpa [and_assoc] using h
theorem pbM_f {m : Bool} {y : List UInt8 × List It × Bool} (h : pbM m y = false) : y.2.2 = false := by
  cases m with
  | true => exact h
  | false => unfold pbM at h; simp only [Bool.or_eq_false_iff] at h; exact h.1
theorem innM_eats {α : Type} (m : Bool) (t : UInt8) (k : List It → Bool → α × List It × Bool) : Eats (innM m t k) := fun l h => (takeI_lt (pbM_f (endI_f h).1)).2
theorem attrM_eats (m : Bool) : Eats (attrM m) := fun l h => innM_eats m 48 (attK m) l h
theorem modM_eats (m : Bool) : Eats (modM m) := innM_eats m 48 (modK m)
theorem midI_w : ∀ l : List It, wI (midI l).2 ≤ wI l ∧ (midI l).1.length + (midI l).2.length = l.length
  | [] => by simp [midI]
  | x :: r => by
    have h := midI_w r
    unfold midI
    split
    · rw [wI_cons]; dsimp only; rw [List.length_cons, List.length_cons]; omega
    · simp
theorem midI_go {x : It} {r : List It} (h : x.1 = 129) : midI (x :: r) = (x.2 :: (midI r).1, (midI r).2) := by
  conv => lhs; unfold midI
  rw [if_pos h]
theorem midI_end {l : List It} (h : isI l false 129 = false) : midI l = ([], l) := by
  cases l with
  | nil => rfl
  | cons x r =>
    unfold midI
    rw [if_neg]
    intro hx
    have h' : (!false && decide (x.1 = 129)) = false := h
    rw [decide_eq_true hx] at h'
    exact absurd h' (by simp)
end Go.Ms
set_option maxRecDepth 8000
set_option linter.unusedVariables false
namespace Go.Proofs.YtkpghepeagafoaaGreat
open Go.Vk
attribute [local irreducible] HT HX RegS RegA RegM OpP OpC AltT
attribute [local irreducible] Ber.tagB Ber.lenB Ber.intB Ber.allE Ber.fromIntB Ber.nextB
theorem miInner (g : Nat) (l : List Ms.It) (bad : Bool) (t : UInt8) (hl : Ms.wI l ≤ 100000000) : CallsC Tryz.prog 75 [Is (pAt g 0), okI .u8 (t.toNat : Int)] [IX g l bad] (fun v => Is (pAt (blk v) 0)) (fun v => [IX g (Ms.takeI l bad t).2.1 (Ms.takeI l bad t).2.2, IX (blk v) (Ms.allI (Ms.takeI l bad t).1) (Ms.badI (Ms.takeI l bad t).1 || (Ms.takeI l bad t).2.2)]) := by
  have hle := Ms.wI_len l
  have c1 := miTake g l bad t (by omega)
  have hw := Ms.takeI_w l bad t
  have c2 : CallsC Tryz.prog 44 [TBytes (Ms.takeI l bad t).1] [] (fun v => Is (pAt (blk v) 0)) (fun v => [IX (blk v) (Ms.allI (Ms.takeI l bad t).1) (Ms.badI (Ms.takeI l bad t).1)]) := miApart (Ms.takeI l bad t).1 (by omega)
  generalize Ms.takeI l bad t = y at c1 c2 hw ⊢
  refine CallsC.of Tryz.call75 Tryz.func75 rfl Tryz.ntmps75 rfl fun w0 G0 S0 hs ho => ?_
  exact run trivial
theorem miEnds (g g2 : Nat) (l l2 : List Ms.It) (bad bad2 : Bool) (hl : Ms.wI l2 ≤ 100000000) : CallsC Tryz.prog 79 [Is (pAt g 0), Is (pAt g2 0)] [IX g l bad, IX g2 l2 bad2] (fun _ => TTup []) (fun _ => [IX g l (Ms.endI bad bad2 l2), IX g2 l2 bad2]) := by
  have hle := Ms.wI_len l2
  unfold Ms.endI
  refine CallsC.of Tryz.call79 Tryz.func79 rfl Tryz.ntmps79 rfl fun w0 G0 S0 hs ho => ?_
  refine run ?_
  congr 1
  rw [decide_eq_decide, ne_eq, ← List.length_eq_zero_iff]
  omega
theorem miText (g : Nat) (l : List Ms.It) (bad : Bool) (hl : Ms.wI l ≤ 100000000) : CallsC Tryz.prog 76 [Is (pAt g 0)] [IX g l bad] (fun _ => Is (str (Ms.textI l bad).1)) (fun _ => [IX g (Ms.textI l bad).2.1 (Ms.textI l bad).2.2]) := by
  have hle := Ms.wI_len l
  have c1 : CallsC Tryz.prog 48 [Is (pAt g 0), okI .u8 4] [IX g l bad] (fun _ => TBytes (Ms.textI l bad).1) (fun _ => [IX g (Ms.textI l bad).2.1 (Ms.textI l bad).2.2]) := miTake g l bad 4 (by omega)
  generalize Ms.textI l bad = y at c1 ⊢
  refine CallsC.of Tryz.call76 Tryz.func76 rfl Tryz.ntmps76 rfl fun w0 G0 S0 hs ho => ?_
  exact run trivial
theorem miTruth (g : Nat) (l : List Ms.It) (bad : Bool) (hl : Ms.wI l ≤ 100000000) : CallsC Tryz.prog 90 [Is (pAt g 0)] [IX g l bad] (fun _ => Is (.bool (Ms.truthI l bad).1)) (fun _ => [IX g (Ms.truthI l bad).2.1 (Ms.truthI l bad).2.2]) := by
  have hle := Ms.wI_len l
  have c1 : CallsC Tryz.prog 48 [Is (pAt g 0), okI .u8 1] [IX g l bad] (fun _ => TBytes (Ms.takeI l bad 1).1) (fun _ => [IX g (Ms.takeI l bad 1).2.1 (Ms.takeI l bad 1).2.2]) := miTake g l bad 1 (by omega)
  have c2 : CFn Tryz.prog 104 [TBytes (Ms.takeI l bad 1).1] (TTup [Is (.bool (Ms.fromB (Ms.takeI l bad 1).1).1), okI .i64 (Ms.fromB (Ms.takeI l bad 1).1).2]) := fromBool _
  unfold Ms.truthI
  generalize Ms.takeI l bad 1 = y at c1 c2 ⊢
  generalize Ms.fromB y.1 = z at c2 ⊢
  refine CallsC.of Tryz.call90 Tryz.func90 rfl Tryz.ntmps90 rfl fun w0 G0 S0 hs ho => ?_
  exact run trivial
end Go.Proofs.YtkpghepeagafoaaGreat
set_option linter.unusedVariables false
namespace Go.Ms
open Go.Vk
theorem rep_w {α : Type} {step : List It → Bool → α × List It × Bool} (hs : ∀ l b, wI (step l b).2.1 ≤ wI l) : ∀ (n : Nat) (l : List It) (bad : Bool), wI (rep step n l bad).2.1 ≤ wI l
  | 0, l, bad => Nat.le_refl _
  | n + 1, l, bad => by
    unfold rep
    split
    · exact Nat.le_trans (rep_w hs n _ _) (hs l bad)
    · exact Nat.le_refl _
theorem textI_w (l : List It) (bad : Bool) : wI (textI l bad).2.1 ≤ wI l := by
  have := takeI_w l bad 4
  unfold textI; omega
theorem take1_w (l : List It) (bad : Bool) (t : UInt8) : wI (takeI l bad t).2.1 ≤ wI l := by
  have := takeI_w l bad t
  omega
theorem inner_w (l : List It) (bad : Bool) (t : UInt8) : wI (allI (takeI l bad t).1) ≤ wI l := by
  have h1 := takeI_w l bad t
  have h2 := allI_w (takeI l bad t).1
  omega
theorem innM_w {α : Type} (m : Bool) (t : UInt8) (k : List It → Bool → α × List It × Bool) (l : List It) (bad : Bool) : wI (innM m t k l bad).2.1 ≤ wI l := take1_w l bad t
theorem numI_w (l : List It) (bad : Bool) (t : UInt8) : wI (numI l bad t).2.1 ≤ wI l := take1_w l bad t
theorem truthI_w (l : List It) (bad : Bool) : wI (truthI l bad).2.1 ≤ wI l := take1_w l bad 1
theorem repA_len {α : Type} {step : List It → Bool → α × List It × Bool} : ∀ (n : Nat) (l : List It) (bad : Bool), (rep step n l bad).1.length ≤ n
  | 0, l, bad => Nat.le_refl _
  | n + 1, l, bad => by
    unfold rep
    split
    · have := repA_len (step := step) n (step l bad).2.1 (step l bad).2.2
      dsimp only; rw [List.length_cons]; omega
    · exact Nat.zero_le _
theorem takeI_len (l : List It) (bad : Bool) (t : UInt8) : (takeI l bad t).2.1.length ≤ l.length := by
  cases h : isI l bad t with
  | true =>
    obtain ⟨_, x, r, rfl, _, e⟩ := takeI_is h
    rw [e]; simp
  | false => rw [takeI_no h]; exact Nat.le_refl _
theorem repA_end {α : Type} {step : List It → Bool → α × List It × Bool} {x : List It} {b : Bool} (h : ¬ (x ≠ [] ∧ b = false)) : repA step x b = ([], x, b) := by
  unfold repA rep; rw [if_neg h]
end Go.Ms
set_option maxRecDepth 8000
set_option linter.unusedVariables false
namespace Go.Proofs.YtkpghepeagafoaaGreat
open Go.Vk
attribute [local irreducible] HT HX RegS RegA RegM OpP OpC AltT
attribute [local irreducible] Ber.tagB Ber.lenB Ber.intB Ber.allE Ber.fromIntB Ber.nextB
set_option maxHeartbeats 1000000 in
theorem miTexts (g : Nat) (l : List Ms.It) (bad : Bool) (t : UInt8) (hl : Ms.wI l ≤ 100000000) : CallsC Tryz.prog 92 [Is (pAt g 0), okI .u8 (t.toNat : Int)] [IX g l bad] (fun _ => TSl 1 En.cS (Ms.textsM true t l bad).1) (fun _ => [IX g (Ms.textsM true t l bad).2.1 (Ms.textsM true t l bad).2.2]) := by
  have hw := Ms.take1_w l bad t
  have c1 := miInner g l bad t hl
  have hw2 := Ms.inner_w l bad t
  unfold Ms.textsM Ms.innM
  dsimp only [Ms.xbM, Ms.pbM]
  generalize Ms.takeI l bad t = y at c1 hw hw2 ⊢
  generalize hx : Ms.allI y.1 = x0 at c1 hw2 ⊢
  generalize hb : (Ms.badI y.1 || y.2.2) = b0 at c1 ⊢
  refine CallsC.of Tryz.call92 Tryz.func92 rfl Tryz.ntmps92 rfl fun w0 G0 S0 hs ho => ?_
  refine run ?_
  intro vx
  refine HT.loopX (σ := (List (List UInt8) × List Ms.It × Bool) × Value) [0, 4, 6] (fun t' => [(5, TAnd (Is t'.2) (TSl 1 En.cS t'.1.1))]) (fun t' => [IX g y.2.1 y.2.2, IX (blk vx) t'.1.2.1 t'.1.2.2, ownSl t'.2 1 9]) (fun t' => Ms.wI t'.1.2.1 ≤ Ms.wI l ∧ (t'.1.2.2 = false → t'.1.1.length + t'.1.2.1.length ≤ Ms.wI l) ∧ t'.1.1.length ≤ Ms.wI l + 1 ∧ t'.1.1 ++ (Ms.repA Ms.textI t'.1.2.1 t'.1.2.2).1 = (Ms.repA Ms.textI x0 b0).1 ∧ (Ms.repA Ms.textI t'.1.2.1 t'.1.2.2).2 = (Ms.repA Ms.textI x0 b0).2) (fun t' => t'.1.2.1.length + (if t'.1.2.2 then 0 else 1)) (([], x0, b0), .slice none 0 0) ⟨hw2, by have := Ms.wI_len x0; intro _; dsimp only [List.length_nil]; omega, by simp, rfl, rfl⟩ (run trivial) (run trivial) ?_
  clear c1 hx hb
  rintro ⟨⟨acc, x, b⟩, w⟩ ⟨h1, h2, h5, h3, h4⟩
  dsimp only at h1 h2 h3 h4 h5 ⊢
  by_cases hgo : x ≠ [] ∧ b = false
  · obtain ⟨hne, rfl⟩ := hgo
    rw [Ms.repA_go Ms.textI_eats hne] at h3 h4
    dsimp only at h3 h4
    have h2 := h2 rfl
    have c2 := fun g => miText g x false (by omega)
    have hw3 := Ms.textI_w x false
    have hea := Ms.textI_eats x
    have hlen : (Ms.textI x false).2.1.length ≤ x.length := Ms.takeI_len _ _ _
    generalize Ms.textI x false = z at c2 hw3 hea hlen h3 h4
    have hxl : 0 < x.length := List.length_pos_iff.2 hne
    refine run ?_
    intro v' _
    refine HX.roundX ((acc ++ [z.1], z.2.1, z.2.2), v') ⟨⟨by dsimp only; omega, fun hz => by have := hea hz; (try dsimp only at this); simp only [List.length_append, List.length_singleton]; omega, by simp only [List.length_append, List.length_singleton]; omega, by dsimp only; rw [List.append_assoc]; exact h3, h4⟩, ?_⟩ rfl (run trivial) (run trivial)
    dsimp only
    split
    · simp; omega
    · rename_i hz
      have := hea (by simpa using hz)
      (try dsimp only at this)
      simp; omega
  · have hend := Ms.repA_end (step := Ms.textI) hgo
    rw [hend] at h3 h4
    rw [List.append_nil] at h3
    dsimp only at h4
    rw [← h3, ← h4]
    have c2 := fun g g2 => miEnds g g2 y.2.1 x y.2.2 b (by omega)
    have hne : x = [] ↔ x.length = 0 := List.length_eq_zero_iff.symm
    refine run ?_
    intro hh
    exact absurd ⟨fun e => by rw [e] at hh; simp at hh, hh.2⟩ hgo
theorem miAttr (g : Nat) (l : List Ms.It) (bad : Bool) (hl : Ms.wI l ≤ 100000000) : CallsC Tryz.prog 106 [Is (pAt g 0)] [IX g l bad] (fun _ => TTup [Is (str (Ms.attM true l bad).1.1), TSl 1 En.cS (Ms.attM true l bad).1.2]) (fun _ => [IX g (Ms.attM true l bad).2.1 (Ms.attM true l bad).2.2]) := by
  have c1 : CallsC Tryz.prog 75 [Is (pAt g 0), okI .u8 48] [IX g l bad] (fun v => Is (pAt (blk v) 0)) (fun v => [IX g (Ms.takeI l bad 48).2.1 (Ms.takeI l bad 48).2.2, IX (blk v) (Ms.allI (Ms.takeI l bad 48).1) (Ms.badI (Ms.takeI l bad 48).1 || (Ms.takeI l bad 48).2.2)]) := miInner g l bad 48 hl
  have hw2 := Ms.inner_w l bad 48
  unfold Ms.attM Ms.innM Ms.attK
  dsimp only [Ms.xbM, Ms.pbM]
  generalize Ms.takeI l bad 48 = y at c1 hw2 ⊢
  generalize Ms.allI y.1 = x0 at c1 hw2 ⊢
  generalize (Ms.badI y.1 || y.2.2) = b0 at c1 ⊢
  have c2 := fun g => miText g x0 b0 (by omega)
  have hw3 := Ms.textI_w x0 b0
  generalize Ms.textI x0 b0 = a at c2 hw3 ⊢
  have c3 : ∀ g, CallsC Tryz.prog 92 [Is (pAt g 0), okI .u8 49] [IX g a.2.1 a.2.2] (fun _ => TSl 1 En.cS (Ms.textsM true 49 a.2.1 a.2.2).1) (fun _ => [IX g (Ms.textsM true 49 a.2.1 a.2.2).2.1 (Ms.textsM true 49 a.2.1 a.2.2).2.2]) := fun g => miTexts g a.2.1 a.2.2 49 (by omega)
  have hw4 : Ms.wI (Ms.textsM true 49 a.2.1 a.2.2).2.1 ≤ Ms.wI a.2.1 := Ms.innM_w _ _ _ _ _
  generalize Ms.textsM true 49 a.2.1 a.2.2 = v at c3 hw4 ⊢
  have c4 := fun g g2 => miEnds g g2 y.2.1 v.2.1 y.2.2 v.2.2 (by omega)
  refine CallsC.of Tryz.call106 Tryz.func106 rfl Tryz.ntmps106 rfl fun w0 G0 S0 hs ho => ?_
  exact run trivial
set_option maxHeartbeats 1000000 in
theorem miAttrs (g : Nat) (l : List Ms.It) (bad : Bool) (hl : Ms.wI l ≤ 100000000) : CallsC Tryz.prog 95 [Is (pAt g 0)] [IX g l bad] (fun _ => TSl 2 En.cAttr (Ms.attrsM true l bad).1) (fun _ => [IX g (Ms.attrsM true l bad).2.1 (Ms.attrsM true l bad).2.2]) := by
  have c1 : CallsC Tryz.prog 75 [Is (pAt g 0), okI .u8 48] [IX g l bad] (fun v => Is (pAt (blk v) 0)) (fun v => [IX g (Ms.takeI l bad 48).2.1 (Ms.takeI l bad 48).2.2, IX (blk v) (Ms.allI (Ms.takeI l bad 48).1) (Ms.badI (Ms.takeI l bad 48).1 || (Ms.takeI l bad 48).2.2)]) := miInner g l bad 48 hl
  have hw2 := Ms.inner_w l bad 48
  unfold Ms.attrsM Ms.innM
  dsimp only [Ms.xbM, Ms.pbM]
  generalize Ms.takeI l bad 48 = y at c1 hw2 ⊢
  generalize hx : Ms.allI y.1 = x0 at c1 hw2 ⊢
  generalize hb : (Ms.badI y.1 || y.2.2) = b0 at c1 ⊢
  refine CallsC.of Tryz.call95 Tryz.func95 rfl Tryz.ntmps95 rfl fun w0 G0 S0 hs ho => ?_
  refine run ?_
  intro vx
  refine HT.loopX (σ := (List En.Attr × List Ms.It × Bool) × Value) [0, 2, 4] (fun t' => [(3, TAnd (Is t'.2) (TSl 2 En.cAttr t'.1.1))]) (fun t' => [IX g y.2.1 y.2.2, IX (blk vx) t'.1.2.1 t'.1.2.2, ownSl t'.2 2 112]) (fun t' => Ms.wI t'.1.2.1 ≤ Ms.wI l ∧ (t'.1.2.2 = false → t'.1.1.length + t'.1.2.1.length ≤ Ms.wI l) ∧ t'.1.1.length ≤ Ms.wI l + 1 ∧ t'.1.1 ++ (Ms.repA (Ms.attrM true) t'.1.2.1 t'.1.2.2).1 = (Ms.repA (Ms.attrM true) x0 b0).1 ∧ (Ms.repA (Ms.attrM true) t'.1.2.1 t'.1.2.2).2 = (Ms.repA (Ms.attrM true) x0 b0).2) (fun t' => t'.1.2.1.length + (if t'.1.2.2 then 0 else 1)) (([], x0, b0), .slice none 0 0) ⟨hw2, by have := Ms.wI_len x0; intro _; dsimp only [List.length_nil]; omega, by simp, rfl, rfl⟩ (run trivial) (run trivial) ?_
  clear c1 hx hb
  rintro ⟨⟨acc, x, b⟩, w⟩ ⟨h1, h2, h5, h3, h4⟩
  dsimp only at h1 h2 h3 h4 h5 ⊢
  by_cases hgo : x ≠ [] ∧ b = false
  · obtain ⟨hne, rfl⟩ := hgo
    rw [Ms.repA_go (Ms.attrM_eats true) hne] at h3 h4
    dsimp only at h3 h4
    have h2 := h2 rfl
    have e : Ms.attrM true x false = (⟨(Ms.attM true x false).1.1, (Ms.attM true x false).1.2⟩, (Ms.attM true x false).2) := rfl
    have c2 := fun g => miAttr g x false (by omega)
    have hw3 : Ms.wI (Ms.attM true x false).2.1 ≤ Ms.wI x := Ms.innM_w _ _ _ _ _
    have hea := Ms.attrM_eats true x
    rw [e] at h3 h4 hea
    have hlen : (Ms.attM true x false).2.1.length ≤ x.length := Ms.takeI_len _ _ _
    generalize Ms.attM true x false = z at c2 hw3 hea hlen h3 h4
    have hxl : 0 < x.length := List.length_pos_iff.2 hne
    refine run ?_
    intro v' _
    refine HX.roundX ((acc ++ [⟨z.1.1, z.1.2⟩], z.2.1, z.2.2), v') ⟨⟨by dsimp only; omega, fun hz => by have := hea hz; (try dsimp only at this); simp only [List.length_append, List.length_singleton]; omega, by simp only [List.length_append, List.length_singleton]; omega, by dsimp only; rw [List.append_assoc]; exact h3, h4⟩, ?_⟩ rfl (run trivial) (run trivial)
    dsimp only
    split
    · simp; omega
    · rename_i hz
      have := hea (by simpa using hz)
      (try dsimp only at this)
      simp; omega
  · have hend := Ms.repA_end (step := Ms.attrM true) hgo
    rw [hend] at h3 h4
    rw [List.append_nil] at h3
    dsimp only at h4
    rw [← h3, ← h4]
    have c2 := fun g g2 => miEnds g g2 y.2.1 x y.2.2 b (by omega)
    have hne : x = [] ↔ x.length = 0 := List.length_eq_zero_iff.symm
    refine run ?_
    intro hh
    exact absurd ⟨fun e => by rw [e] at hh; simp at hh, hh.2⟩ hgo
set_option maxHeartbeats 2000000 in
theorem miMods (g : Nat) (l : List Ms.It) (bad : Bool) (hl : Ms.wI l ≤ 100000000) : CallsC Tryz.prog 94 [Is (pAt g 0)] [IX g l bad] (fun _ => TSl 3 Ms.cMod (Ms.modsM true l bad).1) (fun _ => [IX g (Ms.modsM true l bad).2.1 (Ms.modsM true l bad).2.2]) := by
  have c1 : CallsC Tryz.prog 75 [Is (pAt g 0), okI .u8 48] [IX g l bad] (fun v => Is (pAt (blk v) 0)) (fun v => [IX g (Ms.takeI l bad 48).2.1 (Ms.takeI l bad 48).2.2, IX (blk v) (Ms.allI (Ms.takeI l bad 48).1) (Ms.badI (Ms.takeI l bad 48).1 || (Ms.takeI l bad 48).2.2)]) := miInner g l bad 48 hl
  have hw2 := Ms.inner_w l bad 48
  unfold Ms.modsM
  conv => enter [6, v]; unfold Ms.innM
  conv => enter [5, v]; unfold Ms.innM
  dsimp only [Ms.xbM, Ms.pbM]
  generalize Ms.takeI l bad 48 = y at c1 hw2 ⊢
  generalize hx : Ms.allI y.1 = x0 at c1 hw2 ⊢
  generalize hb : (Ms.badI y.1 || y.2.2) = b0 at c1 ⊢
  refine CallsC.of Tryz.call94 Tryz.func94 rfl Tryz.ntmps94 rfl fun w0 G0 S0 hs ho => ?_
  refine run ?_
  intro vx
  refine HT.loopX (σ := (List Ms.Mod × List Ms.It × Bool) × Value) [0, 2, 4] (fun t' => [(3, TAnd (Is t'.2) (TSl 3 Ms.cMod t'.1.1))]) (fun t' => [IX g y.2.1 y.2.2, IX (blk vx) t'.1.2.1 t'.1.2.2, ownSl t'.2 3 110]) (fun t' => Ms.wI t'.1.2.1 ≤ Ms.wI l ∧ (t'.1.2.2 = false → t'.1.1.length + t'.1.2.1.length ≤ Ms.wI l) ∧ t'.1.1.length ≤ Ms.wI l + 1 ∧ t'.1.1 ++ (Ms.repA (Ms.modM true) t'.1.2.1 t'.1.2.2).1 = (Ms.repA (Ms.modM true) x0 b0).1 ∧ (Ms.repA (Ms.modM true) t'.1.2.1 t'.1.2.2).2 = (Ms.repA (Ms.modM true) x0 b0).2) (fun t' => t'.1.2.1.length + (if t'.1.2.2 then 0 else 1)) (([], x0, b0), .slice none 0 0) ⟨hw2, by have := Ms.wI_len x0; intro _; dsimp only [List.length_nil]; omega, by simp, rfl, rfl⟩ (run trivial) (run trivial) ?_
  clear c1 hx hb
  rintro ⟨⟨acc, x, b⟩, w⟩ ⟨h1, h2, h5, h3, h4⟩
  dsimp only at h1 h2 h3 h4 h5 ⊢
  by_cases hgo : x ≠ [] ∧ b = false
  · obtain ⟨hne, rfl⟩ := hgo
    rw [Ms.repA_go (Ms.modM_eats true) hne] at h3 h4
    dsimp only at h3 h4
    have h2 := h2 rfl
    have c2 : ∀ g, CallsC Tryz.prog 75 [Is (pAt g 0), okI .u8 48] [IX g x false] (fun v => Is (pAt (blk v) 0)) (fun v => [IX g (Ms.takeI x false 48).2.1 (Ms.takeI x false 48).2.2, IX (blk v) (Ms.allI (Ms.takeI x false 48).1) (Ms.badI (Ms.takeI x false 48).1 || (Ms.takeI x false 48).2.2)]) := fun g => miInner g x false 48 (by omega)
    have hea := Ms.modM_eats true x
    have hw3 : Ms.wI (Ms.modM true x false).2.1 ≤ Ms.wI x := Ms.innM_w _ _ _ _ _
    have hlen : (Ms.modM true x false).2.1.length ≤ x.length := Ms.takeI_len _ _ _
    have e : Ms.modM true x false = (let y := Ms.takeI x false 48; let k := Ms.numI (Ms.allI y.1) (Ms.badI y.1 || y.2.2) 10; let a := Ms.attM true k.2.1 k.2.2; (⟨k.1, a.1.1, a.1.2⟩, y.2.1, Ms.endI y.2.2 a.2.2 a.2.1)) := rfl
    have hw4 := Ms.inner_w x false 48
    rw [e] at h3 h4 hea hw3 hlen
    clear e
    generalize Ms.takeI x false 48 = y2 at c2 hw3 hea hlen h3 h4 hw4
    dsimp only at hw3 hea hlen h3 h4
    generalize Ms.allI y2.1 = x2 at c2 hw3 hea hlen h3 h4 hw4
    generalize (Ms.badI y2.1 || y2.2.2) = b2 at c2 hw3 hea hlen h3 h4
    have hle := Ms.wI_len x2
    have c3 : ∀ g, CallsC Tryz.prog 45 [Is (pAt g 0), okI .u8 10] [IX g x2 b2] (fun _ => okI .i64 (Ms.numI x2 b2 10).1) (fun _ => [IX g (Ms.numI x2 b2 10).2.1 (Ms.numI x2 b2 10).2.2]) := fun g => miNum g x2 b2 10 (by omega)
    have hw5 := Ms.numI_w x2 b2 10
    generalize Ms.numI x2 b2 10 = k at c3 hw5 hea h3 h4
    have c4 := fun g => miAttr g k.2.1 k.2.2 (by omega)
    have hw6 : Ms.wI (Ms.attM true k.2.1 k.2.2).2.1 ≤ Ms.wI k.2.1 := Ms.innM_w _ _ _ _ _
    generalize Ms.attM true k.2.1 k.2.2 = a at c4 hw6 hea h3 h4
    have c5 := fun g g2 => miEnds g g2 y2.2.1 a.2.1 y2.2.2 a.2.2 (by omega)
    have hxl : 0 < x.length := List.length_pos_iff.2 hne
    refine run ?_
    intro v0 v1 v' _
    refine HX.roundX ((acc ++ [⟨k.1, a.1.1, a.1.2⟩], y2.2.1, Ms.endI y2.2.2 a.2.2 a.2.1), v') ⟨⟨by dsimp only; omega, fun hz => by have := hea hz; (try dsimp only at this); simp only [List.length_append, List.length_singleton]; omega, by simp only [List.length_append, List.length_singleton]; omega, by dsimp only; rw [List.append_assoc]; exact h3, h4⟩, ?_⟩ rfl (run trivial) (run trivial)
    dsimp only
    split
    · simp; omega
    · rename_i hz
      have := hea (by simpa using hz)
      (try dsimp only at this)
      simp; omega
  · have hend := Ms.repA_end (step := Ms.modM true) hgo
    rw [hend] at h3 h4
    rw [List.append_nil] at h3
    dsimp only at h4
    rw [← h3, ← h4]
    have c2 := fun g g2 => miEnds g g2 y.2.1 x y.2.2 b (by omega)
    have hne : x = [] ↔ x.length = 0 := List.length_eq_zero_iff.symm
    refine run ?_
    intro hh
    exact absurd ⟨fun e => by rw [e] at hh; simp at hh, hh.2⟩ hgo
end Go.Proofs.YtkpghepeagafoaaGreat
set_option linter.unusedVariables false
namespace Go.Ms
open Go.Vk
def midB (b : Bool) (x : List It) : List (List UInt8) × List It := if b = true then ([], x) else midI x
theorem midB_go {x : It} {r : List It} {b : Bool} (hb : b = false) (h : x.1 = 129) : midB b (x :: r) = (x.2 :: (midB b r).1, (midB b r).2) := by
  subst hb
  unfold midB
  rw [if_neg (by simp), if_neg (by simp), midI_go h]
theorem midB_end {x : List It} {b : Bool} (h : isI x b 129 = false) : midB b x = ([], x) := by
  unfold midB
  cases b with
  | true => rw [if_pos rfl]
  | false => rw [if_neg (by simp), midI_end h]
theorem subsK_def (l : List It) (bad : Bool) : subsK l bad = ((mayI l bad 128).1 :: ((midB (mayI l bad 128).2.2 (mayI l bad 128).2.1).1 ++ [(mayI (midB (mayI l bad 128).2.2 (mayI l bad 128).2.1).2 (mayI l bad 128).2.2 130).1]), (mayI (midB (mayI l bad 128).2.2 (mayI l bad 128).2.1).2 (mayI l bad 128).2.2 130).2) := rfl
end Go.Ms
set_option maxRecDepth 8000
set_option linter.unusedVariables false
namespace Go.Proofs.YtkpghepeagafoaaGreat
open Go.Vk
attribute [local irreducible] HT HX RegS RegA RegM OpP OpC AltT
attribute [local irreducible] Ber.tagB Ber.lenB Ber.intB Ber.allE Ber.fromIntB Ber.nextB Ms.midB
set_option maxHeartbeats 4000000 in
theorem miPieces (g : Nat) (l : List Ms.It) (bad : Bool) (hl : Ms.wI l ≤ 100000000) : CallsC Tryz.prog 105 [Is (pAt g 0)] [IX g l bad] (fun _ => TSl 1 En.cS (Ms.subsM true l bad).1) (fun _ => [IX g (Ms.subsM true l bad).2.1 (Ms.subsM true l bad).2.2]) := by
  have c1 : CallsC Tryz.prog 75 [Is (pAt g 0), okI .u8 48] [IX g l bad] (fun v => Is (pAt (blk v) 0)) (fun v => [IX g (Ms.takeI l bad 48).2.1 (Ms.takeI l bad 48).2.2, IX (blk v) (Ms.allI (Ms.takeI l bad 48).1) (Ms.badI (Ms.takeI l bad 48).1 || (Ms.takeI l bad 48).2.2)]) := miInner g l bad 48 hl
  have hw2 := Ms.inner_w l bad 48
  unfold Ms.subsM Ms.innM
  dsimp only [Ms.xbM, Ms.pbM]
  generalize Ms.takeI l bad 48 = y at c1 hw2 ⊢
  generalize hx : Ms.allI y.1 = x0 at c1 hw2 ⊢
  generalize hb : (Ms.badI y.1 || y.2.2) = b0 at c1 ⊢
  have hle := Ms.wI_len x0
  have c2 : ∀ g, CallsC Tryz.prog 47 [Is (pAt g 0), okI .u8 128] [IX g x0 b0] (fun _ => Is (.bool (Ms.isI x0 b0 128))) (fun _ => [IX g x0 b0]) := fun g => miIs g x0 b0 128
  have ma := MutA.mk' [8]
  have gv := Giv.mk' 2 2
  have hset : SetF (fun ts : List Ty => ts) 0 (fun x : List UInt8 => Is (str x)) (fun ts x => ts.set 0 (Is (str x))) := ⟨fun _ _ => rfl⟩
  cases hi : Ms.isI x0 b0 128 with
  | true =>
    rw [hi] at c2
    obtain ⟨hb0, it0, r0, rfl, ht0, et0⟩ := Ms.takeI_is hi
    have c3 : ∀ g, CallsC Tryz.prog 48 [Is (pAt g 0), okI .u8 128] [IX g (it0 :: r0) b0] (fun _ => TBytes (Ms.takeI (it0 :: r0) b0 128).1) (fun _ => [IX g (Ms.takeI (it0 :: r0) b0 128).2.1 (Ms.takeI (it0 :: r0) b0 128).2.2]) := fun g => miTake g (it0 :: r0) b0 128 (by omega)
    have hF : Ms.mayI (it0 :: r0) b0 128 = (it0.2, r0, false) := by unfold Ms.mayI; rw [if_pos hi, et0]
    rw [et0] at c3
    dsimp only at c3
    rw [Ms.wI_cons] at hw2
    have hl0 := Ms.wI_len r0
    refine CallsC.of Tryz.call105 Tryz.func105 rfl Tryz.ntmps105 rfl fun w0 G0 S0 hs ho => ?_
    refine run ?_
    intro v0 v1 _
    rw [show ownA (sblk v1) (scap v1) 9 1 (fun ts : List Ty => ts) [([[Is (.string { data := #[] })]].getD 0 default).set 0 (Is (str it0.2))] = ownA (sblk v1) (scap v1) 9 1 En.cS [it0.2] from ownA_map En.cS [it0.2]]
    refine HT.loopX (σ := List (List UInt8) × List Ms.It × Nat × Nat) [0, 2, 3] (fun t => [(4, Is (slAt t.2.2.1 t.1.length t.2.2.2))]) (fun t => [IX g y.2.1 y.2.2, IX (blk v0) t.2.1 false, ownA t.2.2.1 t.2.2.2 9 1 En.cS t.1]) (fun t => Ms.wI t.2.1 ≤ Ms.wI l ∧ (0 < t.1.length ∧ t.1.length + t.2.1.length ≤ Ms.wI l + 1) ∧ t.1 ++ (Ms.midB false t.2.1).1 = [it0.2] ++ (Ms.midB false r0).1 ∧ (Ms.midB false t.2.1).2 = (Ms.midB false r0).2) (fun t => t.2.1.length) ([it0.2], r0, sblk v1, scap v1) ⟨by dsimp only; omega, ⟨by simp, by simp; omega⟩, rfl, rfl⟩ (run trivial) (by first | exact run trivial | (refine run ?_; rfl)) ?_
    rintro ⟨acc, x, bk, cp⟩ ⟨h1, h2, h3, h4⟩
    dsimp only at h1 h2 h3 h4 ⊢
    have hlx := Ms.wI_len x
    have d1 : ∀ g, CallsC Tryz.prog 47 [Is (pAt g 0), okI .u8 129] [IX g x false] (fun _ => Is (.bool (Ms.isI x false 129))) (fun _ => [IX g x false]) := fun g => miIs g x false 129
    cases hm : Ms.isI x false 129 with
    | true =>
      rw [hm] at d1
      obtain ⟨hb2, it, r, rfl, ht, et⟩ := Ms.takeI_is hm
      have d2 : ∀ g, CallsC Tryz.prog 48 [Is (pAt g 0), okI .u8 129] [IX g (it :: r) false] (fun _ => TBytes (Ms.takeI (it :: r) false 129).1) (fun _ => [IX g (Ms.takeI (it :: r) false 129).2.1 (Ms.takeI (it :: r) false 129).2.2]) := fun g => miTake g (it :: r) false 129 (by omega)
      rw [et] at d2
      dsimp only at d2
      rw [Ms.midB_go hb2 ht] at h3 h4
      dsimp only at h3 h4
      rw [Ms.wI_cons] at h1
      rw [List.length_cons] at h2
      rw [← hb2] at d2
      refine run ?_
      intro v2 _
      refine HX.roundX (acc ++ [it.2], r, sblk v2, scap v2) ⟨⟨by dsimp only; omega, ⟨by simp, by simp only [List.length_append, List.length_singleton]; omega⟩, by dsimp only; rw [List.append_assoc]; exact h3, h4⟩, by simp⟩ rfl (run trivial) (run trivial)
    | false =>
      rw [hm] at d1
      rw [Ms.midB_end hm] at h3 h4
      rw [List.append_nil] at h3
      dsimp only at h4
      have eK : Ms.subsK (it0 :: r0) b0 = (acc ++ [(Ms.mayI x false 130).1], (Ms.mayI x false 130).2) := by
        rw [Ms.subsK_def, hF]
        dsimp only
        rw [← h4]
        rw [List.singleton_append] at h3
        rw [h3]
        rfl
      rw [eK]
      dsimp only
      have d3 : ∀ g, CallsC Tryz.prog 47 [Is (pAt g 0), okI .u8 130] [IX g x false] (fun _ => Is (.bool (Ms.isI x false 130))) (fun _ => [IX g x false]) := fun g => miIs g x false 130
      clear h3 h4 eK
      cases he : Ms.isI x false 130 with
      | true =>
        rw [he] at d3
        obtain ⟨hb2, it, r, rfl, ht, et⟩ := Ms.takeI_is he
        have d2 : ∀ g, CallsC Tryz.prog 48 [Is (pAt g 0), okI .u8 130] [IX g (it :: r) false] (fun _ => TBytes (Ms.takeI (it :: r) false 130).1) (fun _ => [IX g (Ms.takeI (it :: r) false 130).2.1 (Ms.takeI (it :: r) false 130).2.2]) := fun g => miTake g (it :: r) false 130 (by omega)
        have em : Ms.mayI (it :: r) false 130 = (it.2, r, false) := by unfold Ms.mayI; rw [if_pos he, et]
        rw [et] at d2
        rw [em]
        dsimp only at d2 ⊢
        rw [Ms.wI_cons] at h1
        have d4 := fun g g2 => miEnds g g2 y.2.1 r y.2.2 false (by omega)
        exact run trivial
      | false =>
        rw [he] at d3
        have em : Ms.mayI x false 130 = ([], x, false) := by unfold Ms.mayI; rw [if_neg (by rw [he]; simp)]
        rw [em]
        dsimp only
        have d4 := fun g g2 => miEnds g g2 y.2.1 x y.2.2 false (by omega)
        exact run trivial
  | false =>
    rw [hi] at c2
    have hF : Ms.mayI x0 b0 128 = ([], x0, b0) := by unfold Ms.mayI; rw [if_neg (by rw [hi]; simp)]
    refine CallsC.of Tryz.call105 Tryz.func105 rfl Tryz.ntmps105 rfl fun w0 G0 S0 hs ho => ?_
    refine run ?_
    intro v0 v1 _
    rw [show ownA (sblk v1) (scap v1) 9 1 (fun ts : List Ty => ts) [[Is (.string { data := #[] })]] = ownA (sblk v1) (scap v1) 9 1 En.cS [[]] from ownA_map En.cS [[]]]
    refine HT.loopX (σ := List (List UInt8) × List Ms.It × Nat × Nat) [0, 2, 3] (fun t => [(4, Is (slAt t.2.2.1 t.1.length t.2.2.2))]) (fun t => [IX g y.2.1 y.2.2, IX (blk v0) t.2.1 b0, ownA t.2.2.1 t.2.2.2 9 1 En.cS t.1]) (fun t => Ms.wI t.2.1 ≤ Ms.wI l ∧ (0 < t.1.length ∧ t.1.length + t.2.1.length ≤ Ms.wI l + 1) ∧ t.1 ++ (Ms.midB b0 t.2.1).1 = [[]] ++ (Ms.midB b0 x0).1 ∧ (Ms.midB b0 t.2.1).2 = (Ms.midB b0 x0).2) (fun t => t.2.1.length) ([[]], x0, sblk v1, scap v1) ⟨by dsimp only; omega, ⟨by simp, by simp; omega⟩, rfl, rfl⟩ (run trivial) (by first | exact run trivial | (refine run ?_; rfl)) ?_
    rintro ⟨acc, x, bk, cp⟩ ⟨h1, h2, h3, h4⟩
    dsimp only at h1 h2 h3 h4 ⊢
    have hlx := Ms.wI_len x
    have d1 : ∀ g, CallsC Tryz.prog 47 [Is (pAt g 0), okI .u8 129] [IX g x b0] (fun _ => Is (.bool (Ms.isI x b0 129))) (fun _ => [IX g x b0]) := fun g => miIs g x b0 129
    cases hm : Ms.isI x b0 129 with
    | true =>
      rw [hm] at d1
      obtain ⟨hb2, it, r, rfl, ht, et⟩ := Ms.takeI_is hm
      have d2 : ∀ g, CallsC Tryz.prog 48 [Is (pAt g 0), okI .u8 129] [IX g (it :: r) b0] (fun _ => TBytes (Ms.takeI (it :: r) b0 129).1) (fun _ => [IX g (Ms.takeI (it :: r) b0 129).2.1 (Ms.takeI (it :: r) b0 129).2.2]) := fun g => miTake g (it :: r) b0 129 (by omega)
      rw [et] at d2
      dsimp only at d2
      rw [Ms.midB_go hb2 ht] at h3 h4
      dsimp only at h3 h4
      rw [Ms.wI_cons] at h1
      rw [List.length_cons] at h2
      rw [← hb2] at d2
      refine run ?_
      intro v2 _
      refine HX.roundX (acc ++ [it.2], r, sblk v2, scap v2) ⟨⟨by dsimp only; omega, ⟨by simp, by simp only [List.length_append, List.length_singleton]; omega⟩, by dsimp only; rw [List.append_assoc]; exact h3, h4⟩, by simp⟩ rfl (run trivial) (run trivial)
    | false =>
      rw [hm] at d1
      rw [Ms.midB_end hm] at h3 h4
      rw [List.append_nil] at h3
      dsimp only at h4
      have eK : Ms.subsK x0 b0 = (acc ++ [(Ms.mayI x b0 130).1], (Ms.mayI x b0 130).2) := by
        rw [Ms.subsK_def, hF]
        dsimp only
        rw [← h4]
        rw [List.singleton_append] at h3
        rw [h3]
        rfl
      rw [eK]
      dsimp only
      have d3 : ∀ g, CallsC Tryz.prog 47 [Is (pAt g 0), okI .u8 130] [IX g x b0] (fun _ => Is (.bool (Ms.isI x b0 130))) (fun _ => [IX g x b0]) := fun g => miIs g x b0 130
      clear h3 h4 eK
      cases he : Ms.isI x b0 130 with
      | true =>
        rw [he] at d3
        obtain ⟨hb2, it, r, rfl, ht, et⟩ := Ms.takeI_is he
        have d2 : ∀ g, CallsC Tryz.prog 48 [Is (pAt g 0), okI .u8 130] [IX g (it :: r) b0] (fun _ => TBytes (Ms.takeI (it :: r) b0 130).1) (fun _ => [IX g (Ms.takeI (it :: r) b0 130).2.1 (Ms.takeI (it :: r) b0 130).2.2]) := fun g => miTake g (it :: r) b0 130 (by omega)
        have em : Ms.mayI (it :: r) b0 130 = (it.2, r, false) := by unfold Ms.mayI; rw [if_pos he, et]
        rw [et] at d2
        rw [em]
        dsimp only at d2 ⊢
        rw [Ms.wI_cons] at h1
        have d4 := fun g g2 => miEnds g g2 y.2.1 r y.2.2 false (by omega)
        exact run trivial
      | false =>
        rw [he] at d3
        have em : Ms.mayI x b0 130 = ([], x, b0) := by unfold Ms.mayI; rw [if_neg (by rw [he]; simp)]
        rw [em]
        dsimp only
        have d4 := fun g g2 => miEnds g g2 y.2.1 x y.2.2 b0 (by omega)
        exact run trivial
end Go.Proofs.YtkpghepeagafoaaGreat
set_option linter.unusedVariables false
namespace Go.Ms
open Go.Vk
open Go.Fi (Fil)
/-- Where the document's reader is good, so is the program's, and it reads the same, within bounds; where the program's is good and reads within bounds, so is the document's. -/
def EqvR {α : Type} (ok : α → Prop) (p d : α × List It × Bool) : Prop := (d.2.2 = false → p = d ∧ ok p.1) ∧ (p.2.2 = false → ok p.1 → d = p)
theorem EqvR.refl {α : Type} {ok : α → Prop} {p : α × List It × Bool} (h : p.2.2 = false → ok p.1) : EqvR ok p p := ⟨fun h1 => ⟨rfl, h h1⟩, fun _ _ => rfl⟩
theorem EqvR.bad {α : Type} {ok : α → Prop} {p d : α × List It × Bool} (h1 : p.2.2 = true) (h2 : d.2.2 = true) : EqvR ok p d := ⟨fun h => (by rw [h2] at h; cases h), fun h => (by rw [h1] at h; cases h)⟩
theorem innM_bad {α : Type} (m : Bool) (t : UInt8) (k : List It → Bool → α × List It × Bool) (l : List It) : (innM m t k l true).2.2 = true := by
  unfold innM
  rw [takeI_bad]
  cases m <;> simp [endI, pbM]
theorem innM_eqv {α : Type} {ok : α → Prop} {t : UInt8} {kP kD : List It → Bool → α × List It × Bool} (hk : ∀ l, EqvR ok (kP l false) (kD l false)) (bP : ∀ l, (kP l true).2.2 = true) (l : List It) (bad : Bool) : EqvR ok (innM true t kP l bad) (innM false t kD l bad) := by
  unfold innM
  generalize takeI l bad t = y
  obtain ⟨b, r, yb⟩ := y
  dsimp only
  cases yb with
  | true =>
    refine .bad ?_ ?_
    · simp [endI, pbM]
    · simp [endI, pbM]
  | false =>
    cases hb : badI b with
    | true =>
      have h1 := bP (allI b)
      refine .bad ?_ ?_
      · simp [endI, pbM, xbM, hb, h1]
      · simp [endI, pbM, hb]
    | false =>
      have h := hk (allI b)
      have e1 : xbM true (b, r, false) = false := by simp [xbM, hb]
      have e2 : xbM false (b, r, false) = false := by simp [xbM, hb]
      have e3 : pbM true (b, r, false) = false := rfl
      have e4 : pbM false (b, r, false) = false := by simp [pbM, hb]
      rw [e1, e2, e3, e4]
      refine ⟨fun h1 => ?_, fun h1 h2 => ?_⟩
      · dsimp only at h1 ⊢
        obtain ⟨_, g1, g2⟩ := endI_f h1
        obtain ⟨g3, g4⟩ := h.1 g1
        rw [g3] at g4 ⊢
        exact ⟨rfl, g4⟩
      · dsimp only at h1 h2 ⊢
        obtain ⟨_, g1, g2⟩ := endI_f h1
        rw [h.2 g1 h2]
theorem rep_bad {α : Type} (step : List It → Bool → α × List It × Bool) : ∀ (n : Nat) (l : List It), rep step n l true = ([], l, true)
  | 0, _ => rfl
  | n + 1, _ => by unfold rep; rw [if_neg (by simp)]
theorem rep_eqv {α : Type} {ok : α → Prop} {sP sD : List It → Bool → α × List It × Bool} (hs : ∀ l, EqvR ok (sP l false) (sD l false)) : ∀ (n : Nat) (l : List It) (bad : Bool), EqvR (fun z => ∀ a ∈ z, ok a) (rep sP n l bad) (rep sD n l bad)
  | 0, l, bad => .refl (fun _ a h => by cases h)
  | n + 1, l, bad => by
    unfold rep
    by_cases hc : l ≠ [] ∧ bad = false
    · obtain ⟨hc1, rfl⟩ := hc
      rw [if_pos ⟨hc1, rfl⟩, if_pos ⟨hc1, rfl⟩]
      have h := hs l
      refine ⟨fun h1 => ?_, fun h1 h2 => ?_⟩
      · dsimp only at h1 ⊢
        by_cases hb : (sD l false).2.2 = true
        · rw [hb, rep_bad] at h1; cases h1
        · obtain ⟨g1, g2⟩ := h.1 (by simpa using hb)
          have ih := rep_eqv hs n (sD l false).2.1 (sD l false).2.2
          obtain ⟨g3, g4⟩ := ih.1 h1
          rw [g1] at g2 ⊢
          rw [g3] at g4 ⊢
          exact ⟨rfl, fun a ha => by
            rcases List.mem_cons.1 ha with rfl | ha
            · exact g2
            · exact g4 a ha⟩
      · dsimp only at h1 h2 ⊢
        by_cases hb : (sP l false).2.2 = true
        · rw [hb, rep_bad] at h1; cases h1
        · have g1 := h.2 (by simpa using hb) (h2 _ (by simp))
          have ih := rep_eqv hs n (sP l false).2.1 (sP l false).2.2
          rw [g1, ih.2 h1 (fun a ha => h2 a (by simp [ha]))]
    · rw [if_neg hc, if_neg hc]
      exact .refl (fun _ a h => by cases h)
theorem repA_eqv {α : Type} {ok : α → Prop} {sP sD : List It → Bool → α × List It × Bool} (hs : ∀ l, EqvR ok (sP l false) (sD l false)) (l : List It) (bad : Bool) : EqvR (fun z => ∀ a ∈ z, ok a) (repA sP l bad) (repA sD l bad) := rep_eqv hs _ l bad
theorem EqvR.mono {α : Type} {ok ok' : α → Prop} {p d : α × List It × Bool} (h : EqvR ok p d) (h1 : ∀ a, ok a → ok' a) (h2 : ∀ a, ok' a → ok a) : EqvR ok' p d := ⟨fun hd => ⟨(h.1 hd).1, h1 _ (h.1 hd).2⟩, fun hp ho => h.2 hp (h2 _ ho)⟩
def okT {α : Type} (_ : α) : Prop := True
theorem EqvR.okT {α : Type} {ok : α → Prop} {p d : α × List It × Bool} (h : EqvR ok p d) (h2 : ∀ a, ok a) : EqvR Ms.okT p d := h.mono (fun _ _ => trivial) (fun a _ => h2 a)
theorem repA_bad2 {α : Type} (step : List It → Bool → α × List It × Bool) (l : List It) : (repA step l true).2.2 = true := by rw [repA_bad]
theorem texts_eqv (t : UInt8) (l : List It) (bad : Bool) : EqvR okT (textsM true t l bad) (textsM false t l bad) := innM_eqv (fun l => .refl (fun _ => trivial)) (repA_bad2 _) l bad
theorem attK_eqv (l : List It) (bad : Bool) : EqvR okT (attK true l bad) (attK false l bad) := by
  unfold attK
  have h := texts_eqv 49 (textI l bad).2.1 (textI l bad).2.2
  refine ⟨fun h1 => ?_, fun h1 _ => ?_⟩
  · dsimp only at h1 ⊢
    rw [(h.1 h1).1]
    exact ⟨rfl, trivial⟩
  · dsimp only at h1 ⊢
    rw [h.2 h1 trivial]
theorem attK_bad (m : Bool) (l : List It) : (attK m l true).2.2 = true := by
  unfold attK textI
  rw [takeI_bad]
  exact innM_bad _ _ _ _
theorem att_eqv (l : List It) (bad : Bool) : EqvR okT (attM true l bad) (attM false l bad) := innM_eqv (fun l => attK_eqv l false) (attK_bad true) l bad
theorem attr_eqv (l : List It) (bad : Bool) : EqvR okT (attrM true l bad) (attrM false l bad) := by
  have h := att_eqv l bad
  unfold attrM
  refine ⟨fun h1 => ?_, fun h1 _ => ?_⟩
  · dsimp only at h1 ⊢
    rw [(h.1 h1).1]
    exact ⟨rfl, trivial⟩
  · dsimp only at h1 ⊢
    rw [h.2 h1 trivial]
theorem attrs_eqv (l : List It) (bad : Bool) : EqvR okT (attrsM true l bad) (attrsM false l bad) := innM_eqv (fun l => (repA_eqv (fun l => attr_eqv l false) l false).okT (fun _ _ _ => trivial)) (repA_bad2 _) l bad
def okM (m : Mod) : Prop := 0 ≤ m.kind ∧ m.kind ≤ 2
theorem numR_f {l : List It} {bad : Bool} {t : UInt8} {lo hi : Int} (h : (numR l bad t lo hi).2.2 = false) : (numI l bad t).2.2 = false ∧ lo ≤ (numI l bad t).1 ∧ (numI l bad t).1 ≤ hi ∧ numR l bad t lo hi = numI l bad t := by
  have h0 := h
  unfold numR at h
  simp only [Bool.or_eq_false_iff, decide_eq_false_iff_not] at h
  refine ⟨h.1, by omega, by omega, ?_⟩
  unfold numR
  rw [show (numI l bad t) = ((numI l bad t).1, (numI l bad t).2.1, (numI l bad t).2.2) from rfl]
  dsimp only
  rw [h.1]
  simp only [Bool.false_or]
  have e : (decide ((numI l bad t).1 < lo) || decide (hi < (numI l bad t).1)) = false := by
    simp only [Bool.or_eq_false_iff, decide_eq_false_iff_not]
    exact h.2
  rw [e]
theorem numR_of {l : List It} {bad : Bool} {t : UInt8} {lo hi : Int} (h : (numI l bad t).2.2 = false) (h1 : lo ≤ (numI l bad t).1 ∧ (numI l bad t).1 ≤ hi) : numR l bad t lo hi = numI l bad t := by
  refine (numR_f ?_).2.2.2
  unfold numR
  rw [h]
  simp only [Bool.or_eq_false_iff, decide_eq_false_iff_not, Bool.false_or]
  omega
theorem numI_bad (l : List It) (t : UInt8) : (numI l true t).2.2 = true := by
  unfold numI; rw [takeI_bad]; simp
theorem attM_bad (m : Bool) (l : List It) : (attM m l true).2.2 = true := innM_bad _ _ _ _
theorem modK_bad (m : Bool) (l : List It) : (modK m l true).2.2 = true := by
  have h := numI_bad l 10
  have e : (kindM m l true).2.2 = true := by
    cases m with
    | true => exact h
    | false => show ((numI l true 10).2.2 || _) = true; rw [h]; rfl
  unfold modK
  dsimp only
  rw [e]
  exact attM_bad _ _
theorem modK_eqv (l : List It) : EqvR okM (modK true l false) (modK false l false) := by
  refine ⟨fun h1 => ?_, fun h1 h2 => ?_⟩
  · have hk : (numR l false 10 0 2).2.2 = false := by
      cases h : (numR l false 10 0 2).2.2 with
      | false => rfl
      | true =>
        unfold modK kindM at h1
        dsimp only at h1
        rw [h, attM_bad] at h1
        cases h1
    obtain ⟨g1, g2, g3, g4⟩ := numR_f hk
    unfold modK kindM at h1 ⊢
    dsimp only at h1 ⊢
    rw [g4] at h1 ⊢
    have h := (att_eqv (numI l false 10).2.1 (numI l false 10).2.2).1 h1
    rw [h.1]
    exact ⟨rfl, g2, g3⟩
  · have hk : (numI l false 10).2.2 = false := by
      cases h : (numI l false 10).2.2 with
      | false => rfl
      | true =>
        unfold modK kindM at h1
        dsimp only at h1
        rw [h, attM_bad] at h1
        cases h1
    have g4 := numR_of (lo := 0) (hi := 2) hk h2
    unfold modK kindM at h1 ⊢
    dsimp only at h1 ⊢
    rw [g4]
    rw [(att_eqv (numI l false 10).2.1 (numI l false 10).2.2).2 h1 trivial]
theorem mod_eqv (l : List It) (bad : Bool) : EqvR okM (modM true l bad) (modM false l bad) := innM_eqv modK_eqv (modK_bad true) l bad
theorem mods_eqv (l : List It) (bad : Bool) : EqvR (fun z => ∀ m ∈ z, okM m) (modsM true l bad) (modsM false l bad) := innM_eqv (fun l => repA_eqv (fun l => mod_eqv l false) l false) (repA_bad2 _) l bad
theorem mayI_bad (l : List It) (t : UInt8) : mayI l true t = ([], l, true) := by
  unfold mayI
  rw [if_neg]
  cases l <;> simp [isI]
theorem subsK_bad (l : List It) : (subsK l true).2.2 = true := by
  unfold subsK
  rw [mayI_bad]
  dsimp only
  rw [if_pos rfl, mayI_bad]
theorem subs_eqv (l : List It) (bad : Bool) : EqvR okT (subsM true l bad) (subsM false l bad) := innM_eqv (fun l => .refl (fun _ => trivial)) subsK_bad l bad
end Go.Ms
