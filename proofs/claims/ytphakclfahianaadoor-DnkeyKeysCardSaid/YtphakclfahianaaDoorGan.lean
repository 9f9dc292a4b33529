/-
  The contracts of slices.Reverse, and of the program's Back, Depth and Range.
  The contract of the program's Back.
  The contracts of the document's Escape, Key, Range, Depth, part; of the law's names and heavy.
  The contract of the document's Back.
  Keys of names, in plain Lean: what a key tells; both ways back are one; the order of keys.
  The laws of chapter 19.
  A law's frame where its row lists variables and its contract reads another variable of the library's: what the world's shape says of that one is handed on.
-/
import Derived.Test.YtphakclfahianaaDoorGam
import Derived.Test.YtphakclfahianaaDoorGak
import Derived.Test.YtphakclfahianaaDoorGai
import Derived.Test.YtphakclfahianaaDoorGal
import Derived.Test.YtphakclfahianaaDoorGah
import Derived.SizedLaws
import Derived.LaidLaws
set_option linter.unusedSimpArgs false
set_option linter.unusedVariables false
set_option linter.unusedVariables false
namespace Go.Dk
open Go.Vk Go.Dn Go.Lib
theorem cut_sum {s sep : List UInt8} (h : (cut s sep).2.2 = true) : (cut s sep).1.length + sep.length + (cut s sep).2.1.length = s.length := by
  unfold cut at h ⊢
  by_cases hi : 0 ≤ index s sep
  · rw [if_pos hi]
    have := index_room s sep hi
    simp only [List.length_take, List.length_drop]
    omega
  · rw [if_neg hi] at h; cases h
theorem wgt_app (l m : List Ava) : wgt (l ++ m) = wgt l + wgt m := by
  induction l with
  | nil => simp [wgt]
  | cons a l ih => rw [List.cons_append, wgt, wgt, ih]; omega
theorem wgt_mem {a : Ava} {l : List Ava} (h : a ∈ l) : a.typ.length + a.val.length + 1 ≤ wgt l := by
  induction l with
  | nil => cases h
  | cons b l ih =>
    rw [wgt]
    rcases List.mem_cons.1 h with rfl | h
    · omega
    · have := ih h; omega
/-- How the program's loop stands. -/
structure BackI (s : List UInt8) (acc : List Ava) (rest : List UInt8) : Prop where
  same : parseP s = (parseP rest).map (acc ++ ·)
  len : wgt acc + rest.length ≤ s.length
theorem BackI.start (s : List UInt8) : BackI s [] s := ⟨by cases parseP s <;> rfl, by simp [wgt]⟩
theorem BackI.ok {s : List UInt8} {acc : List Ava} {rest : List UInt8} (h : BackI s acc rest) (hr : rest ≠ []) (h1 : (cut rest [0, 1]).2.2 = true) (h2 : (cut (cut rest [0, 1]).1 [61]).2.2 = true) :
    BackI s (acc ++ [⟨(cut (cut rest [0, 1]).1 [61]).1, unesc (cut (cut rest [0, 1]).1 [61]).2.1⟩]) (cut rest [0, 1]).2.1 := by
  have e1 := cut_sum h1
  have e2 := cut_sum h2
  have e3 := unesc_len (cut (cut rest [0, 1]).1 [61]).2.1
  have e4 := h.len
  refine ⟨?_, ?_⟩
  · rw [h.same, parseP_step hr, if_pos ⟨h1, h2⟩]
    cases parseP (cut rest [0, 1]).2.1 <;> simp
  · rw [wgt_app]
    simp only [wgt, List.length_cons, List.length_nil] at *
    omega
theorem BackI.bad {s : List UInt8} {acc : List Ava} {rest : List UInt8} (h : BackI s acc rest) (hr : rest ≠ []) (h1 : ¬ ((cut rest [0, 1]).2.2 = true ∧ (cut (cut rest [0, 1]).1 [61]).2.2 = true)) : backP s = none := by
  unfold backP
  rw [h.same, parseP_step hr, if_neg h1]
  rfl
theorem BackI.done {s : List UInt8} {acc : List Ava} (h : BackI s acc []) : backP s = if isE acc.reverse = true ∧ keyE acc.reverse = s then some acc.reverse else none := by
  unfold backP
  rw [h.same, parseP_nil]
  simp
theorem avas_ext {l m : List Ava} (h : l.length = m.length) (h2 : ∀ k, k < l.length → l.getD k default = m.getD k default) : l = m := by
  refine List.ext_getElem h fun i h1 h3 => ?_
  have := h2 i h1
  simpa [List.getD_eq_getElem?_getD, List.getElem?_eq_getElem h1, List.getElem?_eq_getElem h3] using this
theorem getD_set {α : Type} [Inhabited α] {l : List α} {i k : Nat} {a : α} (h : i < l.length) : (l.set i a).getD k default = if i = k then a else l.getD k default := by
  rw [List.getD_eq_getElem?_getD, List.getElem?_set]
  by_cases e : i = k
  · rw [if_pos e, if_pos h, if_pos e]; rfl
  · rw [if_neg e, if_neg e, ← List.getD_eq_getElem?_getD]
/-- How far a row is turned. -/
def revP (l m : List Ava) (i : Nat) : Prop := m.length = l.length ∧ ∀ k, k < l.length → m.getD k default = if k < i ∨ l.length < k + i + 1 then l.getD (l.length - 1 - k) default else l.getD k default
theorem revP_0 (l : List Ava) : revP l l 0 := ⟨rfl, fun k hk => by rw [if_neg (by omega)]⟩
theorem revP_step {l m : List Ava} {i j : Nat} (h : revP l m i) (hij : i < j) (hj : j + i + 1 = l.length) : revP l ((m.set i (m.getD j default)).set j (m.getD i default)) (i + 1) := by
  obtain ⟨h1, h2⟩ := h
  refine ⟨by simp [h1], fun k hk => ?_⟩
  rw [getD_set (by rw [List.length_set]; omega)]
  by_cases e : j = k
  · subst e
    rw [if_pos rfl, if_pos (by omega), h2 i (by omega), if_neg (by omega), show l.length - 1 - j = i by omega]
  · rw [if_neg e, getD_set (by omega)]
    by_cases e2 : i = k
    · subst e2
      rw [if_pos rfl, if_pos (by omega), h2 j (by omega), if_neg (by omega), show l.length - 1 - i = j by omega]
    · rw [if_neg e2, h2 k hk]
      by_cases e3 : k < i ∨ l.length < k + i + 1
      · rw [if_pos e3, if_pos (by omega)]
      · rw [if_neg e3, if_neg (by omega)]
theorem revP_end {l m : List Ava} {i : Nat} (h : revP l m i) (hi : l.length ≤ 2 * i + 1) : m = l.reverse := by
  obtain ⟨h1, h2⟩ := h
  refine avas_ext (by simp [h1]) fun k hk => ?_
  rw [h1] at hk
  have h3 : l.reverse.getD k default = l.getD (l.length - 1 - k) default := by
    rw [List.getD_eq_getElem?_getD, List.getElem?_reverse hk, ← List.getD_eq_getElem?_getD]
  rw [h3, h2 k hk]
  split
  · rfl
  · rw [show l.length - 1 - k = k by omega]
theorem keyE_len (l : List Ava) : (keyE l).length ≤ 6 * wgt l := by
  have h1 := keysOf_len (normE l).reverse
  have h2 := wgt_norm l
  rw [wgt_rev] at h1
  unfold keyE; omega
end Go.Dk
set_option maxRecDepth 8000
set_option linter.unusedVariables false
namespace Go.Proofs.YtphakclfahianaaDoor
open Go.Vk
attribute [local irreducible] HT HX RegS RegA RegM OpP OpC AltT
theorem dkReverse (u : Value) (l : List Dn.Ava) (hl : l.length ≤ 100000) : CallsC Tryd.prog 30 [Is u] [ownR u 37 2 Dn.cAva l] (fun _ => TTup []) (fun _ => [ownR u 37 2 Dn.cAva l.reverse]) := by
  have pl := Plan.mk' 3 [(0,3,[]),(1,3,[]),(2,3,[]),(3,3,[]),(4,3,[]),(5,3,[]),(8,3,[]),(9,3,[]),(6,3,[]),(10,3,[]),(7,1,[]),(11,1,[]),(12,3,[]),(13,0,[]),(14,3,[]),(15,0,[])]
  refine CallsC.of Tryd.call30 Tryd.func30 rfl Tryd.ntmps30 rfl fun w0 G0 S0 hs ho => ?_
  refine HT.openR 0 rfl (fun h1 h2 => ?_) (fun g c h1 => ?_)
  · subst h1 h2
    refine run ?_
    refine HT.loopX (σ := Unit) [0] (fun _ => [(2, okI .i64 0), (3, okI .i64 (-1))]) (fun _ => []) (fun _ => True) (fun _ => 0) () trivial (run trivial) (run trivial) ?_
    intro _ _
    exact run trivial
  · subst h1
    refine run ?_
    refine HT.loopX (σ := Nat × List Dn.Ava) [0] (fun t => [(2, okI .i64 (t.1 : Int)), (3, okI .i64 ((l.length : Int) - 1 - (t.1 : Int)))]) (fun t => [ownA g c 37 2 Dn.cAva t.2]) (fun t => 2 * t.1 ≤ l.length + 1 ∧ Dk.revP l t.2 t.1) (fun t => l.length - t.1) (0, l) ⟨by dsimp only; omega, Dk.revP_0 l⟩ (run trivial) (run trivial) ?_
    rintro ⟨i, m⟩ ⟨hi, hr⟩
    dsimp only at hi hr ⊢
    have hml := hr.1
    by_cases hlt : (i : Int) < (l.length : Int) - 1 - (i : Int)
    · have hj : (((l.length : Int) - 1 - (i : Int)).toNat) = l.length - 1 - i := by omega
      have hst : (m.set i (m.getD ((l.length : Int) - 1 - (i : Int)).toNat default)).length = l.length := by rw [List.length_set, hml]
      refine run ?_
      intro _
      rw [hj]
      exact HX.roundX (i + 1, (m.set i (m.getD (l.length - 1 - i) default)).set (l.length - 1 - i) (m.getD i default)) ⟨⟨by dsimp only; omega, Dk.revP_step hr (by omega) (by omega)⟩, by dsimp only; omega⟩ rfl (run trivial) (run trivial)
    · have e := Dk.revP_end hr (by omega)
      subst e
      exact run trivial
theorem dkUnesc (v : List UInt8) (hs : v.length ≤ 10000000) : CFnG 0 Tryd.prog 29 [Is (str v), Is (str [0, 255]), Is (str [0])] (Is (str (Dk.unesc v))) := by
  have hc := Lib.count_le v [0, 255]
  exact stReplaceAll v [0, 255] [0] (by decide) (by omega) (by simp only [List.length_cons, List.length_nil]; omega)
theorem dkDepth (s : List UInt8) (hs : s.length ≤ 10000000) : CFnG 0 Tryd.prog 14 [Is (str s)] (okI .i64 (Lib.count s [0, 1] : Int)) := by
  have c1 := stCount s [0, 1] (by decide) (by omega)
  refine CallsC.of Tryd.call14 Tryd.func14 rfl Tryd.ntmps14 rfl fun w0 G0 S0 hs ho => ?_
  exact run trivial
attribute [local irreducible] Dn.normE Dn.normA Dn.isE Dk.esc Dk.unesc Dk.keysOf Dk.keyA Dk.keyE Lib.cut Lib.count
theorem dkRange (l : List Dn.Ava) (hl : Dn.wgt l ≤ 1000000) : CFnG 0 Tryd.prog 15 [TSl 2 Dn.cAva l] (TTup [Is (str (Dk.keyE l)), Is (str (Dk.keyE l ++ [255]))]) := by
  have c1 := dkKey l hl
  have hk := Dk.keyE_len l
  refine CallsC.of Tryd.call15 Tryd.func15 rfl Tryd.ntmps15 rfl fun w0 G0 S0 hs ho => ?_
  exact run trivial
end Go.Proofs.YtphakclfahianaaDoor
set_option linter.unusedVariables false
set_option maxRecDepth 8000
set_option linter.unusedVariables false
namespace Go.Proofs.YtphakclfahianaaDoor
open Go.Vk
attribute [local irreducible] HT HX RegS RegA RegM OpP OpC AltT
attribute [local irreducible] Dn.normE Dn.normA Dn.isE Dk.esc Dk.unesc Dk.keysOf Dk.keyA Dk.keyE Lib.cut Lib.count Dk.backP
set_option maxHeartbeats 2000000 in
theorem dkBack (s : List UInt8) (hs : s.length ≤ 100000) : CFnG 0 Tryd.prog 11 [Is (str s)] (TTup [TSl 2 Dn.cAva ((Dk.backP s).getD []), Is (.bool (Dk.backP s).isSome)]) := by
  have c1 := stCut
  have c2 := dkUnesc
  have c3 := dkReverse
  have st := Stop.mk' 11
  refine CallsC.of Tryd.call11 Tryd.func11 rfl Tryd.ntmps11 rfl fun w0 G0 S0 hs ho => ?_
  refine run ?_
  refine HT.loopX (σ := List Dn.Ava × List UInt8 × Value) [0, 2, 3] (fun t => [(4, Is t.2.2), (5, Is (str t.2.1))]) (fun t => [globR 0, ownR t.2.2 37 2 Dn.cAva t.1]) (fun t => Dk.BackI s t.1 t.2.1) (fun t => t.2.1.length) ([], s, .slice none 0 0) (Dk.BackI.start s) (run trivial) (run trivial) ?_
  rintro ⟨acc, rest, u⟩ hb
  dsimp only at hb ⊢
  have hlen := hb.len
  have hal := Dn.wgt_len acc
  by_cases hr : rest = []
  · subst hr
    have hd := hb.done
    clear c1 c2
    refine run ?_
    refine ⟨fun h => absurd rfl h, fun _ => ?_⟩
    refine HTs.mk ?_
    clear st
    refine HT.giveR (t := 4) 1 rfl rfl ?_
    have hw : Dn.wgt acc.reverse = Dn.wgt acc := Dk.wgt_rev acc
    have hl := Dn.wgt_len acc.reverse
    have c4 := dnIsF acc.reverse (by omega) (fun a ha => by have := Dk.wgt_mem ha; omega)
    have c5 := dkKey acc.reverse (by simp only [List.length_nil] at hlen; omega)
    rw [hd]
    generalize acc.reverse = m at *
    generalize Dn.isE m = im at *
    refine run ?_
    refine ⟨fun h => ?_, fun h => ?_, fun h => ?_, fun h => ?_⟩
    · rw [if_neg (by rintro ⟨e1, e2⟩; rcases h with h | h; · rw [e1] at h; cases h
                     · exact h e2)]; rfl
    · rw [if_neg (by rintro ⟨e1, e2⟩; rcases h with h | h; · rw [e1] at h; cases h
                     · exact h e2)]; rfl
    · rw [if_pos ⟨h.1, Decidable.not_not.1 h.2⟩]; rfl
    · rw [if_pos ⟨h.1, Decidable.not_not.1 h.2⟩]; rfl
  · have h1 := Dk.cut_len1 [0, 1] rest
    have h2 := Dk.cut_len (sep := [0, 1]) (by decide) rest hr
    have h3 := Dk.cut_len1 [61] (Lib.cut rest [0, 1]).1
    have h4 := fun h h' => (hb.ok hr h h')
    have h5 := hb.bad hr
    have d1 := c1 rest [0, 1] (by omega)
    have d2 := c1 (Lib.cut rest [0, 1]).1 [61] (by omega)
    have d3 := c2 (Lib.cut (Lib.cut rest [0, 1]).1 [61]).2.1
    have h6 := fun h => Dk.cut_sum (s := (Lib.cut rest [0, 1]).1) (sep := [61]) h
    clear c1 c2 hb
    generalize Lib.cut rest [0, 1] = x at *
    obtain ⟨part, more, ok⟩ := x
    dsimp only at *
    generalize Lib.cut part [61] = y at *
    obtain ⟨ty, vl, is⟩ := y
    dsimp only at *
    obtain ⟨a, ha1, ha2⟩ : ∃ a : Dn.Ava, a.typ = ty ∧ a.val = Dk.unesc vl := ⟨⟨_, _⟩, rfl, rfl⟩
    have ha : (⟨ty, Dk.unesc vl⟩ : Dn.Ava) = a := Dn.Ava.ext' ha1.symm ha2.symm
    rw [ha] at h4
    rw [← ha2] at d3
    rw [← ha1] at d2
    have d3' : vl.length ≤ 10000000 → CFnG 0 Tryd.prog 29 [Is (str vl), Is (str [0, 255]), Is (str [0])] (Is (str a.val)) := d3
    clear d3
    refine run ?_
    have hbad : (ok = false ∨ is = false) → Dk.backP s = none := fun h => h5 (by rintro ⟨e1, e2⟩; rw [e1, e2] at h; simp at h)
    refine ⟨fun _ h => ?_, fun _ h => ?_, fun vq _ h => ?_, fun _ h => ?_, fun h => absurd hr h⟩
    · rw [hbad h]; rfl
    · rw [hbad h]; rfl
    · exact HX.roundX (acc ++ [a], more, vq) ⟨h4 h.1 h.2, h2⟩ rfl (run trivial) (run trivial)
    · have := h6 h.2; simp only [List.length_cons, List.length_nil] at this; omega
end Go.Proofs.YtphakclfahianaaDoor
set_option linter.unusedVariables false
namespace Go.Dk
open Go.Vk Go.Dn Go.Lib
theorem drop_getD {s : List UInt8} {i : Nat} (h : i < s.length) : s.drop i = s.getD i 0 :: s.drop (i + 1) := by
  rw [List.drop_eq_getElem_cons h]
  congr 1
  simp [List.getD_eq_getElem?_getD, List.getElem?_eq_getElem h]
theorem take_getD {s : List UInt8} {i : Nat} (h : i < s.length) : s.take (i + 1) = s.take i ++ [s.getD i 0] := by
  rw [List.take_succ_eq_append_getElem h]
  congr 1
  simp [List.getD_eq_getElem?_getD, List.getElem?_eq_getElem h]
theorem esc_nought {s : List UInt8} {i : Nat} (h : i < s.length) (hc : ((s.getD i 0).toNat : Int) = 0) : esc (s.take (i + 1)) = esc (s.take i) ++ [s.getD i 0] ++ [255] := by
  have e : s.getD i 0 = 0 := UInt8.toNat_inj.1 (by simp only [UInt8.toNat_ofNat]; omega)
  rw [esc_take h, if_pos e, e]; simp
theorem esc_other {s : List UInt8} {i : Nat} (h : i < s.length) (hc : ¬ ((s.getD i 0).toNat : Int) = 0) : esc (s.take (i + 1)) = esc (s.take i) ++ [s.getD i 0] := by
  rw [esc_take h, if_neg (fun e => hc (by rw [e]; rfl))]
theorem esc_ends {s : List UInt8} (i : Nat) : (esc (s.take i)).length ≤ 2 * s.length := by
  have h1 := esc_len (s.take i)
  rw [List.length_take] at h1
  omega
/-- How the document's count stands. -/
theorem dep_yes {s : List UInt8} {i : Nat} (h : i + 1 < s.length) (h0 : ((s.getD i 0).toNat : Int) = 0) (h1 : ((s.getD (i + 1) 0).toNat : Int) = 1) : count (s.drop i) [0, 1] = 1 + count (s.drop (i + 2)) [0, 1] := by
  have e0 : s.getD i 0 = 0 := UInt8.toNat_inj.1 (by simp only [UInt8.toNat_ofNat]; omega)
  have e1 : s.getD (i + 1) 0 = 1 := UInt8.toNat_inj.1 (by simp only [UInt8.toNat_ofNat]; omega)
  rw [drop_getD (by omega), drop_getD h, e0, e1]
  exact count_pre (sub := [0, 1]) (by decide) _
theorem dep_no {s : List UInt8} {i : Nat} (h : i + 1 < s.length) (hc : ¬ (((s.getD i 0).toNat : Int) = 0 ∧ ((s.getD (i + 1) 0).toNat : Int) = 1)) : count (s.drop i) [0, 1] = count (s.drop (i + 1)) [0, 1] := by
  rw [drop_getD (show i < s.length by omega)]
  refine count_skip (by decide) ?_
  rw [drop_getD h]
  refine Bool.eq_false_iff.2 fun e => hc ?_
  simp only [List.isPrefixOf, Bool.and_eq_true, beq_iff_eq, Bool.and_true] at e
  rw [← e.1, ← e.2]
  exact ⟨rfl, rfl⟩
theorem dep_end {s : List UInt8} {i : Nat} (h : s.length ≤ i + 1) : count (s.drop i) [0, 1] = 0 := by
  have hl : (s.drop i).length ≤ 1 := by rw [List.length_drop]; omega
  generalize s.drop i = t at hl
  match t, hl with
  | [], _ => exact count_nil (by decide)
  | [c], _ => rw [count_skip (by decide) (by simp [List.isPrefixOf])]; exact count_nil (by decide)
/-- How far the sign of equality has been looked for. -/
def CutI (s : List UInt8) (i : Nat) : Prop := cut s [61] = (s.take i ++ (cut (s.drop i) [61]).1, (cut (s.drop i) [61]).2.1, (cut (s.drop i) [61]).2.2)
theorem CutI.start (s : List UInt8) : CutI s 0 := by unfold CutI; simp
theorem CutI.next {s : List UInt8} {i : Nat} (h : CutI s i) (hi : i < s.length) (hc : ¬ ((s.getD i 0).toNat : Int) = 61) : CutI s (i + 1) := by
  unfold CutI at h ⊢
  rw [h, drop_getD hi, cut_skip, take_getD hi]
  · simp
  · simp only [List.isPrefixOf, Bool.and_true]
    refine beq_eq_false_iff_ne.2 fun e => hc (by rw [← e]; rfl)
theorem CutI.hit {s : List UInt8} {i : Nat} (h : CutI s i) (hi : i < s.length) (hc : ((s.getD i 0).toNat : Int) = 61) : pt s = some ⟨s.take i, s.drop (i + 1)⟩ := by
  have e : s.getD i 0 = 61 := UInt8.toNat_inj.1 (by simp only [UInt8.toNat_ofNat]; omega)
  unfold CutI at h
  rw [drop_getD hi, e, show (61 : UInt8) :: s.drop (i + 1) = [61] ++ s.drop (i + 1) from rfl, cut_pre] at h
  unfold pt
  rw [h]
  simp
theorem CutI.done {s : List UInt8} {i : Nat} (h : CutI s i) (hi : s.length ≤ i) : pt s = none := by
  unfold CutI at h
  rw [List.drop_eq_nil_of_le hi, cut_nil (by decide)] at h
  unfold pt
  rw [h]
  rfl
def ptA (s : List UInt8) : Ava := (pt s).getD default
end Go.Dk
set_option maxRecDepth 8000
set_option linter.unusedVariables false
namespace Go.Proofs.YtphakclfahianaaDoor
open Go.Vk
attribute [local irreducible] HT HX RegS RegA RegM OpP OpC AltT
attribute [local irreducible] Dn.normE Dn.normA Dn.isE Dk.esc Dk.unesc Dk.keysOf Dk.keyE Lib.cut Lib.count Dk.pt
theorem lwNames19 (l m : List Dn.Ava) (hl : l.length ≤ 1152921504606846976) : CFn Tryd.prog 12 [TSl 2 Dn.cAva l, TSl 2 Dn.cAva m] (Is (.bool (decide (l = m)))) := by
  refine CallsC.of Tryd.call12 Tryd.func12 rfl Tryd.ntmps12 rfl fun w0 G0 S0 hs ho => ?_
  refine run ?_
  refine ⟨?_, ?_⟩
  · intro h
    exact (decide_eq_false (fun e => h (by rw [e]))).symm
  intro hc
  refine HT.loopX (σ := Nat) [0, 1] (fun i => [(5, okI .i64 (i : Int))]) (fun _ => []) (fun i => i ≤ l.length ∧ l.take i = m.take i) (fun i => l.length - i) 0 ⟨Nat.zero_le _, rfl⟩ (run trivial) (run trivial) ?_
  rintro i ⟨hi, he⟩
  have hc' : l.length = m.length := by
    have : (l.length : Int) = (m.length : Int) := Decidable.not_not.1 hc
    omega
  refine run ?_
  simp only [Dn.avaB, decide_eq_false_iff_not, decide_eq_true_eq]
  and_intros
  all_goals intros
  · rename_i h1 h2
    exact (decide_eq_false (fun e => h2 (by rw [e]))).symm
  · rename_i h1 h2
    exact HX.roundX (i + 1) ⟨⟨by omega, Dn.take_ext (by omega) hc' he h2⟩, by omega⟩ rfl (run trivial) (run trivial)
  · rename_i h1
    exact (decide_eq_true (Dn.take_all h1 hc' he)).symm
theorem lwHeavy19 (l : List Dn.Ava) (hl : l.length ≤ 140737488351232) (ha : ∀ a ∈ l, a.typ.length ≤ 140737488351232 ∧ a.val.length ≤ 140737488351232) : CFn Tryd.prog 6 [TSl 2 Dn.cAva l] (Is (.bool (decide (1500 < Dn.wgt l)))) := by
  refine CallsC.of Tryd.call6 Tryd.func6 rfl Tryd.ntmps6 rfl fun w0 G0 S0 hs ho => ?_
  refine run ?_
  refine HT.loopX (σ := Nat) [0] (fun i => [(3, okI .i64 (Dn.wgt (l.take i) : Int)), (4, okI .i64 (i : Int))]) (fun _ => []) (fun i => i ≤ l.length ∧ Dn.wgt (l.take i) ≤ 1500) (fun i => l.length - i) 0 ⟨Nat.zero_le _, by simp [Dn.wgt]⟩ (run trivial) (run ?_) ?_
  · simp [Dn.wgt]
  rintro i ⟨hi, hk⟩
  by_cases hlt : i < l.length
  · have h3 := ha _ (Dn.getD_mem hlt)
    have h4 := Dn.wgt_take_succ hlt
    have h5 := Dn.wgt_take_le l (i + 1)
    refine run ?_
    intro _ h6
    refine HX.roundX (i + 1) ⟨⟨by omega, by omega⟩, by omega⟩ rfl (run trivial) (run trivial)
  · refine run ?_
    intro _
    rw [List.take_of_length_le (by omega)] at hk
    exact (decide_eq_false (by omega)).symm
theorem rfEscape (s : List UInt8) (hs : s.length ≤ 10000000) : CFn Tryd.prog 20 [Is (str s)] (Is (str (Dk.esc s))) := by
  refine CallsC.of Tryd.call20 Tryd.func20 rfl Tryd.ntmps20 rfl fun w0 G0 S0 hs ho => ?_
  refine run ?_
  refine HT.loopX (σ := Nat × Value) [0, 2] (fun t => [(3, TAnd (Is t.2) (TBytes (Dk.esc (s.take t.1)))), (4, okI .i64 (t.1 : Int))]) (fun t => [ownSl t.2 1 5]) (fun t => t.1 ≤ s.length) (fun t => s.length - t.1) (0, .slice none 0 0) (Nat.zero_le _) (run trivial) (run ?_) ?_
  · unfold Dk.esc; rfl
  rintro ⟨i, v⟩ hi
  dsimp only at hi ⊢
  have he := Dk.esc_ends (s := s) i
  by_cases hlt : i < s.length
  · refine run ?_
    and_intros
    all_goals intros
    · rename_i v' _ h1
      refine HX.roundX (i + 1, v') ⟨by dsimp only; omega, by dsimp only; omega⟩ rfl (run trivial) (run ?_)
      rw [Dk.esc_nought hlt h1]
      rfl
    · rename_i v' _ h1
      refine HX.roundX (i + 1, v') ⟨by dsimp only; omega, by dsimp only; omega⟩ rfl (run trivial) (run ?_)
      rw [Dk.esc_other hlt h1]
  · refine run ?_
    intro _
    rw [List.take_of_length_le (by omega)]
theorem rfKey19 (l : List Dn.Ava) (hl : Dn.wgt l ≤ 1000000) : CFn Tryd.prog 18 [TSl 2 Dn.cAva l] (Is (str (Dk.keyE l))) := by
  have c1 := rfNorm l (by omega)
  have c2 := rfEscape
  have hw := Dn.wgt_norm l
  have ek : Dk.keyE l = Dk.keysOf (Dn.normE l).reverse := by unfold Dk.keyE; rfl
  rw [ek]
  generalize Dn.normE l = m at c1 hw ⊢
  have hml := Dn.wgt_len m
  refine CallsC.of Tryd.call18 Tryd.func18 rfl Tryd.ntmps18 rfl fun w0 G0 S0 hs ho => ?_
  refine run ?_
  refine HT.loopX (σ := Nat) [2, 3] (fun k => [(4, Is (str (Dk.keysOf (m.reverse.take k)))), (5, okI .i64 ((m.length : Int) - 1 - (k : Int)))]) (fun _ => []) (fun k => k ≤ m.length) (fun k => m.length - k) 0 (Nat.zero_le _) (run trivial) (run ?_) ?_
  · rw [List.take_zero, Dk.keysOf_nil]
  intro k hk
  by_cases hlt : k < m.length
  · have hk2 := Dk.keys_le m k
    have hk3 := Dk.keys_snoc hlt
    have hk4 := Dn.wgt_at (l := m) (i := ((m.length : Int) - 1 - (k : Int)).toNat) (by omega)
    have hk5 := Dk.esc_len (m.getD ((m.length : Int) - 1 - (k : Int)).toNat default).val
    refine run ?_
    intro _
    refine HX.roundX (k + 1) ⟨by omega, by omega⟩ rfl (run trivial) (run ?_)
    rw [hk3]
    simp [Dk.keyA]
  · have e : k = m.length := by omega
    subst e
    refine run ?_
    intros
    rw [← List.length_reverse, List.take_length]
theorem rfRange (l : List Dn.Ava) (hl : Dn.wgt l ≤ 1000000) : CFn Tryd.prog 16 [TSl 2 Dn.cAva l] (TTup [Is (str (Dk.keyE l)), Is (str (Dk.keyE l ++ [255]))]) := by
  have c1 := rfKey19 l hl
  have hk := Dk.keyE_len l
  refine CallsC.of Tryd.call16 Tryd.func16 rfl Tryd.ntmps16 rfl fun w0 G0 S0 hs ho => ?_
  exact run trivial
theorem rfDepth (s : List UInt8) (hs : s.length ≤ 10000000) : CFn Tryd.prog 21 [Is (str s)] (okI .i64 (Lib.count s [0, 1] : Int)) := by
  refine CallsC.of Tryd.call21 Tryd.func21 rfl Tryd.ntmps21 rfl fun w0 G0 S0 hs ho => ?_
  refine run ?_
  refine HT.loopX (σ := Nat × Nat) [0, 2] (fun t => [(3, okI .i64 (t.2 : Int)), (4, okI .i64 (t.1 : Int))]) (fun _ => []) (fun t => t.1 ≤ s.length ∧ t.2 ≤ t.1 ∧ t.2 + Lib.count (s.drop t.1) [0, 1] = Lib.count s [0, 1]) (fun t => s.length - t.1) (0, 0) ⟨Nat.zero_le _, Nat.le_refl _, by simp⟩ (run trivial) (run trivial) ?_
  rintro ⟨i, c⟩ ⟨hi, hc, hd⟩
  dsimp only at hi hc hd ⊢
  by_cases hlt : i + 1 < s.length
  · refine run ?_
    refine ⟨fun _ h => ?_, fun _ h => ?_⟩
    · have h1 := Dk.dep_yes hlt h.1 h.2
      exact HX.roundX (i + 2, c + 1) ⟨⟨by dsimp only; omega, by dsimp only; omega, by dsimp only; omega⟩, by dsimp only; omega⟩ rfl (run trivial) (run trivial)
    · have h1 := Dk.dep_no hlt (by rintro ⟨e1, e2⟩; rcases h with h | h; · exact h e1
                                   · exact h e2)
      exact HX.roundX (i + 1, c) ⟨⟨by dsimp only; omega, by dsimp only; omega, by dsimp only; omega⟩, by dsimp only; omega⟩ rfl (run trivial) (run trivial)
  · have hd2 := Dk.dep_end (s := s) (i := i) (by omega)
    exact run trivial
theorem rfPart (s : List UInt8) (hs : s.length ≤ 10000000) : CFn Tryd.prog 35 [Is (str s)] (TTup [TAgg (Dn.cAva (Dk.ptA s)), Is (.bool (Dk.pt s).isSome)]) := by
  have pl := Plan.mk' 5 [(0,3,[]),(1,3,[]),(2,3,[]),(3,3,[]),(4,3,[]),(5,3,[]),(6,3,[]),(7,3,[]),(9,3,[]),(8,0,[])]
  refine CallsC.of Tryd.call35 Tryd.func35 rfl Tryd.ntmps35 rfl fun w0 G0 S0 hs ho => ?_
  refine run ?_
  intro v0
  refine HT.loopX (σ := Nat) [0, 2] (fun i => [(4, okI .i64 (i : Int))]) (fun _ => [ownP (blk v0) 37 [Is (str []), Is (str [])]]) (fun i => i ≤ s.length ∧ Dk.CutI s i) (fun i => s.length - i) 0 ⟨Nat.zero_le _, Dk.CutI.start s⟩ (run trivial) (run trivial) ?_
  rintro i ⟨hi, hc⟩
  by_cases hlt : i < s.length
  · by_cases h61 : ((s.getD i 0).toNat : Int) = 61
    · have hp := hc.hit hlt h61
      have hp2 : Dk.ptA s = ⟨s.take i, s.drop (i + 1)⟩ := by unfold Dk.ptA; rw [hp]; rfl
      rw [hp, hp2]
      refine run ?_
      refine ⟨fun _ _ => ?_, fun _ _ => rfl⟩
      rw [show ((i : Int) + 1).toNat = i + 1 by omega]
    · have hn := hc.next hlt h61
      refine run ?_
      intro _ _
      exact HX.roundX (i + 1) ⟨⟨by omega, hn⟩, by omega⟩ rfl (run trivial) (run trivial)
  · have hp := hc.done (by omega)
    have hp2 : Dk.ptA s = ⟨[], []⟩ := by unfold Dk.ptA; rw [hp]; rfl
    rw [hp, hp2]
    refine run ?_
    exact fun _ => rfl
end Go.Proofs.YtphakclfahianaaDoor
set_option linter.unusedVariables false
namespace Go.Dk
open Go.Vk Go.Dn Go.Lib
/-- How the document's loop stands. -/
structure BackJ (s : List UInt8) (i : Nat) (b : List UInt8) (n : List Ava) : Prop where
  same : parseD s [] [] = parseD (s.drop i) b n
  len : wgt n + b.length ≤ i
  hi : i ≤ s.length
theorem BackJ.start (s : List UInt8) : BackJ s 0 [] [] := ⟨rfl, by simp [wgt], Nat.zero_le _⟩
theorem backD_none {s : List UInt8} (h : parseD s [] [] = none) : backD s = none := by unfold backD; rw [h]; rfl
theorem u8_eq {c : UInt8} {k : Nat} (hk : k < 256) (h : (c.toNat : Int) = (k : Int)) : c = UInt8.ofNat k := by
  refine UInt8.toNat_inj.1 ?_
  rw [UInt8.toNat_ofNat']
  omega
theorem BackJ.other {s b : List UInt8} {i : Nat} {n : List Ava} (h : BackJ s i b n) (hi : i < s.length) (hc : ¬ ((s.getD i 0).toNat : Int) = 0) : BackJ s (i + 1) (b ++ [s.getD i 0]) n := by
  have hl := h.len
  refine ⟨?_, by simp; omega, hi⟩
  rw [h.same, drop_getD hi, parseD_ne (fun e => hc (by rw [e]; rfl))]
theorem BackJ.cut {s b : List UInt8} {i : Nat} {n : List Ava} (h : BackJ s i b n) (hi : i < s.length) (hc : ((s.getD i 0).toNat : Int) = 0) (he : s.length ≤ i + 1) : backD s = none := by
  refine backD_none ?_
  rw [h.same, drop_getD hi, List.drop_eq_nil_of_le he, u8_eq (k := 0) (by decide) hc]
  exact parseD_end _ _
theorem BackJ.two {s b : List UInt8} {i : Nat} {n : List Ava} (h : BackJ s i b n) (hi : i + 1 < s.length) (hc : ((s.getD i 0).toNat : Int) = 0) : parseD s [] [] = parseD (0 :: s.getD (i + 1) 0 :: s.drop (i + 2)) b n := by
  rw [h.same, drop_getD (show i < s.length by omega), drop_getD hi, u8_eq (k := 0) (by decide) hc]
  rfl
theorem BackJ.bad {s b : List UInt8} {i : Nat} {n : List Ava} (h : BackJ s i b n) (hi : i + 1 < s.length) (hc : ((s.getD i 0).toNat : Int) = 0) (h1 : ¬ ((s.getD (i + 1) 0).toNat : Int) = 1) (h2 : ¬ ((s.getD (i + 1) 0).toNat : Int) = 255) : backD s = none := by
  refine backD_none ?_
  rw [h.two hi hc, parseD_x (fun e => h2 (by rw [e]; rfl)) (fun e => h1 (by rw [e]; rfl))]
theorem BackJ.nought {s b : List UInt8} {i : Nat} {n : List Ava} (h : BackJ s i b n) (hi : i + 1 < s.length) (hc : ((s.getD i 0).toNat : Int) = 0) (h2 : ((s.getD (i + 1) 0).toNat : Int) = 255) : BackJ s (i + 2) (b ++ [0]) n := by
  have hl := h.len
  refine ⟨?_, by simp; omega, by omega⟩
  rw [h.two hi hc, u8_eq (k := 255) (by decide) h2]
  exact parseD_255 _ _ _
theorem BackJ.none {s b : List UInt8} {i : Nat} {n : List Ava} (h : BackJ s i b n) (hi : i + 1 < s.length) (hc : ((s.getD i 0).toNat : Int) = 0) (h1 : ((s.getD (i + 1) 0).toNat : Int) = 1) (hp : (pt b).isSome = false) : backD s = none := by
  refine backD_none ?_
  rw [h.two hi hc, u8_eq (k := 1) (by decide) h1]
  refine (parseD_1 _ _ _).trans ?_
  cases hb : pt b with
  | none => rfl
  | some a => rw [hb] at hp; cases hp
theorem ptA_len {b : List UInt8} (h : (pt b).isSome = true) : (ptA b).typ.length + (ptA b).val.length + 1 = b.length := by
  unfold ptA
  unfold pt at h ⊢
  by_cases hc : (Lib.cut b [61]).2.2 = true
  · rw [if_pos hc]
    have := cut_sum hc
    simp only [List.length_cons, List.length_nil] at this
    show (Lib.cut b [61]).1.length + (Lib.cut b [61]).2.1.length + 1 = b.length
    omega
  · rw [if_neg hc] at h; cases h
theorem BackJ.part {s b : List UInt8} {i : Nat} {n : List Ava} (h : BackJ s i b n) (hi : i + 1 < s.length) (hc : ((s.getD i 0).toNat : Int) = 0) (h1 : ((s.getD (i + 1) 0).toNat : Int) = 1) (hp : (pt b).isSome = true) : BackJ s (i + 2) [] (ptA b :: n) := by
  have hl := h.len
  have hq := ptA_len hp
  refine ⟨?_, by simp only [wgt, List.length_nil]; omega, by omega⟩
  rw [h.two hi hc, u8_eq (k := 1) (by decide) h1]
  refine (parseD_1 _ _ _).trans ?_
  unfold ptA
  cases hb : pt b with
  | none => rw [hb] at hp; cases hp
  | some a => rfl
theorem BackJ.done {s b : List UInt8} {i : Nat} {n : List Ava} (h : BackJ s i b n) (hi : s.length ≤ i) : backD s = if b = [] ∧ isE n = true ∧ keyE n = s then some n else Option.none := by
  unfold backD
  rw [h.same, List.drop_eq_nil_of_le hi, parseD_nil]
  by_cases hb : b = []
  · rw [if_pos hb]
    simp [hb]
  · rw [if_neg hb, if_neg (fun e => hb e.1)]; rfl
end Go.Dk
set_option maxRecDepth 8000
set_option linter.unusedVariables false
namespace Go.Proofs.YtphakclfahianaaDoor
open Go.Vk
attribute [local irreducible] HT HX RegS RegA RegM OpP OpC AltT
attribute [local irreducible] Dn.normE Dn.normA Dn.isE Dk.esc Dk.unesc Dk.keysOf Dk.keyE Lib.cut Lib.count Dk.pt Dk.ptA Dk.backD
theorem rfBack_no {b : List UInt8} {im : Bool} {p : Prop} (h : (0 < (b.length : Int) ∨ im = false) ∨ ¬ p) : ¬ (b = [] ∧ im = true ∧ p) := by
  rintro ⟨rfl, rfl, h3⟩
  rcases h with (h | h) | h
  · simp at h
  · cases h
  · exact h h3
theorem rfBack_yes {b : List UInt8} {im : Bool} {p : Prop} [Decidable p] (h : (¬ 0 < (b.length : Int) ∧ im = true) ∧ ¬ ¬ p) : b = [] ∧ im = true ∧ p := by
  refine ⟨List.eq_nil_of_length_eq_zero (by have := h.1.1; omega), h.1.2, Decidable.not_not.1 h.2⟩
set_option maxHeartbeats 4000000 in
theorem rfBack (s : List UInt8) (hs : s.length ≤ 100000) : CFn Tryd.prog 17 [Is (str s)] (TTup [TSl 2 Dn.cAva ((Dk.backD s).getD []), Is (.bool (Dk.backD s).isSome)]) := by
  have c1 := rfPart
  refine CallsC.of Tryd.call17 Tryd.func17 rfl Tryd.ntmps17 rfl fun w0 G0 S0 hs ho => ?_
  refine run ?_
  refine HT.loopX (σ := Nat × List UInt8 × List Dn.Ava × Value) [0, 2, 3] (fun t => [(4, TSl 2 Dn.cAva t.2.2.1), (5, TAnd (Is t.2.2.2) (TBytes t.2.1)), (6, okI .i64 (t.1 : Int))]) (fun t => [ownSl t.2.2.2 1 5]) (fun t => Dk.BackJ s t.1 t.2.1 t.2.2.1) (fun t => s.length - t.1) (0, [], [], .slice none 0 0) (Dk.BackJ.start s) (run trivial) (run trivial) ?_
  rintro ⟨i, b, n, v⟩ hb
  dsimp only at hb ⊢
  have hlen := hb.len
  have hi := hb.hi
  have hwl := Dn.wgt_len n
  by_cases hlt : i < s.length
  · by_cases hc : ((s.getD i 0).toNat : Int) = 0
    · by_cases he : s.length ≤ i + 1
      · rw [hb.cut hlt hc he]
        clear c1
        refine run ?_
        exact ⟨fun _ _ _ => rfl, fun _ _ _ => rfl⟩
      · by_cases h1 : ((s.getD (i + 1) 0).toNat : Int) = 1
        · have q1 := fun h => hb.none (by omega) hc h1 h
          have q2 := fun h => hb.part (by omega) hc h1 h
          refine run ?_
          refine ⟨fun vq _ _ _ h => absurd (h1.symm.trans h) (by decide), fun vq _ _ _ _ h => by rw [q1 h]; rfl, fun vq _ _ _ _ h => by rw [q1 h]; rfl, fun vq _ _ _ _ h => ?_⟩
          exact HX.roundX (i + 2, [], Dk.ptA b :: n, .slice none 0 0) ⟨q2 h, by dsimp only; omega⟩ rfl (run trivial) (run trivial)
        · by_cases h2 : ((s.getD (i + 1) 0).toNat : Int) = 255
          · have q2 : Dk.BackJ s (i + 2) (b ++ [b8 0]) n := hb.nought (by omega) hc h2
            refine run ?_
            refine ⟨fun vq _ _ _ _ => ?_, fun vq _ _ _ h => absurd h2 h, fun vq _ _ _ h => absurd h2 h, fun vq _ _ _ h => absurd h2 h⟩
            exact HX.roundX (i + 2, b ++ [b8 0], n, vq) ⟨q2, by dsimp only; omega⟩ rfl (run trivial) (run trivial)
          · rw [hb.bad (by omega) hc h1 h2]
            clear c1
            refine run ?_
            exact ⟨fun _ _ _ => rfl, fun _ _ _ => rfl⟩
    · have q2 := hb.other hlt hc
      clear c1
      refine run ?_
      intro vq _ _
      exact HX.roundX (i + 1, b ++ [s.getD i 0], n, vq) ⟨q2, by dsimp only; omega⟩ rfl (run trivial) (run trivial)
  · have hd := hb.done (by omega)
    clear c1
    have c2 := rfIs n (by omega) (fun a ha => by have := Dk.wgt_mem ha; omega)
    have c3 := rfKey19 n (by omega)
    rw [hd]
    generalize Dn.isE n = im at *
    refine run ?_
    refine ⟨fun _ h => ?_, fun _ h => ?_, fun _ h => ?_, fun _ h => ?_⟩
    · rw [if_neg (rfBack_no h)]; rfl
    · rw [if_neg (rfBack_no h)]; rfl
    · rw [if_pos (rfBack_yes h)]; rfl
    · rw [if_pos (rfBack_yes h)]; rfl
end Go.Proofs.YtphakclfahianaaDoor
set_option linter.unusedVariables false
namespace Go.Dk
open Go.Vk Go.Dn Go.Lib

/-! ### a folded type -/
theorem typC_nums {c : UInt8} (h : typC c = true) : (97 ≤ (c.toNat : Int) ∧ (c.toNat : Int) ≤ 122) ∨ (65 ≤ (c.toNat : Int) ∧ (c.toNat : Int) ≤ 90) ∨ (48 ≤ (c.toNat : Int) ∧ (c.toNat : Int) ≤ 57) ∨ (c.toNat : Int) = 45 := by
  simp only [typC, letB, digB, Bool.or_eq_true, Bool.and_eq_true, decide_eq_true_eq] at h
  omega
theorem typC_of {c : UInt8} (h : (97 ≤ (c.toNat : Int) ∧ (c.toNat : Int) ≤ 122) ∨ (65 ≤ (c.toNat : Int) ∧ (c.toNat : Int) ≤ 90) ∨ (48 ≤ (c.toNat : Int) ∧ (c.toNat : Int) ≤ 57) ∨ (c.toNat : Int) = 45) : typC c = true := by
  simp only [typC, letB, digB, Bool.or_eq_true, Bool.and_eq_true, decide_eq_true_eq]
  omega
theorem lowC_not {c : UInt8} (h : ¬ (65 ≤ (c.toNat : Int) ∧ (c.toNat : Int) ≤ 90)) : lowC c = c := if_neg h
theorem lowC_typ {c : UInt8} (h : typC c = true) : typC (lowC c) = true := by
  have hn := typC_nums h
  by_cases hu : 65 ≤ (c.toNat : Int) ∧ (c.toNat : Int) ≤ 90
  · have := lowC_val hu
    exact typC_of (by omega)
  · rw [lowC_not hu]; exact h
theorem lowC_let {c : UInt8} (h : letB c = true) : letB (lowC c) = true := by
  by_cases hu : 65 ≤ (c.toNat : Int) ∧ (c.toNat : Int) ≤ 90
  · have := lowC_val hu
    simp only [letB, Bool.or_eq_true, Bool.and_eq_true, decide_eq_true_eq]
    omega
  · rw [lowC_not hu]; exact h
theorem foldR_typ {t : List UInt8} (h : ∀ c ∈ t, typC c = true) : foldR t = t.map lowC := by
  induction t using snoc_ind with
  | h0 => rfl
  | h1 s c ih =>
    have hc := typC_nums (h c (by simp))
    rw [foldR_snoc, ih (fun x hx => h x (by simp [hx])), List.map_append]
    unfold foldStep
    rw [if_neg (by omega)]
    rfl
theorem foldE_typ {t : List UInt8} (h : ∀ c ∈ t, typC c = true) : foldE t = t.map lowC := by
  unfold foldE
  rw [foldR_typ h]
  refine trimE_of ?_
  rintro ⟨h1, h2⟩
  have hl : 0 < (t.map lowC).length := by omega
  have hm : lastB (t.map lowC) ∈ t.map lowC := by
    unfold lastB
    rw [List.getD_eq_getElem?_getD, List.getElem?_eq_getElem (by omega)]
    exact List.getElem_mem _
  obtain ⟨c, hc, e⟩ := List.mem_map.1 hm
  rw [← e, lowC_32] at h2
  have := typC_nums (h c hc)
  omega
theorem typB_parts {s : List UInt8} (h : typB s = true) : s ≠ [] ∧ s.length ≤ 32 ∧ letB (s.getD 0 0) = true ∧ ∀ c ∈ s, typC c = true := by
  simp only [typB, Bool.and_eq_true, Bool.not_eq_true', decide_eq_true_eq, decide_eq_false_iff_not, List.all_eq_true] at h
  exact ⟨h.1.1.1, by have := h.1.1.2; omega, h.1.2, h.2⟩
theorem typB_fold {s : List UInt8} (h : typB s = true) : typB (foldE s) = true := by
  obtain ⟨h1, h2, h3, h4⟩ := typB_parts h
  rw [foldE_typ h4]
  simp only [typB, Bool.and_eq_true, Bool.not_eq_true', decide_eq_true_eq, decide_eq_false_iff_not, List.all_eq_true]
  refine ⟨⟨⟨by simpa using h1, by rw [List.length_map]; omega⟩, ?_⟩, fun c hc => ?_⟩
  · cases s with
    | nil => exact absurd rfl h1
    | cons c r => exact lowC_let h3
  · obtain ⟨d, hd, rfl⟩ := List.mem_map.1 hc
    exact lowC_typ (h4 d hd)
theorem cl_typ {s : List UInt8} (h : typB s = true) : Cl s := fun c hc => by
  have := typC_nums ((typB_parts h).2.2.2 c hc)
  exact ⟨fun e => by rw [e] at this; simp at this, fun e => by rw [e] at this; simp at this⟩
theorem okA_parts' {a : Ava} (h : okA a = true) : typB a.typ = true ∧ a.val ≠ [] ∧ a.val.length ≤ 64 := by
  simp only [okA, Bool.and_eq_true, Bool.not_eq_true', decide_eq_false_iff_not, decide_eq_true_eq] at h
  exact ⟨h.1.1, h.1.2, by have := h.2; omega⟩
theorem okA_of {a : Ava} (h1 : typB a.typ = true) (h2 : a.val ≠ []) (h3 : a.val.length ≤ 64) : okA a = true := by
  simp only [okA, Bool.and_eq_true, Bool.not_eq_true', decide_eq_false_iff_not, decide_eq_true_eq]
  exact ⟨⟨h1, h2⟩, by omega⟩
theorem okA_norm {a : Ava} (h : okA a = true) : okA (normA a) = true := by
  obtain ⟨h1, h2, h3⟩ := okA_parts' h
  have hl := foldE_len a.val
  have hv : (normA a).val = foldE a.val ∧ foldE a.val ≠ [] ∨ (normA a).val = [32] := by
    show ((if foldE a.val ≠ [] ∨ a.val = [] then foldE a.val else [32]) = _ ∧ _) ∨ (if foldE a.val ≠ [] ∨ a.val = [] then foldE a.val else [32]) = _
    by_cases hf : foldE a.val ≠ [] ∨ a.val = []
    · rw [if_pos hf]
      exact .inl ⟨rfl, hf.resolve_right h2⟩
    · rw [if_neg hf]; exact .inr rfl
  refine okA_of (typB_fold h1) ?_ ?_
  · rcases hv with ⟨e, he⟩ | e <;> rw [e]
    · exact he
    · simp
  · rcases hv with ⟨e, he⟩ | e <;> rw [e]
    · omega
    · simp
theorem isE_norm {l : List Ava} (h : isE l = true) : isE (normE l) = true := by
  simp only [isE, Bool.and_eq_true, decide_eq_true_eq, List.all_eq_true] at h ⊢
  refine ⟨by unfold normE; rw [List.length_map]; exact h.1, fun a ha => ?_⟩
  obtain ⟨b, hb, rfl⟩ := List.mem_map.1 ha
  exact okA_norm (h.2 b hb)
theorem cl_norm {l : List Ava} (h : ∀ a ∈ l, okA a = true) : ∀ a ∈ (normE l).reverse, Cl a.typ := fun a ha => by
  obtain ⟨b, hb, rfl⟩ := List.mem_map.1 (List.mem_reverse.1 ha)
  exact cl_typ (okA_parts' (okA_norm (h b hb))).1
theorem isE_len {l : List Ava} (h : isE l = true) : l.length ≤ 12 := by
  simp only [isE, Bool.and_eq_true, decide_eq_true_eq] at h
  have := h.1; omega
theorem isE_ok {l : List Ava} (h : isE l = true) : ∀ a ∈ l, okA a = true := by
  simp only [isE, Bool.and_eq_true, List.all_eq_true] at h
  exact h.2

/-! ### both ways back are one -/
theorem key_norm (l : List Ava) : keyE (normE l) = keyE l := by unfold keyE; rw [normE_idem]
theorem backP_some {s : List UInt8} {n : List Ava} (h : backP s = some n) : isE n = true ∧ keyE n = s := by
  unfold backP at h
  obtain ⟨l, _, h2⟩ := Option.bind_eq_some_iff.1 h
  by_cases hc : isE l.reverse = true ∧ keyE l.reverse = s
  · rw [if_pos hc] at h2; cases h2; exact hc
  · rw [if_neg hc] at h2; cases h2
theorem backD_some {s : List UInt8} {n : List Ava} (h : backD s = some n) : isE n = true ∧ keyE n = s := by
  unfold backD at h
  obtain ⟨l, _, h2⟩ := Option.bind_eq_some_iff.1 h
  by_cases hc : isE l = true ∧ keyE l = s
  · rw [if_pos hc] at h2; cases h2; exact hc
  · rw [if_neg hc] at h2; cases h2
theorem backP_key {n : List Ava} (h : isE n = true) : backP (keyE n) = some (normE n) := by
  have hp : parseP (keyE n) = some (normE n).reverse := parseP_keys (cl_norm (isE_ok h))
  unfold backP
  rw [hp]
  show (if isE (normE n).reverse.reverse = true ∧ keyE (normE n).reverse.reverse = keyE n then some (normE n).reverse.reverse else none) = _
  rw [List.reverse_reverse, if_pos ⟨isE_norm h, key_norm n⟩]
theorem backD_key {n : List Ava} (h : isE n = true) : backD (keyE n) = some (normE n) := by
  have hp : parseD (keyE n) [] [] = some ((normE n).reverse.reverse ++ []) := parseD_keys [] (cl_norm (isE_ok h))
  unfold backD
  rw [hp, List.reverse_reverse, List.append_nil]
  show (if isE (normE n) = true ∧ keyE (normE n) = keyE n then some (normE n) else none) = _
  rw [if_pos ⟨isE_norm h, key_norm n⟩]
theorem back_same (s : List UInt8) : backP s = backD s := by
  cases hp : backP s with
  | none =>
    cases hd : backD s with
    | none => rfl
    | some m =>
      obtain ⟨h1, h2⟩ := backD_some hd
      have := backP_key h1
      rw [h2, hp] at this
      cases this
  | some n =>
    obtain ⟨h1, h2⟩ := backP_some hp
    have e1 := backP_key h1
    have e2 := backD_key h1
    rw [h2, hp] at e1
    rw [h2] at e2
    rw [e2, e1]

/-! ### how many parts -/
theorem count_clean {t : List UInt8} (h : Cl t) (s : List UInt8) : count (t ++ s) [0, 1] = count s [0, 1] := by
  induction t with
  | nil => rfl
  | cons c r ih =>
    rw [List.cons_append, count_skip (by decide) (by simp [List.isPrefixOf, Ne.symm (h c (by simp)).1]), ih (fun x hx => h x (by simp [hx]))]
theorem count_esc (v r : List UInt8) : count (esc v ++ 0 :: 1 :: r) [0, 1] = 1 + count r [0, 1] := by
  induction v with
  | nil => exact count_pre (sub := [0, 1]) (by decide) r
  | cons c v ih =>
    unfold esc
    by_cases h : c = 0
    · subst h
      rw [if_pos rfl, List.cons_append, List.cons_append, count_skip (by decide) (by simp [List.isPrefixOf]), count_skip (by decide) (by simp [List.isPrefixOf]), ih]
    · rw [if_neg h, List.cons_append, count_skip (by decide) (by simp [List.isPrefixOf, Ne.symm h]), ih]
theorem count_keys : ∀ {l : List Ava}, (∀ a ∈ l, Cl a.typ) → count (keysOf l) [0, 1] = l.length
  | [], _ => count_nil (by decide)
  | a :: l, h => by
    have e : keyA a ++ keysOf l = a.typ ++ ([61] ++ (esc a.val ++ 0 :: 1 :: keysOf l)) := by simp [keyA]
    rw [keysOf_cons, e, count_clean (h a (by simp)), List.singleton_append, count_skip (by decide) (by simp [List.isPrefixOf]), count_esc, count_keys (fun x hx => h x (by simp [hx]))]
    simp only [List.length_cons]; omega
theorem count_key {n : List Ava} (h : isE n = true) : count (keyE n) [0, 1] = n.length := by
  unfold keyE
  rw [count_keys (cl_norm (isE_ok h)), List.length_reverse]
  unfold normE
  rw [List.length_map]

/-! ### the order -/
theorem keys_split : ∀ {l l' : List Ava} {t : List UInt8}, (∀ a ∈ l, Cl a.typ) → (∀ a ∈ l', Cl a.typ) → keysOf l ++ t = keysOf l' → ∃ l2, l' = l ++ l2
  | [], l', _, _, _, _ => ⟨l', rfl⟩
  | a :: l, [], t, h, h', e => by simp [keysOf, keyA] at e
  | a :: l, b :: l', t, h, h', e => by
    rw [keysOf_cons, keysOf_cons, List.append_assoc] at e
    have h1 := cut_key (h a (by simp)) (keysOf l ++ t)
    have h2 := cut_key (h' b (by simp)) (keysOf l')
    rw [e, h2] at h1
    simp only [Prod.mk.injEq] at h1
    have p1 := cut_part (h a (by simp)) (esc a.val)
    have p2 := cut_part (h' b (by simp)) (esc b.val)
    rw [← h1.1, p2] at p1
    simp only [Prod.mk.injEq] at p1
    have hv : b.val = a.val := by rw [← unesc_esc b.val, ← unesc_esc a.val, p1.2.1]
    have hab : b = a := Ava.ext' p1.1 hv
    obtain ⟨l2, e2⟩ := keys_split (fun x hx => h x (by simp [hx])) (fun x hx => h' x (by simp [hx])) h1.2.1.symm
    exact ⟨l2, by rw [hab, e2]; rfl⟩
theorem under_of {a b : List Ava} (ha : ∀ x ∈ a, okA x = true) (hb : ∀ x ∈ b, okA x = true) {t : List UInt8} (e : keyE a ++ t = keyE b) : underE b a = true := by
  obtain ⟨l2, h⟩ := keys_split (cl_norm ha) (cl_norm hb) e
  have h' : normE b = l2.reverse ++ normE a := by
    have := congrArg List.reverse h
    simpa using this
  have hlen : b.length = l2.length + a.length := by
    have := congrArg List.length h'
    simpa [normE] using this
  unfold underE
  rw [Bool.and_eq_true]
  refine ⟨decide_eq_true (by omega), ?_⟩
  unfold sameE
  refine decide_eq_true ?_
  have e1 : normE (b.drop (b.length - a.length)) = (normE b).drop (b.length - a.length) := by unfold normE; rw [List.map_drop]
  rw [e1, h', hlen, show l2.length + a.length - a.length = l2.reverse.length by simp, List.drop_left]
theorem key_app (c a : List Ava) : keyE (c ++ a) = keyE a ++ keyE c := by
  unfold keyE normE
  rw [List.map_append, List.reverse_append, keysOf_app]
theorem sless_ext : ∀ {x y : List UInt8} (X Y : List UInt8), (∀ t, x ++ t ≠ y) → (∀ t, y ++ t ≠ x) → sless (x ++ X) (y ++ Y) = sless x y
  | [], y, X, Y, h, _ => absurd rfl (h y)
  | c :: x, [], X, Y, _, h => absurd rfl (h (c :: x))
  | c :: x, d :: y, X, Y, h1, h2 => by
    simp only [sless, Op.bytesLess, List.cons_append]
    by_cases e : c = d
    · subst e
      have := sless_ext (x := x) (y := y) X Y (fun t e => h1 t (by rw [List.cons_append, e])) (fun t e => h2 t (by rw [List.cons_append, e]))
      simp only [sless] at this
      rw [this]
    · have e' : (c == d) = false := beq_eq_false_iff_ne.2 e
      rw [e']
      simp
theorem sless_pre : ∀ (x : List UInt8) {t : List UInt8}, t ≠ [] → sless x (x ++ t) = true
  | [], [], h => absurd rfl h
  | [], _ :: _, _ => rfl
  | c :: x, t, h => by
    have := sless_pre x h
    simp only [sless, Op.bytesLess, List.cons_append] at this ⊢
    rw [this]
    simp
theorem sleq_pre (x t : List UInt8) : (sless x (x ++ t) || x == x ++ t) = true := by
  by_cases h : t = []
  · subst h; simp
  · rw [sless_pre x h]; rfl
theorem key_ne {c : List Ava} (h : c ≠ []) : keyE c ≠ [] := by
  intro e
  have hl : (normE c).reverse ≠ [] := by simpa [normE] using h
  unfold keyE at e
  cases hr : (normE c).reverse with
  | nil => exact hl hr
  | cons a l => rw [hr, keysOf_cons] at e; simp [keyA] at e
theorem order_key {a b c d : List Ava} (hm : isE (c ++ a) = true) (hn : isE (d ++ b) = true) (h1 : underE a b = false) (h2 : underE b a = false) : sless (keyE (c ++ a)) (keyE (d ++ b)) = sless (keyE a) (keyE b) := by
  have ha : ∀ x ∈ a, okA x = true := fun x hx => isE_ok hm x (by simp [hx])
  have hb : ∀ x ∈ b, okA x = true := fun x hx => isE_ok hn x (by simp [hx])
  rw [key_app, key_app]
  refine sless_ext _ _ (fun t e => ?_) (fun t e => ?_)
  · rw [under_of ha hb e] at h2; cases h2
  · rw [under_of hb ha e] at h1; cases h1
end Go.Dk
set_option linter.unusedVariables false
namespace Go.Dk
open Go.Vk Go.Dn
def kL : List Ava := [⟨[99, 110], [65]⟩, ⟨[111], [120]⟩]
theorem kKey : keyE kL = [111, 61, 120, 0, 1, 99, 110, 61, 97, 0, 1] := by decide +kernel
theorem kWgt : wgt kL = 7 := by decide +kernel
theorem order_end {a b c d : List Ava} (h1 : isE (c ++ a) = true) (h2 : isE (d ++ b) = true) (h3 : underE a b = false) (h4 : underE b a = false) :
    (sless (keyE a) (keyE b) == sless (keyE (c ++ a)) (keyE (d ++ b)) && (sless (keyE a) (keyE (c ++ a)) || keyE a == keyE (c ++ a)) && (decide ((c.length : Int) = 0) || sless (keyE a) (keyE (c ++ a))) && true) = true := by
  rw [order_key h1 h2 h3 h4, key_app, sleq_pre]
  by_cases hc : c = []
  · subst hc; simp
  · rw [sless_pre _ (key_ne hc)]; simp
end Go.Dk
set_option maxRecDepth 8000
set_option linter.unusedVariables false
namespace Go.Proofs.YtphakclfahianaaDoor
open Go.Vk
attribute [local irreducible] HT HX RegS RegA RegM OpP OpC AltT
attribute [local irreducible] Dn.normE Dn.normA Dn.isE Dn.wgt Dn.sameE Dn.underE Dk.esc Dk.unesc Dk.keysOf Dk.keyE Lib.cut Lib.count Dk.pt Dk.ptA Dk.backD Dk.backP
theorem lwKnown19 : CFnG 0 Tryd.prog 9 [] (Is (.bool true)) := by
  have c1 := dkKey Dk.kL (by rw [Dk.kWgt]; omega)
  rw [Dk.kKey] at c1
  unfold Dk.kL at c1
  refine CallsC.of Tryd.call9 Tryd.func9 rfl Tryd.ntmps9 rfl fun w0 G0 S0 hs ho => ?_
  exact run trivial
set_option maxHeartbeats 2000000 in
theorem lwBack19 (l : List Dn.Ava) (hl : l.length ≤ 140737488351232) (ha : ∀ a ∈ l, a.typ.length ≤ 140737488351232 ∧ a.val.length ≤ 140737488351232) : CFnG 0 Tryd.prog 4 [TSl 2 Dn.cAva l] (Is (.bool true)) := by
  have c0 := lwKnown19
  have c1 := lwHeavy19 l hl ha
  have c2 := rfIs l (by omega) (fun a h => by have := ha a h; omega)
  by_cases hw : 1500 < Dn.wgt l
  · rw [decide_eq_true hw] at c1
    clear c0
    refine CallsC.of Tryd.call4 Tryd.func4 rfl Tryd.ntmps4 rfl fun w0 G0 S0 hs ho => ?_
    exact run trivial
  rw [decide_eq_false hw] at c1
  by_cases hi : Dn.isE l = true
  · rw [hi] at c2
    have hk := Dk.keyE_len l
    have c3 := dkKey l (by omega)
    have c4 := dkBack (Dk.keyE l) (by omega)
    rw [Dk.backP_key hi] at c4
    have c5 := dkDepth (Dk.keyE l) (by omega)
    rw [Dk.count_key hi] at c5
    have c6 := rfNorm l (by omega)
    have hn : (Dn.normE l).length = l.length := by unfold Dn.normE; rw [List.length_map]
    have c7 := lwNames19 (Dn.normE l) (Dn.normE l) (by omega)
    rw [decide_eq_true rfl] at c7
    dsimp only [Option.getD, Option.isSome] at c4
    refine CallsC.of Tryd.call4 Tryd.func4 rfl Tryd.ntmps4 rfl fun w0 G0 S0 hs ho => ?_
    exact run trivial
  · rw [Bool.eq_false_iff.2 hi] at c2
    clear c0
    refine CallsC.of Tryd.call4 Tryd.func4 rfl Tryd.ntmps4 rfl fun w0 G0 S0 hs ho => ?_
    exact run trivial
set_option maxHeartbeats 4000000 in
theorem lwKeys19 (l : List Dn.Ava) (s : List UInt8) (hl : l.length ≤ 140737488351232) (ha : ∀ a ∈ l, a.typ.length ≤ 140737488351232 ∧ a.val.length ≤ 140737488351232) : CFnG 0 Tryd.prog 5 [TSl 2 Dn.cAva l, Is (str s)] (Is (.bool true)) := by
  have c0 := lwKnown19
  have c1 := lwHeavy19 l hl ha
  by_cases hw : 1500 < Dn.wgt l
  · rw [decide_eq_true hw] at c1
    clear c0
    refine CallsC.of Tryd.call5 Tryd.func5 rfl Tryd.ntmps5 rfl fun w0 G0 S0 hs ho => ?_
    exact run trivial
  rw [decide_eq_false hw] at c1
  by_cases hs : 600 < s.length
  · clear c0
    refine CallsC.of Tryd.call5 Tryd.func5 rfl Tryd.ntmps5 rfl fun w0 G0 S0 hs ho => ?_
    exact run trivial
  have c2 := dkRange l (by omega)
  have c3 := rfRange l (by omega)
  have c4 := dkBack s (by omega)
  have c5 := rfBack s (by omega)
  rw [← Dk.back_same] at c5
  have c6 := dkKey l (by omega)
  have c7 := rfKey19 l (by omega)
  have hb : ((Dk.backP s).getD []).length ≤ 1152921504606846976 := by
    cases h : Dk.backP s with
    | none => simp
    | some n =>
      have := (Dk.backP_some h).1
      have := Dk.isE_len this
      simp only [Option.getD_some]; omega
  generalize (Dk.backP s).getD [] = n at *
  generalize (Dk.backP s).isSome = o at *
  have c8 := lwNames19 n n hb
  rw [decide_eq_true rfl] at c8
  have c9 := dkEscape s (by omega)
  have c10 := rfEscape s (by omega)
  have c11 := dkDepth s (by omega)
  have c12 := rfDepth s (by omega)
  refine CallsC.of Tryd.call5 Tryd.func5 rfl Tryd.ntmps5 rfl fun w0 G0 S0 hs ho => ?_
  refine run ?_
  intro _
  simp
theorem CFnG.sub {P : Program} {g : Nat} {f : FuncId} {A B : List Ty} {T : Ty} (h : CFnG g P f B T) (s : TsSub A B) : CFnG g P f A T :=
  ⟨h.enter, fun vs w G S hs ho ha => h.calls vs w G S hs ho (ArgsT.sub s ha)⟩
theorem avaSub (x y : List Dn.Ava) : Sub (TSl 2 (fun ts : List Ty => ts) ([] ++ List.map Dn.cAva x ++ List.map Dn.cAva y)) (TSl 2 Dn.cAva (x ++ y)) := Sub.slT (by simp)
set_option maxHeartbeats 4000000 in
theorem lwOrder19 (a b c d : List Dn.Ava) (hl1 : a.length ≤ 140737488351232) (ha1 : ∀ x ∈ a, x.typ.length ≤ 140737488351232 ∧ x.val.length ≤ 140737488351232) (hl2 : b.length ≤ 140737488351232) (ha2 : ∀ x ∈ b, x.typ.length ≤ 140737488351232 ∧ x.val.length ≤ 140737488351232) (hl3 : c.length ≤ 140737488351232) (ha3 : ∀ x ∈ c, x.typ.length ≤ 140737488351232 ∧ x.val.length ≤ 140737488351232) (hl4 : d.length ≤ 140737488351232) (ha4 : ∀ x ∈ d, x.typ.length ≤ 140737488351232 ∧ x.val.length ≤ 140737488351232) : CFnG 0 Tryd.prog 3 [TSl 2 Dn.cAva a, TSl 2 Dn.cAva b, TSl 2 Dn.cAva c, TSl 2 Dn.cAva d] (Is (.bool true)) := by
  have c0 := lwKnown19
  have c1 := lwHeavy19 a hl1 ha1
  have c2 := lwHeavy19 b hl2 ha2
  have c3 := lwHeavy19 c hl3 ha3
  have c4 := lwHeavy19 d hl4 ha4
  have w1 := Dn.wgt_len a
  have w2 := Dn.wgt_len b
  have w3 := Dn.wgt_len c
  have w4 := Dn.wgt_len d
  by_cases h1 : 1500 < Dn.wgt a ∨ 1500 < Dn.wgt b ∨ 1500 < Dn.wgt c ∨ 1500 < Dn.wgt d
  · clear c0
    refine CallsC.of Tryd.call3 Tryd.func3 rfl Tryd.ntmps3 rfl fun w0 G0 S0 hs ho => ?_
    exact run trivial
  have g1 : ¬ 1500 < Dn.wgt a := fun h => h1 (.inl h)
  have g2 : ¬ 1500 < Dn.wgt b := fun h => h1 (.inr (.inl h))
  have g3 : ¬ 1500 < Dn.wgt c := fun h => h1 (.inr (.inr (.inl h)))
  have g4 : ¬ 1500 < Dn.wgt d := fun h => h1 (.inr (.inr (.inr h)))
  clear h1
  rw [decide_eq_false g1] at c1
  rw [decide_eq_false g2] at c2
  rw [decide_eq_false g3] at c3
  rw [decide_eq_false g4] at c4
  have k1 := Dk.wgt_app c a
  have k2 := Dk.wgt_app d b
  have e1 := (rfIs (c ++ a) (by rw [List.length_append]; omega) (fun x hx => by have := Dk.wgt_mem hx; omega)).sub (.cons (avaSub c a) .nil)
  have e2 := (rfIs (d ++ b) (by rw [List.length_append]; omega) (fun x hx => by have := Dk.wgt_mem hx; omega)).sub (.cons (avaSub d b) .nil)
  have e3 := rfUnder a b (by omega) (by omega)
  have e4 := rfUnder b a (by omega) (by omega)
  have e5 := dkKey a (by omega)
  have e6 := dkKey b (by omega)
  have e7 := CFnG.sub (dkKey (c ++ a) (by omega)) (.cons (avaSub c a) .nil)
  have e8 := CFnG.sub (dkKey (d ++ b) (by omega)) (.cons (avaSub d b) .nil)
  have mu := Mut.mk' [27, 32]
  refine CallsC.of Tryd.call3 Tryd.func3 rfl Tryd.ntmps3 rfl fun w0 G0 S0 hs ho => ?_
  refine run ?_
  intro _ _ _ _ _ _ _ h
  exact Dk.order_end h.1.1.1 h.1.1.2 h.1.2 h.2
end Go.Proofs.YtphakclfahianaaDoor
set_option linter.unusedVariables false
namespace Go.Vk
theorem law_ofG {P : Program} {f : FuncId} {A : List Ty} {g : Nat} (h : CFnG g P f A (Is (.bool true))) (vs : List Value) (w : World) (hm : ∃ m, w.cell? ⟨g, 0, none⟩ = some (.int .i64 m)) (ha : ArgsT (heapImm w) A vs) : Calls P f vs.toArray w fun e w' => e = .returned (.bool true) ∧ RowKit.Below w.heap.size w w' := by
  refine (h.calls vs w (heapImm w) _ (heapImm.sat w) (globR.owns hm) ha).mono ?_
  rintro e w' ⟨v, G', S', rfl, hext, -, -, hT⟩
  cases hT
  exact ⟨rfl, ⟨hext.os, hext.tape, hext.output, hext.size, fun k hk => (hext.blk k hk (fun ⟨_, z⟩ => z)).1⟩⟩
theorem handed_shaped_and {H : Type} {enc : TypeId × Value → H} {a : Assume} {C : Checked} {os : Os} {f : FuncId} {fn : Func} {s : ChangeSpec} {conds : List PathCond} {apart fresh handsOn again : Bool} {X : World → Array Value → Prop}
    (own : ownKnob C.prog.godebug = none) (started : os.Started) (noInit : C.prog.inits.idxOf? f = none) (hfn : C.prog.funcs[f]? = some fn)
    (witness : ∃ (w : World) (tape : Tape) (i : Input), w.os = os ∧ (w.forCall tape i).Shaped C.prog ∧ i.vars = [] ∧ Input.okWide C.prog (w.forCall tape i) .any w.heap.size f i ∧
      ((s.pre enc C.prog fn conds apart (w.forCall tape i).memory i.args ∧ X (w.forCall tape i).memory i.args) ∧ sizedMet enc C.prog fn (OpenSpec.ofChange s) apart (w.forCall tape i).memory i.args) ∧ a.holds C.prog (lone (Frame.enter C.prog f i.args .normal) [] (w.forCall tape i)))
    (contract : ∀ (W : World) (base : Nat) (args : Array Value) (ds gs : List (DataW H)) (before : List MemPlace),
      (∀ (j : Nat) t v, fn.params[j]? = some t → args[j]? = some v → Value.okWide C.prog W .any base t v) →
      DataW.Whole enc C.prog fn.params.toList s.vars apart W args.toList ds gs before →
      (DataW.weightsEach C.prog (fn.params.toList ++ s.plain.varTypes C.prog) (ds ++ gs)).all (· ≤ reachBytes) = true → W.ShapedOpen C.prog →
      Calls C.prog f args W fun e W' => ∃ v, e = .returned v ∧ s.post enc C.prog fn apart fresh handsOn again W args v W') :
    ReturnsInHanded a C os f .any (fun w args => (s.pre enc C.prog fn conds apart w args ∧ X w args) ∧ sizedMet enc C.prog fn (OpenSpec.ofChange s) apart w args) (s.post enc C.prog fn apart fresh handsOn again) := by
  refine returnsInHanded_of_calls own started noInit witness ?_
  intro w tape i _ hsh _ hok hpre hholds
  obtain ⟨_, _, _, fn', hfn', _, _, _, _, hval⟩ := hok
  have e : fn' = fn := Option.some.inj (hfn'.symm.trans hfn)
  subst e
  obtain ⟨⟨⟨ds, gs, before, hw, hc⟩, hx⟩, hz⟩ := hpre
  have hw' := DataW.Whole.of_heap (w' := w.forCall tape i) (by rfl) hw
  refine (contract (w.forCall tape i) w.heap.size i.args ds gs before hval hw' (hz.weights hw) hsh).mono fun e W' ⟨v, he, hp⟩ => ?_
  subst he
  exact ChangeSpec.post_blind hp
end Go.Vk
