/-
  The contract of the program's Decode.
  The contract of the document's Reader.Bytes.
  The contract of the document's Decode.
  The laws BatchDecodes and BatchBack.
-/
import Derived.Test.YtniogecifadccaaGal
set_option linter.unusedSimpArgs false
set_option linter.unusedVariables false
set_option maxRecDepth 8000
set_option linter.unusedVariables false
namespace Go.Proofs.Ytniogecifadccaa
open Go.Vk
attribute [local irreducible] HT HX RegS RegA RegM OpP OpC AltT
theorem baEqual (a b : List UInt8) : CFn Try.prog 36 [TBytes a, TBytes b] (Is (.bool (decide (a = b)))) := by
  refine CallsC.of Try.call36 Try.func36 rfl Try.ntmps36 rfl fun w0 G0 S0 hs ho => ?_
  exact run trivial
theorem decG_def (q : Int → Bool) (s : List UInt8) : Ba.decG q s = Oct.rows (Ba.stepG q) Oct.badS Oct.lenS (Oct.numV s) [] (Oct.numT s, Oct.numE s false) := rfl
theorem step_0 {q : Int → Bool} {r : List UInt8} {e : Bool} (h : Oct.numV (Oct.bytT r) = 0) : Ba.stepG q (r, e) = (⟨Oct.bytV r, Oct.bytV (Oct.numT (Oct.bytT r)), false⟩, (Oct.bytT (Oct.numT (Oct.bytT r)), Oct.bytE (Oct.numT (Oct.bytT r)) (Oct.numE (Oct.bytT r) (Oct.bytE r e)))) := if_pos h
theorem step_1 {q : Int → Bool} {r : List UInt8} {e : Bool} (h : ¬ Oct.numV (Oct.bytT r) = 0) : Ba.stepG q (r, e) = (⟨Oct.bytV r, [], q (Oct.numV (Oct.bytT r))⟩, (Oct.numT (Oct.bytT r), Oct.numE (Oct.bytT r) (Oct.bytE r e))) := if_neg h
theorem okr_snoc {acc : List Ba.Row} {r : Ba.Row} (h : ∀ i, i < acc.length → Ba.Okr (acc.getD i default)) (k : Ba.Okr r) : ∀ i, i < (acc ++ [r]).length → Ba.Okr ((acc ++ [r]).getD i default) := fun i hi => by
  have := Ba.getD_mem hi
  rcases List.mem_append.1 this with h1 | h1
  · obtain ⟨j, hj, e⟩ := Ba.mem_getD h1
    rw [← e]; exact h j hj
  · rw [List.mem_singleton] at h1
    rw [h1]; exact k
attribute [local irreducible] Oct.numV Oct.numT Oct.numE Oct.bytV Oct.bytT Oct.bytE Oct.rows Ba.stepG Ba.decG Ba.okG Ba.chkL Ba.encB Ba.encodeB
set_option maxHeartbeats 4000000 in
theorem baDecode (s : List UInt8) (hl : s.length ≤ 90000) : CFn Try.prog 17 [TBytes s] (TTup [TSl 3 Ba.cRow (if Ba.okG Ba.qP s = true then (Ba.decG Ba.qP s).1 else []), okI .i64 (if Ba.okG Ba.qP s = true then 0 else 3)]) := by
  have c0 := rdNew
  have c1 := rdNum
  have c2 := rdBytes
  have c3 := rdGoodC
  have c4 := baEqual
  have h1 := Oct.numT_len s
  have st := Stop.mk' 5
  refine CallsC.of Try.call17 Try.func17 rfl Try.ntmps17 rfl fun w0 G0 S0 hs ho => ?_
  refine run ?_
  intro v4
  refine HT.loopX (σ := List Ba.Row × Oct.RS × Value) [0, 2, 3, 4, 6] (fun t => [(5, TAnd (Is t.2.2) (TSl 3 Ba.cRow t.1))]) (fun t => [QX (blk v4) t.2.1.1 t.2.1.2, ownSl t.2.2 3 29]) (fun t => (Oct.rows (Ba.stepG Ba.qP) Oct.badS Oct.lenS (Oct.numV s) t.1 t.2.1 = Ba.decG Ba.qP s ∧ Oct.Left s.length t.1.length t.2.1) ∧ ∀ i, i < t.1.length → Ba.Okr (t.1.getD i default)) (fun t => Oct.leftN t.2.1) ([], (Oct.numT s, Oct.numE s false), .slice none 0 0) ⟨⟨(decG_def _ s).symm, Oct.Left.start h1⟩, fun i h => by simp at h⟩ (run trivial) (run trivial) ?_
  rintro ⟨acc, ⟨r, e⟩, v⟩ ⟨⟨hr, hlen⟩, hok⟩
  dsimp only at hr hlen hok ⊢
  have hb := hlen.bd
  have hbr := hlen.bl
  dsimp only at hb hbr
  have hb1 := Oct.bytT_le r
  have hb2 := Oct.numT_len (Oct.bytT r)
  have hb3 := Oct.bytT_le (Oct.numT (Oct.bytT r))
  by_cases hc : (acc.length : Int) < Oct.numV s ∧ e = false
  · obtain ⟨hc1, hc2⟩ := hc
    subst hc2
    have hgo := Oct.rows_go (Ba.eatsG Ba.qP) hc1 (s := (r, false)) rfl
    rw [hgo] at hr
    have hlf := hlen.next (s' := (Ba.stepG Ba.qP (r, false)).2) rfl ((Ba.eatsG Ba.qP).eat (r, false) rfl) (Ba.stepG_len Ba.qP (r, false))
    refine run ?_
    intro _
    refine HT.regionT (σ := Nat) [(0,3,[]),(3,3,[])] (.br (1,0,[]) (.br (2,3,[]) (.br (4,0,[]) (.br (5,3,[]) (.br (6,3,[]) (.br (7,0,[]) (.br (8,0,[]) .leaf .leaf) .leaf) (.br (7,0,[]) (.br (6,3,[]) (.br (8,0,[]) .leaf .leaf) .leaf) .leaf)) (.br (7,0,[]) (.br (5,3,[]) (.br (6,3,[]) (.br (8,0,[]) .leaf .leaf) .leaf) .leaf) .leaf)) (.br (7,0,[]) (.br (4,0,[]) (.br (5,3,[]) (.br (6,3,[]) (.br (8,0,[]) .leaf .leaf) .leaf) .leaf) .leaf) .leaf)) (.br (4,0,[]) (.br (2,3,[]) (.br (5,3,[]) (.br (6,3,[]) (.br (7,0,[]) (.br (8,0,[]) .leaf .leaf) .leaf) (.br (7,0,[]) (.br (6,3,[]) (.br (8,0,[]) .leaf .leaf) .leaf) .leaf)) (.br (7,0,[]) (.br (5,3,[]) (.br (6,3,[]) (.br (8,0,[]) .leaf .leaf) .leaf) .leaf) .leaf)) (.br (5,3,[]) (.br (2,3,[]) (.br (6,3,[]) (.br (7,0,[]) (.br (8,0,[]) .leaf .leaf) .leaf) (.br (7,0,[]) (.br (6,3,[]) (.br (8,0,[]) .leaf .leaf) .leaf) .leaf)) (.br (7,0,[]) (.br (2,3,[]) (.br (6,3,[]) (.br (8,0,[]) .leaf .leaf) .leaf) .leaf) .leaf)) (.br (7,0,[]) (.br (2,3,[]) (.br (5,3,[]) (.br (6,3,[]) (.br (8,0,[]) .leaf .leaf) .leaf) .leaf) (.br (5,3,[]) (.br (2,3,[]) (.br (6,3,[]) (.br (8,0,[]) .leaf .leaf) .leaf) .leaf) .leaf)) .leaf))) (.br (7,0,[]) (.br (2,3,[]) (.br (4,0,[]) (.br (5,3,[]) (.br (6,3,[]) (.br (8,0,[]) .leaf .leaf) .leaf) .leaf) .leaf) (.br (4,0,[]) (.br (2,3,[]) (.br (5,3,[]) (.br (6,3,[]) (.br (8,0,[]) .leaf .leaf) .leaf) .leaf) (.br (5,3,[]) (.br (2,3,[]) (.br (6,3,[]) (.br (8,0,[]) .leaf .leaf) .leaf) .leaf) .leaf)) .leaf)) .leaf))) (.br (7,0,[]) (.br (1,0,[]) (.br (2,3,[]) (.br (4,0,[]) (.br (5,3,[]) (.br (6,3,[]) (.br (8,0,[]) .leaf .leaf) .leaf) .leaf) .leaf) (.br (4,0,[]) (.br (2,3,[]) (.br (5,3,[]) (.br (6,3,[]) (.br (8,0,[]) .leaf .leaf) .leaf) .leaf) (.br (5,3,[]) (.br (2,3,[]) (.br (6,3,[]) (.br (8,0,[]) .leaf .leaf) .leaf) .leaf) .leaf)) .leaf)) .leaf) .leaf)) [0, 2, 3, 4, 5, 6] (fun t => [(7, Is (pAt t 0))]) (fun t => [QX (blk v4) (Oct.numT (Oct.bytT r)) (Oct.numE (Oct.bytT r) (Oct.bytE r false)), ownSl v 3 29, ownP t 29 [Is (str (Oct.bytV r)), Is (str []), Is (.bool (decide (Oct.numV (Oct.bytT r) ≠ 0)))]]) rfl rfl rfl (by decide +kernel) (run ?_) ?_
    · and_intros <;> intro v1 <;> exact Met.at (blk v1) rfl (run trivial) (run trivial)
    intro g
    clear st
    have hv1 := Oct.bytV_le r
    have hv2 := Oct.bytV_le (Oct.numT (Oct.bytT r))
    refine run ?_
    refine ⟨fun u' h => ?_, fun u' h => ?_⟩
    · have h0 : Oct.numV (Oct.bytT r) = 0 := Decidable.not_not.1 h
      have ed : decide (Oct.numV (Oct.bytT r) ≠ 0) = false := decide_eq_false h
      rw [step_0 h0] at hr hlf
      refine HX.roundX (acc ++ [⟨Oct.bytV r, Oct.bytV (Oct.numT (Oct.bytT r)), decide (Oct.numV (Oct.bytT r) ≠ 0)⟩], (Oct.bytT (Oct.numT (Oct.bytT r)), Oct.bytE (Oct.numT (Oct.bytT r)) (Oct.numE (Oct.bytT r) (Oct.bytE r false))), u') ⟨⟨⟨by dsimp only; rw [ed]; exact hr, by dsimp only; rw [List.length_append]; exact hlf.1⟩, okr_snoc hok ⟨by dsimp only; omega, by dsimp only; omega⟩⟩, hlf.2⟩ rfl (run trivial) (run trivial)
    · have ed : decide (Oct.numV (Oct.bytT r) ≠ 0) = Ba.qP (Oct.numV (Oct.bytT r)) := decide_eq_true h
      rw [step_1 h] at hr hlf
      refine HX.roundX (acc ++ [⟨Oct.bytV r, [], decide (Oct.numV (Oct.bytT r) ≠ 0)⟩], (Oct.numT (Oct.bytT r), Oct.numE (Oct.bytT r) (Oct.bytE r false)), u') ⟨⟨⟨by dsimp only; rw [ed]; exact hr, by dsimp only; rw [List.length_append]; exact hlf.1⟩, okr_snoc hok ⟨by dsimp only; omega, by simp⟩⟩, hlf.2⟩ rfl (run trivial) (run trivial)
  have hd1 : Ba.decG Ba.qP s = (acc, (r, e)) := by rw [← hr, Oct.rows_end hc]
  have c5 := baEncode acc (by omega) hok
  have hk1 := Ba.okG_no (q := Ba.qP) (s := s)
  have hk2 := Ba.okG_yes (q := Ba.qP) (s := s)
  rw [hd1] at hk1 hk2 ⊢
  dsimp only at hk1 hk2 ⊢
  clear c0 c1 c2 st
  by_cases hN : Ba.chkL acc = 0
  · obtain ⟨e1, e2⟩ := Ba.encode_0 hN
    rw [e1, e2] at c5
    by_cases hE : Ba.encB acc = s
    · rw [hE] at c5
      rw [hk2 ⟨hN, hE⟩, if_pos rfl, if_pos rfl]
      refine run ?_
      exact fun h => (hc h).elim
    · rw [hk1 (.inr hE), if_neg (by simp), if_neg (by simp)]
      refine run ?_
      exact ⟨fun h => (hc h).elim, fun _ h => (hE h.2).elim, fun _ h => (hE h.2).elim⟩
  · obtain ⟨e1, e2⟩ := Ba.encode_1 hN
    rw [e1, e2] at c5
    rw [hk1 (.inl hN), if_neg (by simp), if_neg (by simp)]
    refine run ?_
    exact fun h => (hc h).elim
end Go.Proofs.Ytniogecifadccaa
set_option maxRecDepth 8000
set_option linter.unusedVariables false
namespace Go.Proofs.Ytniogecifadccaa
open Go.Vk
attribute [local irreducible] HT HX RegS RegA RegM OpP OpC AltT
attribute [local irreducible] Oct.numV Oct.numT Oct.numE Oct.rawV Oct.rawT Oct.rawE
theorem rfBytesR (g : Nat) (l : List UInt8) (b : Bool) (hb : b = true → l = []) (hl : l.length ≤ 134217728) : CallsC Try.prog 38 [Is (pAt g 0)] [EX g l b] (fun _ => TBytes (Oct.bytV l)) (fun _ => [EX g (Oct.bytT l) (Oct.bytE l b)]) := by
  have c1 := rfNumR g l b hb hl
  have ht := Oct.numT_len l
  have hn := Oct.numE_nil hb
  have c2 := fun n => rfRaw g (Oct.numT l) (Oct.numE l b) n hn (by omega)
  unfold Oct.bytV Oct.bytT Oct.bytE
  refine CallsC.of Try.call38 Try.func38 rfl Try.ntmps38 rfl fun w0 G0 S0 hs ho => ?_
  cases he : Oct.numE l b with
  | true =>
    have h0 := hn he
    have h1 : Oct.numV l = 0 := Oct.numV_of he hb
    have h2 := Oct.raw_nil
    rw [he] at c1 c2
    rw [h0, h1]
    rw [h0] at c1
    rw [h1] at c1
    refine run ?_
    exact ⟨fun _ => h2.2.1.symm, fun _ => (h2.2.2 true).symm, fun _ => h2.1.symm⟩
  | false =>
    rw [he] at c1 c2
    exact run trivial
end Go.Proofs.Ytniogecifadccaa
set_option maxRecDepth 8000
set_option linter.unusedVariables false
namespace Go.Proofs.Ytniogecifadccaa
open Go.Vk
attribute [local irreducible] HT HX RegS RegA RegM OpP OpC AltT
attribute [local irreducible] Oct.numV Oct.numT Oct.numE Oct.bytV Oct.bytT Oct.bytE Oct.rows Ba.stepG Ba.decG Ba.okG Ba.chkL Ba.encB Ba.encodeB
set_option maxHeartbeats 4000000 in
theorem rf10Decode (s : List UInt8) (hl : s.length ≤ 90000) : CFn Try.prog 18 [TBytes s] (TTup [TSl 3 Ba.cRow (if Ba.okG Ba.qD s = true then (Ba.decG Ba.qD s).1 else []), okI .i64 (if Ba.okG Ba.qD s = true then 0 else 3)]) := by
  have c1 := rfNumR
  have c2 := rfBytesR
  have h1 := Oct.numT_len s
  have mu := Mut.mk' [14]
  have hb0 : Oct.numE s false = true → Oct.numT s = [] := Oct.numE_nil (by simp)
  refine CallsC.of Try.call18 Try.func18 rfl Try.ntmps18 rfl fun w0 G0 S0 hs ho => ?_
  refine run ?_
  refine ⟨fun v4 => ?_, by simp⟩
  refine HT.loopX (σ := List Ba.Row × Oct.RS × Value) [0, 2, 3, 4, 5] (fun t => [(6, TAnd (Is t.2.2) (TSl 3 Ba.cRow t.1)), (7, okI .i64 (t.1.length : Int))]) (fun t => [EX (blk v4) t.2.1.1 t.2.1.2, ownSl t.2.2 3 29]) (fun t => (Oct.rows (Ba.stepG Ba.qD) Oct.badS Oct.lenS (Oct.numV s) t.1 t.2.1 = Ba.decG Ba.qD s ∧ Oct.Left s.length t.1.length t.2.1 ∧ (t.2.1.2 = true → t.2.1.1 = [])) ∧ ∀ i, i < t.1.length → Ba.Okr (t.1.getD i default)) (fun t => Oct.leftN t.2.1) ([], (Oct.numT s, Oct.numE s false), .slice none 0 0) ⟨⟨(decG_def _ s).symm, Oct.Left.start h1, hb0⟩, fun i h => by simp at h⟩ (run trivial) (run trivial) ?_
  rintro ⟨acc, ⟨r, e⟩, v⟩ ⟨⟨hr, hlen, he⟩, hok⟩
  dsimp only at hr hlen he hok ⊢
  have hb := hlen.bd
  have hbr := hlen.bl
  dsimp only at hb hbr
  have hb1 := Oct.bytT_le r
  have hb2 := Oct.numT_len (Oct.bytT r)
  have hb3 := Oct.bytT_le (Oct.numT (Oct.bytT r))
  have he1 : Oct.bytE r e = true → Oct.bytT r = [] := Oct.bytE_nil he
  have he2 : Oct.numE (Oct.bytT r) (Oct.bytE r e) = true → Oct.numT (Oct.bytT r) = [] := Oct.numE_nil he1
  have he3 : Oct.bytE (Oct.numT (Oct.bytT r)) (Oct.numE (Oct.bytT r) (Oct.bytE r e)) = true → Oct.bytT (Oct.numT (Oct.bytT r)) = [] := Oct.bytE_nil he2
  by_cases hc : (acc.length : Int) < Oct.numV s ∧ e = false
  · obtain ⟨hc1, hc2⟩ := hc
    subst hc2
    have hgo := Oct.rows_go (Ba.eatsG Ba.qD) hc1 (s := (r, false)) rfl
    rw [hgo] at hr
    have hlf := hlen.next (s' := (Ba.stepG Ba.qD (r, false)).2) rfl ((Ba.eatsG Ba.qD).eat (r, false) rfl) (Ba.stepG_len Ba.qD (r, false))
    have hv1 := Oct.bytV_le r
    have hv2 := Oct.bytV_le (Oct.numT (Oct.bytT r))
    refine run ?_
    refine ⟨fun _ u' _ h => ?_, fun _ u' _ h => ?_⟩
    · have ed : decide (Oct.numV (Oct.bytT r) = 1) = false := decide_eq_false (by omega)
      rw [step_0 h] at hr hlf
      refine HX.roundX (acc ++ [⟨Oct.bytV r, Oct.bytV (Oct.numT (Oct.bytT r)), decide (Oct.numV (Oct.bytT r) = 1)⟩], (Oct.bytT (Oct.numT (Oct.bytT r)), Oct.bytE (Oct.numT (Oct.bytT r)) (Oct.numE (Oct.bytT r) (Oct.bytE r false))), u') ⟨⟨⟨by dsimp only; rw [ed]; exact hr, by dsimp only; rw [List.length_append]; exact hlf.1, he3⟩, okr_snoc hok ⟨by dsimp only; omega, by dsimp only; omega⟩⟩, hlf.2⟩ rfl (run trivial) (run trivial)
    · rw [step_1 h] at hr hlf
      refine HX.roundX (acc ++ [⟨Oct.bytV r, [], decide (Oct.numV (Oct.bytT r) = 1)⟩], (Oct.numT (Oct.bytT r), Oct.numE (Oct.bytT r) (Oct.bytE r false)), u') ⟨⟨⟨hr, by dsimp only; rw [List.length_append]; exact hlf.1, he2⟩, okr_snoc hok ⟨by dsimp only; omega, by simp⟩⟩, hlf.2⟩ rfl (run trivial) (run trivial)
  have hd1 : Ba.decG Ba.qD s = (acc, (r, e)) := by rw [← hr, Oct.rows_end hc]
  have c5 := rf10Encode acc (by omega) hok
  have hk1 := Ba.okG_no (q := Ba.qD) (s := s)
  have hk2 := Ba.okG_yes (q := Ba.qD) (s := s)
  have hk3 : Ba.okG Ba.qD s = true → e = false := fun h => by
    have := Ba.okG_dec (q' := Ba.qD) rfl h
    rw [hd1] at this
    exact congrArg (fun x => x.2.2) this
  rw [hd1] at hk1 hk2 ⊢
  dsimp only at hk1 hk2 ⊢
  clear c1 c2
  by_cases hN : Ba.chkL acc = 0
  · obtain ⟨e1, e2⟩ := Ba.encode_0 hN
    rw [e1, e2] at c5
    by_cases hE : Ba.encB acc = s
    · rw [hE] at c5
      have hk := hk2 ⟨hN, hE⟩
      have hf0 := hk3 hk
      subst hf0
      rw [hk, if_pos rfl, if_pos rfl]
      refine run ?_
      and_intros
      all_goals intros
      all_goals first | (exfalso; exact hc ‹_›) | rfl | (exfalso; grind)
    · rw [hk1 (.inr hE), if_neg (by simp), if_neg (by simp)]
      refine run ?_
      and_intros
      all_goals intros
      all_goals first | (exfalso; exact hc ‹_›) | rfl | (exfalso; grind)
  · obtain ⟨e1, e2⟩ := Ba.encode_1 hN
    rw [e1, e2] at c5
    rw [hk1 (.inl hN), if_neg (by simp), if_neg (by simp)]
    refine run ?_
    and_intros
    all_goals intros
    all_goals first | (exfalso; exact hc ‹_›) | rfl | (exfalso; grind)
end Go.Proofs.Ytniogecifadccaa
set_option linter.unusedVariables false
namespace Go.Ba
theorem rows_ext {a b : List Row} (h : a.length = b.length) (k : ∀ j, j < a.length → a.getD j default = b.getD j default) : a = b := by
  apply List.ext_getElem h
  intro j h1 h2
  have := k j h1
  rwa [List.getD_eq_getElem?_getD, List.getElem?_eq_getElem h1, Option.getD_some, List.getD_eq_getElem?_getD, List.getElem?_eq_getElem h2, Option.getD_some] at this
theorem row_allB (a b : Row) : Vk.allB [decide (a.key = b.key), decide (a.val = b.val), a.del == b.del] = decide (a = b) := by
  rw [Bool.eq_iff_iff, decide_eq_true_eq]
  simp only [Vk.allB, Bool.and_eq_true, decide_eq_true_eq, beq_iff_eq]
  constructor
  · intro h
    cases a; cases b
    simp only at h
    simp [h]
  · rintro rfl; simp
end Go.Ba
set_option maxRecDepth 8000
set_option linter.unusedVariables false
namespace Go.Proofs.Ytniogecifadccaa
open Go.Vk
attribute [local irreducible] HT HX RegS RegA RegM OpP OpC AltT
theorem baRows (a b : List Ba.Row) (ha : a.length ≤ 100000) : CFn Try.prog 19 [TSl 3 Ba.cRow a, TSl 3 Ba.cRow b] (Is (.bool (decide (a = b)))) := by
  refine CallsC.of Try.call19 Try.func19 rfl Try.ntmps19 rfl fun w0 G0 S0 hs ho => ?_
  refine run ?_
  refine ⟨fun h => (decide_eq_false (fun e => h (by rw [e]))).symm, fun h => ?_⟩
  have hab : a.length = b.length := by omega
  refine HT.loopX (σ := Nat) [0, 1] (fun i => [(5, okI .i64 (i : Int))]) (fun _ => []) (fun i => i ≤ a.length ∧ ∀ j, j < i → a.getD j default = b.getD j default) (fun i => a.length - i) 0 ⟨Nat.zero_le _, by omega⟩ (run trivial) (run trivial) ?_
  rintro i ⟨hi, he⟩
  by_cases hlt : i < a.length
  · refine run ?_
    rw [Ba.row_allB]
    refine ⟨fun _ h1 => ?_, fun _ h1 => ?_⟩
    · have h2 := of_decide_eq_false h1
      exact (decide_eq_false (fun e => h2 (by rw [e]))).symm
    · refine HX.roundX (i + 1) ⟨⟨by omega, fun j hj => ?_⟩, by omega⟩ rfl (run trivial) (run trivial)
      rcases (by omega : j < i ∨ j = i) with hj | rfl
      · exact he j hj
      · exact of_decide_eq_true h1
  · have : a = b := Ba.rows_ext hab fun j hj => he j (by omega)
    rw [decide_eq_true this]
    exact run trivial
attribute [local irreducible] baHeavyB Ba.chkL Ba.encB Ba.encodeB Ba.decG Ba.okG
set_option maxHeartbeats 4000000 in
theorem lwDecodes10 (b : List UInt8) (hb : b.length ≤ 140737488351232) : CFn Try.prog 7 [TBytes b] (Is (.bool true)) := by
  have c8 := baKnown
  by_cases hm : (3000 : Int) < (b.length : Int)
  · refine CallsC.of Try.call7 Try.func7 rfl Try.ntmps7 rfl fun w0 G0 S0 hs ho => ?_
    exact run trivial
  have c1 := baDecode b (by omega)
  have c2 := rf10Decode b (by omega)
  have h1 := Ba.okG_one (q := Ba.qP) (q' := Ba.qD) rfl rfl b
  have hx : (if Ba.okG Ba.qD b = true then (Ba.decG Ba.qD b).1 else []) = (if Ba.okG Ba.qP b = true then (Ba.decG Ba.qP b).1 else []) := by
    rw [← h1]
    cases h : Ba.okG Ba.qP b with
    | false => rfl
    | true => rw [if_pos rfl, if_pos rfl, Ba.okG_dec (q' := Ba.qD) rfl h]
  rw [hx, ← h1] at c2
  have hlen : (if Ba.okG Ba.qP b = true then (Ba.decG Ba.qP b).1 else []).length ≤ 100000 := by
    cases h : Ba.okG Ba.qP b with
    | false => simp
    | true =>
      rw [if_pos rfl]
      have h2 : Ba.chkL (Ba.decG Ba.qP b).1 = 0 := by
        unfold Ba.okG at h
        rw [Bool.and_eq_true, decide_eq_true_eq] at h
        exact h.1
      have := (Ba.chk_of h2).2.2.1
      omega
  clear hx h1
  have c3 := baRows (if Ba.okG Ba.qP b = true then (Ba.decG Ba.qP b).1 else []) (if Ba.okG Ba.qP b = true then (Ba.decG Ba.qP b).1 else []) hlen
  rw [decide_eq_true rfl] at c3
  have d1 : CFn Try.prog 17 [TBytes ([] ++ b)] (TTup [TSl 3 Ba.cRow (if Ba.okG Ba.qP b = true then (Ba.decG Ba.qP b).1 else []), okI .i64 (if Ba.okG Ba.qP b = true then 0 else 3)]) := c1
  generalize (if Ba.okG Ba.qP b = true then (Ba.decG Ba.qP b).1 else []) = x at *
  generalize (if Ba.okG Ba.qP b = true then (0 : Int) else 3) = y at *
  clear c1
  refine CallsC.of Try.call7 Try.func7 rfl Try.ntmps7 rfl fun w0 G0 S0 hs ho => ?_
  exact run trivial
set_option maxHeartbeats 4000000 in
theorem lwBack10 (l : List Ba.Row) (hl : l.length ≤ 140737488351232 ∧ ∀ r ∈ l, Ba.Okr r) : CFn Try.prog 8 [TSl 3 Ba.cRow l] (Is (.bool true)) := by
  have hok : ∀ i, i < l.length → Ba.Okr (l.getD i default) := fun i hi => hl.2 _ (Ba.getD_mem hi)
  have c0 := baHeavy l hok
  have c8 := baKnown
  have hll0 := hl.1
  cases hb : baHeavyB l with
  | true =>
    rw [hb] at c0
    refine CallsC.of Try.call8 Try.func8 rfl Try.ntmps8 rfl fun w0 G0 S0 hs ho => ?_
    refine run ?_
    refine ⟨okI .i64 0, fun h => absurd h (by simp), ?_⟩
    exact run trivial
  | false =>
  rw [hb] at c0
  have hll := baHeavy_len hb
  have c5 := rf10Check l (by omega) hok
  by_cases hc : Ba.chkL l = 0
  · rw [hc] at c5
    have c1 := baEncode l (by omega) hok
    rw [(Ba.encode_0 hc).1, (Ba.encode_0 hc).2] at c1
    have hel := Ba.encB_len hc
    have c2 := baDecode (Ba.encB l) (by omega)
    rw [Ba.okG_enc (q := Ba.qP) rfl hc, if_pos rfl, if_pos rfl, Ba.dec_back (q := Ba.qP) rfl hc] at c2
    have c3 := baRows l l (by omega)
    rw [decide_eq_true rfl] at c3
    clear hok hl
    refine CallsC.of Try.call8 Try.func8 rfl Try.ntmps8 rfl fun w0 G0 S0 hs ho => ?_
    exact run trivial
  · clear hok hl
    refine CallsC.of Try.call8 Try.func8 rfl Try.ntmps8 rfl fun w0 G0 S0 hs ho => ?_
    exact run trivial
theorem opnBytes10 : Opn Try.prog 32 (cL 1 cB) (fun l => l.length ≤ 140737488351232) := by
  have h := Opn.slice (Opn.byte Try.underlying5 (by kernel_rfl)) Try.underlying32 (by kernel_rfl) (by kernel_rfl)
  rw [show Try.prog.cellsOf 5 = 1 by kernel_rfl] at h
  have hb : Try.prog.bytesOf 5 = 1 := by kernel_rfl
  exact h.map id (fun l => by rw [show Try.prog.cellsOf 32 = 1 by kernel_rfl]; rfl) (fun _ => rfl) (fun l hl => by have := reach_le hl.1; rw [hb] at this; show l.length ≤ _; omega)
end Go.Proofs.Ytniogecifadccaa
