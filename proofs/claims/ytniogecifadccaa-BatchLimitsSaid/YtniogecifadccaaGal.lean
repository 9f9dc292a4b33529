/-
  Which rows may be written: the program's Check and the document's.
  The law BatchLimits.
-/
import Derived.Test.YtniogecifadccaaGak
import Derived.Laws.MakeOwn
set_option linter.unusedSimpArgs false
set_option linter.unusedVariables false
set_option linter.unusedVariables false
namespace Go.Ba
open Go.Vk
def isC (c : Cell) : Bool := decide (1 ≤ (c.key.length : Int)) && decide ((c.key.length : Int) ≤ 4096) && decide ((c.val.length : Int) ≤ 16384) && (!c.del || decide (c.val = [])) && decide (1 ≤ c.seq) && decide (c.seq ≤ 1099511627776)
def okR (r : Row) : Bool := isC (cellF 1 r)
def rowW (r : Row) : Int := (r.key.length : Int) + (r.val.length : Int)
def sumW (l : List Row) (i : Nat) : Int := ((l.take i).map rowW).sum
def capW (n : Int) : Int := if 32769 < n then 32769 else n
def chkL (l : List Row) : Int := if l.length = 0 then 1 else if (l.any fun r => !okR r) = true then 1 else if 512 < (l.length : Int) ∨ 32768 < sumW l l.length then 5 else 0
theorem okR_of {r : Row} (h : okR r = true) : (1 ≤ r.key.length ∧ r.key.length ≤ 4096) ∧ r.val.length ≤ 16384 ∧ (r.del = true → r.val = []) := by
  unfold okR isC cellF at h
  simp only [Bool.and_eq_true, decide_eq_true_eq, Bool.or_eq_true, Bool.not_eq_true'] at h
  obtain ⟨⟨⟨⟨⟨h1, h2⟩, h3⟩, h4⟩, _⟩, _⟩ := h
  refine ⟨⟨by omega, by omega⟩, by omega, fun k => ?_⟩
  rcases h4 with h4 | h4
  · rw [k] at h4; cases h4
  · exact h4
theorem sumW_succ {l : List Row} {i : Nat} (h : i < l.length) : sumW l (i + 1) = sumW l i + ((l.getD i default).key.length : Int) + ((l.getD i default).val.length : Int) := by
  unfold sumW
  rw [List.take_succ_eq_append_getElem h, List.map_append, List.sum_append, List.getD_eq_getElem?_getD, List.getElem?_eq_getElem h, Option.getD_some]
  simp [rowW]; omega
theorem sumW_0 (l : List Row) : sumW l 0 = 0 := by unfold sumW; simp
theorem capW_step {a b : Int} (ha : 0 ≤ a) (hb : 0 ≤ b) : (if 32769 < capW a + b then 32769 else capW a + b) = capW (a + b) := by
  unfold capW
  repeat' split
  all_goals omega
theorem capW_le (a : Int) : capW a ≤ 32769 := by unfold capW; split <;> omega
theorem capW_ge {a : Int} (h : 0 ≤ a) : 0 ≤ capW a := by unfold capW; split <;> omega
theorem capW_big {a : Int} : 32768 < capW a ↔ 32768 < a := by unfold capW; split <;> omega
theorem chkL_0 {l : List Row} (h : l.length = 0) : chkL l = 1 := if_pos h
theorem chkL_1 {l : List Row} {i : Nat} (hi : i < l.length) (h : okR (l.getD i default) = false) : chkL l = 1 := by
  unfold chkL
  rw [if_neg (by omega), if_pos]
  rw [List.any_eq_true]
  exact ⟨_, getD_mem hi, by rw [h]; rfl⟩
theorem chkL_2 {l : List Row} (h0 : l.length ≠ 0) (h : ∀ i, i < l.length → okR (l.getD i default) = true) : chkL l = if 512 < (l.length : Int) ∨ 32768 < sumW l l.length then 5 else 0 := by
  unfold chkL
  rw [if_neg h0, if_neg]
  rw [List.any_eq_true]
  rintro ⟨x, hx, e⟩
  obtain ⟨i, hi, e2⟩ := mem_getD hx
  have := h i hi
  rw [e2] at this
  rw [this] at e; cases e
end Go.Ba
set_option maxRecDepth 8000
set_option linter.unusedVariables false
namespace Go.Proofs.Ytniogecifadccaa
open Go.Vk
attribute [local irreducible] HT HX RegS RegA RegM OpP OpC AltT
theorem baIs (c : Ba.Cell) : CFn Try.prog 24 [TAgg (Ba.cCell c)] (Is (.bool (Ba.isC c))) := by
  unfold Ba.isC
  refine CallsC.of Try.call24 Try.func24 rfl Try.ntmps24 rfl fun w0 G0 S0 hs ho => ?_
  exact run trivial
theorem rf7Is (c : Ba.Cell) : CFn Try.prog 30 [TAgg (Ba.cCell c)] (Is (.bool (Ba.isC c))) := by
  unfold Ba.isC
  refine CallsC.of Try.call30 Try.func30 rfl Try.ntmps30 rfl fun w0 G0 S0 hs ho => ?_
  exact run trivial
theorem rf10Cell (r : Ba.Row) (n : Int) : CFn Try.prog 31 [TAgg (Ba.cRow r), okI .i64 n] (TAgg (Ba.cCell (Ba.cellF n r))) := by
  refine CallsC.of Try.call31 Try.func31 rfl Try.ntmps31 rfl fun w0 G0 S0 hs ho => ?_
  refine run ?_
  and_intros <;> intros <;> rfl
theorem okR_def (r : Ba.Row) : Ba.isC (Ba.cellF 1 r) = Ba.okR r := rfl
attribute [local irreducible] Ba.isC Ba.okR Ba.sumW Ba.capW Ba.chkL Ba.cellF
set_option maxHeartbeats 4000000 in
theorem baCheck (l : List Ba.Row) (hl : l.length ≤ 100000) (hk : ∀ i, i < l.length → Ba.Okr (l.getD i default)) : CFn Try.prog 12 [TSl 3 Ba.cRow l] (okI .i64 (Ba.chkL l)) := by
  have c1 := baCell
  have c2 := baIs
  by_cases h0 : l.length = 0
  · rw [Ba.chkL_0 h0]
    refine CallsC.of Try.call12 Try.func12 rfl Try.ntmps12 rfl fun w0 G0 S0 hs ho => ?_
    exact run trivial
  refine CallsC.of Try.call12 Try.func12 rfl Try.ntmps12 rfl fun w0 G0 S0 hs ho => ?_
  refine run ?_
  intro _
  refine HT.loopX (σ := Nat) [0, 9, 10] (fun i => [(3, okI .i64 (Ba.capW (Ba.sumW l i))), (11, okI .i64 (i : Int))]) (fun i => []) (fun i => (i ≤ l.length ∧ 0 ≤ Ba.sumW l i) ∧ ∀ j, j < i → Ba.okR (l.getD j default) = true) (fun i => l.length - i) 0 ⟨⟨Nat.zero_le _, by rw [Ba.sumW_0]; omega⟩, by omega⟩ (run trivial) (run ?_) ?_
  · rw [Ba.sumW_0]; unfold Ba.capW; rfl
  rintro i ⟨⟨hi, hs⟩, hno⟩
  by_cases hlt : i < l.length
  · have hki := hk i hlt
    have hs1 := Ba.sumW_succ hlt
    have hc1 := Ba.capW_le (Ba.sumW l i)
    have hc2 := Ba.capW_ge hs
    have hkl := hki.1
    have hvl := hki.2
    have hst := Ba.capW_step (a := Ba.sumW l i) (b := ((l.getD i default).key.length : Int) + ((l.getD i default).val.length : Int)) hs (by omega)
    rw [← Int.add_assoc, ← Int.add_assoc, ← hs1] at hst
    refine run ?_
    rw [okR_def, hst]
    refine ⟨fun _ _ h => (Ba.chkL_1 hlt h).symm, fun _ _ h => ?_⟩
    refine HX.roundX (i + 1) ⟨⟨⟨by omega, by omega⟩, fun j hj => ?_⟩, by omega⟩ rfl (run trivial) (run trivial)
    rcases (by omega : j < i ∨ j = i) with hj | rfl
    · exact hno j hj
    · exact h
  · have he := Ba.chkL_2 h0 (fun j hj => hno j (by omega))
    have hcb := Ba.capW_big (a := Ba.sumW l l.length)
    have ei : i = l.length := by omega
    subst ei
    rw [he]
    exact run trivial
set_option maxHeartbeats 4000000 in
theorem rf10Check (l : List Ba.Row) (hl : l.length ≤ 100000) (hk : ∀ i, i < l.length → Ba.Okr (l.getD i default)) : CFn Try.prog 15 [TSl 3 Ba.cRow l] (okI .i64 (Ba.chkL l)) := by
  have c1 := rf10Cell
  have c2 := rf7Is
  by_cases h0 : l.length = 0
  · rw [Ba.chkL_0 h0]
    refine CallsC.of Try.call15 Try.func15 rfl Try.ntmps15 rfl fun w0 G0 S0 hs ho => ?_
    exact run trivial
  refine CallsC.of Try.call15 Try.func15 rfl Try.ntmps15 rfl fun w0 G0 S0 hs ho => ?_
  refine run ?_
  intro _
  refine HT.loopX (σ := Nat) [0] (fun i => [(3, okI .i64 (i : Int))]) (fun i => []) (fun i => i ≤ l.length ∧ ∀ j, j < i → Ba.okR (l.getD j default) = true) (fun i => l.length - i) 0 ⟨Nat.zero_le _, by omega⟩ (run trivial) (run trivial) ?_
  rintro i ⟨hi, hno⟩
  by_cases hlt : i < l.length
  · refine run ?_
    rw [okR_def]
    refine ⟨fun _ h => (Ba.chkL_1 hlt h).symm, fun _ h => ?_⟩
    refine HX.roundX (i + 1) ⟨⟨by omega, fun j hj => ?_⟩, by omega⟩ rfl (run trivial) (run trivial)
    rcases (by omega : j < i ∨ j = i) with hj | rfl
    · exact hno j hj
    · exact h
  · have ei : i = l.length := by omega
    subst ei
    have he := Ba.chkL_2 h0 hno
    rw [he]
    by_cases hm : (512 : Int) < (l.length : Int)
    · rw [if_pos (.inl hm)]
      exact run trivial
    refine run ?_
    intro _ _
    refine HT.loopX (σ := Nat) [0] (fun i => [(4, okI .i64 (Ba.sumW l i)), (5, okI .i64 (i : Int))]) (fun i => []) (fun i => i ≤ l.length ∧ 0 ≤ Ba.sumW l i ∧ Ba.sumW l i ≤ (i : Int) * 20480) (fun i => l.length - i) 0 ⟨Nat.zero_le _, by rw [Ba.sumW_0]; omega, by rw [Ba.sumW_0]; omega⟩ (run trivial) (run ?_) ?_
    · rw [Ba.sumW_0]
    rintro i ⟨hi2, hs, hs2⟩
    by_cases hlt2 : i < l.length
    · have hs1 := Ba.sumW_succ hlt2
      have hok := Ba.okR_of (hno i hlt2)
      refine run ?_
      rw [← hs1]
      intro _
      exact HX.roundX (i + 1) ⟨⟨by omega, by omega, by omega⟩, by omega⟩ rfl (run trivial) (run trivial)
    · have ei : i = l.length := by omega
      subst ei
      exact run trivial
end Go.Proofs.Ytniogecifadccaa
set_option linter.unusedVariables false
namespace Go.Vk
theorem run_makeRow {P : Program} {w : World} {t e : TypeId} {n : Int} (hu : P.underlying t = some (.slice e)) (hi : ByteEl P e) (hn : 0 ≤ n ∧ n ≤ 16777216) :
    (Instr.makeSlice t (.int .i64 n) (.int .i64 n)).run P w = .ok (.slice (some ⟨w.heap.size, 0, none⟩) n.toNat n.toNat) (w.alloc (.cells (madeCells (Value.int .u8 0).cells n.toNat) e)) := by
  obtain ⟨inf, h1, h2, h3, h4⟩ := info_parts hi
  have := run_make (P := P) w t e inf (.int .u8 0) hu h1 h2 .i64 .i64 n n hn.1 (Int.le_refl _) (by rw [h4]; omega) (by omega)
  rwa [h3, Nat.mul_one] at this
/-- So many noughts. -/
theorem op_makeB {P : Program} {L : List Res} {E : Env} {dst : Option Tmp} {ty : TypeId} {pos : String} {after : Array Edge} {gd : Option (Nat × Bool)} {t e : TypeId} {x y : Operand} {n : Int} (hx : Opd E x = some (okI .i64 n)) (hy : Opd E y = some (okI .i64 n)) (hu : P.underlying t = some (.slice e)) (hi : ByteEl P e) (hn : 0 ≤ n ∧ n ≤ 16777216) :
    OpP P L E ⟨dst, .makeSlice t x y, ty, pos, after, gd⟩ (TBytes (List.replicate n.toNat 0)) :=
  OpP.laid fun a w G S hs ho htt => by
    have h1 : a.eval x = .int .i64 n := htt x (by simp [Op.operands]) _ hx
    have h2 : a.eval y = .int .i64 n := htt y (by simp [Op.operands]) _ hy
    have hz : (Value.int IntKind.u8 0).cells = #[.int .u8 0] := by simp [Value.cells]
    have hcl : (madeCells (Value.int .u8 0).cells n.toNat).toList = List.replicate n.toNat (.int .u8 0) := by
      refine List.ext_getElem (by simp [madeCells]) fun i h3 h4 => ?_
      simp [madeCells, hz, Nat.mod_one]
    have hfr := fresh_sl (α := UInt8) (sz := 1) (f := cB) (l := List.replicate n.toNat 0) (G := G) (w := w) (w1 := w.alloc (.cells (madeCells (Value.int .u8 0).cells n.toNat) e)) (e := e) (cells := madeCells (Value.int .u8 0).cells n.toNat) (fr := (0, 0)) (vs := List.replicate n.toNat (.int .u8 0)) (cap := n.toNat) hs rfl rfl rfl rfl (by rw [hcl, List.length_replicate, List.take_of_length_le (by simp)]) (by simp) (by simp only [maxLen]; omega) (by simp) (fun _ _ => rfl) (fun i y hy j T hT => by
      have hi2 := (List.getElem?_eq_some_iff.1 hy).1
      rw [List.length_replicate] at hi2
      have hy2 : y = 0 := by
        rw [List.getElem?_replicate_of_lt hi2] at hy
        cases hy; rfl
      subst hy2
      have hj : j = 0 := by
        have := (List.getElem?_eq_some_iff.1 hT).1
        simp [cB] at this; exact this
      subst hj
      cases hT
      exact ⟨.int .u8 0, by rw [Nat.mul_one, Nat.add_zero, List.getElem?_replicate_of_lt hi2], rfl, rfl⟩)
    refine ⟨.slice (some ⟨w.heap.size, 0, none⟩) n.toNat n.toNat, w.alloc (.cells (madeCells (Value.int .u8 0).cells n.toNat) e), Imm.add G w.heap.size (List.replicate n.toNat (.int .u8 0)), ?_, hfr.1, ?_⟩
    · simp only [execOp, h1, h2]
      rw [Sem.run_bind, run_makeRow hu hi hn]
      rfl
    · have := hfr.2.1 false (fun h => by cases h)
      rwa [List.length_replicate] at this
end Go.Vk
namespace Go.Ba
theorem sum_rep (a : Int) : ∀ n : Nat, (List.replicate n a).sum = (n : Int) * a
  | 0 => by simp
  | n + 1 => by rw [List.replicate_succ, List.sum_cons, sum_rep a n, show ((n + 1 : Nat) : Int) = (n : Int) + 1 by omega, Int.add_mul, Int.one_mul, Int.add_comm]
theorem sumW_rep (r : Row) (n : Nat) : sumW (List.replicate n r) n = (n : Int) * rowW r := by
  unfold sumW
  rw [List.take_of_length_le (by simp), List.map_replicate, sum_rep]
theorem chkL_rep {r : Row} (h : okR r = true) {n : Nat} (hn : 1 ≤ n) : chkL (List.replicate n r) = if 512 < (n : Int) ∨ 32768 < (n : Int) * rowW r then 5 else 0 := by
  rw [chkL_2 (by simp; omega) (fun i hi => by
    rw [List.length_replicate] at hi
    rw [List.getD_eq_getElem?_getD, List.getElem?_replicate_of_lt hi]; exact h), List.length_replicate, sumW_rep]
end Go.Ba
set_option maxRecDepth 8000
set_option linter.unusedVariables false
namespace Go.Proofs.Ytniogecifadccaa
open Go.Vk
attribute [local irreducible] HT HX RegS RegA RegM OpP OpC AltT
attribute [local irreducible] Ba.isC Ba.okR Ba.sumW Ba.capW Ba.chkL Ba.cellF
set_option maxHeartbeats 4000000 in
theorem lwLimits10 (n m : Int) : CFn Try.prog 5 [okI .i64 n, okI .i64 m] (Is (.bool true)) := by
  have c8 := baKnown
  by_cases hr : (1 ≤ n ∧ n ≤ 600) ∧ 1 ≤ m ∧ m ≤ 100
  · obtain ⟨⟨hn1, hn2⟩, hm1, hm2⟩ := hr
    have hp : 0 ≤ n * m ∧ n * m ≤ 60000 := ⟨Int.mul_nonneg (by omega) (by omega), by
      have h1 : n * m ≤ 600 * m := Int.mul_le_mul_of_nonneg_right hn2 (by omega)
      omega⟩
    refine CallsC.of Try.call5 Try.func5 rfl Try.ntmps5 rfl fun w0 G0 S0 hs ho => ?_
    refine run ?_
    intros
    refine HT.loopX (σ := Nat × List Ba.Row × Value) [0, 1, 4] (fun t => [(5, TAnd (Is t.2.2) (TSl 3 Ba.cRow t.2.1)), (6, okI .i64 (t.1 : Int))]) (fun t => [ownSl t.2.2 3 29]) (fun t => (t.1 : Int) ≤ n ∧ t.2.1 = List.replicate t.1 ⟨[107], List.replicate (m - 1).toNat 0, false⟩) (fun t => n.toNat - t.1) (0, [], .slice none 0 0) ⟨by dsimp only; omega, rfl⟩ (run trivial) (run trivial) ?_
    rintro ⟨i, acc, u⟩ ⟨hi, hac⟩
    dsimp only at hi hac ⊢
    have hal : acc.length = i := by rw [hac, List.length_replicate]
    by_cases hlt : (i : Int) < n
    · refine run ?_
      intro h
      refine ⟨_, fun _ => op_makeB rfl rfl Try.underlying32 rfl (by omega), ?_⟩
      refine run ?_
      intro u'
      exact HX.roundX (i + 1, acc ++ [⟨[107], List.replicate (m - 1).toNat 0, false⟩], u') ⟨⟨by dsimp only; omega, by dsimp only; rw [hac, List.replicate_succ']⟩, by dsimp only; omega⟩ rfl (run trivial) (run trivial)
    have hin : (i : Int) = n := by omega
    have hok : Ba.okR ⟨[107], List.replicate (m - 1).toNat 0, false⟩ = true := by
      unfold Ba.okR Ba.isC Ba.cellF
      simp only [List.length_replicate, List.length_cons, List.length_nil, Bool.not_false, Bool.true_or, Bool.and_true]
      rw [decide_eq_true (show ((m - 1).toNat : Int) ≤ 16384 by omega)]
      rfl
    have hrw : Ba.rowW ⟨[107], List.replicate (m - 1).toNat 0, false⟩ = m := by
      unfold Ba.rowW
      simp only [List.length_replicate, List.length_cons, List.length_nil]
      omega
    have c1 := baCheck acc (by omega) (fun k hk => by
      rw [hac, List.length_replicate] at hk
      rw [hac, List.getD_eq_getElem?_getD, List.getElem?_replicate_of_lt hk]
      refine ⟨by simp, ?_⟩
      simp only [Option.getD_some, List.length_replicate]; omega)
    rw [hac, Ba.chkL_rep hok (by omega), hrw, hin, ← hac] at c1
    refine run ?_
    refine ⟨fun _ h => ?_, fun _ h => ?_⟩
    · rw [if_pos h]; rfl
    · rw [if_neg (by omega)]; rfl
  · refine CallsC.of Try.call5 Try.func5 rfl Try.ntmps5 rfl fun w0 G0 S0 hs ho => ?_
    exact run trivial
end Go.Proofs.Ytniogecifadccaa
