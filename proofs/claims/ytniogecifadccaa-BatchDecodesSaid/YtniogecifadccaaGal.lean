/-
  Which rows may be written: the program's Check and the document's.
  Numbers and bytes in a row of bytes: the plain functions. Nothing here speaks of a program; no conditions.
  What is laid is read as it was: numbers, bytes, rows. Nothing here speaks of a program; no conditions.
  Rows as bytes and out of bytes. Nothing here speaks of a program; no conditions.
  The contracts of octet's Writer and of the document's numbers and bytes.
  The contracts of Encode, the program's and the document's.
  The contracts of octet's Reader and of the document's reader.
-/
import Derived.Test.YtniogecifadccaaGak
import Derived.Test.YtniogecifadccaaGag
import Derived.Test.YtniogecifadccaaRows
import Derived.Test.YtniogecifadccaaGaj
set_option linter.unusedSimpArgs false
set_option linter.unusedVariables false
set_option linter.unusedVariables false
namespace Go.Ba
open Go.Vk
def isC (c : Cell) : Bool := decide (1 ≤ (c.key.length : Int)) && decide ((c.key.length : Int) ≤ 4096) && decide ((c.val.length : Int) ≤ 16384) && (!c.del || decide (c.val = [])) && decide (1 ≤ c.seq) && decide (c.seq ≤ 1099511627776)
def okR (r : Row) : Bool := isC (cellF 1 r)
def rowW (r : Row) : Int := (r.key.length : Int) + (r.val.length : Int)
def sumW (l : List Row) (i : Nat) : Int := ((l.take i).map rowW).sum
def capW (n : Int) : Int := if 32769 < n then 32769 else n
def chkL (l : List Row) : Int := if l.length = 0 then 1 else if (l.any fun r => !okR r) = true then 1 else if 512 < (l.length : Int) ∨ 32768 < sumW l l.length then 5 else 0
theorem okR_of {r : Row} (h : okR r = true) : (1 ≤ r.key.length ∧ r.key.length ≤ 4096) ∧ r.val.length ≤ 16384 ∧ (r.del = true → r.val = []) := by
  unfold okR isC cellF at h
  simp only [Bool.and_eq_true, decide_eq_true_eq, Bool.or_eq_true, Bool.not_eq_true'] at h
  obtain ⟨⟨⟨⟨⟨h1, h2⟩, h3⟩, h4⟩, _⟩, _⟩ := h
  refine ⟨⟨by omega, by omega⟩, by omega, fun k => ?_⟩
  rcases h4 with h4 | h4
  · rw [k] at h4; cases h4
  · exact h4
theorem sumW_succ {l : List Row} {i : Nat} (h : i < l.length) : sumW l (i + 1) = sumW l i + ((l.getD i default).key.length : Int) + ((l.getD i default).val.length : Int) := by
  unfold sumW
  rw [List.take_succ_eq_append_getElem h, List.map_append, List.sum_append, List.getD_eq_getElem?_getD, List.getElem?_eq_getElem h, Option.getD_some]
  simp [rowW]; omega
theorem sumW_0 (l : List Row) : sumW l 0 = 0 := by unfold sumW; simp
theorem capW_step {a b : Int} (ha : 0 ≤ a) (hb : 0 ≤ b) : (if 32769 < capW a + b then 32769 else capW a + b) = capW (a + b) := by
  unfold capW
  repeat' split
  all_goals omega
theorem capW_le (a : Int) : capW a ≤ 32769 := by unfold capW; split <;> omega
theorem capW_ge {a : Int} (h : 0 ≤ a) : 0 ≤ capW a := by unfold capW; split <;> omega
theorem capW_big {a : Int} : 32768 < capW a ↔ 32768 < a := by unfold capW; split <;> omega
theorem chkL_0 {l : List Row} (h : l.length = 0) : chkL l = 1 := if_pos h
theorem chkL_1 {l : List Row} {i : Nat} (hi : i < l.length) (h : okR (l.getD i default) = false) : chkL l = 1 := by
  unfold chkL
  rw [if_neg (by omega), if_pos]
  rw [List.any_eq_true]
  exact ⟨_, getD_mem hi, by rw [h]; rfl⟩
theorem chkL_2 {l : List Row} (h0 : l.length ≠ 0) (h : ∀ i, i < l.length → okR (l.getD i default) = true) : chkL l = if 512 < (l.length : Int) ∨ 32768 < sumW l l.length then 5 else 0 := by
  unfold chkL
  rw [if_neg h0, if_neg]
  rw [List.any_eq_true]
  rintro ⟨x, hx, e⟩
  obtain ⟨i, hi, e2⟩ := mem_getD hx
  have := h i hi
  rw [e2] at this
  rw [this] at e; cases e
end Go.Ba
set_option maxRecDepth 8000
set_option linter.unusedVariables false
namespace Go.Proofs.Ytniogecifadccaa
open Go.Vk
attribute [local irreducible] HT HX RegS RegA RegM OpP OpC AltT
theorem baIs (c : Ba.Cell) : CFn Try.prog 24 [TAgg (Ba.cCell c)] (Is (.bool (Ba.isC c))) := by
  unfold Ba.isC
  refine CallsC.of Try.call24 Try.func24 rfl Try.ntmps24 rfl fun w0 G0 S0 hs ho => ?_
  exact run trivial
theorem rf7Is (c : Ba.Cell) : CFn Try.prog 30 [TAgg (Ba.cCell c)] (Is (.bool (Ba.isC c))) := by
  unfold Ba.isC
  refine CallsC.of Try.call30 Try.func30 rfl Try.ntmps30 rfl fun w0 G0 S0 hs ho => ?_
  exact run trivial
theorem rf10Cell (r : Ba.Row) (n : Int) : CFn Try.prog 31 [TAgg (Ba.cRow r), okI .i64 n] (TAgg (Ba.cCell (Ba.cellF n r))) := by
  refine CallsC.of Try.call31 Try.func31 rfl Try.ntmps31 rfl fun w0 G0 S0 hs ho => ?_
  refine run ?_
  and_intros <;> intros <;> rfl
theorem okR_def (r : Ba.Row) : Ba.isC (Ba.cellF 1 r) = Ba.okR r := rfl
attribute [local irreducible] Ba.isC Ba.okR Ba.sumW Ba.capW Ba.chkL Ba.cellF
set_option maxHeartbeats 4000000 in
theorem baCheck (l : List Ba.Row) (hl : l.length ≤ 100000) (hk : ∀ i, i < l.length → Ba.Okr (l.getD i default)) : CFn Try.prog 12 [TSl 3 Ba.cRow l] (okI .i64 (Ba.chkL l)) := by
  have c1 := baCell
  have c2 := baIs
  by_cases h0 : l.length = 0
  · rw [Ba.chkL_0 h0]
    refine CallsC.of Try.call12 Try.func12 rfl Try.ntmps12 rfl fun w0 G0 S0 hs ho => ?_
    exact run trivial
  refine CallsC.of Try.call12 Try.func12 rfl Try.ntmps12 rfl fun w0 G0 S0 hs ho => ?_
  refine run ?_
  intro _
  refine HT.loopX (σ := Nat) [0, 9, 10] (fun i => [(3, okI .i64 (Ba.capW (Ba.sumW l i))), (11, okI .i64 (i : Int))]) (fun i => []) (fun i => (i ≤ l.length ∧ 0 ≤ Ba.sumW l i) ∧ ∀ j, j < i → Ba.okR (l.getD j default) = true) (fun i => l.length - i) 0 ⟨⟨Nat.zero_le _, by rw [Ba.sumW_0]; omega⟩, by omega⟩ (run trivial) (run ?_) ?_
  · rw [Ba.sumW_0]; unfold Ba.capW; rfl
  rintro i ⟨⟨hi, hs⟩, hno⟩
  by_cases hlt : i < l.length
  · have hki := hk i hlt
    have hs1 := Ba.sumW_succ hlt
    have hc1 := Ba.capW_le (Ba.sumW l i)
    have hc2 := Ba.capW_ge hs
    have hkl := hki.1
    have hvl := hki.2
    have hst := Ba.capW_step (a := Ba.sumW l i) (b := ((l.getD i default).key.length : Int) + ((l.getD i default).val.length : Int)) hs (by omega)
    rw [← Int.add_assoc, ← Int.add_assoc, ← hs1] at hst
    refine run ?_
    rw [okR_def, hst]
    refine ⟨fun _ _ h => (Ba.chkL_1 hlt h).symm, fun _ _ h => ?_⟩
    refine HX.roundX (i + 1) ⟨⟨⟨by omega, by omega⟩, fun j hj => ?_⟩, by omega⟩ rfl (run trivial) (run trivial)
    rcases (by omega : j < i ∨ j = i) with hj | rfl
    · exact hno j hj
    · exact h
  · have he := Ba.chkL_2 h0 (fun j hj => hno j (by omega))
    have hcb := Ba.capW_big (a := Ba.sumW l l.length)
    have ei : i = l.length := by omega
    subst ei
    rw [he]
    exact run trivial
set_option maxHeartbeats 4000000 in
theorem rf10Check (l : List Ba.Row) (hl : l.length ≤ 100000) (hk : ∀ i, i < l.length → Ba.Okr (l.getD i default)) : CFn Try.prog 15 [TSl 3 Ba.cRow l] (okI .i64 (Ba.chkL l)) := by
  have c1 := rf10Cell
  have c2 := rf7Is
  by_cases h0 : l.length = 0
  · rw [Ba.chkL_0 h0]
    refine CallsC.of Try.call15 Try.func15 rfl Try.ntmps15 rfl fun w0 G0 S0 hs ho => ?_
    exact run trivial
  refine CallsC.of Try.call15 Try.func15 rfl Try.ntmps15 rfl fun w0 G0 S0 hs ho => ?_
  refine run ?_
  intro _
  refine HT.loopX (σ := Nat) [0] (fun i => [(3, okI .i64 (i : Int))]) (fun i => []) (fun i => i ≤ l.length ∧ ∀ j, j < i → Ba.okR (l.getD j default) = true) (fun i => l.length - i) 0 ⟨Nat.zero_le _, by omega⟩ (run trivial) (run trivial) ?_
  rintro i ⟨hi, hno⟩
  by_cases hlt : i < l.length
  · refine run ?_
    rw [okR_def]
    refine ⟨fun _ h => (Ba.chkL_1 hlt h).symm, fun _ h => ?_⟩
    refine HX.roundX (i + 1) ⟨⟨by omega, fun j hj => ?_⟩, by omega⟩ rfl (run trivial) (run trivial)
    rcases (by omega : j < i ∨ j = i) with hj | rfl
    · exact hno j hj
    · exact h
  · have ei : i = l.length := by omega
    subst ei
    have he := Ba.chkL_2 h0 hno
    rw [he]
    by_cases hm : (512 : Int) < (l.length : Int)
    · rw [if_pos (.inl hm)]
      exact run trivial
    refine run ?_
    intro _ _
    refine HT.loopX (σ := Nat) [0] (fun i => [(4, okI .i64 (Ba.sumW l i)), (5, okI .i64 (i : Int))]) (fun i => []) (fun i => i ≤ l.length ∧ 0 ≤ Ba.sumW l i ∧ Ba.sumW l i ≤ (i : Int) * 20480) (fun i => l.length - i) 0 ⟨Nat.zero_le _, by rw [Ba.sumW_0]; omega, by rw [Ba.sumW_0]; omega⟩ (run trivial) (run ?_) ?_
    · rw [Ba.sumW_0]
    rintro i ⟨hi2, hs, hs2⟩
    by_cases hlt2 : i < l.length
    · have hs1 := Ba.sumW_succ hlt2
      have hok := Ba.okR_of (hno i hlt2)
      refine run ?_
      rw [← hs1]
      intro _
      exact HX.roundX (i + 1) ⟨⟨by omega, by omega, by omega⟩, by omega⟩ rfl (run trivial) (run trivial)
    · have ei : i = l.length := by omega
      subst ei
      exact run trivial
end Go.Proofs.Ytniogecifadccaa
set_option linter.unusedVariables false
namespace Go.Oct
open Go.Vk
/-- A number: seven bits to a byte, the lowest first. -/
def numB (n : Nat) : List UInt8 := if h : n < 128 then [b8 (n : Int)] else (b8 (n : Int) ||| b8 128) :: numB (n / 128)
theorem numB_lt {n : Nat} (h : n < 128) : numB n = [b8 (n : Int)] := by rw [numB]; simp [h]
theorem numB_ge {n : Nat} (h : ¬ n < 128) : numB n = (b8 (n : Int) ||| b8 128) :: numB (n / 128) := by rw [numB]; simp [h]
theorem numB_len (k : Nat) : ∀ n : Nat, n < 128 ^ (k + 1) → 1 ≤ (numB n).length ∧ (numB n).length ≤ k + 1 := by
  induction k with
  | zero => intro n hn; rw [numB_lt (by omega)]; simp
  | succ k ih =>
    intro n hn
    by_cases h : n < 128
    · rw [numB_lt h]; simp
    · rw [numB_ge h]
      have := ih (n / 128) (by rw [Nat.div_lt_iff_lt_mul (by decide)]; calc n < 128 ^ (k + 1 + 1) := hn
            _ = 128 ^ (k + 1) * 128 := Nat.pow_succ ..)
      simp only [List.length_cons]
      omega
theorem numB_le {n : Nat} (h : n ≤ 4611686018427387904) : 1 ≤ (numB n).length ∧ (numB n).length ≤ 9 := numB_len 8 n (by omega)
def bytB (l : List UInt8) : List UInt8 := numB l.length ++ l
theorem b8_mod (n : Int) : b8 (n % 256) = b8 n := by
  unfold b8
  congr 1
  omega
theorem low7_tab : ∀ i : Fin 256, (b8 ((i.val : Int) % 128) ||| b8 128) = (b8 (i.val : Int) ||| b8 128) := by decide +kernel
theorem low7 (n : Nat) : (b8 ((n : Int) % 128) ||| b8 128) = (b8 (n : Int) ||| b8 128) := by
  have h := low7_tab ⟨n % 256, by omega⟩
  have e1 : (((n % 256 : Nat) : Int) % 128) = (n : Int) % 128 := by omega
  have e2 : b8 ((n % 256 : Nat) : Int) = b8 (n : Int) := by
    rw [show ((n % 256 : Nat) : Int) = (n : Int) % 256 by omega, b8_mod]
  simp only [e1, e2] at h
  exact h
theorem numB_snoc {n : Nat} (h : ¬ n < 128) (l : List UInt8) : l ++ [b8 (n : Int) ||| b8 128] ++ numB (n / 128) = l ++ numB n := by
  rw [numB_ge h]; simp
theorem numB_snoc7 {n : Nat} (h : ¬ n < 128) (l : List UInt8) : l ++ [b8 ((n : Int) % 128) ||| b8 128] ++ numB (n / 128) = l ++ numB n := by
  rw [low7, numB_snoc h]
theorem flat_snoc {α β : Type} [Inhabited α] {l : List α} {i : Nat} (f : α → List β) (h : i < l.length) : (l.take (i + 1)).flatMap f = (l.take i).flatMap f ++ f (l.getD i default) := by
  rw [List.take_succ_eq_append_getElem h, List.flatMap_append, List.getD_eq_getElem?_getD, List.getElem?_eq_getElem h]; simp
theorem flat_part {α β : Type} {l : List α} (f : α → List β) (i : Nat) : ((l.take i).flatMap f).length ≤ (l.flatMap f).length := by
  conv => rhs; rw [← List.take_append_drop i l, List.flatMap_append, List.length_append]
  omega
/-- A number read: what it is, what is left; i bytes were read, they say u. -/
def rdF (i : Nat) (u : Int) : List UInt8 → Option (Int × List UInt8)
  | [] => none
  | c :: r =>
    if 9 ≤ (i : Int) ∨ (0 < (i : Int) ∧ (c.toNat : Int) = 0) then none
    else if (c.toNat : Int) < 128 then (if 4611686018427387904 < orU u (shlU ((c &&& b8 127).toNat : Int) (7 * (i : Int))) then none else some (orU u (shlU ((c &&& b8 127).toNat : Int) (7 * (i : Int))), r))
    else rdF (i + 1) (orU u (shlU ((c &&& b8 127).toNat : Int) (7 * (i : Int)))) r
def numV (l : List UInt8) : Int := match rdF 0 0 l with | none => 0 | some x => x.1
def numT (l : List UInt8) : List UInt8 := match rdF 0 0 l with | none => [] | some x => x.2
def numE (l : List UInt8) (b : Bool) : Bool := match rdF 0 0 l with | none => true | some _ => b
theorem num_none {l : List UInt8} (h : rdF 0 0 l = none) (b : Bool) : numV l = 0 ∧ numT l = [] ∧ numE l b = true := by unfold numV numT numE; rw [h]; simp
theorem num_some {l : List UInt8} {x : Int × List UInt8} (h : rdF 0 0 l = some x) (b : Bool) : numV l = x.1 ∧ numT l = x.2 ∧ numE l b = b := by unfold numV numT numE; rw [h]; simp
theorem noneV {l : List UInt8} (h : rdF 0 0 l = none) : 0 = numV l := (num_none h true).1.symm
theorem noneT {l : List UInt8} (h : rdF 0 0 l = none) : [] = numT l := (num_none h true).2.1.symm
theorem noneE {l : List UInt8} (h : rdF 0 0 l = none) {b : Bool} : true = numE l b := (num_none h b).2.2.symm
theorem someV {l : List UInt8} {u : Int} {r : List UInt8} (h : rdF 0 0 l = some (u, r)) : u = numV l := (num_some h true).1.symm
theorem someT {l : List UInt8} {u : Int} {r r' : List UInt8} (h : rdF 0 0 l = some (u, r)) (e : r' = r) : r' = numT l := e.trans (num_some h true).2.1.symm
theorem someE {l : List UInt8} {u : Int} {r : List UInt8} (h : rdF 0 0 l = some (u, r)) {b : Bool} : b = numE l b := (num_some h b).2.2.symm
theorem drop_at {l : List UInt8} {i : Nat} (h : i < l.length) : l.drop i = l.getD i 0 :: l.drop (i + 1) := by
  rw [List.drop_eq_getElem_cons h]; simp [List.getD, h]
theorem rd_end {l : List UInt8} {i : Nat} {u : Int} (h : ¬ i < l.length) : rdF i u (l.drop i) = none := by
  rw [List.drop_of_length_le (by omega)]; rfl
theorem rd_bad {l : List UInt8} {i : Nat} {u : Int} (h : i < l.length) (k : 9 ≤ (i : Int) ∨ (0 < (i : Int) ∧ ((l.getD i 0).toNat : Int) = 0)) : rdF i u (l.drop i) = none := by
  rw [drop_at h, rdF, if_pos k]
theorem rd_great {l : List UInt8} {i : Nat} {u : Int} (h : i < l.length) (k : ((l.getD i 0).toNat : Int) < 128) (g : 4611686018427387904 < orU u (shlU ((l.getD i 0 &&& b8 127).toNat : Int) (7 * (i : Int)))) : rdF i u (l.drop i) = none := by
  rw [drop_at h, rdF, if_pos k, if_pos g]; simp
theorem rd_good {l : List UInt8} {i : Nat} {u : Int} (h : i < l.length) (b : ¬ (9 ≤ (i : Int) ∨ (0 < (i : Int) ∧ ((l.getD i 0).toNat : Int) = 0))) (k : ((l.getD i 0).toNat : Int) < 128) (g : ¬ 4611686018427387904 < orU u (shlU ((l.getD i 0 &&& b8 127).toNat : Int) (7 * (i : Int)))) : rdF i u (l.drop i) = some (orU u (shlU ((l.getD i 0 &&& b8 127).toNat : Int) (7 * (i : Int))), l.drop (i + 1)) := by
  rw [drop_at h, rdF, if_neg b, if_pos k, if_neg g]
theorem rd_no {l : List UInt8} {i : Nat} {u : Int} (h : i < l.length) (k : (9 ≤ (i : Int) ∨ (0 < (i : Int) ∧ ((l.getD i 0).toNat : Int) = 0)) ∨ ((l.getD i 0).toNat : Int) < 128 ∧ 4611686018427387904 < orU u (shlU ((l.getD i 0 &&& b8 127).toNat : Int) (7 * (i : Int)))) : rdF i u (l.drop i) = none := by
  rcases k with k | ⟨k, g⟩
  · exact rd_bad h k
  · exact rd_great h k g
theorem rd_next {l : List UInt8} {i : Nat} {u : Int} (h : i < l.length) (b : ¬ (9 ≤ (i : Int) ∨ (0 < (i : Int) ∧ ((l.getD i 0).toNat : Int) = 0))) (k : ¬ ((l.getD i 0).toNat : Int) < 128) : rdF i u (l.drop i) = rdF (i + 1) (orU u (shlU ((l.getD i 0 &&& b8 127).toNat : Int) (7 * (i : Int)))) (l.drop (i + 1)) := by
  rw [drop_at h, rdF, if_neg b, if_neg k]
theorem orU_bd (m n : Int) : 0 ≤ orU m n ∧ orU m n < 18446744073709551616 := by
  unfold orU bitsOf
  dsimp only
  generalize (BitVec.ofInt IntKind.u64.bits m ||| BitVec.ofInt IntKind.u64.bits n) = b
  have hlt : b.toNat < 18446744073709551616 := b.isLt
  have e : IntKind.u64.wrap (b.toNat : Int) = (b.toNat : Int) := InK.u64 (by omega)
  rw [e]
  omega
theorem orU_nat {m n : Nat} (hm : m < 18446744073709551616) (hn : n < 18446744073709551616) : orU (m : Int) (n : Int) = ((m ||| n : Nat) : Int) := by
  unfold orU bitsOf
  dsimp only
  have h2 : IntKind.u64.bits = 64 := rfl
  have e : (BitVec.ofInt IntKind.u64.bits (m : Int) ||| BitVec.ofInt IntKind.u64.bits (n : Int)).toNat = m ||| n := by
    rw [BitVec.toNat_or, BitVec.toNat_ofInt, BitVec.toNat_ofInt, h2]
    congr 1 <;> omega
  rw [e]
  refine InK.u64 ?_
  have : m ||| n < 2 ^ 64 := Nat.or_lt_two_pow (by omega) (by omega)
  omega
theorem shlU_nat {m k : Nat} (h : m * 2 ^ k < 18446744073709551616) : shlU (m : Int) (k : Int) = ((m * 2 ^ k : Nat) : Int) := by
  unfold shlU
  have e : ((m : Int) * 2 ^ (k : Int).toNat) = ((m * 2 ^ k : Nat) : Int) := by
    rw [Int.toNat_natCast]; simp
  rw [e]
  exact InK.u64 (by omega)
/-- The tenth byte never does. -/
theorem or_high {u : Int} (hu : 0 ≤ u ∧ u < 18446744073709551616) : 4611686018427387904 < orU u (shlU 1 63) := by
  have h1 : shlU 1 63 = ((9223372036854775808 : Nat) : Int) := shlU_nat (m := 1) (k := 63) (by decide)
  obtain ⟨m, rfl⟩ : ∃ m : Nat, u = (m : Int) := ⟨u.toNat, by omega⟩
  rw [h1, orU_nat (by omega) (by decide)]
  have : 9223372036854775808 ≤ m ||| 9223372036854775808 := Nat.right_le_or
  omega
theorem or_nine {u i : Int} {c : UInt8} (hu : 0 ≤ u ∧ u < 18446744073709551616) : i = 9 → (c.toNat : Int) = 1 → 4611686018427387904 < orU u (shlU ((c &&& b8 127).toNat : Int) (7 * i)) := by
  rintro rfl hc
  have e : c = 1 := UInt8.toNat_inj.1 (by show c.toNat = 1; omega)
  subst e
  exact or_high hu
/-- The first n bytes. -/
def rawV (l : List UInt8) (n : Int) : List UInt8 := if n < 0 ∨ (l.length : Int) < n then [] else l.take n.toNat
def rawT (l : List UInt8) (n : Int) : List UInt8 := if n < 0 ∨ (l.length : Int) < n then [] else l.drop n.toNat
def rawE (l : List UInt8) (n : Int) (b : Bool) : Bool := if n < 0 ∨ (l.length : Int) < n then true else b
theorem raw_no {l : List UInt8} {n : Int} (h : n < 0 ∨ (l.length : Int) < n) (b : Bool) : rawV l n = [] ∧ rawT l n = [] ∧ rawE l n b = true := by unfold rawV rawT rawE; simp [h]
theorem raw_yes {l : List UInt8} {n : Int} (h : ¬ (n < 0 ∨ (l.length : Int) < n)) (b : Bool) : rawV l n = l.take n.toNat ∧ rawT l n = l.drop n.toNat ∧ rawE l n b = b := by unfold rawV rawT rawE; simp [h]
theorem raw_one {l : List UInt8} {i : Nat} (h : i < l.length) (b : Bool) : rawV (l.drop i) 1 = [l.getD i 0] ∧ rawT (l.drop i) 1 = l.drop (i + 1) ∧ rawE (l.drop i) 1 b = b := by
  obtain ⟨e1, e2, e3⟩ := raw_yes (l := l.drop i) (n := 1) (by rw [List.length_drop]; omega) b
  refine ⟨?_, ?_, e3⟩
  · rw [e1, drop_at h]; rfl
  · rw [e2, List.drop_drop]; rfl
theorem raw_end {l : List UInt8} {i : Nat} (h : ¬ i < l.length) (b : Bool) : rawV (l.drop i) 1 = [] ∧ rawT (l.drop i) 1 = [] ∧ rawE (l.drop i) 1 b = true := raw_no (by rw [List.length_drop]; omega) b
theorem rdF_len (l : List UInt8) : ∀ (i : Nat) (u : Int) (x : Int × List UInt8), rdF i u l = some x → x.2.length < l.length := by
  induction l with
  | nil => intro i u x h; simp [rdF] at h
  | cons c r ih =>
    intro i u x h
    rw [rdF] at h
    split at h
    · cases h
    split at h
    · split at h
      · cases h
      · cases h; simp
    · have := ih _ _ _ h; simp; omega
theorem numT_len (l : List UInt8) : (numT l).length ≤ l.length := by
  unfold numT
  cases h : rdF 0 0 l with
  | none => simp
  | some x => have := rdF_len l 0 0 x h; simp; omega
theorem numE_nil {l : List UInt8} {b : Bool} (hb : b = true → l = []) : numE l b = true → numT l = [] := by
  unfold numE numT
  cases h : rdF 0 0 l with
  | none => simp
  | some x =>
    dsimp only
    intro h2
    have := rdF_len l 0 0 x h
    rw [hb h2] at this
    simp at this
theorem numV_of {l : List UInt8} {b : Bool} (h : numE l b = true) (hb : b = true → l = []) : numV l = 0 := by
  unfold numE at h
  unfold numV
  cases h2 : rdF 0 0 l with
  | none => rfl
  | some x =>
    rw [h2] at h
    dsimp only at h
    have := rdF_len l 0 0 x h2
    rw [hb h] at this
    simp at this
theorem raw_nil : rawV [] 0 = [] ∧ rawT [] 0 = [] ∧ ∀ b, rawE [] 0 b = b := by
  refine ⟨?_, ?_, fun b => ?_⟩ <;> simp [rawV, rawT, rawE]
theorem rawT_len (l : List UInt8) (n : Int) : (rawT l n).length ≤ l.length := by unfold rawT; split <;> simp
theorem rawE_nil {l : List UInt8} {n : Int} {b : Bool} (hb : b = true → l = []) : rawE l n b = true → rawT l n = [] := by
  unfold rawE rawT
  split
  · simp
  · intro h; rw [hb h]; simp
def bytV (l : List UInt8) : List UInt8 := rawV (numT l) (numV l)
def bytT (l : List UInt8) : List UInt8 := rawT (numT l) (numV l)
def bytE (l : List UInt8) (b : Bool) : Bool := rawE (numT l) (numV l) (numE l b)
end Go.Oct
set_option linter.unusedVariables false
namespace Go.Oct
open Go.Vk
theorem or_add {m n k : Nat} (h : m < 2 ^ k) : m ||| (n * 2 ^ k) = m + n * 2 ^ k := by
  have := Nat.two_pow_add_eq_or_of_lt h n
  rw [Nat.mul_comm (2 ^ k) n] at this
  rw [Nat.or_comm, ← this, Nat.add_comm]
theorem pow7_le {i : Nat} (h : i ≤ 8) : 2 ^ (7 * i) ≤ 72057594037927936 := by
  calc 2 ^ (7 * i) ≤ 2 ^ 56 := Nat.pow_le_pow_right (by decide) (by omega)
    _ = 72057594037927936 := by decide
theorem pow7_ge {i : Nat} (h : 9 ≤ i) : 9223372036854775808 ≤ 2 ^ (7 * i) := by
  calc 9223372036854775808 = 2 ^ 63 := by decide
    _ ≤ 2 ^ (7 * i) := Nat.pow_le_pow_right (by decide) (by omega)
theorem digit_lo : ∀ i : Fin 128, ((b8 (i.val : Int) &&& b8 127).toNat = i.val) ∧ (b8 (i.val : Int)).toNat = i.val := by decide +kernel
theorem digit_hi : ∀ i : Fin 256, (((b8 (i.val : Int) ||| b8 128) &&& b8 127).toNat = i.val % 128) ∧ 128 ≤ (b8 (i.val : Int) ||| b8 128).toNat := by decide +kernel
theorem digit_hi' (n : Nat) : (((b8 (n : Int) ||| b8 128) &&& b8 127).toNat = n % 128) ∧ 128 ≤ (b8 (n : Int) ||| b8 128).toNat := by
  have h := digit_hi ⟨n % 256, by omega⟩
  have e2 : b8 ((n % 256 : Nat) : Int) = b8 (n : Int) := by
    rw [show ((n % 256 : Nat) : Int) = (n : Int) % 256 by omega, b8_mod]
  simp only [e2] at h
  exact ⟨by rw [h.1]; omega, h.2⟩
/-- A number that was laid is read. -/
theorem rdF_numB (n : Nat) : ∀ (i m : Nat) (r : List UInt8), m < 2 ^ (7 * i) → m + n * 2 ^ (7 * i) ≤ 4611686018427387904 → (0 < i → 0 < n) → rdF i (m : Int) (numB n ++ r) = some (((m + n * 2 ^ (7 * i) : Nat) : Int), r) := by
  induction n using Nat.strongRecOn with
  | _ n ih =>
    intro i m r hm hb hn
    have hi : i ≤ 8 := by
      by_cases h0 : 0 < i
      · have := hn h0
        by_cases h9 : 9 ≤ i
        · have h1 := pow7_ge h9
          have h2 : 1 * 2 ^ (7 * i) ≤ n * 2 ^ (7 * i) := Nat.mul_le_mul_right _ this
          omega
        · omega
      · omega
    have hp := pow7_le hi
    by_cases hlt : n < 128
    · rw [numB_lt hlt]
      obtain ⟨d1, d2⟩ := digit_lo ⟨n, hlt⟩
      dsimp only at d1 d2
      have e : orU (m : Int) (shlU ((b8 (n : Int) &&& b8 127).toNat : Int) (7 * (i : Int))) = ((m + n * 2 ^ (7 * i) : Nat) : Int) := by
        rw [d1, show (7 * (i : Int)) = ((7 * i : Nat) : Int) by omega, shlU_nat (by omega), orU_nat (by omega) (by omega), or_add hm]
      rw [List.singleton_append, rdF, e, if_neg (by omega), if_pos (by omega), if_neg (by omega)]
    · rw [numB_ge hlt]
      obtain ⟨d1, d2⟩ := digit_hi' n
      have e2 : m + n * 2 ^ (7 * i) = (m + n % 128 * 2 ^ (7 * i)) + n / 128 * 2 ^ (7 * (i + 1)) := by
        have h1 : 2 ^ (7 * (i + 1)) = 128 * 2 ^ (7 * i) := by
          rw [show 7 * (i + 1) = 7 + 7 * i by omega, Nat.pow_add]
        have h2 : n = n % 128 + n / 128 * 128 := by omega
        rw [h1, ← Nat.mul_assoc, Nat.add_assoc, ← Nat.add_mul, ← h2]
      have hm' : m + n % 128 * 2 ^ (7 * i) < 2 ^ (7 * (i + 1)) := by
        have h1 : 2 ^ (7 * (i + 1)) = 128 * 2 ^ (7 * i) := by
          rw [show 7 * (i + 1) = 7 + 7 * i by omega, Nat.pow_add]
        have h3 : n % 128 * 2 ^ (7 * i) ≤ 127 * 2 ^ (7 * i) := Nat.mul_le_mul_right _ (by omega)
        omega
      have e : orU (m : Int) (shlU (((b8 (n : Int) ||| b8 128) &&& b8 127).toNat : Int) (7 * (i : Int))) = ((m + n % 128 * 2 ^ (7 * i) : Nat) : Int) := by
        rw [d1, show (7 * (i : Int)) = ((7 * i : Nat) : Int) by omega, shlU_nat (by omega), orU_nat (by omega) (by omega), or_add hm]
      rw [List.cons_append, rdF, e, if_neg (by omega), if_neg (by omega), e2]
      exact ih (n / 128) (by omega) (i + 1) _ r hm' (by omega) (fun _ => by omega)
theorem rd_numB {n : Nat} (h : n ≤ 4611686018427387904) (r : List UInt8) : rdF 0 0 (numB n ++ r) = some ((n : Int), r) := by
  have := rdF_numB n 0 0 r (by decide) (by simpa using h) (fun h => by omega)
  simpa using this
theorem num_numB {n : Nat} (h : n ≤ 4611686018427387904) (r : List UInt8) : numV (numB n ++ r) = n ∧ numT (numB n ++ r) = r ∧ ∀ b, numE (numB n ++ r) b = b :=
  ⟨(num_some (rd_numB h r) true).1, (num_some (rd_numB h r) true).2.1, fun b => (num_some (rd_numB h r) b).2.2⟩
theorem byt_bytB {l : List UInt8} (h : l.length ≤ 4611686018427387904) (r : List UInt8) : bytV (bytB l ++ r) = l ∧ bytT (bytB l ++ r) = r ∧ ∀ b, bytE (bytB l ++ r) b = b := by
  obtain ⟨h1, h2, h3⟩ := num_numB h (l ++ r)
  unfold bytV bytT bytE bytB
  rw [List.append_assoc, h1, h2]
  have hno : ¬ ((l.length : Int) < 0 ∨ ((l ++ r).length : Int) < (l.length : Int)) := by rw [List.length_append]; omega
  refine ⟨?_, ?_, fun b => ?_⟩
  · rw [(raw_yes hno true).1]; simp
  · rw [(raw_yes hno true).2.1]; simp
  · rw [h3, (raw_yes hno b).2.2]
/-! ### rows -/
section
variable {σ α : Type}
/-- Rows are read one behind the other, so long as none is bad; fuel. -/
def loopD (step : σ → α × σ) (bad : σ → Bool) (n : Int) : Nat → List α → σ → List α × σ
  | 0, acc, s => (acc, s)
  | k + 1, acc, s => if (acc.length : Int) < n ∧ bad s = false then loopD step bad n k (acc ++ [(step s).1]) (step s).2 else (acc, s)
/-- Each row takes something, or is bad. -/
structure Eats (step : σ → α × σ) (bad : σ → Bool) (m : σ → Nat) : Prop where
  eat : ∀ s, bad s = false → bad (step s).2 = true ∨ m (step s).2 < m s
variable {step : σ → α × σ} {bad : σ → Bool} {m : σ → Nat}
theorem loopD_bad {n : Int} {k : Nat} {acc : List α} {s : σ} (h : bad s = true) : loopD step bad n k acc s = (acc, s) := by
  cases k with
  | zero => rfl
  | succ k => rw [loopD, if_neg (by rw [h]; simp)]
theorem loopD_fuel (he : Eats step bad m) {n : Int} : ∀ (k k' : Nat) (acc : List α) (s : σ), m s < k → m s < k' → loopD step bad n k acc s = loopD step bad n k' acc s
  | 0, k', acc, s, h, _ => by omega
  | k + 1, 0, acc, s, _, h => by omega
  | k + 1, k' + 1, acc, s, h, h' => by
    rw [loopD, loopD]
    split
    · rename_i hc
      rcases he.eat s hc.2 with hb | hlt
      · rw [loopD_bad hb, loopD_bad hb]
      · exact loopD_fuel he k k' _ _ (by omega) (by omega)
    · rfl
def rows (step : σ → α × σ) (bad : σ → Bool) (m : σ → Nat) (n : Int) (acc : List α) (s : σ) : List α × σ := loopD step bad n (m s + 1) acc s
theorem rows_go (he : Eats step bad m) {n : Int} {acc : List α} {s : σ} (h1 : (acc.length : Int) < n) (h2 : bad s = false) : rows step bad m n acc s = rows step bad m n (acc ++ [(step s).1]) (step s).2 := by
  unfold rows
  rw [loopD, if_pos ⟨h1, h2⟩]
  rcases he.eat s h2 with hb | hlt
  · rw [loopD_bad hb, loopD_bad hb]
  · exact loopD_fuel he _ _ _ _ (by omega) (by omega)
theorem rows_end {n : Int} {acc : List α} {s : σ} (h : ¬ ((acc.length : Int) < n ∧ bad s = false)) : rows step bad m n acc s = (acc, s) := by
  unfold rows
  rw [loopD, if_neg h]
theorem rows_end1 {n : Int} {acc : List α} {s : σ} (h : ¬ (acc.length : Int) < n) : rows step bad m n acc s = (acc, s) := rows_end (fun x => h x.1)
theorem rows_end2 {n : Int} {acc : List α} {s : σ} (h : bad s = true) : rows step bad m n acc s = (acc, s) := rows_end (fun x => by rw [h] at x; cases x.2)
/-- What was laid row by row is read. -/
theorem rows_back (he : Eats step bad m) (enc : α → List UInt8) (mk : List UInt8 → σ) (hgood : ∀ l, bad (mk l) = false) : ∀ (xs : List α) (acc : List α) (r : List UInt8) (n : Int), (∀ x ∈ xs, ∀ r, step (mk (enc x ++ r)) = (x, mk r)) → n = ((acc ++ xs).length : Int) → rows step bad m n acc (mk (xs.flatMap enc ++ r)) = (acc ++ xs, mk r)
  | [], acc, r, n, _, hn => by
    rw [rows_end1 (by rw [hn]; simp)]
    simp
  | x :: xs, acc, r, n, hx, hn => by
    rw [rows_go he (by rw [hn]; simp; omega) (hgood _)]
    rw [List.flatMap_cons, List.append_assoc, hx x (by simp)]
    have := rows_back he enc mk hgood xs (acc ++ [x]) r n (fun y hy => hx y (by simp [hy])) (by rw [hn]; simp)
    rw [this]
    simp
end
/-- A reader's state: what is left, whether it erred. -/
abbrev RS := List UInt8 × Bool
def badS (s : RS) : Bool := s.2
def lenS (s : RS) : Nat := s.1.length
theorem numT_lt {l : List UInt8} {b : Bool} (h : numE l b = false) : (numT l).length < l.length := by
  unfold numE at h
  unfold numT
  cases h2 : rdF 0 0 l with
  | none => rw [h2] at h; cases h
  | some x => exact rdF_len l 0 0 x h2
theorem bytT_le (l : List UInt8) : (bytT l).length ≤ l.length := Nat.le_trans (rawT_len _ _) (numT_len l)
theorem rawV_len (l : List UInt8) (n : Int) : (rawV l n).length ≤ l.length := by
  unfold rawV; split
  · simp
  · rw [List.length_take]; omega
theorem bytV_le (l : List UInt8) : (bytV l).length ≤ l.length := Nat.le_trans (rawV_len _ _) (numT_len l)
theorem bytE_b {l : List UInt8} {b : Bool} (h : bytE l b = false) : numE l b = false := by
  unfold bytE rawE at h
  split at h
  · cases h
  · exact h
theorem bytT_lt {l : List UInt8} {b : Bool} (h : bytE l b = false) : (bytT l).length < l.length := Nat.lt_of_le_of_lt (rawT_len _ _) (numT_lt (bytE_b h))
theorem bytE_nil {l : List UInt8} {b : Bool} (hb : b = true → l = []) : bytE l b = true → bytT l = [] := rawE_nil (numE_nil hb)
theorem numE_true {l : List UInt8} : numE l true = true := by
  unfold numE; split <;> rfl
theorem bytE_true {l : List UInt8} : bytE l true = true := by
  unfold bytE rawE; split
  · rfl
  · exact numE_true
/-- How many rounds are left at most. -/
def leftN (s : RS) : Nat := if s.2 = true then 0 else s.1.length + 1
/-- So many rows were read of n bytes. -/
structure Left (n k : Nat) (s : RS) : Prop where
  bl : s.1.length ≤ n
  sum : k + leftN s ≤ n + 1
theorem Left.start {n : Nat} {s : RS} (h : s.1.length ≤ n) : Left n 0 s := ⟨h, by unfold leftN; split <;> omega⟩
theorem Left.bd {n k : Nat} {s : RS} (h : Left n k s) : k ≤ n + 1 := by have := h.sum; omega
theorem Left.next {n k : Nat} {s s' : RS} (h : Left n k s) (hb : s.2 = false) (he : s'.2 = true ∨ s'.1.length < s.1.length) (hl : s'.1.length ≤ s.1.length) : Left n (k + 1) s' ∧ leftN s' < leftN s := by
  have h1 := h.bl
  have h2 := h.sum
  have h3 : leftN s = s.1.length + 1 := by unfold leftN; rw [hb]; simp
  have h4 : leftN s' < leftN s := by
    rw [h3]; unfold leftN
    split
    · omega
    · rcases he with he | he
      · contradiction
      · omega
  exact ⟨⟨by omega, by omega⟩, h4⟩
def stepB (s : RS) : List UInt8 × RS := (bytV s.1, (bytT s.1, bytE s.1 s.2))
theorem eatsB : Eats stepB badS lenS := ⟨fun s _ => by
  cases h : bytE s.1 s.2 with
  | true => exact .inl h
  | false => exact .inr (bytT_lt h)⟩
end Go.Oct
set_option linter.unusedVariables false
namespace Go.Ba
open Go.Vk
open Go.Oct (numB bytB RS badS lenS numV numT numE bytV bytT bytE)
def encR (r : Row) : List UInt8 := if r.del = true then bytB r.key ++ numB 1 else bytB r.key ++ numB 0 ++ bytB r.val
def encB (l : List Row) : List UInt8 := numB l.length ++ l.flatMap encR
def encodeB (l : List Row) : List UInt8 × Int := if chkL l = 0 then (encB l, 0) else ([], chkL l)
theorem encode_0 {l : List Row} (h : chkL l = 0) : (encodeB l).1 = encB l ∧ (encodeB l).2 = 0 := by unfold encodeB; rw [if_pos h]; exact ⟨rfl, rfl⟩
theorem encode_1 {l : List Row} (h : ¬ chkL l = 0) : (encodeB l).1 = [] ∧ (encodeB l).2 = chkL l := by unfold encodeB; rw [if_neg h]; exact ⟨rfl, rfl⟩
theorem numB_9 {n : Nat} (h : n ≤ 4611686018427387904) : (numB n).length ≤ 9 := (Oct.numB_le h).2
theorem bytB_l {s : List UInt8} (h : s.length ≤ 100000) : (bytB s).length ≤ 9 + s.length := by
  unfold Oct.bytB
  have := numB_9 (n := s.length) (by omega)
  rw [List.length_append]; omega
theorem chk_of {l : List Row} (h : chkL l = 0) : (∀ i, i < l.length → okR (l.getD i default) = true) ∧ 1 ≤ l.length ∧ l.length ≤ 512 ∧ sumW l l.length ≤ 32768 := by
  have h0 : l.length ≠ 0 := fun e => by rw [chkL_0 e] at h; omega
  have h1 : ∀ i, i < l.length → okR (l.getD i default) = true := fun i hi => by
    cases e : okR (l.getD i default) with
    | true => rfl
    | false => rw [chkL_1 hi e] at h; omega
  rw [chkL_2 h0 h1] at h
  refine ⟨h1, by omega, ?_⟩
  split at h
  · omega
  · omega
theorem sumW_ge (l : List Row) (i : Nat) : 0 ≤ sumW l i := by
  unfold sumW
  generalize l.take i = m
  induction m with
  | nil => simp
  | cons a m ih => rw [List.map_cons, List.sum_cons]; unfold rowW at *; omega
theorem sumW_mono {l : List Row} {i : Nat} : ∀ j, i ≤ j → j ≤ l.length → sumW l i ≤ sumW l j
  | 0, h1, h2 => by
    have : i = 0 := by omega
    subst this; omega
  | j + 1, h1, h2 => by
    by_cases e : i = j + 1
    · subst e; omega
    · have : sumW l i ≤ sumW l j := sumW_mono j (by omega) (by omega)
      rw [sumW_succ (by omega)]; omega
theorem encR_len {r : Row} (h : okR r = true) : (encR r).length ≤ 27 + r.key.length + r.val.length := by
  obtain ⟨h1, h2, _⟩ := okR_of h
  have a1 := bytB_l (s := r.key) (by omega)
  have a2 := bytB_l (s := r.val) (by omega)
  have a3 := numB_9 (n := 1) (by omega)
  have a4 := numB_9 (n := 0) (by omega)
  unfold encR
  split <;> simp only [List.length_append] <;> omega
theorem flat_len {l : List Row} (h : ∀ i, i < l.length → okR (l.getD i default) = true) : ∀ i, i ≤ l.length → ((((l.take i).flatMap encR).length : Nat) : Int) ≤ 27 * (i : Int) + sumW l i
  | 0, _ => by rw [sumW_0]; simp
  | i + 1, hi => by
    have ih := flat_len h i (by omega)
    have hr := encR_len (h i (by omega))
    have e := Oct.flat_snoc encR (show i < l.length by omega)
    rw [e, List.length_append, sumW_succ (by omega)]
    omega
/-- How far the bytes have come. -/
theorem part_len {l : List Row} (h : chkL l = 0) {q : List UInt8} {i : Nat} (hi : i ≤ l.length) (e : q = numB l.length ++ (l.take i).flatMap encR) : q.length ≤ 50000 := by
  obtain ⟨h1, h2, h3, h4⟩ := chk_of h
  have a1 := numB_9 (n := l.length) (by omega)
  have a2 := flat_len h1 i hi
  have a3 := sumW_mono (l := l) l.length hi (Nat.le_refl _)
  rw [e, List.length_append]
  omega
theorem encB_len {l : List Row} (h : chkL l = 0) : (encB l).length ≤ 50000 := part_len h (Nat.le_refl _) (by rw [List.take_of_length_le (Nat.le_refl _)]; rfl)
theorem enc_snoc {l : List Row} {i : Nat} (hi : i < l.length) {q : List UInt8} (e : q = numB l.length ++ (l.take i).flatMap encR) : q ++ encR (l.getD i default) = numB l.length ++ (l.take (i + 1)).flatMap encR := by
  rw [Oct.flat_snoc encR hi, e, List.append_assoc]
/-! ### out of bytes -/
def nmT (s : RS) : RS := (numT s.1, numE s.1 s.2)
def byT (s : RS) : RS := (bytT s.1, bytE s.1 s.2)
/-- A row: what is told of a number that is no nought. -/
def stepG (q : Int → Bool) (s : RS) : Row × RS := if numV (bytT s.1) = 0 then (⟨bytV s.1, bytV (numT (bytT s.1)), false⟩, byT (nmT (byT s))) else (⟨bytV s.1, [], q (numV (bytT s.1))⟩, nmT (byT s))
theorem numE_f {l : List UInt8} {b : Bool} (h : numE l b = false) : b = false := by
  cases b with
  | false => rfl
  | true => rw [Oct.numE_true] at h; cases h
theorem bytE_f {l : List UInt8} {b : Bool} (h : bytE l b = false) : b = false := by
  cases b with
  | false => rfl
  | true => rw [Oct.bytE_true] at h; cases h
theorem stepG_le (q : Int → Bool) (s : RS) : lenS (stepG q s).2 ≤ (bytT s.1).length := by
  have h1 := Oct.numT_len (bytT s.1)
  have h2 := Oct.bytT_le (numT (bytT s.1))
  unfold stepG
  split
  · show (bytT (numT (bytT s.1))).length ≤ _
    omega
  · exact h1
theorem stepG_len (q : Int → Bool) (s : RS) : lenS (stepG q s).2 ≤ lenS s := Nat.le_trans (stepG_le q s) (Oct.bytT_le _)
theorem eatsG (q : Int → Bool) : Oct.Eats (stepG q) badS lenS := ⟨fun s _ => by
  cases h : (stepG q s).2.2 with
  | true => exact .inl h
  | false =>
    right
    have h5 : bytE s.1 s.2 = false := by
      unfold stepG at h
      split at h
      · exact numE_f (bytE_f h)
      · exact numE_f h
    exact Nat.lt_of_le_of_lt (stepG_le q s) (Oct.bytT_lt h5)⟩
def decG (q : Int → Bool) (s : List UInt8) : List Row × RS := Oct.rows (stepG q) badS lenS (numV s) [] (nmT (s, false))
def okG (q : Int → Bool) (s : List UInt8) : Bool := decide (chkL (decG q s).1 = 0) && decide (encB (decG q s).1 = s)
theorem step_back {q : Int → Bool} (hq : q 1 = true) {r : Row} (h : okR r = true) (t : List UInt8) : stepG q (encR r ++ t, false) = (r, (t, false)) := by
  obtain ⟨h1, h2, h3⟩ := okR_of h
  cases hd : r.del with
  | true =>
    have hv := h3 hd
    obtain ⟨a1, a2, a3⟩ := Oct.byt_bytB (l := r.key) (by omega) (numB 1 ++ t)
    obtain ⟨b1, b2, b3⟩ := Oct.num_numB (n := 1) (by omega) t
    have e : encR r ++ t = bytB r.key ++ (numB 1 ++ t) := by unfold encR; rw [if_pos hd, List.append_assoc]
    unfold stepG nmT byT
    dsimp only
    rw [e, a1, a2, a3, b1, b2, b3, if_neg (by decide)]
    have e2 : (((1 : Nat) : Int)) = 1 := rfl
    rw [e2, hq]
    cases r
    simp only at hd hv
    subst hd hv
    rfl
  | false =>
    obtain ⟨a1, a2, a3⟩ := Oct.byt_bytB (l := r.key) (by omega) (numB 0 ++ (bytB r.val ++ t))
    obtain ⟨b1, b2, b3⟩ := Oct.num_numB (n := 0) (by omega) (bytB r.val ++ t)
    obtain ⟨c1, c2, c3⟩ := Oct.byt_bytB (l := r.val) (by omega) t
    have e : encR r ++ t = bytB r.key ++ (numB 0 ++ (bytB r.val ++ t)) := by unfold encR; rw [if_neg (by rw [hd]; simp)]; simp only [List.append_assoc]
    unfold stepG nmT byT
    dsimp only
    rw [e, a1, a2, a3, b1, b2, b3, if_pos (by rfl), c1, c2, c3]
    cases r
    simp only at hd
    subst hd
    rfl
theorem dec_back {q : Int → Bool} (hq : q 1 = true) {l : List Row} (h : chkL l = 0) : decG q (encB l) = (l, ([], false)) := by
  obtain ⟨h1, h2, h3, h4⟩ := chk_of h
  obtain ⟨b1, b2, b3⟩ := Oct.num_numB (n := l.length) (by omega) (l.flatMap encR ++ [])
  have e : encB l = numB l.length ++ (l.flatMap encR ++ []) := by unfold encB; rw [List.append_nil]
  have r1 := Oct.rows_back (eatsG q) encR (fun l => (l, false)) (fun _ => rfl) l [] [] (l.length : Int) (fun x hx r => by
    obtain ⟨i, hi, e2⟩ := mem_getD hx
    rw [← e2]
    exact step_back hq (h1 i hi) r) (by simp)
  unfold decG nmT
  dsimp only
  rw [e, b1, b2, b3, r1]
  simp
theorem okG_dec {q q' : Int → Bool} (hq' : q' 1 = true) {s : List UInt8} (h : okG q s = true) : decG q' s = ((decG q s).1, ([], false)) := by
  unfold okG at h
  rw [Bool.and_eq_true, decide_eq_true_eq, decide_eq_true_eq] at h
  have := dec_back hq' h.1
  rwa [h.2] at this
theorem okG_one {q q' : Int → Bool} (hq : q 1 = true) (hq' : q' 1 = true) (s : List UInt8) : okG q s = okG q' s := by
  rw [Bool.eq_iff_iff]
  constructor
  · intro h
    have h1 := okG_dec hq' h
    unfold okG at h ⊢
    rw [h1]; exact h
  · intro h
    have h1 := okG_dec hq h
    unfold okG at h ⊢
    rw [h1]; exact h
theorem okG_enc {q : Int → Bool} (hq : q 1 = true) {l : List Row} (h : chkL l = 0) : okG q (encB l) = true := by
  unfold okG
  rw [dec_back hq h, decide_eq_true h]; simp
theorem okG_no {q : Int → Bool} {s : List UInt8} (h : ¬ chkL (decG q s).1 = 0 ∨ ¬ encB (decG q s).1 = s) : okG q s = false := by
  unfold okG
  rcases h with h | h
  · rw [decide_eq_false h]; rfl
  · rw [decide_eq_false h]; simp
theorem okG_yes {q : Int → Bool} {s : List UInt8} (h : chkL (decG q s).1 = 0 ∧ encB (decG q s).1 = s) : okG q s = true := by
  unfold okG
  rw [decide_eq_true h.1, decide_eq_true h.2]; rfl
def qP (_ : Int) : Bool := true
def qD (n : Int) : Bool := decide (n = 1)
end Go.Ba
set_option maxRecDepth 8000
set_option linter.unusedVariables false
namespace Go.Proofs.Ytniogecifadccaa
open Go.Vk
attribute [local irreducible] HT HX RegS RegA RegM OpP OpC AltT
/-- A Writer that holds l. -/
abbrev WX (g : Nat) (l : List UInt8) : Res := packR fun v : Value => [ownP g 54 [TAnd (Is v) (TBytes l)], ownSl v 1 5]
abbrev cN (n : Nat) : List Ty := [okI .i64 (n : Int)]
theorem wrNums (g : Nat) (l : List UInt8) (n : Nat) (hn : n ≤ 4611686018427387904) (hl : l.length ≤ 134217728) : CallsC Try.prog 25 [Is (pAt g 0), TSl 1 cN [n]] [WX g l] (fun _ => TTup []) (fun _ => [WX g (l ++ Oct.numB n)]) := by
  refine CallsC.of Try.call25 Try.func25 rfl Try.ntmps25 rfl fun w0 G0 S0 hs ho => ?_
  refine HT.unpack 0 rfl fun v => ?_
  refine run ?_
  intro _
  refine HT.loopX (σ := Nat × List UInt8) [0, 9, 10] (fun t => [(11, okI .i64 (t.1 : Int))]) (fun t => [WX g t.2]) (fun t => t.1 ≤ 1 ∧ t.2 = if t.1 = 0 then l else l ++ Oct.numB n) (fun t => 1 - t.1) (0, l) ⟨Nat.zero_le _, rfl⟩ (run trivial) (run trivial) ?_
  rintro ⟨i, q⟩ ⟨hi, hq0⟩
  have hb := Oct.numB_le hn
  have hlen : ([n] : List Nat).length = 1 := rfl
  dsimp only at hi hq0 ⊢
  rcases (by omega : i = 0 ∨ i = 1) with rfl | rfl
  · have hq1 : q = l := hq0
    subst hq1
    have h0 : ((([n].getD 0 0 : Nat) : Int)) = n := rfl
    refine run ?_
    intro _
    refine HT.loopX (σ := Nat × List UInt8) [0, 9, 10, 11] (fun t => [(6, okI .u64 (t.1 : Int))]) (fun t => [WX g t.2]) (fun t => t.2 ++ Oct.numB t.1 = q ++ Oct.numB n ∧ t.1 ≤ n) (fun t => t.1) (n, q) ⟨rfl, Nat.le_refl _⟩ (run trivial) (run ?_) ?_
    · rw [show ([n].getD 0 default : Nat) = n from rfl]
      repeat' split
      all_goals omega
    rintro ⟨u, m⟩ ⟨he, hu⟩
    dsimp only at he hu ⊢
    have hm : m.length ≤ q.length + 9 := by
      have := congrArg List.length he
      simp only [List.length_append] at this
      omega
    refine HT.unpack 0 rfl fun v => ?_
    refine run ?_
    refine ⟨fun v' h1 => ?_, fun v' h1 => ?_⟩
    · exact HX.roundX (u / 128, m ++ [b8 (u : Int) ||| b8 128]) ⟨⟨(Oct.numB_snoc (by omega) m).trans he, by dsimp only; omega⟩, by dsimp only; omega⟩ rfl (run trivial) (run trivial)
    · have e : m ++ [b8 (u : Int)] = q ++ Oct.numB n := by rw [← he, Oct.numB_lt (by omega)]
      rw [e]
      exact HX.roundX (1, q ++ Oct.numB n) ⟨⟨Nat.le_refl _, rfl⟩, Nat.zero_lt_one⟩ rfl (run trivial) (run trivial)
  · have hq1 : q = l ++ Oct.numB n := hq0
    subst hq1
    refine HT.unpack 0 rfl fun v => ?_
    exact run trivial
theorem wrRaw (g : Nat) (l m : List UInt8) (hl : l.length + m.length ≤ 134217728) : CallsC Try.prog 42 [Is (pAt g 0), TBytes m] [WX g l] (fun _ => TTup []) (fun _ => [WX g (l ++ m)]) := by
  refine CallsC.of Try.call42 Try.func42 rfl Try.ntmps42 rfl fun w0 G0 S0 hs ho => ?_
  refine HT.unpack 0 rfl fun v => ?_
  exact run trivial
theorem wrClone (m : List UInt8) (hl : m.length ≤ 134217728) : CFn Try.prog 43 [TBytes m] (TBytes m) := by
  refine CallsC.of Try.call43 Try.func43 rfl Try.ntmps43 rfl fun w0 G0 S0 hs ho => ?_
  refine run ?_
  exact ⟨Eq.symm, rfl⟩
theorem rfNum (n : Nat) (hn : n ≤ 4611686018427387904) : CallsC Try.prog 28 [okI .i64 (n : Int)] [] (fun v => TAnd (Is v) (TBytes (Oct.numB n))) (fun v => [ownSl v 1 5]) := by
  have hb := Oct.numB_le hn
  refine CallsC.of Try.call28 Try.func28 rfl Try.ntmps28 rfl fun w0 G0 S0 hs ho => ?_
  refine run ?_
  and_intros
  all_goals intros
  · refine HT.loopX (σ := Nat × List UInt8 × Value) [2] (fun t => [(3, okI .u64 (t.1 : Int)), (4, TAnd (Is t.2.2) (TBytes t.2.1))]) (fun t => [ownSl t.2.2 1 5]) (fun t => t.2.1 ++ Oct.numB t.1 = Oct.numB n ∧ t.1 ≤ n) (fun t => t.1) (n, [], .slice none 0 0) ⟨rfl, Nat.le_refl _⟩ (run trivial) (run trivial) ?_
    rintro ⟨u, m, v⟩ ⟨he, hu⟩
    dsimp only at he hu ⊢
    have hm : m.length ≤ 9 := by
      have := congrArg List.length he
      simp only [List.length_append] at this
      omega
    refine run ?_
    refine ⟨fun v' h1 => ?_, fun v' h1 => ?_⟩
    · exact HX.roundX (u / 128, m ++ [b8 ((u : Int) % 128) ||| b8 128], v') ⟨⟨(Oct.numB_snoc7 (by omega) m).trans he, by dsimp only; omega⟩, by dsimp only; omega⟩ rfl (run trivial) (run trivial)
    · rw [← he, Oct.numB_lt (by omega)]
  · have h0 : n = 0 := by omega
    subst h0
    refine HT.loopX (σ := Unit) [2] (fun t => [(3, okI .u64 0), (4, Is (.slice none 0 0))]) (fun t => []) (fun t => True) (fun t => 0) () trivial (run trivial) (run trivial) ?_
    intro _ _
    refine run ?_
    intro _ _
    rw [Oct.numB_lt (by decide)]
    rfl
theorem rfBytes (l : List UInt8) (hl : l.length ≤ 134217728) : CallsC Try.prog 29 [TBytes l] [] (fun v => TAnd (Is v) (TBytes (Oct.numB l.length ++ l))) (fun v => [ownSl v 1 5]) := by
  have c1 := rfNum
  have hb := Oct.numB_le (n := l.length) (by omega)
  refine CallsC.of Try.call29 Try.func29 rfl Try.ntmps29 rfl fun w0 G0 S0 hs ho => ?_
  exact run trivial
abbrev cTB (l : List UInt8) : List Ty := [TBytes l]
theorem subA {P : Program} {f : FuncId} {A B : List Ty} {L : List Res} {T : Value → Ty} {L' : Value → List Res} (h : CallsC P f B L T L') (s : TsSub A B) : CallsC P f A L T L' :=
  ⟨h.enter, fun vs w G S hs ho ha => h.calls vs w G S hs ho (ArgsT.sub s ha)⟩
theorem wrBytesL (g : Nat) (l : List UInt8) (ms : List (List UInt8)) (hl : l.length + (ms.flatMap Oct.bytB).length ≤ 134217000) (hm : ms.length ≤ 134217000) : CallsC Try.prog 26 [Is (pAt g 0), TSl 1 cTB ms] [WX g l] (fun _ => TTup []) (fun _ => [WX g (l ++ ms.flatMap Oct.bytB)]) := by
  have c1 := wrNums
  have c2 := wrRaw
  refine CallsC.of Try.call26 Try.func26 rfl Try.ntmps26 rfl fun w0 G0 S0 hs ho => ?_
  refine run ?_
  refine HT.loopX (σ := Nat × List UInt8) [0, 6, 7] (fun t => [(8, okI .i64 (t.1 : Int))]) (fun t => [WX g t.2]) (fun t => t.1 ≤ ms.length ∧ t.2 = l ++ (ms.take t.1).flatMap Oct.bytB) (fun t => ms.length - t.1) (0, l) ⟨Nat.zero_le _, by simp⟩ (run trivial) (run trivial) ?_
  rintro ⟨i, q⟩ ⟨hi, hq0⟩
  dsimp only at hi hq0 ⊢
  by_cases hlt : i < ms.length
  · have h1 := Oct.flat_snoc Oct.bytB hlt
    have h2 := Oct.flat_part (l := ms) Oct.bytB (i + 1)
    rw [h1, List.length_append] at h2
    have h3 : (Oct.bytB (ms.getD i default)).length = (Oct.numB (ms.getD i default).length).length + (ms.getD i default).length := by unfold Oct.bytB; rw [List.length_append]
    have h4 : q.length = l.length + ((ms.take i).flatMap Oct.bytB).length := by rw [hq0, List.length_append]
    refine run ?_
    rw [List.append_assoc]
    intro _
    exact HX.roundX (i + 1, q ++ (Oct.numB (ms.getD i default).length ++ ms.getD i default)) ⟨⟨by dsimp only; omega, by dsimp only; rw [h1, hq0, List.append_assoc]; rfl⟩, by dsimp only; omega⟩ rfl (run trivial) (run trivial)
  · have hq1 : q = l ++ ms.flatMap Oct.bytB := by rw [hq0, List.take_of_length_le (by omega)]
    subst hq1
    exact run trivial
theorem wrBytes1 (g : Nat) (l m : List UInt8) (hl : l.length + m.length ≤ 134000000) : CallsC Try.prog 26 [Is (pAt g 0), TSlX 1 (fun ts : List Ty => ts) [[TBytes m]]] [WX g l] (fun _ => TTup []) (fun _ => [WX g (l ++ Oct.bytB m)]) := by
  have h := Oct.numB_le (n := m.length) (by omega)
  have := wrBytesL g l [m] (by simp [Oct.bytB]; omega) (by simp)
  rw [show [m].flatMap Oct.bytB = Oct.bytB m by simp] at this
  exact subA this (by exact byQ)
theorem wrBytes2 (g : Nat) (l m n : List UInt8) (hl : l.length + m.length + n.length ≤ 134000000) : CallsC Try.prog 26 [Is (pAt g 0), TSlX 1 (fun ts : List Ty => ts) [[TBytes m], [TBytes n]]] [WX g l] (fun _ => TTup []) (fun _ => [WX g (l ++ (Oct.bytB m ++ Oct.bytB n))]) := by
  have h := Oct.numB_le (n := m.length) (by omega)
  have h' := Oct.numB_le (n := n.length) (by omega)
  have := wrBytesL g l [m, n] (by simp [Oct.bytB]; omega) (by simp)
  rw [show [m, n].flatMap Oct.bytB = Oct.bytB m ++ Oct.bytB n by simp] at this
  exact subA this (by exact byQ)
theorem rfBytB (l : List UInt8) (hl : l.length ≤ 134217728) : CallsC Try.prog 29 [TBytes l] [] (fun v => TAnd (Is v) (TBytes (Oct.bytB l))) (fun v => [ownSl v 1 5]) := rfBytes l hl
theorem wrOut (g : Nat) (l : List UInt8) (hl : l.length ≤ 134217728) : CallsC Try.prog 27 [Is (pAt g 0)] [WX g l] (fun _ => TBytes l) (fun _ => [empR]) := by
  have c1 := wrClone
  refine CallsC.of Try.call27 Try.func27 rfl Try.ntmps27 rfl fun w0 G0 S0 hs ho => ?_
  refine HT.unpack 0 rfl fun v => ?_
  exact run trivial
end Go.Proofs.Ytniogecifadccaa
set_option maxRecDepth 8000
set_option linter.unusedVariables false
namespace Go.Proofs.Ytniogecifadccaa
open Go.Vk
attribute [local irreducible] HT HX RegS RegA RegM OpP OpC AltT
theorem baNums1 (g : Nat) (l : List UInt8) (n : Nat) (hn : n ≤ 4611686018427387904) (hl : l.length ≤ 134217728) : CallsC Try.prog 25 [Is (pAt g 0), TSlX 1 (fun ts : List Ty => ts) [[okI .i64 (n : Int)]]] [WX g l] (fun _ => TTup []) (fun _ => [WX g (l ++ Oct.numB n)]) :=
  subA (wrNums g l n hn hl) (TsSub.cons (Sub.refl _) (TsSub.cons (Sub.slxT rfl) TsSub.nil))
theorem baNumsK (g : Nat) (l : List UInt8) (hl : l.length ≤ 134217728) : CallsC Try.prog 25 [Is (pAt g 0), TSlX 1 (fun ts : List Ty => ts) [[okI .i64 1]]] [WX g l] (fun _ => TTup []) (fun _ => [WX g (l ++ Oct.numB 1)]) := baNums1 g l 1 (by omega) hl
theorem baNums0 (g : Nat) (l : List UInt8) (hl : l.length ≤ 134217728) : CallsC Try.prog 25 [Is (pAt g 0), TSlX 1 (fun ts : List Ty => ts) [[okI .i64 0]]] [WX g l] (fun _ => TTup []) (fun _ => [WX g (l ++ Oct.numB 0)]) := baNums1 g l 0 (by omega) hl
theorem rfBytesB (l : List UInt8) (hl : l.length ≤ 134217728) : CallsC Try.prog 29 [TBytes l] [] (fun v => TAnd (Is v) (TBytes (Oct.bytB l))) (fun v => [ownSl v 1 5]) := rfBytes l hl
theorem encR_1 {r : Ba.Row} (h : r.del = true) : Ba.encR r = Oct.bytB r.key ++ Oct.numB 1 := if_pos h
theorem encR_0 {r : Ba.Row} (h : r.del = false) : Ba.encR r = Oct.bytB r.key ++ Oct.numB 0 ++ Oct.bytB r.val := if_neg (by rw [h]; simp)
theorem encB_def (l : List Ba.Row) : Ba.encB l = Oct.numB l.length ++ l.flatMap Ba.encR := rfl
attribute [local irreducible] Ba.chkL Ba.encB Ba.encR Ba.encodeB Oct.bytB
set_option maxHeartbeats 4000000 in
theorem baEncode (l : List Ba.Row) (hl : l.length ≤ 100000) (hk : ∀ i, i < l.length → Ba.Okr (l.getD i default)) : CFn Try.prog 13 [TSl 3 Ba.cRow l] (TTup [TBytes (Ba.encodeB l).1, okI .i64 (Ba.encodeB l).2]) := by
  have c0 := baCheck l hl hk
  by_cases hc : Ba.chkL l = 0
  · rw [(Ba.encode_0 hc).1, (Ba.encode_0 hc).2]
    obtain ⟨hok, h1, h2, _⟩ := Ba.chk_of hc
    rw [hc] at c0
    have c1 := fun g l n h1 h2 => baNums1 g l n h1 h2
    have c1' := baNumsK
    have c1'' := baNums0
    have c2 := wrBytes1
    have c3 := wrOut
    have a1 := Ba.numB_9 (n := l.length) (by omega)
    refine CallsC.of Try.call13 Try.func13 rfl Try.ntmps13 rfl fun w0 G0 S0 hs ho => ?_
    refine run ?_
    intro v0 _
    refine HT.loopX (σ := Nat × List UInt8) [2, 3, 5, 17, 18] (fun t => [(19, okI .i64 (t.1 : Int))]) (fun t => [WX (blk v0) t.2]) (fun t => t.1 ≤ l.length ∧ t.2 = Oct.numB l.length ++ (l.take t.1).flatMap Ba.encR) (fun t => l.length - t.1) (0, Oct.numB l.length) ⟨Nat.zero_le _, by simp⟩ (run trivial) (run trivial) ?_
    rintro ⟨i, q⟩ ⟨hi, hq1⟩
    dsimp only at hi hq1 ⊢
    have hql := Ba.part_len hc hi hq1
    by_cases hlt : i < l.length
    · obtain ⟨d1, d2, d3⟩ := Ba.okR_of (hok i hlt)
      have h3 := Ba.enc_snoc hlt hq1
      have b1 := Ba.bytB_l (s := (l.getD i default).key) (by omega)
      have b2 := Ba.bytB_l (s := (l.getD i default).val) (by omega)
      have b3 := Ba.numB_9 (n := 1) (by omega)
      have b4 := Ba.numB_9 (n := 0) (by omega)
      refine run ?_
      refine ⟨fun _ _ hd => ?_, fun _ _ hd => ?_⟩
      · rw [encR_1 hd, ← List.append_assoc] at h3
        exact HX.roundX (i + 1, q ++ Oct.bytB (l.getD i default).key ++ Oct.numB 1) ⟨⟨by dsimp only; omega, h3⟩, by dsimp only; omega⟩ rfl (run trivial) (run trivial)
      · rw [encR_0 hd, ← List.append_assoc, ← List.append_assoc] at h3
        exact HX.roundX (i + 1, q ++ Oct.bytB (l.getD i default).key ++ Oct.numB 0 ++ Oct.bytB (l.getD i default).val) ⟨⟨by dsimp only; omega, h3⟩, by dsimp only; omega⟩ rfl (run trivial) (run trivial)
    · have hq2 : q = Ba.encB l := by rw [hq1, List.take_of_length_le (by omega), encB_def]
      subst hq2
      exact run trivial
  · rw [(Ba.encode_1 hc).1, (Ba.encode_1 hc).2]
    refine CallsC.of Try.call13 Try.func13 rfl Try.ntmps13 rfl fun w0 G0 S0 hs ho => ?_
    exact run trivial
set_option maxHeartbeats 4000000 in
theorem rf10Encode (l : List Ba.Row) (hl : l.length ≤ 100000) (hk : ∀ i, i < l.length → Ba.Okr (l.getD i default)) : CFn Try.prog 14 [TSl 3 Ba.cRow l] (TTup [TBytes (Ba.encodeB l).1, okI .i64 (Ba.encodeB l).2]) := by
  have c0 := rf10Check l hl hk
  by_cases hc : Ba.chkL l = 0
  · rw [(Ba.encode_0 hc).1, (Ba.encode_0 hc).2]
    obtain ⟨hok, h1, h2, _⟩ := Ba.chk_of hc
    rw [hc] at c0
    have c1 := rfNum
    have c1' := rfNum 1 (by omega)
    have c1'' := rfNum 0 (by omega)
    have c2 := rfBytesB
    have a1 := Ba.numB_9 (n := l.length) (by omega)
    refine CallsC.of Try.call14 Try.func14 rfl Try.ntmps14 rfl fun w0 G0 S0 hs ho => ?_
    refine run ?_
    intro u0 _
    refine HT.loopX (σ := Nat × List UInt8 × Value) [0, 2, 3] (fun t => [(5, TAnd (Is t.2.2) (TBytes t.2.1)), (6, okI .i64 (t.1 : Int))]) (fun t => [ownSl t.2.2 1 5]) (fun t => t.1 ≤ l.length ∧ t.2.1 = Oct.numB l.length ++ (l.take t.1).flatMap Ba.encR) (fun t => l.length - t.1) (0, Oct.numB l.length, u0) ⟨Nat.zero_le _, by simp⟩ (run trivial) (run trivial) ?_
    rintro ⟨i, q, u⟩ ⟨hi, hq1⟩
    dsimp only at hi hq1 ⊢
    have hql := Ba.part_len hc hi hq1
    by_cases hlt : i < l.length
    · obtain ⟨d1, d2, d3⟩ := Ba.okR_of (hok i hlt)
      have h3 := Ba.enc_snoc hlt hq1
      have b1 := Ba.bytB_l (s := (l.getD i default).key) (by omega)
      have b2 := Ba.bytB_l (s := (l.getD i default).val) (by omega)
      have b3 := Ba.numB_9 (n := 1) (by omega)
      have b4 := Ba.numB_9 (n := 0) (by omega)
      refine run ?_
      refine ⟨fun _ _ _ u' _ hd => ?_, fun _ _ _ _ _ u' _ hd => ?_⟩
      · rw [encR_1 hd, ← List.append_assoc] at h3
        exact HX.roundX (i + 1, q ++ Oct.bytB (l.getD i default).key ++ Oct.numB 1, u') ⟨⟨by dsimp only; omega, h3⟩, by dsimp only; omega⟩ rfl (run trivial) (run trivial)
      · rw [encR_0 hd, ← List.append_assoc, ← List.append_assoc] at h3
        exact HX.roundX (i + 1, q ++ Oct.bytB (l.getD i default).key ++ Oct.numB 0 ++ Oct.bytB (l.getD i default).val, u') ⟨⟨by dsimp only; omega, h3⟩, by dsimp only; omega⟩ rfl (run trivial) (run trivial)
    · have hq2 : q = Ba.encB l := by rw [hq1, List.take_of_length_le (by omega), encB_def]
      subst hq2
      exact run trivial
  · rw [(Ba.encode_1 hc).1, (Ba.encode_1 hc).2]
    refine CallsC.of Try.call14 Try.func14 rfl Try.ntmps14 rfl fun w0 G0 S0 hs ho => ?_
    exact run trivial
end Go.Proofs.Ytniogecifadccaa
set_option maxRecDepth 8000
set_option linter.unusedVariables false
namespace Go.Proofs.Ytniogecifadccaa
open Go.Vk
attribute [local irreducible] HT HX RegS RegA RegM OpP OpC AltT
/-- A Reader: what is left; whether it erred. -/
abbrev QX (g : Nat) (l : List UInt8) (b : Bool) : Res := ownP g 76 [TBytes l, Is (.bool b)]
abbrev EX (g : Nat) (l : List UInt8) (b : Bool) : Res := ownP g 66 [TBytes l, Is (.bool b)]
theorem rdNew (l : List UInt8) (hl : l.length ≤ 134217728) : CallsC Try.prog 32 [TBytes l] [] (fun v => Is (pAt (blk v) 0)) (fun v => [QX (blk v) l false]) := by
  have c1 := wrClone
  have mu := Mut.mk' [6]
  refine CallsC.of Try.call32 Try.func32 rfl Try.ntmps32 rfl fun w0 G0 S0 hs ho => ?_
  exact run trivial
theorem rdGood (g : Nat) (l : List UInt8) (b : Bool) : CallsC Try.prog 34 [Is (pAt g 0)] [QX g l b] (fun _ => Is (.bool (!b))) (fun _ => [QX g l b]) := by
  refine CallsC.of Try.call34 Try.func34 rfl Try.ntmps34 rfl fun w0 G0 S0 hs ho => ?_
  refine run ?_
  simp
theorem rdGoodC (l : List UInt8) (b : Bool) : CFn Try.prog 34 [TPc [TBytes l, Is (.bool b)]] (Is (.bool (!b))) := by
  refine CallsC.of Try.call34 Try.func34 rfl Try.ntmps34 rfl fun w0 G0 S0 hs ho => ?_
  refine run ?_
  simp
theorem rdBad (g : Nat) (l : List UInt8) (b : Bool) : CallsC Try.prog 44 [Is (pAt g 0)] [QX g l b] (fun _ => TTup []) (fun _ => [QX g [] true]) := by
  refine CallsC.of Try.call44 Try.func44 rfl Try.ntmps44 rfl fun w0 G0 S0 hs ho => ?_
  exact run trivial
theorem rdRaw (g : Nat) (l : List UInt8) (b : Bool) (n : Int) (hl : l.length ≤ 134217728) : CallsC Try.prog 45 [Is (pAt g 0), okI .i64 n] [QX g l b] (fun _ => TBytes (Oct.rawV l n)) (fun _ => [QX g (Oct.rawT l n) (Oct.rawE l n b)]) := by
  have c1 := wrClone
  have c2 := rdBad
  refine CallsC.of Try.call45 Try.func45 rfl Try.ntmps45 rfl fun w0 G0 S0 hs ho => ?_
  by_cases h : n < 0 ∨ (l.length : Int) < n
  · obtain ⟨e1, e2, e3⟩ := Oct.raw_no h b
    rw [e1, e2, e3]
    exact run trivial
  · obtain ⟨e1, e2, e3⟩ := Oct.raw_yes h b
    rw [e1, e2, e3]
    exact run trivial
attribute [local irreducible] Oct.rdF Oct.numV Oct.numT Oct.numE Oct.rawV Oct.rawT Oct.rawE orU shlU
set_option maxHeartbeats 4000000 in
theorem rdNum (g : Nat) (l : List UInt8) (b : Bool) (hl : l.length ≤ 134217728) : CallsC Try.prog 33 [Is (pAt g 0)] [QX g l b] (fun _ => okI .i64 (Oct.numV l)) (fun _ => [QX g (Oct.numT l) (Oct.numE l b)]) := by
  have c2 := rdBad
  refine CallsC.of Try.call33 Try.func33 rfl Try.ntmps33 rfl fun w0 G0 S0 hs ho => ?_
  refine run ?_
  intro _
  refine HT.loopX (σ := Nat × Int) [0, 11, 12] (fun t => [(2, Is (.int .i64 0)), (3, okI .u64 t.2), (13, okI .i64 (t.1 : Int))]) (fun t => [QX g l b]) (fun t => t.1 ≤ l.length ∧ Oct.rdF t.1 t.2 (l.drop t.1) = Oct.rdF 0 0 l ∧ 0 ≤ t.2 ∧ t.2 < 18446744073709551616) (fun t => l.length - t.1) (0, 0) ⟨Nat.zero_le _, rfl, by decide⟩ (run trivial) (run trivial) ?_
  rintro ⟨i, u⟩ ⟨hi, he, hu⟩
  dsimp only at hi he hu ⊢
  have hor := Oct.orU_bd u (shlU ((l.getD i 0 &&& b8 127).toNat : Int) (7 * (i : Int)))
  refine run ?_
  and_intros
  all_goals intros
  all_goals (first
    | exact HX.roundX (i + 1, orU u (shlU ((l.getD i 0 &&& b8 127).toNat : Int) (7 * (i : Int)))) ⟨⟨by dsimp only; omega, (Oct.rd_next (by omega) (by omega) (by assumption)).symm.trans he, hor⟩, by dsimp only; omega⟩ rfl (run trivial) (run trivial)
    | exact Oct.noneV (he.symm.trans (Oct.rd_end (by omega)))
    | exact Oct.noneT (he.symm.trans (Oct.rd_end (by omega)))
    | exact Oct.noneE (he.symm.trans (Oct.rd_end (by omega)))
    | exact Oct.noneV (he.symm.trans (Oct.rd_no (by omega) (by omega)))
    | exact Oct.noneT (he.symm.trans (Oct.rd_no (by omega) (by omega)))
    | exact Oct.noneE (he.symm.trans (Oct.rd_no (by omega) (by omega)))
    | exact Oct.someV (he.symm.trans (Oct.rd_good (by omega) (by omega) (by assumption) (by assumption)))
    | exact Oct.someT (he.symm.trans (Oct.rd_good (by omega) (by omega) (by assumption) (by assumption))) (by rw [show ((i : Int) + 1).toNat = i + 1 by omega])
    | exact Oct.someE (he.symm.trans (Oct.rd_good (by omega) (by omega) (by assumption) (by assumption))))
theorem rdBytes (g : Nat) (l : List UInt8) (b : Bool) (hl : l.length ≤ 134217728) : CallsC Try.prog 35 [Is (pAt g 0)] [QX g l b] (fun _ => TBytes (Oct.bytV l)) (fun _ => [QX g (Oct.bytT l) (Oct.bytE l b)]) := by
  have c1 := rdNum
  have c2 := rdRaw
  have ht := Oct.numT_len l
  unfold Oct.bytV Oct.bytT Oct.bytE
  refine CallsC.of Try.call35 Try.func35 rfl Try.ntmps35 rfl fun w0 G0 S0 hs ho => ?_
  exact run trivial
theorem rfBad (g : Nat) (l : List UInt8) (b : Bool) : CallsC Try.prog 47 [Is (pAt g 0)] [EX g l b] (fun _ => TTup []) (fun _ => [EX g [] true]) := by
  refine CallsC.of Try.call47 Try.func47 rfl Try.ntmps47 rfl fun w0 G0 S0 hs ho => ?_
  exact run trivial
theorem rfRaw (g : Nat) (l : List UInt8) (b : Bool) (n : Int) (hb : b = true → l = []) (hl : l.length ≤ 134217728) : CallsC Try.prog 46 [Is (pAt g 0), okI .i64 n] [EX g l b] (fun _ => TBytes (Oct.rawV l n)) (fun _ => [EX g (Oct.rawT l n) (Oct.rawE l n b)]) := by
  have c2 := rfBad
  refine CallsC.of Try.call46 Try.func46 rfl Try.ntmps46 rfl fun w0 G0 S0 hs ho => ?_
  by_cases h : n < 0 ∨ (l.length : Int) < n
  · obtain ⟨e1, e2, e3⟩ := Oct.raw_no h b
    rw [e1, e2, e3]
    exact run trivial
  · obtain ⟨e1, e2, e3⟩ := Oct.raw_yes h b
    rw [e1, e2, e3]
    cases b with
    | true =>
      have := hb rfl
      subst this
      refine run ?_
      simp
    | false =>
      refine run ?_
      intros
      rfl
set_option maxHeartbeats 4000000 in
theorem rfNumR (g : Nat) (l : List UInt8) (b : Bool) (hb : b = true → l = []) (hl : l.length ≤ 134217728) : CallsC Try.prog 37 [Is (pAt g 0)] [EX g l b] (fun _ => okI .i64 (Oct.numV l)) (fun _ => [EX g (Oct.numT l) (Oct.numE l b)]) := by
  have c2 := rfBad
  refine CallsC.of Try.call37 Try.func37 rfl Try.ntmps37 rfl fun w0 G0 S0 hs ho => ?_
  refine run ?_
  refine HT.loopX (σ := Nat × Int) [0] (fun t => [(2, Is (.int .i64 0)), (3, okI .u64 t.2), (4, okI .i64 (t.1 : Int))]) (fun t => [EX g (l.drop t.1) b]) (fun t => t.1 ≤ 9 ∧ Oct.rdF t.1 t.2 (l.drop t.1) = Oct.rdF 0 0 l ∧ 0 ≤ t.2 ∧ t.2 < 18446744073709551616) (fun t => 10 - t.1) (0, 0) ⟨Nat.zero_le _, rfl, by decide⟩ (run ?_) (run trivial) ?_
  · rfl
  rintro ⟨i, u⟩ ⟨hi, he, hu⟩
  dsimp only at hi he hu ⊢
  have hor := Oct.orU_bd u (shlU ((l.getD i 0 &&& b8 127).toNat : Int) (7 * (i : Int)))
  have hn := Oct.or_nine (i := (i : Int)) (c := l.getD i 0) hu
  have hbd : b = true → l.drop i = [] := fun h => by rw [hb h]; simp
  have c1 := rfRaw g (l.drop i) b 1 hbd (by rw [List.length_drop]; omega)
  by_cases hlt : i < l.length
  · have hb0 : b = false := by
      cases b with
      | false => rfl
      | true => exfalso; rw [hb rfl] at hlt; simp at hlt
    subst hb0
    obtain ⟨e1, e2, e3⟩ := Oct.raw_one hlt false
    rw [e1, e2, e3] at c1
    have hor2 := Oct.orU_bd u (shlU (([l.getD i 0].getD 0 0 &&& b8 127).toNat : Int) (7 * (i : Int)))
    refine run ?_
    simp only [List.getD_cons_zero]
    and_intros
    all_goals intros
    all_goals (first
      | exact HX.roundX (i + 1, orU u (shlU ((l.getD i 0 &&& b8 127).toNat : Int) (7 * (i : Int)))) ⟨⟨by dsimp only; omega, (Oct.rd_next (by omega) (by omega) (by omega)).symm.trans he, hor⟩, by dsimp only; omega⟩ rfl (run trivial) (run trivial)
      | exact Oct.noneV (he.symm.trans (Oct.rd_no (by omega) (by omega)))
      | exact Oct.noneT (he.symm.trans (Oct.rd_no (by omega) (by omega)))
      | exact Oct.noneE (he.symm.trans (Oct.rd_no (by omega) (by omega)))
      | exact Oct.someV (he.symm.trans (Oct.rd_good (by omega) (by omega) (by omega) (by omega)))
      | exact Oct.someT (he.symm.trans (Oct.rd_good (by omega) (by omega) (by omega) (by omega))) rfl
      | exact Oct.someE (he.symm.trans (Oct.rd_good (by omega) (by omega) (by omega) (by omega))))
  · obtain ⟨e1, e2, e3⟩ := Oct.raw_end hlt b
    rw [e1, e2, e3] at c1
    have hz := he.symm.trans (Oct.rd_end hlt)
    refine run ?_
    exact ⟨fun _ _ => Oct.noneT hz, fun _ _ => Oct.noneE hz, fun _ _ => Oct.noneV hz⟩
end Go.Proofs.Ytniogecifadccaa
