/-
  The contract of the document's Encode.
  What is laid is read as it was: numbers, bytes, rows. Nothing here speaks of a program; no conditions.
  Entries out of bytes: the plain functions. Nothing here speaks of a program; no conditions.
  The contracts of octet's Reader and of the document's reader.
  The contract of the document's Reader.Bytes.
  The contracts of Decode, the program's and the document's.
  The contract of the document's Decode.
  Orders of a region, written out. Nothing here speaks of a program; no conditions.
  The contracts of Same, the program's and the document's.
  The law EntryDecodes, walked through.
  The contracts of slices.Clone: of attributes, of texts.
  The contracts of Get and of the document's Vals.
  The laws' own helper texts.
-/
import Derived.Test.YtibabbepnhpaiaaGak
import Derived.Test.YtibabbepnhpaiaaGai
import Derived.Test.YtibabbepnhpaiaaGaj
set_option linter.unusedSimpArgs false
set_option linter.unusedVariables false
set_option maxRecDepth 8000
set_option linter.unusedVariables false
namespace Go.Proofs.Ytibabbepnhpaiaa
open Go.Vk
attribute [local irreducible] HT HX RegS RegA RegM OpP OpC AltT
theorem encB_def (e : En.Entry) : En.encB e = Oct.numB e.dn.length ++ e.dn.flatMap En.avaB ++ Oct.numB e.attrs.length ++ e.attrs.flatMap En.attrB := rfl
attribute [local irreducible] Dn.typB Dn.isE Dn.okA En.okT En.isN Oct.bytB En.avaB En.attrB En.encB
set_option maxRecDepth 8000 in
set_option maxHeartbeats 8000000 in
theorem rf20Encode (e : En.Entry) (h : En.sane e) : CFn Try.prog 12 [TAgg (En.cEnt e)] (TTup [Is (str (if En.isN e = true then En.encB e else [])), okI .i64 (if En.isN e = true then 0 else 1)]) := by
  have c0 := rf20Is e h
  have c1 := rfNum
  have c2 := rfBytB
  by_cases hN : En.isN e = true
  · rw [if_pos hN, if_pos hN]
    rw [hN] at c0
    obtain ⟨b1, b2, b3, b4⟩ := En.isN_bd hN
    have k1 := Oct.numB_le (n := e.dn.length) (by omega)
    have k2 := Oct.numB_le (n := e.attrs.length) (by omega)
    have k3 := En.flat_take (f := En.avaB) (k := 200) (fun a ha => En.avaB_len (b2 a ha)) b1
    have k4 := En.flat_take (f := En.attrB) (k := 5000) (fun a ha => En.attrB_len (b4 a ha)) b3
    refine CallsC.of Try.call12 Try.func12 rfl Try.ntmps12 rfl fun w0 G0 S0 hs ho => ?_
    refine run ?_
    intro v0 _
    refine HT.loopX (σ := Nat × List UInt8 × Value) [1, 2, 3] (fun t => [(4, TAnd (Is t.2.2) (TBytes t.2.1)), (5, okI .i64 (t.1 : Int))]) (fun t => [ownSl t.2.2 1 5]) (fun t => t.1 ≤ e.dn.length ∧ t.2.1 = Oct.numB e.dn.length ++ (e.dn.take t.1).flatMap En.avaB) (fun t => e.dn.length - t.1) (0, Oct.numB e.dn.length, v0) ⟨Nat.zero_le _, by simp⟩ (run trivial) (run trivial) ?_
    rintro ⟨i, q, v⟩ ⟨hi, hq1⟩
    dsimp only at hi hq1 ⊢
    have k3i := k3 i
    have hql : q.length ≤ 3000 := by rw [hq1, List.length_append]; omega
    by_cases hlt : i < e.dn.length
    · have h2 := b2 _ (En.getD_mem hlt)
      have h3 := En.ava_snoc hlt
      have k6 := En.bytB_len (k := 32) h2.1 (by omega)
      have k7 := En.bytB_len (k := 64) h2.2 (by omega)
      refine run ?_
      intro w1 w2 w3 v' _
      exact HX.roundX (i + 1, q ++ Oct.bytB (e.dn.getD i default).typ ++ Oct.bytB (e.dn.getD i default).val, v') ⟨⟨by dsimp only; omega, by dsimp only; rw [h3, hq1]; simp only [List.append_assoc]⟩, by dsimp only; omega⟩ rfl (run trivial) (run trivial)
    · rw [List.take_of_length_le (by omega)] at hq1
      refine run ?_
      intro w1 v1 _
      refine HT.loopX (σ := Nat × List UInt8 × Value) [1, 2, 3] (fun t => [(4, TAnd (Is t.2.2) (TBytes t.2.1)), (6, okI .i64 (t.1 : Int))]) (fun t => [ownSl t.2.2 1 5]) (fun t => t.1 ≤ e.attrs.length ∧ t.2.1 = q ++ Oct.numB e.attrs.length ++ (e.attrs.take t.1).flatMap En.attrB) (fun t => e.attrs.length - t.1) (0, q ++ Oct.numB e.attrs.length, v1) ⟨Nat.zero_le _, by simp⟩ (run trivial) (run trivial) ?_
      rintro ⟨j, r, v⟩ ⟨hj, hr1⟩
      dsimp only at hj hr1 ⊢
      have k4j := k4 j
      have hrl : r.length ≤ 90000 := by rw [hr1, List.length_append, List.length_append]; omega
      by_cases hjt : j < e.attrs.length
      · obtain ⟨h2, h4, h5⟩ := b4 _ (En.getD_mem hjt)
        have h3 := En.attr_snoc hjt
        have k5 := Oct.numB_le (n := (e.attrs.getD j default).vals.length) (by omega)
        have k6 := En.bytB_len (k := 32) h2 (by omega)
        have k7 := En.flat_take (f := Oct.bytB) (k := 265) (fun v hv => En.bytB_len (k := 256) (h5 v hv) (by omega)) h4
        refine run ?_
        intro w2 w3 w4 w5 v2 _
        refine HT.loopX (σ := Nat × List UInt8 × Value) [1, 2, 3, 6, 7] (fun t => [(4, TAnd (Is t.2.2) (TBytes t.2.1)), (8, okI .i64 (t.1 : Int))]) (fun t => [ownSl t.2.2 1 5, ownP (blk w2) 46 (En.cAttr (e.attrs.getD j default))]) (fun t => t.1 ≤ (e.attrs.getD j default).vals.length ∧ t.2.1 = r ++ (Oct.bytB (e.attrs.getD j default).typ ++ Oct.numB (e.attrs.getD j default).vals.length ++ ((e.attrs.getD j default).vals.take t.1).flatMap Oct.bytB)) (fun t => (e.attrs.getD j default).vals.length - t.1) (0, r ++ Oct.bytB (e.attrs.getD j default).typ ++ Oct.numB (e.attrs.getD j default).vals.length, v2) ⟨Nat.zero_le _, by simp⟩ (run trivial) (run trivial) ?_
        rintro ⟨k, z, v⟩ ⟨hk, hz1⟩
        dsimp only at hk hz1 ⊢
        have k7k := k7 k
        have hzl : z.length ≤ 100000 := by rw [hz1, List.length_append, List.length_append, List.length_append]; omega
        by_cases hkt : k < (e.attrs.getD j default).vals.length
        · have h6 := h5 _ (En.getD_mem hkt)
          have h7 := En.flat_snoc Oct.bytB hkt
          have k8 := En.bytB_len (k := 256) h6 (by omega)
          refine run ?_
          intro w6 v3 _
          exact HX.roundX (k + 1, z ++ Oct.bytB ((e.attrs.getD j default).vals.getD k default), v3) ⟨⟨by dsimp only; omega, by dsimp only; rw [h7, hz1]; simp only [List.append_assoc]⟩, by dsimp only; omega⟩ rfl (run trivial) (run trivial)
        · rw [List.take_of_length_le (by omega)] at hz1
          refine run ?_
          intro _
          exact HX.roundX (j + 1, z, v) ⟨⟨by dsimp only; omega, by dsimp only; rw [h3, hz1, hr1, List.append_assoc]⟩, by dsimp only; omega⟩ rfl (run trivial) (run trivial)
      · rw [List.take_of_length_le (by omega)] at hr1
        have hr2 : r = En.encB e := by rw [hr1, hq1, encB_def]
        rw [← hr2]
        clear hr2 hr1 hq1 k3 k4 k4j k3i k1 k2 c0 c1 c2
        exact run trivial
  · have hN' : En.isN e = false := by simpa using hN
    rw [if_neg hN, if_neg hN]
    clear c1 c2
    rw [hN'] at c0
    refine CallsC.of Try.call12 Try.func12 rfl Try.ntmps12 rfl fun w0 G0 S0 hs ho => ?_
    exact run trivial
end Go.Proofs.Ytibabbepnhpaiaa
set_option linter.unusedVariables false
namespace Go.Oct
open Go.Vk
theorem or_add {m n k : Nat} (h : m < 2 ^ k) : m ||| (n * 2 ^ k) = m + n * 2 ^ k := by
  have := Nat.two_pow_add_eq_or_of_lt h n
  rw [Nat.mul_comm (2 ^ k) n] at this
  rw [Nat.or_comm, ← this, Nat.add_comm]
theorem pow7_le {i : Nat} (h : i ≤ 8) : 2 ^ (7 * i) ≤ 72057594037927936 := by
  calc 2 ^ (7 * i) ≤ 2 ^ 56 := Nat.pow_le_pow_right (by decide) (by omega)
    _ = 72057594037927936 := by decide
theorem pow7_ge {i : Nat} (h : 9 ≤ i) : 9223372036854775808 ≤ 2 ^ (7 * i) := by
  calc 9223372036854775808 = 2 ^ 63 := by decide
    _ ≤ 2 ^ (7 * i) := Nat.pow_le_pow_right (by decide) (by omega)
theorem digit_lo : ∀ i : Fin 128, ((b8 (i.val : Int) &&& b8 127).toNat = i.val) ∧ (b8 (i.val : Int)).toNat = i.val := by decide +kernel
theorem digit_hi : ∀ i : Fin 256, (((b8 (i.val : Int) ||| b8 128) &&& b8 127).toNat = i.val % 128) ∧ 128 ≤ (b8 (i.val : Int) ||| b8 128).toNat := by decide +kernel
theorem digit_hi' (n : Nat) : (((b8 (n : Int) ||| b8 128) &&& b8 127).toNat = n % 128) ∧ 128 ≤ (b8 (n : Int) ||| b8 128).toNat := by
  have h := digit_hi ⟨n % 256, by omega⟩
  have e2 : b8 ((n % 256 : Nat) : Int) = b8 (n : Int) := by
    rw [show ((n % 256 : Nat) : Int) = (n : Int) % 256 by omega, b8_mod]
  simp only [e2] at h
  exact ⟨by rw [h.1]; omega, h.2⟩
/-- A number that was laid is read. -/
theorem rdF_numB (n : Nat) : ∀ (i m : Nat) (r : List UInt8), m < 2 ^ (7 * i) → m + n * 2 ^ (7 * i) ≤ 4611686018427387904 → (0 < i → 0 < n) → rdF i (m : Int) (numB n ++ r) = some (((m + n * 2 ^ (7 * i) : Nat) : Int), r) := by
  induction n using Nat.strongRecOn with
  | _ n ih =>
    intro i m r hm hb hn
    have hi : i ≤ 8 := by
      by_cases h0 : 0 < i
      · have := hn h0
        by_cases h9 : 9 ≤ i
        · have h1 := pow7_ge h9
          have h2 : 1 * 2 ^ (7 * i) ≤ n * 2 ^ (7 * i) := Nat.mul_le_mul_right _ this
          omega
        · omega
      · omega
    have hp := pow7_le hi
    by_cases hlt : n < 128
    · rw [numB_lt hlt]
      obtain ⟨d1, d2⟩ := digit_lo ⟨n, hlt⟩
      dsimp only at d1 d2
      have e : orU (m : Int) (shlU ((b8 (n : Int) &&& b8 127).toNat : Int) (7 * (i : Int))) = ((m + n * 2 ^ (7 * i) : Nat) : Int) := by
        rw [d1, show (7 * (i : Int)) = ((7 * i : Nat) : Int) by omega, shlU_nat (by omega), orU_nat (by omega) (by omega), or_add hm]
      rw [List.singleton_append, rdF, e, if_neg (by omega), if_pos (by omega), if_neg (by omega)]
    · rw [numB_ge hlt]
      obtain ⟨d1, d2⟩ := digit_hi' n
      have e2 : m + n * 2 ^ (7 * i) = (m + n % 128 * 2 ^ (7 * i)) + n / 128 * 2 ^ (7 * (i + 1)) := by
        have h1 : 2 ^ (7 * (i + 1)) = 128 * 2 ^ (7 * i) := by
          rw [show 7 * (i + 1) = 7 + 7 * i by omega, Nat.pow_add]
        have h2 : n = n % 128 + n / 128 * 128 := by omega
        rw [h1, ← Nat.mul_assoc, Nat.add_assoc, ← Nat.add_mul, ← h2]
      have hm' : m + n % 128 * 2 ^ (7 * i) < 2 ^ (7 * (i + 1)) := by
        have h1 : 2 ^ (7 * (i + 1)) = 128 * 2 ^ (7 * i) := by
          rw [show 7 * (i + 1) = 7 + 7 * i by omega, Nat.pow_add]
        have h3 : n % 128 * 2 ^ (7 * i) ≤ 127 * 2 ^ (7 * i) := Nat.mul_le_mul_right _ (by omega)
        omega
      have e : orU (m : Int) (shlU (((b8 (n : Int) ||| b8 128) &&& b8 127).toNat : Int) (7 * (i : Int))) = ((m + n % 128 * 2 ^ (7 * i) : Nat) : Int) := by
        rw [d1, show (7 * (i : Int)) = ((7 * i : Nat) : Int) by omega, shlU_nat (by omega), orU_nat (by omega) (by omega), or_add hm]
      rw [List.cons_append, rdF, e, if_neg (by omega), if_neg (by omega), e2]
      exact ih (n / 128) (by omega) (i + 1) _ r hm' (by omega) (fun _ => by omega)
theorem rd_numB {n : Nat} (h : n ≤ 4611686018427387904) (r : List UInt8) : rdF 0 0 (numB n ++ r) = some ((n : Int), r) := by
  have := rdF_numB n 0 0 r (by decide) (by simpa using h) (fun h => by omega)
  simpa using this
theorem num_numB {n : Nat} (h : n ≤ 4611686018427387904) (r : List UInt8) : numV (numB n ++ r) = n ∧ numT (numB n ++ r) = r ∧ ∀ b, numE (numB n ++ r) b = b :=
  ⟨(num_some (rd_numB h r) true).1, (num_some (rd_numB h r) true).2.1, fun b => (num_some (rd_numB h r) b).2.2⟩
theorem byt_bytB {l : List UInt8} (h : l.length ≤ 4611686018427387904) (r : List UInt8) : bytV (bytB l ++ r) = l ∧ bytT (bytB l ++ r) = r ∧ ∀ b, bytE (bytB l ++ r) b = b := by
  obtain ⟨h1, h2, h3⟩ := num_numB h (l ++ r)
  unfold bytV bytT bytE bytB
  rw [List.append_assoc, h1, h2]
  have hno : ¬ ((l.length : Int) < 0 ∨ ((l ++ r).length : Int) < (l.length : Int)) := by rw [List.length_append]; omega
  refine ⟨?_, ?_, fun b => ?_⟩
  · rw [(raw_yes hno true).1]; simp
  · rw [(raw_yes hno true).2.1]; simp
  · rw [h3, (raw_yes hno b).2.2]
/-! ### rows -/
section
variable {σ α : Type}
/-- Rows are read one behind the other, so long as none is bad; fuel. -/
def loopD (step : σ → α × σ) (bad : σ → Bool) (n : Int) : Nat → List α → σ → List α × σ
  | 0, acc, s => (acc, s)
  | k + 1, acc, s => if (acc.length : Int) < n ∧ bad s = false then loopD step bad n k (acc ++ [(step s).1]) (step s).2 else (acc, s)
/-- Each row takes something, or is bad. -/
structure Eats (step : σ → α × σ) (bad : σ → Bool) (m : σ → Nat) : Prop where
  eat : ∀ s, bad s = false → bad (step s).2 = true ∨ m (step s).2 < m s
variable {step : σ → α × σ} {bad : σ → Bool} {m : σ → Nat}
theorem loopD_bad {n : Int} {k : Nat} {acc : List α} {s : σ} (h : bad s = true) : loopD step bad n k acc s = (acc, s) := by
  cases k with
  | zero => rfl
  | succ k => rw [loopD, if_neg (by rw [h]; simp)]
theorem loopD_fuel (he : Eats step bad m) {n : Int} : ∀ (k k' : Nat) (acc : List α) (s : σ), m s < k → m s < k' → loopD step bad n k acc s = loopD step bad n k' acc s
  | 0, k', acc, s, h, _ => by omega
  | k + 1, 0, acc, s, _, h => by omega
  | k + 1, k' + 1, acc, s, h, h' => by
    rw [loopD, loopD]
    split
    · rename_i hc
      rcases he.eat s hc.2 with hb | hlt
      · rw [loopD_bad hb, loopD_bad hb]
      · exact loopD_fuel he k k' _ _ (by omega) (by omega)
    · rfl
def rows (step : σ → α × σ) (bad : σ → Bool) (m : σ → Nat) (n : Int) (acc : List α) (s : σ) : List α × σ := loopD step bad n (m s + 1) acc s
theorem rows_go (he : Eats step bad m) {n : Int} {acc : List α} {s : σ} (h1 : (acc.length : Int) < n) (h2 : bad s = false) : rows step bad m n acc s = rows step bad m n (acc ++ [(step s).1]) (step s).2 := by
  unfold rows
  rw [loopD, if_pos ⟨h1, h2⟩]
  rcases he.eat s h2 with hb | hlt
  · rw [loopD_bad hb, loopD_bad hb]
  · exact loopD_fuel he _ _ _ _ (by omega) (by omega)
theorem rows_end {n : Int} {acc : List α} {s : σ} (h : ¬ ((acc.length : Int) < n ∧ bad s = false)) : rows step bad m n acc s = (acc, s) := by
  unfold rows
  rw [loopD, if_neg h]
theorem rows_end1 {n : Int} {acc : List α} {s : σ} (h : ¬ (acc.length : Int) < n) : rows step bad m n acc s = (acc, s) := rows_end (fun x => h x.1)
theorem rows_end2 {n : Int} {acc : List α} {s : σ} (h : bad s = true) : rows step bad m n acc s = (acc, s) := rows_end (fun x => by rw [h] at x; cases x.2)
/-- What was laid row by row is read. -/
theorem rows_back (he : Eats step bad m) (enc : α → List UInt8) (mk : List UInt8 → σ) (hgood : ∀ l, bad (mk l) = false) : ∀ (xs : List α) (acc : List α) (r : List UInt8) (n : Int), (∀ x ∈ xs, ∀ r, step (mk (enc x ++ r)) = (x, mk r)) → n = ((acc ++ xs).length : Int) → rows step bad m n acc (mk (xs.flatMap enc ++ r)) = (acc ++ xs, mk r)
  | [], acc, r, n, _, hn => by
    rw [rows_end1 (by rw [hn]; simp)]
    simp
  | x :: xs, acc, r, n, hx, hn => by
    rw [rows_go he (by rw [hn]; simp; omega) (hgood _)]
    rw [List.flatMap_cons, List.append_assoc, hx x (by simp)]
    have := rows_back he enc mk hgood xs (acc ++ [x]) r n (fun y hy => hx y (by simp [hy])) (by rw [hn]; simp)
    rw [this]
    simp
end
/-- A reader's state: what is left, whether it erred. -/
abbrev RS := List UInt8 × Bool
def badS (s : RS) : Bool := s.2
def lenS (s : RS) : Nat := s.1.length
theorem numT_lt {l : List UInt8} {b : Bool} (h : numE l b = false) : (numT l).length < l.length := by
  unfold numE at h
  unfold numT
  cases h2 : rdF 0 0 l with
  | none => rw [h2] at h; cases h
  | some x => exact rdF_len l 0 0 x h2
theorem bytT_le (l : List UInt8) : (bytT l).length ≤ l.length := Nat.le_trans (rawT_len _ _) (numT_len l)
theorem rawV_len (l : List UInt8) (n : Int) : (rawV l n).length ≤ l.length := by
  unfold rawV; split
  · simp
  · rw [List.length_take]; omega
theorem bytV_le (l : List UInt8) : (bytV l).length ≤ l.length := Nat.le_trans (rawV_len _ _) (numT_len l)
theorem bytE_b {l : List UInt8} {b : Bool} (h : bytE l b = false) : numE l b = false := by
  unfold bytE rawE at h
  split at h
  · cases h
  · exact h
theorem bytT_lt {l : List UInt8} {b : Bool} (h : bytE l b = false) : (bytT l).length < l.length := Nat.lt_of_le_of_lt (rawT_len _ _) (numT_lt (bytE_b h))
theorem bytE_nil {l : List UInt8} {b : Bool} (hb : b = true → l = []) : bytE l b = true → bytT l = [] := rawE_nil (numE_nil hb)
theorem numE_true {l : List UInt8} : numE l true = true := by
  unfold numE; split <;> rfl
theorem bytE_true {l : List UInt8} : bytE l true = true := by
  unfold bytE rawE; split
  · rfl
  · exact numE_true
/-- How many rounds are left at most. -/
def leftN (s : RS) : Nat := if s.2 = true then 0 else s.1.length + 1
/-- So many rows were read of n bytes. -/
structure Left (n k : Nat) (s : RS) : Prop where
  bl : s.1.length ≤ n
  sum : k + leftN s ≤ n + 1
theorem Left.start {n : Nat} {s : RS} (h : s.1.length ≤ n) : Left n 0 s := ⟨h, by unfold leftN; split <;> omega⟩
theorem Left.bd {n k : Nat} {s : RS} (h : Left n k s) : k ≤ n + 1 := by have := h.sum; omega
theorem Left.next {n k : Nat} {s s' : RS} (h : Left n k s) (hb : s.2 = false) (he : s'.2 = true ∨ s'.1.length < s.1.length) (hl : s'.1.length ≤ s.1.length) : Left n (k + 1) s' ∧ leftN s' < leftN s := by
  have h1 := h.bl
  have h2 := h.sum
  have h3 : leftN s = s.1.length + 1 := by unfold leftN; rw [hb]; simp
  have h4 : leftN s' < leftN s := by
    rw [h3]; unfold leftN
    split
    · omega
    · rcases he with he | he
      · contradiction
      · omega
  exact ⟨⟨by omega, by omega⟩, h4⟩
def stepB (s : RS) : List UInt8 × RS := (bytV s.1, (bytT s.1, bytE s.1 s.2))
theorem eatsB : Eats stepB badS lenS := ⟨fun s _ => by
  cases h : bytE s.1 s.2 with
  | true => exact .inl h
  | false => exact .inr (bytT_lt h)⟩
end Go.Oct
set_option linter.unusedVariables false
namespace Go.En
open Go.Vk Go.Oct
open Go.Dn (Ava cAva typB isE okA)
def stepA (s : RS) : Ava × RS := (⟨bytV s.1, bytV (bytT s.1)⟩, (bytT (bytT s.1), bytE (bytT s.1) (bytE s.1 s.2)))
theorem eatsA : Eats stepA badS lenS := ⟨fun s _ => by
  cases h : bytE (bytT s.1) (bytE s.1 s.2) with
  | true => exact .inl h
  | false =>
    right
    have h2 : bytE s.1 s.2 = false := by
      cases h3 : bytE s.1 s.2 with
      | false => rfl
      | true => rw [h3, bytE_true] at h; cases h
    exact Nat.lt_of_le_of_lt (bytT_le _) (bytT_lt h2)⟩
theorem rows_le {σ α : Type} {step : σ → α × σ} {bad : σ → Bool} {m : σ → Nat} (hle : ∀ s, m (step s).2 ≤ m s) {n : Int} : ∀ (k : Nat) (acc : List α) (s : σ), m (loopD step bad n k acc s).2 ≤ m s
  | 0, acc, s => Nat.le_refl _
  | k + 1, acc, s => by
    rw [loopD]
    split
    · exact Nat.le_trans (rows_le hle k _ _) (hle s)
    · exact Nat.le_refl _
def hdT (s : RS) : RS := (bytT s.1, bytE s.1 s.2)
def nmT (s : RS) : RS := (numT s.1, numE s.1 s.2)
def stepT (s : RS) : Attr × RS := (⟨bytV s.1, (rows stepB badS lenS (numV (hdT s).1) [] (nmT (hdT s))).1⟩, (rows stepB badS lenS (numV (hdT s).1) [] (nmT (hdT s))).2)
theorem eatsT : Eats stepT badS lenS := ⟨fun s _ => by
  cases h : badS (stepT s).2 with
  | true => exact .inl rfl
  | false =>
    right
    have hle : lenS (stepT s).2 ≤ lenS (nmT (hdT s)) := rows_le (fun s => bytT_le s.1) _ _ _
    have hb : badS (nmT (hdT s)) = false := by
      cases h3 : badS (nmT (hdT s)) with
      | false => rfl
      | true =>
        unfold stepT at h
        rw [rows_end2 h3] at h
        exact (by rw [h3] at h; cases h)
    have h2 : bytE s.1 s.2 = false := by
      cases h3 : bytE s.1 s.2 with
      | false => rfl
      | true =>
        unfold badS nmT hdT at hb
        dsimp only at hb
        rw [h3, numE_true] at hb; cases hb
    have := bytT_lt h2
    have h4 : lenS (nmT (hdT s)) ≤ (bytT s.1).length := numT_len _
    unfold lenS at hle h4 ⊢
    omega⟩
/-- Bytes as an entry: what is read, how the reader stands behind it. -/
def dec1 (s : List UInt8) : List Ava × RS := rows stepA badS lenS (numV s) [] (nmT (s, false))
def dec (s : List UInt8) : List Attr × RS := rows stepT badS lenS (numV (dec1 s).2.1) [] (nmT (dec1 s).2)
def decN (s : List UInt8) : Entry := ⟨(dec1 s).1, (dec s).1⟩
theorem rows_all {σ α : Type} {step : σ → α × σ} {bad : σ → Bool} {m : σ → Nat} {Q : α → Prop} {n0 : Nat} (h : ∀ s, m s ≤ n0 → Q (step s).1 ∧ m (step s).2 ≤ n0) {n : Int} : ∀ (k : Nat) (acc : List α) (s : σ), m s ≤ n0 → (∀ a ∈ acc, Q a) → ∀ a ∈ (loopD step bad n k acc s).1, Q a
  | 0, acc, s, _, ha => ha
  | k + 1, acc, s, hs, ha => by
    rw [loopD]
    split
    · refine rows_all h k _ _ (h s hs).2 fun a hm => ?_
      rcases List.mem_append.1 hm with hm | hm
      · exact ha a hm
      · simp at hm; subst hm; exact (h s hs).1
    · exact ha
theorem rows_count {σ α : Type} {step : σ → α × σ} {bad : σ → Bool} {n : Int} : ∀ (k : Nat) (acc : List α) (s : σ), (loopD step bad n k acc s).1.length ≤ acc.length + k
  | 0, acc, s => Nat.le_refl _
  | k + 1, acc, s => by
    rw [loopD]
    split
    · have := rows_count (step := step) (bad := bad) (n := n) k (acc ++ [(step s).1]) (step s).2
      simp only [List.length_append, List.length_cons, List.length_nil] at this
      omega
    · show acc.length ≤ _
      omega
theorem stepT_le (s : RS) : lenS (stepT s).2 ≤ lenS s := by
  have hle : lenS (stepT s).2 ≤ lenS (nmT (hdT s)) := rows_le (fun s => bytT_le s.1) _ _ _
  have h4 : lenS (nmT (hdT s)) ≤ (bytT s.1).length := numT_len _
  have h5 := bytT_le s.1
  unfold lenS at *
  omega
theorem stepA_le (s : RS) : lenS (stepA s).2 ≤ lenS s := Nat.le_trans (bytT_le _) (bytT_le s.1)
theorem dec1_len (s : List UInt8) : lenS (dec1 s).2 ≤ s.length := Nat.le_trans (rows_le stepA_le _ _ _) (numT_len s)
theorem decN_sane {s : List UInt8} (h : s.length ≤ 1000000) : sane (decN s) := by
  have h0 := numT_len s
  refine ⟨?_, fun a ha => ?_, ?_, fun a ha => ?_⟩
  · have := rows_count (step := stepA) (bad := badS) (n := numV s) (lenS (nmT (s, false)) + 1) [] (nmT (s, false))
    have h1 : lenS (nmT (s, false)) ≤ s.length := h0
    have e : (decN s).dn.length = (loopD stepA badS (numV s) (lenS (nmT (s, false)) + 1) [] (nmT (s, false))).1.length := rfl
    simp only [List.length_nil] at this
    omega
  · have := rows_all (step := stepA) (bad := badS) (m := lenS) (Q := fun a : Ava => a.typ.length ≤ 1152921504606846976) (n0 := 1000000) (fun s hs => ⟨by have := bytV_le s.1; have h2 : s.1.length ≤ 1000000 := hs; show (bytV s.1).length ≤ _; omega, Nat.le_trans (stepA_le s) hs⟩) (n := numV s) (lenS (nmT (s, false)) + 1) [] (nmT (s, false)) (Nat.le_trans h0 h) (fun a ha => by simp at ha) a ha
    exact this
  · have := rows_count (step := stepT) (bad := badS) (n := numV (dec1 s).2.1) (lenS (nmT (dec1 s).2) + 1) [] (nmT (dec1 s).2)
    have h1 : lenS (nmT (dec1 s).2) ≤ (dec1 s).2.1.length := numT_len _
    have h2 : (dec1 s).2.1.length ≤ s.length := dec1_len s
    have e : (decN s).attrs.length = (loopD stepT badS (numV (dec1 s).2.1) (lenS (nmT (dec1 s).2) + 1) [] (nmT (dec1 s).2)).1.length := rfl
    simp only [List.length_nil] at this
    omega
  · have h1 : lenS (nmT (dec1 s).2) ≤ (dec1 s).2.1.length := numT_len _
    have h2 : (dec1 s).2.1.length ≤ s.length := dec1_len s
    have := rows_all (step := stepT) (bad := badS) (m := lenS) (Q := fun a : Attr => a.typ.length ≤ 1152921504606846976 ∧ a.vals.length ≤ 1152921504606846976) (n0 := 1000000) (fun s hs => ⟨by
      have h3 := bytV_le s.1
      have h4 : s.1.length ≤ 1000000 := hs
      have h5 := rows_count (step := stepB) (bad := badS) (n := numV (hdT s).1) (lenS (nmT (hdT s)) + 1) [] (nmT (hdT s))
      have h6 : lenS (nmT (hdT s)) ≤ (bytT s.1).length := numT_len _
      have h7 := bytT_le s.1
      refine ⟨show (bytV s.1).length ≤ _ by omega, ?_⟩
      have e : (stepT s).1.vals.length = (loopD stepB badS (numV (hdT s).1) (lenS (nmT (hdT s)) + 1) [] (nmT (hdT s))).1.length := rfl
      simp only [List.length_nil] at h5
      omega, Nat.le_trans (stepT_le s) hs⟩) (n := numV (dec1 s).2.1) (lenS (nmT (dec1 s).2) + 1) [] (nmT (dec1 s).2) (by omega) (fun a ha => by simp at ha) a ha
    exact this
theorem stepB_back (l r : List UInt8) (h : l.length ≤ 4611686018427387904) : stepB (bytB l ++ r, false) = (l, (r, false)) := by
  obtain ⟨h1, h2, h3⟩ := byt_bytB h r
  unfold stepB
  dsimp only
  rw [h1, h2, h3]
theorem stepA_back (a : Ava) (r : List UInt8) (h : a.typ.length ≤ 4611686018427387904 ∧ a.val.length ≤ 4611686018427387904) : stepA (avaB a ++ r, false) = (a, (r, false)) := by
  obtain ⟨h1, h2, h3⟩ := byt_bytB h.1 (bytB a.val ++ r)
  obtain ⟨k1, k2, k3⟩ := byt_bytB h.2 r
  unfold stepA avaB
  dsimp only
  rw [List.append_assoc, h1, h2, h3, k1, k2, k3]
theorem stepT_back (a : Attr) (r : List UInt8) (h : a.typ.length ≤ 4611686018427387904 ∧ a.vals.length ≤ 4611686018427387904 ∧ ∀ v ∈ a.vals, v.length ≤ 4611686018427387904) : stepT (attrB a ++ r, false) = (a, (r, false)) := by
  obtain ⟨h1, h2, h3⟩ := byt_bytB h.1 (numB a.vals.length ++ (a.vals.flatMap bytB ++ r))
  obtain ⟨k1, k2, k3⟩ := num_numB h.2.1 (a.vals.flatMap bytB ++ r)
  have e1 : attrB a ++ r = bytB a.typ ++ (numB a.vals.length ++ (a.vals.flatMap bytB ++ r)) := by unfold attrB; simp only [List.append_assoc]
  have e2 : hdT (attrB a ++ r, false) = (numB a.vals.length ++ (a.vals.flatMap bytB ++ r), false) := by unfold hdT; dsimp only; rw [e1, h2, h3]
  have e3 : nmT (hdT (attrB a ++ r, false)) = (a.vals.flatMap bytB ++ r, false) := by rw [e2]; unfold nmT; dsimp only; rw [k2, k3]
  have e4 := rows_back eatsB bytB (fun l => (l, false)) (fun _ => rfl) a.vals [] r (a.vals.length : Int) (fun x hx r => stepB_back x r (h.2.2 x hx)) (by simp)
  unfold stepT
  rw [e3, e2]
  dsimp only
  rw [k1, e4, e1, h1]
  simp
theorem dec_back {e : Entry} (h : isN e = true) : decN (encB e) = e ∧ (dec (encB e)).2 = ([], false) := by
  obtain ⟨b1, b2, b3, b4⟩ := isN_bd h
  obtain ⟨k1, k2, k3⟩ := num_numB (n := e.dn.length) (by omega) (e.dn.flatMap avaB ++ (numB e.attrs.length ++ (e.attrs.flatMap attrB ++ [])))
  obtain ⟨l1, l2, l3⟩ := num_numB (n := e.attrs.length) (by omega) (e.attrs.flatMap attrB ++ [])
  have e1 : encB e = numB e.dn.length ++ (e.dn.flatMap avaB ++ (numB e.attrs.length ++ (e.attrs.flatMap attrB ++ []))) := by unfold encB; simp only [List.append_assoc, List.append_nil]
  have r1 := rows_back eatsA avaB (fun l => (l, false)) (fun _ => rfl) e.dn [] (numB e.attrs.length ++ (e.attrs.flatMap attrB ++ [])) (e.dn.length : Int) (fun x hx r => stepA_back x r (by have := b2 x hx; omega)) (by simp)
  have d1 : dec1 (encB e) = (e.dn, (numB e.attrs.length ++ (e.attrs.flatMap attrB ++ []), false)) := by
    unfold dec1 nmT
    dsimp only
    rw [e1, k1, k2, k3, r1]
    simp
  have r2 := rows_back eatsT attrB (fun l => (l, false)) (fun _ => rfl) e.attrs [] [] (e.attrs.length : Int) (fun x hx r => stepT_back x r (by obtain ⟨c1, c2, c3⟩ := b4 x hx; exact ⟨by omega, by omega, fun v hv => by have := c3 v hv; omega⟩)) (by simp)
  have d2 : dec (encB e) = (e.attrs, ([], false)) := by
    unfold dec nmT
    rw [d1]
    dsimp only
    rw [l1, l2, l3, r2]
    simp
  refine ⟨?_, by rw [d2]⟩
  unfold decN
  rw [d1, d2]
/-- What is told of bytes. -/
def okD (s : List UInt8) : Bool := isN (decN s) && decide (encB (decN s) = s)
theorem okD_good {s : List UInt8} (h : okD s = true) : (dec s).2 = ([], false) := by
  unfold okD at h
  simp only [Bool.and_eq_true, decide_eq_true_eq] at h
  have := (dec_back h.1).2
  rwa [h.2] at this
def empE : Entry := ⟨[], []⟩
end Go.En
set_option maxRecDepth 8000
set_option linter.unusedVariables false
namespace Go.Proofs.Ytibabbepnhpaiaa
open Go.Vk
attribute [local irreducible] HT HX RegS RegA RegM OpP OpC AltT
/-- A Reader: what is left; whether it erred. -/
abbrev QX (g : Nat) (l : List UInt8) (b : Bool) : Res := ownP g 76 [TBytes l, Is (.bool b)]
abbrev EX (g : Nat) (l : List UInt8) (b : Bool) : Res := ownP g 57 [TBytes l, Is (.bool b)]
theorem rdNew (l : List UInt8) (hl : l.length ≤ 134217728) : CallsC Try.prog 20 [TBytes l] [] (fun v => Is (pAt (blk v) 0)) (fun v => [QX (blk v) l false]) := by
  have c1 := wrClone
  have mu := Mut.mk' [6]
  refine CallsC.of Try.call20 Try.func20 rfl Try.ntmps20 rfl fun w0 G0 S0 hs ho => ?_
  exact run trivial
theorem rdGood (g : Nat) (l : List UInt8) (b : Bool) : CallsC Try.prog 22 [Is (pAt g 0)] [QX g l b] (fun _ => Is (.bool (!b))) (fun _ => [QX g l b]) := by
  refine CallsC.of Try.call22 Try.func22 rfl Try.ntmps22 rfl fun w0 G0 S0 hs ho => ?_
  refine run ?_
  simp
theorem rdGoodC (l : List UInt8) (b : Bool) : CFn Try.prog 22 [TPc [TBytes l, Is (.bool b)]] (Is (.bool (!b))) := by
  refine CallsC.of Try.call22 Try.func22 rfl Try.ntmps22 rfl fun w0 G0 S0 hs ho => ?_
  refine run ?_
  simp
theorem rdBad (g : Nat) (l : List UInt8) (b : Bool) : CallsC Try.prog 48 [Is (pAt g 0)] [QX g l b] (fun _ => TTup []) (fun _ => [QX g [] true]) := by
  refine CallsC.of Try.call48 Try.func48 rfl Try.ntmps48 rfl fun w0 G0 S0 hs ho => ?_
  exact run trivial
theorem rdRaw (g : Nat) (l : List UInt8) (b : Bool) (n : Int) (hl : l.length ≤ 134217728) : CallsC Try.prog 49 [Is (pAt g 0), okI .i64 n] [QX g l b] (fun _ => TBytes (Oct.rawV l n)) (fun _ => [QX g (Oct.rawT l n) (Oct.rawE l n b)]) := by
  have c1 := wrClone
  have c2 := rdBad
  refine CallsC.of Try.call49 Try.func49 rfl Try.ntmps49 rfl fun w0 G0 S0 hs ho => ?_
  by_cases h : n < 0 ∨ (l.length : Int) < n
  · obtain ⟨e1, e2, e3⟩ := Oct.raw_no h b
    rw [e1, e2, e3]
    exact run trivial
  · obtain ⟨e1, e2, e3⟩ := Oct.raw_yes h b
    rw [e1, e2, e3]
    exact run trivial
attribute [local irreducible] Oct.rdF Oct.numV Oct.numT Oct.numE Oct.rawV Oct.rawT Oct.rawE orU shlU
set_option maxHeartbeats 4000000 in
theorem rdNum (g : Nat) (l : List UInt8) (b : Bool) (hl : l.length ≤ 134217728) : CallsC Try.prog 21 [Is (pAt g 0)] [QX g l b] (fun _ => okI .i64 (Oct.numV l)) (fun _ => [QX g (Oct.numT l) (Oct.numE l b)]) := by
  have c2 := rdBad
  refine CallsC.of Try.call21 Try.func21 rfl Try.ntmps21 rfl fun w0 G0 S0 hs ho => ?_
  refine run ?_
  intro _
  refine HT.loopX (σ := Nat × Int) [0, 11, 12] (fun t => [(2, Is (.int .i64 0)), (3, okI .u64 t.2), (13, okI .i64 (t.1 : Int))]) (fun t => [QX g l b]) (fun t => t.1 ≤ l.length ∧ Oct.rdF t.1 t.2 (l.drop t.1) = Oct.rdF 0 0 l ∧ 0 ≤ t.2 ∧ t.2 < 18446744073709551616) (fun t => l.length - t.1) (0, 0) ⟨Nat.zero_le _, rfl, by decide⟩ (run trivial) (run trivial) ?_
  rintro ⟨i, u⟩ ⟨hi, he, hu⟩
  dsimp only at hi he hu ⊢
  have hor := Oct.orU_bd u (shlU ((l.getD i 0 &&& b8 127).toNat : Int) (7 * (i : Int)))
  refine run ?_
  and_intros
  all_goals intros
  all_goals (first
    | exact HX.roundX (i + 1, orU u (shlU ((l.getD i 0 &&& b8 127).toNat : Int) (7 * (i : Int)))) ⟨⟨by dsimp only; omega, (Oct.rd_next (by omega) (by omega) (by assumption)).symm.trans he, hor⟩, by dsimp only; omega⟩ rfl (run trivial) (run trivial)
    | exact Oct.noneV (he.symm.trans (Oct.rd_end (by omega)))
    | exact Oct.noneT (he.symm.trans (Oct.rd_end (by omega)))
    | exact Oct.noneE (he.symm.trans (Oct.rd_end (by omega)))
    | exact Oct.noneV (he.symm.trans (Oct.rd_no (by omega) (by omega)))
    | exact Oct.noneT (he.symm.trans (Oct.rd_no (by omega) (by omega)))
    | exact Oct.noneE (he.symm.trans (Oct.rd_no (by omega) (by omega)))
    | exact Oct.someV (he.symm.trans (Oct.rd_good (by omega) (by omega) (by assumption) (by assumption)))
    | exact Oct.someT (he.symm.trans (Oct.rd_good (by omega) (by omega) (by assumption) (by assumption))) (by rw [show ((i : Int) + 1).toNat = i + 1 by omega])
    | exact Oct.someE (he.symm.trans (Oct.rd_good (by omega) (by omega) (by assumption) (by assumption))))
theorem rdBytes (g : Nat) (l : List UInt8) (b : Bool) (hl : l.length ≤ 134217728) : CallsC Try.prog 23 [Is (pAt g 0)] [QX g l b] (fun _ => TBytes (Oct.bytV l)) (fun _ => [QX g (Oct.bytT l) (Oct.bytE l b)]) := by
  have c1 := rdNum
  have c2 := rdRaw
  have ht := Oct.numT_len l
  unfold Oct.bytV Oct.bytT Oct.bytE
  refine CallsC.of Try.call23 Try.func23 rfl Try.ntmps23 rfl fun w0 G0 S0 hs ho => ?_
  exact run trivial
theorem rfBad (g : Nat) (l : List UInt8) (b : Bool) : CallsC Try.prog 51 [Is (pAt g 0)] [EX g l b] (fun _ => TTup []) (fun _ => [EX g [] true]) := by
  refine CallsC.of Try.call51 Try.func51 rfl Try.ntmps51 rfl fun w0 G0 S0 hs ho => ?_
  exact run trivial
theorem rfRaw (g : Nat) (l : List UInt8) (b : Bool) (n : Int) (hb : b = true → l = []) (hl : l.length ≤ 134217728) : CallsC Try.prog 50 [Is (pAt g 0), okI .i64 n] [EX g l b] (fun _ => TBytes (Oct.rawV l n)) (fun _ => [EX g (Oct.rawT l n) (Oct.rawE l n b)]) := by
  have c2 := rfBad
  refine CallsC.of Try.call50 Try.func50 rfl Try.ntmps50 rfl fun w0 G0 S0 hs ho => ?_
  by_cases h : n < 0 ∨ (l.length : Int) < n
  · obtain ⟨e1, e2, e3⟩ := Oct.raw_no h b
    rw [e1, e2, e3]
    exact run trivial
  · obtain ⟨e1, e2, e3⟩ := Oct.raw_yes h b
    rw [e1, e2, e3]
    cases b with
    | true =>
      have := hb rfl
      subst this
      refine run ?_
      simp
    | false =>
      refine run ?_
      intros
      rfl
set_option maxHeartbeats 4000000 in
theorem rfNumR (g : Nat) (l : List UInt8) (b : Bool) (hb : b = true → l = []) (hl : l.length ≤ 134217728) : CallsC Try.prog 25 [Is (pAt g 0)] [EX g l b] (fun _ => okI .i64 (Oct.numV l)) (fun _ => [EX g (Oct.numT l) (Oct.numE l b)]) := by
  have c2 := rfBad
  refine CallsC.of Try.call25 Try.func25 rfl Try.ntmps25 rfl fun w0 G0 S0 hs ho => ?_
  refine run ?_
  refine HT.loopX (σ := Nat × Int) [0] (fun t => [(2, Is (.int .i64 0)), (3, okI .u64 t.2), (4, okI .i64 (t.1 : Int))]) (fun t => [EX g (l.drop t.1) b]) (fun t => t.1 ≤ 9 ∧ Oct.rdF t.1 t.2 (l.drop t.1) = Oct.rdF 0 0 l ∧ 0 ≤ t.2 ∧ t.2 < 18446744073709551616) (fun t => 10 - t.1) (0, 0) ⟨Nat.zero_le _, rfl, by decide⟩ (run ?_) (run trivial) ?_
  · rfl
  rintro ⟨i, u⟩ ⟨hi, he, hu⟩
  dsimp only at hi he hu ⊢
  have hor := Oct.orU_bd u (shlU ((l.getD i 0 &&& b8 127).toNat : Int) (7 * (i : Int)))
  have hn := Oct.or_nine (i := (i : Int)) (c := l.getD i 0) hu
  have hbd : b = true → l.drop i = [] := fun h => by rw [hb h]; simp
  have c1 := rfRaw g (l.drop i) b 1 hbd (by rw [List.length_drop]; omega)
  by_cases hlt : i < l.length
  · have hb0 : b = false := by
      cases b with
      | false => rfl
      | true => exfalso; rw [hb rfl] at hlt; simp at hlt
    subst hb0
    obtain ⟨e1, e2, e3⟩ := Oct.raw_one hlt false
    rw [e1, e2, e3] at c1
    have hor2 := Oct.orU_bd u (shlU (([l.getD i 0].getD 0 0 &&& b8 127).toNat : Int) (7 * (i : Int)))
    refine run ?_
    simp only [List.getD_cons_zero]
    and_intros
    all_goals intros
    all_goals (first
      | exact HX.roundX (i + 1, orU u (shlU ((l.getD i 0 &&& b8 127).toNat : Int) (7 * (i : Int)))) ⟨⟨by dsimp only; omega, (Oct.rd_next (by omega) (by omega) (by omega)).symm.trans he, hor⟩, by dsimp only; omega⟩ rfl (run trivial) (run trivial)
      | exact Oct.noneV (he.symm.trans (Oct.rd_no (by omega) (by omega)))
      | exact Oct.noneT (he.symm.trans (Oct.rd_no (by omega) (by omega)))
      | exact Oct.noneE (he.symm.trans (Oct.rd_no (by omega) (by omega)))
      | exact Oct.someV (he.symm.trans (Oct.rd_good (by omega) (by omega) (by omega) (by omega)))
      | exact Oct.someT (he.symm.trans (Oct.rd_good (by omega) (by omega) (by omega) (by omega))) rfl
      | exact Oct.someE (he.symm.trans (Oct.rd_good (by omega) (by omega) (by omega) (by omega))))
  · obtain ⟨e1, e2, e3⟩ := Oct.raw_end hlt b
    rw [e1, e2, e3] at c1
    have hz := he.symm.trans (Oct.rd_end hlt)
    refine run ?_
    exact ⟨fun _ _ => Oct.noneT hz, fun _ _ => Oct.noneE hz, fun _ _ => Oct.noneV hz⟩
end Go.Proofs.Ytibabbepnhpaiaa
set_option maxRecDepth 8000
set_option linter.unusedVariables false
namespace Go.Proofs.Ytibabbepnhpaiaa
open Go.Vk
attribute [local irreducible] HT HX RegS RegA RegM OpP OpC AltT
attribute [local irreducible] Oct.numV Oct.numT Oct.numE Oct.rawV Oct.rawT Oct.rawE
theorem rfBytesR (g : Nat) (l : List UInt8) (b : Bool) (hb : b = true → l = []) (hl : l.length ≤ 134217728) : CallsC Try.prog 26 [Is (pAt g 0)] [EX g l b] (fun _ => TBytes (Oct.bytV l)) (fun _ => [EX g (Oct.bytT l) (Oct.bytE l b)]) := by
  have c1 := rfNumR g l b hb hl
  have ht := Oct.numT_len l
  have hn := Oct.numE_nil hb
  have c2 := fun n => rfRaw g (Oct.numT l) (Oct.numE l b) n hn (by omega)
  unfold Oct.bytV Oct.bytT Oct.bytE
  refine CallsC.of Try.call26 Try.func26 rfl Try.ntmps26 rfl fun w0 G0 S0 hs ho => ?_
  cases he : Oct.numE l b with
  | true =>
    have h0 := hn he
    have h1 : Oct.numV l = 0 := Oct.numV_of he hb
    have h2 := Oct.raw_nil
    rw [he] at c1 c2
    rw [h0, h1]
    rw [h0] at c1
    rw [h1] at c1
    refine run ?_
    exact ⟨fun _ => h2.2.1.symm, fun _ => (h2.2.2 true).symm, fun _ => h2.1.symm⟩
  | false =>
    rw [he] at c1 c2
    exact run trivial
end Go.Proofs.Ytibabbepnhpaiaa
set_option maxRecDepth 8000
set_option linter.unusedVariables false
namespace Go.Proofs.Ytibabbepnhpaiaa
open Go.Vk
attribute [local irreducible] HT HX RegS RegA RegM OpP OpC AltT
theorem stepT_def (l : List UInt8) (b : Bool) : En.stepT (l, b) = (⟨Oct.bytV l, (Oct.rows Oct.stepB Oct.badS Oct.lenS (Oct.numV (Oct.bytT l)) [] (En.nmT (En.hdT (l, b)))).1⟩, (Oct.rows Oct.stepB Oct.badS Oct.lenS (Oct.numV (Oct.bytT l)) [] (En.nmT (En.hdT (l, b)))).2) := rfl
attribute [local irreducible] Oct.numV Oct.numT Oct.numE Oct.bytV Oct.bytT Oct.bytE Oct.rows En.stepT
theorem enAttr (g : Nat) (l : List UInt8) (b : Bool) (hl : l.length ≤ 1000000) : CallsC Try.prog 24 [Is (pAt g 0)] [QX g l b] (fun _ => TAgg (En.cAttr (En.stepT (l, b)).1)) (fun _ => [QX g (En.stepT (l, b)).2.1 (En.stepT (l, b)).2.2]) := by
  rw [stepT_def]
  have c1 := rdNum
  have c2 := rdBytes
  have c3 := rdGoodC
  have h1 := Oct.bytT_le l
  have h2 := Oct.numT_len (Oct.bytT l)
  have pl := Plan.mk' 4 [(0,3,[]),(2,3,[]),(7,3,[]),(1,2,[2]),(3,0,[2]),(4,3,[]),(5,3,[]),(6,0,[]),(8,0,[])]
  refine CallsC.of Try.call24 Try.func24 rfl Try.ntmps24 rfl fun w0 G0 S0 hs ho => ?_
  refine run ?_
  intro v1 v2
  refine HT.loopX (σ := List (List UInt8) × Oct.RS × Value) [0, 2, 3, 4] (fun t => []) (fun t => [QX g t.2.1.1 t.2.1.2, ownP (blk v1) 46 [Is (str []), Is (.slice none 0 0)], ownP (blk v2) 46 [Is (str (Oct.bytV l)), TAnd (Is t.2.2) (TSl 1 En.cS t.1)], ownSl t.2.2 1 9]) (fun t => Oct.rows Oct.stepB Oct.badS Oct.lenS (Oct.numV (Oct.bytT l)) t.1 t.2.1 = Oct.rows Oct.stepB Oct.badS Oct.lenS (Oct.numV (Oct.bytT l)) [] (En.nmT (En.hdT (l, b))) ∧ Oct.Left l.length t.1.length t.2.1) (fun t => Oct.leftN t.2.1) ([], En.nmT (En.hdT (l, b)), .slice none 0 0) ⟨rfl, Oct.Left.start (Nat.le_trans h2 h1)⟩ (run ?_) (run trivial) ?_
  · exact ⟨rfl, rfl⟩
  rintro ⟨acc, ⟨r, e⟩, v⟩ ⟨hr, hlen⟩
  dsimp only at hr hlen ⊢
  have hb := hlen.bd
  have hbr := hlen.bl
  dsimp only at hb hbr
  refine run ?_
  refine ⟨fun v' hc => ?_, fun hc => ?_, fun hc => ?_, fun hc => ?_⟩
  · have hgo := Oct.rows_go Oct.eatsB hc.1 (s := (r, e)) hc.2
    rw [hgo] at hr
    have hlf := hlen.next (s' := (Oct.stepB (r, e)).2) hc.2 (Oct.eatsB.eat (r, e) hc.2) (Oct.bytT_le r)
    refine HX.roundX (acc ++ [Oct.bytV r], (Oct.bytT r, Oct.bytE r e), v') ⟨⟨hr, by dsimp only; rw [List.length_append]; exact hlf.1⟩, hlf.2⟩ rfl (run trivial) (run trivial)
  all_goals
    rw [Oct.rows_end (by intro x; rcases hc with h | h; exact h x.1; exact Bool.noConfusion (h.symm.trans x.2))] at hr
  · exact congrArg (fun x => x.2.1) hr
  · exact congrArg (fun x => x.2.2) hr
  · exact congrArg (fun x => x.1) hr
theorem dec1_def (s : List UInt8) : En.dec1 s = Oct.rows En.stepA Oct.badS Oct.lenS (Oct.numV s) [] (En.nmT (s, false)) := rfl
theorem dec_def (s : List UInt8) : En.dec s = Oct.rows En.stepT Oct.badS Oct.lenS (Oct.numV (En.dec1 s).2.1) [] (En.nmT (En.dec1 s).2) := rfl
theorem decN_def (s : List UInt8) : En.decN s = ⟨(En.dec1 s).1, (En.dec s).1⟩ := rfl
theorem okD_no {s : List UInt8} (h : En.isN (En.decN s) = false ∨ ¬ En.encB (En.decN s) = s) : En.okD s = false := by
  unfold En.okD
  rcases h with h | h
  · rw [h]; rfl
  · rw [decide_eq_false h]; simp
theorem okD_yes {s : List UInt8} (h : En.isN (En.decN s) = true ∧ En.encB (En.decN s) = s) : En.okD s = true := by
  unfold En.okD
  rw [h.1, decide_eq_true h.2]; rfl
attribute [local irreducible] Dn.typB Dn.isE Dn.okA En.okT En.isN Oct.bytB En.avaB En.attrB En.encB En.dec1 En.dec En.decN En.okD
set_option maxRecDepth 8000 in
set_option maxHeartbeats 4000000 in
theorem enDecode (s : List UInt8) (hl : s.length ≤ 1000000) : CFn Try.prog 6 [Is (str s)] (TTup [TAgg (En.cEnt (if En.okD s = true then En.decN s else En.empE)), okI .i64 (if En.okD s = true then 0 else 3)]) := by
  have c0 := rdNew
  have c1 := rdNum
  have c2 := rdBytes
  have c3 := rdGoodC
  have c4 := enAttr
  have h1 := Oct.numT_len s
  have pl1 := Plan.mk' 5 [(0,3,[]),(2,3,[]),(5,3,[]),(1,2,[1]),(3,0,[1]),(4,3,[]),(6,0,[1]),(7,3,[]),(8,3,[]),(9,3,[]),(10,0,[]),(11,3,[]),(12,0,[])]
  have pl2 := Plan.mk' 8 [(0,3,[]),(2,3,[]),(1,2,[1]),(3,0,[1]),(4,3,[]),(5,0,[]),(6,3,[]),(7,0,[])]
  refine CallsC.of Try.call6 Try.func6 rfl Try.ntmps6 rfl fun w0 G0 S0 hs ho => ?_
  refine run ?_
  intro v1 v2 v3
  refine HT.loopX (σ := List Dn.Ava × Oct.RS × Value) [0, 2, 3, 4, 5, 6] (fun t => []) (fun t => [ownP (blk v1) 25 [Is (.slice none 0 0), Is (.slice none 0 0)], ownP (blk v2) 25 [TAnd (Is t.2.2) (TSl 2 Dn.cAva t.1), Is (.slice none 0 0)], QX (blk v3) t.2.1.1 t.2.1.2, ownSl t.2.2 2 53]) (fun t => Oct.rows En.stepA Oct.badS Oct.lenS (Oct.numV s) t.1 t.2.1 = En.dec1 s ∧ Oct.Left s.length t.1.length t.2.1) (fun t => Oct.leftN t.2.1) ([], En.nmT (s, false), .slice none 0 0) ⟨(dec1_def s).symm, Oct.Left.start h1⟩ (run ?_) (run trivial) ?_
  · exact ⟨rfl, rfl⟩
  rintro ⟨acc, ⟨r, e⟩, v⟩ ⟨hr, hlen⟩
  dsimp only at hr hlen ⊢
  have hb := hlen.bd
  have hbr := hlen.bl
  dsimp only at hb hbr
  have hb1 := Oct.bytT_le r
  refine run ?_
  refine ⟨fun v' hc => ?_, fun hc => ?_⟩
  · have hgo := Oct.rows_go En.eatsA hc.1 (s := (r, e)) hc.2
    rw [hgo] at hr
    have hlf := hlen.next (s' := (En.stepA (r, e)).2) hc.2 (En.eatsA.eat (r, e) hc.2) (Nat.le_trans (Oct.bytT_le _) (Oct.bytT_le r))
    refine HX.roundX (acc ++ [⟨Oct.bytV r, Oct.bytV (Oct.bytT r)⟩], (Oct.bytT (Oct.bytT r), Oct.bytE (Oct.bytT r) (Oct.bytE r e)), v') ⟨⟨hr, by dsimp only; rw [List.length_append]; exact hlf.1⟩, hlf.2⟩ rfl (run trivial) (run trivial)
  have hd1 : En.dec1 s = (acc, (r, e)) := by
    rw [← hr, Oct.rows_end (by intro x; rcases hc with h | h; exact h x.1; exact Bool.noConfusion (h.symm.trans x.2))]
  have h2 := Oct.numT_len r
  refine HT.loopX (σ := List En.Attr × Oct.RS × Value) [0, 2, 3, 4, 5, 7] (fun t => []) (fun t => [ownP (blk v1) 25 [Is (.slice none 0 0), Is (.slice none 0 0)], ownP (blk v2) 25 [TAnd (Is v) (TSl 2 Dn.cAva acc), TAnd (Is t.2.2) (TSl 2 En.cAttr t.1)], QX (blk v3) t.2.1.1 t.2.1.2, ownSl t.2.2 2 46]) (fun t => Oct.rows En.stepT Oct.badS Oct.lenS (Oct.numV r) t.1 t.2.1 = En.dec s ∧ Oct.Left s.length t.1.length t.2.1) (fun t => Oct.leftN t.2.1) ([], En.nmT (r, e), .slice none 0 0) ⟨by rw [dec_def, hd1], Oct.Left.start (Nat.le_trans h2 hbr)⟩ (run ?_) (run trivial) ?_
  · exact ⟨rfl, rfl⟩
  rintro ⟨bcc, ⟨q, f⟩, u⟩ ⟨hq1, hqlen⟩
  dsimp only at hq1 hqlen ⊢
  have hqb := hqlen.bd
  have hqbr := hqlen.bl
  dsimp only at hqb hqbr
  refine run ?_
  refine ⟨fun v' hc => ?_, fun hc => ?_⟩
  · have hgo := Oct.rows_go En.eatsT hc.1 (s := (q, f)) hc.2
    rw [hgo] at hq1
    have hlf := hqlen.next (s' := (En.stepT (q, f)).2) hc.2 (En.eatsT.eat (q, f) hc.2) (En.stepT_le (q, f))
    exact HX.roundX (bcc ++ [(En.stepT (q, f)).1], (En.stepT (q, f)).2, v') ⟨⟨hq1, by dsimp only; rw [List.length_append]; exact hlf.1⟩, hlf.2⟩ rfl (run trivial) (run trivial)
  have hd2 : En.dec s = (bcc, (q, f)) := by
    rw [← hq1, Oct.rows_end (by intro x; rcases hc with h | h; exact h x.1; exact Bool.noConfusion (h.symm.trans x.2))]
  have hdn : En.decN s = ⟨acc, bcc⟩ := by rw [decN_def, hd1, hd2]
  have hsn := En.decN_sane hl
  have c5 := enEncode (En.decN s) hsn
  have hk1 := okD_no (s := s)
  have hk2 := okD_yes (s := s)
  rw [hdn] at c5 hk1 hk2 ⊢
  clear c0 c1 c2 c3 c4
  by_cases hN : En.isN ⟨acc, bcc⟩ = true
  · rw [if_pos hN, if_pos hN] at c5
    by_cases hE : En.encB ⟨acc, bcc⟩ = s
    · rw [hE] at c5
      rw [hk2 ⟨hN, hE⟩, if_pos rfl, if_pos rfl]
      refine run ?_
      exact ⟨fun h => absurd rfl h, fun h => absurd rfl h, fun h => absurd rfl h⟩
    · rw [hk1 (.inr hE), if_neg (by simp), if_neg (by simp)]
      refine run ?_
      exact ⟨fun _ => rfl, fun _ => rfl, fun h => (h hE).elim, fun h => (h hE).elim, fun h => (h hE).elim⟩
  · rw [if_neg hN, if_neg hN] at c5
    rw [hk1 (.inl (by simpa using hN)), if_neg (by simp), if_neg (by simp)]
    refine run ?_
    exact ⟨fun _ => rfl, fun _ => rfl⟩
end Go.Proofs.Ytibabbepnhpaiaa
set_option maxRecDepth 8000
set_option linter.unusedVariables false
namespace Go.Proofs.Ytibabbepnhpaiaa
open Go.Vk
attribute [local irreducible] HT HX RegS RegA RegM OpP OpC AltT
attribute [local irreducible] Oct.numV Oct.numT Oct.numE Oct.bytV Oct.bytT Oct.bytE Oct.rows En.stepT Dn.typB Dn.isE Dn.okA En.okT En.isN Oct.bytB En.avaB En.attrB En.encB En.dec1 En.dec En.decN En.okD
set_option maxRecDepth 8000 in
set_option maxHeartbeats 8000000 in
theorem rf20Decode (s : List UInt8) (hl : s.length ≤ 1000000) : CFn Try.prog 7 [Is (str s)] (TTup [TAgg (En.cEnt (if En.okD s = true then En.decN s else En.empE)), okI .i64 (if En.okD s = true then 0 else 3)]) := by
  have c1 := rfNumR
  have c2 := rfBytesR
  have h1 := Oct.numT_len s
  have mu := Mut.mk' [19]
  have pl1 := Plan.mk' 19 [(0,3,[]),(2,3,[]),(7,3,[]),(1,2,[4]),(3,0,[4]),(4,3,[]),(5,3,[]),(6,0,[]),(8,0,[])]
  have hb0 : Oct.numE s false = true → Oct.numT s = [] := Oct.numE_nil (by simp)
  refine CallsC.of Try.call7 Try.func7 rfl Try.ntmps7 rfl fun w0 G0 S0 hs ho => ?_
  refine run ?_
  refine ⟨fun v1 v2 v3 => ?_, by simp⟩
  refine HT.loopX (σ := List Dn.Ava × Oct.RS × Value) [0, 2, 3, 4, 5, 6] (fun t => [(7, okI .i64 (t.1.length : Int))]) (fun t => [ownP (blk v1) 25 [Is (.slice none 0 0), Is (.slice none 0 0)], EX (blk v2) t.2.1.1 t.2.1.2, ownP (blk v3) 25 [TAnd (Is t.2.2) (TSl 2 Dn.cAva t.1), Is (.slice none 0 0)], ownSl t.2.2 2 53]) (fun t => Oct.rows En.stepA Oct.badS Oct.lenS (Oct.numV s) t.1 t.2.1 = En.dec1 s ∧ Oct.Left s.length t.1.length t.2.1 ∧ (t.2.1.2 = true → t.2.1.1 = [])) (fun t => Oct.leftN t.2.1) ([], En.nmT (s, false), .slice none 0 0) ⟨(dec1_def s).symm, Oct.Left.start h1, hb0⟩ (run ?_) (run trivial) ?_
  · exact ⟨rfl, rfl⟩
  rintro ⟨acc, ⟨r, e⟩, v⟩ ⟨hr, hlen, he⟩
  dsimp only at hr hlen he ⊢
  have hb := hlen.bd
  have hbr := hlen.bl
  dsimp only at hb hbr
  have hb1 := Oct.bytT_le r
  have he1 : Oct.bytE r e = true → Oct.bytT r = [] := Oct.bytE_nil he
  have he2 : Oct.bytE (Oct.bytT r) (Oct.bytE r e) = true → Oct.bytT (Oct.bytT r) = [] := Oct.bytE_nil he1
  refine run ?_
  refine ⟨fun v4 v' hc => ?_, fun hc => ?_⟩
  · have hgo := Oct.rows_go En.eatsA hc.1 (s := (r, e)) hc.2
    rw [hgo] at hr
    have hlf := hlen.next (s' := (En.stepA (r, e)).2) hc.2 (En.eatsA.eat (r, e) hc.2) (En.stepA_le (r, e))
    exact HX.roundX (acc ++ [⟨Oct.bytV r, Oct.bytV (Oct.bytT r)⟩], (Oct.bytT (Oct.bytT r), Oct.bytE (Oct.bytT r) (Oct.bytE r e)), v') ⟨⟨hr, by dsimp only; rw [List.length_append]; exact hlf.1, he2⟩, hlf.2⟩ rfl (run trivial) (run trivial)
  have hd1 : En.dec1 s = (acc, (r, e)) := by
    rw [← hr, Oct.rows_end (by intro x; rcases hc with h | h; exact h x.1; exact Bool.noConfusion (h.symm.trans x.2))]
  have h2 := Oct.numT_len r
  have he3 : Oct.numE r e = true → Oct.numT r = [] := Oct.numE_nil he
  clear hb1 he1 he2
  refine HT.loopX (σ := List En.Attr × Oct.RS × Value) [0, 2, 3, 4, 5, 9] (fun t => [(10, okI .i64 (t.1.length : Int))]) (fun t => [ownP (blk v1) 25 [Is (.slice none 0 0), Is (.slice none 0 0)], EX (blk v2) t.2.1.1 t.2.1.2, ownP (blk v3) 25 [TAnd (Is v) (TSl 2 Dn.cAva acc), TAnd (Is t.2.2) (TSl 2 En.cAttr t.1)], ownSl t.2.2 2 46]) (fun t => Oct.rows En.stepT Oct.badS Oct.lenS (Oct.numV r) t.1 t.2.1 = En.dec s ∧ Oct.Left s.length t.1.length t.2.1 ∧ (t.2.1.2 = true → t.2.1.1 = [])) (fun t => Oct.leftN t.2.1) ([], En.nmT (r, e), .slice none 0 0) ⟨by rw [dec_def, hd1], Oct.Left.start (Nat.le_trans h2 hbr), he3⟩ (run ?_) (run trivial) ?_
  · exact ⟨rfl, rfl⟩
  rintro ⟨bcc, ⟨q, f⟩, u⟩ ⟨hq1, hqlen, hf⟩
  dsimp only at hq1 hqlen hf ⊢
  have hqb := hqlen.bd
  have hqbr := hqlen.bl
  dsimp only at hqb hqbr
  have hf1 : Oct.bytE q f = true → Oct.bytT q = [] := Oct.bytE_nil hf
  have hf2 : Oct.numE (Oct.bytT q) (Oct.bytE q f) = true → Oct.numT (Oct.bytT q) = [] := Oct.numE_nil hf1
  have h3 := Oct.bytT_le q
  have h4 := Oct.numT_len (Oct.bytT q)
  refine run ?_
  refine ⟨fun v4 hc => ?_, fun hc => ?_⟩
  · have hgo := Oct.rows_go En.eatsT hc.1 (s := (q, f)) hc.2
    rw [hgo, stepT_def] at hq1
    have hlf := hqlen.next (s' := (En.stepT (q, f)).2) hc.2 (En.eatsT.eat (q, f) hc.2) (En.stepT_le (q, f))
    rw [stepT_def] at hlf
    refine HT.loopX (σ := List (List UInt8) × Oct.RS × Value) [0, 2, 3, 4, 5, 9, 10, 11, 12] (fun t => [(13, okI .i64 (t.1.length : Int))]) (fun t => [ownP (blk v1) 25 [Is (.slice none 0 0), Is (.slice none 0 0)], EX (blk v2) t.2.1.1 t.2.1.2, ownP (blk v3) 25 [TAnd (Is v) (TSl 2 Dn.cAva acc), TAnd (Is u) (TSl 2 En.cAttr bcc)], ownSl u 2 46, ownP (blk v4) 46 [Is (str (Oct.bytV q)), TAnd (Is t.2.2) (TSl 1 En.cS t.1)], ownSl t.2.2 1 9]) (fun t => Oct.rows Oct.stepB Oct.badS Oct.lenS (Oct.numV (Oct.bytT q)) t.1 t.2.1 = Oct.rows Oct.stepB Oct.badS Oct.lenS (Oct.numV (Oct.bytT q)) [] (En.nmT (En.hdT (q, f))) ∧ Oct.Left s.length t.1.length t.2.1 ∧ (t.2.1.2 = true → t.2.1.1 = [])) (fun t => Oct.leftN t.2.1) ([], En.nmT (En.hdT (q, f)), .slice none 0 0) ⟨rfl, Oct.Left.start (Nat.le_trans h4 (Nat.le_trans h3 hqbr)), hf2⟩ (run ?_) (run trivial) ?_
    · exact ⟨rfl, rfl⟩
    rintro ⟨ccc, ⟨p, k⟩, x⟩ ⟨hp, hplen, hk⟩
    dsimp only at hp hplen hk ⊢
    have hpb := hplen.bd
    have hpbr := hplen.bl
    dsimp only at hpb hpbr
    have hk1 : Oct.bytE p k = true → Oct.bytT p = [] := Oct.bytE_nil hk
    have h5 := Oct.bytT_le p
    refine run ?_
    refine ⟨fun v' hc2 => ?_, fun u' hc2 => ?_⟩
    · have hgo2 := Oct.rows_go Oct.eatsB hc2.1 (s := (p, k)) hc2.2
      rw [hgo2] at hp
      have hlf2 := hplen.next (s' := (Oct.stepB (p, k)).2) hc2.2 (Oct.eatsB.eat (p, k) hc2.2) (Oct.bytT_le p)
      exact HX.roundX (ccc ++ [Oct.bytV p], (Oct.bytT p, Oct.bytE p k), v') ⟨⟨hp, by dsimp only; rw [List.length_append]; exact hlf2.1, hk1⟩, hlf2.2⟩ rfl (run trivial) (run trivial)
    · rw [Oct.rows_end (by intro x; rcases hc2 with h | h; exact h x.1; exact Bool.noConfusion (h.symm.trans x.2))] at hp
      rw [← hp] at hq1 hlf
      exact HX.roundX (bcc ++ [⟨Oct.bytV q, ccc⟩], (p, k), u') ⟨⟨hq1, by dsimp only; rw [List.length_append]; exact hlf.1, hk⟩, hlf.2⟩ rfl (run trivial) (run trivial)
  have hd2 : En.dec s = (bcc, (q, f)) := by
    rw [← hq1, Oct.rows_end (by intro x; rcases hc with h | h; exact h x.1; exact Bool.noConfusion (h.symm.trans x.2))]
  have hdn : En.decN s = ⟨acc, bcc⟩ := by rw [decN_def, hd1, hd2]
  have hsn := En.decN_sane hl
  have c5 := rf20Encode (En.decN s) hsn
  have hk1 := okD_no (s := s)
  have hk2 := okD_yes (s := s)
  have hk3 : En.okD s = true → f = false := fun h => by
    have := En.okD_good h
    rw [hd2] at this
    exact congrArg (fun x => x.2) this
  rw [hdn] at c5 hk1 hk2 ⊢
  clear c1 c2
  by_cases hN : En.isN ⟨acc, bcc⟩ = true
  · rw [if_pos hN, if_pos hN] at c5
    by_cases hE : En.encB ⟨acc, bcc⟩ = s
    · rw [hE] at c5
      have hok := hk2 ⟨hN, hE⟩
      have hf0 := hk3 hok
      subst hf0
      rw [hok, if_pos rfl, if_pos rfl]
      refine run ?_
      exact ⟨fun h => absurd rfl h, fun h => absurd rfl h, fun h => absurd rfl h⟩
    · rw [hk1 (.inr hE), if_neg (by simp), if_neg (by simp)]
      refine run ?_
      exact ⟨fun _ => rfl, fun _ => rfl, fun h => (h.2 hE).elim, fun h => (h.2 hE).elim, fun h => (h.2 hE).elim⟩
  · rw [if_neg hN, if_neg hN] at c5
    rw [hk1 (.inl (by simpa using hN)), if_neg (by simp), if_neg (by simp)]
    refine run ?_
    exact ⟨fun _ => rfl, fun _ => rfl⟩
end Go.Proofs.Ytibabbepnhpaiaa
set_option linter.unusedVariables false
namespace Go.Vk
def seqT : List PlanE → CT
  | [] => .leaf
  | e :: r => .br e (seqT r) .leaf
def altT : CT → CT → CT
  | .leaf, s => s
  | .br e t r, s => .br e t (altT r s)
end Go.Vk
set_option maxRecDepth 8000
set_option linter.unusedVariables false
namespace Go.Proofs.Ytibabbepnhpaiaa
open Go.Vk
attribute [local irreducible] HT HX RegS RegA RegM OpP OpC AltT
theorem txtEq (l m : List (List UInt8)) (hl : l.length ≤ 1152921504606846976) : CFn Try.prog 43 [TSl 1 En.cS l, TSl 1 En.cS m] (Is (.bool (decide (l = m)))) := by
  refine CallsC.of Try.call43 Try.func43 rfl Try.ntmps43 rfl fun w0 G0 S0 hs ho => ?_
  refine run ?_
  refine ⟨?_, ?_⟩
  · intro h
    exact (decide_eq_false (fun e => h (by rw [e]))).symm
  intro hc
  refine HT.loopX (σ := Nat) [0, 1, 12] (fun i => [(13, okI .i64 (i : Int))]) (fun _ => []) (fun i => i ≤ l.length ∧ l.take i = m.take i) (fun i => l.length - i) 0 ⟨Nat.zero_le _, rfl⟩ (run trivial) (run trivial) ?_
  rintro i ⟨hi, he⟩
  have hc' : l.length = m.length := by
    have : (l.length : Int) = (m.length : Int) := Decidable.not_not.1 hc
    omega
  refine run ?_
  and_intros
  all_goals intros
  · rename_i h1 h2
    exact (decide_eq_false (fun e => h2 (by rw [e]))).symm
  · rename_i h1 h2
    exact HX.roundX (i + 1) ⟨⟨by omega, En.take_ext (by omega) hc' he (Decidable.not_not.1 h2)⟩, by omega⟩ rfl (run trivial) (run trivial)
  · rename_i h1
    exact (decide_eq_true (En.take_all h1 hc' he)).symm
theorem enSame1 (a b : En.Attr) (h : a.vals.length ≤ 1152921504606846976) : CFn Try.prog 42 [TAgg (En.cAttr a), TAgg (En.cAttr b)] (Is (.bool (decide (a = b)))) := by
  have c1 := txtEq a.vals b.vals h
  have e : decide (a = b) = (decide (a.typ = b.typ) && decide (a.vals = b.vals)) := by
    rw [← Bool.decide_and]
    exact decide_eq_decide.2 ⟨fun h => by rw [h]; exact ⟨rfl, rfl⟩, fun h => En.Attr.ext' h.1 h.2⟩
  rw [e]
  refine CallsC.of Try.call42 Try.func42 rfl Try.ntmps42 rfl fun w0 G0 S0 hs ho => ?_
  exact run trivial
theorem attrEq {f : FuncId} {Cs : List Ty} (l m : List En.Attr) (hl : l.length ≤ 1152921504606846976) (cf : ∀ a ∈ l, ∀ b, CFn Try.prog f ([TAgg (En.cAttr a), TAgg (En.cAttr b)] ++ Cs) (Is (.bool (decide (a = b))))) : CFn Try.prog 41 [TSl 2 En.cAttr l, TSl 2 En.cAttr m, TFn f Cs] (Is (.bool (decide (l = m)))) := by
  refine CallsC.of Try.call41 Try.func41 rfl Try.ntmps41 rfl fun w0 G0 S0 hs ho => ?_
  refine run ?_
  refine ⟨?_, ?_⟩
  · intro h
    exact (decide_eq_false (fun e => h (by rw [e]))).symm
  intro hc
  refine HT.loopX (σ := Nat) [1, 2, 15, 16] (fun i => [(17, okI .i64 (i : Int))]) (fun _ => []) (fun i => i ≤ l.length ∧ l.take i = m.take i) (fun i => l.length - i) 0 ⟨Nat.zero_le _, rfl⟩ (run trivial) (run trivial) ?_
  rintro i ⟨hi, he⟩
  have hc' : l.length = m.length := by
    have : (l.length : Int) = (m.length : Int) := Decidable.not_not.1 hc
    omega
  have cf' := fun (hlt : i < l.length) => cf (l.getD i default) (En.getD_mem hlt) (m.getD i default)
  clear cf
  refine run ?_
  refine ⟨fun _ _ h1 h2 => ?_, fun _ _ h1 h2 => ?_, fun h1 => ?_⟩
  · exact (decide_eq_false (fun e => h2 (by rw [e]))).symm
  · exact HX.roundX (i + 1) ⟨⟨by omega, En.take_ext (by omega) hc' he h2⟩, by omega⟩ rfl (run trivial) (run trivial)
  · exact (decide_eq_true (En.take_all h1 hc' he)).symm
theorem enSame (a b : En.Entry) (h : En.sane a) : CFn Try.prog 18 [TAgg (En.cEnt a), TAgg (En.cEnt b)] (Is (.bool (decide (a = b)))) := by
  have c1 := avaEq a.dn b.dn h.1
  have c2 := attrEq (f := 42) (Cs := []) a.attrs b.attrs h.2.2.1 (fun x hx y => enSame1 x y (h.2.2.2 x hx).2)
  have e : decide (a = b) = (decide (a.dn = b.dn) && decide (a.attrs = b.attrs)) := by
    rw [← Bool.decide_and]
    exact decide_eq_decide.2 ⟨fun h => by rw [h]; exact ⟨rfl, rfl⟩, fun h => En.Entry.ext' h.1 h.2⟩
  rw [e]
  refine CallsC.of Try.call18 Try.func18 rfl Try.ntmps18 rfl fun w0 G0 S0 hs ho => ?_
  exact run trivial
set_option maxRecDepth 8000 in
set_option maxHeartbeats 8000000 in
theorem rf20Same (a b : En.Entry) (h : En.sane a) : CFn Try.prog 8 [TAgg (En.cEnt a), TAgg (En.cEnt b)] (Is (.bool (decide (a = b)))) := by
  have hb := h.2.2.1
  have hd := h.1
  have st := Stop.mk' 11
  refine CallsC.of Try.call8 Try.func8 rfl Try.ntmps8 rfl fun w0 G0 S0 hs ho => ?_
  refine run ?_
  refine ⟨fun h1 => ?_, fun h1 => ?_⟩
  · refine (decide_eq_false (fun e => ?_)).symm
    subst e
    omega
  refine HT.loopX (σ := Nat) [2, 3] (fun i => [(5, okI .i64 (i : Int))]) (fun _ => []) (fun i => i ≤ a.dn.length ∧ a.dn.take i = b.dn.take i) (fun i => a.dn.length - i) 0 ⟨Nat.zero_le _, rfl⟩ (run trivial) (run trivial) ?_
  rintro i ⟨hi, he⟩
  have hc1 : a.dn.length = b.dn.length := by omega
  have hc2 : a.attrs.length = b.attrs.length := by omega
  refine run ?_
  simp only [Dn.avaB, decide_eq_false_iff_not, decide_eq_true_eq]
  refine ⟨fun h3 h4 => ?_, fun h3 h4 => ?_, fun h3 => ?_⟩
  · exact (decide_eq_false (fun e => h4 (by rw [e]))).symm
  · exact HX.roundX (i + 1) ⟨⟨by omega, En.take_ext (by omega) hc1 he h4⟩, by omega⟩ rfl (run trivial) (run trivial)
  have hd1 : a.dn = b.dn := En.take_all h3 hc1 he
  refine HT.loopX (σ := Nat) [2, 3] (fun i => [(6, okI .i64 (i : Int))]) (fun _ => []) (fun i => i ≤ a.attrs.length ∧ a.attrs.take i = b.attrs.take i) (fun i => a.attrs.length - i) 0 ⟨Nat.zero_le _, rfl⟩ (run trivial) (run trivial) ?_
  rintro j ⟨hj, hf⟩
  by_cases hjt : j < a.attrs.length
  · have hv := (h.2.2.2 _ (En.getD_mem hjt)).2
    refine run ?_
    intro _
    refine HT.regionT (σ := Nat × Nat) [(0,3,[]),(1,3,[]),(2,3,[]),(3,3,[]),(4,3,[]),(5,3,[]),(6,3,[]),(7,3,[]),(8,3,[]),(9,3,[])] (altT (seqT [(10,0,[]),(11,0,[]),(12,0,[]),(13,0,[])]) (seqT [(11,0,[]),(10,0,[]),(12,0,[]),(13,0,[])])) [2, 3, 6] (fun t => [(7, Is (pAt t.1 0)), (8, Is (pAt t.2 0))]) (fun t => [ownP t.1 46 (En.cAttr (a.attrs.getD j default)), ownP t.2 46 (En.cAttr (b.attrs.getD j default))]) rfl rfl rfl (by decide +kernel) (run ?_) ?_
    · exact ⟨fun v1 v2 => Met.at (blk v1, blk v2) rfl (run trivial) (run trivial), fun v1 v2 => Met.at (blk v2, blk v1) rfl (run trivial) (run trivial)⟩
    rintro ⟨g1, g2⟩
    have hne : ¬ a.attrs.getD j default = b.attrs.getD j default → false = decide (a = b) := fun h => (decide_eq_false (fun e => h (by rw [e]))).symm
    refine run ?_
    refine ⟨fun h4 => ?_, fun h4 => ?_⟩
    · refine hne fun e => ?_
      rw [e] at h4
      rcases h4 with h4 | h4 <;> exact h4 rfl
    have ht1 : (a.attrs.getD j default).typ = (b.attrs.getD j default).typ := Decidable.not_not.1 h4.1
    have ht2 : (a.attrs.getD j default).vals.length = (b.attrs.getD j default).vals.length := by have := Decidable.not_not.1 h4.2; omega
    refine HT.loopX (σ := Nat) [2, 3, 6, 7, 8] (fun k => [(9, okI .i64 (k : Int))]) (fun _ => [ownP g1 46 (En.cAttr (a.attrs.getD j default)), ownP g2 46 (En.cAttr (b.attrs.getD j default))]) (fun k => k ≤ (a.attrs.getD j default).vals.length ∧ (a.attrs.getD j default).vals.take k = (b.attrs.getD j default).vals.take k) (fun k => (a.attrs.getD j default).vals.length - k) 0 ⟨Nat.zero_le _, rfl⟩ (run trivial) (run trivial) ?_
    rintro k ⟨hk, hke⟩
    refine run ?_
    and_intros
    all_goals intros
    · rename_i h5 h6
      exact hne fun e => h6 (by rw [e])
    · rename_i h5 h6
      exact HX.roundX (k + 1) ⟨⟨by omega, En.take_ext (by omega) ht2 hke (Decidable.not_not.1 h6)⟩, by omega⟩ rfl (run trivial) (run trivial)
    · rename_i h5
      have hv2 := En.take_all h5 ht2 hke
      exact HX.roundX (j + 1) ⟨⟨by omega, En.take_ext hjt hc2 hf (En.Attr.ext' ht1 hv2)⟩, by omega⟩ rfl (run trivial) (run trivial)
  · refine run ?_
    intro h5
    exact (decide_eq_true (En.Entry.ext' hd1 (En.take_all h5 hc2 hf))).symm
end Go.Proofs.Ytibabbepnhpaiaa
set_option maxRecDepth 8000
set_option linter.unusedVariables false
namespace Go.Proofs.Ytibabbepnhpaiaa
open Go.Vk
attribute [local irreducible] HT HX RegS RegA RegM OpP OpC AltT
theorem known_en : En.isN En.empE = true ∧ En.encB En.empE = [0, 0] := by
  constructor
  · rfl
  · unfold En.encB En.empE
    simp only [List.length_nil, List.flatMap_nil, List.append_nil, List.nil_append]
    rw [Oct.numB_lt (by decide)]
    rfl
theorem sane_emp : En.sane En.empE := by unfold En.sane En.empE; simp
theorem lwKnown : CFn Try.prog 9 [] (Is (.bool true)) := by
  have c1 := enEncode En.empE sane_emp
  rw [known_en.1, known_en.2, if_pos rfl, if_pos rfl] at c1
  refine CallsC.of Try.call9 Try.func9 rfl Try.ntmps9 rfl fun w0 G0 S0 hs ho => ?_
  exact run trivial
attribute [local irreducible] En.okD En.decN
theorem lwDecodes (s : List UInt8) (hl : s.length ≤ 140737488351232) : CFn Try.prog 3 [Is (str s)] (Is (.bool true)) := by
  have c1 := enDecode s
  have c2 := rf20Decode s
  have c4 := lwKnown
  have c3 := fun h : s.length ≤ 1000000 => rf20Same (if En.okD s = true then En.decN s else En.empE) (if En.okD s = true then En.decN s else En.empE) (by
    split
    · exact En.decN_sane h
    · exact sane_emp)
  refine CallsC.of Try.call3 Try.func3 rfl Try.ntmps3 rfl fun w0 G0 S0 hs ho => ?_
  exact run trivial
end Go.Proofs.Ytibabbepnhpaiaa
set_option maxRecDepth 8000
set_option linter.unusedVariables false
namespace Go.Proofs.Ytibabbepnhpaiaa
open Go.Vk
attribute [local irreducible] HT HX RegS RegA RegM OpP OpC AltT
theorem txtClone (l : List (List UInt8)) (hl : l.length ≤ 134217728) : CFn Try.prog 46 [TSl 1 En.cS l] (TSl 1 En.cS l) := by
  refine CallsC.of Try.call46 Try.func46 rfl Try.ntmps46 rfl fun w0 G0 S0 hs ho => ?_
  refine run ?_
  exact Eq.symm
theorem attrClone (l : List En.Attr) (hl : l.length ≤ 134217728) : CFn Try.prog 45 [TSl 2 En.cAttr l] (TSl 2 En.cAttr l) := by
  refine CallsC.of Try.call45 Try.func45 rfl Try.ntmps45 rfl fun w0 G0 S0 hs ho => ?_
  refine run ?_
  exact Eq.symm
end Go.Proofs.Ytibabbepnhpaiaa
set_option linter.unusedVariables false
namespace Go.En
open Go.Vk
/-- The values of a type. -/
def getL (l : List Attr) (t : List UInt8) : List (List UInt8) := (l.filter fun a => decide (Dn.foldE a.typ = Dn.foldE t)).flatMap fun a => a.vals
theorem getL_snoc {l : List Attr} {i : Nat} (t : List UInt8) (h : i < l.length) : getL (l.take (i + 1)) t = if Dn.foldE (l.getD i default).typ = Dn.foldE t then getL (l.take i) t ++ (l.getD i default).vals else getL (l.take i) t := by
  unfold getL
  rw [List.take_succ_eq_append_getElem h, List.filter_append, List.flatMap_append, List.getD_eq_getElem?_getD, List.getElem?_eq_getElem h]
  simp only [Option.getD_some]
  by_cases he : Dn.foldE l[i].typ = Dn.foldE t
  · rw [if_pos he, List.filter_cons_of_pos (by simpa using he)]; simp
  · rw [if_neg he, List.filter_cons_of_neg (by simpa using he)]; simp
theorem getL_nil (l : List Attr) (t : List UInt8) : getL (l.take 0) t = [] := rfl
theorem getL_len (l : List Attr) (t : List UInt8) : (getL l t).length ≤ (l.flatMap fun a => a.vals).length := by
  induction l with
  | nil => simp [getL]
  | cons a l ih =>
    unfold getL at ih ⊢
    rw [List.flatMap_cons, List.length_append]
    by_cases he : Dn.foldE a.typ = Dn.foldE t
    · rw [List.filter_cons_of_pos (by simpa using he), List.flatMap_cons, List.length_append]; omega
    · rw [List.filter_cons_of_neg (by simpa using he)]; omega
theorem vals_take (l : List Attr) (i : Nat) : ((l.take i).flatMap fun a => a.vals).length ≤ (l.flatMap fun a => a.vals).length := by
  conv => rhs; rw [← List.take_append_drop i l, List.flatMap_append, List.length_append]
  omega
end Go.En
set_option maxRecDepth 8000
set_option linter.unusedVariables false
namespace Go.Proofs.Ytibabbepnhpaiaa
open Go.Vk
attribute [local irreducible] HT HX RegS RegA RegM OpP OpC AltT
attribute [local irreducible] Dn.foldE En.getL
set_option maxHeartbeats 2000000 in
theorem enGet (e : En.Entry) (t : List UInt8) (hl : e.attrs.length ≤ 1152921504606846976) (hv : (e.attrs.flatMap fun a => a.vals).length ≤ 1000000) (ht : t.length ≤ 134217728) (ha : ∀ a ∈ e.attrs, a.typ.length ≤ 134217728) : CFn Try.prog 16 [TAgg (En.cEnt e), Is (str t)] (TSl 1 En.cS (En.getL e.attrs t)) := by
  have c1 := dnFold
  refine CallsC.of Try.call16 Try.func16 rfl Try.ntmps16 rfl fun w0 G0 S0 hs ho => ?_
  refine run ?_
  refine HT.loopX (σ := Nat × Value) [1, 4, 9, 10] (fun s => [(5, TAnd (Is s.2) (TSl 1 En.cS (En.getL (e.attrs.take s.1) t))), (11, okI .i64 (s.1 : Int))]) (fun s => [ownSl s.2 1 9]) (fun s => s.1 ≤ e.attrs.length) (fun s => e.attrs.length - s.1) (0, .slice none 0 0) (Nat.zero_le _) (run trivial) (run ?_) ?_
  · exact (En.getL_nil e.attrs t).symm
  rintro ⟨i, v⟩ hi
  dsimp only at hi ⊢
  have k1 := En.getL_len (e.attrs.take i) t
  have k2 := En.vals_take e.attrs i
  by_cases hlt : i < e.attrs.length
  · have h2 := ha _ (En.getD_mem hlt)
    have h3 := En.getL_snoc t hlt
    have k3 := En.vals_take e.attrs (i + 1)
    have h4 := En.flat_snoc (fun a : En.Attr => a.vals) hlt
    have h5 := congrArg List.length h4
    rw [List.length_append] at h5
    refine run ?_
    refine ⟨fun w v' _ h6 => ?_, fun w _ h6 => ?_⟩
    · rw [if_pos h6] at h3
      rw [← h3]
      exact HX.roundX (i + 1, v') ⟨by dsimp only; omega, by dsimp only; omega⟩ rfl (run trivial) (run trivial)
    · rw [if_neg h6] at h3
      rw [← h3]
      exact HX.roundX (i + 1, v) ⟨by dsimp only; omega, by dsimp only; omega⟩ rfl (run trivial) (run trivial)
  · rw [List.take_of_length_le (by omega)]
    exact run trivial
set_option maxHeartbeats 2000000 in
theorem rfVals (e : En.Entry) (t : List UInt8) (hl : e.attrs.length ≤ 1152921504606846976) (hv : (e.attrs.flatMap fun a => a.vals).length ≤ 1000000) (ht : t.length ≤ 134217728) (ha : ∀ a ∈ e.attrs, a.typ.length ≤ 134217728) : CFn Try.prog 17 [TAgg (En.cEnt e), Is (str t)] (TSl 1 En.cS (En.getL e.attrs t)) := by
  have c1 := rfFold
  refine CallsC.of Try.call17 Try.func17 rfl Try.ntmps17 rfl fun w0 G0 S0 hs ho => ?_
  refine run ?_
  refine HT.loopX (σ := Nat × Value) [1, 2, 4] (fun s => [(5, TAnd (Is s.2) (TSl 1 En.cS (En.getL (e.attrs.take s.1) t))), (6, okI .i64 (s.1 : Int))]) (fun s => [ownSl s.2 1 9]) (fun s => s.1 ≤ e.attrs.length) (fun s => e.attrs.length - s.1) (0, .slice none 0 0) (Nat.zero_le _) (run trivial) (run ?_) ?_
  · exact (En.getL_nil e.attrs t).symm
  rintro ⟨i, v⟩ hi
  dsimp only at hi ⊢
  have k1 := En.getL_len (e.attrs.take i) t
  have k2 := En.vals_take e.attrs i
  by_cases hlt : i < e.attrs.length
  · have h2 := ha _ (En.getD_mem hlt)
    have h3 := En.getL_snoc t hlt
    have k3 := En.vals_take e.attrs (i + 1)
    have h4 := En.flat_snoc (fun a : En.Attr => a.vals) hlt
    have h5 := congrArg List.length h4
    rw [List.length_append] at h5
    refine run ?_
    refine ⟨fun v' _ h6 => ?_, fun _ h6 => ?_⟩
    · rw [if_pos h6] at h3
      rw [← h3]
      exact HX.roundX (i + 1, v') ⟨by dsimp only; omega, by dsimp only; omega⟩ rfl (run trivial) (run trivial)
    · rw [if_neg h6] at h3
      exact HX.roundX (i + 1, v) ⟨by dsimp only; omega, by dsimp only; omega⟩ rfl (run trivial) (run h3.symm)
  · rw [List.take_of_length_le (by omega)]
    exact run trivial
end Go.Proofs.Ytibabbepnhpaiaa
set_option maxRecDepth 8000
set_option linter.unusedVariables false
namespace Go.Proofs.Ytibabbepnhpaiaa
open Go.Vk
attribute [local irreducible] HT HX RegS RegA RegM OpP OpC AltT
theorem lwTexts (l m : List (List UInt8)) (hl : l.length ≤ 1152921504606846976) : CFn Try.prog 15 [TSl 1 En.cS l, TSl 1 En.cS m] (Is (.bool (decide (l = m)))) := by
  refine CallsC.of Try.call15 Try.func15 rfl Try.ntmps15 rfl fun w0 G0 S0 hs ho => ?_
  refine run ?_
  refine ⟨?_, ?_⟩
  · intro h
    exact (decide_eq_false (fun e => h (by rw [e]))).symm
  intro hc
  refine HT.loopX (σ := Nat) [0, 1] (fun i => [(5, okI .i64 (i : Int))]) (fun _ => []) (fun i => i ≤ l.length ∧ l.take i = m.take i) (fun i => l.length - i) 0 ⟨Nat.zero_le _, rfl⟩ (run trivial) (run trivial) ?_
  rintro i ⟨hi, he⟩
  have hc' : l.length = m.length := by
    have : (l.length : Int) = (m.length : Int) := Decidable.not_not.1 hc
    omega
  refine run ?_
  and_intros
  all_goals intros
  · rename_i h1 h2
    exact (decide_eq_false (fun e => h2 (by rw [e]))).symm
  · rename_i h1 h2
    exact HX.roundX (i + 1) ⟨⟨by omega, En.take_ext (by omega) hc' he (Decidable.not_not.1 h2)⟩, by omega⟩ rfl (run trivial) (run trivial)
  · rename_i h1
    exact (decide_eq_true (En.take_all h1 hc' he)).symm
end Go.Proofs.Ytibabbepnhpaiaa
