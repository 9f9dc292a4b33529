/-
  What is laid is read as it was: numbers, bytes, rows. Nothing here speaks of a program; no conditions.
-/
import Derived.Test.YtibabbepnhpaiaaO0
set_option linter.unusedVariables false
namespace Go.Oct
open Go.Vk
theorem or_add {m n k : Nat} (h : m < 2 ^ k) : m ||| (n * 2 ^ k) = m + n * 2 ^ k := by
  have := Nat.two_pow_add_eq_or_of_lt h n
  rw [Nat.mul_comm (2 ^ k) n] at this
  rw [Nat.or_comm, ← this, Nat.add_comm]
theorem pow7_le {i : Nat} (h : i ≤ 8) : 2 ^ (7 * i) ≤ 72057594037927936 := by
  calc 2 ^ (7 * i) ≤ 2 ^ 56 := Nat.pow_le_pow_right (by decide) (by omega)
    _ = 72057594037927936 := by decide
theorem pow7_ge {i : Nat} (h : 9 ≤ i) : 9223372036854775808 ≤ 2 ^ (7 * i) := by
  calc 9223372036854775808 = 2 ^ 63 := by decide
    _ ≤ 2 ^ (7 * i) := Nat.pow_le_pow_right (by decide) (by omega)
theorem digit_lo : ∀ i : Fin 128, ((b8 (i.val : Int) &&& b8 127).toNat = i.val) ∧ (b8 (i.val : Int)).toNat = i.val := by decide +kernel
theorem digit_hi : ∀ i : Fin 256, (((b8 (i.val : Int) ||| b8 128) &&& b8 127).toNat = i.val % 128) ∧ 128 ≤ (b8 (i.val : Int) ||| b8 128).toNat := by decide +kernel
theorem digit_hi' (n : Nat) : (((b8 (n : Int) ||| b8 128) &&& b8 127).toNat = n % 128) ∧ 128 ≤ (b8 (n : Int) ||| b8 128).toNat := by
  have h := digit_hi ⟨n % 256, by omega⟩
  have e2 : b8 ((n % 256 : Nat) : Int) = b8 (n : Int) := by
    rw [show ((n % 256 : Nat) : Int) = (n : Int) % 256 by omega, b8_mod]
  simp only [e2] at h
  exact ⟨by rw [h.1]; omega, h.2⟩
/-- A number that was laid is read. -/
theorem rdF_numB (n : Nat) : ∀ (i m : Nat) (r : List UInt8), m < 2 ^ (7 * i) → m + n * 2 ^ (7 * i) ≤ 4611686018427387904 → (0 < i → 0 < n) → rdF i (m : Int) (numB n ++ r) = some (((m + n * 2 ^ (7 * i) : Nat) : Int), r) := by
  induction n using Nat.strongRecOn with
  | _ n ih =>
    intro i m r hm hb hn
    have hi : i ≤ 8 := by
      by_cases h0 : 0 < i
      · have := hn h0
        by_cases h9 : 9 ≤ i
        · have h1 := pow7_ge h9
          have h2 : 1 * 2 ^ (7 * i) ≤ n * 2 ^ (7 * i) := Nat.mul_le_mul_right _ this
          omega
        · omega
      · omega
    have hp := pow7_le hi
    by_cases hlt : n < 128
    · rw [numB_lt hlt]
      obtain ⟨d1, d2⟩ := digit_lo ⟨n, hlt⟩
      dsimp only at d1 d2
      have e : orU (m : Int) (shlU ((b8 (n : Int) &&& b8 127).toNat : Int) (7 * (i : Int))) = ((m + n * 2 ^ (7 * i) : Nat) : Int) := by
        rw [d1, show (7 * (i : Int)) = ((7 * i : Nat) : Int) by omega, shlU_nat (by omega), orU_nat (by omega) (by omega), or_add hm]
      rw [List.singleton_append, rdF, e, if_neg (by omega), if_pos (by omega), if_neg (by omega)]
    · rw [numB_ge hlt]
      obtain ⟨d1, d2⟩ := digit_hi' n
      have e2 : m + n * 2 ^ (7 * i) = (m + n % 128 * 2 ^ (7 * i)) + n / 128 * 2 ^ (7 * (i + 1)) := by
        have h1 : 2 ^ (7 * (i + 1)) = 128 * 2 ^ (7 * i) := by
          rw [show 7 * (i + 1) = 7 + 7 * i by omega, Nat.pow_add]
        have h2 : n = n % 128 + n / 128 * 128 := by omega
        rw [h1, ← Nat.mul_assoc, Nat.add_assoc, ← Nat.add_mul, ← h2]
      have hm' : m + n % 128 * 2 ^ (7 * i) < 2 ^ (7 * (i + 1)) := by
        have h1 : 2 ^ (7 * (i + 1)) = 128 * 2 ^ (7 * i) := by
          rw [show 7 * (i + 1) = 7 + 7 * i by omega, Nat.pow_add]
        have h3 : n % 128 * 2 ^ (7 * i) ≤ 127 * 2 ^ (7 * i) := Nat.mul_le_mul_right _ (by omega)
        omega
      have e : orU (m : Int) (shlU (((b8 (n : Int) ||| b8 128) &&& b8 127).toNat : Int) (7 * (i : Int))) = ((m + n % 128 * 2 ^ (7 * i) : Nat) : Int) := by
        rw [d1, show (7 * (i : Int)) = ((7 * i : Nat) : Int) by omega, shlU_nat (by omega), orU_nat (by omega) (by omega), or_add hm]
      rw [List.cons_append, rdF, e, if_neg (by omega), if_neg (by omega), e2]
      exact ih (n / 128) (by omega) (i + 1) _ r hm' (by omega) (fun _ => by omega)
theorem rd_numB {n : Nat} (h : n ≤ 4611686018427387904) (r : List UInt8) : rdF 0 0 (numB n ++ r) = some ((n : Int), r) := by
  have := rdF_numB n 0 0 r (by decide) (by simpa using h) (fun h => by omega)
  simpa using this
theorem num_numB {n : Nat} (h : n ≤ 4611686018427387904) (r : List UInt8) : numV (numB n ++ r) = n ∧ numT (numB n ++ r) = r ∧ ∀ b, numE (numB n ++ r) b = b :=
  ⟨(num_some (rd_numB h r) true).1, (num_some (rd_numB h r) true).2.1, fun b => (num_some (rd_numB h r) b).2.2⟩
theorem byt_bytB {l : List UInt8} (h : l.length ≤ 4611686018427387904) (r : List UInt8) : bytV (bytB l ++ r) = l ∧ bytT (bytB l ++ r) = r ∧ ∀ b, bytE (bytB l ++ r) b = b := by
  obtain ⟨h1, h2, h3⟩ := num_numB h (l ++ r)
  unfold bytV bytT bytE bytB
  rw [List.append_assoc, h1, h2]
  have hno : ¬ ((l.length : Int) < 0 ∨ ((l ++ r).length : Int) < (l.length : Int)) := by rw [List.length_append]; omega
  refine ⟨?_, ?_, fun b => ?_⟩
  · rw [(raw_yes hno true).1]; simp
  · rw [(raw_yes hno true).2.1]; simp
  · rw [h3, (raw_yes hno b).2.2]
/-! ### rows -/
section
variable {σ α : Type}
/-- Rows are read one behind the other, so long as none is bad; fuel. -/
def loopD (step : σ → α × σ) (bad : σ → Bool) (n : Int) : Nat → List α → σ → List α × σ
  | 0, acc, s => (acc, s)
  | k + 1, acc, s => if (acc.length : Int) < n ∧ bad s = false then loopD step bad n k (acc ++ [(step s).1]) (step s).2 else (acc, s)
/-- Each row takes something, or is bad. -/
structure Eats (step : σ → α × σ) (bad : σ → Bool) (m : σ → Nat) : Prop where
  eat : ∀ s, bad s = false → bad (step s).2 = true ∨ m (step s).2 < m s
variable {step : σ → α × σ} {bad : σ → Bool} {m : σ → Nat}
theorem loopD_bad {n : Int} {k : Nat} {acc : List α} {s : σ} (h : bad s = true) : loopD step bad n k acc s = (acc, s) := by
  cases k with
  | zero => rfl
  | succ k => rw [loopD, if_neg (by rw [h]; simp)]
theorem loopD_fuel (he : Eats step bad m) {n : Int} : ∀ (k k' : Nat) (acc : List α) (s : σ), m s < k → m s < k' → loopD step bad n k acc s = loopD step bad n k' acc s
  | 0, k', acc, s, h, _ => by omega
  | k + 1, 0, acc, s, _, h => by omega
  | k + 1, k' + 1, acc, s, h, h' => by
    rw [loopD, loopD]
    split
    · rename_i hc
      rcases he.eat s hc.2 with hb | hlt
      · rw [loopD_bad hb, loopD_bad hb]
      · exact loopD_fuel he k k' _ _ (by omega) (by omega)
    · rfl
def rows (step : σ → α × σ) (bad : σ → Bool) (m : σ → Nat) (n : Int) (acc : List α) (s : σ) : List α × σ := loopD step bad n (m s + 1) acc s
theorem rows_go (he : Eats step bad m) {n : Int} {acc : List α} {s : σ} (h1 : (acc.length : Int) < n) (h2 : bad s = false) : rows step bad m n acc s = rows step bad m n (acc ++ [(step s).1]) (step s).2 := by
  unfold rows
  rw [loopD, if_pos ⟨h1, h2⟩]
  rcases he.eat s h2 with hb | hlt
  · rw [loopD_bad hb, loopD_bad hb]
  · exact loopD_fuel he _ _ _ _ (by omega) (by omega)
theorem rows_end {n : Int} {acc : List α} {s : σ} (h : ¬ ((acc.length : Int) < n ∧ bad s = false)) : rows step bad m n acc s = (acc, s) := by
  unfold rows
  rw [loopD, if_neg h]
theorem rows_end1 {n : Int} {acc : List α} {s : σ} (h : ¬ (acc.length : Int) < n) : rows step bad m n acc s = (acc, s) := rows_end (fun x => h x.1)
theorem rows_end2 {n : Int} {acc : List α} {s : σ} (h : bad s = true) : rows step bad m n acc s = (acc, s) := rows_end (fun x => by rw [h] at x; cases x.2)
/-- What was laid row by row is read. -/
theorem rows_back (he : Eats step bad m) (enc : α → List UInt8) (mk : List UInt8 → σ) (hgood : ∀ l, bad (mk l) = false) : ∀ (xs : List α) (acc : List α) (r : List UInt8) (n : Int), (∀ x ∈ xs, ∀ r, step (mk (enc x ++ r)) = (x, mk r)) → n = ((acc ++ xs).length : Int) → rows step bad m n acc (mk (xs.flatMap enc ++ r)) = (acc ++ xs, mk r)
  | [], acc, r, n, _, hn => by
    rw [rows_end1 (by rw [hn]; simp)]
    simp
  | x :: xs, acc, r, n, hx, hn => by
    rw [rows_go he (by rw [hn]; simp; omega) (hgood _)]
    rw [List.flatMap_cons, List.append_assoc, hx x (by simp)]
    have := rows_back he enc mk hgood xs (acc ++ [x]) r n (fun y hy => hx y (by simp [hy])) (by rw [hn]; simp)
    rw [this]
    simp
end
/-- A reader's state: what is left, whether it erred. -/
abbrev RS := List UInt8 × Bool
def badS (s : RS) : Bool := s.2
def lenS (s : RS) : Nat := s.1.length
theorem numT_lt {l : List UInt8} {b : Bool} (h : numE l b = false) : (numT l).length < l.length := by
  unfold numE at h
  unfold numT
  cases h2 : rdF 0 0 l with
  | none => rw [h2] at h; cases h
  | some x => exact rdF_len l 0 0 x h2
theorem bytT_le (l : List UInt8) : (bytT l).length ≤ l.length := Nat.le_trans (rawT_len _ _) (numT_len l)
theorem rawV_len (l : List UInt8) (n : Int) : (rawV l n).length ≤ l.length := by
  unfold rawV; split
  · simp
  · rw [List.length_take]; omega
theorem bytV_le (l : List UInt8) : (bytV l).length ≤ l.length := Nat.le_trans (rawV_len _ _) (numT_len l)
theorem bytE_b {l : List UInt8} {b : Bool} (h : bytE l b = false) : numE l b = false := by
  unfold bytE rawE at h
  split at h
  · cases h
  · exact h
theorem bytT_lt {l : List UInt8} {b : Bool} (h : bytE l b = false) : (bytT l).length < l.length := Nat.lt_of_le_of_lt (rawT_len _ _) (numT_lt (bytE_b h))
theorem bytE_nil {l : List UInt8} {b : Bool} (hb : b = true → l = []) : bytE l b = true → bytT l = [] := rawE_nil (numE_nil hb)
theorem numE_true {l : List UInt8} : numE l true = true := by
  unfold numE; split <;> rfl
theorem bytE_true {l : List UInt8} : bytE l true = true := by
  unfold bytE rawE; split
  · rfl
  · exact numE_true
/-- How many rounds are left at most. -/
def leftN (s : RS) : Nat := if s.2 = true then 0 else s.1.length + 1
/-- So many rows were read of n bytes. -/
structure Left (n k : Nat) (s : RS) : Prop where
  bl : s.1.length ≤ n
  sum : k + leftN s ≤ n + 1
theorem Left.start {n : Nat} {s : RS} (h : s.1.length ≤ n) : Left n 0 s := ⟨h, by unfold leftN; split <;> omega⟩
theorem Left.bd {n k : Nat} {s : RS} (h : Left n k s) : k ≤ n + 1 := by have := h.sum; omega
theorem Left.next {n k : Nat} {s s' : RS} (h : Left n k s) (hb : s.2 = false) (he : s'.2 = true ∨ s'.1.length < s.1.length) (hl : s'.1.length ≤ s.1.length) : Left n (k + 1) s' ∧ leftN s' < leftN s := by
  have h1 := h.bl
  have h2 := h.sum
  have h3 : leftN s = s.1.length + 1 := by unfold leftN; rw [hb]; simp
  have h4 : leftN s' < leftN s := by
    rw [h3]; unfold leftN
    split
    · omega
    · rcases he with he | he
      · contradiction
      · omega
  exact ⟨⟨by omega, by omega⟩, h4⟩
def stepB (s : RS) : List UInt8 × RS := (bytV s.1, (bytT s.1, bytE s.1 s.2))
theorem eatsB : Eats stepB badS lenS := ⟨fun s _ => by
  cases h : bytE s.1 s.2 with
  | true => exact .inl h
  | false => exact .inr (bytT_lt h)⟩
end Go.Oct
