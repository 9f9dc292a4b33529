/-
  The plain functions of ber: what its Go functions compute, on lists of bytes and numbers. Nothing here speaks of a program; no conditions.
-/
import Derived.Test.YtmfhacngjbhldaaVr
set_option linter.unusedVariables false
namespace Go.Ber
open Go.Vk

/-- Bytes, the highest first, as a number. -/
def be (n : Int) (l : List UInt8) : Int := l.foldl (fun n c => n * 256 + (c.toNat : Int)) n
def bitsLow (c : UInt8) : Bool := decide ((c &&& b8 31).toNat = 31)
theorem all256 {p : UInt8 → Prop} [DecidablePred p] (h : ∀ n : Fin 256, p (UInt8.ofNat n.val)) (c : UInt8) : p c := by
  have := h ⟨c.toNat, c.toNat_lt⟩
  simpa using this
theorem andn128 (c : UInt8) (h : ¬ c.toNat < 128) : (c &&& ~~~ (b8 128)).toNat = c.toNat - 128 := by
  revert h
  exact all256 (p := fun c => ¬ c.toNat < 128 → (c &&& ~~~ (b8 128)).toNat = c.toNat - 128) (by decide +kernel) c
theorem be_snoc (n : Int) (l : List UInt8) (k : Nat) (h : k < l.length) : be n (l.take (k + 1)) = be n (l.take k) * 256 + ((l.getD k 0).toNat : Int) := by
  rw [List.take_succ_eq_append_getElem h, be, List.foldl_append, List.getD_eq_getElem?_getD, List.getElem?_eq_getElem h]
  rfl
theorem be_bound (l : List UInt8) : 0 ≤ be 0 l ∧ be 0 l < 256 ^ l.length := by
  have key : ∀ (l : List UInt8) (n : Int), 0 ≤ n → 0 ≤ be n l ∧ be n l < (n + 1) * 256 ^ l.length := by
    intro l
    induction l with
    | nil => intro n h; simp [be]; omega
    | cons c l ih =>
      intro n h
      have hc := c.toNat_lt
      obtain ⟨h1, h2⟩ := ih (n * 256 + (c.toNat : Int)) (by omega)
      refine ⟨h1, Int.lt_of_lt_of_le h2 ?_⟩
      rw [List.length_cons, Int.pow_succ, Int.mul_comm (256 ^ l.length) 256, ← Int.mul_assoc]
      exact Int.mul_le_mul_of_nonneg_right (by omega) (Int.le_of_lt (Int.pow_pos (by decide)))
  have := key l 0 (by omega)
  simpa using this
theorem be_small (l : List UInt8) (h : l.length ≤ 4) : 0 ≤ be 0 l ∧ be 0 l ≤ 4294967295 := by
  obtain ⟨h1, h2⟩ := be_bound l
  refine ⟨h1, ?_⟩
  have h3 : ∀ n, n ≤ 4 → (256 : Int) ^ n ≤ 4294967296 := by decide
  have := h3 _ h
  omega

/-- The bytes of a length of several bytes, ahead of some. -/
def lenAcc : Nat → Int → List UInt8 → List UInt8
  | 0, _, b => b
  | k + 1, n, b => if 0 < n then lenAcc k (n / 256) (b8 n :: b) else b
def lenB (n : Int) : List UInt8 := if n < 128 then [b8 n] else
  let b := lenAcc 8 n []
  b8 (128 + b.length) :: b

/-- A head: from where the body stands, how long it is, the error. -/
def headB (b : List UInt8) : Int × Int × Int :=
  if (b.length : Int) < 1 then (0, 0, 2)
  else if ((b.getD 0 0 &&& b8 31).toNat : Int) = 31 then (0, 0, 3)
  else if (b.length : Int) < 2 then (0, 0, 2)
  else if ((b.getD 1 0).toNat : Int) < 128 then (2, ((b.getD 1 0).toNat : Int), 0)
  else if ((b.getD 1 0 &&& ~~~ (b8 128)).toNat : Int) = 0 ∨ 4 < ((b.getD 1 0 &&& ~~~ (b8 128)).toNat : Int) then (0, 0, 3)
  else if (b.length : Int) < 2 + ((b.getD 1 0 &&& ~~~ (b8 128)).toNat : Int) then (0, 0, 2)
  else (2 + ((b.getD 1 0 &&& ~~~ (b8 128)).toNat : Int), be 0 ((b.take (2 + ((b.getD 1 0 &&& ~~~ (b8 128)).toNat : Int)).toNat).drop (Int.toNat 2)), 0)
structure NextR where
  tag : UInt8
  body : List UInt8
  rest : List UInt8
  e : Int
def nextB (b : List UInt8) : NextR :=
  let h := headB b
  if h.2.2 ≠ 0 then ⟨0, [], [], h.2.2⟩
  else if 65536 < h.2.1 then ⟨0, [], [], 5⟩
  else if (b.length : Int) - h.1 < h.2.1 then ⟨0, [], [], 2⟩
  else ⟨b.getD 0 0, (b.take (h.1 + h.2.1).toNat).drop h.1.toNat, b.drop (h.1 + h.2.1).toNat, 0⟩
theorem headB_ok (b : List UInt8) : 0 ≤ (headB b).1 ∧ (headB b).1 ≤ 300 ∧ 0 ≤ (headB b).2.1 ∧ (headB b).2.1 ≤ 4294967295 ∧ ((headB b).2.2 = 0 → 2 ≤ (headB b).1 ∧ (headB b).1 ≤ (b.length : Int)) := by
  unfold headB
  have h1 := (b.getD 1 0).toNat_lt
  have h2 := (b.getD 1 0 &&& ~~~ (b8 128)).toNat_lt
  generalize hx : (b.getD 1 0 &&& ~~~ (b8 128)).toNat = x at *
  generalize (b.getD 1 0).toNat = y at *
  have h4 : x ≤ 4 → 0 ≤ be 0 ((b.take (2 + (x : Int)).toNat).drop (Int.toNat 2)) ∧ be 0 ((b.take (2 + (x : Int)).toNat).drop (Int.toNat 2)) ≤ 4294967295 := fun h => be_small _ (by simp only [List.length_drop, List.length_take]; omega)
  generalize be 0 ((b.take (2 + (x : Int)).toNat).drop (Int.toNat 2)) = z at *
  repeat' split
  all_goals dsimp only
  all_goals omega
theorem nextB_len (b : List UInt8) : (nextB b).body.length ≤ b.length ∧ (nextB b).rest.length ≤ b.length ∧ ((nextB b).e = 0 → (nextB b).rest.length + 2 ≤ b.length) := by
  have h := headB_ok b
  unfold nextB
  dsimp only
  repeat' split
  all_goals dsimp only
  all_goals (first | (simp; done) | skip)
  · simp; omega
  · simp only [List.length_drop, List.length_take]
    omega
theorem lenB_or : ∀ k : Nat, k ≤ 8 → (b8 128 ||| b8 (k : Int)) = b8 (128 + (k : Int)) := by decide
def rb : Nat → Int
  | 0 => 128
  | k + 1 => 256 * rb k
theorem rb7 : rb 7 = 9223372036854775808 := by decide
theorem rb_pos : ∀ k, 128 ≤ rb k
  | 0 => Int.le_refl _
  | k + 1 => by have := rb_pos k; simp only [rb]; omega
theorem be_rb (l : List UInt8) (n : Int) (h : -128 ≤ n ∧ n ≤ 127) : -(rb l.length) ≤ be n l ∧ be n l < rb l.length := by
  have key : ∀ (l : List UInt8) (n : Int) (j : Nat), -(rb j) ≤ n → n < rb j → -(rb (j + l.length)) ≤ be n l ∧ be n l < rb (j + l.length) := by
    intro l
    induction l with
    | nil => intro n j h1 h2; exact ⟨h1, h2⟩
    | cons c l ih =>
      intro n j h1 h2
      have hc := c.toNat_lt
      have := ih (n * 256 + (c.toNat : Int)) (j + 1) (by simp only [rb]; omega) (by simp only [rb]; omega)
      rw [show j + (c :: l).length = j + 1 + l.length from by simp; omega]
      exact this
  have := key l n 0 (by simp only [rb]; omega) (by simp only [rb]; omega)
  simpa using this
theorem rb_mono {j k : Nat} (h : j ≤ k) : rb j ≤ rb k := by
  induction k with
  | zero => rw [Nat.le_zero.1 h]; exact Int.le_refl _
  | succ k ih =>
    rcases Nat.lt_or_ge j (k + 1) with h1 | h1
    · have := ih (by omega); have := rb_pos k; simp only [rb]; omega
    · rw [show j = k + 1 from by omega]; exact Int.le_refl _
theorem be_rb7 (l : List UInt8) {n : Int} (h : -128 ≤ n ∧ n ≤ 127) (hl : l.length ≤ 6) : -36028797018963968 ≤ be n l ∧ be n l ≤ 36028797018963967 := by
  have h1 := be_rb l n h
  have h2 := rb_mono hl
  rw [show rb 6 = 36028797018963968 from by decide] at h2
  omega
theorem rb6 : rb 6 = 36028797018963968 := by decide
/-- A number's bytes. -/
def intAcc : Nat → Int → List UInt8 → List UInt8
  | 0, _, b => b
  | k + 1, n, b => if 127 < n ∨ n < -128 then intAcc k (n / 256) (b8 (n / 256) :: b) else b
def intB (n : Int) : List UInt8 := intAcc 7 n [b8 n]
def s8 (c : UInt8) : Int := IntKind.i8.wrap (c.toNat : Int)
theorem s8_bd (c : UInt8) : -128 ≤ s8 c ∧ s8 c ≤ 127 := by
  have := c.toNat_lt
  unfold s8 IntKind.wrap
  simp [IntKind.bits, IntKind.signed]
  split <;> omega
def fromIntB (b : List UInt8) : Int × Int :=
  if (b.length : Int) < 1 ∨ 8 < (b.length : Int) then (0, 3) else (be (s8 (b.getD 0 0)) (b.drop (Int.toNat 1)), 0)
def tot (ls : List (List UInt8)) : Nat := (ls.map List.length).sum
theorem tot_flat (ls : List (List UInt8)) : ls.flatten.length = tot ls := by simp [tot, List.length_flatten]
theorem take_snocD {α : Type} [Inhabited α] (l : List α) (k : Nat) (h : k < l.length) : l.take (k + 1) = l.take k ++ [l.getD k default] := by
  rw [List.take_succ_eq_append_getElem h, List.getD_eq_getElem?_getD, List.getElem?_eq_getElem h]; rfl
theorem tot_snoc (ls : List (List UInt8)) (k : Nat) (h : k < ls.length) : tot (ls.take (k + 1)) = tot (ls.take k) + (ls.getD k default).length := by
  rw [take_snocD ls k h]; simp [tot]
theorem tot_append (a b : List (List UInt8)) : tot (a ++ b) = tot a + tot b := by simp [tot]
theorem tot_take (ls : List (List UInt8)) (k : Nat) : tot (ls.take k) ≤ tot ls := by
  have := tot_append (ls.take k) (ls.drop k)
  rw [List.take_append_drop] at this
  omega
theorem tot_get (ls : List (List UInt8)) (k : Nat) (h : k < ls.length) : tot (ls.take k) + (ls.getD k default).length ≤ tot ls := by
  rw [← tot_snoc ls k h]; exact tot_take ls _
theorem lenAcc_len : ∀ (k : Nat) (n : Int) (b : List UInt8), (lenAcc k n b).length ≤ k + b.length
  | 0, _, b => by simp [lenAcc]
  | k + 1, n, b => by
    unfold lenAcc
    split
    · have := lenAcc_len k (n / 256) (b8 n :: b); simp at this; omega
    · omega
theorem lenB_len (n : Int) : (lenB n).length ≤ 9 := by
  unfold lenB
  split
  · simp
  · have := lenAcc_len 8 n []; simp at this ⊢; omega
def tagB (tag : UInt8) (ls : List (List UInt8)) : List UInt8 := tag :: (lenB (tot ls : Int) ++ ls.flatten)
end Go.Ber
