/-
  Plain laws of numbers as bytes: what intB gives is read back as it was, and in so few bytes as it may be. Nothing here speaks of a program; no conditions but those that stand.
-/
import Derived.Test.YtmfhacngjbhldaaB0
set_option linter.unusedVariables false
namespace Go.Ber
open Go.Vk
theorem s8_val (c : UInt8) : s8 c = if c.toNat < 128 then (c.toNat : Int) else (c.toNat : Int) - 256 :=
  all256 (p := fun c => s8 c = if c.toNat < 128 then (c.toNat : Int) else (c.toNat : Int) - 256) (by decide +kernel) c
theorem s8_b8 (m : Int) (h : -128 ≤ m ∧ m ≤ 127) : s8 (b8 m) = m := by
  rw [s8_val]
  have := b8_toNat m
  split <;> omega
theorem be_cons (a : Int) (c : UInt8) (t : List UInt8) : be a (c :: t) = be (a * 256 + (c.toNat : Int)) t := rfl
theorem be_inj : ∀ (t : List UInt8) (a b : Int), be a t = be b t → a = b
  | [], a, b, h => h
  | c :: t, a, b, h => by have := be_inj t (a * 256 + (c.toNat : Int)) (b * 256 + (c.toNat : Int)) h; omega
theorem be_div (n : Int) (t : List UInt8) : be (n / 256) (b8 n :: t) = be n t := by
  rw [be_cons, b8_toNat]
  congr 1
  omega
theorem intAcc_spec : ∀ (k : Nat) (n : Int) (acc : List UInt8), -(rb k) ≤ n → n < rb k → ∃ m t, intAcc k n (b8 n :: acc) = b8 m :: t ∧ (-128 ≤ m ∧ m ≤ 127) ∧ be m t = be n acc ∧ t.length ≤ k + acc.length ∧
    ((-128 ≤ n ∧ n ≤ 127) → t = acc ∧ m = n) ∧ (¬ (-128 ≤ n ∧ n ≤ 127) → ∃ m' t', t = b8 m' :: t' ∧ ¬ (-128 ≤ m' ∧ m' ≤ 127) ∧ be m' t' = be n acc ∧ m * 256 + (b8 m').toNat = m')
  | 0, n, acc, h1, h2 => by
    simp only [rb] at h1 h2
    exact ⟨n, acc, rfl, by omega, rfl, by omega, fun _ => ⟨rfl, rfl⟩, fun h => by omega⟩
  | k + 1, n, acc, h1, h2 => by
    simp only [rb] at h1 h2
    by_cases hr : 127 < n ∨ n < -128
    · obtain ⟨m, t, e1, e2, e3, e4, e5, e6⟩ := intAcc_spec k (n / 256) (b8 n :: acc) (by omega) (by omega)
      refine ⟨m, t, by rw [intAcc, if_pos hr]; exact e1, e2, by rw [e3, be_div], by simp at e4; omega, fun h => by omega, fun _ => ?_⟩
      by_cases hq : -128 ≤ n / 256 ∧ n / 256 ≤ 127
      · obtain ⟨h3, h4⟩ := e5 hq
        exact ⟨n, acc, h3, by omega, rfl, by rw [b8_toNat]; omega⟩
      · obtain ⟨m', t', g1, g2, g3, g4⟩ := e6 hq
        exact ⟨m', t', g1, g2, by rw [g3, be_div], g4⟩
    · exact ⟨n, acc, by rw [intAcc, if_neg hr], by omega, rfl, by omega, fun _ => ⟨rfl, rfl⟩, fun h => by omega⟩
/-- A number's bytes, all that is wanted of them. -/
theorem intB_spec (n : Int) (h : -9223372036854775808 ≤ n ∧ n ≤ 9223372036854775807) : ∃ m t, intB n = b8 m :: t ∧ (-128 ≤ m ∧ m ≤ 127) ∧ be m t = n ∧ t.length ≤ 7 ∧
    ((-128 ≤ n ∧ n ≤ 127) → t = [] ∧ m = n) ∧ (¬ (-128 ≤ n ∧ n ≤ 127) → ∃ m' t', t = b8 m' :: t' ∧ ¬ (-128 ≤ m' ∧ m' ≤ 127) ∧ be m' t' = n) := by
  obtain ⟨m, t, e1, e2, e3, e4, e5, e6⟩ := intAcc_spec 7 n [] (by rw [rb7]; exact h.1) (by rw [rb7]; omega)
  exact ⟨m, t, e1, e2, e3, by simpa using e4, e5, fun hn => let ⟨m', t', g1, g2, g3, _⟩ := e6 hn; ⟨m', t', g1, g2, g3⟩⟩
theorem intB_len (n : Int) (h : -9223372036854775808 ≤ n ∧ n ≤ 9223372036854775807) : 1 ≤ (intB n).length ∧ (intB n).length ≤ 8 := by
  obtain ⟨m, t, e1, _, _, e4, _⟩ := intB_spec n h
  rw [e1]; simp; omega
theorem intB_one (n : Int) (h : -9223372036854775808 ≤ n ∧ n ≤ 9223372036854775807) (h1 : (intB n).length = 1) : -128 ≤ n ∧ n ≤ 127 := by
  obtain ⟨m, t, e1, e2, e3, e4, e5, e6⟩ := intB_spec n h
  by_cases hn : -128 ≤ n ∧ n ≤ 127
  · exact hn
  · obtain ⟨m', t', g1, _⟩ := e6 hn
    rw [e1, g1] at h1
    simp at h1
theorem fromInt_int (n : Int) (h : -9223372036854775808 ≤ n ∧ n ≤ 9223372036854775807) : fromIntB (intB n) = (n, 0) := by
  obtain ⟨m, t, e1, e2, e3, e4, e5, e6⟩ := intB_spec n h
  have hl := intB_len n h
  rw [fromIntB, if_neg (by omega), e1]
  simp only [List.getD_cons_zero]
  rw [s8_b8 m e2]
  simp [e3]
theorem fromInt_shorter (n : Int) (h : -9223372036854775808 ≤ n ∧ n ≤ 9223372036854775807) (h1 : (intB n).length ≠ 1) : (fromIntB ((intB n).drop 1)).2 = 0 ∧ (fromIntB ((intB n).drop 1)).1 ≠ n := by
  obtain ⟨m, t, e1, e2, e3, e4, e5, e6⟩ := intB_spec n h
  have hl := intB_len n h
  by_cases hn : -128 ≤ n ∧ n ≤ 127
  · exfalso; rw [e1, (e5 hn).1] at h1; simp at h1
  · obtain ⟨m', t', g1, g2, g3⟩ := e6 hn
    subst g1
    rw [e1]
    simp only [List.drop_succ_cons, List.drop_zero]
    rw [fromIntB, if_neg (by simp at e4 ⊢; omega)]
    refine ⟨rfl, ?_⟩
    simp only [List.getD_cons_zero]
    intro he
    have h2 : be (s8 (b8 m')) t' = be m' t' := by rw [g3]; simpa using he
    have h3 := be_inj t' _ _ h2
    have := s8_bd (b8 m')
    omega
end Go.Ber
