/-
  The plain functions of the document's parser of names, and that they tell what dn's tell. Nothing here speaks of a program; no conditions.
  The contracts of the document's parser of names: what each function computes, for every text.
  The contracts of the document's parser of names, further on: a value, a part, all parts.
  The contract of dn's Print.
  The contracts of the document's further functions on names: a name as a text, what does not count, what is above.
  Arguments as data: from the form's reading of a value to the logic's types, with the bounds that the reach gives. Nothing here speaks of a program; no conditions.
  The laws of chapter 13 whose plain side is that both tell the same.
  The laws DnFolds and DnUps.
  The contracts of the program's Escape and Key.
-/
import Derived.Test.YtphakclfahianaaDoorGak
import Derived.Lib.IndexLaws
import Derived.Test.YtphakclfahianaaDoorGah
import Derived.ProofKit
import Derived.OpenShut
import Derived.ShutString
import Derived.ChangeOld
import Derived.Below
import Derived.Carry
import Derived.SizedLaws
import Derived.KernelRfl
import Derived.Test.YtphakclfahianaaDoorGal
set_option linter.unusedSimpArgs false
set_option linter.unusedVariables false
set_option linter.unusedVariables false
namespace Go.Dn
open Go.Vk
theorem indexByte_iff (l : List UInt8) (c : UInt8) : 0 ≤ Lib.indexByte l c ↔ c ∈ l := by
  constructor
  · intro h
    obtain ⟨o, ho⟩ := Int.eq_ofNat_of_zero_le h
    exact List.mem_of_getElem? (Lib.indexByte_some ho).1
  · intro h
    have h1 := Lib.indexByte_ge l c
    rcases Int.lt_or_le (Lib.indexByte l c) 0 with h2 | h2
    · have h3 : Lib.indexByte l c = -1 := by omega
      obtain ⟨k, hk, e⟩ := List.getElem_of_mem h
      exact absurd (by rw [List.getElem?_eq_getElem hk, e]) (Lib.indexByte_none h3 k)
    · exact h2
theorem in_at {l : List UInt8} {c : UInt8} {i : Nat} (h : i < l.length) (he : ((l.getD i 0).toNat : Int) = (c.toNat : Int)) : true = decide (0 ≤ Lib.indexByte l c) := by
  refine (decide_eq_true ?_).symm
  rw [indexByte_iff]
  rw [List.getD_eq_getElem?_getD, List.getElem?_eq_getElem h] at he
  have : l[i] = c := by
    have h2 : ((l[i]).toNat : Int) = (c.toNat : Int) := he
    exact UInt8.toNat_inj.1 (by omega)
  rw [← this]; exact List.getElem_mem h
theorem not_in_snoc {l : List UInt8} {c : UInt8} {i : Nat} (h : i < l.length) (h1 : ¬ c ∈ l.take i) (he : ¬ ((l.getD i 0).toNat : Int) = (c.toNat : Int)) : ¬ c ∈ l.take (i + 1) := by
  rw [List.take_succ_eq_append_getElem h, List.mem_append]
  rintro (h2 | h2)
  · exact h1 h2
  · rw [List.mem_singleton] at h2
    apply he
    rw [List.getD_eq_getElem?_getD, List.getElem?_eq_getElem h, h2]; rfl
theorem in_no {l : List UInt8} {c : UInt8} {i : Nat} (h : ¬ (i : Int) < (l.length : Int)) (h1 : ¬ c ∈ l.take i) : false = decide (0 ≤ Lib.indexByte l c) := by
  refine (decide_eq_false ?_).symm
  rw [indexByte_iff]
  rwa [List.take_of_length_le (by omega)] at h1
def halfV (c : UInt8) : Int := if hexOk c = true then hexV c else -1
theorem halfV_bd (c : UInt8) : -1 ≤ halfV c ∧ halfV c ≤ 15 := by
  have := hexV_bd c
  unfold halfV; split <;> omega
theorem halfV_ok (c : UInt8) : 0 ≤ halfV c ↔ hexOk c = true := by
  have := hexV_bd c
  unfold halfV; split <;> simp_all
theorem halfV_eq {c : UInt8} (h : hexOk c = true) : halfV c = hexV c := if_pos h
theorem halfV_def (c : UInt8) : halfV c = if 48 ≤ (c.toNat : Int) ∧ (c.toNat : Int) ≤ 57 then (c.toNat : Int) - 48 else if 97 ≤ (c.toNat : Int) ∧ (c.toNat : Int) ≤ 102 then (c.toNat : Int) - 97 + 10 else if 65 ≤ (c.toNat : Int) ∧ (c.toNat : Int) ≤ 70 then (c.toNat : Int) - 65 + 10 else -1 := by
  unfold halfV hexV hexOk digB
  by_cases h1 : 48 ≤ (c.toNat : Int) ∧ (c.toNat : Int) ≤ 57
  · rw [if_pos (by simp; omega), if_pos h1, if_pos h1]
  · rw [if_neg h1, if_neg h1]
    by_cases h2 : 97 ≤ (c.toNat : Int) ∧ (c.toNat : Int) ≤ 102
    · rw [if_pos (by simp; omega), if_pos h2, if_pos h2]
    · rw [if_neg h2, if_neg h2]
      by_cases h3 : 65 ≤ (c.toNat : Int) ∧ (c.toNat : Int) ≤ 70
      · rw [if_pos (by simp; omega), if_pos h3, if_pos h3]
      · rw [if_neg h3, if_neg h3, if_neg (by simp; omega)]
def nbC (c : UInt8) : Bool := decide ((c.toNat : Int) ≠ 32) && decide ((c.toNat : Int) ≠ 61)
/-- What stands behind a stroke at n. -/
def strokeF (s : List UInt8) (n : Nat) : Nat × UInt8 × Bool :=
  if s.length ≤ n + 1 then (n, 0, false)
  else if 0 ≤ Lib.indexByte strk (s.getD (n + 1) 0) then (n + 2, s.getD (n + 1) 0, true)
  else if n + 2 < s.length ∧ 0 ≤ halfV (s.getD (n + 1) 0) ∧ 0 ≤ halfV (s.getD (n + 2) 0) then (n + 3, b8 (16 * halfV (s.getD (n + 1) 0) + halfV (s.getD (n + 2) 0)), true)
  else (n, 0, false)
theorem strokeF_0 {s : List UInt8} {n : Nat} (h : s.length ≤ n + 1) : strokeF s n = (n, 0, false) := if_pos h
theorem strokeF_1 {s : List UInt8} {n : Nat} (h : n + 1 < s.length) (h1 : 0 ≤ Lib.indexByte strk (s.getD (n + 1) 0)) : strokeF s n = (n + 2, s.getD (n + 1) 0, true) := by
  unfold strokeF; rw [if_neg (by omega), if_pos h1]
theorem strokeF_2 {s : List UInt8} {n : Nat} (h : n + 1 < s.length) (h1 : ¬ 0 ≤ Lib.indexByte strk (s.getD (n + 1) 0)) (h2 : n + 2 < s.length ∧ 0 ≤ halfV (s.getD (n + 1) 0) ∧ 0 ≤ halfV (s.getD (n + 2) 0)) : strokeF s n = (n + 3, b8 (16 * halfV (s.getD (n + 1) 0) + halfV (s.getD (n + 2) 0)), true) := by
  unfold strokeF; rw [if_neg (by omega), if_neg h1, if_pos h2]
theorem strokeF_3 {s : List UInt8} {n : Nat} (h : n + 1 < s.length) (h1 : ¬ 0 ≤ Lib.indexByte strk (s.getD (n + 1) 0)) (h2 : ¬ (n + 2 < s.length ∧ 0 ≤ halfV (s.getD (n + 1) 0) ∧ 0 ≤ halfV (s.getD (n + 2) 0))) : strokeF s n = (n, 0, false) := by
  unfold strokeF; rw [if_neg (by omega), if_neg h1, if_neg h2]
theorem b8_c (c : UInt8) : b8 (c.toNat : Int) = c := b8_nat c
theorem strokeF_E (s : List UInt8) (n : Nat) : (strokeF s n).2.2 = (strokeE s (n + 1)).2.2 ∧ ((strokeE s (n + 1)).2.2 = true → (strokeF s n).1 = (strokeE s (n + 1)).1 ∧ (strokeF s n).2.1 = b8 (strokeE s (n + 1)).2.1) := by
  by_cases h0 : s.length ≤ n + 1
  · rw [strokeF_0 h0, strokeE_0 h0]; exact ⟨rfl, fun h => by cases h⟩
  by_cases h1 : 0 ≤ Lib.indexByte strk (s.getD (n + 1) 0)
  · rw [strokeF_1 (by omega) h1, strokeE_1 (by omega) h1]; exact ⟨rfl, fun _ => ⟨rfl, (b8_c _).symm⟩⟩
  by_cases h2 : hexOk (s.getD (n + 1) 0) = true ∧ n + 1 + 1 < s.length
  · rw [strokeE_3 h1 h2.1 h2.2]
    by_cases h3 : hexOk (s.getD (n + 2) 0) = true
    · rw [strokeF_2 (by omega) h1 ⟨h2.2, (halfV_ok _).2 h2.1, (halfV_ok _).2 h3⟩, halfV_eq h2.1, halfV_eq h3]
      exact ⟨h3.symm, fun _ => ⟨rfl, by dsimp only; rw [Int.mul_comm]⟩⟩
    · rw [strokeF_3 (by omega) h1 (fun hh => h3 ((halfV_ok _).1 hh.2.2))]
      have : hexOk (s.getD (n + 2) 0) = false := by simpa using h3
      exact ⟨this.symm, fun h => absurd h h3⟩
  · rw [strokeE_2 (by omega) h1 (by by_cases h3 : hexOk (s.getD (n + 1) 0) = true <;> simp_all), strokeF_3 (by omega) h1 (fun hh => h2 ⟨(halfV_ok _).1 hh.2.1, hh.1⟩)]
    exact ⟨rfl, fun h => by cases h⟩
theorem strokeF_bd (s : List UInt8) (n : Nat) (h : n ≤ s.length) : n ≤ (strokeF s n).1 ∧ (strokeF s n).1 ≤ s.length ∧ ((strokeF s n).2.2 = true → n < (strokeF s n).1) := by
  unfold strokeF
  split
  · exact ⟨Nat.le_refl _, h, fun h => by cases h⟩
  · split
    · dsimp only; omega
    · split
      · dsimp only; omega
      · exact ⟨Nat.le_refl _, h, fun h => by cases h⟩
def spcF : List UInt8 := [43, 34, 60, 62, 59]
theorem spcF_iff {c : UInt8} (h1 : (c.toNat : Int) ≠ 44) (h2 : (c.toNat : Int) ≠ 92) : 0 ≤ Lib.indexByte spcF c ↔ 0 ≤ Lib.indexByte spc c := by
  rw [indexByte_iff, indexByte_iff]
  have e1 : c ≠ 44 := fun e => h1 (by rw [e]; rfl)
  have e2 : c ≠ 92 := fun e => h2 (by rw [e]; rfl)
  simp [spcF, spc, e1, e2]
def valF : Nat → List UInt8 → Nat → List UInt8 → Nat → Nat × Option (List UInt8 × Nat)
  | 0, _, n, b, e => (n, some (b, e))
  | k + 1, s, n, b, e =>
    if n < s.length ∧ ((s.getD n 0).toNat : Int) ≠ 44 then
      if ((s.getD n 0).toNat : Int) = 92 then
        if (strokeF s n).2.2 = true then valF k s (strokeF s n).1 (b ++ [(strokeF s n).2.1]) (b.length + 1) else ((strokeF s n).1, none)
      else if 0 ≤ Lib.indexByte spcF (s.getD n 0) then (n, none)
      else if ((s.getD n 0).toNat : Int) = 32 then valF k s (n + 1) (b ++ [s.getD n 0]) e
      else valF k s (n + 1) (b ++ [s.getD n 0]) (b.length + 1)
    else (n, some (b, e))
theorem valF_end {k : Nat} {s : List UInt8} {n : Nat} {b : List UInt8} {e : Nat} (h : ¬ (n < s.length ∧ ((s.getD n 0).toNat : Int) ≠ 44)) : valF k s n b e = (n, some (b, e)) := by
  cases k
  · rfl
  · unfold valF; rw [if_neg h]
theorem valF_bad {k : Nat} {s : List UInt8} {n : Nat} {b : List UInt8} {e : Nat} (h : n < s.length ∧ ((s.getD n 0).toNat : Int) ≠ 44) (h1 : ((s.getD n 0).toNat : Int) = 92) (h2 : (strokeF s n).2.2 = false) : valF (k + 1) s n b e = ((strokeF s n).1, none) := by
  unfold valF; rw [if_pos h, if_pos h1, h2]; rfl
theorem valF_str {k : Nat} {s : List UInt8} {n : Nat} {b : List UInt8} {e : Nat} (h : n < s.length ∧ ((s.getD n 0).toNat : Int) ≠ 44) (h1 : ((s.getD n 0).toNat : Int) = 92) (h2 : (strokeF s n).2.2 = true) : valF (k + 1) s n b e = valF k s (strokeF s n).1 (b ++ [(strokeF s n).2.1]) (b.length + 1) := by
  conv => lhs; unfold valF
  rw [if_pos h, if_pos h1, if_pos h2]
theorem valF_spc {k : Nat} {s : List UInt8} {n : Nat} {b : List UInt8} {e : Nat} (h : n < s.length ∧ ((s.getD n 0).toNat : Int) ≠ 44) (h1 : ¬ ((s.getD n 0).toNat : Int) = 92) (h2 : 0 ≤ Lib.indexByte spcF (s.getD n 0)) : valF (k + 1) s n b e = (n, none) := by
  unfold valF; rw [if_pos h, if_neg h1, if_pos h2]
theorem valF_blank {k : Nat} {s : List UInt8} {n : Nat} {b : List UInt8} {e : Nat} (h : n < s.length ∧ ((s.getD n 0).toNat : Int) ≠ 44) (h1 : ¬ ((s.getD n 0).toNat : Int) = 92) (h2 : ¬ 0 ≤ Lib.indexByte spcF (s.getD n 0)) (h3 : ((s.getD n 0).toNat : Int) = 32) : valF (k + 1) s n b e = valF k s (n + 1) (b ++ [s.getD n 0]) e := by
  conv => lhs; unfold valF
  rw [if_pos h, if_neg h1, if_neg h2, if_pos h3]
theorem valF_else {k : Nat} {s : List UInt8} {n : Nat} {b : List UInt8} {e : Nat} (h : n < s.length ∧ ((s.getD n 0).toNat : Int) ≠ 44) (h1 : ¬ ((s.getD n 0).toNat : Int) = 92) (h2 : ¬ 0 ≤ Lib.indexByte spcF (s.getD n 0)) (h3 : ¬ ((s.getD n 0).toNat : Int) = 32) : valF (k + 1) s n b e = valF k s (n + 1) (b ++ [s.getD n 0]) (b.length + 1) := by
  conv => lhs; unfold valF
  rw [if_pos h, if_neg h1, if_neg h2, if_neg h3]
theorem valF_E : ∀ (k : Nat) (s : List UInt8) (n : Nat) (b : List UInt8) (e : Nat), (valF k s n b e).2 = (valE k s n b e).2 ∧ ((valE k s n b e).2.isSome = true → (valF k s n b e).1 = (valE k s n b e).1)
  | 0, s, n, b, e => ⟨rfl, fun _ => rfl⟩
  | k + 1, s, n, b, e => by
    by_cases h : n < s.length ∧ ((s.getD n 0).toNat : Int) ≠ 44
    case neg => rw [valF_end h, valE_end h]; exact ⟨rfl, fun _ => rfl⟩
    by_cases h1 : ((s.getD n 0).toNat : Int) = 92
    · obtain ⟨g1, g2⟩ := strokeF_E s n
      cases h2 : (strokeE s (n + 1)).2.2 with
      | false => rw [valF_bad h h1 (g1.trans h2), valE_bad h h1 h2]; exact ⟨rfl, fun h => by cases h⟩
      | true =>
        rw [valF_str h h1 (g1.trans h2), valE_str h h1 h2, (g2 h2).1, (g2 h2).2]
        exact valF_E k _ _ _ _
    · by_cases h2 : 0 ≤ Lib.indexByte spc (s.getD n 0)
      · rw [valF_spc h h1 ((spcF_iff h.2 h1).2 h2), valE_spc h h1 h2]; exact ⟨rfl, fun h => by cases h⟩
      · have h2' : ¬ 0 ≤ Lib.indexByte spcF (s.getD n 0) := fun x => h2 ((spcF_iff h.2 h1).1 x)
        by_cases h3 : ((s.getD n 0).toNat : Int) = 32
        · rw [valF_blank h h1 h2' h3, valE_blank h h1 h2 h3]; exact valF_E k _ _ _ _
        · rw [valF_else h h1 h2' h3, valE_else h h1 h2 h3]; exact valF_E k _ _ _ _
def valueF (s : List UInt8) (n : Nat) : Nat × List UInt8 × Bool :=
  match valF (s.length - n) s n [] 0 with
  | (m, some (b, e)) => (m, b.take e, decide (0 < e))
  | (m, none) => (m, [], false)
theorem valueF_some {s : List UInt8} {n m : Nat} {b : List UInt8} {e : Nat} (h : valF (s.length - n) s n [] 0 = (m, some (b, e))) : valueF s n = (m, b.take e, decide (0 < e)) := by unfold valueF; rw [h]
theorem valueF_none {s : List UInt8} {n m : Nat} (h : valF (s.length - n) s n [] 0 = (m, none)) : valueF s n = (m, [], false) := by unfold valueF; rw [h]
theorem valueF_E (s : List UInt8) (n : Nat) : (valueF s n).2 = (valueE s n).2 ∧ ((valueE s n).2.2 = true → (valueF s n).1 = (valueE s n).1) := by
  obtain ⟨h1, h2⟩ := valF_E (s.length - n) s n [] 0
  cases hE : valE (s.length - n) s n [] 0 with
  | mk m o =>
    cases hF : valF (s.length - n) s n [] 0 with
    | mk m' o' =>
      rw [hE, hF] at h1 h2
      dsimp only at h1 h2
      subst h1
      cases o' with
      | none => rw [valueE_none hE, valueF_none hF]; exact ⟨rfl, fun h => by cases h⟩
      | some c => rw [valueE_some hE, valueF_some hF]; exact ⟨rfl, fun _ => h2 rfl⟩
theorem valF_bd (s : List UInt8) : ∀ (k n : Nat) (b : List UInt8) (e : Nat), n ≤ s.length → n ≤ (valF k s n b e).1 ∧ (valF k s n b e).1 ≤ s.length
  | 0, n, b, e, h => ⟨Nat.le_refl _, h⟩
  | k + 1, n, b, e, h => by
    have h1 := strokeF_bd s n h
    unfold valF
    split
    · rename_i h0
      split
      · split
        · have := valF_bd s k (strokeF s n).1 (b ++ [(strokeF s n).2.1]) (b.length + 1) h1.2.1; omega
        · exact ⟨h1.1, h1.2.1⟩
      · split
        · exact ⟨Nat.le_refl _, h⟩
        · split
          · have := valF_bd s k (n + 1) (b ++ [s.getD n 0]) e (by omega); omega
          · have := valF_bd s k (n + 1) (b ++ [s.getD n 0]) (b.length + 1) (by omega); omega
    · exact ⟨Nat.le_refl _, h⟩
theorem valueF_bd (s : List UInt8) (n : Nat) (h : n ≤ s.length) : n ≤ (valueF s n).1 ∧ (valueF s n).1 ≤ s.length := by
  have := valF_bd s (s.length - n) n [] 0 h
  cases hF : valF (s.length - n) s n [] 0 with
  | mk m' o' =>
    rw [hF] at this
    cases o' with
    | none => rw [valueF_none hF]; exact this
    | some c => rw [valueF_some hF]; exact this
/-- Where a value ends there is a comma, or nothing. -/
theorem valE_stop (s : List UInt8) : ∀ (k n : Nat) (b : List UInt8) (e : Nat), s.length - n ≤ k → n ≤ s.length → (valE k s n b e).2.isSome = true → (valE k s n b e).1 = s.length ∨ ((s.getD (valE k s n b e).1 0).toNat : Int) = 44
  | 0, n, b, e, hk, hn, _ => .inl (show n = s.length by omega)
  | k + 1, n, b, e, hk, hn, hs => by
    have hb := strokeE_bd s (n + 1)
    by_cases h : n < s.length ∧ ((s.getD n 0).toNat : Int) ≠ 44
    case neg => rw [valE_end h]; dsimp only; omega
    by_cases h1 : ((s.getD n 0).toNat : Int) = 92
    · cases h2 : (strokeE s (n + 1)).2.2 with
      | false => rw [valE_bad h h1 h2] at hs; cases hs
      | true => rw [valE_str h h1 h2] at hs ⊢; exact valE_stop s k _ _ _ (by have := hb (by omega); omega) (hb (by omega)).2.1 hs
    · by_cases h2 : 0 ≤ Lib.indexByte spc (s.getD n 0)
      · rw [valE_spc h h1 h2] at hs; cases hs
      · by_cases h3 : ((s.getD n 0).toNat : Int) = 32
        · rw [valE_blank h h1 h2 h3] at hs ⊢; exact valE_stop s k _ _ _ (by omega) (by omega) hs
        · rw [valE_else h h1 h2 h3] at hs ⊢; exact valE_stop s k _ _ _ (by omega) (by omega) hs
theorem valueE_stop (s : List UInt8) (n : Nat) (hn : n ≤ s.length) (h : (valueE s n).2.2 = true) : (valueE s n).1 = s.length ∨ ((s.getD (valueE s n).1 0).toNat : Int) = 44 := by
  have := valE_stop s (s.length - n) n [] 0 (Nat.le_refl _) hn
  cases hF : valE (s.length - n) s n [] 0 with
  | mk m' o' =>
    rw [hF] at this
    cases o' with
    | none => rw [valueE_none hF] at h; cases h
    | some c => rw [valueE_some hF]; exact this rfl
/-! ### skipE -/
theorem skipE_all {p : UInt8 → Bool} {s : List UInt8} : ∀ {n j : Nat}, n ≤ j → j < skipE p s n → p (s.getD j 0) = true := by
  intro n j h1 h2
  have hk : ∀ (k n : Nat), j - n = k → n ≤ j → j < skipE p s n → p (s.getD j 0) = true := by
    intro k
    induction k with
    | zero =>
      intro n hk hn hj
      have : n = j := by omega
      subst this
      by_cases hl : n < s.length
      · cases hp : p (s.getD n 0) with
        | true => rfl
        | false => rw [skipE_no (fun _ => hp)] at hj; omega
      · rw [skipE_no (fun h => absurd h hl)] at hj; omega
    | succ k ih =>
      intro n hk hn hj
      by_cases hl : n < s.length
      · cases hp : p (s.getD n 0) with
        | true => rw [skipE_yes hl hp] at hj; exact ih (n + 1) (by omega) (by omega) hj
        | false => rw [skipE_no (fun _ => hp)] at hj; omega
      · rw [skipE_no (fun h => absurd h hl)] at hj; omega
  exact hk _ n rfl h1 h2
theorem skipE_stop {p : UInt8 → Bool} {s : List UInt8} {n : Nat} (h : skipE p s n < s.length) : p (s.getD (skipE p s n) 0) = false := by
  have hk : ∀ (k n : Nat), s.length - n = k → skipE p s n < s.length → p (s.getD (skipE p s n) 0) = false := by
    intro k
    induction k with
    | zero =>
      intro n hk hj
      have := skipE_ge p s n
      omega
    | succ k ih =>
      intro n hk hj
      cases hp : p (s.getD n 0) with
      | true =>
        rw [skipE_yes (by omega) hp] at hj ⊢
        exact ih (n + 1) (by omega) hj
      | false => rw [skipE_no (fun _ => hp)]; exact hp
  exact hk _ n rfl h
theorem skipE_eq {p : UInt8 → Bool} {s : List UInt8} {n m : Nat} (h1 : n ≤ m) (h2 : m ≤ s.length) (h3 : ∀ j, n ≤ j → j < m → p (s.getD j 0) = true) (h4 : m < s.length → p (s.getD m 0) = false) : skipE p s n = m := by
  have hk : ∀ (k n : Nat), m - n = k → n ≤ m → (∀ j, n ≤ j → j < m → p (s.getD j 0) = true) → skipE p s n = m := by
    intro k
    induction k with
    | zero => intro n hk hn _; have : n = m := by omega
              subst this; exact skipE_no h4
    | succ k ih =>
      intro n hk hn ha
      rw [skipE_yes (by omega) (ha n (Nat.le_refl _) (by omega))]
      exact ih (n + 1) (by omega) (by omega) (fun j a b => ha j (by omega) b)
  exact hk _ n rfl h1 h3
theorem typC_nb {c : UInt8} (h : typC c = true) : nbC c = true := by
  have := (typC_iff c).1 h
  simp only [nbC, Bool.and_eq_true, decide_eq_true_eq]
  omega
def kindF (s : List UInt8) (n : Nat) : Nat := skipE nbC s (skipE blk s n)
def typF (s : List UInt8) (n : Nat) : List UInt8 := (s.take (kindF s n)).drop (skipE blk s n)
def eqF (s : List UInt8) (n : Nat) : Nat := skipE blk s (kindF s n)
def valPF (s : List UInt8) (n : Nat) : Nat := skipE blk s (eqF s n + 1)
def partF (s : List UInt8) (n : Nat) : Nat × Ava × Bool :=
  if typB (typF s n) = true ∧ eqF s n < s.length ∧ ((s.getD (eqF s n) 0).toNat : Int) = 61 then ((valueF s (valPF s n)).1, ⟨typF s n, (valueF s (valPF s n)).2.1⟩, (valueF s (valPF s n)).2.2)
  else (eqF s n, ⟨[], []⟩, false)
theorem partF_yes {s : List UInt8} {n : Nat} (h : typB (typF s n) = true ∧ eqF s n < s.length ∧ ((s.getD (eqF s n) 0).toNat : Int) = 61) : partF s n = ((valueF s (valPF s n)).1, ⟨typF s n, (valueF s (valPF s n)).2.1⟩, (valueF s (valPF s n)).2.2) := if_pos h
theorem partF_no {s : List UInt8} {n : Nat} (h : ¬ (typB (typF s n) = true ∧ eqF s n < s.length ∧ ((s.getD (eqF s n) 0).toNat : Int) = 61)) : partF s n = (eqF s n, ⟨[], []⟩, false) := if_neg h
theorem partF_no' {s : List UInt8} {n : Nat} (h : (typB (typF s n) = false ∨ (s.length : Int) ≤ ((eqF s n : Nat) : Int)) ∨ ((s.getD (eqF s n) 0).toNat : Int) ≠ 61) : partF s n = (eqF s n, ⟨[], []⟩, false) := partF_no (fun hh => by
  rcases h with (h | h) | h
  · rw [hh.1] at h; cases h
  · have := hh.2.1; omega
  · exact h hh.2.2)
theorem partF_yes' {s : List UInt8} {n : Nat} (h : (typB (typF s n) = true ∧ ¬ (s.length : Int) ≤ ((eqF s n : Nat) : Int)) ∧ ¬ ((s.getD (eqF s n) 0).toNat : Int) ≠ 61) : partF s n = ((valueF s (valPF s n)).1, ⟨typF s n, (valueF s (valPF s n)).2.1⟩, (valueF s (valPF s n)).2.2) := partF_yes ⟨h.1.1, by have := h.1.2; omega, by have := h.2; omega⟩
theorem okA_iff (a : Ava) : okA a = true ↔ (typB a.typ = true ∧ ¬ (a.val.length : Int) < 1) ∧ ¬ 64 < (a.val.length : Int) := by
  unfold okA
  simp only [Bool.and_eq_true, Bool.not_eq_true', decide_eq_true_eq, decide_eq_false_iff_not, ← List.length_eq_zero_iff]
  constructor
  · rintro ⟨⟨h1, h2⟩, h3⟩; exact ⟨⟨h1, by omega⟩, by omega⟩
  · rintro ⟨⟨h1, h2⟩, h3⟩; exact ⟨⟨h1, by omega⟩, by omega⟩
theorem okA_no {a : Ava} (h : (typB a.typ = false ∨ (a.val.length : Int) < 1) ∨ 64 < (a.val.length : Int)) : okA a = false := by
  cases h1 : okA a with
  | false => rfl
  | true =>
    have h2 := (okA_iff a).1 h1
    rcases h with (h | h) | h
    · rw [h2.1.1] at h; cases h
    · omega
    · omega
theorem isE_no {l : List Ava} {i : Nat} (h : i < l.length) (h1 : okA (l.getD i default) = false) : isE l = false := by
  unfold isE
  have : l.all okA = false := by
    rw [List.all_eq_false]
    exact ⟨_, getD_mem h, by rw [h1]; simp⟩
  rw [this]; simp
theorem allA_snoc {l : List Ava} {i : Nat} (h : i < l.length) (h1 : (l.take i).all okA = true) (h2 : okA (l.getD i default) = true) : (l.take (i + 1)).all okA = true := by
  rw [List.take_succ_eq_append_getElem h, List.all_append, h1]
  rw [List.getD_eq_getElem?_getD, List.getElem?_eq_getElem h] at h2
  simpa using h2
theorem partF_typ (s : List UInt8) (n : Nat) : (partF s n).2.1.typ.length ≤ s.length := by
  have h : (typF s n).length ≤ s.length := by
    unfold typF; rw [List.length_drop, List.length_take]; omega
  unfold partF
  split
  · exact h
  · simp
theorem seg_get {s : List UInt8} {a b j : Nat} (h1 : a ≤ j) (h2 : j < b) (h3 : b ≤ s.length) : s.getD j 0 ∈ (s.take b).drop a := by
  rw [List.getD_eq_getElem?_getD, List.getElem?_eq_getElem (show j < s.length by omega)]
  refine List.mem_iff_getElem.2 ⟨j - a, by simp; omega, ?_⟩
  simp [show a + (j - a) = j by omega]
/-- The two ways to find a type agree where it is one. -/
theorem kind_F (s : List UInt8) (n : Nat) (hn : n ≤ s.length) (h : typB (typF s n) = true) : kindF s n = kindE s n := by
  have b0 := skipE_le blk s n hn
  have b1 := skipE_le nbC s (skipE blk s n) b0
  have b2 := skipE_ge nbC s (skipE blk s n)
  unfold kindE
  refine (skipE_eq b2 b1 (fun j h1 h2 => ?_) (fun hl => ?_)).symm
  · have h3 := ((typB_iff _).1 h).2
    exact List.all_eq_true.1 h3 _ (seg_get h1 h2 b1)
  · cases hc : typC (s.getD (kindF s n) 0) with
    | false => exact hc
    | true => have : nbC (s.getD (kindF s n) 0) = false := skipE_stop (p := nbC) hl
              rw [typC_nb hc] at this; cases this
theorem kind_E (s : List UInt8) (n : Nat) (hn : n ≤ s.length) (h : eqE s n < s.length ∧ ((s.getD (eqE s n) 0).toNat : Int) = 61) : kindF s n = kindE s n := by
  have b0 := skipE_le blk s n hn
  have b1 := skipE_le typC s (skipE blk s n) b0
  have b2 := skipE_ge typC s (skipE blk s n)
  have b3 := skipE_ge blk s (kindE s n)
  refine skipE_eq b2 b1 (fun j h1 h2 => typC_nb (skipE_all h1 h2)) (fun hl => ?_)
  have h0 : kindE s n ≤ eqE s n := b3
  by_cases he : kindE s n = eqE s n
  · have h61 := h.2
    show nbC (s.getD (kindE s n) 0) = false
    rw [he]
    unfold nbC
    rw [decide_eq_false (p := ((s.getD (eqE s n) 0).toNat : Int) ≠ 61) (by omega)]
    simp
  · have hb := skipE_all (p := blk) (s := s) (n := kindE s n) (j := kindE s n) (Nat.le_refl _) (show kindE s n < eqE s n by omega)
    have hb2 : ((s.getD (kindE s n) 0).toNat : Int) = 32 := of_decide_eq_true hb
    show nbC (s.getD (kindE s n) 0) = false
    unfold nbC
    rw [decide_eq_false (p := ((s.getD (kindE s n) 0).toNat : Int) ≠ 32) (by omega)]
    simp
theorem partF_E (s : List UInt8) (n : Nat) (hn : n ≤ s.length) : (partF s n).2.2 = (partE s n).2.2 ∧ ((partE s n).2.2 = true → partF s n = partE s n ∧ ((partE s n).1 = s.length ∨ ((s.getD (partE s n).1 0).toNat : Int) = 44)) := by
  have hb := partE_bd s n hn
  by_cases hF : typB (typF s n) = true ∧ eqF s n < s.length ∧ ((s.getD (eqF s n) 0).toNat : Int) = 61
  · have hk := kind_F s n hn hF.1
    have e1 : typF s n = typE s n := by unfold typF typE; rw [hk]
    have e2 : eqF s n = eqE s n := by unfold eqF eqE; rw [hk]
    have e3 : valPF s n = valP s n := by unfold valPF valP; rw [e2]
    have hF' := hF
    rw [e1, e2] at hF'
    have hv := valueF_E s (valP s n)
    have hs := valueE_stop s (valP s n) (hb.2.2.2.2.1 hF'.2.1).2
    rw [partF_yes hF, partE_2 hF'.1 hF'.2, e1, e3]
    refine ⟨by dsimp only; rw [hv.1], fun h => ⟨?_, ?_⟩⟩
    · dsimp only at h
      rw [hv.1, hv.2 h]
    · exact hs h
  · rw [partF_no hF]
    have : (partE s n).2.2 = false := by
      by_cases h0 : typB (typE s n) = false
      · rw [partE_0 h0]
      · have h0 : typB (typE s n) = true := by simpa using h0
        by_cases h1 : eqE s n < s.length ∧ ((s.getD (eqE s n) 0).toNat : Int) = 61
        · have hk := kind_E s n hn h1
          have e1 : typF s n = typE s n := by unfold typF typE; rw [hk]
          have e2 : eqF s n = eqE s n := by unfold eqF eqE; rw [hk]
          rw [e1, e2] at hF
          exact absurd ⟨h0, h1⟩ hF
        · rw [partE_1 h0 h1]
    rw [this]
    exact ⟨rfl, fun h => by cases h⟩
theorem partF_bd (s : List UInt8) (n : Nat) (h : n ≤ s.length) : n ≤ skipE blk s n ∧ skipE blk s n ≤ kindF s n ∧ kindF s n ≤ eqF s n ∧ eqF s n ≤ s.length ∧ (eqF s n < s.length → eqF s n + 1 ≤ valPF s n ∧ valPF s n ≤ s.length) := by
  have h1 := skipE_ge blk s n
  have h2 := skipE_le blk s n h
  have h3 := skipE_ge nbC s (skipE blk s n)
  have h4 := skipE_le nbC s (skipE blk s n) h2
  have h5 := skipE_ge blk s (kindF s n)
  have h6 := skipE_le blk s (kindF s n) h4
  exact ⟨h1, h3, h5, h6, fun hl => ⟨skipE_ge blk s _, skipE_le blk s _ hl⟩⟩
end Go.Dn
set_option maxRecDepth 8000
set_option linter.unusedVariables false
namespace Go.Proofs.YtphakclfahianaaDoor
open Go.Vk
attribute [local irreducible] HT HX RegS RegA RegM OpP OpC AltT
theorem rfLetter (c : UInt8) : CFn Tryd.prog 36 [okI .u8 (c.toNat : Int)] (Is (.bool (Dn.letB c))) := by
  refine CallsC.of Tryd.call36 Tryd.func36 rfl Tryd.ntmps36 rfl fun w0 G0 S0 hs ho => ?_
  exact run trivial
theorem rfType (s : List UInt8) (hl : s.length ≤ 4611686018427387904) : CFn Tryd.prog 22 [Is (str s)] (Is (.bool (Dn.typB s))) := by
  have c1 := rfLetter
  refine CallsC.of Tryd.call22 Tryd.func22 rfl Tryd.ntmps22 rfl fun w0 G0 S0 hs ho => ?_
  refine run ?_
  refine ⟨?_, ?_⟩
  · intro h
    refine Dn.false_of fun hb => ?_
    have h1 := (Dn.typB_iff s).1 hb
    rw [Dn.letB_iff] at *
    omega
  · intro h1
    have h2 : 0 < s.length := by omega
    refine HT.loopX (σ := Nat) [0] (fun i => [(3, okI .i64 (i : Int))]) (fun _ => []) (fun i => 1 ≤ i ∧ i ≤ s.length ∧ (s.take i).all Dn.typC = true) (fun i => s.length - i) 1 ⟨by omega, by omega, Dn.all_take_snoc (i := 0) h2 (by simp) ((Dn.typC_iff _).2 (by omega))⟩ (run trivial) (run trivial) ?_
    rintro i ⟨h0, hi, hall⟩
    refine run ?_
    refine ⟨fun h2 h3 => ?_, fun h2 h3 => ?_, fun h2 => ?_⟩
    · refine Dn.false_of fun hb => ?_
      have := (Dn.typC_iff _).1 (Dn.all_get (i := i) (by omega) ((Dn.typB_iff s).1 hb).2)
      omega
    · exact HX.roundX (i + 1) ⟨⟨by omega, by omega, Dn.all_take_snoc (by omega) hall ((Dn.typC_iff _).2 (by omega))⟩, by omega⟩ rfl (run trivial) (run trivial)
    · rw [List.take_of_length_le (by omega)] at hall
      refine ((Dn.typB_iff s).2 ⟨?_, hall⟩).symm
      rw [Dn.letB_iff] at *
      omega
end Go.Proofs.YtphakclfahianaaDoor
set_option maxRecDepth 8000
set_option linter.unusedVariables false
namespace Go.Proofs.YtphakclfahianaaDoor
open Go.Vk
attribute [local irreducible] HT HX RegS RegA RegM OpP OpC AltT
attribute [local irreducible] Dn.valueF Dn.partF Dn.partE Dn.parseE Dn.isE
theorem rfIs (l : List Dn.Ava) (hl : l.length ≤ 1152921504606846976) (hta : ∀ a ∈ l, a.typ.length ≤ 1152921504606846976) : CFn Tryd.prog 7 [TSl 2 Dn.cAva l] (Is (.bool (Dn.isE l))) := by
  have c1 := rfType
  refine CallsC.of Tryd.call7 Tryd.func7 rfl Tryd.ntmps7 rfl fun w0 G0 S0 hs ho => ?_
  refine run ?_
  refine ⟨fun h => ?_, fun h => ?_⟩
  · unfold Dn.isE
    rw [decide_eq_false (by omega)]; rfl
  refine HT.loopX (σ := Nat) [0] (fun i => [(3, okI .i64 (i : Int))]) (fun _ => []) (fun i => i ≤ l.length ∧ (l.take i).all Dn.okA = true) (fun i => l.length - i) 0 ⟨by omega, by simp⟩ (run trivial) (run trivial) ?_
  rintro i ⟨hi, ha⟩
  by_cases hlt : i < l.length
  · have h3 := hta _ (Dn.getD_mem hlt)
    refine run ?_
    refine ⟨fun _ h4 => ?_, fun _ h4 => ?_⟩
    · exact (Dn.isE_no hlt (Dn.okA_no h4)).symm
    · exact HX.roundX (i + 1) ⟨⟨by omega, Dn.allA_snoc hlt ha ((Dn.okA_iff _).2 h4)⟩, by omega⟩ rfl (run trivial) (run trivial)
  · refine run ?_
    intro _
    rw [List.take_of_length_le (by omega)] at ha
    unfold Dn.isE
    rw [ha, decide_eq_true (by omega)]; rfl
end Go.Proofs.YtphakclfahianaaDoor
set_option maxRecDepth 8000
set_option linter.unusedVariables false
namespace Go.Proofs.YtphakclfahianaaDoor
open Go.Vk
attribute [local irreducible] HT HX RegS RegA RegM OpP OpC AltT
attribute [local irreducible] Dn.tellR Dn.tellC Dn.tellE Dn.printR Dn.printC Dn.printE
end Go.Proofs.YtphakclfahianaaDoor
set_option linter.unusedVariables false
namespace Go.Dn
open Go.Vk
def hexI (n : Int) : Int := if n < 10 then 48 + n else 97 + n - 10
theorem hexI_D : ∀ n : Fin 16, (hexD.take ((n.val : Int) + 1).toNat).drop (n.val : Int).toNat = [b8 (hexI n.val)] := by decide +kernel
theorem hexI_at {n : Int} (h : 0 ≤ n ∧ n ≤ 15) : (hexD.take (n + 1).toNat).drop n.toNat = [b8 (hexI n)] := by
  have := hexI_D ⟨n.toNat, by omega⟩
  simpa [show (n.toNat : Int) = n by omega] using this
theorem hexI_bd {n : Int} (h : 0 ≤ n ∧ n ≤ 15) : 0 ≤ hexI n ∧ hexI n < 256 := by unfold hexI; split <;> omega
theorem tellC_hexI {v : List UInt8} {k : Nat} (h : ((v.getD k 0).toNat : Int) < 32 ∨ 126 < ((v.getD k 0).toNat : Int)) : tellC v k = [b8 92, b8 (hexI (((v.getD k 0).toNat : Int) / 16)), b8 (hexI (((v.getD k 0).toNat : Int) % 16))] := by
  have hc := (v.getD k 0).toNat_lt
  rw [tellC_hex h, hexI_at (by omega), hexI_at (by omega)]
  rfl
theorem lowC_32 (c : UInt8) : ((lowC c).toNat : Int) = 32 ↔ (c.toNat : Int) = 32 := by
  unfold lowC
  split
  · rw [b8_of (by omega)]; omega
  · exact Iff.rfl
theorem lowC_val {c : UInt8} (h : 65 ≤ (c.toNat : Int) ∧ (c.toNat : Int) ≤ 90) : ((lowC c).toNat : Int) = (c.toNat : Int) + 32 := by
  rw [lowC_up h, b8_of (by omega)]
theorem in35 (c : UInt8) : 0 ≤ Lib.indexByte [35, 32] c ↔ (c.toNat : Int) = 35 ∨ (c.toNat : Int) = 32 := by
  rw [indexByte_iff]
  simp only [List.mem_cons, List.not_mem_nil, or_false]
  constructor
  · rintro (h | h) <;> subst h
    · exact .inl rfl
    · exact .inr rfl
  · rintro (h | h)
    · exact .inl (UInt8.toNat_inj.1 (by show c.toNat = 35; omega))
    · exact .inr (UInt8.toNat_inj.1 (by show c.toNat = 32; omega))
end Go.Dn
set_option maxRecDepth 8000
set_option linter.unusedVariables false
namespace Go.Proofs.YtphakclfahianaaDoor
open Go.Vk
attribute [local irreducible] HT HX RegS RegA RegM OpP OpC AltT
attribute [local irreducible] Dn.tellR Dn.tellC Dn.tellE Dn.printR Dn.printC Dn.printE Dn.foldR Dn.foldE Dn.normE Dn.normA Dn.sameE Dn.underE
set_option maxHeartbeats 2000000 in
theorem rfFold (s : List UInt8) (hs : s.length ≤ 134217728) : CFn Tryd.prog 32 [Is (str s)] (Is (str (Dn.foldE s))) := by
  refine CallsC.of Tryd.call32 Tryd.func32 rfl Tryd.ntmps32 rfl fun w0 G0 S0 hs ho => ?_
  refine run ?_
  refine HT.loopX (σ := Nat × Value) [0, 2] (fun t => [(3, TAnd (Is t.2) (TBytes (Dn.foldR (s.take t.1)))), (4, okI .i64 (t.1 : Int))]) (fun t => [ownSl t.2 1 5]) (fun t => t.1 ≤ s.length) (fun t => s.length - t.1) (0, .slice none 0 0) (Nat.zero_le _) (run trivial) (run ?_) ?_
  · unfold Dn.foldR; rfl
  rintro ⟨i, v⟩ hi
  dsimp only at hi ⊢
  have hl := Dn.foldR_len (s.take i)
  have hl2 : (s.take i).length = i := by rw [List.length_take]; omega
  refine run ?_
  and_intros
  all_goals intros
  all_goals (try simp only [Dn.lastB_at] at *)
  all_goals (first
    | (rename_i h1 h2
       have h3 := Dn.lowC_val h1
       refine HX.roundX (i + 1, _) ⟨by dsimp only; omega, by dsimp only; omega⟩ rfl (run trivial) (run ?_)
       rw [Dn.foldR_put (by omega) (by omega), Dn.lowC_up h1])
    | (rename_i h1 h2
       refine HX.roundX (i + 1, _) ⟨by dsimp only; omega, by dsimp only; omega⟩ rfl (run trivial) (run ?_)
       rw [Dn.foldR_skip (by omega) h2]
       done)
    | (rename_i h1 h2
       refine HX.roundX (i + 1, _) ⟨by dsimp only; omega, by dsimp only; omega⟩ rfl (run trivial) (run ?_)
       rw [Dn.foldR_put (by omega) (by omega), Dn.lowC_no (Dn.nand (by assumption))])
    | (rename_i h1
       rw [List.take_of_length_le (show s.length ≤ i by omega)] at *
       rw [Dn.foldE_cut h1, subN1]
       done)
    | (rename_i h1
       rw [List.take_of_length_le (show s.length ≤ i by omega)] at *
       rw [Dn.foldE_all h1]
       done))
theorem rfValue (s : List UInt8) (hs : s.length ≤ 134217728) : CFn Tryd.prog 33 [Is (str s)] (Is (str (if Dn.foldE s ≠ [] ∨ s = [] then Dn.foldE s else [32]))) := by
  have c1 := rfFold
  refine CallsC.of Tryd.call33 Tryd.func33 rfl Tryd.ntmps33 rfl fun w0 G0 S0 hs ho => ?_
  refine run ?_
  refine ⟨fun h => ?_, fun h => ?_⟩
  · rw [if_neg (by rintro (k | k); exact k h.1; exact h.2 k)]
  · rw [if_pos (h.imp id (fun k => Decidable.not_not.1 k))]
set_option maxHeartbeats 2000000 in
theorem rfNorm (l : List Dn.Ava) (hl : Dn.wgt l ≤ 1048576) : CFn Tryd.prog 13 [TSl 2 Dn.cAva l] (TSl 2 Dn.cAva (Dn.normE l)) := by
  have hw := Dn.wgt_len l
  have c1 := rfFold
  have c2 := rfValue
  have pl := Plan.mk' 5 [(0,3,[]),(1,3,[]),(2,3,[]),(3,3,[]),(4,3,[]),(5,3,[]),(6,3,[]),(7,3,[]),(8,3,[]),(9,3,[]),(10,3,[]),(11,3,[]),(12,3,[]),(13,3,[]),(14,3,[]),(15,0,[]),(16,3,[])]
  refine CallsC.of Tryd.call13 Tryd.func13 rfl Tryd.ntmps13 rfl fun w0 G0 S0 hs ho => ?_
  refine run ?_
  refine HT.loopX (σ := Nat × Value) [0, 2] (fun t => [(3, TAnd (Is t.2) (TSl 2 Dn.cAva (Dn.normE (l.take t.1)))), (4, okI .i64 (t.1 : Int))]) (fun t => [ownSl t.2 2 37]) (fun t => t.1 ≤ l.length) (fun t => l.length - t.1) (0, .slice none 0 0) (Nat.zero_le _) (run trivial) (run ?_) ?_
  · unfold Dn.normE; rfl
  rintro ⟨i, v⟩ hi
  dsimp only at hi ⊢
  have hl2 : (Dn.normE (l.take i)).length = i := by unfold Dn.normE; rw [List.length_map, List.length_take]; omega
  by_cases hlt : i < l.length
  · have h3 := Dn.wgt_at hlt
    have hn := Dn.normE_take hlt
    refine run ?_
    intro v' _
    refine HX.roundX (i + 1, v') ⟨by dsimp only; omega, by dsimp only; omega⟩ rfl (run trivial) (run ?_)
    rw [hn, List.map_append]; unfold Dn.normA; rfl
  · refine run ?_
    intro _
    rw [List.take_of_length_le (by omega)]
theorem rfSame (l m : List Dn.Ava) (hl : Dn.wgt l ≤ 1048576) (hm : Dn.wgt m ≤ 1048576) : CFn Tryd.prog 23 [TSl 2 Dn.cAva l, TSl 2 Dn.cAva m] (Is (.bool (Dn.sameE l m))) := by
  have c1 := rfNorm
  have h0 : (Dn.normE l).length ≤ 1152921504606846976 := by have := Dn.wgt_len l; unfold Dn.normE; rw [List.length_map]; omega
  have hs : Dn.sameE l m = decide (Dn.normE l = Dn.normE m) := by unfold Dn.sameE; rfl
  rw [hs]
  refine CallsC.of Tryd.call23 Tryd.func23 rfl Tryd.ntmps23 rfl fun w0 G0 S0 hs ho => ?_
  refine run ?_
  refine ⟨?_, ?_⟩
  · intro h
    exact (decide_eq_false (fun e => h (by rw [e]))).symm
  intro hc
  refine HT.loopX (σ := Nat) [5, 6] (fun i => [(7, okI .i64 (i : Int))]) (fun _ => []) (fun i => i ≤ (Dn.normE l).length ∧ (Dn.normE l).take i = (Dn.normE m).take i) (fun i => (Dn.normE l).length - i) 0 ⟨Nat.zero_le _, rfl⟩ (run trivial) (run trivial) ?_
  rintro i ⟨hi, he⟩
  have hc' : (Dn.normE l).length = (Dn.normE m).length := by
    have : ((Dn.normE l).length : Int) = ((Dn.normE m).length : Int) := Decidable.not_not.1 hc
    omega
  refine run ?_
  simp only [Dn.avaB, decide_eq_false_iff_not, decide_eq_true_eq]
  and_intros
  all_goals intros
  · rename_i h1 h2
    exact (decide_eq_false (fun e => h2 (by rw [e]))).symm
  · rename_i h1 h2
    exact HX.roundX (i + 1) ⟨⟨by omega, Dn.take_ext (by omega) hc' he h2⟩, by omega⟩ rfl (run trivial) (run trivial)
  · rename_i h1
    exact (decide_eq_true (Dn.take_all h1 hc' he)).symm
theorem rfUnder (l m : List Dn.Ava) (hl : Dn.wgt l ≤ 1048576) (hm : Dn.wgt m ≤ 1048576) : CFn Tryd.prog 8 [TSl 2 Dn.cAva l, TSl 2 Dn.cAva m] (Is (.bool (Dn.underE l m))) := by
  have h1 := Dn.wgt_len l
  have h2 := Dn.wgt_len m
  have h3 := Dn.wgt_drop l
  have c1 := fun k => rfSame (l.drop k) m (by have := h3 k; omega) hm
  refine CallsC.of Tryd.call8 Tryd.func8 rfl Tryd.ntmps8 rfl fun w0 G0 S0 hs ho => ?_
  refine run ?_
  unfold Dn.underE
  rw [show ((l.length : Int) - (m.length : Int)).toNat = l.length - m.length by omega]
  by_cases h : m.length ≤ l.length
  · simp [h]
  · simp [h]
end Go.Proofs.YtphakclfahianaaDoor
set_option linter.unusedVariables false
namespace Go.Vk
/-- Whatever reads as a t reads as some a, cell by cell. -/
structure Opn (P : Program) (t : TypeId) {α : Type} (f : α → List Ty) (ok : α → Prop) : Prop where
  size : ∀ a, (f a).length = P.cellsOf t
  go : ∀ {H : Type} (enc : TypeId × Value → H) (W : World) (fuel : Nat) (cs : List Value) (x : DataW H × List MemPlace), DataW.trod enc P W 0 (fun _ => true) true fuel t cs = some x → (∀ n ∈ x.1.weights P t, n ≤ reachBytes) →
    ∃ a, ok a ∧ cs.length = (f a).length ∧ ∀ (j : Nat) (T : Ty) (u : Value), (f a)[j]? = some T → cs[j]? = some u → T.p (heapImm W) u ∧ u.oneCell' = true
section
variable {P : Program} {t : TypeId}
theorem one_at {T : Ty} {v : Value} {G : Imm} (h : T.p G v) (h1 : v.oneCell' = true) : ∀ (j : Nat) (U : Ty) (u : Value), [T][j]? = some U → [v][j]? = some u → U.p G u ∧ u.oneCell' = true := by
  intro j U u hj hu
  cases j with
  | zero => simp at hj hu; subst hj; subst hu; exact ⟨h, h1⟩
  | succ j => simp at hj
theorem Opn.str (ht : P.underlying t = some .string) (hs : P.cellsOf t = 1) : Opn P t cS (fun l => l.length ≤ reachBytes) where
  size := fun _ => hs.symm
  go := by
    intro H enc W fuel cs x h hw
    obtain ⟨s, rfl, rfl, hm⟩ := DataW.trod_string ht h
    refine ⟨s.data.toList, hw _ (by simp [DataW.weights]), rfl, one_at ?_ rfl⟩
    show Value.string s = .string _
    simp
theorem Opn.int {k : IntKind} (ht : P.underlying t = some (.int k)) (hs : P.cellsOf t = 1) : Opn P t (fun n : Int => [okI k n]) (fun n => (Lit.int k n).wf = true) where
  size := fun _ => hs.symm
  go := by
    intro H enc W fuel cs x h hw
    obtain ⟨n, rfl, rfl, hm⟩ := DataW.trod_int ht h
    exact ⟨n, hm, rfl, one_at rfl rfl⟩
theorem Opn.byte (ht : P.underlying t = some (.int .u8)) (hs : P.cellsOf t = 1) : Opn P t cB (fun _ => True) where
  size := fun _ => hs.symm
  go := by
    intro H enc W fuel cs x h hw
    obtain ⟨n, rfl, rfl, hm⟩ := DataW.trod_int ht h
    exact ⟨b8 n, trivial, rfl, one_at (arg_u8 hm) rfl⟩
theorem Opn.bool (ht : P.underlying t = some .bool) (hs : P.cellsOf t = 1) : Opn P t (fun b : Bool => [Is (.bool b)]) (fun _ => True) where
  size := fun _ => hs.symm
  go := by
    intro H enc W fuel cs x h hw
    obtain ⟨b, rfl, rfl⟩ := DataW.trod_bool ht h
    exact ⟨b, trivial, rfl, one_at rfl rfl⟩
theorem Opn.map {α β : Type} {f : α → List Ty} {ok : α → Prop} (h : Opn P t f ok) (g : α → β) {f' : β → List Ty} {ok' : β → Prop} (hs : ∀ b, (f' b).length = P.cellsOf t) (hf : ∀ a, f' (g a) = f a) (hok : ∀ a, ok a → ok' (g a)) : Opn P t f' ok' where
  size := hs
  go := by
    intro H enc W fuel cs x hx hw
    obtain ⟨a, h1, h2, h3⟩ := h.go enc W fuel cs x hx hw
    refine ⟨g a, hok a h1, by rw [hf]; exact h2, by rw [hf]; exact h3⟩
theorem add_none (b o n : Nat) : (⟨b, o, none⟩ : Addr).add n = ⟨b, o + n, none⟩ := by
  unfold Addr.add
  split
  · rename_i h; simp [h]
  · rfl
theorem weightsAll_mem {H : Type} {e : TypeId} : ∀ {ds : List (DataW H)} {d : DataW H}, d ∈ ds → ∀ n ∈ d.weights P e, n ∈ DataW.weightsAll P e ds
  | d0 :: ds, d, hd, n, hn => by
    simp only [DataW.weightsAll, List.mem_append]
    rcases List.mem_cons.1 hd with rfl | hd
    · exact .inl hn
    · exact .inr (weightsAll_mem hd n hn)
theorem Opn.slice {e : TypeId} {α : Type} {f : α → List Ty} {ok : α → Prop} (h : Opn P e f ok) (ht : P.underlying t = some (.slice e)) (hs : P.cellsOf t = 1) (hz : Nat.blt 0 (P.cellsOf e) = true) : Opn P t (cL (P.cellsOf e) f) (fun l => l.length * P.bytesOf e ≤ reachBytes ∧ ∀ a ∈ l, ok a) where
  size := fun _ => hs.symm
  go := by
    intro H enc W fuel cs x hx hw
    have hz : 0 < P.cellsOf e := Nat.le_of_ble_eq_true hz
    rcases DataW.trod_slice ht hx with ⟨rfl, rfl⟩ | ⟨a, len, cap, elems, rest, n, rfl, rfl, rfl, _, hlc, hcm, hel, hget, _, _⟩
    · exact ⟨[], ⟨by simp, by simp⟩, rfl, one_at (TSlX.sl (nil_sl _ f _)) rfl⟩
    · have key : ∀ i : Fin len, ∃ y : α, ok y ∧ ∃ cs', W.cells? 0 (a.add (i.val * P.cellsOf e)) (P.cellsOf e) = some cs' ∧ ∀ (j : Nat) (T : Ty) (u : Value), (f y)[j]? = some T → cs'[j]? = some u → T.p (heapImm W) u ∧ u.oneCell' = true := by
        intro i
        have hi := hget i.val i.isLt
        have hlt : i.val < elems.length := by rw [hel]; exact i.isLt
        rw [List.getElem?_eq_getElem hlt, Option.bind_eq_some_iff] at hi
        obtain ⟨cs', h1, h2⟩ := hi
        obtain ⟨y, g1, g2, g3⟩ := h.go enc W n cs' _ h2 (fun m hm => hw m (by
          simp only [DataW.weights, ht]
          refine List.mem_cons_of_mem _ (List.mem_append_left _ ?_)
          exact weightsAll_mem (List.mem_map.2 ⟨_, List.getElem_mem hlt, rfl⟩) m hm))
        exact ⟨y, g1, cs', h1, g3⟩
      let l : List α := List.ofFn fun i : Fin len => (key i).choose
      have hll : l.length = len := by simp [l]
      have hl : ∀ (i : Nat) (y : α), l[i]? = some y → ∃ hi : i < len, y = (key ⟨i, hi⟩).choose := by
        intro i y hy
        have hi : i < len := by have := (List.getElem?_eq_some_iff.1 hy).1; omega
        refine ⟨hi, ?_⟩
        simp only [l, List.getElem?_ofFn, hi, dite_true, Option.some.injEq] at hy
        exact hy.symm
      refine ⟨l, ⟨?_, ?_⟩, rfl, one_at ?_ rfl⟩
      · have := hw ((elems.length + rest.length) * P.bytesOf e) (by simp only [DataW.weights, ht, List.length_map]; exact List.mem_cons_self)
        have h2 : l.length * P.bytesOf e ≤ (elems.length + rest.length) * P.bytesOf e := Nat.mul_le_mul_right _ (by omega)
        omega
      · intro y hy
        obtain ⟨i, hi⟩ := List.mem_iff_getElem?.1 hy
        obtain ⟨hlt, rfl⟩ := hl i y hi
        exact (key ⟨i, hlt⟩).choose_spec.1
      · refine ⟨some a, cap, by rw [hll], by omega, hcm, (fun e => by cases e), (fun e => by cases e), fun ad e => ?_⟩
        cases e
        have hspot : 0 < len → a.spot = none := by
          intro hp
          obtain ⟨_, cs', h1, _⟩ := (key ⟨0, hp⟩).choose_spec
          have h2 := (World.cells?_some h1).2.2 0 hz
          have h3 : ∃ u, W.cell? ((a.add (0 * P.cellsOf e)).add 0) = some u := by
            have h4 := (World.cells?_some h1).2.1
            exact ⟨_, h2.trans (List.getElem?_eq_getElem (by omega))⟩
          obtain ⟨u, hu⟩ := h3
          have := World.cell?_spot hu
          simpa [Addr.add] using this
        refine ⟨fun hp => hspot (by omega), fun i y hy => ⟨h.size y, ?_⟩⟩
        obtain ⟨hlt, rfl⟩ := hl i y hy
        obtain ⟨_, cs', h1, h3⟩ := (key ⟨i, hlt⟩).choose_spec
        have hsp := hspot (by omega)
        intro j T hT
        have hj : j < P.cellsOf e := by have := (List.getElem?_eq_some_iff.1 hT).1; rw [h.size] at this; exact this
        have h5 := World.cells?_some h1
        have hcj : cs'[j]? = some cs'[j] := List.getElem?_eq_getElem (by omega)
        refine ⟨cs'[j], ?_, h3 j T _ hT hcj⟩
        have h6 := h5.2.2 j hj
        rw [hcj] at h6
        show W.cell? _ = _
        rw [← h6]
        obtain ⟨b, o, sp⟩ := a
        have hsp : sp = none := hsp
        subst hsp
        rw [add_none, add_none]
/-! ### structs -/
inductive OpnF (P : Program) : List Field → Nat → Nat → (α : Type) → (α → List Ty) → (α → Prop) → Prop
  | nil (off : Nat) : OpnF P [] off off Unit (fun _ => []) (fun _ => True)
  | cons {fd : Field} {fs : List Field} {off last : Nat} {A B : Type} {fa : A → List Ty} {oka : A → Prop} {fb : B → List Ty} {okb : B → Prop} (ho : fd.offset = off) (h : Opn P fd.type fa oka) (r : OpnF P fs (off + P.cellsOf fd.type) last B fb okb) : OpnF P (fd :: fs) off last (A × B) (fun p => fa p.1 ++ fb p.2) (fun p => oka p.1 ∧ okb p.2)
theorem OpnF.size {fs : List Field} {off last : Nat} {α : Type} {f : α → List Ty} {ok : α → Prop} (h : OpnF P fs off last α f ok) : ∀ a, off + (f a).length = last := by
  induction h with
  | nil off => intro a; simp
  | cons ho h r ih =>
    rintro ⟨a, b⟩
    have h1 := h.size a
    have h2 := ih b
    simp only [List.length_append]; omega
theorem OpnF.go {H : Type} {enc : TypeId × Value → H} {W : World} {fuel : Nat} {cs : List Value} {fs : List Field} {off last : Nat} {α : Type} {f : α → List Ty} {ok : α → Prop} (h : OpnF P fs off last α f ok) (hlen : cs.length = last) :
    ∀ (xs : List (DataW H × List MemPlace)), xs.length = fs.length → (∀ (i : Nat) (fd : Field), fs[i]? = some fd → DataW.trod enc P W 0 (fun _ => true) true fuel fd.type ((cs.drop fd.offset).take (P.cellsOf fd.type)) = xs[i]?) →
      (∀ n ∈ DataW.weightsEach P (fs.map (·.type)) (xs.map (·.1)), n ≤ reachBytes) →
      ∃ a, ok a ∧ ∀ (j : Nat) (T : Ty) (u : Value), (f a)[j]? = some T → cs[off + j]? = some u → T.p (heapImm W) u ∧ u.oneCell' = true := by
  induction h with
  | nil off => intro xs _ _ _; exact ⟨(), trivial, fun j T u hj => by simp at hj⟩
  | cons ho h r ih =>
    rename_i fd fs off last A B fa oka fb okb
    intro xs hl hx hw
    cases xs with
    | nil => simp at hl
    | cons x xs =>
      have h0 := hx 0 fd rfl
      simp only [List.getElem?_cons_zero] at h0
      obtain ⟨a, a1, a2, a3⟩ := h.go enc W fuel _ x h0 (fun n hn => hw n (by simp only [List.map_cons, DataW.weightsEach, List.mem_append]; exact .inl hn))
      obtain ⟨b, b1, b2⟩ := ih hlen xs (by simpa using hl) (fun i fd' hi => by
        have := hx (i + 1) fd' (by simpa using hi)
        simpa using this) (fun n hn => hw n (by simp only [List.map_cons, DataW.weightsEach, List.mem_append]; exact .inr hn))
      refine ⟨(a, b), ⟨a1, b1⟩, fun j T u hj hu => ?_⟩
      dsimp only at hj
      have hsz := h.size a
      by_cases hlt : j < (fa a).length
      · rw [List.getElem?_append_left hlt] at hj
        refine a3 j T u hj ?_
        rw [List.getElem?_take, List.getElem?_drop, if_pos (by omega), ho]
        exact hu
      · rw [List.getElem?_append_right (by omega)] at hj
        refine b2 _ T u hj ?_
        rw [← hu]
        congr 1; omega
theorem Opn.struct {fs : Array Field} {last : Nat} {α : Type} {f : α → List Ty} {ok : α → Prop} (ht : P.underlying t = some (.struct fs)) (hs : P.cellsOf t = last) (h : OpnF P fs.toList 0 last α f ok) : Opn P t f ok where
  size := fun a => by have := h.size a; omega
  go := by
    intro H enc W fuel cs x hx hw
    obtain ⟨xs, n, rfl, rfl, hl, hxl, hf⟩ := DataW.trod_struct ht hx
    obtain ⟨a, a1, a2⟩ := h.go (by omega) xs (by simpa using hxl) (fun i fd hi => hf i fd (by simpa using hi)) (fun n hn => hw n (by simp only [DataW.weights, ht]; exact hn))
    have hsz := h.size a
    exact ⟨a, a1, by omega, fun j T u hj hu => a2 j T u hj (by rw [Nat.zero_add]; exact hu)⟩
/-! ### arguments -/
section
variable {H : Type} {enc : TypeId × Value → H} {W : World} {v : Value} {d : DataW H} {ps : List MemPlace} {α : Type}
theorem Opn.one {T : α → Ty} {ok : α → Prop} (h : Opn P t (fun a => [T a]) ok) (hc : v.cells = #[v]) (hd : DataW.Trod enc P W 0 (fun _ => true) true t v d ps) (hw : ∀ n ∈ d.weights P t, n ≤ reachBytes) : ∃ a, ok a ∧ (T a).p (heapImm W) v := by
  obtain ⟨fuel, hf⟩ := hd
  obtain ⟨a, h1, h2, h3⟩ := h.go enc W fuel _ _ hf hw
  rw [hc] at h3
  exact ⟨a, h1, (h3 0 (T a) v rfl rfl).1⟩
theorem Opn.sl {e : TypeId} {sz : Nat} {f : α → List Ty} {ok : List α → Prop} {r : Reach} {b0 : Nat} (h : Opn P t (cL sz f) ok) (ht : P.underlying t = some (.slice e)) (hval : Value.okWide P W r b0 t v) (hd : DataW.Trod enc P W 0 (fun _ => true) true t v d ps) (hw : ∀ n ∈ d.weights P t, n ≤ reachBytes) : ∃ l, ok l ∧ (TSl sz f l).p (heapImm W) v := by
  obtain ⟨a, len, cap, rfl⟩ := WideShapes.okWide_slice ht hval
  exact Opn.one (T := fun l => TSl sz f l) h rfl hd hw
theorem Opn.st {ok : List UInt8 → Prop} {r : Reach} {b0 : Nat} (h : Opn P t cS ok) (ht : P.underlying t = some .string) (hval : Value.okWide P W r b0 t v) (hd : DataW.Trod enc P W 0 (fun _ => true) true t v d ps) (hw : ∀ n ∈ d.weights P t, n ≤ reachBytes) : ∃ l, ok l ∧ (Is (Vk.str l)).p (heapImm W) v := by
  obtain ⟨s, rfl⟩ := WideShapes.okWide_string ht hval
  exact Opn.one (T := fun l => Is (Vk.str l)) h rfl hd hw
theorem Opn.ag {fs : Array Field} {f : α → List Ty} {ok : α → Prop} {r : Reach} {b0 : Nat} (h : Opn P t f ok) (ht : P.underlying t = some (.struct fs)) (hval : Value.okWide P W r b0 t v) (hd : DataW.Trod enc P W 0 (fun _ => true) true t v d ps) (hw : ∀ n ∈ d.weights P t, n ≤ reachBytes) : ∃ a, ok a ∧ (TAgg (f a)).p (heapImm W) v := by
  obtain ⟨cs, rfl, hcs⟩ := WideShapes.okWide_struct ht hval
  obtain ⟨fuel, hf⟩ := hd
  obtain ⟨a, h1, h2, h3⟩ := h.go enc W fuel _ _ hf hw
  exact ⟨a, h1, cs.toList, by simp, by simpa [Value.cells] using h2, fun j T u hj hu => h3 j T u hj (by simpa [Value.cells] using hu)⟩
end
theorem weights_at {H : Type} {ts : List TypeId} {ds : List (DataW H)} (h : (DataW.weightsEach P ts ds).all (· ≤ reachBytes) = true) {j : Nat} {d : DataW H} (ht : ts[j]? = some t) (hd : ds[j]? = some d) : ∀ n ∈ d.weights P t, n ≤ reachBytes := fun n hn => by
  have := List.all_eq_true.1 h n (DataW.weights_mem_each ht hd n hn)
  simpa using this
theorem reach_le {n : Nat} (h : n ≤ reachBytes) : n ≤ 140737488351232 := h
end
end Go.Vk
set_option linter.unusedVariables false
namespace Go.Dn
open Go.Vk
def kS : List UInt8 := [99, 110, 61, 97, 92, 44, 98, 32, 44, 32, 79, 32, 61, 32, 120, 32, 121]
def kL : List Ava := [⟨[99, 110], [97, 44, 98]⟩, ⟨[79], [120, 32, 121]⟩]
def kT : List UInt8 := [99, 110, 61, 97, 92, 44, 98, 44, 79, 61, 120, 32, 121]
theorem kParse : parseE kS = (kL, 0) := by decide +kernel
theorem kWgt : wgt kL = 11 := by decide +kernel
theorem parseE_len (s : List UInt8) : (parseE s).1.length ≤ 12 := by
  unfold parseE
  split
  · simp
  · split
    · simp
    · split
      · rename_i l _ h
        simp only [isE, Bool.and_eq_true, decide_eq_true_eq] at h
        dsimp only; omega
      · simp
theorem wgt_nil : wgt [] = 0 := rfl
theorem sameE_refl (l : List Ava) : sameE l l = true := decide_eq_true rfl
theorem underE_drop (l : List Ava) (k : Nat) (h : k ≤ l.length) : underE l (l.drop k) = true := by
  unfold underE
  rw [List.length_drop, show l.length - (l.length - k) = k by omega, sameE_refl]
  simp
theorem underE_refl (l : List Ava) : underE l l = true := underE_drop l 0 (Nat.zero_le _)
theorem underE_nil (l : List Ava) : underE l [] = true := by
  have := underE_drop l l.length (Nat.le_refl _)
  rwa [List.drop_length] at this
theorem underE_drop1 (l : List Ava) : underE l (l.drop 1) = true := by
  cases l with
  | nil => exact underE_refl []
  | cons a l => exact underE_drop (a :: l) 1 (by simp)
theorem kPrint : printE kL = kT := by decide +kernel
end Go.Dn
set_option maxRecDepth 8000
set_option linter.unusedVariables false
namespace Go.Proofs.YtphakclfahianaaDoor
open Go.Vk
attribute [local irreducible] HT HX RegS RegA RegM OpP OpC AltT
attribute [local irreducible] Dn.tellR Dn.tellC Dn.tellE Dn.printR Dn.printC Dn.printE Dn.foldR Dn.foldE Dn.normE Dn.normA Dn.sameE Dn.underE Dn.parseE Dn.isE Dn.typB Dn.wgt
theorem wgt_of {l : List Dn.Ava} (h : ¬ 1000 < Dn.wgt l) : Dn.wgt l ≤ 1048576 := by omega
theorem opnAva : Opn Tryd.prog 37 Dn.cAva (fun a => a.typ.length ≤ 140737488351232 ∧ a.val.length ≤ 140737488351232) :=
  (Opn.struct Tryd.underlying37 (by kernel_rfl) (OpnF.cons rfl (Opn.str Tryd.underlying9 (by kernel_rfl)) (OpnF.cons rfl (Opn.str Tryd.underlying9 (by kernel_rfl)) (OpnF.nil _)))).map
    (fun p => ⟨p.1, p.2.1⟩) (fun a => by kernel_rfl) (fun p => rfl) (fun p h => ⟨h.1, h.2.1⟩)
theorem opnAvas : Opn Tryd.prog 22 (cL 2 Dn.cAva) (fun l => l.length ≤ 140737488351232 ∧ ∀ a ∈ l, a.typ.length ≤ 140737488351232 ∧ a.val.length ≤ 140737488351232) := by
  have h := Opn.slice opnAva Tryd.underlying22 (by kernel_rfl) (by kernel_rfl)
  rw [show Tryd.prog.cellsOf 37 = 2 by kernel_rfl] at h
  have hb : Tryd.prog.bytesOf 37 = 32 := by kernel_rfl
  exact h.map id (fun l => by rw [show Tryd.prog.cellsOf 22 = 1 by kernel_rfl]; rfl) (fun _ => rfl) (fun l hl => ⟨by have := reach_le hl.1; rw [hb] at this; show l.length ≤ _; omega, hl.2⟩)
end Go.Proofs.YtphakclfahianaaDoor
set_option linter.unusedVariables false
namespace Go.Dn
open Go.Vk
theorem lowC_idem (c : UInt8) : lowC (lowC c) = lowC c := by
  by_cases h : 65 ≤ (c.toNat : Int) ∧ (c.toNat : Int) ≤ 90
  · have := lowC_val h
    exact lowC_no (by omega)
  · rw [lowC_no h, lowC_no h]
theorem foldR_snoc (s : List UInt8) (c : UInt8) : foldR (s ++ [c]) = foldStep (foldR s) c := by simp [foldR]
theorem foldStep_low (b : List UInt8) (c : UInt8) (h : foldStep b c = b ++ [lowC c]) : foldStep b (lowC c) = b ++ [lowC c] := by
  unfold foldStep at *
  by_cases h1 : (c.toNat : Int) = 32 ∧ ((b.length : Int) = 0 ∨ ((lastB b).toNat : Int) = 32)
  · rw [if_pos h1] at h
    have := congrArg List.length h
    simp at this
  · rw [if_neg (by rw [lowC_32]; exact h1), lowC_idem]
theorem foldStep_or (b : List UInt8) (c : UInt8) : foldStep b c = b ∨ foldStep b c = b ++ [lowC c] := by
  unfold foldStep; split
  · exact .inl rfl
  · exact .inr rfl
theorem snoc_ind {p : List UInt8 → Prop} (h0 : p []) (h1 : ∀ s c, p s → p (s ++ [c])) (s : List UInt8) : p s := by
  have : ∀ (n : Nat) (s : List UInt8), s.length = n → p s := by
    intro n
    induction n with
    | zero => intro s hs; rw [List.eq_nil_of_length_eq_zero hs]; exact h0
    | succ n ih =>
      intro s hs
      have hne : s ≠ [] := by intro e; rw [e] at hs; simp at hs
      rw [← List.dropLast_concat_getLast hne]
      exact h1 _ _ (ih _ (by simp; omega))
  exact this _ s rfl
theorem foldR_idem (s : List UInt8) : foldR (foldR s) = foldR s := by
  refine snoc_ind (p := fun s => foldR (foldR s) = foldR s) rfl (fun s c ih => ?_) s
  rw [foldR_snoc]
  rcases foldStep_or (foldR s) c with h | h
  · rw [h, ih]
  · rw [h, foldR_snoc, ih]; exact foldStep_low _ _ h
theorem lastB_snoc (b : List UInt8) (c : UInt8) : lastB (b ++ [c]) = c := by
  unfold lastB; simp
theorem trimE_cases (b : List UInt8) : (∃ b', b = b' ++ [32] ∧ trimE b = b') ∨ (trimE b = b ∧ ¬ (0 < (b.length : Int) ∧ ((lastB b).toNat : Int) = 32)) := by
  by_cases h : 0 < (b.length : Int) ∧ ((lastB b).toNat : Int) = 32
  · left
    have hne : b ≠ [] := by intro e; rw [e] at h; simp at h
    have hd := List.dropLast_concat_getLast hne
    have hl : b.getLast hne = 32 := by
      have h2 := h.2
      rw [← hd, lastB_snoc] at h2
      exact UInt8.toNat_inj.1 (by show _ = 32; omega)
    refine ⟨b.dropLast, by rw [← hl]; exact hd.symm, ?_⟩
    unfold trimE
    rw [if_pos h, List.dropLast_eq_take]
  · right
    exact ⟨if_neg h, h⟩
theorem trimE_of {b : List UInt8} (h : ¬ (0 < (b.length : Int) ∧ ((lastB b).toNat : Int) = 32)) : trimE b = b := if_neg h
theorem trimE_snoc (b : List UInt8) : trimE (b ++ [32]) = b := by
  unfold trimE
  rw [if_pos ⟨by simp, by rw [lastB_snoc]; rfl⟩]
  simp
theorem foldR_head {s b' : List UInt8} (h : foldR s = b' ++ [32]) : foldR b' = b' ∧ ¬ (0 < (b'.length : Int) ∧ ((lastB b').toNat : Int) = 32) := by
  have h1 := foldR_idem s
  rw [h, foldR_snoc] at h1
  have hl := foldR_len b'
  rcases foldStep_or (foldR b') 32 with h2 | h2
  · rw [h2] at h1
    have := congrArg List.length h1
    simp at this; omega
  · have h3 : lowC 32 = 32 := rfl
    rw [h2, h3] at h1
    have h4 : foldR b' = b' := List.append_cancel_right h1
    refine ⟨h4, fun h5 => ?_⟩
    rw [h4] at h2
    unfold foldStep at h2
    rw [if_pos ⟨rfl, .inr h5.2⟩] at h2
    have := congrArg List.length h2
    simp at this
theorem foldE_idem (s : List UInt8) : foldE (foldE s) = foldE s := by
  unfold foldE
  rcases trimE_cases (foldR s) with ⟨b', h1, h2⟩ | ⟨h1, h2⟩
  · obtain ⟨h3, h4⟩ := foldR_head h1
    rw [h2, h3, trimE_of h4]
  · rw [h1, foldR_idem, h1]
theorem foldE_pad (s : List UInt8) : foldE ([32, 32] ++ s ++ [32]) = foldE s := by
  unfold foldE
  have h0 : foldR ([32, 32] ++ s) = foldR s := by
    unfold foldR
    rw [List.foldl_append]; rfl
  rw [foldR_snoc, h0]
  by_cases h : ((foldR s).length : Int) = 0 ∨ ((lastB (foldR s)).toNat : Int) = 32
  · have : foldStep (foldR s) 32 = foldR s := by unfold foldStep; rw [if_pos ⟨rfl, h⟩]
    rw [this]
  · have : foldStep (foldR s) 32 = foldR s ++ [32] := by unfold foldStep; rw [if_neg (fun k => h k.2)]; rfl
    rw [this, trimE_snoc, trimE_of (fun k => h (.inr k.2))]
theorem normA_idem (a : Ava) : normA (normA a) = normA a := by
  unfold normA
  dsimp only
  rw [foldE_idem]
  congr 1
  by_cases h : foldE a.val ≠ [] ∨ a.val = []
  · rw [if_pos h, foldE_idem]
    by_cases h2 : foldE a.val = []
    · rw [if_pos (.inr h2)]
    · rw [if_pos (.inl h2)]
  · rw [if_neg h, if_neg]
    have : foldE [32] = [] := by decide +kernel
    rw [this]; simp
theorem normE_idem (l : List Ava) : normE (normE l) = normE l := by
  unfold normE
  rw [List.map_map]
  exact List.map_congr_left fun a _ => normA_idem a
theorem same_norm (l : List Ava) : sameE l (normE l) = true := by unfold sameE; rw [normE_idem]; simp
theorem wgt_norm (l : List Ava) : wgt (normE l) ≤ 2 * wgt l := by
  unfold normE
  induction l with
  | nil => simp [wgt]
  | cons a l ih =>
    simp only [List.map_cons, wgt]
    have h1 := foldE_len a.typ
    have h2 := foldE_len a.val
    have h3 : (normA a).typ.length ≤ a.typ.length := h1
    have h4 : (normA a).val.length ≤ a.val.length + 1 := by
      unfold normA; dsimp only
      split
      · omega
      · simp
    omega
theorem under_up {x : List Ava} (h : 0 < x.length) : underE (x.drop 1) x = false := by
  unfold underE
  rw [decide_eq_false (by rw [List.length_drop]; omega)]; rfl
end Go.Dn
set_option maxRecDepth 8000
set_option linter.unusedVariables false
namespace Go.Proofs.YtphakclfahianaaDoor
open Go.Vk
attribute [local irreducible] HT HX RegS RegA RegM OpP OpC AltT
attribute [local irreducible] Dn.tellR Dn.tellC Dn.tellE Dn.printR Dn.printC Dn.printE Dn.foldR Dn.foldE Dn.normE Dn.normA Dn.sameE Dn.underE Dn.parseE Dn.isE Dn.typB Dn.wgt
end Go.Proofs.YtphakclfahianaaDoor
set_option linter.unusedVariables false
namespace Go.Dk
open Go.Vk Go.Dn
theorem rev_snoc {l : List Ava} {k : Nat} (h : k < l.length) : l.reverse.take (k + 1) = l.reverse.take k ++ [l.getD ((l.length : Int) - 1 - (k : Int)).toNat default] := by
  have h1 : k < l.reverse.length := by simpa using h
  rw [List.take_succ_eq_append_getElem h1, List.getElem_reverse, show ((l.length : Int) - 1 - (k : Int)).toNat = l.length - 1 - k by omega]
  congr 2
  simp [List.getD_eq_getElem?_getD, List.getElem?_eq_getElem (show l.length - 1 - k < l.length by omega)]
theorem keys_snoc {l : List Ava} {k : Nat} (h : k < l.length) : keysOf (l.reverse.take (k + 1)) = keysOf (l.reverse.take k) ++ keyA (l.getD ((l.length : Int) - 1 - (k : Int)).toNat default) := by
  rw [rev_snoc h, keysOf_app]
  simp [keysOf]
theorem wgt_rev (l : List Ava) : wgt l.reverse = wgt l := by
  have h : ∀ l m : List Ava, wgt (l ++ m) = wgt l + wgt m := fun l m => by
    induction l with
    | nil => simp [wgt]
    | cons a l ih => rw [List.cons_append, wgt, wgt, ih]; omega
  induction l with
  | nil => rfl
  | cons a l ih => rw [List.reverse_cons, h, ih]; simp only [wgt]; omega
theorem wgt_takeL (l : List Ava) (k : Nat) : wgt (l.take k) ≤ wgt l := by
  induction l generalizing k with
  | nil => simp
  | cons a l ih =>
    cases k with
    | zero => simp [wgt]
    | succ k => have := ih k; simp only [List.take_succ_cons, wgt]; omega
theorem keys_le (l : List Ava) (k : Nat) : (keysOf (l.reverse.take k)).length ≤ 3 * wgt l := by
  have h1 := keysOf_len (l.reverse.take k)
  have h2 := wgt_takeL l.reverse k
  rw [wgt_rev] at h2
  omega
end Go.Dk
set_option maxRecDepth 8000
set_option linter.unusedVariables false
namespace Go.Proofs.YtphakclfahianaaDoor
open Go.Vk
attribute [local irreducible] HT HX RegS RegA RegM OpP OpC AltT
theorem dkEscape (s : List UInt8) (hs : s.length ≤ 10000000) : CFnG 0 Tryd.prog 19 [Is (str s)] (Is (str (Dk.esc s))) := by
  have hc := Lib.count_le s [0]
  have c1 := stReplaceAll s [0] [0, 255] (by decide) (by omega) (by simp only [List.length_cons, List.length_nil]; omega)
  rw [Dk.esc_rep] at c1
  refine CallsC.of Tryd.call19 Tryd.func19 rfl Tryd.ntmps19 rfl fun w0 G0 S0 hs ho => ?_
  exact run trivial
attribute [local irreducible] Dn.normE Dn.normA Dk.esc Dk.keysOf Dk.keyA
set_option maxHeartbeats 2000000 in
theorem dkKey (l : List Dn.Ava) (hl : Dn.wgt l ≤ 1000000) : CFnG 0 Tryd.prog 10 [TSl 2 Dn.cAva l] (Is (str (Dk.keyE l))) := by
  have c1 := dnNorm l (by omega)
  have c2 := dkBackward
  have hw := Dn.wgt_norm l
  unfold Dk.keyE
  generalize Dn.normE l = m at c1 hw ⊢
  refine CallsC.ofM Tryd.call10 Tryd.func10 rfl Tryd.ntmps10 rfl fun w0 G0 S0 hs ho => ?_
  refine run ?_
  intro v0
  refine HT.to (L' := [globR 0, BX (blk v0) []]) (run trivial) ?_
  refine HT.range (L' := [globR 0, BX (blk v0) (Dk.keysOf m.reverse)]) (Cs := [TPc [TSl 2 Dn.cAva m]]) (T := fun _ => TTup []) rfl (fun fn lp d tmps G hsz hget => ?_) ?_
  · have h3 := hget 3 _ rfl
    have hml := Dn.wgt_len m
    refine dkBack2 m (by omega) lp _ rfl (fun k => BX (blk v0) (Dk.keysOf (m.reverse.take k))) (by rw [List.take_zero, Dk.keysOf_nil]) (by rw [← List.length_reverse, List.take_length]) (fun k hk => ?_)
    have hk2 := Dk.keys_le m k
    have hk3 := Dk.keys_snoc hk
    have hk4 := Dn.wgt_at (l := m) (i := ((m.length : Int) - 1 - (k : Int)).toNat) (by omega)
    have hk5 := Dk.esc_len (m.getD ((m.length : Int) - 1 - (k : Int)).toNat default).val
    rw [hk3]
    unfold Dk.keyA
    generalize Dk.keysOf (m.reverse.take k) = b at hk2 hk3 ⊢
    generalize m.getD ((m.length : Int) - 1 - (k : Int)).toNat default = a at hk3 hk4 hk5 ⊢
    have c3 := dkEscape a.val (by omega)
    have c4 := bldStr
    have e : a.typ ++ 61 :: (Dk.esc a.val ++ [0, 1]) = a.typ ++ [61] ++ Dk.esc a.val ++ [0, 1] := by simp
    rw [e]
    refine RoundC.of2 [(3, Is (pAt (blk v0) 0))] (show 9 < 21 by decide) (show 10 < 21 by decide) (fun G' => ⟨hsz, rfl, fun t T e => ?_⟩) (fun w1 G1 S1 => ?_)
    · simp only [Env.get] at e
      by_cases h : Nat.beq 3 t = true
      · rw [h] at e
        have := Nat.eq_of_beq_eq_true h
        subst this
        cases e
        exact h3
      · rw [Bool.eq_false_iff.2 h] at e
        cases e
    · refine HTI.region (ops := [_, _]) rfl rfl ?_
      refine run ?_
      intros
      refine HX.begin rfl ?_
      refine HTI.block ?_
      have pl := Plan.mk' 4 [(0,3,[]),(1,2,[3]),(2,3,[]),(3,3,[]),(4,2,[3]),(5,2,[1]),(6,3,[]),(7,3,[]),(8,0,[1])]
      refine HTI.regionM (ops := [_, _, _, _, _, _, _, _, _]) pl rfl rfl rfl rfl (by decide +kernel) ?_
      refine run ?_
      exact HX.endRT rfl rfl (run trivial)
  · have hk := Dk.keysOf_len m.reverse
    rw [Dk.wgt_rev] at hk
    have c5 := bldOut (blk v0) (Dk.keysOf m.reverse) (by omega)
    refine HXM.tail (ops := [_, _]) ?_
    refine .inr ⟨_, _, rfl, rfl, op_callR (is := [1]) c5 (.cons rfl (Sub.refl _) .nil) (.any 1 rfl .nil) rfl (fun _ => Nat.le_refl _), fun v => .inl ⟨_, rfl, rfl, op_assign rfl, ?_⟩⟩
    refine HXM.ret (HXM.done 0 (.inl rfl) rfl rfl rfl)
end Go.Proofs.YtphakclfahianaaDoor
