/-
  The plain functions of the document's parser of names, and that they tell what dn's tell. Nothing here speaks of a program; no conditions.
-/
import Derived.Test.YtibabbepnhpaiaaD0
import Derived.Lib.IndexLaws
set_option linter.unusedVariables false
namespace Go.Dn
open Go.Vk
theorem indexByte_iff (l : List UInt8) (c : UInt8) : 0 ≤ Lib.indexByte l c ↔ c ∈ l := by
  constructor
  · intro h
    obtain ⟨o, ho⟩ := Int.eq_ofNat_of_zero_le h
    exact List.mem_of_getElem? (Lib.indexByte_some ho).1
  · intro h
    have h1 := Lib.indexByte_ge l c
    rcases Int.lt_or_le (Lib.indexByte l c) 0 with h2 | h2
    · have h3 : Lib.indexByte l c = -1 := by omega
      obtain ⟨k, hk, e⟩ := List.getElem_of_mem h
      exact absurd (by rw [List.getElem?_eq_getElem hk, e]) (Lib.indexByte_none h3 k)
    · exact h2
theorem in_at {l : List UInt8} {c : UInt8} {i : Nat} (h : i < l.length) (he : ((l.getD i 0).toNat : Int) = (c.toNat : Int)) : true = decide (0 ≤ Lib.indexByte l c) := by
  refine (decide_eq_true ?_).symm
  rw [indexByte_iff]
  rw [List.getD_eq_getElem?_getD, List.getElem?_eq_getElem h] at he
  have : l[i] = c := by
    have h2 : ((l[i]).toNat : Int) = (c.toNat : Int) := he
    exact UInt8.toNat_inj.1 (by omega)
  rw [← this]; exact List.getElem_mem h
theorem not_in_snoc {l : List UInt8} {c : UInt8} {i : Nat} (h : i < l.length) (h1 : ¬ c ∈ l.take i) (he : ¬ ((l.getD i 0).toNat : Int) = (c.toNat : Int)) : ¬ c ∈ l.take (i + 1) := by
  rw [List.take_succ_eq_append_getElem h, List.mem_append]
  rintro (h2 | h2)
  · exact h1 h2
  · rw [List.mem_singleton] at h2
    apply he
    rw [List.getD_eq_getElem?_getD, List.getElem?_eq_getElem h, h2]; rfl
theorem in_no {l : List UInt8} {c : UInt8} {i : Nat} (h : ¬ (i : Int) < (l.length : Int)) (h1 : ¬ c ∈ l.take i) : false = decide (0 ≤ Lib.indexByte l c) := by
  refine (decide_eq_false ?_).symm
  rw [indexByte_iff]
  rwa [List.take_of_length_le (by omega)] at h1
def halfV (c : UInt8) : Int := if hexOk c = true then hexV c else -1
theorem halfV_bd (c : UInt8) : -1 ≤ halfV c ∧ halfV c ≤ 15 := by
  have := hexV_bd c
  unfold halfV; split <;> omega
theorem halfV_ok (c : UInt8) : 0 ≤ halfV c ↔ hexOk c = true := by
  have := hexV_bd c
  unfold halfV; split <;> simp_all
theorem halfV_eq {c : UInt8} (h : hexOk c = true) : halfV c = hexV c := if_pos h
theorem halfV_def (c : UInt8) : halfV c = if 48 ≤ (c.toNat : Int) ∧ (c.toNat : Int) ≤ 57 then (c.toNat : Int) - 48 else if 97 ≤ (c.toNat : Int) ∧ (c.toNat : Int) ≤ 102 then (c.toNat : Int) - 97 + 10 else if 65 ≤ (c.toNat : Int) ∧ (c.toNat : Int) ≤ 70 then (c.toNat : Int) - 65 + 10 else -1 := by
  unfold halfV hexV hexOk digB
  by_cases h1 : 48 ≤ (c.toNat : Int) ∧ (c.toNat : Int) ≤ 57
  · rw [if_pos (by simp; omega), if_pos h1, if_pos h1]
  · rw [if_neg h1, if_neg h1]
    by_cases h2 : 97 ≤ (c.toNat : Int) ∧ (c.toNat : Int) ≤ 102
    · rw [if_pos (by simp; omega), if_pos h2, if_pos h2]
    · rw [if_neg h2, if_neg h2]
      by_cases h3 : 65 ≤ (c.toNat : Int) ∧ (c.toNat : Int) ≤ 70
      · rw [if_pos (by simp; omega), if_pos h3, if_pos h3]
      · rw [if_neg h3, if_neg h3, if_neg (by simp; omega)]
def nbC (c : UInt8) : Bool := decide ((c.toNat : Int) ≠ 32) && decide ((c.toNat : Int) ≠ 61)
/-- What stands behind a stroke at n. -/
def strokeF (s : List UInt8) (n : Nat) : Nat × UInt8 × Bool :=
  if s.length ≤ n + 1 then (n, 0, false)
  else if 0 ≤ Lib.indexByte strk (s.getD (n + 1) 0) then (n + 2, s.getD (n + 1) 0, true)
  else if n + 2 < s.length ∧ 0 ≤ halfV (s.getD (n + 1) 0) ∧ 0 ≤ halfV (s.getD (n + 2) 0) then (n + 3, b8 (16 * halfV (s.getD (n + 1) 0) + halfV (s.getD (n + 2) 0)), true)
  else (n, 0, false)
theorem strokeF_0 {s : List UInt8} {n : Nat} (h : s.length ≤ n + 1) : strokeF s n = (n, 0, false) := if_pos h
theorem strokeF_1 {s : List UInt8} {n : Nat} (h : n + 1 < s.length) (h1 : 0 ≤ Lib.indexByte strk (s.getD (n + 1) 0)) : strokeF s n = (n + 2, s.getD (n + 1) 0, true) := by
  unfold strokeF; rw [if_neg (by omega), if_pos h1]
theorem strokeF_2 {s : List UInt8} {n : Nat} (h : n + 1 < s.length) (h1 : ¬ 0 ≤ Lib.indexByte strk (s.getD (n + 1) 0)) (h2 : n + 2 < s.length ∧ 0 ≤ halfV (s.getD (n + 1) 0) ∧ 0 ≤ halfV (s.getD (n + 2) 0)) : strokeF s n = (n + 3, b8 (16 * halfV (s.getD (n + 1) 0) + halfV (s.getD (n + 2) 0)), true) := by
  unfold strokeF; rw [if_neg (by omega), if_neg h1, if_pos h2]
theorem strokeF_3 {s : List UInt8} {n : Nat} (h : n + 1 < s.length) (h1 : ¬ 0 ≤ Lib.indexByte strk (s.getD (n + 1) 0)) (h2 : ¬ (n + 2 < s.length ∧ 0 ≤ halfV (s.getD (n + 1) 0) ∧ 0 ≤ halfV (s.getD (n + 2) 0))) : strokeF s n = (n, 0, false) := by
  unfold strokeF; rw [if_neg (by omega), if_neg h1, if_neg h2]
theorem b8_c (c : UInt8) : b8 (c.toNat : Int) = c := b8_nat c
theorem strokeF_E (s : List UInt8) (n : Nat) : (strokeF s n).2.2 = (strokeE s (n + 1)).2.2 ∧ ((strokeE s (n + 1)).2.2 = true → (strokeF s n).1 = (strokeE s (n + 1)).1 ∧ (strokeF s n).2.1 = b8 (strokeE s (n + 1)).2.1) := by
  by_cases h0 : s.length ≤ n + 1
  · rw [strokeF_0 h0, strokeE_0 h0]; exact ⟨rfl, fun h => by cases h⟩
  by_cases h1 : 0 ≤ Lib.indexByte strk (s.getD (n + 1) 0)
  · rw [strokeF_1 (by omega) h1, strokeE_1 (by omega) h1]; exact ⟨rfl, fun _ => ⟨rfl, (b8_c _).symm⟩⟩
  by_cases h2 : hexOk (s.getD (n + 1) 0) = true ∧ n + 1 + 1 < s.length
  · rw [strokeE_3 h1 h2.1 h2.2]
    by_cases h3 : hexOk (s.getD (n + 2) 0) = true
    · rw [strokeF_2 (by omega) h1 ⟨h2.2, (halfV_ok _).2 h2.1, (halfV_ok _).2 h3⟩, halfV_eq h2.1, halfV_eq h3]
      exact ⟨h3.symm, fun _ => ⟨rfl, by dsimp only; rw [Int.mul_comm]⟩⟩
    · rw [strokeF_3 (by omega) h1 (fun hh => h3 ((halfV_ok _).1 hh.2.2))]
      have : hexOk (s.getD (n + 2) 0) = false := by simpa using h3
      exact ⟨this.symm, fun h => absurd h h3⟩
  · rw [strokeE_2 (by omega) h1 (by by_cases h3 : hexOk (s.getD (n + 1) 0) = true <;> simp_all), strokeF_3 (by omega) h1 (fun hh => h2 ⟨(halfV_ok _).1 hh.2.1, hh.1⟩)]
    exact ⟨rfl, fun h => by cases h⟩
theorem strokeF_bd (s : List UInt8) (n : Nat) (h : n ≤ s.length) : n ≤ (strokeF s n).1 ∧ (strokeF s n).1 ≤ s.length ∧ ((strokeF s n).2.2 = true → n < (strokeF s n).1) := by
  unfold strokeF
  split
  · exact ⟨Nat.le_refl _, h, fun h => by cases h⟩
  · split
    · dsimp only; omega
    · split
      · dsimp only; omega
      · exact ⟨Nat.le_refl _, h, fun h => by cases h⟩
def spcF : List UInt8 := [43, 34, 60, 62, 59]
theorem spcF_iff {c : UInt8} (h1 : (c.toNat : Int) ≠ 44) (h2 : (c.toNat : Int) ≠ 92) : 0 ≤ Lib.indexByte spcF c ↔ 0 ≤ Lib.indexByte spc c := by
  rw [indexByte_iff, indexByte_iff]
  have e1 : c ≠ 44 := fun e => h1 (by rw [e]; rfl)
  have e2 : c ≠ 92 := fun e => h2 (by rw [e]; rfl)
  simp [spcF, spc, e1, e2]
def valF : Nat → List UInt8 → Nat → List UInt8 → Nat → Nat × Option (List UInt8 × Nat)
  | 0, _, n, b, e => (n, some (b, e))
  | k + 1, s, n, b, e =>
    if n < s.length ∧ ((s.getD n 0).toNat : Int) ≠ 44 then
      if ((s.getD n 0).toNat : Int) = 92 then
        if (strokeF s n).2.2 = true then valF k s (strokeF s n).1 (b ++ [(strokeF s n).2.1]) (b.length + 1) else ((strokeF s n).1, none)
      else if 0 ≤ Lib.indexByte spcF (s.getD n 0) then (n, none)
      else if ((s.getD n 0).toNat : Int) = 32 then valF k s (n + 1) (b ++ [s.getD n 0]) e
      else valF k s (n + 1) (b ++ [s.getD n 0]) (b.length + 1)
    else (n, some (b, e))
theorem valF_end {k : Nat} {s : List UInt8} {n : Nat} {b : List UInt8} {e : Nat} (h : ¬ (n < s.length ∧ ((s.getD n 0).toNat : Int) ≠ 44)) : valF k s n b e = (n, some (b, e)) := by
  cases k
  · rfl
  · unfold valF; rw [if_neg h]
theorem valF_bad {k : Nat} {s : List UInt8} {n : Nat} {b : List UInt8} {e : Nat} (h : n < s.length ∧ ((s.getD n 0).toNat : Int) ≠ 44) (h1 : ((s.getD n 0).toNat : Int) = 92) (h2 : (strokeF s n).2.2 = false) : valF (k + 1) s n b e = ((strokeF s n).1, none) := by
  unfold valF; rw [if_pos h, if_pos h1, h2]; rfl
theorem valF_str {k : Nat} {s : List UInt8} {n : Nat} {b : List UInt8} {e : Nat} (h : n < s.length ∧ ((s.getD n 0).toNat : Int) ≠ 44) (h1 : ((s.getD n 0).toNat : Int) = 92) (h2 : (strokeF s n).2.2 = true) : valF (k + 1) s n b e = valF k s (strokeF s n).1 (b ++ [(strokeF s n).2.1]) (b.length + 1) := by
  conv => lhs; unfold valF
  rw [if_pos h, if_pos h1, if_pos h2]
theorem valF_spc {k : Nat} {s : List UInt8} {n : Nat} {b : List UInt8} {e : Nat} (h : n < s.length ∧ ((s.getD n 0).toNat : Int) ≠ 44) (h1 : ¬ ((s.getD n 0).toNat : Int) = 92) (h2 : 0 ≤ Lib.indexByte spcF (s.getD n 0)) : valF (k + 1) s n b e = (n, none) := by
  unfold valF; rw [if_pos h, if_neg h1, if_pos h2]
theorem valF_blank {k : Nat} {s : List UInt8} {n : Nat} {b : List UInt8} {e : Nat} (h : n < s.length ∧ ((s.getD n 0).toNat : Int) ≠ 44) (h1 : ¬ ((s.getD n 0).toNat : Int) = 92) (h2 : ¬ 0 ≤ Lib.indexByte spcF (s.getD n 0)) (h3 : ((s.getD n 0).toNat : Int) = 32) : valF (k + 1) s n b e = valF k s (n + 1) (b ++ [s.getD n 0]) e := by
  conv => lhs; unfold valF
  rw [if_pos h, if_neg h1, if_neg h2, if_pos h3]
theorem valF_else {k : Nat} {s : List UInt8} {n : Nat} {b : List UInt8} {e : Nat} (h : n < s.length ∧ ((s.getD n 0).toNat : Int) ≠ 44) (h1 : ¬ ((s.getD n 0).toNat : Int) = 92) (h2 : ¬ 0 ≤ Lib.indexByte spcF (s.getD n 0)) (h3 : ¬ ((s.getD n 0).toNat : Int) = 32) : valF (k + 1) s n b e = valF k s (n + 1) (b ++ [s.getD n 0]) (b.length + 1) := by
  conv => lhs; unfold valF
  rw [if_pos h, if_neg h1, if_neg h2, if_neg h3]
theorem valF_E : ∀ (k : Nat) (s : List UInt8) (n : Nat) (b : List UInt8) (e : Nat), (valF k s n b e).2 = (valE k s n b e).2 ∧ ((valE k s n b e).2.isSome = true → (valF k s n b e).1 = (valE k s n b e).1)
  | 0, s, n, b, e => ⟨rfl, fun _ => rfl⟩
  | k + 1, s, n, b, e => by
    by_cases h : n < s.length ∧ ((s.getD n 0).toNat : Int) ≠ 44
    case neg => rw [valF_end h, valE_end h]; exact ⟨rfl, fun _ => rfl⟩
    by_cases h1 : ((s.getD n 0).toNat : Int) = 92
    · obtain ⟨g1, g2⟩ := strokeF_E s n
      cases h2 : (strokeE s (n + 1)).2.2 with
      | false => rw [valF_bad h h1 (g1.trans h2), valE_bad h h1 h2]; exact ⟨rfl, fun h => by cases h⟩
      | true =>
        rw [valF_str h h1 (g1.trans h2), valE_str h h1 h2, (g2 h2).1, (g2 h2).2]
        exact valF_E k _ _ _ _
    · by_cases h2 : 0 ≤ Lib.indexByte spc (s.getD n 0)
      · rw [valF_spc h h1 ((spcF_iff h.2 h1).2 h2), valE_spc h h1 h2]; exact ⟨rfl, fun h => by cases h⟩
      · have h2' : ¬ 0 ≤ Lib.indexByte spcF (s.getD n 0) := fun x => h2 ((spcF_iff h.2 h1).1 x)
        by_cases h3 : ((s.getD n 0).toNat : Int) = 32
        · rw [valF_blank h h1 h2' h3, valE_blank h h1 h2 h3]; exact valF_E k _ _ _ _
        · rw [valF_else h h1 h2' h3, valE_else h h1 h2 h3]; exact valF_E k _ _ _ _
def valueF (s : List UInt8) (n : Nat) : Nat × List UInt8 × Bool :=
  match valF (s.length - n) s n [] 0 with
  | (m, some (b, e)) => (m, b.take e, decide (0 < e))
  | (m, none) => (m, [], false)
theorem valueF_some {s : List UInt8} {n m : Nat} {b : List UInt8} {e : Nat} (h : valF (s.length - n) s n [] 0 = (m, some (b, e))) : valueF s n = (m, b.take e, decide (0 < e)) := by unfold valueF; rw [h]
theorem valueF_none {s : List UInt8} {n m : Nat} (h : valF (s.length - n) s n [] 0 = (m, none)) : valueF s n = (m, [], false) := by unfold valueF; rw [h]
theorem valueF_E (s : List UInt8) (n : Nat) : (valueF s n).2 = (valueE s n).2 ∧ ((valueE s n).2.2 = true → (valueF s n).1 = (valueE s n).1) := by
  obtain ⟨h1, h2⟩ := valF_E (s.length - n) s n [] 0
  cases hE : valE (s.length - n) s n [] 0 with
  | mk m o =>
    cases hF : valF (s.length - n) s n [] 0 with
    | mk m' o' =>
      rw [hE, hF] at h1 h2
      dsimp only at h1 h2
      subst h1
      cases o' with
      | none => rw [valueE_none hE, valueF_none hF]; exact ⟨rfl, fun h => by cases h⟩
      | some c => rw [valueE_some hE, valueF_some hF]; exact ⟨rfl, fun _ => h2 rfl⟩
theorem valF_bd (s : List UInt8) : ∀ (k n : Nat) (b : List UInt8) (e : Nat), n ≤ s.length → n ≤ (valF k s n b e).1 ∧ (valF k s n b e).1 ≤ s.length
  | 0, n, b, e, h => ⟨Nat.le_refl _, h⟩
  | k + 1, n, b, e, h => by
    have h1 := strokeF_bd s n h
    unfold valF
    split
    · rename_i h0
      split
      · split
        · have := valF_bd s k (strokeF s n).1 (b ++ [(strokeF s n).2.1]) (b.length + 1) h1.2.1; omega
        · exact ⟨h1.1, h1.2.1⟩
      · split
        · exact ⟨Nat.le_refl _, h⟩
        · split
          · have := valF_bd s k (n + 1) (b ++ [s.getD n 0]) e (by omega); omega
          · have := valF_bd s k (n + 1) (b ++ [s.getD n 0]) (b.length + 1) (by omega); omega
    · exact ⟨Nat.le_refl _, h⟩
theorem valueF_bd (s : List UInt8) (n : Nat) (h : n ≤ s.length) : n ≤ (valueF s n).1 ∧ (valueF s n).1 ≤ s.length := by
  have := valF_bd s (s.length - n) n [] 0 h
  cases hF : valF (s.length - n) s n [] 0 with
  | mk m' o' =>
    rw [hF] at this
    cases o' with
    | none => rw [valueF_none hF]; exact this
    | some c => rw [valueF_some hF]; exact this
/-- Where a value ends there is a comma, or nothing. -/
theorem valE_stop (s : List UInt8) : ∀ (k n : Nat) (b : List UInt8) (e : Nat), s.length - n ≤ k → n ≤ s.length → (valE k s n b e).2.isSome = true → (valE k s n b e).1 = s.length ∨ ((s.getD (valE k s n b e).1 0).toNat : Int) = 44
  | 0, n, b, e, hk, hn, _ => .inl (show n = s.length by omega)
  | k + 1, n, b, e, hk, hn, hs => by
    have hb := strokeE_bd s (n + 1)
    by_cases h : n < s.length ∧ ((s.getD n 0).toNat : Int) ≠ 44
    case neg => rw [valE_end h]; dsimp only; omega
    by_cases h1 : ((s.getD n 0).toNat : Int) = 92
    · cases h2 : (strokeE s (n + 1)).2.2 with
      | false => rw [valE_bad h h1 h2] at hs; cases hs
      | true => rw [valE_str h h1 h2] at hs ⊢; exact valE_stop s k _ _ _ (by have := hb (by omega); omega) (hb (by omega)).2.1 hs
    · by_cases h2 : 0 ≤ Lib.indexByte spc (s.getD n 0)
      · rw [valE_spc h h1 h2] at hs; cases hs
      · by_cases h3 : ((s.getD n 0).toNat : Int) = 32
        · rw [valE_blank h h1 h2 h3] at hs ⊢; exact valE_stop s k _ _ _ (by omega) (by omega) hs
        · rw [valE_else h h1 h2 h3] at hs ⊢; exact valE_stop s k _ _ _ (by omega) (by omega) hs
theorem valueE_stop (s : List UInt8) (n : Nat) (hn : n ≤ s.length) (h : (valueE s n).2.2 = true) : (valueE s n).1 = s.length ∨ ((s.getD (valueE s n).1 0).toNat : Int) = 44 := by
  have := valE_stop s (s.length - n) n [] 0 (Nat.le_refl _) hn
  cases hF : valE (s.length - n) s n [] 0 with
  | mk m' o' =>
    rw [hF] at this
    cases o' with
    | none => rw [valueE_none hF] at h; cases h
    | some c => rw [valueE_some hF]; exact this rfl
/-! ### skipE -/
theorem skipE_all {p : UInt8 → Bool} {s : List UInt8} : ∀ {n j : Nat}, n ≤ j → j < skipE p s n → p (s.getD j 0) = true := by
  intro n j h1 h2
  have hk : ∀ (k n : Nat), j - n = k → n ≤ j → j < skipE p s n → p (s.getD j 0) = true := by
    intro k
    induction k with
    | zero =>
      intro n hk hn hj
      have : n = j := by omega
      subst this
      by_cases hl : n < s.length
      · cases hp : p (s.getD n 0) with
        | true => rfl
        | false => rw [skipE_no (fun _ => hp)] at hj; omega
      · rw [skipE_no (fun h => absurd h hl)] at hj; omega
    | succ k ih =>
      intro n hk hn hj
      by_cases hl : n < s.length
      · cases hp : p (s.getD n 0) with
        | true => rw [skipE_yes hl hp] at hj; exact ih (n + 1) (by omega) (by omega) hj
        | false => rw [skipE_no (fun _ => hp)] at hj; omega
      · rw [skipE_no (fun h => absurd h hl)] at hj; omega
  exact hk _ n rfl h1 h2
theorem skipE_stop {p : UInt8 → Bool} {s : List UInt8} {n : Nat} (h : skipE p s n < s.length) : p (s.getD (skipE p s n) 0) = false := by
  have hk : ∀ (k n : Nat), s.length - n = k → skipE p s n < s.length → p (s.getD (skipE p s n) 0) = false := by
    intro k
    induction k with
    | zero =>
      intro n hk hj
      have := skipE_ge p s n
      omega
    | succ k ih =>
      intro n hk hj
      cases hp : p (s.getD n 0) with
      | true =>
        rw [skipE_yes (by omega) hp] at hj ⊢
        exact ih (n + 1) (by omega) hj
      | false => rw [skipE_no (fun _ => hp)]; exact hp
  exact hk _ n rfl h
theorem skipE_eq {p : UInt8 → Bool} {s : List UInt8} {n m : Nat} (h1 : n ≤ m) (h2 : m ≤ s.length) (h3 : ∀ j, n ≤ j → j < m → p (s.getD j 0) = true) (h4 : m < s.length → p (s.getD m 0) = false) : skipE p s n = m := by
  have hk : ∀ (k n : Nat), m - n = k → n ≤ m → (∀ j, n ≤ j → j < m → p (s.getD j 0) = true) → skipE p s n = m := by
    intro k
    induction k with
    | zero => intro n hk hn _; have : n = m := by omega
              subst this; exact skipE_no h4
    | succ k ih =>
      intro n hk hn ha
      rw [skipE_yes (by omega) (ha n (Nat.le_refl _) (by omega))]
      exact ih (n + 1) (by omega) (by omega) (fun j a b => ha j (by omega) b)
  exact hk _ n rfl h1 h3
theorem typC_nb {c : UInt8} (h : typC c = true) : nbC c = true := by
  have := (typC_iff c).1 h
  simp only [nbC, Bool.and_eq_true, decide_eq_true_eq]
  omega
def kindF (s : List UInt8) (n : Nat) : Nat := skipE nbC s (skipE blk s n)
def typF (s : List UInt8) (n : Nat) : List UInt8 := (s.take (kindF s n)).drop (skipE blk s n)
def eqF (s : List UInt8) (n : Nat) : Nat := skipE blk s (kindF s n)
def valPF (s : List UInt8) (n : Nat) : Nat := skipE blk s (eqF s n + 1)
def partF (s : List UInt8) (n : Nat) : Nat × Ava × Bool :=
  if typB (typF s n) = true ∧ eqF s n < s.length ∧ ((s.getD (eqF s n) 0).toNat : Int) = 61 then ((valueF s (valPF s n)).1, ⟨typF s n, (valueF s (valPF s n)).2.1⟩, (valueF s (valPF s n)).2.2)
  else (eqF s n, ⟨[], []⟩, false)
theorem partF_yes {s : List UInt8} {n : Nat} (h : typB (typF s n) = true ∧ eqF s n < s.length ∧ ((s.getD (eqF s n) 0).toNat : Int) = 61) : partF s n = ((valueF s (valPF s n)).1, ⟨typF s n, (valueF s (valPF s n)).2.1⟩, (valueF s (valPF s n)).2.2) := if_pos h
theorem partF_no {s : List UInt8} {n : Nat} (h : ¬ (typB (typF s n) = true ∧ eqF s n < s.length ∧ ((s.getD (eqF s n) 0).toNat : Int) = 61)) : partF s n = (eqF s n, ⟨[], []⟩, false) := if_neg h
theorem partF_no' {s : List UInt8} {n : Nat} (h : (typB (typF s n) = false ∨ (s.length : Int) ≤ ((eqF s n : Nat) : Int)) ∨ ((s.getD (eqF s n) 0).toNat : Int) ≠ 61) : partF s n = (eqF s n, ⟨[], []⟩, false) := partF_no (fun hh => by
  rcases h with (h | h) | h
  · rw [hh.1] at h; cases h
  · have := hh.2.1; omega
  · exact h hh.2.2)
theorem partF_yes' {s : List UInt8} {n : Nat} (h : (typB (typF s n) = true ∧ ¬ (s.length : Int) ≤ ((eqF s n : Nat) : Int)) ∧ ¬ ((s.getD (eqF s n) 0).toNat : Int) ≠ 61) : partF s n = ((valueF s (valPF s n)).1, ⟨typF s n, (valueF s (valPF s n)).2.1⟩, (valueF s (valPF s n)).2.2) := partF_yes ⟨h.1.1, by have := h.1.2; omega, by have := h.2; omega⟩
theorem okA_iff (a : Ava) : okA a = true ↔ (typB a.typ = true ∧ ¬ (a.val.length : Int) < 1) ∧ ¬ 64 < (a.val.length : Int) := by
  unfold okA
  simp only [Bool.and_eq_true, Bool.not_eq_true', decide_eq_true_eq, decide_eq_false_iff_not, ← List.length_eq_zero_iff]
  constructor
  · rintro ⟨⟨h1, h2⟩, h3⟩; exact ⟨⟨h1, by omega⟩, by omega⟩
  · rintro ⟨⟨h1, h2⟩, h3⟩; exact ⟨⟨h1, by omega⟩, by omega⟩
theorem okA_no {a : Ava} (h : (typB a.typ = false ∨ (a.val.length : Int) < 1) ∨ 64 < (a.val.length : Int)) : okA a = false := by
  cases h1 : okA a with
  | false => rfl
  | true =>
    have h2 := (okA_iff a).1 h1
    rcases h with (h | h) | h
    · rw [h2.1.1] at h; cases h
    · omega
    · omega
theorem isE_no {l : List Ava} {i : Nat} (h : i < l.length) (h1 : okA (l.getD i default) = false) : isE l = false := by
  unfold isE
  have : l.all okA = false := by
    rw [List.all_eq_false]
    exact ⟨_, getD_mem h, by rw [h1]; simp⟩
  rw [this]; simp
theorem allA_snoc {l : List Ava} {i : Nat} (h : i < l.length) (h1 : (l.take i).all okA = true) (h2 : okA (l.getD i default) = true) : (l.take (i + 1)).all okA = true := by
  rw [List.take_succ_eq_append_getElem h, List.all_append, h1]
  rw [List.getD_eq_getElem?_getD, List.getElem?_eq_getElem h] at h2
  simpa using h2
theorem partF_typ (s : List UInt8) (n : Nat) : (partF s n).2.1.typ.length ≤ s.length := by
  have h : (typF s n).length ≤ s.length := by
    unfold typF; rw [List.length_drop, List.length_take]; omega
  unfold partF
  split
  · exact h
  · simp
theorem seg_get {s : List UInt8} {a b j : Nat} (h1 : a ≤ j) (h2 : j < b) (h3 : b ≤ s.length) : s.getD j 0 ∈ (s.take b).drop a := by
  rw [List.getD_eq_getElem?_getD, List.getElem?_eq_getElem (show j < s.length by omega)]
  refine List.mem_iff_getElem.2 ⟨j - a, by simp; omega, ?_⟩
  simp [show a + (j - a) = j by omega]
/-- The two ways to find a type agree where it is one. -/
theorem kind_F (s : List UInt8) (n : Nat) (hn : n ≤ s.length) (h : typB (typF s n) = true) : kindF s n = kindE s n := by
  have b0 := skipE_le blk s n hn
  have b1 := skipE_le nbC s (skipE blk s n) b0
  have b2 := skipE_ge nbC s (skipE blk s n)
  unfold kindE
  refine (skipE_eq b2 b1 (fun j h1 h2 => ?_) (fun hl => ?_)).symm
  · have h3 := ((typB_iff _).1 h).2
    exact List.all_eq_true.1 h3 _ (seg_get h1 h2 b1)
  · cases hc : typC (s.getD (kindF s n) 0) with
    | false => exact hc
    | true => have : nbC (s.getD (kindF s n) 0) = false := skipE_stop (p := nbC) hl
              rw [typC_nb hc] at this; cases this
theorem kind_E (s : List UInt8) (n : Nat) (hn : n ≤ s.length) (h : eqE s n < s.length ∧ ((s.getD (eqE s n) 0).toNat : Int) = 61) : kindF s n = kindE s n := by
  have b0 := skipE_le blk s n hn
  have b1 := skipE_le typC s (skipE blk s n) b0
  have b2 := skipE_ge typC s (skipE blk s n)
  have b3 := skipE_ge blk s (kindE s n)
  refine skipE_eq b2 b1 (fun j h1 h2 => typC_nb (skipE_all h1 h2)) (fun hl => ?_)
  have h0 : kindE s n ≤ eqE s n := b3
  by_cases he : kindE s n = eqE s n
  · have h61 := h.2
    show nbC (s.getD (kindE s n) 0) = false
    rw [he]
    unfold nbC
    rw [decide_eq_false (p := ((s.getD (eqE s n) 0).toNat : Int) ≠ 61) (by omega)]
    simp
  · have hb := skipE_all (p := blk) (s := s) (n := kindE s n) (j := kindE s n) (Nat.le_refl _) (show kindE s n < eqE s n by omega)
    have hb2 : ((s.getD (kindE s n) 0).toNat : Int) = 32 := of_decide_eq_true hb
    show nbC (s.getD (kindE s n) 0) = false
    unfold nbC
    rw [decide_eq_false (p := ((s.getD (kindE s n) 0).toNat : Int) ≠ 32) (by omega)]
    simp
theorem partF_E (s : List UInt8) (n : Nat) (hn : n ≤ s.length) : (partF s n).2.2 = (partE s n).2.2 ∧ ((partE s n).2.2 = true → partF s n = partE s n ∧ ((partE s n).1 = s.length ∨ ((s.getD (partE s n).1 0).toNat : Int) = 44)) := by
  have hb := partE_bd s n hn
  by_cases hF : typB (typF s n) = true ∧ eqF s n < s.length ∧ ((s.getD (eqF s n) 0).toNat : Int) = 61
  · have hk := kind_F s n hn hF.1
    have e1 : typF s n = typE s n := by unfold typF typE; rw [hk]
    have e2 : eqF s n = eqE s n := by unfold eqF eqE; rw [hk]
    have e3 : valPF s n = valP s n := by unfold valPF valP; rw [e2]
    have hF' := hF
    rw [e1, e2] at hF'
    have hv := valueF_E s (valP s n)
    have hs := valueE_stop s (valP s n) (hb.2.2.2.2.1 hF'.2.1).2
    rw [partF_yes hF, partE_2 hF'.1 hF'.2, e1, e3]
    refine ⟨by dsimp only; rw [hv.1], fun h => ⟨?_, ?_⟩⟩
    · dsimp only at h
      rw [hv.1, hv.2 h]
    · exact hs h
  · rw [partF_no hF]
    have : (partE s n).2.2 = false := by
      by_cases h0 : typB (typE s n) = false
      · rw [partE_0 h0]
      · have h0 : typB (typE s n) = true := by simpa using h0
        by_cases h1 : eqE s n < s.length ∧ ((s.getD (eqE s n) 0).toNat : Int) = 61
        · have hk := kind_E s n hn h1
          have e1 : typF s n = typE s n := by unfold typF typE; rw [hk]
          have e2 : eqF s n = eqE s n := by unfold eqF eqE; rw [hk]
          rw [e1, e2] at hF
          exact absurd ⟨h0, h1⟩ hF
        · rw [partE_1 h0 h1]
    rw [this]
    exact ⟨rfl, fun h => by cases h⟩
theorem partF_bd (s : List UInt8) (n : Nat) (h : n ≤ s.length) : n ≤ skipE blk s n ∧ skipE blk s n ≤ kindF s n ∧ kindF s n ≤ eqF s n ∧ eqF s n ≤ s.length ∧ (eqF s n < s.length → eqF s n + 1 ≤ valPF s n ∧ valPF s n ≤ s.length) := by
  have h1 := skipE_ge blk s n
  have h2 := skipE_le blk s n h
  have h3 := skipE_ge nbC s (skipE blk s n)
  have h4 := skipE_le nbC s (skipE blk s n) h2
  have h5 := skipE_ge blk s (kindF s n)
  have h6 := skipE_le blk s (kindF s n) h4
  exact ⟨h1, h3, h5, h6, fun hl => ⟨skipE_ge blk s _, skipE_le blk s _ hl⟩⟩
end Go.Dn
