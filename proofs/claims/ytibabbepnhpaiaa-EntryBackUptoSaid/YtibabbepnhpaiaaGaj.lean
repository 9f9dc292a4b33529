/-
  The contracts of strings.IndexByte and of what it calls: for every input; nothing that was there is changed.
  The plain functions of dn: what its Go functions compute, on lists of bytes. Nothing here speaks of a program; no conditions.
  The contracts of dn's parser: what each function computes, for every text.
  The contracts of dn's parser, further on: blanks, kind, stroke, value, part.
  The contracts of dn's parser, further on: blanks, kind, stroke, value, part.
  The contract of dn's parser's value.
  The contracts of dn's part, Is and what these call.
  The contract of dn's Parse.
  The contracts of dn's Fold, Norm, Same, Under, Up.
  The plain functions of the document's parser of names, and that they tell what dn's tell. Nothing here speaks of a program; no conditions.
  The contracts of the document's parser of names: what each function computes, for every text.
  The contracts of the document's parser of names, further on: a value, a part, all parts.
  The contracts of strings.Builder: for every Builder of one's own; nothing else that was there is changed.
  The contract of dn's Print.
-/
import Derived.Test.YtibabbepnhpaiaaRows
import Derived.Test.YtibabbepnhpaiaaGai
import Derived.Lib.IndexLaws
set_option linter.unusedSimpArgs false
set_option linter.unusedVariables false
set_option maxRecDepth 8000
set_option linter.unusedVariables false
namespace Go.Proofs.Ytibabbepnhpaiaa
open Go.Vk
attribute [local irreducible] HT HX RegS RegA RegM OpP OpC AltT
end Go.Proofs.Ytibabbepnhpaiaa
set_option linter.unusedVariables false
namespace Go.Dn
open Go.Vk
/-- A part of a name. -/
structure Ava where
  typ : List UInt8
  val : List UInt8
instance : Inhabited Ava := ⟨⟨[], []⟩⟩
def cAva (a : Ava) : List Ty := [Is (str a.typ), Is (str a.val)]
theorem Ava.ext' {a b : Ava} (h1 : a.typ = b.typ) (h2 : a.val = b.val) : a = b := by cases a; cases b; simp at h1 h2; rw [h1, h2]
instance : DecidableEq Ava := fun a b => decidable_of_iff (a.typ = b.typ ∧ a.val = b.val) ⟨fun h => Ava.ext' h.1 h.2, fun h => by rw [h]; exact ⟨rfl, rfl⟩⟩

abbrev letB (c : UInt8) : Bool := decide (97 ≤ (c.toNat : Int)) && decide ((c.toNat : Int) ≤ 122) || (decide (65 ≤ (c.toNat : Int)) && decide ((c.toNat : Int) ≤ 90))
abbrev digB (c : UInt8) : Bool := decide (48 ≤ (c.toNat : Int)) && decide ((c.toNat : Int) ≤ 57)
def typC (c : UInt8) : Bool := letB c || digB c || decide ((c.toNat : Int) = 45)
def typB (s : List UInt8) : Bool := !(decide (s = [])) && decide ((s.length : Int) ≤ 32) && letB (s.getD 0 0) && s.all typC
theorem letB_iff (c : UInt8) : letB c = true ↔ (97 ≤ (c.toNat : Int) ∧ (c.toNat : Int) ≤ 122) ∨ (65 ≤ (c.toNat : Int) ∧ (c.toNat : Int) ≤ 90) := by
  simp only [letB, Bool.or_eq_true, Bool.and_eq_true, decide_eq_true_eq]
theorem typC_iff (c : UInt8) : typC c = true ↔ (97 ≤ (c.toNat : Int) ∧ (c.toNat : Int) ≤ 122) ∨ (65 ≤ (c.toNat : Int) ∧ (c.toNat : Int) ≤ 90) ∨ (48 ≤ (c.toNat : Int) ∧ (c.toNat : Int) ≤ 57) ∨ (c.toNat : Int) = 45 := by
  simp only [typC, letB, digB, Bool.or_eq_true, Bool.and_eq_true, decide_eq_true_eq]
  omega
theorem typB_iff (s : List UInt8) : typB s = true ↔ (0 < s.length ∧ s.length ≤ 32 ∧ letB (s.getD 0 0) = true) ∧ s.all typC = true := by
  simp only [typB, Bool.and_eq_true, Bool.not_eq_true', decide_eq_true_eq, decide_eq_false_iff_not, ← List.length_eq_zero_iff]
  constructor
  · rintro ⟨⟨⟨h1, h2⟩, h3⟩, h4⟩; exact ⟨⟨by omega, by omega, h3⟩, h4⟩
  · rintro ⟨⟨h1, h2, h3⟩, h4⟩; exact ⟨⟨⟨by omega, by omega⟩, h3⟩, h4⟩
theorem false_of {b : Bool} (h : b = true → False) : false = b := by
  cases b
  · rfl
  · exact (h rfl).elim
theorem true_of {b : Bool} (h : b = true) : true = b := h.symm
theorem all_take_snoc {p : UInt8 → Bool} {s : List UInt8} {i : Nat} (h : i < s.length) (h1 : (s.take i).all p = true) (h2 : p (s.getD i 0) = true) : (s.take (i + 1)).all p = true := by
  rw [List.take_succ_eq_append_getElem h, List.all_append, h1]
  rw [List.getD_eq_getElem?_getD, List.getElem?_eq_getElem h] at h2
  simpa using h2
theorem all_get {p : UInt8 → Bool} {s : List UInt8} {i : Nat} (h : i < s.length) (h1 : s.all p = true) : p (s.getD i 0) = true := by
  rw [List.getD_eq_getElem?_getD, List.getElem?_eq_getElem h]
  exact List.all_eq_true.1 h1 _ (List.getElem_mem h)
def hexOk (c : UInt8) : Bool := digB c || (decide (97 ≤ (c.toNat : Int)) && decide ((c.toNat : Int) ≤ 102)) || (decide (65 ≤ (c.toNat : Int)) && decide ((c.toNat : Int) ≤ 70))
def hexV (c : UInt8) : Int := if 48 ≤ (c.toNat : Int) ∧ (c.toNat : Int) ≤ 57 then (c.toNat : Int) - 48 else if 97 ≤ (c.toNat : Int) ∧ (c.toNat : Int) ≤ 102 then (c.toNat : Int) - 97 + 10 else if 65 ≤ (c.toNat : Int) ∧ (c.toNat : Int) ≤ 70 then (c.toNat : Int) - 65 + 10 else 0
theorem hexV_bd (c : UInt8) : 0 ≤ hexV c ∧ hexV c ≤ 15 := by unfold hexV; split <;> (try split) <;> (try split) <;> omega

/-- The place behind a row of bytes of a kind, from a place on. -/
def skipE (p : UInt8 → Bool) (s : List UInt8) (n : Nat) : Nat := n + ((s.drop n).takeWhile p).length
theorem drop_cons {s : List UInt8} {n : Nat} (h : n < s.length) : s.drop n = s.getD n 0 :: s.drop (n + 1) := by
  rw [List.drop_eq_getElem_cons h, List.getD_eq_getElem?_getD, List.getElem?_eq_getElem h]; rfl
theorem skipE_yes {p : UInt8 → Bool} {s : List UInt8} {n : Nat} (h : n < s.length) (hp : p (s.getD n 0) = true) : skipE p s n = skipE p s (n + 1) := by
  unfold skipE; rw [drop_cons h, List.takeWhile_cons, if_pos hp]; simp; omega
theorem skipE_no {p : UInt8 → Bool} {s : List UInt8} {n : Nat} (hp : n < s.length → p (s.getD n 0) = false) : skipE p s n = n := by
  unfold skipE
  by_cases h : n < s.length
  · rw [drop_cons h, List.takeWhile_cons, if_neg (by rw [hp h]; simp)]; rfl
  · rw [List.drop_eq_nil_of_le (by omega)]; rfl
theorem skipE_ge (p : UInt8 → Bool) (s : List UInt8) (n : Nat) : n ≤ skipE p s n := by unfold skipE; omega
theorem skipE_le (p : UInt8 → Bool) (s : List UInt8) (n : Nat) (h : n ≤ s.length) : skipE p s n ≤ s.length := by
  unfold skipE
  have h1 := (List.takeWhile_sublist p (l := s.drop n)).length_le
  rw [List.length_drop] at h1; omega

def spc : List UInt8 := [44, 43, 34, 92, 60, 62, 59]
def strk : List UInt8 := [44, 43, 34, 92, 60, 62, 59, 35, 61, 32]
/-- What stands behind a stroke: the place behind it, the byte, whether it may be. -/
def strokeE (s : List UInt8) (n : Nat) : Nat × Int × Bool :=
  if s.length ≤ n then (n, 0, false)
  else if 0 ≤ Lib.indexByte strk (s.getD n 0) then (n + 1, ((s.getD n 0).toNat : Int), true)
  else if hexOk (s.getD n 0) = false ∨ s.length ≤ n + 1 then (n + 1, 0, false)
  else (n + 2, hexV (s.getD n 0) * 16 + hexV (s.getD (n + 1) 0), hexOk (s.getD (n + 1) 0))
theorem strokeE_0 {s : List UInt8} {n : Nat} (h : s.length ≤ n) : strokeE s n = (n, 0, false) := if_pos h
theorem strokeE_1 {s : List UInt8} {n : Nat} (h : n < s.length) (h1 : 0 ≤ Lib.indexByte strk (s.getD n 0)) : strokeE s n = (n + 1, ((s.getD n 0).toNat : Int), true) := by
  unfold strokeE; rw [if_neg (by omega), if_pos h1]
theorem strokeE_2 {s : List UInt8} {n : Nat} (h : n < s.length) (h1 : ¬ 0 ≤ Lib.indexByte strk (s.getD n 0)) (h2 : hexOk (s.getD n 0) = false ∨ s.length ≤ n + 1) : strokeE s n = (n + 1, 0, false) := by
  unfold strokeE; rw [if_neg (by omega), if_neg h1, if_pos h2]
theorem strokeE_3 {s : List UInt8} {n : Nat} (h1 : ¬ 0 ≤ Lib.indexByte strk (s.getD n 0)) (h2 : hexOk (s.getD n 0) = true) (h3 : n + 1 < s.length) : strokeE s n = (n + 2, hexV (s.getD n 0) * 16 + hexV (s.getD (n + 1) 0), hexOk (s.getD (n + 1) 0)) := by
  unfold strokeE; rw [if_neg (by omega), if_neg h1, if_neg (by rw [h2]; simp; omega)]
theorem strokeE_bd (s : List UInt8) (n : Nat) (h : n ≤ s.length) : n ≤ (strokeE s n).1 ∧ (strokeE s n).1 ≤ s.length ∧ 0 ≤ (strokeE s n).2.1 ∧ (strokeE s n).2.1 < 256 := by
  unfold strokeE
  have h1 := hexV_bd (s.getD n 0)
  have h2 := hexV_bd (s.getD (n + 1) 0)
  have h3 := (s.getD n 0).toNat_lt
  repeat' split
  all_goals dsimp only
  all_goals omega
/-- A value: the place behind it, its bytes, how many of them count; none: it may not be. -/
def valE : Nat → List UInt8 → Nat → List UInt8 → Nat → Nat × Option (List UInt8 × Nat)
  | 0, _, n, b, e => (n, some (b, e))
  | k + 1, s, n, b, e =>
    if n < s.length ∧ ((s.getD n 0).toNat : Int) ≠ 44 then
      if ((s.getD n 0).toNat : Int) = 92 then
        if (strokeE s (n + 1)).2.2 = true then valE k s (strokeE s (n + 1)).1 (b ++ [b8 (strokeE s (n + 1)).2.1]) (b.length + 1) else ((strokeE s (n + 1)).1, none)
      else if 0 ≤ Lib.indexByte spc (s.getD n 0) then (n + 1, none)
      else if ((s.getD n 0).toNat : Int) = 32 then valE k s (n + 1) (b ++ [s.getD n 0]) e
      else valE k s (n + 1) (b ++ [s.getD n 0]) (b.length + 1)
    else (n, some (b, e))
def valueE (s : List UInt8) (n : Nat) : Nat × List UInt8 × Bool :=
  match valE (s.length - n) s n [] 0 with
  | (m, some (b, e)) => (m, b.take e, decide (0 < e))
  | (m, none) => (m, [], false)
theorem valE_end {k : Nat} {s : List UInt8} {n : Nat} {b : List UInt8} {e : Nat} (h : ¬ (n < s.length ∧ ((s.getD n 0).toNat : Int) ≠ 44)) : valE k s n b e = (n, some (b, e)) := by
  cases k
  · rfl
  · unfold valE; rw [if_neg h]
theorem valE_bad {k : Nat} {s : List UInt8} {n : Nat} {b : List UInt8} {e : Nat} (h : n < s.length ∧ ((s.getD n 0).toNat : Int) ≠ 44) (h1 : ((s.getD n 0).toNat : Int) = 92) (h2 : (strokeE s (n + 1)).2.2 = false) : valE (k + 1) s n b e = ((strokeE s (n + 1)).1, none) := by
  unfold valE; rw [if_pos h, if_pos h1, h2]; rfl
theorem valE_str {k : Nat} {s : List UInt8} {n : Nat} {b : List UInt8} {e : Nat} (h : n < s.length ∧ ((s.getD n 0).toNat : Int) ≠ 44) (h1 : ((s.getD n 0).toNat : Int) = 92) (h2 : (strokeE s (n + 1)).2.2 = true) : valE (k + 1) s n b e = valE k s (strokeE s (n + 1)).1 (b ++ [b8 (strokeE s (n + 1)).2.1]) (b.length + 1) := by
  conv => lhs; unfold valE
  rw [if_pos h, if_pos h1, if_pos h2]
theorem valE_spc {k : Nat} {s : List UInt8} {n : Nat} {b : List UInt8} {e : Nat} (h : n < s.length ∧ ((s.getD n 0).toNat : Int) ≠ 44) (h1 : ¬ ((s.getD n 0).toNat : Int) = 92) (h2 : 0 ≤ Lib.indexByte spc (s.getD n 0)) : valE (k + 1) s n b e = (n + 1, none) := by
  unfold valE; rw [if_pos h, if_neg h1, if_pos h2]
theorem valE_blank {k : Nat} {s : List UInt8} {n : Nat} {b : List UInt8} {e : Nat} (h : n < s.length ∧ ((s.getD n 0).toNat : Int) ≠ 44) (h1 : ¬ ((s.getD n 0).toNat : Int) = 92) (h2 : ¬ 0 ≤ Lib.indexByte spc (s.getD n 0)) (h3 : ((s.getD n 0).toNat : Int) = 32) : valE (k + 1) s n b e = valE k s (n + 1) (b ++ [s.getD n 0]) e := by
  conv => lhs; unfold valE
  rw [if_pos h, if_neg h1, if_neg h2, if_pos h3]
theorem valE_else {k : Nat} {s : List UInt8} {n : Nat} {b : List UInt8} {e : Nat} (h : n < s.length ∧ ((s.getD n 0).toNat : Int) ≠ 44) (h1 : ¬ ((s.getD n 0).toNat : Int) = 92) (h2 : ¬ 0 ≤ Lib.indexByte spc (s.getD n 0)) (h3 : ¬ ((s.getD n 0).toNat : Int) = 32) : valE (k + 1) s n b e = valE k s (n + 1) (b ++ [s.getD n 0]) (b.length + 1) := by
  conv => lhs; unfold valE
  rw [if_pos h, if_neg h1, if_neg h2, if_neg h3]
theorem valueE_some {s : List UInt8} {n m : Nat} {b : List UInt8} {e : Nat} (h : valE (s.length - n) s n [] 0 = (m, some (b, e))) : valueE s n = (m, b.take e, decide (0 < e)) := by unfold valueE; rw [h]
theorem valueE_none {s : List UInt8} {n m : Nat} (h : valE (s.length - n) s n [] 0 = (m, none)) : valueE s n = (m, [], false) := by unfold valueE; rw [h]
theorem valueE_bd (s : List UInt8) (n : Nat) (h : n ≤ s.length) : n ≤ (valueE s n).1 ∧ (valueE s n).1 ≤ s.length ∧ (valueE s n).2.1.length ≤ s.length := by
  have key : ∀ (k n : Nat) (b : List UInt8) (e : Nat), n ≤ s.length → b.length ≤ n → n ≤ (valE k s n b e).1 ∧ (valE k s n b e).1 ≤ s.length ∧ ∀ c, (valE k s n b e).2 = some c → c.1.length ≤ s.length := by
    intro k
    induction k with
    | zero => intro n b e h hb; exact ⟨Nat.le_refl _, h, fun c hc => by cases hc; dsimp only; omega⟩
    | succ k ih =>
      intro n b e h hb
      have h1 := strokeE_bd s (n + 1)
      unfold valE
      split
      · split
        · split
          · have := ih (strokeE s (n + 1)).1 (b ++ [b8 (strokeE s (n + 1)).2.1]) (b.length + 1) (by omega) (by simp; omega)
            exact ⟨by omega, this.2.1, this.2.2⟩
          · dsimp only
            exact ⟨by omega, by omega, fun c hc => by cases hc⟩
        · split
          · dsimp only
            exact ⟨by omega, by omega, fun c hc => by cases hc⟩
          · split
            · have := ih (n + 1) (b ++ [s.getD n 0]) e (by omega) (by simp; omega)
              exact ⟨by omega, this.2.1, this.2.2⟩
            · have := ih (n + 1) (b ++ [s.getD n 0]) (b.length + 1) (by omega) (by simp; omega)
              exact ⟨by omega, this.2.1, this.2.2⟩
      · exact ⟨Nat.le_refl _, h, fun c hc => by cases hc; dsimp only; omega⟩
  have := key (s.length - n) n [] 0 h (by simp)
  cases hv : valE (s.length - n) s n [] 0 with
  | mk m o =>
    rw [hv] at this
    cases o with
    | none => rw [valueE_none hv]; exact ⟨this.1, this.2.1, by simp⟩
    | some c =>
      rw [valueE_some hv]
      have h2 := this.2.2 c rfl
      exact ⟨this.1, this.2.1, by dsimp only; rw [List.length_take]; omega⟩
def blk (c : UInt8) : Bool := decide ((c.toNat : Int) = 32)
/-- A part: the place behind it, what was told, whether it may be. -/
def kindE (s : List UInt8) (n : Nat) : Nat := skipE typC s (skipE blk s n)
def typE (s : List UInt8) (n : Nat) : List UInt8 := (s.take (kindE s n)).drop (skipE blk s n)
def eqE (s : List UInt8) (n : Nat) : Nat := skipE blk s (kindE s n)
def valP (s : List UInt8) (n : Nat) : Nat := skipE blk s (eqE s n + 1)
def partE (s : List UInt8) (n : Nat) : Nat × Ava × Bool :=
  if typB (typE s n) = false then (kindE s n, ⟨typE s n, []⟩, false)
  else if ¬ (eqE s n < s.length ∧ ((s.getD (eqE s n) 0).toNat : Int) = 61) then (eqE s n, ⟨typE s n, []⟩, false)
  else ((valueE s (valP s n)).1, ⟨typE s n, (valueE s (valP s n)).2.1⟩, (valueE s (valP s n)).2.2)
theorem partE_0 {s : List UInt8} {n : Nat} (h : typB (typE s n) = false) : partE s n = (kindE s n, ⟨typE s n, []⟩, false) := if_pos h
theorem partE_1 {s : List UInt8} {n : Nat} (h : typB (typE s n) = true) (h1 : ¬ (eqE s n < s.length ∧ ((s.getD (eqE s n) 0).toNat : Int) = 61)) : partE s n = (eqE s n, ⟨typE s n, []⟩, false) := by
  unfold partE; rw [if_neg (by rw [h]; simp), if_pos h1]
theorem partE_2 {s : List UInt8} {n : Nat} (h : typB (typE s n) = true) (h1 : eqE s n < s.length ∧ ((s.getD (eqE s n) 0).toNat : Int) = 61) : partE s n = ((valueE s (valP s n)).1, ⟨typE s n, (valueE s (valP s n)).2.1⟩, (valueE s (valP s n)).2.2) := by
  unfold partE; rw [if_neg (by rw [h]; simp), if_neg (not_not_intro h1)]
theorem partE_1' {s : List UInt8} {n : Nat} (h : typB (typE s n) = true) (h1 : ¬ ((eqE s n : Nat) : Int) < (s.length : Int) ∨ ¬ ((s.getD (eqE s n) 0).toNat : Int) = 61) : partE s n = (eqE s n, ⟨typE s n, []⟩, false) := partE_1 h (fun hh => h1.elim (fun a => a (by omega)) (fun a => a hh.2))
theorem partE_2' {s : List UInt8} {n : Nat} (h : typB (typE s n) = true) (h1 : ((eqE s n : Nat) : Int) < (s.length : Int) ∧ ((s.getD (eqE s n) 0).toNat : Int) = 61) : partE s n = ((valueE s (valP s n)).1, ⟨typE s n, (valueE s (valP s n)).2.1⟩, (valueE s (valP s n)).2.2) := partE_2 h ⟨by omega, h1.2⟩
theorem nand {a b : Prop} (h : ¬ a ∨ ¬ b) : ¬ (a ∧ b) := fun hh => h.elim (fun k => k hh.1) (fun k => k hh.2)
theorem partE_bd (s : List UInt8) (n : Nat) (h : n ≤ s.length) : n ≤ skipE blk s n ∧ skipE blk s n ≤ kindE s n ∧ kindE s n ≤ eqE s n ∧ eqE s n ≤ s.length ∧ (eqE s n < s.length → eqE s n + 1 ≤ valP s n ∧ valP s n ≤ s.length) ∧ n ≤ (partE s n).1 ∧ (partE s n).1 ≤ s.length ∧ ((partE s n).2.2 = true → n < (partE s n).1) := by
  have h1 := skipE_ge blk s n
  have h2 := skipE_le blk s n h
  have h3 := skipE_ge typC s (skipE blk s n)
  have h4 := skipE_le typC s (skipE blk s n) h2
  have h5 := skipE_ge blk s (kindE s n)
  have h6 := skipE_le blk s (kindE s n) h4
  have h7 : eqE s n < s.length → eqE s n + 1 ≤ valP s n ∧ valP s n ≤ s.length := fun hl => ⟨skipE_ge blk s _, skipE_le blk s _ hl⟩
  refine ⟨h1, h3, h5, h6, h7, ?_⟩
  have h3' : skipE blk s n ≤ kindE s n := h3
  have h5' : kindE s n ≤ eqE s n := h5
  have h6' : eqE s n ≤ s.length := h6
  by_cases t1 : typB (typE s n) = false
  · rw [partE_0 t1]; dsimp only; exact ⟨by omega, by omega, fun hh => by cases hh⟩
  · by_cases t2 : eqE s n < s.length ∧ ((s.getD (eqE s n) 0).toNat : Int) = 61
    · have := h7 t2.1
      have h8 := valueE_bd s (valP s n) this.2
      rw [partE_2 (by simpa using t1) t2]; dsimp only; exact ⟨by omega, by omega, fun _ => by omega⟩
    · rw [partE_1 (by simpa using t1) t2]; dsimp only; exact ⟨by omega, by omega, fun hh => by cases hh⟩
/-- The parts of a text, one behind the other; none: one may not be. -/
def partsE : Nat → List UInt8 → Nat → List Ava → Option (List Ava)
  | 0, _, _, _ => none
  | k + 1, s, n, l =>
    if (partE s n).2.2 = false then none
    else if (partE s n).1 < s.length ∧ ((s.getD (partE s n).1 0).toNat : Int) = 44 then partsE k s ((partE s n).1 + 1) (l ++ [(partE s n).2.1])
    else some (l ++ [(partE s n).2.1])
def okA (a : Ava) : Bool := typB a.typ && !(decide (a.val = [])) && decide ((a.val.length : Int) ≤ 64)
def isE (l : List Ava) : Bool := decide ((l.length : Int) ≤ 12) && l.all okA
/-- A text as a name: the parts, the error. -/
def parseE (s : List UInt8) : List Ava × Int :=
  if s = [] then ([], 0)
  else match partsE (s.length + 1) s 0 [] with
    | none => ([], 3)
    | some l => if isE l = true then (l, 0) else ([], 5)
def ixOf (p : Ava → Bool) (l : List Ava) : Int := if l.any p = true then (l.findIdx p : Int) else -1
theorem getD_mem {l : List Ava} {i : Nat} (h : i < l.length) : l.getD i default ∈ l := by
  rw [List.getD_eq_getElem?_getD, List.getElem?_eq_getElem h]; exact List.getElem_mem h
theorem any_snoc {p : Ava → Bool} {l : List Ava} {i : Nat} (h : i < l.length) (h1 : (l.take i).any p = false) (h2 : p (l.getD i default) = false) : (l.take (i + 1)).any p = false := by
  rw [List.take_succ_eq_append_getElem h, List.any_append, h1]
  rw [List.getD_eq_getElem?_getD, List.getElem?_eq_getElem h] at h2
  simpa using h2
theorem ixOf_none {p : Ava → Bool} {l : List Ava} (h : l.any p = false) : ixOf p l = -1 := by unfold ixOf; rw [h]; rfl
theorem ixOf_at {p : Ava → Bool} {l : List Ava} {i : Nat} (h : i < l.length) (h1 : (l.take i).any p = false) (h2 : p (l.getD i default) = true) : ixOf p l = i := by
  have h3 : p l[i] = true := by rw [List.getD_eq_getElem?_getD, List.getElem?_eq_getElem h] at h2; exact h2
  have h4 : l.any p = true := List.any_eq_true.2 ⟨l[i], List.getElem_mem h, h3⟩
  unfold ixOf
  rw [if_pos h4]
  congr 1
  rw [List.findIdx_eq h]
  refine ⟨h3, fun j hj => ?_⟩
  rw [List.any_eq_false] at h1
  have := h1 (l[j]) (List.mem_take_iff_getElem.2 ⟨j, by omega, rfl⟩)
  simpa using this
theorem ixOf_nonneg {p : Ava → Bool} {l : List Ava} : decide (0 ≤ ixOf p l) = l.any p := by
  unfold ixOf
  cases h : l.any p
  · rfl
  · simp
theorem isE_any (l : List Ava) : isE l = (decide ((l.length : Int) ≤ 12) && !l.any (fun a => !okA a)) := by
  unfold isE; rw [List.not_any_eq_all_not]; simp
theorem partE_typ (s : List UInt8) (n : Nat) : (partE s n).2.1.typ.length ≤ s.length := by
  have h : (typE s n).length ≤ s.length := by
    unfold typE; rw [List.length_drop, List.length_take]; omega
  unfold partE
  split
  · exact h
  · split
    · exact h
    · exact h
theorem partsE_no {k : Nat} {s : List UInt8} {n : Nat} {l : List Ava} (h : (partE s n).2.2 = false) : partsE (k + 1) s n l = none := by unfold partsE; rw [if_pos h]
theorem partsE_more {k : Nat} {s : List UInt8} {n : Nat} {l : List Ava} (h : (partE s n).2.2 = true) (h1 : (((partE s n).1 : Nat) : Int) < (s.length : Int) ∧ ((s.getD (partE s n).1 0).toNat : Int) = 44) : partsE (k + 1) s n l = partsE k s ((partE s n).1 + 1) (l ++ [(partE s n).2.1]) := by
  conv => lhs; unfold partsE
  rw [if_neg (by rw [h]; simp), if_pos ⟨by omega, h1.2⟩]
theorem partsE_last {k : Nat} {s : List UInt8} {n : Nat} {l : List Ava} (h : (partE s n).2.2 = true) (h1 : ¬ ((((partE s n).1 : Nat) : Int) < (s.length : Int) ∧ ((s.getD (partE s n).1 0).toNat : Int) = 44)) : partsE (k + 1) s n l = some (l ++ [(partE s n).2.1]) := by
  unfold partsE; rw [if_neg (by rw [h]; simp), if_neg (fun hh => h1 ⟨by omega, hh.2⟩)]
theorem parseE_nil : parseE [] = ([], 0) := rfl
theorem parseE_none {s : List UInt8} (h0 : ¬ s = []) (h : partsE (s.length + 1) s 0 [] = none) : parseE s = ([], 3) := by unfold parseE; rw [if_neg h0, h]
theorem parseE_long {s : List UInt8} {l : List Ava} (h0 : ¬ s = []) (h : partsE (s.length + 1) s 0 [] = some l) (h1 : isE l = false) : parseE s = ([], 5) := by
  unfold parseE; rw [if_neg h0, h]; dsimp only; rw [if_neg (by rw [h1]; simp)]
theorem parseE_some {s : List UInt8} {l : List Ava} (h0 : ¬ s = []) (h : partsE (s.length + 1) s 0 [] = some l) (h1 : isE l = true) : parseE s = (l, 0) := by
  unfold parseE; rw [if_neg h0, h]; dsimp only; rw [if_pos h1]
/-! ### what does not count -/
def lowC (c : UInt8) : UInt8 := if 65 ≤ (c.toNat : Int) ∧ (c.toNat : Int) ≤ 90 then b8 ((c.toNat : Int) + 32) else c
def lastB (b : List UInt8) : UInt8 := b.getD (b.length - 1) 0
def foldStep (b : List UInt8) (c : UInt8) : List UInt8 := if (c.toNat : Int) = 32 ∧ ((b.length : Int) = 0 ∨ ((lastB b).toNat : Int) = 32) then b else b ++ [lowC c]
def trimE (b : List UInt8) : List UInt8 := if 0 < (b.length : Int) ∧ ((lastB b).toNat : Int) = 32 then b.take (b.length - 1) else b
def foldR (s : List UInt8) : List UInt8 := s.foldl foldStep []
def foldE (s : List UInt8) : List UInt8 := trimE (foldR s)
theorem foldStep_len (b : List UInt8) (c : UInt8) : (foldStep b c).length ≤ b.length + 1 := by unfold foldStep; split <;> simp
theorem foldR_take {s : List UInt8} {i : Nat} (h : i < s.length) : foldR (s.take (i + 1)) = foldStep (foldR (s.take i)) (s.getD i 0) := by
  unfold foldR
  rw [List.take_succ_eq_append_getElem h, List.foldl_append, List.getD_eq_getElem?_getD, List.getElem?_eq_getElem h]
  rfl
theorem foldR_len (s : List UInt8) : (foldR s).length ≤ s.length := by
  have : ∀ (s b : List UInt8), (s.foldl foldStep b).length ≤ b.length + s.length := by
    intro s
    induction s with
    | nil => intro b; simp
    | cons c t ih => intro b; have h1 := ih (foldStep b c); have h2 := foldStep_len b c; simp only [List.foldl_cons, List.length_cons]; omega
  simpa [foldR] using this s []
theorem foldE_len (s : List UInt8) : (foldE s).length ≤ s.length := by
  have := foldR_len s
  unfold foldE trimE
  split
  · rw [List.length_take]; omega
  · exact this
theorem lowC_up {c : UInt8} (h : 65 ≤ (c.toNat : Int) ∧ (c.toNat : Int) ≤ 90) : lowC c = b8 ((c.toNat : Int) + 32) := if_pos h
theorem lowC_no {c : UInt8} (h : ¬ (65 ≤ (c.toNat : Int) ∧ (c.toNat : Int) ≤ 90)) : lowC c = c := if_neg h
def normA (a : Ava) : Ava := ⟨foldE a.typ, if foldE a.val ≠ [] ∨ a.val = [] then foldE a.val else [32]⟩
def normE (l : List Ava) : List Ava := l.map normA
def sameE (a b : List Ava) : Bool := decide (normE a = normE b)
def underE (n base : List Ava) : Bool := decide (base.length ≤ n.length) && sameE (n.drop (n.length - base.length)) base
theorem lastB_at (b : List UInt8) : b.getD (((b.length : Nat) : Int) - 1).toNat 0 = lastB b := by
  unfold lastB
  rw [show (((b.length : Nat) : Int) - 1).toNat = b.length - 1 by omega]
theorem foldR_skip {s : List UInt8} {i : Nat} (h : i < s.length) (h1 : ((s.getD i 0).toNat : Int) = 32 ∧ (((foldR (s.take i)).length : Int) = 0 ∨ ((lastB (foldR (s.take i))).toNat : Int) = 32)) : foldR (s.take (i + 1)) = foldR (s.take i) := by
  rw [foldR_take h]; unfold foldStep; rw [if_pos h1]
theorem foldR_put {s : List UInt8} {i : Nat} (h : i < s.length) (h1 : ¬ ((s.getD i 0).toNat : Int) = 32 ∨ ¬ ((foldR (s.take i)).length : Int) = 0 ∧ ¬ ((lastB (foldR (s.take i))).toNat : Int) = 32) : foldR (s.take (i + 1)) = foldR (s.take i) ++ [lowC (s.getD i 0)] := by
  rw [foldR_take h]; unfold foldStep
  rw [if_neg (fun hh => h1.elim (fun k => k hh.1) (fun k => hh.2.elim k.1 k.2))]
theorem foldE_cut {s : List UInt8} (h : 0 < ((foldR s).length : Int) ∧ ((lastB (foldR s)).toNat : Int) = 32) : foldE s = (foldR s).take ((foldR s).length - 1) := if_pos h
theorem foldE_all {s : List UInt8} (h : ¬ 0 < ((foldR s).length : Int) ∨ ¬ ((lastB (foldR s)).toNat : Int) = 32) : foldE s = foldR s := if_neg (nand h)
/-! ### names as texts -/
def hexD : List UInt8 := [48, 49, 50, 51, 52, 53, 54, 55, 56, 57, 97, 98, 99, 100, 101, 102]
/-- A byte of a value as it is printed. -/
def tellC (v : List UInt8) (k : Nat) : List UInt8 :=
  if ((v.getD k 0).toNat : Int) < 32 ∨ 126 < ((v.getD k 0).toNat : Int) then [92] ++ (hexD.take ((((v.getD k 0).toNat : Int) / 16) + 1).toNat).drop (((v.getD k 0).toNat : Int) / 16).toNat ++ (hexD.take ((((v.getD k 0).toNat : Int) % 16) + 1).toNat).drop (((v.getD k 0).toNat : Int) % 16).toNat
  else if 0 ≤ Lib.indexByte spc (v.getD k 0) ∨ ((k : Int) = 0 ∧ (((v.getD k 0).toNat : Int) = 35 ∨ ((v.getD k 0).toNat : Int) = 32)) ∨ ((k : Int) = (v.length : Int) - 1 ∧ ((v.getD k 0).toNat : Int) = 32) then [92, v.getD k 0]
  else [v.getD k 0]
def tellR (v : List UInt8) (k : Nat) : List UInt8 := (List.range k).flatMap (tellC v)
def tellE (v : List UInt8) : List UInt8 := tellR v v.length
def printC (l : List Ava) (i : Nat) : List UInt8 := (if 0 < (i : Int) then [44] else []) ++ ((l.getD i default).typ ++ [61]) ++ tellE (l.getD i default).val
def printR (l : List Ava) (i : Nat) : List UInt8 := (List.range i).flatMap (printC l)
def printE (l : List Ava) : List UInt8 := printR l l.length
theorem tellR_succ (v : List UInt8) (k : Nat) : tellR v (k + 1) = tellR v k ++ tellC v k := by simp [tellR, List.range_succ]
theorem printR_succ (l : List Ava) (i : Nat) : printR l (i + 1) = printR l i ++ printC l i := by simp [printR, List.range_succ]
theorem tellR_zero (v : List UInt8) : tellR v 0 = [] := rfl
theorem printR_zero (l : List Ava) : printR l 0 = [] := rfl
theorem tellC_hex {v : List UInt8} {k : Nat} (h : ((v.getD k 0).toNat : Int) < 32 ∨ 126 < ((v.getD k 0).toNat : Int)) : tellC v k = [92] ++ (hexD.take ((((v.getD k 0).toNat : Int) / 16) + 1).toNat).drop (((v.getD k 0).toNat : Int) / 16).toNat ++ (hexD.take ((((v.getD k 0).toNat : Int) % 16) + 1).toNat).drop (((v.getD k 0).toNat : Int) % 16).toNat := if_pos h
theorem tellC_str {v : List UInt8} {k : Nat} (h : ¬ (((v.getD k 0).toNat : Int) < 32 ∨ 126 < ((v.getD k 0).toNat : Int))) (h1 : 0 ≤ Lib.indexByte spc (v.getD k 0) ∨ ((k : Int) = 0 ∧ (((v.getD k 0).toNat : Int) = 35 ∨ ((v.getD k 0).toNat : Int) = 32)) ∨ ((k : Int) = (v.length : Int) - 1 ∧ ((v.getD k 0).toNat : Int) = 32)) : tellC v k = [92, v.getD k 0] := by
  unfold tellC; rw [if_neg h, if_pos h1]
theorem tellC_one {v : List UInt8} {k : Nat} (h : ¬ (((v.getD k 0).toNat : Int) < 32 ∨ 126 < ((v.getD k 0).toNat : Int))) (h1 : ¬ (0 ≤ Lib.indexByte spc (v.getD k 0) ∨ ((k : Int) = 0 ∧ (((v.getD k 0).toNat : Int) = 35 ∨ ((v.getD k 0).toNat : Int) = 32)) ∨ ((k : Int) = (v.length : Int) - 1 ∧ ((v.getD k 0).toNat : Int) = 32))) : tellC v k = [v.getD k 0] := by
  unfold tellC; rw [if_neg h, if_neg h1]
theorem hexAt_len (n : Int) (h : 0 ≤ n ∧ n ≤ 15) : ((hexD.take (n + 1).toNat).drop n.toNat).length = 1 := by
  rw [List.length_drop, List.length_take]; show min (n + 1).toNat 16 - n.toNat = 1; omega
theorem tellC_len (v : List UInt8) (k : Nat) : (tellC v k).length ≤ 3 := by
  have hc := (v.getD k 0).toNat_lt
  unfold tellC
  split
  · rw [List.length_append, List.length_append, hexAt_len _ (by omega), hexAt_len _ (by omega)]; simp
  · split <;> simp
theorem tellR_len (v : List UInt8) (k : Nat) : (tellR v k).length ≤ 3 * k := by
  induction k with
  | zero => simp [tellR_zero]
  | succ k ih => rw [tellR_succ, List.length_append]; have := tellC_len v k; omega
def wgt : List Ava → Nat
  | [] => 0
  | a :: l => 1 + a.typ.length + a.val.length + wgt l
theorem wgt_take_succ {l : List Ava} {i : Nat} (h : i < l.length) : wgt (l.take (i + 1)) = wgt (l.take i) + (1 + (l.getD i default).typ.length + (l.getD i default).val.length) := by
  have ha : ∀ (a b : List Ava), wgt (a ++ b) = wgt a + wgt b := by
    intro a b
    induction a with
    | nil => simp [wgt]
    | cons x a ih => simp only [List.cons_append, wgt, ih]; omega
  rw [List.take_succ_eq_append_getElem h, ha, List.getD_eq_getElem?_getD, List.getElem?_eq_getElem h]
  simp [wgt]
theorem wgt_take_le (l : List Ava) (i : Nat) : wgt (l.take i) ≤ wgt l := by
  induction l generalizing i with
  | nil => simp [wgt]
  | cons a l ih => cases i with
    | zero => simp [wgt]
    | succ i => simp only [List.take_succ_cons, wgt]; have := ih i; omega
theorem wgt_at {l : List Ava} {i : Nat} (h : i < l.length) : (l.getD i default).typ.length + (l.getD i default).val.length + 1 ≤ wgt l := by
  have h1 := wgt_take_succ h
  have h2 := wgt_take_le l (i + 1)
  omega
theorem wgt_len (l : List Ava) : l.length ≤ wgt l := by
  induction l with
  | nil => simp
  | cons a l ih => simp only [List.length_cons, wgt]; omega
theorem printR_len {l : List Ava} {i : Nat} (h : i ≤ l.length) : (printR l i).length ≤ 3 * wgt (l.take i) := by
  induction i with
  | zero => simp [printR_zero]
  | succ i ih =>
    have h1 := ih (by omega)
    have h2 := wgt_take_succ (l := l) (i := i) (by omega)
    have h3 := tellR_len (l.getD i default).val (l.getD i default).val.length
    rw [printR_succ, List.length_append]
    unfold printC tellE
    have h4 : (if 0 < (i : Int) then [44] else ([] : List UInt8)).length ≤ 1 := by split <;> simp
    simp only [List.length_append, List.length_cons, List.length_nil]
    omega
/-! ### equal rows -/
theorem avaB (a b : Ava) : allB [decide (a.typ = b.typ), decide (a.val = b.val)] = decide (a = b) := by
  by_cases h : a = b
  · subst h; simp [allB]
  · rw [decide_eq_false h]
    by_cases h1 : a.typ = b.typ
    · by_cases h2 : a.val = b.val
      · exact absurd (Ava.ext' h1 h2) h
      · simp [allB, h2]
    · simp [allB, h1]
theorem take_ext {α : Type} [Inhabited α] {l m : List α} {i : Nat} (h : i < l.length) (h' : l.length = m.length) (he : l.take i = m.take i) (hv : l.getD i default = m.getD i default) : l.take (i + 1) = m.take (i + 1) := by
  have h2 : i < m.length := by omega
  rw [List.take_succ_eq_append_getElem h, List.take_succ_eq_append_getElem h2, he]
  rw [List.getD_eq_getElem?_getD, List.getElem?_eq_getElem h, List.getD_eq_getElem?_getD, List.getElem?_eq_getElem h2] at hv
  have hv' : l[i] = m[i] := hv
  rw [hv']
theorem take_all {α : Type} {l m : List α} {i : Nat} (h : ¬ (i : Int) < (l.length : Int)) (h' : l.length = m.length) (he : l.take i = m.take i) : l = m := by
  rwa [List.take_of_length_le (by omega), List.take_of_length_le (by omega)] at he
theorem normE_take {l : List Ava} {i : Nat} (h : i < l.length) : normE (l.take (i + 1)) = normE (l.take i) ++ [normA (l.getD i default)] := by
  unfold normE
  rw [List.take_succ_eq_append_getElem h, List.map_append, List.getD_eq_getElem?_getD, List.getElem?_eq_getElem h]; rfl
theorem wgt_drop (l : List Ava) (k : Nat) : wgt (l.drop k) ≤ wgt l := by
  induction l generalizing k with
  | nil => simp [wgt]
  | cons a l ih => cases k with
    | zero => simp
    | succ k => simp only [List.drop_succ_cons, wgt]; have := ih k; omega
end Go.Dn
set_option maxRecDepth 8000
set_option linter.unusedVariables false
namespace Go.Proofs.Ytibabbepnhpaiaa
open Go.Vk
attribute [local irreducible] HT HX RegS RegA RegM OpP OpC AltT
theorem dnLetter (c : UInt8) : CFn Try.prog 61 [okI .u8 (c.toNat : Int)] (Is (.bool (Dn.letB c))) := by
  refine CallsC.of Try.call61 Try.func61 rfl Try.ntmps61 rfl fun w0 G0 S0 hs ho => ?_
  exact run trivial
theorem dnDigit (c : UInt8) : CFn Try.prog 62 [okI .u8 (c.toNat : Int)] (Is (.bool (Dn.digB c))) := by
  refine CallsC.of Try.call62 Try.func62 rfl Try.ntmps62 rfl fun w0 G0 S0 hs ho => ?_
  exact run trivial
theorem dnType (s : List UInt8) (hl : s.length ≤ 4611686018427387904) : CFn Try.prog 55 [Is (str s)] (Is (.bool (Dn.typB s))) := by
  have c1 := dnLetter
  have c2 := dnDigit
  refine CallsC.of Try.call55 Try.func55 rfl Try.ntmps55 rfl fun w0 G0 S0 hs ho => ?_
  refine run ?_
  refine ⟨?_, ?_⟩
  · intro h
    refine Dn.false_of fun hb => ?_
    have h1 := (Dn.typB_iff s).1 hb
    rw [Dn.letB_iff, ← List.length_eq_zero_iff] at *
    omega
  · intro h1
    refine HT.loopX (σ := Nat) [0, 19] (fun i => [(20, okI .i64 (i : Int))]) (fun _ => []) (fun i => i ≤ s.length ∧ (s.take i).all Dn.typC = true) (fun i => s.length - i) 0 ⟨Nat.zero_le _, by simp⟩ (run trivial) (run trivial) ?_
    rintro i ⟨hi, hall⟩
    refine run ?_
    refine ⟨fun h2 h3 => ?_, fun h2 h3 => ?_, fun h2 => ?_⟩
    · refine Dn.false_of fun hb => ?_
      have := (Dn.typC_iff _).1 (Dn.all_get (i := i) (by omega) ((Dn.typB_iff s).1 hb).2)
      omega
    · exact HX.roundX (i + 1) ⟨⟨by omega, Dn.all_take_snoc (by omega) hall ((Dn.typC_iff _).2 (by omega))⟩, by omega⟩ rfl (run trivial) (run trivial)
    · rw [List.take_of_length_le (by omega)] at hall
      refine ((Dn.typB_iff s).2 ⟨?_, hall⟩).symm
      rw [Dn.letB_iff]
      rw [← List.length_eq_zero_iff] at h1
      omega
end Go.Proofs.Ytibabbepnhpaiaa
set_option maxRecDepth 8000
set_option linter.unusedVariables false
namespace Go.Proofs.Ytibabbepnhpaiaa
open Go.Vk
attribute [local irreducible] HT HX RegS RegA RegM OpP OpC AltT
end Go.Proofs.Ytibabbepnhpaiaa
set_option maxRecDepth 8000
set_option linter.unusedVariables false
namespace Go.Proofs.Ytibabbepnhpaiaa
open Go.Vk
attribute [local irreducible] HT HX RegS RegA RegM OpP OpC AltT
end Go.Proofs.Ytibabbepnhpaiaa
set_option maxRecDepth 8000
set_option linter.unusedVariables false
namespace Go.Proofs.Ytibabbepnhpaiaa
open Go.Vk
attribute [local irreducible] HT HX RegS RegA RegM OpP OpC AltT
end Go.Proofs.Ytibabbepnhpaiaa
set_option maxRecDepth 8000
set_option linter.unusedVariables false
namespace Go.Proofs.Ytibabbepnhpaiaa
open Go.Vk
attribute [local irreducible] HT HX RegS RegA RegM OpP OpC AltT
theorem toN1 (m : Nat) : (((m : Nat) : Int) + 1).toNat = m + 1 := by omega
theorem dnIs1 (a : Dn.Ava) (h : a.typ.length ≤ 1152921504606846976) : CFn Try.prog 54 [TAgg (Dn.cAva a)] (Is (.bool (!Dn.okA a))) := by
  have c1 := dnType
  refine CallsC.of Try.call54 Try.func54 rfl Try.ntmps54 rfl fun w0 G0 S0 hs ho => ?_
  refine run ?_
  unfold Dn.okA
  by_cases h1 : (64 : Int) < (a.val.length : Int)
  · have h2 : ¬ (a.val.length : Int) ≤ 64 := by omega
    simp [h1, h2]
  · have h2 : (a.val.length : Int) ≤ 64 := by omega
    simp [h1, h2]
theorem ixFunc {f : FuncId} {Cs : List Ty} (l : List Dn.Ava) (p : Dn.Ava → Bool) (hl : l.length ≤ 1152921504606846976) (cf : ∀ a ∈ l, CFn Try.prog f ([TAgg (Dn.cAva a)] ++ Cs) (Is (.bool (p a)))) : CFn Try.prog 60 [TSl 2 Dn.cAva l, TFn f Cs] (okI .i64 (Dn.ixOf p l)) := by
  refine CallsC.of Try.call60 Try.func60 rfl Try.ntmps60 rfl fun w0 G0 S0 hs ho => ?_
  refine run ?_
  refine HT.loopX (σ := Nat) [0, 1, 7] (fun i => [(8, okI .i64 (i : Int))]) (fun i => []) (fun i => i ≤ l.length ∧ (l.take i).any p = false) (fun i => l.length - i) 0 ⟨by omega, by simp⟩ (run trivial) (run trivial) ?_
  rintro i ⟨hi, hp⟩
  have cf' := fun (hlt : i < l.length) => cf (l.getD i default) (Dn.getD_mem hlt)
  clear cf
  refine run ?_
  refine ⟨fun h1 h2 => ?_, fun h1 h2 => ?_, fun h1 => ?_⟩
  · exact (Dn.ixOf_at (by omega) hp h2).symm
  · exact HX.roundX (i + 1) ⟨⟨by omega, Dn.any_snoc (by omega) hp h2⟩, by omega⟩ rfl (run trivial) (run trivial)
  · exact (Dn.ixOf_none (by rwa [List.take_of_length_le (by omega)] at hp)).symm
theorem anyFunc {f : FuncId} {Cs : List Ty} (l : List Dn.Ava) (p : Dn.Ava → Bool) (hl : l.length ≤ 1152921504606846976) (cf : ∀ a ∈ l, CFn Try.prog f ([TAgg (Dn.cAva a)] ++ Cs) (Is (.bool (p a)))) : CFn Try.prog 53 [TSl 2 Dn.cAva l, TFn f Cs] (Is (.bool (l.any p))) := by
  have c1 := ixFunc l p hl cf
  refine CallsC.of Try.call53 Try.func53 rfl Try.ntmps53 rfl fun w0 G0 S0 hs ho => ?_
  refine run ?_
  exact Dn.ixOf_nonneg
theorem dnIsF (l : List Dn.Ava) (hl : l.length ≤ 1152921504606846976) (ha : ∀ a ∈ l, a.typ.length ≤ 1152921504606846976) : CFn Try.prog 32 [TSl 2 Dn.cAva l] (Is (.bool (Dn.isE l))) := by
  have c1 := anyFunc (f := 54) (Cs := []) l (fun a => !Dn.okA a) hl (fun a h => dnIs1 a (ha a h))
  refine CallsC.of Try.call32 Try.func32 rfl Try.ntmps32 rfl fun w0 G0 S0 hs ho => ?_
  refine run ?_
  exact (Dn.isE_any l).symm
end Go.Proofs.Ytibabbepnhpaiaa
set_option maxRecDepth 8000
set_option linter.unusedVariables false
namespace Go.Proofs.Ytibabbepnhpaiaa
open Go.Vk
attribute [local irreducible] HT HX RegS RegA RegM OpP OpC AltT
attribute [local irreducible] Dn.partE Dn.isE Dn.parseE
end Go.Proofs.Ytibabbepnhpaiaa
set_option maxRecDepth 8000
set_option linter.unusedVariables false
namespace Go.Proofs.Ytibabbepnhpaiaa
open Go.Vk
attribute [local irreducible] HT HX RegS RegA RegM OpP OpC AltT
attribute [local irreducible] Dn.foldR Dn.foldE
theorem subN1 (n : Nat) : (((n : Nat) : Int) - 1).toNat = n - 1 := by omega
set_option maxHeartbeats 2000000 in
theorem dnFold (s : List UInt8) (hs : s.length ≤ 134217728) : CFn Try.prog 38 [Is (str s)] (Is (str (Dn.foldE s))) := by
  refine CallsC.of Try.call38 Try.func38 rfl Try.ntmps38 rfl fun w0 G0 S0 hs ho => ?_
  refine run ?_
  refine HT.loopX (σ := Nat × Value) [0, 2, 8] (fun t => [(3, TAnd (Is t.2) (TBytes (Dn.foldR (s.take t.1)))), (9, okI .i64 (t.1 : Int))]) (fun t => [ownSl t.2 1 5]) (fun t => t.1 ≤ s.length) (fun t => s.length - t.1) (0, .slice none 0 0) (Nat.zero_le _) (run trivial) (run ?_) ?_
  · unfold Dn.foldR; rfl
  rintro ⟨i, v⟩ hi
  dsimp only at hi ⊢
  have hl := Dn.foldR_len (s.take i)
  have hl2 : (s.take i).length = i := by rw [List.length_take]; omega
  refine run ?_
  and_intros
  all_goals intros
  all_goals try simp only [Dn.lastB_at] at *
  · rename_i h1
    refine HX.roundX (i + 1, v) ⟨by dsimp only; omega, by dsimp only; omega⟩ rfl (run trivial) (run ?_)
    rw [Dn.foldR_skip (by omega) h1]
  · rename_i v' _ h1 h2
    refine HX.roundX (i + 1, v') ⟨by dsimp only; omega, by dsimp only; omega⟩ rfl (run trivial) (run ?_)
    rw [Dn.foldR_put (by omega) (by assumption), Dn.lowC_up (by assumption)]
  · rename_i v' _ h1 h2
    refine HX.roundX (i + 1, v') ⟨by dsimp only; omega, by dsimp only; omega⟩ rfl (run trivial) (run ?_)
    rw [Dn.foldR_put (by omega) (by assumption), Dn.lowC_no (Dn.nand (by assumption))]
  · rename_i h1
    rw [List.take_of_length_le (show s.length ≤ i by omega)] at *
    rw [Dn.foldE_cut h1, subN1]
  · rename_i h1
    rw [List.take_of_length_le (show s.length ≤ i by omega)] at *
    rw [Dn.foldE_all h1]
set_option maxHeartbeats 2000000 in
theorem avaEq (l m : List Dn.Ava) (hl : l.length ≤ 1152921504606846976) : CFn Try.prog 40 [TSl 2 Dn.cAva l, TSl 2 Dn.cAva m] (Is (.bool (decide (l = m)))) := by
  refine CallsC.of Try.call40 Try.func40 rfl Try.ntmps40 rfl fun w0 G0 S0 hs ho => ?_
  refine run ?_
  refine ⟨?_, ?_⟩
  · intro h
    exact (decide_eq_false (fun e => h (by rw [e]))).symm
  intro hc
  refine HT.loopX (σ := Nat) [0, 1, 12] (fun i => [(13, okI .i64 (i : Int))]) (fun _ => []) (fun i => i ≤ l.length ∧ l.take i = m.take i) (fun i => l.length - i) 0 ⟨Nat.zero_le _, rfl⟩ (run trivial) (run trivial) ?_
  rintro i ⟨hi, he⟩
  have hc' : l.length = m.length := by
    have : (l.length : Int) = (m.length : Int) := Decidable.not_not.1 hc
    omega
  refine run ?_
  simp only [Dn.avaB, decide_eq_false_iff_not, decide_eq_true_eq]
  and_intros
  all_goals intros
  · rename_i h1 h2
    exact (decide_eq_false (fun e => h2 (by rw [e]))).symm
  · rename_i h1 h2
    exact HX.roundX (i + 1) ⟨⟨by omega, Dn.take_ext (by omega) hc' he h2⟩, by omega⟩ rfl (run trivial) (run trivial)
  · rename_i h1
    exact (decide_eq_true (Dn.take_all h1 hc' he)).symm
theorem avaClone (l : List Dn.Ava) (hl : l.length ≤ 134217728) : CFn Try.prog 44 [TSl 2 Dn.cAva l] (TSl 2 Dn.cAva l) := by
  refine CallsC.of Try.call44 Try.func44 rfl Try.ntmps44 rfl fun w0 G0 S0 hs ho => ?_
  refine run ?_
  intro h
  exact h.symm
attribute [local irreducible] Dn.normE Dn.normA Dn.sameE Dn.underE
end Go.Proofs.Ytibabbepnhpaiaa
set_option linter.unusedVariables false
namespace Go.Dn
open Go.Vk
theorem indexByte_iff (l : List UInt8) (c : UInt8) : 0 ≤ Lib.indexByte l c ↔ c ∈ l := by
  constructor
  · intro h
    obtain ⟨o, ho⟩ := Int.eq_ofNat_of_zero_le h
    exact List.mem_of_getElem? (Lib.indexByte_some ho).1
  · intro h
    have h1 := Lib.indexByte_ge l c
    rcases Int.lt_or_le (Lib.indexByte l c) 0 with h2 | h2
    · have h3 : Lib.indexByte l c = -1 := by omega
      obtain ⟨k, hk, e⟩ := List.getElem_of_mem h
      exact absurd (by rw [List.getElem?_eq_getElem hk, e]) (Lib.indexByte_none h3 k)
    · exact h2
theorem in_at {l : List UInt8} {c : UInt8} {i : Nat} (h : i < l.length) (he : ((l.getD i 0).toNat : Int) = (c.toNat : Int)) : true = decide (0 ≤ Lib.indexByte l c) := by
  refine (decide_eq_true ?_).symm
  rw [indexByte_iff]
  rw [List.getD_eq_getElem?_getD, List.getElem?_eq_getElem h] at he
  have : l[i] = c := by
    have h2 : ((l[i]).toNat : Int) = (c.toNat : Int) := he
    exact UInt8.toNat_inj.1 (by omega)
  rw [← this]; exact List.getElem_mem h
theorem not_in_snoc {l : List UInt8} {c : UInt8} {i : Nat} (h : i < l.length) (h1 : ¬ c ∈ l.take i) (he : ¬ ((l.getD i 0).toNat : Int) = (c.toNat : Int)) : ¬ c ∈ l.take (i + 1) := by
  rw [List.take_succ_eq_append_getElem h, List.mem_append]
  rintro (h2 | h2)
  · exact h1 h2
  · rw [List.mem_singleton] at h2
    apply he
    rw [List.getD_eq_getElem?_getD, List.getElem?_eq_getElem h, h2]; rfl
theorem in_no {l : List UInt8} {c : UInt8} {i : Nat} (h : ¬ (i : Int) < (l.length : Int)) (h1 : ¬ c ∈ l.take i) : false = decide (0 ≤ Lib.indexByte l c) := by
  refine (decide_eq_false ?_).symm
  rw [indexByte_iff]
  rwa [List.take_of_length_le (by omega)] at h1
def halfV (c : UInt8) : Int := if hexOk c = true then hexV c else -1
theorem halfV_bd (c : UInt8) : -1 ≤ halfV c ∧ halfV c ≤ 15 := by
  have := hexV_bd c
  unfold halfV; split <;> omega
theorem halfV_ok (c : UInt8) : 0 ≤ halfV c ↔ hexOk c = true := by
  have := hexV_bd c
  unfold halfV; split <;> simp_all
theorem halfV_eq {c : UInt8} (h : hexOk c = true) : halfV c = hexV c := if_pos h
theorem halfV_def (c : UInt8) : halfV c = if 48 ≤ (c.toNat : Int) ∧ (c.toNat : Int) ≤ 57 then (c.toNat : Int) - 48 else if 97 ≤ (c.toNat : Int) ∧ (c.toNat : Int) ≤ 102 then (c.toNat : Int) - 97 + 10 else if 65 ≤ (c.toNat : Int) ∧ (c.toNat : Int) ≤ 70 then (c.toNat : Int) - 65 + 10 else -1 := by
  unfold halfV hexV hexOk digB
  by_cases h1 : 48 ≤ (c.toNat : Int) ∧ (c.toNat : Int) ≤ 57
  · rw [if_pos (by simp; omega), if_pos h1, if_pos h1]
  · rw [if_neg h1, if_neg h1]
    by_cases h2 : 97 ≤ (c.toNat : Int) ∧ (c.toNat : Int) ≤ 102
    · rw [if_pos (by simp; omega), if_pos h2, if_pos h2]
    · rw [if_neg h2, if_neg h2]
      by_cases h3 : 65 ≤ (c.toNat : Int) ∧ (c.toNat : Int) ≤ 70
      · rw [if_pos (by simp; omega), if_pos h3, if_pos h3]
      · rw [if_neg h3, if_neg h3, if_neg (by simp; omega)]
def nbC (c : UInt8) : Bool := decide ((c.toNat : Int) ≠ 32) && decide ((c.toNat : Int) ≠ 61)
/-- What stands behind a stroke at n. -/
def strokeF (s : List UInt8) (n : Nat) : Nat × UInt8 × Bool :=
  if s.length ≤ n + 1 then (n, 0, false)
  else if 0 ≤ Lib.indexByte strk (s.getD (n + 1) 0) then (n + 2, s.getD (n + 1) 0, true)
  else if n + 2 < s.length ∧ 0 ≤ halfV (s.getD (n + 1) 0) ∧ 0 ≤ halfV (s.getD (n + 2) 0) then (n + 3, b8 (16 * halfV (s.getD (n + 1) 0) + halfV (s.getD (n + 2) 0)), true)
  else (n, 0, false)
theorem strokeF_0 {s : List UInt8} {n : Nat} (h : s.length ≤ n + 1) : strokeF s n = (n, 0, false) := if_pos h
theorem strokeF_1 {s : List UInt8} {n : Nat} (h : n + 1 < s.length) (h1 : 0 ≤ Lib.indexByte strk (s.getD (n + 1) 0)) : strokeF s n = (n + 2, s.getD (n + 1) 0, true) := by
  unfold strokeF; rw [if_neg (by omega), if_pos h1]
theorem strokeF_2 {s : List UInt8} {n : Nat} (h : n + 1 < s.length) (h1 : ¬ 0 ≤ Lib.indexByte strk (s.getD (n + 1) 0)) (h2 : n + 2 < s.length ∧ 0 ≤ halfV (s.getD (n + 1) 0) ∧ 0 ≤ halfV (s.getD (n + 2) 0)) : strokeF s n = (n + 3, b8 (16 * halfV (s.getD (n + 1) 0) + halfV (s.getD (n + 2) 0)), true) := by
  unfold strokeF; rw [if_neg (by omega), if_neg h1, if_pos h2]
theorem strokeF_3 {s : List UInt8} {n : Nat} (h : n + 1 < s.length) (h1 : ¬ 0 ≤ Lib.indexByte strk (s.getD (n + 1) 0)) (h2 : ¬ (n + 2 < s.length ∧ 0 ≤ halfV (s.getD (n + 1) 0) ∧ 0 ≤ halfV (s.getD (n + 2) 0))) : strokeF s n = (n, 0, false) := by
  unfold strokeF; rw [if_neg (by omega), if_neg h1, if_neg h2]
theorem b8_c (c : UInt8) : b8 (c.toNat : Int) = c := b8_nat c
theorem strokeF_E (s : List UInt8) (n : Nat) : (strokeF s n).2.2 = (strokeE s (n + 1)).2.2 ∧ ((strokeE s (n + 1)).2.2 = true → (strokeF s n).1 = (strokeE s (n + 1)).1 ∧ (strokeF s n).2.1 = b8 (strokeE s (n + 1)).2.1) := by
  by_cases h0 : s.length ≤ n + 1
  · rw [strokeF_0 h0, strokeE_0 h0]; exact ⟨rfl, fun h => by cases h⟩
  by_cases h1 : 0 ≤ Lib.indexByte strk (s.getD (n + 1) 0)
  · rw [strokeF_1 (by omega) h1, strokeE_1 (by omega) h1]; exact ⟨rfl, fun _ => ⟨rfl, (b8_c _).symm⟩⟩
  by_cases h2 : hexOk (s.getD (n + 1) 0) = true ∧ n + 1 + 1 < s.length
  · rw [strokeE_3 h1 h2.1 h2.2]
    by_cases h3 : hexOk (s.getD (n + 2) 0) = true
    · rw [strokeF_2 (by omega) h1 ⟨h2.2, (halfV_ok _).2 h2.1, (halfV_ok _).2 h3⟩, halfV_eq h2.1, halfV_eq h3]
      exact ⟨h3.symm, fun _ => ⟨rfl, by dsimp only; rw [Int.mul_comm]⟩⟩
    · rw [strokeF_3 (by omega) h1 (fun hh => h3 ((halfV_ok _).1 hh.2.2))]
      have : hexOk (s.getD (n + 2) 0) = false := by simpa using h3
      exact ⟨this.symm, fun h => absurd h h3⟩
  · rw [strokeE_2 (by omega) h1 (by by_cases h3 : hexOk (s.getD (n + 1) 0) = true <;> simp_all), strokeF_3 (by omega) h1 (fun hh => h2 ⟨(halfV_ok _).1 hh.2.1, hh.1⟩)]
    exact ⟨rfl, fun h => by cases h⟩
theorem strokeF_bd (s : List UInt8) (n : Nat) (h : n ≤ s.length) : n ≤ (strokeF s n).1 ∧ (strokeF s n).1 ≤ s.length ∧ ((strokeF s n).2.2 = true → n < (strokeF s n).1) := by
  unfold strokeF
  split
  · exact ⟨Nat.le_refl _, h, fun h => by cases h⟩
  · split
    · dsimp only; omega
    · split
      · dsimp only; omega
      · exact ⟨Nat.le_refl _, h, fun h => by cases h⟩
def spcF : List UInt8 := [43, 34, 60, 62, 59]
theorem spcF_iff {c : UInt8} (h1 : (c.toNat : Int) ≠ 44) (h2 : (c.toNat : Int) ≠ 92) : 0 ≤ Lib.indexByte spcF c ↔ 0 ≤ Lib.indexByte spc c := by
  rw [indexByte_iff, indexByte_iff]
  have e1 : c ≠ 44 := fun e => h1 (by rw [e]; rfl)
  have e2 : c ≠ 92 := fun e => h2 (by rw [e]; rfl)
  simp [spcF, spc, e1, e2]
def valF : Nat → List UInt8 → Nat → List UInt8 → Nat → Nat × Option (List UInt8 × Nat)
  | 0, _, n, b, e => (n, some (b, e))
  | k + 1, s, n, b, e =>
    if n < s.length ∧ ((s.getD n 0).toNat : Int) ≠ 44 then
      if ((s.getD n 0).toNat : Int) = 92 then
        if (strokeF s n).2.2 = true then valF k s (strokeF s n).1 (b ++ [(strokeF s n).2.1]) (b.length + 1) else ((strokeF s n).1, none)
      else if 0 ≤ Lib.indexByte spcF (s.getD n 0) then (n, none)
      else if ((s.getD n 0).toNat : Int) = 32 then valF k s (n + 1) (b ++ [s.getD n 0]) e
      else valF k s (n + 1) (b ++ [s.getD n 0]) (b.length + 1)
    else (n, some (b, e))
theorem valF_end {k : Nat} {s : List UInt8} {n : Nat} {b : List UInt8} {e : Nat} (h : ¬ (n < s.length ∧ ((s.getD n 0).toNat : Int) ≠ 44)) : valF k s n b e = (n, some (b, e)) := by
  cases k
  · rfl
  · unfold valF; rw [if_neg h]
theorem valF_bad {k : Nat} {s : List UInt8} {n : Nat} {b : List UInt8} {e : Nat} (h : n < s.length ∧ ((s.getD n 0).toNat : Int) ≠ 44) (h1 : ((s.getD n 0).toNat : Int) = 92) (h2 : (strokeF s n).2.2 = false) : valF (k + 1) s n b e = ((strokeF s n).1, none) := by
  unfold valF; rw [if_pos h, if_pos h1, h2]; rfl
theorem valF_str {k : Nat} {s : List UInt8} {n : Nat} {b : List UInt8} {e : Nat} (h : n < s.length ∧ ((s.getD n 0).toNat : Int) ≠ 44) (h1 : ((s.getD n 0).toNat : Int) = 92) (h2 : (strokeF s n).2.2 = true) : valF (k + 1) s n b e = valF k s (strokeF s n).1 (b ++ [(strokeF s n).2.1]) (b.length + 1) := by
  conv => lhs; unfold valF
  rw [if_pos h, if_pos h1, if_pos h2]
theorem valF_spc {k : Nat} {s : List UInt8} {n : Nat} {b : List UInt8} {e : Nat} (h : n < s.length ∧ ((s.getD n 0).toNat : Int) ≠ 44) (h1 : ¬ ((s.getD n 0).toNat : Int) = 92) (h2 : 0 ≤ Lib.indexByte spcF (s.getD n 0)) : valF (k + 1) s n b e = (n, none) := by
  unfold valF; rw [if_pos h, if_neg h1, if_pos h2]
theorem valF_blank {k : Nat} {s : List UInt8} {n : Nat} {b : List UInt8} {e : Nat} (h : n < s.length ∧ ((s.getD n 0).toNat : Int) ≠ 44) (h1 : ¬ ((s.getD n 0).toNat : Int) = 92) (h2 : ¬ 0 ≤ Lib.indexByte spcF (s.getD n 0)) (h3 : ((s.getD n 0).toNat : Int) = 32) : valF (k + 1) s n b e = valF k s (n + 1) (b ++ [s.getD n 0]) e := by
  conv => lhs; unfold valF
  rw [if_pos h, if_neg h1, if_neg h2, if_pos h3]
theorem valF_else {k : Nat} {s : List UInt8} {n : Nat} {b : List UInt8} {e : Nat} (h : n < s.length ∧ ((s.getD n 0).toNat : Int) ≠ 44) (h1 : ¬ ((s.getD n 0).toNat : Int) = 92) (h2 : ¬ 0 ≤ Lib.indexByte spcF (s.getD n 0)) (h3 : ¬ ((s.getD n 0).toNat : Int) = 32) : valF (k + 1) s n b e = valF k s (n + 1) (b ++ [s.getD n 0]) (b.length + 1) := by
  conv => lhs; unfold valF
  rw [if_pos h, if_neg h1, if_neg h2, if_neg h3]
theorem valF_E : ∀ (k : Nat) (s : List UInt8) (n : Nat) (b : List UInt8) (e : Nat), (valF k s n b e).2 = (valE k s n b e).2 ∧ ((valE k s n b e).2.isSome = true → (valF k s n b e).1 = (valE k s n b e).1)
  | 0, s, n, b, e => ⟨rfl, fun _ => rfl⟩
  | k + 1, s, n, b, e => by
    by_cases h : n < s.length ∧ ((s.getD n 0).toNat : Int) ≠ 44
    case neg => rw [valF_end h, valE_end h]; exact ⟨rfl, fun _ => rfl⟩
    by_cases h1 : ((s.getD n 0).toNat : Int) = 92
    · obtain ⟨g1, g2⟩ := strokeF_E s n
      cases h2 : (strokeE s (n + 1)).2.2 with
      | false => rw [valF_bad h h1 (g1.trans h2), valE_bad h h1 h2]; exact ⟨rfl, fun h => by cases h⟩
      | true =>
        rw [valF_str h h1 (g1.trans h2), valE_str h h1 h2, (g2 h2).1, (g2 h2).2]
        exact valF_E k _ _ _ _
    · by_cases h2 : 0 ≤ Lib.indexByte spc (s.getD n 0)
      · rw [valF_spc h h1 ((spcF_iff h.2 h1).2 h2), valE_spc h h1 h2]; exact ⟨rfl, fun h => by cases h⟩
      · have h2' : ¬ 0 ≤ Lib.indexByte spcF (s.getD n 0) := fun x => h2 ((spcF_iff h.2 h1).1 x)
        by_cases h3 : ((s.getD n 0).toNat : Int) = 32
        · rw [valF_blank h h1 h2' h3, valE_blank h h1 h2 h3]; exact valF_E k _ _ _ _
        · rw [valF_else h h1 h2' h3, valE_else h h1 h2 h3]; exact valF_E k _ _ _ _
def valueF (s : List UInt8) (n : Nat) : Nat × List UInt8 × Bool :=
  match valF (s.length - n) s n [] 0 with
  | (m, some (b, e)) => (m, b.take e, decide (0 < e))
  | (m, none) => (m, [], false)
theorem valueF_some {s : List UInt8} {n m : Nat} {b : List UInt8} {e : Nat} (h : valF (s.length - n) s n [] 0 = (m, some (b, e))) : valueF s n = (m, b.take e, decide (0 < e)) := by unfold valueF; rw [h]
theorem valueF_none {s : List UInt8} {n m : Nat} (h : valF (s.length - n) s n [] 0 = (m, none)) : valueF s n = (m, [], false) := by unfold valueF; rw [h]
theorem valueF_E (s : List UInt8) (n : Nat) : (valueF s n).2 = (valueE s n).2 ∧ ((valueE s n).2.2 = true → (valueF s n).1 = (valueE s n).1) := by
  obtain ⟨h1, h2⟩ := valF_E (s.length - n) s n [] 0
  cases hE : valE (s.length - n) s n [] 0 with
  | mk m o =>
    cases hF : valF (s.length - n) s n [] 0 with
    | mk m' o' =>
      rw [hE, hF] at h1 h2
      dsimp only at h1 h2
      subst h1
      cases o' with
      | none => rw [valueE_none hE, valueF_none hF]; exact ⟨rfl, fun h => by cases h⟩
      | some c => rw [valueE_some hE, valueF_some hF]; exact ⟨rfl, fun _ => h2 rfl⟩
theorem valF_bd (s : List UInt8) : ∀ (k n : Nat) (b : List UInt8) (e : Nat), n ≤ s.length → n ≤ (valF k s n b e).1 ∧ (valF k s n b e).1 ≤ s.length
  | 0, n, b, e, h => ⟨Nat.le_refl _, h⟩
  | k + 1, n, b, e, h => by
    have h1 := strokeF_bd s n h
    unfold valF
    split
    · rename_i h0
      split
      · split
        · have := valF_bd s k (strokeF s n).1 (b ++ [(strokeF s n).2.1]) (b.length + 1) h1.2.1; omega
        · exact ⟨h1.1, h1.2.1⟩
      · split
        · exact ⟨Nat.le_refl _, h⟩
        · split
          · have := valF_bd s k (n + 1) (b ++ [s.getD n 0]) e (by omega); omega
          · have := valF_bd s k (n + 1) (b ++ [s.getD n 0]) (b.length + 1) (by omega); omega
    · exact ⟨Nat.le_refl _, h⟩
theorem valueF_bd (s : List UInt8) (n : Nat) (h : n ≤ s.length) : n ≤ (valueF s n).1 ∧ (valueF s n).1 ≤ s.length := by
  have := valF_bd s (s.length - n) n [] 0 h
  cases hF : valF (s.length - n) s n [] 0 with
  | mk m' o' =>
    rw [hF] at this
    cases o' with
    | none => rw [valueF_none hF]; exact this
    | some c => rw [valueF_some hF]; exact this
/-- Where a value ends there is a comma, or nothing. -/
theorem valE_stop (s : List UInt8) : ∀ (k n : Nat) (b : List UInt8) (e : Nat), s.length - n ≤ k → n ≤ s.length → (valE k s n b e).2.isSome = true → (valE k s n b e).1 = s.length ∨ ((s.getD (valE k s n b e).1 0).toNat : Int) = 44
  | 0, n, b, e, hk, hn, _ => .inl (show n = s.length by omega)
  | k + 1, n, b, e, hk, hn, hs => by
    have hb := strokeE_bd s (n + 1)
    by_cases h : n < s.length ∧ ((s.getD n 0).toNat : Int) ≠ 44
    case neg => rw [valE_end h]; dsimp only; omega
    by_cases h1 : ((s.getD n 0).toNat : Int) = 92
    · cases h2 : (strokeE s (n + 1)).2.2 with
      | false => rw [valE_bad h h1 h2] at hs; cases hs
      | true => rw [valE_str h h1 h2] at hs ⊢; exact valE_stop s k _ _ _ (by have := hb (by omega); omega) (hb (by omega)).2.1 hs
    · by_cases h2 : 0 ≤ Lib.indexByte spc (s.getD n 0)
      · rw [valE_spc h h1 h2] at hs; cases hs
      · by_cases h3 : ((s.getD n 0).toNat : Int) = 32
        · rw [valE_blank h h1 h2 h3] at hs ⊢; exact valE_stop s k _ _ _ (by omega) (by omega) hs
        · rw [valE_else h h1 h2 h3] at hs ⊢; exact valE_stop s k _ _ _ (by omega) (by omega) hs
theorem valueE_stop (s : List UInt8) (n : Nat) (hn : n ≤ s.length) (h : (valueE s n).2.2 = true) : (valueE s n).1 = s.length ∨ ((s.getD (valueE s n).1 0).toNat : Int) = 44 := by
  have := valE_stop s (s.length - n) n [] 0 (Nat.le_refl _) hn
  cases hF : valE (s.length - n) s n [] 0 with
  | mk m' o' =>
    rw [hF] at this
    cases o' with
    | none => rw [valueE_none hF] at h; cases h
    | some c => rw [valueE_some hF]; exact this rfl
/-! ### skipE -/
theorem skipE_all {p : UInt8 → Bool} {s : List UInt8} : ∀ {n j : Nat}, n ≤ j → j < skipE p s n → p (s.getD j 0) = true := by
  intro n j h1 h2
  have hk : ∀ (k n : Nat), j - n = k → n ≤ j → j < skipE p s n → p (s.getD j 0) = true := by
    intro k
    induction k with
    | zero =>
      intro n hk hn hj
      have : n = j := by omega
      subst this
      by_cases hl : n < s.length
      · cases hp : p (s.getD n 0) with
        | true => rfl
        | false => rw [skipE_no (fun _ => hp)] at hj; omega
      · rw [skipE_no (fun h => absurd h hl)] at hj; omega
    | succ k ih =>
      intro n hk hn hj
      by_cases hl : n < s.length
      · cases hp : p (s.getD n 0) with
        | true => rw [skipE_yes hl hp] at hj; exact ih (n + 1) (by omega) (by omega) hj
        | false => rw [skipE_no (fun _ => hp)] at hj; omega
      · rw [skipE_no (fun h => absurd h hl)] at hj; omega
  exact hk _ n rfl h1 h2
theorem skipE_stop {p : UInt8 → Bool} {s : List UInt8} {n : Nat} (h : skipE p s n < s.length) : p (s.getD (skipE p s n) 0) = false := by
  have hk : ∀ (k n : Nat), s.length - n = k → skipE p s n < s.length → p (s.getD (skipE p s n) 0) = false := by
    intro k
    induction k with
    | zero =>
      intro n hk hj
      have := skipE_ge p s n
      omega
    | succ k ih =>
      intro n hk hj
      cases hp : p (s.getD n 0) with
      | true =>
        rw [skipE_yes (by omega) hp] at hj ⊢
        exact ih (n + 1) (by omega) hj
      | false => rw [skipE_no (fun _ => hp)]; exact hp
  exact hk _ n rfl h
theorem skipE_eq {p : UInt8 → Bool} {s : List UInt8} {n m : Nat} (h1 : n ≤ m) (h2 : m ≤ s.length) (h3 : ∀ j, n ≤ j → j < m → p (s.getD j 0) = true) (h4 : m < s.length → p (s.getD m 0) = false) : skipE p s n = m := by
  have hk : ∀ (k n : Nat), m - n = k → n ≤ m → (∀ j, n ≤ j → j < m → p (s.getD j 0) = true) → skipE p s n = m := by
    intro k
    induction k with
    | zero => intro n hk hn _; have : n = m := by omega
              subst this; exact skipE_no h4
    | succ k ih =>
      intro n hk hn ha
      rw [skipE_yes (by omega) (ha n (Nat.le_refl _) (by omega))]
      exact ih (n + 1) (by omega) (by omega) (fun j a b => ha j (by omega) b)
  exact hk _ n rfl h1 h3
theorem typC_nb {c : UInt8} (h : typC c = true) : nbC c = true := by
  have := (typC_iff c).1 h
  simp only [nbC, Bool.and_eq_true, decide_eq_true_eq]
  omega
def kindF (s : List UInt8) (n : Nat) : Nat := skipE nbC s (skipE blk s n)
def typF (s : List UInt8) (n : Nat) : List UInt8 := (s.take (kindF s n)).drop (skipE blk s n)
def eqF (s : List UInt8) (n : Nat) : Nat := skipE blk s (kindF s n)
def valPF (s : List UInt8) (n : Nat) : Nat := skipE blk s (eqF s n + 1)
def partF (s : List UInt8) (n : Nat) : Nat × Ava × Bool :=
  if typB (typF s n) = true ∧ eqF s n < s.length ∧ ((s.getD (eqF s n) 0).toNat : Int) = 61 then ((valueF s (valPF s n)).1, ⟨typF s n, (valueF s (valPF s n)).2.1⟩, (valueF s (valPF s n)).2.2)
  else (eqF s n, ⟨[], []⟩, false)
theorem partF_yes {s : List UInt8} {n : Nat} (h : typB (typF s n) = true ∧ eqF s n < s.length ∧ ((s.getD (eqF s n) 0).toNat : Int) = 61) : partF s n = ((valueF s (valPF s n)).1, ⟨typF s n, (valueF s (valPF s n)).2.1⟩, (valueF s (valPF s n)).2.2) := if_pos h
theorem partF_no {s : List UInt8} {n : Nat} (h : ¬ (typB (typF s n) = true ∧ eqF s n < s.length ∧ ((s.getD (eqF s n) 0).toNat : Int) = 61)) : partF s n = (eqF s n, ⟨[], []⟩, false) := if_neg h
theorem partF_no' {s : List UInt8} {n : Nat} (h : (typB (typF s n) = false ∨ (s.length : Int) ≤ ((eqF s n : Nat) : Int)) ∨ ((s.getD (eqF s n) 0).toNat : Int) ≠ 61) : partF s n = (eqF s n, ⟨[], []⟩, false) := partF_no (fun hh => by
  rcases h with (h | h) | h
  · rw [hh.1] at h; cases h
  · have := hh.2.1; omega
  · exact h hh.2.2)
theorem partF_yes' {s : List UInt8} {n : Nat} (h : (typB (typF s n) = true ∧ ¬ (s.length : Int) ≤ ((eqF s n : Nat) : Int)) ∧ ¬ ((s.getD (eqF s n) 0).toNat : Int) ≠ 61) : partF s n = ((valueF s (valPF s n)).1, ⟨typF s n, (valueF s (valPF s n)).2.1⟩, (valueF s (valPF s n)).2.2) := partF_yes ⟨h.1.1, by have := h.1.2; omega, by have := h.2; omega⟩
theorem okA_iff (a : Ava) : okA a = true ↔ (typB a.typ = true ∧ ¬ (a.val.length : Int) < 1) ∧ ¬ 64 < (a.val.length : Int) := by
  unfold okA
  simp only [Bool.and_eq_true, Bool.not_eq_true', decide_eq_true_eq, decide_eq_false_iff_not, ← List.length_eq_zero_iff]
  constructor
  · rintro ⟨⟨h1, h2⟩, h3⟩; exact ⟨⟨h1, by omega⟩, by omega⟩
  · rintro ⟨⟨h1, h2⟩, h3⟩; exact ⟨⟨h1, by omega⟩, by omega⟩
theorem okA_no {a : Ava} (h : (typB a.typ = false ∨ (a.val.length : Int) < 1) ∨ 64 < (a.val.length : Int)) : okA a = false := by
  cases h1 : okA a with
  | false => rfl
  | true =>
    have h2 := (okA_iff a).1 h1
    rcases h with (h | h) | h
    · rw [h2.1.1] at h; cases h
    · omega
    · omega
theorem isE_no {l : List Ava} {i : Nat} (h : i < l.length) (h1 : okA (l.getD i default) = false) : isE l = false := by
  unfold isE
  have : l.all okA = false := by
    rw [List.all_eq_false]
    exact ⟨_, getD_mem h, by rw [h1]; simp⟩
  rw [this]; simp
theorem allA_snoc {l : List Ava} {i : Nat} (h : i < l.length) (h1 : (l.take i).all okA = true) (h2 : okA (l.getD i default) = true) : (l.take (i + 1)).all okA = true := by
  rw [List.take_succ_eq_append_getElem h, List.all_append, h1]
  rw [List.getD_eq_getElem?_getD, List.getElem?_eq_getElem h] at h2
  simpa using h2
theorem partF_typ (s : List UInt8) (n : Nat) : (partF s n).2.1.typ.length ≤ s.length := by
  have h : (typF s n).length ≤ s.length := by
    unfold typF; rw [List.length_drop, List.length_take]; omega
  unfold partF
  split
  · exact h
  · simp
theorem seg_get {s : List UInt8} {a b j : Nat} (h1 : a ≤ j) (h2 : j < b) (h3 : b ≤ s.length) : s.getD j 0 ∈ (s.take b).drop a := by
  rw [List.getD_eq_getElem?_getD, List.getElem?_eq_getElem (show j < s.length by omega)]
  refine List.mem_iff_getElem.2 ⟨j - a, by simp; omega, ?_⟩
  simp [show a + (j - a) = j by omega]
/-- The two ways to find a type agree where it is one. -/
theorem kind_F (s : List UInt8) (n : Nat) (hn : n ≤ s.length) (h : typB (typF s n) = true) : kindF s n = kindE s n := by
  have b0 := skipE_le blk s n hn
  have b1 := skipE_le nbC s (skipE blk s n) b0
  have b2 := skipE_ge nbC s (skipE blk s n)
  unfold kindE
  refine (skipE_eq b2 b1 (fun j h1 h2 => ?_) (fun hl => ?_)).symm
  · have h3 := ((typB_iff _).1 h).2
    exact List.all_eq_true.1 h3 _ (seg_get h1 h2 b1)
  · cases hc : typC (s.getD (kindF s n) 0) with
    | false => exact hc
    | true => have : nbC (s.getD (kindF s n) 0) = false := skipE_stop (p := nbC) hl
              rw [typC_nb hc] at this; cases this
theorem kind_E (s : List UInt8) (n : Nat) (hn : n ≤ s.length) (h : eqE s n < s.length ∧ ((s.getD (eqE s n) 0).toNat : Int) = 61) : kindF s n = kindE s n := by
  have b0 := skipE_le blk s n hn
  have b1 := skipE_le typC s (skipE blk s n) b0
  have b2 := skipE_ge typC s (skipE blk s n)
  have b3 := skipE_ge blk s (kindE s n)
  refine skipE_eq b2 b1 (fun j h1 h2 => typC_nb (skipE_all h1 h2)) (fun hl => ?_)
  have h0 : kindE s n ≤ eqE s n := b3
  by_cases he : kindE s n = eqE s n
  · have h61 := h.2
    show nbC (s.getD (kindE s n) 0) = false
    rw [he]
    unfold nbC
    rw [decide_eq_false (p := ((s.getD (eqE s n) 0).toNat : Int) ≠ 61) (by omega)]
    simp
  · have hb := skipE_all (p := blk) (s := s) (n := kindE s n) (j := kindE s n) (Nat.le_refl _) (show kindE s n < eqE s n by omega)
    have hb2 : ((s.getD (kindE s n) 0).toNat : Int) = 32 := of_decide_eq_true hb
    show nbC (s.getD (kindE s n) 0) = false
    unfold nbC
    rw [decide_eq_false (p := ((s.getD (kindE s n) 0).toNat : Int) ≠ 32) (by omega)]
    simp
theorem partF_E (s : List UInt8) (n : Nat) (hn : n ≤ s.length) : (partF s n).2.2 = (partE s n).2.2 ∧ ((partE s n).2.2 = true → partF s n = partE s n ∧ ((partE s n).1 = s.length ∨ ((s.getD (partE s n).1 0).toNat : Int) = 44)) := by
  have hb := partE_bd s n hn
  by_cases hF : typB (typF s n) = true ∧ eqF s n < s.length ∧ ((s.getD (eqF s n) 0).toNat : Int) = 61
  · have hk := kind_F s n hn hF.1
    have e1 : typF s n = typE s n := by unfold typF typE; rw [hk]
    have e2 : eqF s n = eqE s n := by unfold eqF eqE; rw [hk]
    have e3 : valPF s n = valP s n := by unfold valPF valP; rw [e2]
    have hF' := hF
    rw [e1, e2] at hF'
    have hv := valueF_E s (valP s n)
    have hs := valueE_stop s (valP s n) (hb.2.2.2.2.1 hF'.2.1).2
    rw [partF_yes hF, partE_2 hF'.1 hF'.2, e1, e3]
    refine ⟨by dsimp only; rw [hv.1], fun h => ⟨?_, ?_⟩⟩
    · dsimp only at h
      rw [hv.1, hv.2 h]
    · exact hs h
  · rw [partF_no hF]
    have : (partE s n).2.2 = false := by
      by_cases h0 : typB (typE s n) = false
      · rw [partE_0 h0]
      · have h0 : typB (typE s n) = true := by simpa using h0
        by_cases h1 : eqE s n < s.length ∧ ((s.getD (eqE s n) 0).toNat : Int) = 61
        · have hk := kind_E s n hn h1
          have e1 : typF s n = typE s n := by unfold typF typE; rw [hk]
          have e2 : eqF s n = eqE s n := by unfold eqF eqE; rw [hk]
          rw [e1, e2] at hF
          exact absurd ⟨h0, h1⟩ hF
        · rw [partE_1 h0 h1]
    rw [this]
    exact ⟨rfl, fun h => by cases h⟩
theorem partF_bd (s : List UInt8) (n : Nat) (h : n ≤ s.length) : n ≤ skipE blk s n ∧ skipE blk s n ≤ kindF s n ∧ kindF s n ≤ eqF s n ∧ eqF s n ≤ s.length ∧ (eqF s n < s.length → eqF s n + 1 ≤ valPF s n ∧ valPF s n ≤ s.length) := by
  have h1 := skipE_ge blk s n
  have h2 := skipE_le blk s n h
  have h3 := skipE_ge nbC s (skipE blk s n)
  have h4 := skipE_le nbC s (skipE blk s n) h2
  have h5 := skipE_ge blk s (kindF s n)
  have h6 := skipE_le blk s (kindF s n) h4
  exact ⟨h1, h3, h5, h6, fun hl => ⟨skipE_ge blk s _, skipE_le blk s _ hl⟩⟩
end Go.Dn
set_option maxRecDepth 8000
set_option linter.unusedVariables false
namespace Go.Proofs.Ytibabbepnhpaiaa
open Go.Vk
attribute [local irreducible] HT HX RegS RegA RegM OpP OpC AltT
theorem rfLetter (c : UInt8) : CFn Try.prog 59 [okI .u8 (c.toNat : Int)] (Is (.bool (Dn.letB c))) := by
  refine CallsC.of Try.call59 Try.func59 rfl Try.ntmps59 rfl fun w0 G0 S0 hs ho => ?_
  exact run trivial
theorem rfType (s : List UInt8) (hl : s.length ≤ 4611686018427387904) : CFn Try.prog 37 [Is (str s)] (Is (.bool (Dn.typB s))) := by
  have c1 := rfLetter
  refine CallsC.of Try.call37 Try.func37 rfl Try.ntmps37 rfl fun w0 G0 S0 hs ho => ?_
  refine run ?_
  refine ⟨?_, ?_⟩
  · intro h
    refine Dn.false_of fun hb => ?_
    have h1 := (Dn.typB_iff s).1 hb
    rw [Dn.letB_iff] at *
    omega
  · intro h1
    have h2 : 0 < s.length := by omega
    refine HT.loopX (σ := Nat) [0] (fun i => [(3, okI .i64 (i : Int))]) (fun _ => []) (fun i => 1 ≤ i ∧ i ≤ s.length ∧ (s.take i).all Dn.typC = true) (fun i => s.length - i) 1 ⟨by omega, by omega, Dn.all_take_snoc (i := 0) h2 (by simp) ((Dn.typC_iff _).2 (by omega))⟩ (run trivial) (run trivial) ?_
    rintro i ⟨h0, hi, hall⟩
    refine run ?_
    refine ⟨fun h2 h3 => ?_, fun h2 h3 => ?_, fun h2 => ?_⟩
    · refine Dn.false_of fun hb => ?_
      have := (Dn.typC_iff _).1 (Dn.all_get (i := i) (by omega) ((Dn.typB_iff s).1 hb).2)
      omega
    · exact HX.roundX (i + 1) ⟨⟨by omega, by omega, Dn.all_take_snoc (by omega) hall ((Dn.typC_iff _).2 (by omega))⟩, by omega⟩ rfl (run trivial) (run trivial)
    · rw [List.take_of_length_le (by omega)] at hall
      refine ((Dn.typB_iff s).2 ⟨?_, hall⟩).symm
      rw [Dn.letB_iff] at *
      omega
end Go.Proofs.Ytibabbepnhpaiaa
set_option maxRecDepth 8000
set_option linter.unusedVariables false
namespace Go.Proofs.Ytibabbepnhpaiaa
open Go.Vk
attribute [local irreducible] HT HX RegS RegA RegM OpP OpC AltT
attribute [local irreducible] Dn.valueF Dn.partF Dn.partE Dn.parseE Dn.isE
theorem rfIs (l : List Dn.Ava) (hl : l.length ≤ 1152921504606846976) (hta : ∀ a ∈ l, a.typ.length ≤ 1152921504606846976) : CFn Try.prog 36 [TSl 2 Dn.cAva l] (Is (.bool (Dn.isE l))) := by
  have c1 := rfType
  refine CallsC.of Try.call36 Try.func36 rfl Try.ntmps36 rfl fun w0 G0 S0 hs ho => ?_
  refine run ?_
  refine ⟨fun h => ?_, fun h => ?_⟩
  · unfold Dn.isE
    rw [decide_eq_false (by omega)]; rfl
  refine HT.loopX (σ := Nat) [0] (fun i => [(3, okI .i64 (i : Int))]) (fun _ => []) (fun i => i ≤ l.length ∧ (l.take i).all Dn.okA = true) (fun i => l.length - i) 0 ⟨by omega, by simp⟩ (run trivial) (run trivial) ?_
  rintro i ⟨hi, ha⟩
  by_cases hlt : i < l.length
  · have h3 := hta _ (Dn.getD_mem hlt)
    refine run ?_
    refine ⟨fun _ h4 => ?_, fun _ h4 => ?_⟩
    · exact (Dn.isE_no hlt (Dn.okA_no h4)).symm
    · exact HX.roundX (i + 1) ⟨⟨by omega, Dn.allA_snoc hlt ha ((Dn.okA_iff _).2 h4)⟩, by omega⟩ rfl (run trivial) (run trivial)
  · refine run ?_
    intro _
    rw [List.take_of_length_le (by omega)] at ha
    unfold Dn.isE
    rw [ha, decide_eq_true (by omega)]; rfl
end Go.Proofs.Ytibabbepnhpaiaa
set_option maxRecDepth 8000
set_option linter.unusedVariables false
namespace Go.Proofs.Ytibabbepnhpaiaa
open Go.Vk
attribute [local irreducible] HT HX RegS RegA RegM OpP OpC AltT
end Go.Proofs.Ytibabbepnhpaiaa
set_option maxRecDepth 8000
set_option linter.unusedVariables false
namespace Go.Proofs.Ytibabbepnhpaiaa
open Go.Vk
attribute [local irreducible] HT HX RegS RegA RegM OpP OpC AltT
attribute [local irreducible] Dn.tellR Dn.tellC Dn.tellE Dn.printR Dn.printC Dn.printE
end Go.Proofs.Ytibabbepnhpaiaa
