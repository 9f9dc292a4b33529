/-
  The plain functions of dn: what its Go functions compute, on lists of bytes. Nothing here speaks of a program; no conditions.
  Keys of names, in plain Lean: what is marked, what is cut, what is read back.
  The contracts of strings.IndexByte and of what it calls: for every input; nothing that was there is changed.
  The contracts of dn's parser: what each function computes, for every text.
  The contracts of dn's parser, further on: blanks, kind, stroke, value, part.
  The contracts of dn's parser, further on: blanks, kind, stroke, value, part.
  The contract of dn's parser's value.
  The contracts of dn's part, Is and what these call.
  The contract of dn's Parse.
  The contracts of dn's Fold, Norm, Same, Under, Up.
  The contracts of strings.Builder: for every Builder of one's own; nothing else that was there is changed.
-/
import Derived.Test.YtphakclfahianaaDoorGaj
import Derived.Lib.Replace
import Derived.Test.YtphakclfahianaaDoorRows
set_option linter.unusedSimpArgs false
set_option linter.unusedVariables false
set_option linter.unusedVariables false
namespace Go.Dn
open Go.Vk
/-- A part of a name. -/
structure Ava where
  typ : List UInt8
  val : List UInt8
instance : Inhabited Ava := ⟨⟨[], []⟩⟩
def cAva (a : Ava) : List Ty := [Is (str a.typ), Is (str a.val)]
theorem Ava.ext' {a b : Ava} (h1 : a.typ = b.typ) (h2 : a.val = b.val) : a = b := by cases a; cases b; simp at h1 h2; rw [h1, h2]
instance : DecidableEq Ava := fun a b => decidable_of_iff (a.typ = b.typ ∧ a.val = b.val) ⟨fun h => Ava.ext' h.1 h.2, fun h => by rw [h]; exact ⟨rfl, rfl⟩⟩

abbrev letB (c : UInt8) : Bool := decide (97 ≤ (c.toNat : Int)) && decide ((c.toNat : Int) ≤ 122) || (decide (65 ≤ (c.toNat : Int)) && decide ((c.toNat : Int) ≤ 90))
abbrev digB (c : UInt8) : Bool := decide (48 ≤ (c.toNat : Int)) && decide ((c.toNat : Int) ≤ 57)
def typC (c : UInt8) : Bool := letB c || digB c || decide ((c.toNat : Int) = 45)
def typB (s : List UInt8) : Bool := !(decide (s = [])) && decide ((s.length : Int) ≤ 32) && letB (s.getD 0 0) && s.all typC
theorem letB_iff (c : UInt8) : letB c = true ↔ (97 ≤ (c.toNat : Int) ∧ (c.toNat : Int) ≤ 122) ∨ (65 ≤ (c.toNat : Int) ∧ (c.toNat : Int) ≤ 90) := by
  simp only [letB, Bool.or_eq_true, Bool.and_eq_true, decide_eq_true_eq]
theorem typC_iff (c : UInt8) : typC c = true ↔ (97 ≤ (c.toNat : Int) ∧ (c.toNat : Int) ≤ 122) ∨ (65 ≤ (c.toNat : Int) ∧ (c.toNat : Int) ≤ 90) ∨ (48 ≤ (c.toNat : Int) ∧ (c.toNat : Int) ≤ 57) ∨ (c.toNat : Int) = 45 := by
  simp only [typC, letB, digB, Bool.or_eq_true, Bool.and_eq_true, decide_eq_true_eq]
  omega
theorem typB_iff (s : List UInt8) : typB s = true ↔ (0 < s.length ∧ s.length ≤ 32 ∧ letB (s.getD 0 0) = true) ∧ s.all typC = true := by
  simp only [typB, Bool.and_eq_true, Bool.not_eq_true', decide_eq_true_eq, decide_eq_false_iff_not, ← List.length_eq_zero_iff]
  constructor
  · rintro ⟨⟨⟨h1, h2⟩, h3⟩, h4⟩; exact ⟨⟨by omega, by omega, h3⟩, h4⟩
  · rintro ⟨⟨h1, h2, h3⟩, h4⟩; exact ⟨⟨⟨by omega, by omega⟩, h3⟩, h4⟩
theorem false_of {b : Bool} (h : b = true → False) : false = b := by
  cases b
  · rfl
  · exact (h rfl).elim
theorem true_of {b : Bool} (h : b = true) : true = b := h.symm
theorem all_take_snoc {p : UInt8 → Bool} {s : List UInt8} {i : Nat} (h : i < s.length) (h1 : (s.take i).all p = true) (h2 : p (s.getD i 0) = true) : (s.take (i + 1)).all p = true := by
  rw [List.take_succ_eq_append_getElem h, List.all_append, h1]
  rw [List.getD_eq_getElem?_getD, List.getElem?_eq_getElem h] at h2
  simpa using h2
theorem all_get {p : UInt8 → Bool} {s : List UInt8} {i : Nat} (h : i < s.length) (h1 : s.all p = true) : p (s.getD i 0) = true := by
  rw [List.getD_eq_getElem?_getD, List.getElem?_eq_getElem h]
  exact List.all_eq_true.1 h1 _ (List.getElem_mem h)
def hexOk (c : UInt8) : Bool := digB c || (decide (97 ≤ (c.toNat : Int)) && decide ((c.toNat : Int) ≤ 102)) || (decide (65 ≤ (c.toNat : Int)) && decide ((c.toNat : Int) ≤ 70))
def hexV (c : UInt8) : Int := if 48 ≤ (c.toNat : Int) ∧ (c.toNat : Int) ≤ 57 then (c.toNat : Int) - 48 else if 97 ≤ (c.toNat : Int) ∧ (c.toNat : Int) ≤ 102 then (c.toNat : Int) - 97 + 10 else if 65 ≤ (c.toNat : Int) ∧ (c.toNat : Int) ≤ 70 then (c.toNat : Int) - 65 + 10 else 0
theorem hexV_bd (c : UInt8) : 0 ≤ hexV c ∧ hexV c ≤ 15 := by unfold hexV; split <;> (try split) <;> (try split) <;> omega

/-- The place behind a row of bytes of a kind, from a place on. -/
def skipE (p : UInt8 → Bool) (s : List UInt8) (n : Nat) : Nat := n + ((s.drop n).takeWhile p).length
theorem drop_cons {s : List UInt8} {n : Nat} (h : n < s.length) : s.drop n = s.getD n 0 :: s.drop (n + 1) := by
  rw [List.drop_eq_getElem_cons h, List.getD_eq_getElem?_getD, List.getElem?_eq_getElem h]; rfl
theorem skipE_yes {p : UInt8 → Bool} {s : List UInt8} {n : Nat} (h : n < s.length) (hp : p (s.getD n 0) = true) : skipE p s n = skipE p s (n + 1) := by
  unfold skipE; rw [drop_cons h, List.takeWhile_cons, if_pos hp]; simp; omega
theorem skipE_no {p : UInt8 → Bool} {s : List UInt8} {n : Nat} (hp : n < s.length → p (s.getD n 0) = false) : skipE p s n = n := by
  unfold skipE
  by_cases h : n < s.length
  · rw [drop_cons h, List.takeWhile_cons, if_neg (by rw [hp h]; simp)]; rfl
  · rw [List.drop_eq_nil_of_le (by omega)]; rfl
theorem skipE_ge (p : UInt8 → Bool) (s : List UInt8) (n : Nat) : n ≤ skipE p s n := by unfold skipE; omega
theorem skipE_le (p : UInt8 → Bool) (s : List UInt8) (n : Nat) (h : n ≤ s.length) : skipE p s n ≤ s.length := by
  unfold skipE
  have h1 := (List.takeWhile_sublist p (l := s.drop n)).length_le
  rw [List.length_drop] at h1; omega

def spc : List UInt8 := [44, 43, 34, 92, 60, 62, 59]
def strk : List UInt8 := [44, 43, 34, 92, 60, 62, 59, 35, 61, 32]
/-- What stands behind a stroke: the place behind it, the byte, whether it may be. -/
def strokeE (s : List UInt8) (n : Nat) : Nat × Int × Bool :=
  if s.length ≤ n then (n, 0, false)
  else if 0 ≤ Lib.indexByte strk (s.getD n 0) then (n + 1, ((s.getD n 0).toNat : Int), true)
  else if hexOk (s.getD n 0) = false ∨ s.length ≤ n + 1 then (n + 1, 0, false)
  else (n + 2, hexV (s.getD n 0) * 16 + hexV (s.getD (n + 1) 0), hexOk (s.getD (n + 1) 0))
theorem strokeE_0 {s : List UInt8} {n : Nat} (h : s.length ≤ n) : strokeE s n = (n, 0, false) := if_pos h
theorem strokeE_1 {s : List UInt8} {n : Nat} (h : n < s.length) (h1 : 0 ≤ Lib.indexByte strk (s.getD n 0)) : strokeE s n = (n + 1, ((s.getD n 0).toNat : Int), true) := by
  unfold strokeE; rw [if_neg (by omega), if_pos h1]
theorem strokeE_2 {s : List UInt8} {n : Nat} (h : n < s.length) (h1 : ¬ 0 ≤ Lib.indexByte strk (s.getD n 0)) (h2 : hexOk (s.getD n 0) = false ∨ s.length ≤ n + 1) : strokeE s n = (n + 1, 0, false) := by
  unfold strokeE; rw [if_neg (by omega), if_neg h1, if_pos h2]
theorem strokeE_3 {s : List UInt8} {n : Nat} (h1 : ¬ 0 ≤ Lib.indexByte strk (s.getD n 0)) (h2 : hexOk (s.getD n 0) = true) (h3 : n + 1 < s.length) : strokeE s n = (n + 2, hexV (s.getD n 0) * 16 + hexV (s.getD (n + 1) 0), hexOk (s.getD (n + 1) 0)) := by
  unfold strokeE; rw [if_neg (by omega), if_neg h1, if_neg (by rw [h2]; simp; omega)]
theorem strokeE_bd (s : List UInt8) (n : Nat) (h : n ≤ s.length) : n ≤ (strokeE s n).1 ∧ (strokeE s n).1 ≤ s.length ∧ 0 ≤ (strokeE s n).2.1 ∧ (strokeE s n).2.1 < 256 := by
  unfold strokeE
  have h1 := hexV_bd (s.getD n 0)
  have h2 := hexV_bd (s.getD (n + 1) 0)
  have h3 := (s.getD n 0).toNat_lt
  repeat' split
  all_goals dsimp only
  all_goals omega
/-- A value: the place behind it, its bytes, how many of them count; none: it may not be. -/
def valE : Nat → List UInt8 → Nat → List UInt8 → Nat → Nat × Option (List UInt8 × Nat)
  | 0, _, n, b, e => (n, some (b, e))
  | k + 1, s, n, b, e =>
    if n < s.length ∧ ((s.getD n 0).toNat : Int) ≠ 44 then
      if ((s.getD n 0).toNat : Int) = 92 then
        if (strokeE s (n + 1)).2.2 = true then valE k s (strokeE s (n + 1)).1 (b ++ [b8 (strokeE s (n + 1)).2.1]) (b.length + 1) else ((strokeE s (n + 1)).1, none)
      else if 0 ≤ Lib.indexByte spc (s.getD n 0) then (n + 1, none)
      else if ((s.getD n 0).toNat : Int) = 32 then valE k s (n + 1) (b ++ [s.getD n 0]) e
      else valE k s (n + 1) (b ++ [s.getD n 0]) (b.length + 1)
    else (n, some (b, e))
def valueE (s : List UInt8) (n : Nat) : Nat × List UInt8 × Bool :=
  match valE (s.length - n) s n [] 0 with
  | (m, some (b, e)) => (m, b.take e, decide (0 < e))
  | (m, none) => (m, [], false)
theorem valE_end {k : Nat} {s : List UInt8} {n : Nat} {b : List UInt8} {e : Nat} (h : ¬ (n < s.length ∧ ((s.getD n 0).toNat : Int) ≠ 44)) : valE k s n b e = (n, some (b, e)) := by
  cases k
  · rfl
  · unfold valE; rw [if_neg h]
theorem valE_bad {k : Nat} {s : List UInt8} {n : Nat} {b : List UInt8} {e : Nat} (h : n < s.length ∧ ((s.getD n 0).toNat : Int) ≠ 44) (h1 : ((s.getD n 0).toNat : Int) = 92) (h2 : (strokeE s (n + 1)).2.2 = false) : valE (k + 1) s n b e = ((strokeE s (n + 1)).1, none) := by
  unfold valE; rw [if_pos h, if_pos h1, h2]; rfl
theorem valE_str {k : Nat} {s : List UInt8} {n : Nat} {b : List UInt8} {e : Nat} (h : n < s.length ∧ ((s.getD n 0).toNat : Int) ≠ 44) (h1 : ((s.getD n 0).toNat : Int) = 92) (h2 : (strokeE s (n + 1)).2.2 = true) : valE (k + 1) s n b e = valE k s (strokeE s (n + 1)).1 (b ++ [b8 (strokeE s (n + 1)).2.1]) (b.length + 1) := by
  conv => lhs; unfold valE
  rw [if_pos h, if_pos h1, if_pos h2]
theorem valE_spc {k : Nat} {s : List UInt8} {n : Nat} {b : List UInt8} {e : Nat} (h : n < s.length ∧ ((s.getD n 0).toNat : Int) ≠ 44) (h1 : ¬ ((s.getD n 0).toNat : Int) = 92) (h2 : 0 ≤ Lib.indexByte spc (s.getD n 0)) : valE (k + 1) s n b e = (n + 1, none) := by
  unfold valE; rw [if_pos h, if_neg h1, if_pos h2]
theorem valE_blank {k : Nat} {s : List UInt8} {n : Nat} {b : List UInt8} {e : Nat} (h : n < s.length ∧ ((s.getD n 0).toNat : Int) ≠ 44) (h1 : ¬ ((s.getD n 0).toNat : Int) = 92) (h2 : ¬ 0 ≤ Lib.indexByte spc (s.getD n 0)) (h3 : ((s.getD n 0).toNat : Int) = 32) : valE (k + 1) s n b e = valE k s (n + 1) (b ++ [s.getD n 0]) e := by
  conv => lhs; unfold valE
  rw [if_pos h, if_neg h1, if_neg h2, if_pos h3]
theorem valE_else {k : Nat} {s : List UInt8} {n : Nat} {b : List UInt8} {e : Nat} (h : n < s.length ∧ ((s.getD n 0).toNat : Int) ≠ 44) (h1 : ¬ ((s.getD n 0).toNat : Int) = 92) (h2 : ¬ 0 ≤ Lib.indexByte spc (s.getD n 0)) (h3 : ¬ ((s.getD n 0).toNat : Int) = 32) : valE (k + 1) s n b e = valE k s (n + 1) (b ++ [s.getD n 0]) (b.length + 1) := by
  conv => lhs; unfold valE
  rw [if_pos h, if_neg h1, if_neg h2, if_neg h3]
theorem valueE_some {s : List UInt8} {n m : Nat} {b : List UInt8} {e : Nat} (h : valE (s.length - n) s n [] 0 = (m, some (b, e))) : valueE s n = (m, b.take e, decide (0 < e)) := by unfold valueE; rw [h]
theorem valueE_none {s : List UInt8} {n m : Nat} (h : valE (s.length - n) s n [] 0 = (m, none)) : valueE s n = (m, [], false) := by unfold valueE; rw [h]
theorem valueE_bd (s : List UInt8) (n : Nat) (h : n ≤ s.length) : n ≤ (valueE s n).1 ∧ (valueE s n).1 ≤ s.length ∧ (valueE s n).2.1.length ≤ s.length := by
  have key : ∀ (k n : Nat) (b : List UInt8) (e : Nat), n ≤ s.length → b.length ≤ n → n ≤ (valE k s n b e).1 ∧ (valE k s n b e).1 ≤ s.length ∧ ∀ c, (valE k s n b e).2 = some c → c.1.length ≤ s.length := by
    intro k
    induction k with
    | zero => intro n b e h hb; exact ⟨Nat.le_refl _, h, fun c hc => by cases hc; dsimp only; omega⟩
    | succ k ih =>
      intro n b e h hb
      have h1 := strokeE_bd s (n + 1)
      unfold valE
      split
      · split
        · split
          · have := ih (strokeE s (n + 1)).1 (b ++ [b8 (strokeE s (n + 1)).2.1]) (b.length + 1) (by omega) (by simp; omega)
            exact ⟨by omega, this.2.1, this.2.2⟩
          · dsimp only
            exact ⟨by omega, by omega, fun c hc => by cases hc⟩
        · split
          · dsimp only
            exact ⟨by omega, by omega, fun c hc => by cases hc⟩
          · split
            · have := ih (n + 1) (b ++ [s.getD n 0]) e (by omega) (by simp; omega)
              exact ⟨by omega, this.2.1, this.2.2⟩
            · have := ih (n + 1) (b ++ [s.getD n 0]) (b.length + 1) (by omega) (by simp; omega)
              exact ⟨by omega, this.2.1, this.2.2⟩
      · exact ⟨Nat.le_refl _, h, fun c hc => by cases hc; dsimp only; omega⟩
  have := key (s.length - n) n [] 0 h (by simp)
  cases hv : valE (s.length - n) s n [] 0 with
  | mk m o =>
    rw [hv] at this
    cases o with
    | none => rw [valueE_none hv]; exact ⟨this.1, this.2.1, by simp⟩
    | some c =>
      rw [valueE_some hv]
      have h2 := this.2.2 c rfl
      exact ⟨this.1, this.2.1, by dsimp only; rw [List.length_take]; omega⟩
def blk (c : UInt8) : Bool := decide ((c.toNat : Int) = 32)
/-- A part: the place behind it, what was told, whether it may be. -/
def kindE (s : List UInt8) (n : Nat) : Nat := skipE typC s (skipE blk s n)
def typE (s : List UInt8) (n : Nat) : List UInt8 := (s.take (kindE s n)).drop (skipE blk s n)
def eqE (s : List UInt8) (n : Nat) : Nat := skipE blk s (kindE s n)
def valP (s : List UInt8) (n : Nat) : Nat := skipE blk s (eqE s n + 1)
def partE (s : List UInt8) (n : Nat) : Nat × Ava × Bool :=
  if typB (typE s n) = false then (kindE s n, ⟨typE s n, []⟩, false)
  else if ¬ (eqE s n < s.length ∧ ((s.getD (eqE s n) 0).toNat : Int) = 61) then (eqE s n, ⟨typE s n, []⟩, false)
  else ((valueE s (valP s n)).1, ⟨typE s n, (valueE s (valP s n)).2.1⟩, (valueE s (valP s n)).2.2)
theorem partE_0 {s : List UInt8} {n : Nat} (h : typB (typE s n) = false) : partE s n = (kindE s n, ⟨typE s n, []⟩, false) := if_pos h
theorem partE_1 {s : List UInt8} {n : Nat} (h : typB (typE s n) = true) (h1 : ¬ (eqE s n < s.length ∧ ((s.getD (eqE s n) 0).toNat : Int) = 61)) : partE s n = (eqE s n, ⟨typE s n, []⟩, false) := by
  unfold partE; rw [if_neg (by rw [h]; simp), if_pos h1]
theorem partE_2 {s : List UInt8} {n : Nat} (h : typB (typE s n) = true) (h1 : eqE s n < s.length ∧ ((s.getD (eqE s n) 0).toNat : Int) = 61) : partE s n = ((valueE s (valP s n)).1, ⟨typE s n, (valueE s (valP s n)).2.1⟩, (valueE s (valP s n)).2.2) := by
  unfold partE; rw [if_neg (by rw [h]; simp), if_neg (not_not_intro h1)]
theorem partE_1' {s : List UInt8} {n : Nat} (h : typB (typE s n) = true) (h1 : ¬ ((eqE s n : Nat) : Int) < (s.length : Int) ∨ ¬ ((s.getD (eqE s n) 0).toNat : Int) = 61) : partE s n = (eqE s n, ⟨typE s n, []⟩, false) := partE_1 h (fun hh => h1.elim (fun a => a (by omega)) (fun a => a hh.2))
theorem partE_2' {s : List UInt8} {n : Nat} (h : typB (typE s n) = true) (h1 : ((eqE s n : Nat) : Int) < (s.length : Int) ∧ ((s.getD (eqE s n) 0).toNat : Int) = 61) : partE s n = ((valueE s (valP s n)).1, ⟨typE s n, (valueE s (valP s n)).2.1⟩, (valueE s (valP s n)).2.2) := partE_2 h ⟨by omega, h1.2⟩
theorem nand {a b : Prop} (h : ¬ a ∨ ¬ b) : ¬ (a ∧ b) := fun hh => h.elim (fun k => k hh.1) (fun k => k hh.2)
theorem partE_bd (s : List UInt8) (n : Nat) (h : n ≤ s.length) : n ≤ skipE blk s n ∧ skipE blk s n ≤ kindE s n ∧ kindE s n ≤ eqE s n ∧ eqE s n ≤ s.length ∧ (eqE s n < s.length → eqE s n + 1 ≤ valP s n ∧ valP s n ≤ s.length) ∧ n ≤ (partE s n).1 ∧ (partE s n).1 ≤ s.length ∧ ((partE s n).2.2 = true → n < (partE s n).1) := by
  have h1 := skipE_ge blk s n
  have h2 := skipE_le blk s n h
  have h3 := skipE_ge typC s (skipE blk s n)
  have h4 := skipE_le typC s (skipE blk s n) h2
  have h5 := skipE_ge blk s (kindE s n)
  have h6 := skipE_le blk s (kindE s n) h4
  have h7 : eqE s n < s.length → eqE s n + 1 ≤ valP s n ∧ valP s n ≤ s.length := fun hl => ⟨skipE_ge blk s _, skipE_le blk s _ hl⟩
  refine ⟨h1, h3, h5, h6, h7, ?_⟩
  have h3' : skipE blk s n ≤ kindE s n := h3
  have h5' : kindE s n ≤ eqE s n := h5
  have h6' : eqE s n ≤ s.length := h6
  by_cases t1 : typB (typE s n) = false
  · rw [partE_0 t1]; dsimp only; exact ⟨by omega, by omega, fun hh => by cases hh⟩
  · by_cases t2 : eqE s n < s.length ∧ ((s.getD (eqE s n) 0).toNat : Int) = 61
    · have := h7 t2.1
      have h8 := valueE_bd s (valP s n) this.2
      rw [partE_2 (by simpa using t1) t2]; dsimp only; exact ⟨by omega, by omega, fun _ => by omega⟩
    · rw [partE_1 (by simpa using t1) t2]; dsimp only; exact ⟨by omega, by omega, fun hh => by cases hh⟩
/-- The parts of a text, one behind the other; none: one may not be. -/
def partsE : Nat → List UInt8 → Nat → List Ava → Option (List Ava)
  | 0, _, _, _ => none
  | k + 1, s, n, l =>
    if (partE s n).2.2 = false then none
    else if (partE s n).1 < s.length ∧ ((s.getD (partE s n).1 0).toNat : Int) = 44 then partsE k s ((partE s n).1 + 1) (l ++ [(partE s n).2.1])
    else some (l ++ [(partE s n).2.1])
def okA (a : Ava) : Bool := typB a.typ && !(decide (a.val = [])) && decide ((a.val.length : Int) ≤ 64)
def isE (l : List Ava) : Bool := decide ((l.length : Int) ≤ 12) && l.all okA
/-- A text as a name: the parts, the error. -/
def parseE (s : List UInt8) : List Ava × Int :=
  if s = [] then ([], 0)
  else match partsE (s.length + 1) s 0 [] with
    | none => ([], 3)
    | some l => if isE l = true then (l, 0) else ([], 5)
def ixOf (p : Ava → Bool) (l : List Ava) : Int := if l.any p = true then (l.findIdx p : Int) else -1
theorem getD_mem {l : List Ava} {i : Nat} (h : i < l.length) : l.getD i default ∈ l := by
  rw [List.getD_eq_getElem?_getD, List.getElem?_eq_getElem h]; exact List.getElem_mem h
theorem any_snoc {p : Ava → Bool} {l : List Ava} {i : Nat} (h : i < l.length) (h1 : (l.take i).any p = false) (h2 : p (l.getD i default) = false) : (l.take (i + 1)).any p = false := by
  rw [List.take_succ_eq_append_getElem h, List.any_append, h1]
  rw [List.getD_eq_getElem?_getD, List.getElem?_eq_getElem h] at h2
  simpa using h2
theorem ixOf_none {p : Ava → Bool} {l : List Ava} (h : l.any p = false) : ixOf p l = -1 := by unfold ixOf; rw [h]; rfl
theorem ixOf_at {p : Ava → Bool} {l : List Ava} {i : Nat} (h : i < l.length) (h1 : (l.take i).any p = false) (h2 : p (l.getD i default) = true) : ixOf p l = i := by
  have h3 : p l[i] = true := by rw [List.getD_eq_getElem?_getD, List.getElem?_eq_getElem h] at h2; exact h2
  have h4 : l.any p = true := List.any_eq_true.2 ⟨l[i], List.getElem_mem h, h3⟩
  unfold ixOf
  rw [if_pos h4]
  congr 1
  rw [List.findIdx_eq h]
  refine ⟨h3, fun j hj => ?_⟩
  rw [List.any_eq_false] at h1
  have := h1 (l[j]) (List.mem_take_iff_getElem.2 ⟨j, by omega, rfl⟩)
  simpa using this
theorem ixOf_nonneg {p : Ava → Bool} {l : List Ava} : decide (0 ≤ ixOf p l) = l.any p := by
  unfold ixOf
  cases h : l.any p
  · rfl
  · simp
theorem isE_any (l : List Ava) : isE l = (decide ((l.length : Int) ≤ 12) && !l.any (fun a => !okA a)) := by
  unfold isE; rw [List.not_any_eq_all_not]; simp
theorem partE_typ (s : List UInt8) (n : Nat) : (partE s n).2.1.typ.length ≤ s.length := by
  have h : (typE s n).length ≤ s.length := by
    unfold typE; rw [List.length_drop, List.length_take]; omega
  unfold partE
  split
  · exact h
  · split
    · exact h
    · exact h
theorem partsE_no {k : Nat} {s : List UInt8} {n : Nat} {l : List Ava} (h : (partE s n).2.2 = false) : partsE (k + 1) s n l = none := by unfold partsE; rw [if_pos h]
theorem partsE_more {k : Nat} {s : List UInt8} {n : Nat} {l : List Ava} (h : (partE s n).2.2 = true) (h1 : (((partE s n).1 : Nat) : Int) < (s.length : Int) ∧ ((s.getD (partE s n).1 0).toNat : Int) = 44) : partsE (k + 1) s n l = partsE k s ((partE s n).1 + 1) (l ++ [(partE s n).2.1]) := by
  conv => lhs; unfold partsE
  rw [if_neg (by rw [h]; simp), if_pos ⟨by omega, h1.2⟩]
theorem partsE_last {k : Nat} {s : List UInt8} {n : Nat} {l : List Ava} (h : (partE s n).2.2 = true) (h1 : ¬ ((((partE s n).1 : Nat) : Int) < (s.length : Int) ∧ ((s.getD (partE s n).1 0).toNat : Int) = 44)) : partsE (k + 1) s n l = some (l ++ [(partE s n).2.1]) := by
  unfold partsE; rw [if_neg (by rw [h]; simp), if_neg (fun hh => h1 ⟨by omega, hh.2⟩)]
theorem parseE_nil : parseE [] = ([], 0) := rfl
theorem parseE_none {s : List UInt8} (h0 : ¬ s = []) (h : partsE (s.length + 1) s 0 [] = none) : parseE s = ([], 3) := by unfold parseE; rw [if_neg h0, h]
theorem parseE_long {s : List UInt8} {l : List Ava} (h0 : ¬ s = []) (h : partsE (s.length + 1) s 0 [] = some l) (h1 : isE l = false) : parseE s = ([], 5) := by
  unfold parseE; rw [if_neg h0, h]; dsimp only; rw [if_neg (by rw [h1]; simp)]
theorem parseE_some {s : List UInt8} {l : List Ava} (h0 : ¬ s = []) (h : partsE (s.length + 1) s 0 [] = some l) (h1 : isE l = true) : parseE s = (l, 0) := by
  unfold parseE; rw [if_neg h0, h]; dsimp only; rw [if_pos h1]
/-! ### what does not count -/
def lowC (c : UInt8) : UInt8 := if 65 ≤ (c.toNat : Int) ∧ (c.toNat : Int) ≤ 90 then b8 ((c.toNat : Int) + 32) else c
def lastB (b : List UInt8) : UInt8 := b.getD (b.length - 1) 0
def foldStep (b : List UInt8) (c : UInt8) : List UInt8 := if (c.toNat : Int) = 32 ∧ ((b.length : Int) = 0 ∨ ((lastB b).toNat : Int) = 32) then b else b ++ [lowC c]
def trimE (b : List UInt8) : List UInt8 := if 0 < (b.length : Int) ∧ ((lastB b).toNat : Int) = 32 then b.take (b.length - 1) else b
def foldR (s : List UInt8) : List UInt8 := s.foldl foldStep []
def foldE (s : List UInt8) : List UInt8 := trimE (foldR s)
theorem foldStep_len (b : List UInt8) (c : UInt8) : (foldStep b c).length ≤ b.length + 1 := by unfold foldStep; split <;> simp
theorem foldR_take {s : List UInt8} {i : Nat} (h : i < s.length) : foldR (s.take (i + 1)) = foldStep (foldR (s.take i)) (s.getD i 0) := by
  unfold foldR
  rw [List.take_succ_eq_append_getElem h, List.foldl_append, List.getD_eq_getElem?_getD, List.getElem?_eq_getElem h]
  rfl
theorem foldR_len (s : List UInt8) : (foldR s).length ≤ s.length := by
  have : ∀ (s b : List UInt8), (s.foldl foldStep b).length ≤ b.length + s.length := by
    intro s
    induction s with
    | nil => intro b; simp
    | cons c t ih => intro b; have h1 := ih (foldStep b c); have h2 := foldStep_len b c; simp only [List.foldl_cons, List.length_cons]; omega
  simpa [foldR] using this s []
theorem foldE_len (s : List UInt8) : (foldE s).length ≤ s.length := by
  have := foldR_len s
  unfold foldE trimE
  split
  · rw [List.length_take]; omega
  · exact this
theorem lowC_up {c : UInt8} (h : 65 ≤ (c.toNat : Int) ∧ (c.toNat : Int) ≤ 90) : lowC c = b8 ((c.toNat : Int) + 32) := if_pos h
theorem lowC_no {c : UInt8} (h : ¬ (65 ≤ (c.toNat : Int) ∧ (c.toNat : Int) ≤ 90)) : lowC c = c := if_neg h
def normA (a : Ava) : Ava := ⟨foldE a.typ, if foldE a.val ≠ [] ∨ a.val = [] then foldE a.val else [32]⟩
def normE (l : List Ava) : List Ava := l.map normA
def sameE (a b : List Ava) : Bool := decide (normE a = normE b)
def underE (n base : List Ava) : Bool := decide (base.length ≤ n.length) && sameE (n.drop (n.length - base.length)) base
theorem lastB_at (b : List UInt8) : b.getD (((b.length : Nat) : Int) - 1).toNat 0 = lastB b := by
  unfold lastB
  rw [show (((b.length : Nat) : Int) - 1).toNat = b.length - 1 by omega]
theorem foldR_skip {s : List UInt8} {i : Nat} (h : i < s.length) (h1 : ((s.getD i 0).toNat : Int) = 32 ∧ (((foldR (s.take i)).length : Int) = 0 ∨ ((lastB (foldR (s.take i))).toNat : Int) = 32)) : foldR (s.take (i + 1)) = foldR (s.take i) := by
  rw [foldR_take h]; unfold foldStep; rw [if_pos h1]
theorem foldR_put {s : List UInt8} {i : Nat} (h : i < s.length) (h1 : ¬ ((s.getD i 0).toNat : Int) = 32 ∨ ¬ ((foldR (s.take i)).length : Int) = 0 ∧ ¬ ((lastB (foldR (s.take i))).toNat : Int) = 32) : foldR (s.take (i + 1)) = foldR (s.take i) ++ [lowC (s.getD i 0)] := by
  rw [foldR_take h]; unfold foldStep
  rw [if_neg (fun hh => h1.elim (fun k => k hh.1) (fun k => hh.2.elim k.1 k.2))]
theorem foldE_cut {s : List UInt8} (h : 0 < ((foldR s).length : Int) ∧ ((lastB (foldR s)).toNat : Int) = 32) : foldE s = (foldR s).take ((foldR s).length - 1) := if_pos h
theorem foldE_all {s : List UInt8} (h : ¬ 0 < ((foldR s).length : Int) ∨ ¬ ((lastB (foldR s)).toNat : Int) = 32) : foldE s = foldR s := if_neg (nand h)
/-! ### names as texts -/
def hexD : List UInt8 := [48, 49, 50, 51, 52, 53, 54, 55, 56, 57, 97, 98, 99, 100, 101, 102]
/-- A byte of a value as it is printed. -/
def tellC (v : List UInt8) (k : Nat) : List UInt8 :=
  if ((v.getD k 0).toNat : Int) < 32 ∨ 126 < ((v.getD k 0).toNat : Int) then [92] ++ (hexD.take ((((v.getD k 0).toNat : Int) / 16) + 1).toNat).drop (((v.getD k 0).toNat : Int) / 16).toNat ++ (hexD.take ((((v.getD k 0).toNat : Int) % 16) + 1).toNat).drop (((v.getD k 0).toNat : Int) % 16).toNat
  else if 0 ≤ Lib.indexByte spc (v.getD k 0) ∨ ((k : Int) = 0 ∧ (((v.getD k 0).toNat : Int) = 35 ∨ ((v.getD k 0).toNat : Int) = 32)) ∨ ((k : Int) = (v.length : Int) - 1 ∧ ((v.getD k 0).toNat : Int) = 32) then [92, v.getD k 0]
  else [v.getD k 0]
def tellR (v : List UInt8) (k : Nat) : List UInt8 := (List.range k).flatMap (tellC v)
def tellE (v : List UInt8) : List UInt8 := tellR v v.length
def printC (l : List Ava) (i : Nat) : List UInt8 := (if 0 < (i : Int) then [44] else []) ++ ((l.getD i default).typ ++ [61]) ++ tellE (l.getD i default).val
def printR (l : List Ava) (i : Nat) : List UInt8 := (List.range i).flatMap (printC l)
def printE (l : List Ava) : List UInt8 := printR l l.length
theorem tellR_succ (v : List UInt8) (k : Nat) : tellR v (k + 1) = tellR v k ++ tellC v k := by simp [tellR, List.range_succ]
theorem printR_succ (l : List Ava) (i : Nat) : printR l (i + 1) = printR l i ++ printC l i := by simp [printR, List.range_succ]
theorem tellR_zero (v : List UInt8) : tellR v 0 = [] := rfl
theorem printR_zero (l : List Ava) : printR l 0 = [] := rfl
theorem tellC_hex {v : List UInt8} {k : Nat} (h : ((v.getD k 0).toNat : Int) < 32 ∨ 126 < ((v.getD k 0).toNat : Int)) : tellC v k = [92] ++ (hexD.take ((((v.getD k 0).toNat : Int) / 16) + 1).toNat).drop (((v.getD k 0).toNat : Int) / 16).toNat ++ (hexD.take ((((v.getD k 0).toNat : Int) % 16) + 1).toNat).drop (((v.getD k 0).toNat : Int) % 16).toNat := if_pos h
theorem tellC_str {v : List UInt8} {k : Nat} (h : ¬ (((v.getD k 0).toNat : Int) < 32 ∨ 126 < ((v.getD k 0).toNat : Int))) (h1 : 0 ≤ Lib.indexByte spc (v.getD k 0) ∨ ((k : Int) = 0 ∧ (((v.getD k 0).toNat : Int) = 35 ∨ ((v.getD k 0).toNat : Int) = 32)) ∨ ((k : Int) = (v.length : Int) - 1 ∧ ((v.getD k 0).toNat : Int) = 32)) : tellC v k = [92, v.getD k 0] := by
  unfold tellC; rw [if_neg h, if_pos h1]
theorem tellC_one {v : List UInt8} {k : Nat} (h : ¬ (((v.getD k 0).toNat : Int) < 32 ∨ 126 < ((v.getD k 0).toNat : Int))) (h1 : ¬ (0 ≤ Lib.indexByte spc (v.getD k 0) ∨ ((k : Int) = 0 ∧ (((v.getD k 0).toNat : Int) = 35 ∨ ((v.getD k 0).toNat : Int) = 32)) ∨ ((k : Int) = (v.length : Int) - 1 ∧ ((v.getD k 0).toNat : Int) = 32))) : tellC v k = [v.getD k 0] := by
  unfold tellC; rw [if_neg h, if_neg h1]
theorem hexAt_len (n : Int) (h : 0 ≤ n ∧ n ≤ 15) : ((hexD.take (n + 1).toNat).drop n.toNat).length = 1 := by
  rw [List.length_drop, List.length_take]; show min (n + 1).toNat 16 - n.toNat = 1; omega
theorem tellC_len (v : List UInt8) (k : Nat) : (tellC v k).length ≤ 3 := by
  have hc := (v.getD k 0).toNat_lt
  unfold tellC
  split
  · rw [List.length_append, List.length_append, hexAt_len _ (by omega), hexAt_len _ (by omega)]; simp
  · split <;> simp
theorem tellR_len (v : List UInt8) (k : Nat) : (tellR v k).length ≤ 3 * k := by
  induction k with
  | zero => simp [tellR_zero]
  | succ k ih => rw [tellR_succ, List.length_append]; have := tellC_len v k; omega
def wgt : List Ava → Nat
  | [] => 0
  | a :: l => 1 + a.typ.length + a.val.length + wgt l
theorem wgt_take_succ {l : List Ava} {i : Nat} (h : i < l.length) : wgt (l.take (i + 1)) = wgt (l.take i) + (1 + (l.getD i default).typ.length + (l.getD i default).val.length) := by
  have ha : ∀ (a b : List Ava), wgt (a ++ b) = wgt a + wgt b := by
    intro a b
    induction a with
    | nil => simp [wgt]
    | cons x a ih => simp only [List.cons_append, wgt, ih]; omega
  rw [List.take_succ_eq_append_getElem h, ha, List.getD_eq_getElem?_getD, List.getElem?_eq_getElem h]
  simp [wgt]
theorem wgt_take_le (l : List Ava) (i : Nat) : wgt (l.take i) ≤ wgt l := by
  induction l generalizing i with
  | nil => simp [wgt]
  | cons a l ih => cases i with
    | zero => simp [wgt]
    | succ i => simp only [List.take_succ_cons, wgt]; have := ih i; omega
theorem wgt_at {l : List Ava} {i : Nat} (h : i < l.length) : (l.getD i default).typ.length + (l.getD i default).val.length + 1 ≤ wgt l := by
  have h1 := wgt_take_succ h
  have h2 := wgt_take_le l (i + 1)
  omega
theorem wgt_len (l : List Ava) : l.length ≤ wgt l := by
  induction l with
  | nil => simp
  | cons a l ih => simp only [List.length_cons, wgt]; omega
theorem printR_len {l : List Ava} {i : Nat} (h : i ≤ l.length) : (printR l i).length ≤ 3 * wgt (l.take i) := by
  induction i with
  | zero => simp [printR_zero]
  | succ i ih =>
    have h1 := ih (by omega)
    have h2 := wgt_take_succ (l := l) (i := i) (by omega)
    have h3 := tellR_len (l.getD i default).val (l.getD i default).val.length
    rw [printR_succ, List.length_append]
    unfold printC tellE
    have h4 : (if 0 < (i : Int) then [44] else ([] : List UInt8)).length ≤ 1 := by split <;> simp
    simp only [List.length_append, List.length_cons, List.length_nil]
    omega
/-! ### equal rows -/
theorem avaB (a b : Ava) : allB [decide (a.typ = b.typ), decide (a.val = b.val)] = decide (a = b) := by
  by_cases h : a = b
  · subst h; simp [allB]
  · rw [decide_eq_false h]
    by_cases h1 : a.typ = b.typ
    · by_cases h2 : a.val = b.val
      · exact absurd (Ava.ext' h1 h2) h
      · simp [allB, h2]
    · simp [allB, h1]
theorem take_ext {α : Type} [Inhabited α] {l m : List α} {i : Nat} (h : i < l.length) (h' : l.length = m.length) (he : l.take i = m.take i) (hv : l.getD i default = m.getD i default) : l.take (i + 1) = m.take (i + 1) := by
  have h2 : i < m.length := by omega
  rw [List.take_succ_eq_append_getElem h, List.take_succ_eq_append_getElem h2, he]
  rw [List.getD_eq_getElem?_getD, List.getElem?_eq_getElem h, List.getD_eq_getElem?_getD, List.getElem?_eq_getElem h2] at hv
  have hv' : l[i] = m[i] := hv
  rw [hv']
theorem take_all {α : Type} {l m : List α} {i : Nat} (h : ¬ (i : Int) < (l.length : Int)) (h' : l.length = m.length) (he : l.take i = m.take i) : l = m := by
  rwa [List.take_of_length_le (by omega), List.take_of_length_le (by omega)] at he
theorem normE_take {l : List Ava} {i : Nat} (h : i < l.length) : normE (l.take (i + 1)) = normE (l.take i) ++ [normA (l.getD i default)] := by
  unfold normE
  rw [List.take_succ_eq_append_getElem h, List.map_append, List.getD_eq_getElem?_getD, List.getElem?_eq_getElem h]; rfl
theorem wgt_drop (l : List Ava) (k : Nat) : wgt (l.drop k) ≤ wgt l := by
  induction l generalizing k with
  | nil => simp [wgt]
  | cons a l ih => cases k with
    | zero => simp
    | succ k => simp only [List.drop_succ_cons, wgt]; have := ih k; omega
end Go.Dn
set_option linter.unusedVariables false
namespace Go.Dk
open Go.Vk Go.Dn Go.Lib

/-! ### the library's words, byte by byte -/
theorem index_pre (sub s : List UInt8) : index (sub ++ s) sub = 0 := by
  cases h : sub ++ s with
  | nil =>
    have : sub = [] := (List.append_eq_nil_iff.1 h).1
    subst this; rfl
  | cons c r =>
    unfold index
    rw [if_pos]
    rw [← h, List.isPrefixOf_iff_prefix]
    exact List.prefix_append _ _
theorem index_skip {c : UInt8} {r sub : List UInt8} (h : sub.isPrefixOf (c :: r) = false) : index (c :: r) sub = if index r sub = -1 then -1 else index r sub + 1 := by
  conv => lhs; unfold index
  rw [if_neg (by rw [h]; simp)]
  simp only [beq_iff_eq]
theorem index_nil {sub : List UInt8} (h : sub ≠ []) : index [] sub = -1 := by
  unfold index
  rw [if_neg (by simpa using h)]
theorem count_nil {sub : List UInt8} (h : sub ≠ []) : count [] sub = 0 := count_miss (index_nil h)
theorem count_pre {sub : List UInt8} (h : sub ≠ []) (s : List UInt8) : count (sub ++ s) sub = 1 + count s sub := by
  rw [count_hit (i := 0) h (index_pre sub s), Nat.zero_add, List.drop_left]
theorem count_skip {c : UInt8} {r sub : List UInt8} (hs : sub ≠ []) (h : sub.isPrefixOf (c :: r) = false) : count (c :: r) sub = count r sub := by
  have hi := index_skip h
  by_cases hm : index r sub = -1
  · rw [if_pos hm] at hi
    rw [count_miss hi, count_miss hm]
  · rw [if_neg hm] at hi
    have hge := index_ge r sub
    have h1 : index r sub = ((index r sub).toNat : Nat) := by omega
    have h2 : index (c :: r) sub = (((index r sub).toNat + 1 : Nat) : Int) := by omega
    rw [count_hit hs h1, count_hit hs h2, show (index r sub).toNat + 1 + sub.length = ((index r sub).toNat + sub.length) + 1 by omega, List.drop_succ_cons]
theorem rep_def {old new : List UInt8} (h : old ≠ new) (s : List UInt8) : replaceAll s old new = replaceK old new (count s old) s := by
  unfold replaceAll replace replaceNum
  rw [if_neg (by simpa using h), if_pos (.inl (by decide))]
theorem rep_nil {old new : List UInt8} (h : old ≠ new) (ho : old ≠ []) : replaceAll [] old new = [] := by
  rw [rep_def h, count_nil ho]; rfl
theorem rep_pre {old new : List UInt8} (h : old ≠ new) (ho : old ≠ []) (s : List UInt8) : replaceAll (old ++ s) old new = new ++ replaceAll s old new := by
  rw [rep_def h, rep_def h, count_pre ho, Nat.add_comm 1, replaceK_hit old new _ _ 0 (index_pre old s), Nat.zero_add, List.drop_left]
  simp
theorem rep_skip {old new : List UInt8} (h : old ≠ new) (ho : old ≠ []) {c : UInt8} {r : List UInt8} (hp : old.isPrefixOf (c :: r) = false) : replaceAll (c :: r) old new = c :: replaceAll r old new := by
  rw [rep_def h, rep_def h, count_skip ho hp]
  cases hk : count r old with
  | zero => rfl
  | succ k =>
    obtain ⟨i, hi⟩ := index_of_count (s := r) (old := old) (by omega)
    have hi2 := index_skip hp
    rw [if_neg (by omega), hi] at hi2
    have hi3 : index (c :: r) old = ((i + 1 : Nat) : Int) := by rw [hi2]; omega
    rw [replaceK_hit old new k r i hi, replaceK_hit old new k (c :: r) (i + 1) hi3, show i + 1 + old.length = (i + old.length) + 1 by omega, List.drop_succ_cons, List.take_succ_cons]
    rfl
theorem cut_pre {sep : List UInt8} (s : List UInt8) : cut (sep ++ s) sep = ([], s, true) := by
  unfold cut
  rw [index_pre, if_pos (by decide)]
  simp
theorem cut_skip {sep : List UInt8} {c : UInt8} {r : List UInt8} (hp : sep.isPrefixOf (c :: r) = false) : cut (c :: r) sep = (c :: (cut r sep).1, (cut r sep).2.1, (cut r sep).2.2) := by
  have hi := index_skip hp
  have hge := index_ge r sep
  unfold cut
  by_cases hm : index r sep = -1
  · rw [if_pos hm] at hi
    rw [if_neg (by omega), if_neg (by omega)]
  · rw [if_neg hm] at hi
    rw [if_pos (by omega), if_pos (by omega)]
    have e : (index (c :: r) sep).toNat = (index r sep).toNat + 1 := by omega
    rw [e, show (index r sep).toNat + 1 + sep.length = ((index r sep).toNat + sep.length) + 1 by omega, List.drop_succ_cons, List.take_succ_cons]
theorem cut_nil {sep : List UInt8} (h : sep ≠ []) : cut [] sep = ([], [], false) := by
  unfold cut
  rw [index_nil h, if_neg (by decide)]
theorem cut_len {sep : List UInt8} (h : sep ≠ []) (s : List UInt8) (hs : s ≠ []) : (cut s sep).2.1.length < s.length := by
  have h1 : 0 < s.length := List.length_pos_iff.2 hs
  have h2 : 0 < sep.length := List.length_pos_iff.2 h
  unfold cut
  split
  · simp only [List.length_drop]; omega
  · simpa using h1
theorem cut_len1 (sep s : List UInt8) : (cut s sep).1.length ≤ s.length := by
  unfold cut
  split
  · simp only [List.length_take]; omega
  · exact Nat.le_refl _

/-! ### what is marked -/
def esc : List UInt8 → List UInt8
  | [] => []
  | c :: r => if c = 0 then 0 :: 255 :: esc r else c :: esc r
def unesc (v : List UInt8) : List UInt8 := replaceAll v [0, 255] [0]
theorem esc_rep : ∀ s : List UInt8, replaceAll s [0] [0, 255] = esc s
  | [] => rep_nil (by decide) (by decide)
  | c :: r => by
    unfold esc
    by_cases h : c = 0
    · subst h
      rw [if_pos rfl, ← esc_rep r]
      exact rep_pre (old := [0]) (by decide) (by decide) r
    · rw [if_neg h, ← esc_rep r]
      exact rep_skip (by decide) (by decide) (by simp [List.isPrefixOf, Ne.symm h])
theorem esc_len : ∀ s : List UInt8, (esc s).length ≤ 2 * s.length
  | [] => by simp [esc]
  | c :: r => by
    have := esc_len r
    unfold esc
    split <;> simp only [List.length_cons] <;> omega
theorem esc_app (s t : List UInt8) : esc (s ++ t) = esc s ++ esc t := by
  induction s with
  | nil => rfl
  | cons c r ih =>
    simp only [List.cons_append, esc, ih]
    split <;> rfl
theorem esc_take {s : List UInt8} {i : Nat} (h : i < s.length) : esc (s.take (i + 1)) = esc (s.take i) ++ (if s.getD i 0 = 0 then [0, 255] else [s.getD i 0]) := by
  rw [List.take_succ_eq_append_getElem h, esc_app]
  congr 1
  have e : s.getD i 0 = s[i] := by simp [List.getD_eq_getElem?_getD, List.getElem?_eq_getElem h]
  rw [e]
  unfold esc
  split <;> rfl
theorem unesc_esc : ∀ v : List UInt8, unesc (esc v) = v
  | [] => rep_nil (by decide) (by decide)
  | c :: r => by
    have ih := unesc_esc r
    unfold unesc at ih ⊢
    unfold esc
    by_cases h : c = 0
    · subst h
      rw [if_pos rfl]
      exact (rep_pre (old := [0, 255]) (by decide) (by decide) (esc r)).trans (by rw [ih]; rfl)
    · rw [if_neg h, rep_skip (by decide) (by decide) (by simp [List.isPrefixOf, Ne.symm h]), ih]
theorem unesc_len (v : List UInt8) : (unesc v).length ≤ v.length := by
  unfold unesc
  induction h : v.length using Nat.strongRecOn generalizing v with
  | _ n ih =>
    subst h
    cases v with
    | nil => rw [rep_nil (by decide) (by decide)]; exact Nat.le_refl _
    | cons c r =>
      by_cases hp : ([0, 255] : List UInt8).isPrefixOf (c :: r) = true
      · obtain ⟨t, ht⟩ := List.isPrefixOf_iff_prefix.1 hp
        have hl : (c :: r).length = t.length + 2 := by rw [← ht]; simp
        rw [← ht, rep_pre (by decide) (by decide)]
        have := ih t.length (by omega) t rfl
        simp only [List.length_append, List.length_cons, List.length_nil]; omega
      · rw [rep_skip (by decide) (by decide) (Bool.eq_false_iff.2 hp)]
        have := ih r.length (by simp) r rfl
        simp only [List.length_cons]; omega

/-! ### keys -/
def keyA (a : Ava) : List UInt8 := a.typ ++ 61 :: (esc a.val ++ [0, 1])
def keysOf (l : List Ava) : List UInt8 := l.flatMap keyA
def keyE (l : List Ava) : List UInt8 := keysOf (normE l).reverse
theorem keysOf_nil : keysOf [] = [] := rfl
theorem keysOf_cons (a : Ava) (l : List Ava) : keysOf (a :: l) = keyA a ++ keysOf l := rfl
theorem keysOf_app (l m : List Ava) : keysOf (l ++ m) = keysOf l ++ keysOf m := by simp [keysOf]
theorem keyA_len (a : Ava) : (keyA a).length ≤ a.typ.length + 2 * a.val.length + 3 := by
  have := esc_len a.val
  simp only [keyA, List.length_append, List.length_cons, List.length_nil]; omega
theorem keysOf_len : ∀ l : List Ava, (keysOf l).length ≤ 3 * wgt l
  | [] => by simp [keysOf]
  | a :: l => by
    have h1 := keysOf_len l
    have h2 := keyA_len a
    rw [keysOf_cons, List.length_append, wgt]; omega
/-- A type has no nought and no sign of equality. -/
def Cl (t : List UInt8) : Prop := ∀ c ∈ t, c ≠ 0 ∧ c ≠ 61
theorem cut_clean {t : List UInt8} (h : Cl t) (s : List UInt8) (sep : List UInt8) (hs : sep = [0, 1] ∨ sep = [61]) : cut (t ++ s) sep = (t ++ (cut s sep).1, (cut s sep).2.1, (cut s sep).2.2) := by
  induction t with
  | nil => rfl
  | cons c r ih =>
    have hc := h c (by simp)
    have ih' := ih (fun x hx => h x (by simp [hx]))
    rw [List.cons_append, cut_skip, ih']
    · rfl
    · rcases hs with rfl | rfl <;> simp [List.isPrefixOf, Ne.symm hc.1, Ne.symm hc.2]
theorem cut_esc : ∀ (v r : List UInt8), cut (esc v ++ 0 :: 1 :: r) [0, 1] = (esc v, r, true)
  | [], r => cut_pre (sep := [0, 1]) r
  | c :: v, r => by
    have ih := cut_esc v r
    unfold esc
    by_cases h : c = 0
    · subst h
      rw [if_pos rfl, List.cons_append, List.cons_append, cut_skip (by simp [List.isPrefixOf]), cut_skip (by simp [List.isPrefixOf]), ih]
    · rw [if_neg h, List.cons_append, cut_skip (by simp [List.isPrefixOf, Ne.symm h]), ih]
theorem cut_skipN {sep : List UInt8} {c : UInt8} {r : List UInt8} (hp : sep.isPrefixOf (c :: r) = false) (x : List UInt8 × List UInt8 × Bool) (h : cut r sep = x) : cut (c :: r) sep = (c :: x.1, x.2.1, x.2.2) := by rw [cut_skip hp, h]
theorem cut_key {a : Ava} (h : Cl a.typ) (r : List UInt8) : cut (keyA a ++ r) [0, 1] = (a.typ ++ 61 :: esc a.val, r, true) := by
  have e : keyA a ++ r = a.typ ++ 61 :: (esc a.val ++ 0 :: 1 :: r) := by simp [keyA]
  rw [e, cut_clean h _ _ (.inl rfl), cut_skipN (by simp [List.isPrefixOf]) _ (cut_esc a.val r)]
theorem cut_part {t : List UInt8} (h : Cl t) (v : List UInt8) : cut (t ++ 61 :: v) [61] = (t, v, true) := by
  rw [cut_clean h _ _ (.inr rfl), show (61 : UInt8) :: v = [61] ++ v from rfl, cut_pre]
  simp

/-! ### a key is read back: the program's way -/
def parseP (s : List UInt8) : Option (List Ava) :=
  if s = [] then some []
  else if h : (cut s [0, 1]).2.1.length < s.length then
    if (cut s [0, 1]).2.2 = true ∧ (cut (cut s [0, 1]).1 [61]).2.2 = true then (parseP (cut s [0, 1]).2.1).map (⟨(cut (cut s [0, 1]).1 [61]).1, unesc (cut (cut s [0, 1]).1 [61]).2.1⟩ :: ·) else none
  else none
termination_by s.length
theorem parseP_nil : parseP [] = some [] := by rw [parseP, if_pos rfl]
theorem parseP_step {s : List UInt8} (h : s ≠ []) : parseP s = if (cut s [0, 1]).2.2 = true ∧ (cut (cut s [0, 1]).1 [61]).2.2 = true then (parseP (cut s [0, 1]).2.1).map (⟨(cut (cut s [0, 1]).1 [61]).1, unesc (cut (cut s [0, 1]).1 [61]).2.1⟩ :: ·) else none := by
  rw [parseP, if_neg h, dif_pos (cut_len (by decide) s h)]
theorem parseP_key {a : Ava} (h : Cl a.typ) (r : List UInt8) : parseP (keyA a ++ r) = (parseP r).map (a :: ·) := by
  rw [parseP_step (by simp [keyA]), cut_key h, cut_part h, if_pos ⟨rfl, rfl⟩]
  dsimp only
  rw [unesc_esc]
theorem parseP_keys : ∀ {l : List Ava}, (∀ a ∈ l, Cl a.typ) → parseP (keysOf l) = some l
  | [], _ => parseP_nil
  | a :: l, h => by
    rw [keysOf_cons, parseP_key (h a (by simp)), parseP_keys (fun x hx => h x (by simp [hx]))]
    rfl
def backP (s : List UInt8) : Option (List Ava) := (parseP s).bind fun l => if isE l.reverse = true ∧ keyE l.reverse = s then some l.reverse else none

/-! ### the document's way -/
def pt (b : List UInt8) : Option Ava := if (cut b [61]).2.2 = true then some ⟨(cut b [61]).1, (cut b [61]).2.1⟩ else none
def parseD : List UInt8 → List UInt8 → List Ava → Option (List Ava)
  | [], b, n => if b = [] then some n else none
  | c :: r, b, n => if c ≠ 0 then parseD r (b ++ [c]) n else
    match r with
    | [] => none
    | x :: r' => if x = 255 then parseD r' (b ++ [0]) n else if x = 1 then (match pt b with | none => none | some a => parseD r' [] (a :: n)) else none
theorem parseD_nil (b : List UInt8) (n : List Ava) : parseD [] b n = if b = [] then some n else none := by rw [parseD.eq_def]
theorem parseD_ne {c : UInt8} (h : c ≠ 0) (r b : List UInt8) (n : List Ava) : parseD (c :: r) b n = parseD r (b ++ [c]) n := by rw [parseD.eq_def]; exact if_pos h
theorem parseD_end (b : List UInt8) (n : List Ava) : parseD [0] b n = none := by rw [parseD.eq_def]; rfl
theorem parseD_255 (r b : List UInt8) (n : List Ava) : parseD (0 :: 255 :: r) b n = parseD r (b ++ [0]) n := by rw [parseD.eq_def]; rfl
theorem parseD_1 (r b : List UInt8) (n : List Ava) : parseD (0 :: 1 :: r) b n = (pt b).bind fun a => parseD r [] (a :: n) := by
  rw [parseD.eq_def]
  show (match pt b with | none => none | some a => parseD r [] (a :: n)) = _
  cases pt b <;> rfl
theorem parseD_x {x : UInt8} (h1 : x ≠ 255) (h2 : x ≠ 1) (r b : List UInt8) (n : List Ava) : parseD (0 :: x :: r) b n = none := by
  rw [parseD.eq_def]
  show (if x = 255 then parseD r (b ++ [0]) n else if x = 1 then (match pt b with | none => none | some a => parseD r [] (a :: n)) else none) = none
  rw [if_neg h1, if_neg h2]
theorem parseD_clean {t : List UInt8} (h : Cl t) (s b : List UInt8) (n : List Ava) : parseD (t ++ s) b n = parseD s (b ++ t) n := by
  induction t generalizing b with
  | nil => simp
  | cons c r ih =>
    have hc := h c (by simp)
    rw [List.cons_append, parseD_ne hc.1, ih (fun x hx => h x (by simp [hx]))]
    simp
theorem parseD_esc (v s b : List UInt8) (n : List Ava) : parseD (esc v ++ s) b n = parseD s (b ++ v) n := by
  induction v generalizing b with
  | nil => simp [esc]
  | cons c r ih =>
    unfold esc
    by_cases h : c = 0
    · subst h
      rw [if_pos rfl, List.cons_append, List.cons_append, parseD_255, ih]
      simp
    · rw [if_neg h, List.cons_append, parseD_ne h, ih]
      simp
theorem parseD_key {a : Ava} (h : Cl a.typ) (r : List UInt8) (n : List Ava) : parseD (keyA a ++ r) [] n = parseD r [] (a :: n) := by
  have e : keyA a ++ r = a.typ ++ 61 :: (esc a.val ++ 0 :: 1 :: r) := by simp [keyA]
  have hp : pt (a.typ ++ [61] ++ a.val) = some a := by
    unfold pt
    rw [List.append_assoc, List.singleton_append, cut_part h, if_pos rfl]
  rw [e, parseD_clean h, List.nil_append, parseD_ne (by decide), parseD_esc, parseD_1, hp]
  rfl
theorem parseD_keys : ∀ {l : List Ava} (n : List Ava), (∀ a ∈ l, Cl a.typ) → parseD (keysOf l) [] n = some (l.reverse ++ n)
  | [], n, _ => by rw [keysOf_nil, parseD_nil]; simp
  | a :: l, n, h => by
    rw [keysOf_cons, parseD_key (h a (by simp)), parseD_keys (a :: n) (fun x hx => h x (by simp [hx]))]
    simp
def backD (s : List UInt8) : Option (List Ava) := (parseD s [] []).bind fun l => if isE l = true ∧ keyE l = s then some l else none
end Go.Dk
set_option maxRecDepth 8000
set_option linter.unusedVariables false
namespace Go.Proofs.YtphakclfahianaaDoor
open Go.Vk
attribute [local irreducible] HT HX RegS RegA RegM OpP OpC AltT
theorem xIndexByteString (l : List UInt8) (c : UInt8) : XFn Tryd.prog 61 [Is (str l), okI .u8 (c.toNat : Int)] (okI .i64 (Lib.indexByte l c)) := by
  refine XFn.same Tryd.func61 rfl rfl rfl (e := Extern.BytealgIndexByte.indexByte) rfl ?_
  rintro vs w G hs ha
  match vs, ha with
  | [v, u], ⟨h1, h2, _⟩ =>
    cases h1; cases h2
    refine ⟨_, Lib.run_indexByteString _ _ w, ?_⟩
    have : ((c.toNat : Int).toNat.toUInt8) = c := by simp
    rw [this]; rfl
theorem slIndexByte (l : List UInt8) (c : UInt8) : CFn Tryd.prog 55 [Is (str l), okI .u8 (c.toNat : Int)] (okI .i64 (Lib.indexByte l c)) := by
  have c1 := @xIndexByteString
  refine CallsC.of Tryd.call55 Tryd.func55 rfl Tryd.ntmps55 rfl fun w0 G0 S0 hs ho => ?_
  exact run trivial
end Go.Proofs.YtphakclfahianaaDoor
set_option maxRecDepth 8000
set_option linter.unusedVariables false
namespace Go.Proofs.YtphakclfahianaaDoor
open Go.Vk
attribute [local irreducible] HT HX RegS RegA RegM OpP OpC AltT
theorem dnLetter (c : UInt8) : CFn Tryd.prog 53 [okI .u8 (c.toNat : Int)] (Is (.bool (Dn.letB c))) := by
  refine CallsC.of Tryd.call53 Tryd.func53 rfl Tryd.ntmps53 rfl fun w0 G0 S0 hs ho => ?_
  exact run trivial
theorem dnDigit (c : UInt8) : CFn Tryd.prog 54 [okI .u8 (c.toNat : Int)] (Is (.bool (Dn.digB c))) := by
  refine CallsC.of Tryd.call54 Tryd.func54 rfl Tryd.ntmps54 rfl fun w0 G0 S0 hs ho => ?_
  exact run trivial
theorem dnType (s : List UInt8) (hl : s.length ≤ 4611686018427387904) : CFn Tryd.prog 44 [Is (str s)] (Is (.bool (Dn.typB s))) := by
  have c1 := dnLetter
  have c2 := dnDigit
  refine CallsC.of Tryd.call44 Tryd.func44 rfl Tryd.ntmps44 rfl fun w0 G0 S0 hs ho => ?_
  refine run ?_
  refine ⟨?_, ?_⟩
  · intro h
    refine Dn.false_of fun hb => ?_
    have h1 := (Dn.typB_iff s).1 hb
    rw [Dn.letB_iff, ← List.length_eq_zero_iff] at *
    omega
  · intro h1
    refine HT.loopX (σ := Nat) [0, 19] (fun i => [(20, okI .i64 (i : Int))]) (fun _ => []) (fun i => i ≤ s.length ∧ (s.take i).all Dn.typC = true) (fun i => s.length - i) 0 ⟨Nat.zero_le _, by simp⟩ (run trivial) (run trivial) ?_
    rintro i ⟨hi, hall⟩
    refine run ?_
    refine ⟨fun h2 h3 => ?_, fun h2 h3 => ?_, fun h2 => ?_⟩
    · refine Dn.false_of fun hb => ?_
      have := (Dn.typC_iff _).1 (Dn.all_get (i := i) (by omega) ((Dn.typB_iff s).1 hb).2)
      omega
    · exact HX.roundX (i + 1) ⟨⟨by omega, Dn.all_take_snoc (by omega) hall ((Dn.typC_iff _).2 (by omega))⟩, by omega⟩ rfl (run trivial) (run trivial)
    · rw [List.take_of_length_le (by omega)] at hall
      refine ((Dn.typB_iff s).2 ⟨?_, hall⟩).symm
      rw [Dn.letB_iff]
      rw [← List.length_eq_zero_iff] at h1
      omega
end Go.Proofs.YtphakclfahianaaDoor
set_option maxRecDepth 8000
set_option linter.unusedVariables false
namespace Go.Proofs.YtphakclfahianaaDoor
open Go.Vk
attribute [local irreducible] HT HX RegS RegA RegM OpP OpC AltT
end Go.Proofs.YtphakclfahianaaDoor
set_option maxRecDepth 8000
set_option linter.unusedVariables false
namespace Go.Proofs.YtphakclfahianaaDoor
open Go.Vk
attribute [local irreducible] HT HX RegS RegA RegM OpP OpC AltT
end Go.Proofs.YtphakclfahianaaDoor
set_option maxRecDepth 8000
set_option linter.unusedVariables false
namespace Go.Proofs.YtphakclfahianaaDoor
open Go.Vk
attribute [local irreducible] HT HX RegS RegA RegM OpP OpC AltT
end Go.Proofs.YtphakclfahianaaDoor
set_option maxRecDepth 8000
set_option linter.unusedVariables false
namespace Go.Proofs.YtphakclfahianaaDoor
open Go.Vk
attribute [local irreducible] HT HX RegS RegA RegM OpP OpC AltT
theorem toN1 (m : Nat) : (((m : Nat) : Int) + 1).toNat = m + 1 := by omega
theorem dnIs1 (a : Dn.Ava) (h : a.typ.length ≤ 1152921504606846976) : CFn Tryd.prog 43 [TAgg (Dn.cAva a)] (Is (.bool (!Dn.okA a))) := by
  have c1 := dnType
  refine CallsC.of Tryd.call43 Tryd.func43 rfl Tryd.ntmps43 rfl fun w0 G0 S0 hs ho => ?_
  refine run ?_
  unfold Dn.okA
  by_cases h1 : (64 : Int) < (a.val.length : Int)
  · have h2 : ¬ (a.val.length : Int) ≤ 64 := by omega
    simp [h1, h2]
  · have h2 : (a.val.length : Int) ≤ 64 := by omega
    simp [h1, h2]
theorem ixFunc {f : FuncId} {Cs : List Ty} (l : List Dn.Ava) (p : Dn.Ava → Bool) (hl : l.length ≤ 1152921504606846976) (cf : ∀ a ∈ l, CFn Tryd.prog f ([TAgg (Dn.cAva a)] ++ Cs) (Is (.bool (p a)))) : CFn Tryd.prog 52 [TSl 2 Dn.cAva l, TFn f Cs] (okI .i64 (Dn.ixOf p l)) := by
  refine CallsC.of Tryd.call52 Tryd.func52 rfl Tryd.ntmps52 rfl fun w0 G0 S0 hs ho => ?_
  refine run ?_
  refine HT.loopX (σ := Nat) [0, 1, 7] (fun i => [(8, okI .i64 (i : Int))]) (fun i => []) (fun i => i ≤ l.length ∧ (l.take i).any p = false) (fun i => l.length - i) 0 ⟨by omega, by simp⟩ (run trivial) (run trivial) ?_
  rintro i ⟨hi, hp⟩
  have cf' := fun (hlt : i < l.length) => cf (l.getD i default) (Dn.getD_mem hlt)
  clear cf
  refine run ?_
  refine ⟨fun h1 h2 => ?_, fun h1 h2 => ?_, fun h1 => ?_⟩
  · exact (Dn.ixOf_at (by omega) hp h2).symm
  · exact HX.roundX (i + 1) ⟨⟨by omega, Dn.any_snoc (by omega) hp h2⟩, by omega⟩ rfl (run trivial) (run trivial)
  · exact (Dn.ixOf_none (by rwa [List.take_of_length_le (by omega)] at hp)).symm
theorem anyFunc {f : FuncId} {Cs : List Ty} (l : List Dn.Ava) (p : Dn.Ava → Bool) (hl : l.length ≤ 1152921504606846976) (cf : ∀ a ∈ l, CFn Tryd.prog f ([TAgg (Dn.cAva a)] ++ Cs) (Is (.bool (p a)))) : CFn Tryd.prog 42 [TSl 2 Dn.cAva l, TFn f Cs] (Is (.bool (l.any p))) := by
  have c1 := ixFunc l p hl cf
  refine CallsC.of Tryd.call42 Tryd.func42 rfl Tryd.ntmps42 rfl fun w0 G0 S0 hs ho => ?_
  refine run ?_
  exact Dn.ixOf_nonneg
theorem dnIsF (l : List Dn.Ava) (hl : l.length ≤ 1152921504606846976) (ha : ∀ a ∈ l, a.typ.length ≤ 1152921504606846976) : CFn Tryd.prog 31 [TSl 2 Dn.cAva l] (Is (.bool (Dn.isE l))) := by
  have c1 := anyFunc (f := 43) (Cs := []) l (fun a => !Dn.okA a) hl (fun a h => dnIs1 a (ha a h))
  refine CallsC.of Tryd.call31 Tryd.func31 rfl Tryd.ntmps31 rfl fun w0 G0 S0 hs ho => ?_
  refine run ?_
  exact (Dn.isE_any l).symm
end Go.Proofs.YtphakclfahianaaDoor
set_option maxRecDepth 8000
set_option linter.unusedVariables false
namespace Go.Proofs.YtphakclfahianaaDoor
open Go.Vk
attribute [local irreducible] HT HX RegS RegA RegM OpP OpC AltT
attribute [local irreducible] Dn.partE Dn.isE Dn.parseE
end Go.Proofs.YtphakclfahianaaDoor
set_option maxRecDepth 8000
set_option linter.unusedVariables false
namespace Go.Proofs.YtphakclfahianaaDoor
open Go.Vk
attribute [local irreducible] HT HX RegS RegA RegM OpP OpC AltT
attribute [local irreducible] Dn.foldR Dn.foldE
theorem subN1 (n : Nat) : (((n : Nat) : Int) - 1).toNat = n - 1 := by omega
set_option maxHeartbeats 2000000 in
theorem dnFold (s : List UInt8) (hs : s.length ≤ 134217728) : CFn Tryd.prog 38 [Is (str s)] (Is (str (Dn.foldE s))) := by
  refine CallsC.of Tryd.call38 Tryd.func38 rfl Tryd.ntmps38 rfl fun w0 G0 S0 hs ho => ?_
  refine run ?_
  refine HT.loopX (σ := Nat × Value) [0, 2, 8] (fun t => [(3, TAnd (Is t.2) (TBytes (Dn.foldR (s.take t.1)))), (9, okI .i64 (t.1 : Int))]) (fun t => [ownSl t.2 1 5]) (fun t => t.1 ≤ s.length) (fun t => s.length - t.1) (0, .slice none 0 0) (Nat.zero_le _) (run trivial) (run ?_) ?_
  · unfold Dn.foldR; rfl
  rintro ⟨i, v⟩ hi
  dsimp only at hi ⊢
  have hl := Dn.foldR_len (s.take i)
  have hl2 : (s.take i).length = i := by rw [List.length_take]; omega
  refine run ?_
  and_intros
  all_goals intros
  all_goals try simp only [Dn.lastB_at] at *
  · rename_i h1
    refine HX.roundX (i + 1, v) ⟨by dsimp only; omega, by dsimp only; omega⟩ rfl (run trivial) (run ?_)
    rw [Dn.foldR_skip (by omega) h1]
  · rename_i v' _ h1 h2
    refine HX.roundX (i + 1, v') ⟨by dsimp only; omega, by dsimp only; omega⟩ rfl (run trivial) (run ?_)
    rw [Dn.foldR_put (by omega) (by assumption), Dn.lowC_up (by assumption)]
  · rename_i v' _ h1 h2
    refine HX.roundX (i + 1, v') ⟨by dsimp only; omega, by dsimp only; omega⟩ rfl (run trivial) (run ?_)
    rw [Dn.foldR_put (by omega) (by assumption), Dn.lowC_no (Dn.nand (by assumption))]
  · rename_i h1
    rw [List.take_of_length_le (show s.length ≤ i by omega)] at *
    rw [Dn.foldE_cut h1, subN1]
  · rename_i h1
    rw [List.take_of_length_le (show s.length ≤ i by omega)] at *
    rw [Dn.foldE_all h1]
attribute [local irreducible] Dn.normE Dn.normA Dn.sameE Dn.underE
set_option maxHeartbeats 2000000 in
theorem dnNorm (l : List Dn.Ava) (hl : Dn.wgt l ≤ 1048576) : CFn Tryd.prog 25 [TSl 2 Dn.cAva l] (TSl 2 Dn.cAva (Dn.normE l)) := by
  have hw := Dn.wgt_len l
  have c1 := dnFold
  refine CallsC.of Tryd.call25 Tryd.func25 rfl Tryd.ntmps25 rfl fun w0 G0 S0 hs ho => ?_
  refine run ?_
  refine HT.loopX (σ := Nat × Value) [2, 7, 8] (fun t => [(3, TAnd (Is t.2) (TSl 2 Dn.cAva (Dn.normE (l.take t.1)))), (9, okI .i64 (t.1 : Int))]) (fun t => [ownSl t.2 2 37]) (fun t => t.1 ≤ l.length) (fun t => l.length - t.1) (0, .slice none 0 0) (Nat.zero_le _) (run trivial) (run ?_) ?_
  · unfold Dn.normE; rfl
  rintro ⟨i, v⟩ hi
  dsimp only at hi ⊢
  have hl2 : (Dn.normE (l.take i)).length = i := by unfold Dn.normE; rw [List.length_map, List.length_take]; omega
  by_cases hlt : i < l.length
  · have h3 := Dn.wgt_at hlt
    have hn := Dn.normE_take hlt
    refine run ?_
    and_intros
    all_goals intros
    · rename_i v' _ h4
      refine HX.roundX (i + 1, v') ⟨by dsimp only; omega, by dsimp only; omega⟩ rfl (run trivial) (run ?_)
      rw [hn, List.map_append]; unfold Dn.normA; rw [if_pos h4]; rfl
    · rename_i v' _ h4
      refine HX.roundX (i + 1, v') ⟨by dsimp only; omega, by dsimp only; omega⟩ rfl (run trivial) (run ?_)
      rw [hn, List.map_append]; unfold Dn.normA; rw [if_neg (by simpa using h4)]; rfl
  · refine run ?_
    intro _
    rw [List.take_of_length_le (by omega)]
end Go.Proofs.YtphakclfahianaaDoor
set_option maxRecDepth 8000
set_option linter.unusedVariables false
namespace Go.Proofs.YtphakclfahianaaDoor
open Go.Vk
attribute [local irreducible] HT HX RegS RegA RegM OpP OpC AltT
/-- A Builder that holds l. -/
abbrev BX (g : Nat) (l : List UInt8) : Res := packR fun b : Bool => [packR fun v : Value => [ownP g 42 [Is (selfP g b), TAnd (Is v) (TBytes l)], ownSl v 1 5]]
theorem xNoEscape (v : Value) : XFn Tryd.prog 48 [Is v] (Is v) := by
  refine XFn.same Tryd.func48 rfl rfl rfl (e := Extern.AbiNoEscape.same) rfl ?_
  rintro vs w G hs ha
  match vs, ha with
  | [v], ⟨h1, _⟩ => cases h1; exact ⟨_, rfl, rfl⟩
theorem bldCheck (g : Nat) (b : Bool) (v : Value) (l : List UInt8) : CallsC Tryd.prog 39 [Is (pAt g 0)] [ownP g 42 [Is (selfP g b), TAnd (Is v) (TBytes l)]] (fun _ => TTup []) (fun _ => [ownP g 42 [Is (pAt g 0), TAnd (Is v) (TBytes l)]]) := by
  have c1 := xNoEscape
  cases b
  · show CallsC Tryd.prog 39 [Is (pAt g 0)] [ownP g 42 [Is (.pointer none), TAnd (Is v) (TBytes l)]] (fun _ => TTup []) (fun _ => [ownP g 42 [Is (pAt g 0), TAnd (Is v) (TBytes l)]])
    refine CallsC.of Tryd.call39 Tryd.func39 rfl Tryd.ntmps39 rfl fun w0 G0 S0 hs ho => ?_
    exact run trivial
  · show CallsC Tryd.prog 39 [Is (pAt g 0)] [ownP g 42 [Is (pAt g 0), TAnd (Is v) (TBytes l)]] (fun _ => TTup []) (fun _ => [ownP g 42 [Is (pAt g 0), TAnd (Is v) (TBytes l)]])
    refine CallsC.of Tryd.call39 Tryd.func39 rfl Tryd.ntmps39 rfl fun w0 G0 S0 hs ho => ?_
    exact run trivial
theorem bldStr (g : Nat) (l m : List UInt8) (hl : l.length + m.length ≤ 134217728) : CallsC Tryd.prog 26 [Is (pAt g 0), Is (str m)] [BX g l] (fun _ => TTup [okI .i64 (m.length : Int), Is .nilIface]) (fun _ => [BX g (l ++ m)]) := by
  have c1 := bldCheck
  refine CallsC.of Tryd.call26 Tryd.func26 rfl Tryd.ntmps26 rfl fun w0 G0 S0 hs ho => ?_
  refine HT.unpack 0 rfl fun b => HT.unpack 1 rfl fun v => ?_
  exact run trivial
theorem bldOut (g : Nat) (l : List UInt8) (hl : l.length ≤ 134217728) : CallsC Tryd.prog 27 [Is (pAt g 0)] [BX g l] (fun _ => Is (str l)) (fun _ => [empR]) := by
  have pl := Plan.mk' 1 [(0,3,[]),(1,3,[]),(2,3,[]),(3,2,[2]),(4,2,[3]),(5,3,[]),(6,3,[]),(7,3,[]),(8,2,[2]),(9,3,[]),(10,0,[2]),(11,3,[])]
  refine CallsC.of Tryd.call27 Tryd.func27 rfl Tryd.ntmps27 rfl fun w0 G0 S0 hs ho => ?_
  refine HT.unpack 0 rfl fun b => HT.unpack 1 rfl fun v => ?_
  exact run trivial
end Go.Proofs.YtphakclfahianaaDoor
