/-
  The stable sort of the slices package on plain lists: what each of its functions makes, and that the whole sorts. Nothing here speaks of a program; no conditions.
  The stable sort of the slices package on plain lists, second part: merging in place, and the whole. Nothing here speaks of a program; no conditions.
  The stable sort of the slices package on plain lists, last part: blocks, and the whole; where a strictly sorted order is, it is what comes out. Nothing here speaks of a program; no conditions.
  The contracts of the stable sort's first functions: two rows changed, a row turned about, elements laid in.
  The contract of the stable sort's insertion sort.
  The contract of the stable sort's merging in place.
  The contract of the stable sort's merging in place, general case: what its parts want.
-/
import Derived.Test.YtohhhaeemephnaaGal
import Derived.Test.YtohhhaeemephnaaGam
import Derived.Test.YtohhhaeemephnaaGaj
set_option linter.unusedSimpArgs false
set_option linter.unusedVariables false
set_option linter.unusedVariables false
set_option linter.unusedSimpArgs false
set_option linter.unusedSectionVars false
namespace Go.Srt
variable {α : Type} [Inhabited α]
/-! ### places -/
theorem getD_set {l : List α} {i k : Nat} {a : α} (h : i < l.length) : (l.set i a).getD k default = if i = k then a else l.getD k default := by
  rw [List.getD_eq_getElem?_getD, List.getElem?_set]
  by_cases e : i = k
  · rw [if_pos e, if_pos h, if_pos e]; rfl
  · rw [if_neg e, if_neg e, ← List.getD_eq_getElem?_getD]
theorem ext {l m : List α} (h : l.length = m.length) (k : ∀ i, i < m.length → l.getD i default = m.getD i default) : l = m := by
  refine List.ext_getElem h fun i h1 h2 => ?_
  have := k i h2
  rwa [List.getD_eq_getElem?_getD, List.getElem?_eq_getElem h1, Option.getD_some, List.getD_eq_getElem?_getD, List.getElem?_eq_getElem h2, Option.getD_some] at this
theorem getD_take {l : List α} {n k : Nat} (h : k < n) : (l.take n).getD k default = l.getD k default := by
  rw [List.getD_eq_getElem?_getD, List.getElem?_take_of_lt h, ← List.getD_eq_getElem?_getD]
theorem getD_drop {l : List α} {n k : Nat} : (l.drop n).getD k default = l.getD (n + k) default := by
  rw [List.getD_eq_getElem?_getD, List.getElem?_drop, ← List.getD_eq_getElem?_getD]
theorem getD_app {l m : List α} {k : Nat} : (l ++ m).getD k default = if k < l.length then l.getD k default else m.getD (k - l.length) default := by
  split
  · rw [List.getD_eq_getElem?_getD, List.getElem?_append_left ‹_›, ← List.getD_eq_getElem?_getD]
  · rw [List.getD_eq_getElem?_getD, List.getElem?_append_right (by omega), ← List.getD_eq_getElem?_getD]
theorem getD_mid (A B : List α) (x : α) : (A ++ x :: B).getD A.length default = x := by
  rw [getD_app, if_neg (by omega), Nat.sub_self]; rfl
theorem set_mid (A B : List α) (x y : α) : (A ++ x :: B).set A.length y = A ++ y :: B := by
  rw [List.set_append_right _ _ (Nat.le_refl _), Nat.sub_self]; rfl
/-! ### two places changed -/
def swp (l : List α) (i j : Nat) : List α := (l.set i (l.getD j default)).set j (l.getD i default)
theorem swp_len (l : List α) (i j : Nat) : (swp l i j).length = l.length := by unfold swp; rw [List.length_set, List.length_set]
theorem swp_at {l : List α} {i j k : Nat} (hi : i < l.length) (hj : j < l.length) : (swp l i j).getD k default = if j = k then l.getD i default else if i = k then l.getD j default else l.getD k default := by
  unfold swp
  rw [getD_set (by rw [List.length_set]; exact hj), getD_set hi]
/-! ### two rows changed -/
def swR (l : List α) (a b : Nat) : Nat → List α
  | 0 => l
  | n + 1 => swp (swR l a b n) (a + n) (b + n)
theorem swR_len (l : List α) (a b : Nat) : ∀ n, (swR l a b n).length = l.length
  | 0 => rfl
  | n + 1 => by rw [swR, swp_len, swR_len l a b n]
theorem swR_at {l : List α} {a b : Nat} : ∀ {n : Nat} (k : Nat), a + n ≤ b → b + n ≤ l.length → (swR l a b n).getD k default = if a ≤ k ∧ k < a + n then l.getD (k - a + b) default else if b ≤ k ∧ k < b + n then l.getD (k - b + a) default else l.getD k default
  | 0, k, _, _ => by rw [swR, if_neg (by omega), if_neg (by omega)]
  | n + 1, k, h1, h2 => by
    have ih := fun k => swR_at (l := l) (a := a) (b := b) (n := n) k (by omega) (by omega)
    rw [swR, swp_at (by rw [swR_len]; omega) (by rw [swR_len]; omega), ih, ih, ih]
    repeat' split
    all_goals first | omega | rfl | (congr 1; omega)
/-! ### a row turned about -/
def rotL (l : List α) (a m b : Nat) : List α := l.take a ++ ((l.drop m).take (b - m) ++ ((l.drop a).take (m - a) ++ l.drop b))
theorem rotL_len {l : List α} {a m b : Nat} (h1 : a ≤ m) (h2 : m ≤ b) (h3 : b ≤ l.length) : (rotL l a m b).length = l.length := by
  unfold rotL
  simp only [List.length_append, List.length_take, List.length_drop]
  omega
theorem rotL_at {l : List α} {a m b : Nat} (h1 : a ≤ m) (h2 : m ≤ b) (h3 : b ≤ l.length) (k : Nat) : (rotL l a m b).getD k default = if a ≤ k ∧ k < a + (b - m) then l.getD (k - a + m) default else if a + (b - m) ≤ k ∧ k < b then l.getD (k - (b - m)) default else l.getD k default := by
  unfold rotL
  have e1 : (l.take a).length = a := by rw [List.length_take]; omega
  have e2 : ((l.drop m).take (b - m)).length = b - m := by rw [List.length_take, List.length_drop]; omega
  have e3 : ((l.drop a).take (m - a)).length = m - a := by rw [List.length_take, List.length_drop]; omega
  rw [getD_app, getD_app, getD_app, e1, e2, e3]
  by_cases c1 : k < a
  · rw [if_pos c1, if_neg (by omega), if_neg (by omega), getD_take c1]
  · rw [if_neg c1]
    by_cases c2 : k < a + (b - m)
    · rw [if_pos (by omega), if_pos (by omega), getD_take (by omega), getD_drop]; congr 1; omega
    · rw [if_neg (show ¬ k - a < b - m by omega), if_neg (show ¬ (a ≤ k ∧ k < a + (b - m)) by omega)]
      by_cases c3 : k < b
      · rw [if_pos (show k - a - (b - m) < m - a by omega), if_pos (by omega), getD_take (by omega), getD_drop]; congr 1; omega
      · rw [if_neg (show ¬ k - a - (b - m) < m - a by omega), if_neg (by omega), getD_drop]; congr 1; omega
theorem rotL_eq {A X Y B : List α} : rotL (A ++ (X ++ (Y ++ B))) A.length (A.length + X.length) (A.length + X.length + Y.length) = A ++ (Y ++ (X ++ B)) := by
  unfold rotL
  rw [show A.length + X.length + Y.length - (A.length + X.length) = Y.length by omega, show A.length + X.length - A.length = X.length by omega]
  rw [List.take_left' rfl, List.drop_left' rfl, List.take_left' rfl]
  rw [← List.append_assoc A X, List.drop_left' (by simp), List.take_left' rfl, ← List.append_assoc (A ++ X) Y, List.drop_left' (by simp; omega)]
theorem rot_same (l : List α) {a m b : Nat} (h : a = m ∨ m = b) (h1 : a ≤ m) (h2 : m ≤ b) (h3 : b ≤ l.length) : rotL l a m b = l := by
  refine ext (rotL_len h1 h2 h3) fun k hk => ?_
  rw [rotL_at h1 h2 h3]
  repeat' split
  all_goals first | omega | rfl | (congr 1; omega)
/-- The greater part ahead: its first part is changed with what stands behind. -/
theorem rot_more {l : List α} {m i j : Nat} (h1 : j < i) (h2 : i ≤ m) (h3 : m + j ≤ l.length) : rotL (swR l (m - i) m j) (m - (i - j)) m (m + j) = rotL l (m - i) m (m + j) := by
  have e := swR_len l (m - i) m j
  refine ext (by rw [rotL_len (by omega) (by omega) (by omega), rotL_len (by omega) (by omega) h3, e]) fun k hk => ?_
  rw [rotL_at (by omega) (by omega) (by omega), rotL_at (by omega) (by omega) h3, swR_at _ (by omega) h3, swR_at _ (by omega) h3, swR_at _ (by omega) h3]
  repeat' split
  all_goals first | omega | rfl | (congr 1; omega)
theorem rot_less {l : List α} {m i j : Nat} (h1 : i < j) (h2 : i ≤ m) (h3 : m + j ≤ l.length) : rotL (swR l (m - i) (m + j - i) i) (m - i) m (m + (j - i)) = rotL l (m - i) m (m + j) := by
  have e := swR_len l (m - i) (m + j - i) i
  refine ext (by rw [rotL_len (by omega) (by omega) (by omega), rotL_len (by omega) (by omega) h3, e]) fun k hk => ?_
  rw [rotL_at (by omega) (by omega) (by omega), rotL_at (by omega) (by omega) h3, swR_at _ (by omega) (by omega), swR_at _ (by omega) (by omega), swR_at _ (by omega) (by omega)]
  repeat' split
  all_goals first | omega | rfl | (congr 1; omega)
theorem rot_even {l : List α} {m i : Nat} (h2 : i ≤ m) (h3 : m + i ≤ l.length) : swR l (m - i) m i = rotL l (m - i) m (m + i) := by
  refine ext (by rw [rotL_len (by omega) (by omega) (by omega), swR_len]) fun k hk => ?_
  rw [rotL_at (by omega) (by omega) (by omega), swR_at _ (by omega) (by omega)]
  repeat' split
  all_goals first | omega | rfl | (congr 1; omega)
/-- One element carried on, or back, by one. -/
theorem rot_up {l : List α} {a k : Nat} (h1 : a ≤ k) (h2 : k + 1 < l.length) : swp (rotL l a (a + 1) (k + 1)) k (k + 1) = rotL l a (a + 1) (k + 2) := by
  have e := rotL_len (l := l) (a := a) (m := a + 1) (b := k + 1) (by omega) (by omega) (by omega)
  refine ext (by rw [swp_len, e, rotL_len (by omega) (by omega) (by omega)]) fun i hi => ?_
  rw [swp_at (by omega) (by omega), rotL_at (by omega) (by omega) (by omega), rotL_at (by omega) (by omega) (by omega), rotL_at (by omega) (by omega) (by omega), rotL_at (by omega) (by omega) (by omega)]
  repeat' split
  all_goals first | omega | rfl | (congr 1; omega)
theorem rot_down {l : List α} {m k : Nat} (h1 : k + 1 ≤ m) (h2 : m < l.length) : swp (rotL l (k + 1) m (m + 1)) (k + 1) k = rotL l k m (m + 1) := by
  have e := rotL_len (l := l) (a := k + 1) (m := m) (b := m + 1) (by omega) (by omega) (by omega)
  refine ext (by rw [swp_len, e, rotL_len (by omega) (by omega) (by omega)]) fun i hi => ?_
  rw [swp_at (by omega) (by omega), rotL_at (by omega) (by omega) (by omega), rotL_at (by omega) (by omega) (by omega), rotL_at (by omega) (by omega) (by omega), rotL_at (by omega) (by omega) (by omega)]
  repeat' split
  all_goals first | omega | rfl | (congr 1; omega)
/-! ### one element laid in among sorted ones -/
variable (lt : α → α → Bool)
def sink (l : List α) (a : Nat) : Nat → List α
  | 0 => l
  | j + 1 => if a < j + 1 ∧ lt (l.getD (j + 1) default) (l.getD j default) = true then sink (swp l (j + 1) j) a j else l
theorem sink_len (a : Nat) : ∀ (j : Nat) (l : List α), (sink lt l a j).length = l.length
  | 0, l => rfl
  | j + 1, l => by
    rw [sink]
    split
    · rw [sink_len a j, swp_len]
    · rfl
def insN (l : List α) (a : Nat) : Nat → List α
  | 0 => l
  | n + 1 => sink lt (insN l a n) a (a + 1 + n)
theorem insN_len (l : List α) (a : Nat) : ∀ n, (insN lt l a n).length = l.length
  | 0 => rfl
  | n + 1 => by rw [insN, sink_len, insN_len l a n]
def Sor (r : α → Nat) (l : List α) : Prop := l.Pairwise fun x y => r x ≤ r y
def Fits (lt : α → α → Bool) (r : α → Nat) (P : α → Prop) : Prop := ∀ x y, P x → P y → (lt x y = true ↔ r x < r y)
theorem Fits.no (lt : α → α → Bool) : Fits lt (fun _ => 0) (fun _ => False) := fun _ _ h => h.elim
variable {lt} {r : α → Nat} {P : α → Prop}
theorem swp_mid (A B : List α) (x y : α) : swp (A ++ x :: y :: B) (A.length + 1) A.length = A ++ y :: x :: B := by
  refine ext (by rw [swp_len]; simp) fun k hk => ?_
  simp only [List.length_append, List.length_cons] at hk
  rw [swp_at (by simp) (by simp)]
  rw [getD_mid A (y :: B) x, show A ++ x :: y :: B = (A ++ [x]) ++ y :: B by simp, show A.length + 1 = (A ++ [x]).length by simp, getD_mid (A ++ [x]) B y]
  by_cases c1 : A.length = k
  · subst c1; rw [if_pos rfl, getD_mid]
  · rw [if_neg c1]
    by_cases c2 : (A ++ [x]).length = k
    · subst c2
      rw [if_pos rfl, show A ++ y :: x :: B = (A ++ [y]) ++ x :: B by simp, show (A ++ [x]).length = (A ++ [y]).length by simp, getD_mid]
    · rw [if_neg c2]
      simp only [List.length_append, List.length_cons, List.length_nil] at c2
      rw [getD_app, getD_app (l := A) (m := y :: x :: B)]
      simp only [List.length_append, List.length_cons, List.length_nil]
      by_cases c3 : k < A.length
      · rw [if_pos (by omega), if_pos c3, getD_app, if_pos c3]
      · rw [if_neg (by omega), if_neg c3]
        obtain ⟨d, rfl⟩ : ∃ d, k = A.length + 2 + d := ⟨k - (A.length + 2), by omega⟩
        rw [show A.length + 2 + d - (A.length + (0 + 1)) = d + 1 by omega, show A.length + 2 + d - A.length = d + 2 by omega]
        rfl
theorem sink_spec (hf : Fits lt r P) (A B : List α) (y : α) : ∀ (n : Nat) (X : List α), X.length = n → ∃ Z, sink lt (A ++ (X ++ y :: B)) A.length (A.length + n) = A ++ (Z ++ B) ∧ Z.Perm (X ++ [y]) ∧ ((∀ x ∈ X ++ [y], P x) → Sor r X → Sor r Z)
  | 0, X, h => by
    obtain rfl := List.eq_nil_of_length_eq_zero h
    refine ⟨[y], ?_, List.Perm.refl _, fun _ _ => List.pairwise_singleton _ _⟩
    rw [Nat.add_zero]
    cases ha : A.length with
    | zero => rfl
    | succ a => rw [sink, if_neg (by omega)]; simp
  | n + 1, X, h => by
    obtain ⟨X', x, rfl⟩ : ∃ X' x, X = X' ++ [x] := ⟨X.dropLast, X.getLast (by intro e; subst e; cases h), (List.dropLast_concat_getLast _).symm⟩
    have hn : X'.length = n := by simp at h; omega
    have e1 : A ++ (X' ++ [x] ++ y :: B) = (A ++ X') ++ x :: y :: B := by simp
    have e2 : A.length + n = (A ++ X').length := by simp [hn]
    rw [← Nat.add_assoc, sink, e1, e2, getD_mid (A ++ X') (y :: B) x]
    have e3 : ((A ++ X') ++ x :: y :: B).getD ((A ++ X').length + 1) default = y := by
      rw [show (A ++ X') ++ x :: y :: B = (A ++ X' ++ [x]) ++ y :: B by simp, show (A ++ X').length + 1 = (A ++ X' ++ [x]).length by simp; omega, getD_mid]
    rw [e3]
    by_cases hl : lt y x = true
    · rw [if_pos ⟨by simp; omega, hl⟩, swp_mid]
      obtain ⟨Z, z1, z2, z3⟩ := sink_spec hf A (x :: B) y n X' hn
      rw [← e2, show A ++ X' ++ y :: x :: B = A ++ (X' ++ y :: x :: B) by simp, z1]
      have hp : (Z ++ [x]).Perm (X' ++ [x] ++ [y]) := by
        refine (List.Perm.append_right [x] z2).trans ?_
        rw [List.append_assoc, List.append_assoc]
        exact List.Perm.append_left X' (List.perm_append_comm (l₁ := [y]) (l₂ := [x]))
      refine ⟨Z ++ [x], by simp, hp, fun hP hs => ?_⟩
      unfold Sor at hs ⊢
      rw [List.pairwise_append] at hs ⊢
      refine ⟨z3 (fun a ha => hP a (by simp at ha ⊢; rcases ha with h | h <;> simp [h])) hs.1, List.pairwise_singleton _ _, fun a ha b hb => ?_⟩
      obtain rfl := List.mem_singleton.1 hb
      have := z2.mem_iff.1 ha
      rw [List.mem_append, List.mem_singleton] at this
      rcases this with h | rfl
      · exact hs.2.2 a h b (by simp)
      · exact Nat.le_of_lt ((hf _ _ (hP _ (by simp)) (hP _ (by simp))).1 hl)
    · rw [if_neg (fun k => hl k.2)]
      refine ⟨X' ++ [x] ++ [y], by simp, List.Perm.refl _, fun hP hs => ?_⟩
      unfold Sor at hs ⊢
      rw [List.pairwise_append]
      refine ⟨hs, List.pairwise_singleton _ _, fun a ha b hb => ?_⟩
      obtain rfl := List.mem_singleton.1 hb
      have h1 : r x ≤ r b := Nat.le_of_not_lt fun k => hl ((hf b x (hP _ (by simp)) (hP _ (by simp))).2 k)
      rw [List.mem_append, List.mem_singleton] at ha
      rcases ha with h | rfl
      · rw [List.pairwise_append] at hs
        exact Nat.le_trans (hs.2.2 a h x (by simp)) h1
      · exact h1
theorem insN_spec (hf : Fits lt r P) (A : List α) : ∀ (n : Nat) (X B : List α), X.length = n + 1 → ∃ Z, insN lt (A ++ (X ++ B)) A.length n = A ++ (Z ++ B) ∧ Z.Perm X ∧ ((∀ x ∈ X, P x) → Sor r Z)
  | 0, X, B, h => by
    refine ⟨X, rfl, List.Perm.refl _, fun _ => ?_⟩
    match X, h with
    | [x], _ => exact List.pairwise_singleton _ _
  | n + 1, X, B, h => by
    obtain ⟨X', y, rfl⟩ : ∃ X' x, X = X' ++ [x] := ⟨X.dropLast, X.getLast (by intro e; subst e; cases h), (List.dropLast_concat_getLast _).symm⟩
    have hn : X'.length = n + 1 := by simp at h; omega
    obtain ⟨Z, z1, z2, z3⟩ := insN_spec hf A n X' ([y] ++ B) hn
    have e1 : A ++ (X' ++ [y] ++ B) = A ++ (X' ++ ([y] ++ B)) := by simp
    rw [insN, e1, z1]
    have hz : Z.length = n + 1 := by rw [z2.length_eq, hn]
    obtain ⟨W, w1, w2, w3⟩ := sink_spec hf A B y (n + 1) Z hz
    rw [show A.length + 1 + n = A.length + (n + 1) by omega]
    refine ⟨W, w1, w2.trans (List.Perm.append_right _ z2), fun hP => w3 (fun x hx => hP x ?_) (z3 fun x hx => hP x (by simp [hx]))⟩
    exact (List.Perm.append_right [y] z2).mem_iff.1 hx
end Go.Srt
set_option linter.unusedVariables false
set_option linter.unusedSimpArgs false
set_option linter.unusedSectionVars false
namespace Go.Srt
variable {α : Type} [Inhabited α]
/-! ### where something begins to be -/
def bs (p : Nat → Bool) (i j : Nat) : Nat := if h : i < j then (if p ((i + j) / 2) = true then bs p ((i + j) / 2 + 1) j else bs p i ((i + j) / 2)) else i
termination_by j - i
decreasing_by all_goals omega
theorem bs_end {p : Nat → Bool} {i j : Nat} (h : ¬ i < j) : bs p i j = i := by rw [bs, dif_neg h]
theorem bs_yes {p : Nat → Bool} {i j : Nat} (h : i < j) (k : p ((i + j) / 2) = true) : bs p ((i + j) / 2 + 1) j = bs p i j := by
  conv => rhs; rw [bs]
  rw [dif_pos h, if_pos k]
theorem bs_no {p : Nat → Bool} {i j : Nat} (h : i < j) (k : p ((i + j) / 2) = false) : bs p i ((i + j) / 2) = bs p i j := by
  conv => rhs; rw [bs]
  rw [dif_pos h, if_neg (by rw [k]; simp)]
theorem bs_spec (p : Nat → Bool) : ∀ (n i j : Nat), j - i ≤ n → i ≤ j → (i ≤ bs p i j ∧ bs p i j ≤ j) ∧ (bs p i j = i ∨ (i < bs p i j ∧ p (bs p i j - 1) = true)) ∧ (bs p i j = j ∨ p (bs p i j) = false)
  | n, i, j, hn, h => by
    by_cases hlt : i < j
    · cases n with
      | zero => omega
      | succ n =>
        cases hp : p ((i + j) / 2) with
        | true =>
          obtain ⟨h1, h2, h3⟩ := bs_spec p n ((i + j) / 2 + 1) j (by omega) (by omega)
          rw [← bs_yes hlt hp]
          refine ⟨by omega, .inr ⟨by omega, ?_⟩, h3⟩
          rcases h2 with h2 | h2
          · rw [h2, Nat.add_sub_cancel, hp]
          · exact h2.2
        | false =>
          obtain ⟨h1, h2, h3⟩ := bs_spec p n i ((i + j) / 2) (by omega) (by omega)
          rw [← bs_no hlt hp]
          refine ⟨by omega, h2, .inr ?_⟩
          rcases h3 with h3 | h3
          · rw [h3, hp]
          · exact h3
    · rw [bs_end hlt]
      exact ⟨by omega, .inl rfl, .inl (by omega)⟩
/-! ### two rows merged in place -/
variable (lt : α → α → Bool)
def ppF (l : List α) (n c : Nat) : Bool := !lt (l.getD (n - 1 - c) default) (l.getD c default)
def oneU (l : List α) (a h : Nat) : Bool := lt (l.getD h default) (l.getD a default)
def oneD (l : List α) (m h : Nat) : Bool := !lt (l.getD m default) (l.getD h default)
def symS (l : List α) (a m b : Nat) : Nat := if (a + b) / 2 < m then bs (ppF lt l ((a + b) / 2 + m)) ((a + b) / 2 + m - b) ((a + b) / 2) else bs (ppF lt l ((a + b) / 2 + m)) a m
def rotC (l : List α) (a m b : Nat) : List α := if a < m ∧ m < b then rotL l a m b else l
def symF : Nat → List α → Nat → Nat → Nat → List α
  | 0, l, _, _, _ => l
  | f + 1, l, a, m, b =>
    if m - a = 1 then rotL l a m (bs (oneU lt l a) m b)
    else if b - m = 1 then rotL l (bs (oneD lt l m) a m) m b
    else
      if (a + b) / 2 < (a + b) / 2 + m - symS lt l a m b ∧ (a + b) / 2 + m - symS lt l a m b < b then
        symF f (if a < symS lt l a m b ∧ symS lt l a m b < (a + b) / 2 then symF f (rotC l (symS lt l a m b) m ((a + b) / 2 + m - symS lt l a m b)) a (symS lt l a m b) ((a + b) / 2) else rotC l (symS lt l a m b) m ((a + b) / 2 + m - symS lt l a m b)) ((a + b) / 2) ((a + b) / 2 + m - symS lt l a m b) b
      else if a < symS lt l a m b ∧ symS lt l a m b < (a + b) / 2 then symF f (rotC l (symS lt l a m b) m ((a + b) / 2 + m - symS lt l a m b)) a (symS lt l a m b) ((a + b) / 2) else rotC l (symS lt l a m b) m ((a + b) / 2 + m - symS lt l a m b)
def symC (f : Nat) (l : List α) (a m b : Nat) : List α := if a < m ∧ m < b then symF lt f l a m b else l
theorem symF_eq (f : Nat) (l : List α) (a m b : Nat) (h1 : ¬ m - a = 1) (h2 : ¬ b - m = 1) : symF lt (f + 1) l a m b = symC lt f (symC lt f (rotC l (symS lt l a m b) m ((a + b) / 2 + m - symS lt l a m b)) a (symS lt l a m b) ((a + b) / 2)) ((a + b) / 2) ((a + b) / 2 + m - symS lt l a m b) b := by
  rw [symF, if_neg h1, if_neg h2]
  rfl
variable {lt} {r : α → Nat} {P : α → Prop}
theorem symS_spec {l : List α} {a m b : Nat} (h1 : a < m) (h2 : m < b) : (a ≤ symS lt l a m b ∧ symS lt l a m b ≤ m ∧ symS lt l a m b ≤ (a + b) / 2 ∧ (a + b) / 2 + m - symS lt l a m b ≤ b) ∧ (symS lt l a m b = a ∨ (a + b) / 2 + m - symS lt l a m b = b ∨ (a < symS lt l a m b ∧ ppF lt l ((a + b) / 2 + m) (symS lt l a m b - 1) = true)) ∧ (symS lt l a m b = m ∨ symS lt l a m b = (a + b) / 2 ∨ ppF lt l ((a + b) / 2 + m) (symS lt l a m b) = false) := by
  unfold symS
  by_cases c : (a + b) / 2 < m
  · rw [if_pos c]
    obtain ⟨k1, k2, k3⟩ := bs_spec (ppF lt l ((a + b) / 2 + m)) _ ((a + b) / 2 + m - b) ((a + b) / 2) (Nat.le_refl _) (by omega)
    refine ⟨by omega, ?_, ?_⟩
    · rcases k2 with k2 | k2
      · right; left; omega
      · right; right; exact ⟨by omega, k2.2⟩
    · rcases k3 with k3 | k3
      · right; left; exact k3
      · right; right; exact k3
  · rw [if_neg c]
    obtain ⟨k1, k2, k3⟩ := bs_spec (ppF lt l ((a + b) / 2 + m)) _ a m (Nat.le_refl _) (by omega)
    refine ⟨by omega, ?_, ?_⟩
    · rcases k2 with k2 | k2
      · left; exact k2
      · right; right; exact k2
    · rcases k3 with k3 | k3
      · left; exact k3
      · right; right; exact k3
theorem Sor.last {l : List α} (h : Sor r l) {x : α} (hx : x ∈ l) : r x ≤ r (l.getD (l.length - 1) default) := by
  obtain ⟨i, hi, rfl⟩ := List.getElem_of_mem hx
  rw [List.getD_eq_getElem?_getD, List.getElem?_eq_getElem (by omega), Option.getD_some]
  by_cases e : i = l.length - 1
  · subst e; exact Nat.le_refl _
  · exact List.pairwise_iff_getElem.1 h i (l.length - 1) hi (by omega) (by omega)
theorem Sor.first {l : List α} (h : Sor r l) {x : α} (hx : x ∈ l) : r (l.getD 0 default) ≤ r x := by
  obtain ⟨i, hi, rfl⟩ := List.getElem_of_mem hx
  rw [List.getD_eq_getElem?_getD, List.getElem?_eq_getElem (by omega), Option.getD_some]
  by_cases e : i = 0
  · subst e; exact Nat.le_refl _
  · exact List.pairwise_iff_getElem.1 h 0 i (by omega) hi (by omega)
theorem at_in {A X R : List α} {k : Nat} (h1 : A.length ≤ k) (h2 : k < A.length + X.length) : (A ++ (X ++ R)).getD k default = X.getD (k - A.length) default := by
  rw [getD_app, if_neg (by omega), getD_app, if_pos (by omega)]
theorem last_mem {X : List α} {x : α} (h : x ∈ X) : X.getD (X.length - 1) default ∈ X := Lv.getD_mem (by have := List.length_pos_of_mem h; omega)
theorem first_mem {X : List α} {x : α} (h : x ∈ X) : X.getD 0 default ∈ X := Lv.getD_mem (List.length_pos_of_mem h)
theorem two_sor {X Y : List α} (hx : Sor r X) (hy : Sor r Y) (h : ∀ x ∈ X, ∀ y ∈ Y, r x ≤ r y) : Sor r (X ++ Y) := List.pairwise_append.2 ⟨hx, hy, h⟩
theorem symC_spec {f : Nat} (ih : ∀ (A X Y B : List α), 1 ≤ X.length → 1 ≤ Y.length → X.length + Y.length ≤ f → ∃ Z, symF lt f (A ++ (X ++ (Y ++ B))) A.length (A.length + X.length) (A.length + X.length + Y.length) = A ++ (Z ++ B) ∧ Z.Perm (X ++ Y) ∧ ((∀ x ∈ X ++ Y, P x) → Sor r X → Sor r Y → Sor r Z))
    (A X Y B : List α) (h : X.length + Y.length ≤ f) : ∃ Z, symC lt f (A ++ (X ++ (Y ++ B))) A.length (A.length + X.length) (A.length + X.length + Y.length) = A ++ (Z ++ B) ∧ Z.Perm (X ++ Y) ∧ ((∀ x ∈ X ++ Y, P x) → Sor r X → Sor r Y → Sor r Z) := by
  unfold symC
  by_cases c : A.length < A.length + X.length ∧ A.length + X.length < A.length + X.length + Y.length
  · rw [if_pos c]
    exact ih A X Y B (by omega) (by omega) h
  · rw [if_neg c]
    refine ⟨X ++ Y, by simp, List.Perm.refl _, fun _ hx hy => ?_⟩
    rcases (by omega : X.length = 0 ∨ Y.length = 0) with e | e
    · rw [List.eq_nil_of_length_eq_zero e]; exact hy
    · rw [List.eq_nil_of_length_eq_zero e, List.append_nil]; exact hx
theorem sym_spec (hf : Fits lt r P) : ∀ (f : Nat) (A X Y B : List α), 1 ≤ X.length → 1 ≤ Y.length → X.length + Y.length ≤ f → ∃ Z, symF lt f (A ++ (X ++ (Y ++ B))) A.length (A.length + X.length) (A.length + X.length + Y.length) = A ++ (Z ++ B) ∧ Z.Perm (X ++ Y) ∧ ((∀ x ∈ X ++ Y, P x) → Sor r X → Sor r Y → Sor r Z)
  | 0, A, X, Y, B, h1, h2, h3 => by omega
  | f + 1, A, X, Y, B, h1, h2, h3 => by
    by_cases c1 : X.length = 1
    · rw [symF, if_pos (by omega)]
      obtain ⟨k1, k2, k3⟩ := bs_spec (oneU lt (A ++ (X ++ (Y ++ B))) A.length) _ (A.length + X.length) (A.length + X.length + Y.length) (Nat.le_refl _) (by omega)
      generalize bs (oneU lt (A ++ (X ++ (Y ++ B))) A.length) (A.length + X.length) (A.length + X.length + Y.length) = i at k1 k2 k3 ⊢
      obtain ⟨Y1, Y2, rfl, hy⟩ : ∃ Y1 Y2, Y = Y1 ++ Y2 ∧ Y1.length = i - (A.length + X.length) := ⟨_, _, (List.take_append_drop (i - (A.length + X.length)) Y).symm, by rw [List.length_take]; omega⟩
      rw [List.length_append] at k1 k3 h2 h3
      rw [show i = A.length + X.length + Y1.length by omega, List.append_assoc, rotL_eq]
      refine ⟨Y1 ++ (X ++ Y2), by simp, List.perm_append_comm_assoc _ _ _, fun hP hx hy' => ?_⟩
      have hx0 : (A ++ (X ++ (Y1 ++ Y2 ++ B))).getD A.length default = X.getD 0 default := by rw [at_in (by omega) (by omega), Nat.sub_self]
      unfold Sor at hy'
      rw [List.pairwise_append] at hy'
      have hx1 : ∀ x ∈ X, r x = r (X.getD 0 default) := fun x hx' => by
        have q1 := Sor.first hx hx'
        have q2 := Sor.last hx hx'
        rw [c1] at q2
        exact Nat.le_antisymm q2 q1
      have hP0 : P (X.getD 0 default) := hP _ (by rw [List.mem_append]; exact .inl (Lv.getD_mem (by omega)))
      have hYX : ∀ y ∈ Y1, ∀ x ∈ X, r y ≤ r x := fun y hy1 x hx' => by
        rw [hx1 x hx']
        have hl := List.length_pos_of_mem hy1
        rcases k2 with k2 | k2
        · omega
        · have k4 := k2.2
          unfold oneU at k4
          rw [hx0] at k4
          have e : (A ++ (X ++ (Y1 ++ Y2 ++ B))).getD (i - 1) default = Y1.getD (Y1.length - 1) default := by
            rw [← List.append_assoc A X, List.append_assoc Y1, at_in (by rw [List.length_append]; omega) (by rw [List.length_append]; omega), List.length_append]
            congr 1; omega
          rw [e] at k4
          have k5 := (hf _ _ (hP _ (by rw [List.mem_append, List.mem_append]; exact .inr (.inl (last_mem hy1)))) hP0).1 k4
          exact Nat.le_of_lt (Nat.lt_of_le_of_lt (Sor.last hy'.1 hy1) k5)
      have hXY : ∀ x ∈ X, ∀ y ∈ Y2, r x ≤ r y := fun x hx' y hy2 => by
        rw [hx1 x hx']
        have hl := List.length_pos_of_mem hy2
        rcases k3 with k3 | k3
        · omega
        · unfold oneU at k3
          rw [hx0] at k3
          have e : (A ++ (X ++ (Y1 ++ Y2 ++ B))).getD i default = Y2.getD 0 default := by
            rw [← List.append_assoc A X, List.append_assoc Y1, ← List.append_assoc (A ++ X) Y1, at_in (by simp only [List.length_append]; omega) (by simp only [List.length_append]; omega)]
            simp only [List.length_append]
            congr 1; omega
          rw [e] at k3
          have hP2 := hP (Y2.getD 0 default) (by rw [List.mem_append, List.mem_append]; exact .inr (.inr (first_mem hy2)))
          refine Nat.le_trans (Nat.le_of_not_lt fun q => ?_) (Sor.first hy'.2.1 hy2)
          rw [(hf _ _ hP2 hP0).2 q] at k3; cases k3
      refine two_sor hy'.1 (two_sor hx hy'.2.1 hXY) fun y hy1 z hz => ?_
      rw [List.mem_append] at hz
      rcases hz with hz | hz
      · exact hYX y hy1 z hz
      · exact hy'.2.2 y hy1 z hz
    · by_cases c2 : Y.length = 1
      · rw [symF, if_neg (by omega), if_pos (by omega)]
        obtain ⟨k1, k2, k3⟩ := bs_spec (oneD lt (A ++ (X ++ (Y ++ B))) (A.length + X.length)) _ A.length (A.length + X.length) (Nat.le_refl _) (by omega)
        generalize bs (oneD lt (A ++ (X ++ (Y ++ B))) (A.length + X.length)) A.length (A.length + X.length) = i at k1 k2 k3 ⊢
        obtain ⟨X1, X2, rfl, hx⟩ : ∃ X1 X2, X = X1 ++ X2 ∧ X1.length = i - A.length := ⟨_, _, (List.take_append_drop (i - A.length) X).symm, by rw [List.length_take]; omega⟩
        rw [List.length_append] at k1 k3 h1 h3
        have hr : rotL (A ++ (X1 ++ X2 ++ (Y ++ B))) i (A.length + (X1 ++ X2).length) (A.length + (X1 ++ X2).length + Y.length) = A ++ (X1 ++ (Y ++ (X2 ++ B))) := by
          have := rotL_eq (A := A ++ X1) (X := X2) (Y := Y) (B := B)
          simp only [List.length_append, List.append_assoc] at this ⊢
          rw [show A.length + (X1.length + X2.length) = A.length + X1.length + X2.length by omega, show i = A.length + X1.length by omega]
          exact this
        rw [hr]
        refine ⟨X1 ++ (Y ++ X2), by simp, by rw [List.append_assoc]; exact List.Perm.append_left X1 List.perm_append_comm, fun hP hx' hy => ?_⟩
        have hy0 : (A ++ (X1 ++ X2 ++ (Y ++ B))).getD (A.length + (X1.length + X2.length)) default = Y.getD 0 default := by
          rw [← List.append_assoc A (X1 ++ X2), at_in (by simp only [List.length_append]; omega) (by simp only [List.length_append]; omega)]
          simp only [List.length_append, Nat.sub_self]
        simp only [List.length_append] at k2 k3
        unfold Sor at hx'
        rw [List.pairwise_append] at hx'
        have hy1 : ∀ y ∈ Y, r y = r (Y.getD 0 default) := fun y hy' => by
          have q1 := Sor.first hy hy'
          have q2 := Sor.last hy hy'
          rw [c2] at q2
          exact Nat.le_antisymm q2 q1
        have hP0 : P (Y.getD 0 default) := hP _ (by rw [List.mem_append]; exact .inr (Lv.getD_mem (by omega)))
        have hXY : ∀ x ∈ X1, ∀ y ∈ Y, r x ≤ r y := fun x hx1 y hy' => by
          rw [hy1 y hy']
          have hl := List.length_pos_of_mem hx1
          rcases k2 with k2 | k2
          · omega
          · have k4 := k2.2
            unfold oneD at k4
            rw [hy0, Bool.not_eq_true'] at k4
            have e : (A ++ (X1 ++ X2 ++ (Y ++ B))).getD (i - 1) default = X1.getD (X1.length - 1) default := by
              rw [List.append_assoc X1, at_in (by omega) (by omega)]
              congr 1; omega
            rw [e] at k4
            refine Nat.le_trans (Sor.last hx'.1 hx1) (Nat.le_of_not_lt fun q => ?_)
            rw [(hf _ _ hP0 (hP _ (by rw [List.mem_append, List.mem_append]; exact .inl (.inl (last_mem hx1))))).2 q] at k4; cases k4
        have hYX : ∀ y ∈ Y, ∀ x ∈ X2, r y ≤ r x := fun y hy' x hx2 => by
          rw [hy1 y hy']
          have hl := List.length_pos_of_mem hx2
          rcases k3 with k3 | k3
          · omega
          · unfold oneD at k3
            rw [hy0, Bool.not_eq_false'] at k3
            have e : (A ++ (X1 ++ X2 ++ (Y ++ B))).getD i default = X2.getD 0 default := by
              rw [List.append_assoc X1, ← List.append_assoc A X1, at_in (by rw [List.length_append]; omega) (by rw [List.length_append]; omega), List.length_append]
              congr 1; omega
            rw [e] at k3
            have k5 := (hf _ _ hP0 (hP _ (by rw [List.mem_append, List.mem_append]; exact .inl (.inr (first_mem hx2))))).1 k3
            exact Nat.le_trans (Nat.le_of_lt k5) (Sor.first hx'.2.1 hx2)
        refine two_sor hx'.1 (two_sor hy hx'.2.1 hYX) fun x hx1 z hz => ?_
        rw [List.mem_append] at hz
        rcases hz with hz | hz
        · exact hXY x hx1 z hz
        · exact hx'.2.2 x hx1 z hz
      · rw [symF_eq _ _ _ _ _ _ (by omega) (by omega)]
        obtain ⟨k1, k2, k3⟩ := symS_spec (lt := lt) (l := A ++ (X ++ (Y ++ B))) (a := A.length) (m := A.length + X.length) (b := A.length + X.length + Y.length) (by omega) (by omega)
        generalize symS lt (A ++ (X ++ (Y ++ B))) A.length (A.length + X.length) (A.length + X.length + Y.length) = s at k1 k2 k3 ⊢
        obtain ⟨mid, hmid⟩ : ∃ mid, mid = (A.length + (A.length + X.length + Y.length)) / 2 := ⟨_, rfl⟩
        rw [← hmid] at k1 k2 k3 ⊢
        obtain ⟨X1, X2, rfl, hx⟩ : ∃ X1 X2, X = X1 ++ X2 ∧ X1.length = s - A.length := ⟨_, _, (List.take_append_drop (s - A.length) X).symm, by rw [List.length_take]; omega⟩
        obtain ⟨Y1, Y2, rfl, hy⟩ : ∃ Y1 Y2, Y = Y1 ++ Y2 ∧ Y1.length = mid - s := ⟨_, _, (List.take_append_drop (mid - s) Y).symm, by rw [List.length_take]; omega⟩
        rw [List.length_append] at h1 h2 h3 hmid k1 k2 k3
        rw [List.length_append] at k1 k2 hmid h3
        have hr : rotC (A ++ (X1 ++ X2 ++ (Y1 ++ Y2 ++ B))) s (A.length + (X1 ++ X2).length) (mid + (A.length + (X1 ++ X2).length) - s) = A ++ (X1 ++ (Y1 ++ (X2 ++ (Y2 ++ B)))) := by
          have := rotL_eq (A := A ++ X1) (X := X2) (Y := Y1) (B := Y2 ++ B)
          simp only [List.length_append, List.append_assoc] at this ⊢
          rw [show A.length + (X1.length + X2.length) = A.length + X1.length + X2.length by omega, show s = A.length + X1.length by omega, show mid + (A.length + X1.length + X2.length) - (A.length + X1.length) = A.length + X1.length + X2.length + Y1.length by omega]
          unfold rotC
          split
          · exact this
          · rcases (by omega : X2.length = 0 ∨ Y1.length = 0) with e | e
            · rw [List.eq_nil_of_length_eq_zero e]; simp
            · rw [List.eq_nil_of_length_eq_zero e]; simp
        rw [hr]
        obtain ⟨Z1, z1, z2, z3⟩ := symC_spec (sym_spec hf f) A X1 Y1 (X2 ++ (Y2 ++ B)) (by omega)
        rw [show A.length + X1.length = s by omega, show s + Y1.length = mid by omega] at z1
        rw [z1]
        have hz1 := z2.length_eq
        rw [List.length_append] at hz1
        obtain ⟨Z2, y1, y2, y3⟩ := symC_spec (sym_spec hf f) (A ++ Z1) X2 Y2 B (by omega)
        rw [List.length_append, List.append_assoc, show A.length + Z1.length = mid by omega, show mid + X2.length = mid + (A.length + (X1 ++ X2).length) - s by rw [List.length_append]; omega, show mid + (A.length + (X1 ++ X2).length) - s + Y2.length = A.length + (X1 ++ X2).length + (Y1 ++ Y2).length by simp only [List.length_append]; omega] at y1
        rw [y1]
        have hp : (Z1 ++ Z2).Perm (X1 ++ X2 ++ (Y1 ++ Y2)) := by
          refine (z2.append y2).trans ?_
          rw [List.append_assoc, List.append_assoc]
          exact List.Perm.append_left X1 (List.perm_append_comm_assoc _ _ _)
        refine ⟨Z1 ++ Z2, by simp, hp, fun hP hx' hy' => ?_⟩
        unfold Sor at hx' hy'
        rw [List.pairwise_append] at hx' hy'
        have hYX : ∀ y ∈ Y1, ∀ x ∈ X2, r y ≤ r x := fun y hy1 x hx2 => by
          have hl := List.length_pos_of_mem hx2
          have hl' := List.length_pos_of_mem hy1
          rcases k3 with k3 | k3 | k3
          · omega
          · omega
          · unfold ppF at k3
            rw [Bool.not_eq_false'] at k3
            have e1 : (A ++ (X1 ++ X2 ++ (Y1 ++ Y2 ++ B))).getD s default = X2.getD 0 default := by
              rw [List.append_assoc X1, ← List.append_assoc A X1, at_in (by rw [List.length_append]; omega) (by rw [List.length_append]; omega), List.length_append]
              congr 1; omega
            have e2 : (A ++ (X1 ++ X2 ++ (Y1 ++ Y2 ++ B))).getD (mid + (A.length + (X1.length + X2.length)) - 1 - s) default = Y1.getD (Y1.length - 1) default := by
              rw [← List.append_assoc A (X1 ++ X2), List.append_assoc Y1, at_in (by simp only [List.length_append]; omega) (by simp only [List.length_append]; omega)]
              simp only [List.length_append]
              congr 1; omega
            rw [e1, e2] at k3
            have q1 : P (Y1.getD (Y1.length - 1) default) := hP _ (by simp only [List.mem_append]; exact .inr (.inl (last_mem hy1)))
            have q2 : P (X2.getD 0 default) := hP _ (by simp only [List.mem_append]; exact .inl (.inr (first_mem hx2)))
            exact Nat.le_trans (Sor.last hy'.1 hy1) (Nat.le_trans (Nat.le_of_lt ((hf _ _ q1 q2).1 k3)) (Sor.first hx'.2.1 hx2))
        have hXY : ∀ x ∈ X1, ∀ y ∈ Y2, r x ≤ r y := fun x hx1 y hy2 => by
          have hl := List.length_pos_of_mem hx1
          have hl' := List.length_pos_of_mem hy2
          rcases k2 with k2 | k2 | k2
          · omega
          · omega
          · have k4 := k2.2
            unfold ppF at k4
            rw [Bool.not_eq_true'] at k4
            have e1 : (A ++ (X1 ++ X2 ++ (Y1 ++ Y2 ++ B))).getD (s - 1) default = X1.getD (X1.length - 1) default := by
              rw [List.append_assoc X1, at_in (by omega) (by omega)]
              congr 1; omega
            have e2 : (A ++ (X1 ++ X2 ++ (Y1 ++ Y2 ++ B))).getD (mid + (A.length + (X1.length + X2.length)) - 1 - (s - 1)) default = Y2.getD 0 default := by
              rw [← List.append_assoc A (X1 ++ X2), List.append_assoc Y1, ← List.append_assoc (A ++ (X1 ++ X2)) Y1, at_in (by simp only [List.length_append]; omega) (by simp only [List.length_append]; omega)]
              simp only [List.length_append]
              congr 1; omega
            rw [e1, e2] at k4
            have q1 : P (X1.getD (X1.length - 1) default) := hP _ (by simp only [List.mem_append]; exact .inl (.inl (last_mem hx1)))
            have q2 : P (Y2.getD 0 default) := hP _ (by simp only [List.mem_append]; exact .inr (.inr (first_mem hy2)))
            refine Nat.le_trans (Sor.last hx'.1 hx1) (Nat.le_trans (Nat.le_of_not_lt fun q => ?_) (Sor.first hy'.2.1 hy2))
            rw [(hf _ _ q2 q1).2 q] at k4; cases k4
        refine two_sor (z3 (fun x h => hP x (by simp only [List.mem_append] at h ⊢; rcases h with h | h <;> simp [h])) hx'.1 hy'.1) (y3 (fun x h => hP x (by simp only [List.mem_append] at h ⊢; rcases h with h | h <;> simp [h])) hx'.2.1 hy'.2.1) fun u hu w hw => ?_
        rw [z2.mem_iff, List.mem_append] at hu
        rw [y2.mem_iff, List.mem_append] at hw
        rcases hu with hu | hu <;> rcases hw with hw | hw
        · exact hx'.2.2 u hu w hw
        · exact hXY u hu w hw
        · exact hYX u hu w hw
        · exact hy'.2.2 u hu w hw
end Go.Srt
set_option linter.unusedVariables false
set_option linter.unusedSimpArgs false
set_option linter.unusedSectionVars false
namespace Go.Srt
variable {α : Type} [Inhabited α]
variable (lt : α → α → Bool)
def fuelF : Nat := 1000000
def ph1 (l : List α) (a n : Nat) : List α := if h : a + 20 ≤ n then ph1 (insN lt l a 19) (a + 20) n else insN lt l a (n - a - 1)
termination_by n - a
decreasing_by omega
def ph2 (l : List α) (k a n : Nat) : List α := if h : 0 < k ∧ a + 2 * k ≤ n then ph2 (symF lt fuelF l a (a + k) (a + 2 * k)) k (a + 2 * k) n else if a + k < n then symF lt fuelF l a (a + k) n else l
termination_by n - a
decreasing_by omega
def ph3 (l : List α) (k n : Nat) : List α := if h : 0 < k ∧ k < n then ph3 (ph2 lt l k 0 n) (k * 2) n else l
termination_by n - k
decreasing_by omega
def stabF (l : List α) : List α := ph3 lt (ph1 lt l 0 l.length) 20 l.length
variable {lt} {r : α → Nat} {P : α → Prop}
theorem ph1_yes {l : List α} {a n : Nat} (h : a + 20 ≤ n) : ph1 lt (insN lt l a 19) (a + 20) n = ph1 lt l a n := by
  conv => rhs; rw [ph1]
  rw [dif_pos h]
theorem ph1_no {l : List α} {a n : Nat} (h : ¬ a + 20 ≤ n) : ph1 lt l a n = insN lt l a (n - a - 1) := by rw [ph1, dif_neg h]
theorem ph2_yes {l : List α} {k a n : Nat} (h : 0 < k ∧ a + 2 * k ≤ n) : ph2 lt (symF lt fuelF l a (a + k) (a + 2 * k)) k (a + 2 * k) n = ph2 lt l k a n := by
  conv => rhs; rw [ph2]
  rw [dif_pos h]
theorem ph2_no {l : List α} {k a n : Nat} (h : ¬ (0 < k ∧ a + 2 * k ≤ n)) : ph2 lt l k a n = if a + k < n then symF lt fuelF l a (a + k) n else l := by rw [ph2, dif_neg h]
theorem ph3_yes {l : List α} {k n : Nat} (h : 0 < k ∧ k < n) : ph3 lt (ph2 lt l k 0 n) (k * 2) n = ph3 lt l k n := by
  conv => rhs; rw [ph3]
  rw [dif_pos h]
theorem ph3_no {l : List α} {k n : Nat} (h : ¬ (0 < k ∧ k < n)) : ph3 lt l k n = l := by rw [ph3, dif_neg h]
/-- Sorted block by block. -/
inductive Blk (r : α → Nat) (k : Nat) : List α → Prop
  | short {l : List α} : l.length ≤ k → Sor r l → Blk r k l
  | more {x l : List α} : x.length = k → Sor r x → Blk r k l → Blk r k (x ++ l)
theorem Blk.one {k : Nat} {l : List α} (h : Blk r k l) (hl : l.length ≤ k) : Sor r l := by
  cases h with
  | short _ h => exact h
  | @more x m h1 h2 h3 =>
    rw [List.length_append] at hl
    rw [List.eq_nil_of_length_eq_zero (show m.length = 0 by omega), List.append_nil]
    exact h2
theorem Blk.two {k : Nat} {l : List α} (h : Blk r k l) (hk : 0 < k) (hl : k < l.length) : ∃ x m, l = x ++ m ∧ x.length = k ∧ Sor r x ∧ Blk r k m := by
  cases h with
  | short h _ => omega
  | more h1 h2 h3 => exact ⟨_, _, rfl, h1, h2, h3⟩
theorem Blk.cut {k : Nat} {l : List α} (h : Blk r k l) (hl : k ≤ l.length) : ∃ x m, l = x ++ m ∧ x.length = k ∧ Sor r x ∧ Blk r k m := by
  cases h with
  | short h g => exact ⟨l, [], (List.append_nil _).symm, by omega, g, .short (Nat.zero_le _) List.Pairwise.nil⟩
  | more h1 h2 h3 => exact ⟨_, _, rfl, h1, h2, h3⟩
theorem ph1_spec (hf : Fits lt r P) : ∀ (n : Nat) (A R : List α), R.length ≤ n → ∃ Z, ph1 lt (A ++ R) A.length (A.length + R.length) = A ++ Z ∧ Z.Perm R ∧ ((∀ x ∈ R, P x) → Blk r 20 Z)
  | n, A, R, hn => by
    by_cases h : 20 ≤ R.length
    · cases n with
      | zero => omega
      | succ n =>
        obtain ⟨X, R', rfl, hx⟩ : ∃ X R', R = X ++ R' ∧ X.length = 20 := ⟨_, _, (List.take_append_drop 20 R).symm, by rw [List.length_take]; omega⟩
        rw [List.length_append] at hn h
        rw [← ph1_yes (by rw [List.length_append]; omega)]
        obtain ⟨W, w1, w2, w3⟩ := insN_spec hf A 19 X R' hx
        have hw := w2.length_eq
        rw [w1]
        obtain ⟨Z, z1, z2, z3⟩ := ph1_spec hf n (A ++ W) R' (by omega)
        rw [List.length_append, List.append_assoc, hw, hx] at z1
        rw [List.length_append, hx, ← Nat.add_assoc, z1]
        refine ⟨W ++ Z, by simp, w2.append z2, fun hP => .more (by omega) (w3 fun x h => hP x (by simp [h])) (z3 fun x h => hP x (by simp [h]))⟩
    · rw [ph1_no (by omega)]
      by_cases h0 : R.length = 0
      · rw [List.eq_nil_of_length_eq_zero h0]
        refine ⟨[], ?_, List.Perm.refl _, fun _ => .short (Nat.zero_le _) List.Pairwise.nil⟩
        rw [show A.length + ([] : List α).length - A.length - 1 = 0 by simp]; rfl
      · obtain ⟨Z, z1, z2, z3⟩ := insN_spec hf A (R.length - 1) R [] (by omega)
        rw [List.append_nil, List.append_nil] at z1
        rw [show A.length + R.length - A.length - 1 = R.length - 1 by omega, z1]
        exact ⟨Z, rfl, z2, fun hP => .short (by rw [z2.length_eq]; omega) (z3 hP)⟩
theorem ph2_spec (hf : Fits lt r P) {k : Nat} (hk : 0 < k) : ∀ (n : Nat) (A R : List α), R.length ≤ n → R.length ≤ fuelF → ∃ Z, ph2 lt (A ++ R) k A.length (A.length + R.length) = A ++ Z ∧ Z.Perm R ∧ ((∀ x ∈ R, P x) → Blk r k R → Blk r (k * 2) Z)
  | n, A, R, hn, hfu => by
    by_cases h : 2 * k ≤ R.length
    · cases n with
      | zero => omega
      | succ n =>
        rw [← ph2_yes ⟨hk, by omega⟩]
        obtain ⟨X, T, rfl, hx⟩ : ∃ X T, R = X ++ T ∧ X.length = k := ⟨_, _, (List.take_append_drop k R).symm, by rw [List.length_take]; omega⟩
        rw [List.length_append] at hn h hfu
        obtain ⟨Y, R', rfl, hy⟩ : ∃ Y R', T = Y ++ R' ∧ Y.length = k := ⟨_, _, (List.take_append_drop k T).symm, by rw [List.length_take]; omega⟩
        rw [List.length_append] at hn h hfu
        obtain ⟨W, w1, w2, w3⟩ := sym_spec hf fuelF A X Y R' (by omega) (by omega) (by omega)
        have hw := w2.length_eq
        rw [List.length_append] at hw
        rw [hx, hy, show A.length + k + k = A.length + 2 * k by omega] at w1
        rw [w1]
        obtain ⟨Z, z1, z2, z3⟩ := ph2_spec hf hk n (A ++ W) R' (by omega) (by omega)
        rw [List.length_append, List.append_assoc, show A.length + W.length = A.length + 2 * k by omega] at z1
        rw [show A.length + (X ++ (Y ++ R')).length = A.length + 2 * k + R'.length by simp only [List.length_append]; omega, z1]
        refine ⟨W ++ Z, by simp, by rw [← List.append_assoc]; exact w2.append z2, fun hP hb => ?_⟩
        obtain ⟨X', m, e1, e2, e3, e4⟩ := hb.cut (by rw [List.length_append]; omega)
        obtain ⟨rfl, rfl⟩ := List.append_inj e1 (by omega)
        obtain ⟨Y', m, e5, e6, e7, e8⟩ := e4.cut (by rw [List.length_append]; omega)
        obtain ⟨rfl, rfl⟩ := List.append_inj e5 (by omega)
        exact .more (by omega) (w3 (fun x h => hP x (by simp only [List.mem_append] at h ⊢; rcases h with h | h <;> simp [h])) e3 e7) (z3 (fun x h => hP x (by simp [h])) e8)
    · rw [ph2_no (by omega)]
      by_cases h1 : k < R.length
      · rw [if_pos (by omega)]
        obtain ⟨X, Y, rfl, hx⟩ : ∃ X T, R = X ++ T ∧ X.length = k := ⟨_, _, (List.take_append_drop k R).symm, by rw [List.length_take]; omega⟩
        rw [List.length_append] at hn h hfu h1
        obtain ⟨W, w1, w2, w3⟩ := sym_spec hf fuelF A X Y [] (by omega) (by omega) (by omega)
        rw [List.append_nil, List.append_nil, hx] at w1
        rw [List.length_append, hx, ← Nat.add_assoc, w1]
        refine ⟨W, rfl, w2, fun hP hb => .short (by rw [w2.length_eq, List.length_append]; omega) ?_⟩
        obtain ⟨X', m, e1, e2, e3, e4⟩ := hb.cut (by rw [List.length_append]; omega)
        obtain ⟨rfl, rfl⟩ := List.append_inj e1 (by omega)
        exact w3 hP e3 (e4.one (by omega))
      · rw [if_neg (by omega)]
        exact ⟨R, rfl, List.Perm.refl _, fun hP hb => .short (by omega) (hb.one (by omega))⟩
theorem ph3_spec (hf : Fits lt r P) : ∀ (n : Nat) (R : List α) (k : Nat), 0 < k → R.length - k ≤ n → R.length ≤ fuelF → ∃ Z, ph3 lt R k R.length = Z ∧ Z.Perm R ∧ ((∀ x ∈ R, P x) → Blk r k R → Sor r Z)
  | n, R, k, hk, hn, hfu => by
    by_cases h : k < R.length
    · cases n with
      | zero => omega
      | succ n =>
        rw [← ph3_yes ⟨hk, h⟩]
        obtain ⟨W, w1, w2, w3⟩ := ph2_spec hf hk R.length [] R (Nat.le_refl _) hfu
        rw [List.nil_append, List.length_nil, Nat.zero_add, List.nil_append] at w1
        rw [w1, ← w2.length_eq]
        have hw := w2.length_eq
        obtain ⟨Z, z1, z2, z3⟩ := ph3_spec hf n W (k * 2) (by omega) (by omega) (by omega)
        exact ⟨Z, z1, z2.trans w2, fun hP hb => z3 (fun x h => hP x (w2.mem_iff.1 h)) (w3 hP hb)⟩
    · rw [ph3_no (by omega)]
      exact ⟨R, rfl, List.Perm.refl _, fun hP hb => hb.one (by omega)⟩
theorem stab_spec (hf : Fits lt r P) (l : List α) (hl : l.length ≤ fuelF) : (stabF lt l).Perm l ∧ ((∀ x ∈ l, P x) → Sor r (stabF lt l)) := by
  obtain ⟨W, w1, w2, w3⟩ := ph1_spec hf l.length [] l (Nat.le_refl _)
  rw [List.nil_append, List.length_nil, Nat.zero_add, List.nil_append] at w1
  have hw := w2.length_eq
  obtain ⟨Z, z1, z2, z3⟩ := ph3_spec hf W.length W 20 (by omega) (by omega) (by omega)
  have e : stabF lt l = Z := by unfold stabF; rw [w1, ← hw]; exact z1
  rw [e]
  exact ⟨z2.trans w2, fun hP => z3 (fun x h => hP x (w2.mem_iff.1 h)) (w3 hP)⟩
theorem stab_perm (l : List α) (hl : l.length ≤ fuelF) : (stabF lt l).Perm l := (stab_spec (.no lt) l hl).1
/-- Where there is a strict order of the elements, it comes out. -/
theorem stab_strict [DecidableEq α] {l d : List α} (hl : l.length ≤ fuelF) (hp : d.Perm l) (hs : d.Pairwise fun x y => lt x y = true) (ha : ∀ x y, lt x y = true → lt y x = true → False) : stabF lt l = d := by
  have hnd : d.Nodup := hs.imp fun {a b} h e => by subst e; exact ha _ _ h h
  have hlt : ∀ i j (hi : i < d.length) (hj : j < d.length), lt d[i] d[j] = true ↔ i < j := fun i j hi hj => by
    constructor
    · intro h
      rcases Nat.lt_trichotomy i j with k | k | k
      · exact k
      · subst k; exact (ha _ _ h h).elim
      · exact (ha _ _ h (List.pairwise_iff_getElem.1 hs j i hj hi k)).elim
    · intro h; exact List.pairwise_iff_getElem.1 hs i j hi hj h
  have hf : Fits lt (fun x => d.idxOf x) (fun x => x ∈ d) := fun x y hx hy => by
    have h1 := List.idxOf_lt_length_of_mem hx
    have h2 := List.idxOf_lt_length_of_mem hy
    have := hlt _ _ h1 h2
    rwa [List.getElem_idxOf, List.getElem_idxOf] at this
  obtain ⟨q1, q2⟩ := stab_spec hf l hl
  have q3 := q2 fun x h => hp.mem_iff.2 h
  have hsd : Sor (fun x => d.idxOf x) d := by
    unfold Sor
    rw [List.pairwise_iff_getElem]
    intro i j hi hj hij
    have := (hf d[i] d[j] (List.getElem_mem hi) (List.getElem_mem hj)).1 ((hlt i j hi hj).2 hij)
    exact Nat.le_of_lt this
  refine List.Perm.eq_of_pairwise (le := fun x y => d.idxOf x ≤ d.idxOf y) ?_ q3 hsd (q1.trans hp.symm)
  intro a b h1 h2 h3 h4
  have h1' : a ∈ d := hp.mem_iff.2 (q1.mem_iff.1 h1)
  have e : d.idxOf a = d.idxOf b := Nat.le_antisymm h3 h4
  have g1 := List.getElem_idxOf (List.idxOf_lt_length_of_mem h1')
  have g2 := List.getElem_idxOf (List.idxOf_lt_length_of_mem h2)
  rw [← g1, ← g2]
  simp only [e]
end Go.Srt
set_option maxRecDepth 8000
set_option linter.unusedVariables false
namespace Go.Proofs.Ytohhhaeemephnaa
open Go.Vk
attribute [local irreducible] HT HX RegS RegA RegM OpP OpC AltT
def ltF (a b : Lv.File) : Bool := decide (Lv.cmpF a b < 0)
theorem lvSwapR (u : Value) (l : List Lv.File) (a b n : Nat) (h1 : b + n ≤ l.length) (h2 : a + n ≤ b) (hl : l.length ≤ 100000) : CallsC Try.prog 71 [Is u, okI .i64 (a : Int), okI .i64 (b : Int), okI .i64 (n : Int), TFn 51 []] [ownR u 31 5 Lv.cFile l] (fun _ => TTup []) (fun _ => [ownR u 31 5 Lv.cFile (Srt.swR l a b n)]) := by
  have pl := Plan.mk' 3 [(0,3,[]),(1,3,[]),(2,3,[]),(3,3,[]),(4,3,[]),(5,3,[]),(6,3,[]),(7,3,[]),(8,3,[]),(9,3,[]),(10,3,[]),(11,3,[]),(14,3,[]),(15,3,[]),(16,3,[]),(17,3,[]),(12,3,[]),(18,3,[]),(13,1,[]),(19,1,[]),(20,3,[]),(21,0,[]),(22,3,[]),(23,0,[])]
  refine CallsC.of Try.call71 Try.func71 rfl Try.ntmps71 rfl fun w0 G0 S0 hs ho => ?_
  refine HT.openR 0 rfl (fun e1 e2 => ?_) (fun g c e1 => ?_)
  · subst e1 e2
    have e0 : n = 0 := by simp at h1; omega
    subst e0
    refine run ?_
    refine HT.loopX (σ := Unit) [0, 3] (fun _ => [(10, okI .i64 0)]) (fun _ => []) (fun _ => True) (fun _ => 0) () trivial (run trivial) (run trivial) ?_
    intro _ _
    exact run trivial
  · subst e1
    refine run ?_
    refine HT.loopX (σ := Nat × List Lv.File) [0, 1, 2, 3] (fun t => [(10, okI .i64 (t.1 : Int))]) (fun t => [ownA g c 31 5 Lv.cFile t.2]) (fun t => t.1 ≤ n ∧ t.2 = Srt.swR l a b t.1) (fun t => n - t.1) (0, l) ⟨Nat.zero_le _, rfl⟩ (run trivial) (run trivial) ?_
    rintro ⟨i, m⟩ ⟨hi, hr⟩
    dsimp only at hi hr ⊢
    have hml : m.length = l.length := by rw [hr, Srt.swR_len]
    by_cases hlt : i < n
    · have hst : (m.set (a + i) (m.getD (b + i) default)).length = l.length := by rw [List.length_set, hml]
      refine run ?_
      intro _
      exact HX.roundX (i + 1, Srt.swp m (a + i) (b + i)) ⟨⟨by dsimp only; omega, by dsimp only; rw [Srt.swR, hr]⟩, by dsimp only; omega⟩ rfl (run trivial) (run trivial)
    · have e : i = n := by omega
      subst e
      rw [← hr]
      exact run trivial
/-- The same, of any whole numbers that fit. -/
theorem lvSwapZ (u : Value) (l : List Lv.File) (x y z : Int) (h0 : 0 ≤ x ∧ 0 ≤ z) (h1 : y + z ≤ (l.length : Int)) (h2 : x + z ≤ y) (hl : l.length ≤ 100000) : CallsC Try.prog 71 [Is u, okI .i64 x, okI .i64 y, okI .i64 z, TFn 51 []] [ownR u 31 5 Lv.cFile l] (fun _ => TTup []) (fun _ => [ownR u 31 5 Lv.cFile (Srt.swR l x.toNat y.toNat z.toNat)]) := by
  have := lvSwapR u l x.toNat y.toNat z.toNat (by omega) (by omega) hl
  rwa [Int.toNat_of_nonneg h0.1, Int.toNat_of_nonneg h0.2, Int.toNat_of_nonneg (show 0 ≤ y by omega)] at this
theorem lvRotR (u : Value) (l : List Lv.File) (a m b : Nat) (h1 : a < m) (h2 : m < b) (h3 : b ≤ l.length) (hl : l.length ≤ 100000) : CallsC Try.prog 70 [Is u, okI .i64 (a : Int), okI .i64 (m : Int), okI .i64 (b : Int), TFn 51 []] [ownR u 31 5 Lv.cFile l] (fun _ => TTup []) (fun _ => [ownR u 31 5 Lv.cFile (Srt.rotL l a m b)]) := by
  have c1 := lvSwapZ u
  refine CallsC.of Try.call70 Try.func70 rfl Try.ntmps70 rfl fun w0 G0 S0 hs ho => ?_
  refine run ?_
  refine HT.loopX (σ := Int × Int × List Lv.File) [0, 2, 4] (fun t => [(10, okI .i64 t.1), (11, okI .i64 t.2.1)]) (fun t => [ownR u 31 5 Lv.cFile t.2.2]) (fun t => (1 ≤ t.1 ∧ 1 ≤ t.2.1 ∧ t.1 ≤ (m : Int) ∧ (m : Int) + t.2.1 ≤ (l.length : Int)) ∧ t.2.2.length = l.length ∧ Srt.rotL t.2.2 (m - t.1.toNat) m (m + t.2.1.toNat) = Srt.rotL l a m b) (fun t => (t.1 + t.2.1).toNat) ((m : Int) - (a : Int), (b : Int) - (m : Int), l) ⟨by dsimp only; omega, rfl, by dsimp only; rw [show m - ((m : Int) - (a : Int)).toNat = a by omega, show m + ((b : Int) - (m : Int)).toNat = b by omega]⟩ (run trivial) (run trivial) ?_
  rintro ⟨i, j, c⟩ ⟨hi, hc, hr⟩
  dsimp only at hi hc hr ⊢
  have e1 : ((m : Int) - i).toNat = m - i.toNat := by omega
  have e2 : ((m : Int)).toNat = m := by omega
  have e3 : ((m : Int) + j - i).toNat = m + j.toNat - i.toNat := by omega
  rcases Int.lt_trichotomy i j with h | h | h
  · have hn : ¬ j < i := by omega
    have hne : ¬ i = j := by omega
    refine run ?_
    intros
    exact HX.roundX (i, j - i, Srt.swR c ((m : Int) - i).toNat ((m : Int) + j - i).toNat i.toNat) ⟨⟨by dsimp only; omega, by dsimp only; rw [Srt.swR_len, hc], by dsimp only; rw [e1, e3, show (j - i).toNat = j.toNat - i.toNat by omega, Srt.rot_less (by omega) (by omega) (by omega), hr]⟩, by dsimp only; omega⟩ rfl (run trivial) (run trivial)
  · subst h
    have e : Srt.swR c ((m : Int) - i).toNat ((m : Int)).toNat i.toNat = Srt.rotL l a m b := by rw [e1, e2, Srt.rot_even (by omega) (by omega), hr]
    rw [← e]
    exact run trivial
  · have hne : ¬ i = j := by omega
    refine run ?_
    intros
    exact HX.roundX (i - j, j, Srt.swR c ((m : Int) - i).toNat ((m : Int)).toNat j.toNat) ⟨⟨by dsimp only; omega, by dsimp only; rw [Srt.swR_len, hc], by dsimp only; rw [e1, e2, show (i - j).toNat = i.toNat - j.toNat by omega, Srt.rot_more (by omega) (by omega) (by omega), hr]⟩, by dsimp only; omega⟩ rfl (run trivial) (run trivial)
end Go.Proofs.Ytohhhaeemephnaa
set_option linter.unusedVariables false
set_option linter.unusedSectionVars false
namespace Go.Srt
variable {α : Type} [Inhabited α] {lt : α → α → Bool}
theorem sink_yes {l : List α} {a j : Nat} (h : a < j) (k : lt (l.getD j default) (l.getD (j - 1) default) = true) : sink lt (swp l j (j - 1)) a (j - 1) = sink lt l a j := by
  cases j with
  | zero => omega
  | succ j =>
    rw [Nat.add_sub_cancel] at k ⊢
    conv => rhs; rw [sink]
    rw [if_pos ⟨h, k⟩]
theorem sink_no {l : List α} {a j : Nat} (h : ¬ a < j ∨ lt (l.getD j default) (l.getD (j - 1) default) = false) : sink lt l a j = l := by
  cases j with
  | zero => rfl
  | succ j =>
    rw [Nat.add_sub_cancel] at h
    rw [sink, if_neg]
    rintro ⟨h1, h2⟩
    rcases h with h | h
    · exact h h1
    · rw [h] at h2; cases h2
end Go.Srt
set_option maxRecDepth 8000
set_option linter.unusedVariables false
namespace Go.Proofs.Ytohhhaeemephnaa
open Go.Vk
attribute [local irreducible] HT HX RegS RegA RegM OpP OpC AltT
theorem lvInsR (u : Value) (l : List Lv.File) (a b : Nat) (h1 : a ≤ b) (h2 : b ≤ l.length) (hl : l.length ≤ 100000) : CallsC Try.prog 66 [Is u, okI .i64 (a : Int), okI .i64 (b : Int), TFn 51 []] [ownR u 31 5 Lv.cFile l] (fun _ => TTup []) (fun _ => [ownR u 31 5 Lv.cFile (Srt.insN ltF l a (b - a - 1))]) := by
  have c1 := lvCompare
  have pl := Plan.mk' 6 [(0,3,[]),(1,3,[]),(2,3,[]),(3,3,[]),(4,3,[]),(5,3,[]),(6,3,[]),(7,3,[]),(10,3,[]),(11,3,[]),(8,3,[]),(12,3,[]),(9,1,[]),(13,1,[]),(14,3,[]),(15,0,[]),(16,3,[]),(17,0,[])]
  refine CallsC.of Try.call66 Try.func66 rfl Try.ntmps66 rfl fun w0 G0 S0 hs ho => ?_
  refine HT.openR 0 rfl (fun e1 e2 => ?_) (fun g c e1 => ?_)
  · subst e1 e2
    have e0 : b = 0 := by simp at h2; omega
    subst e0
    have e0 : a = 0 := by omega
    subst e0
    refine run ?_
    refine HT.loopX (σ := Unit) [0, 1, 2, 3] (fun _ => [(8, okI .i64 1)]) (fun _ => []) (fun _ => True) (fun _ => 0) () trivial (run trivial) (run trivial) ?_
    intro _ _
    exact run trivial
  · subst e1
    refine run ?_
    refine HT.loopX (σ := Nat × List Lv.File) [0, 1, 2, 3] (fun t => [(8, okI .i64 ((a : Int) + 1 + (t.1 : Int)))]) (fun t => [ownA g c 31 5 Lv.cFile t.2]) (fun t => t.1 ≤ b - a - 1 ∧ t.2 = Srt.insN ltF l a t.1) (fun t => b - a - t.1) (0, l) ⟨Nat.zero_le _, rfl⟩ (run trivial) (run trivial) ?_
    rintro ⟨n, m⟩ ⟨hi, hr⟩
    dsimp only at hi hr ⊢
    have hml : m.length = l.length := by rw [hr, Srt.insN_len]
    by_cases hlt : a + 1 + n < b
    · refine run ?_
      intros
      refine HT.loopX (σ := Nat × List Lv.File) [0, 1, 2, 3, 8] (fun t => [(9, okI .i64 (t.1 : Int))]) (fun t => [ownA g c 31 5 Lv.cFile t.2]) (fun t => (a ≤ t.1 ∧ t.1 ≤ a + 1 + n) ∧ t.2.length = l.length ∧ Srt.sink ltF t.2 a t.1 = Srt.insN ltF l a (n + 1)) (fun t => t.1) (a + 1 + n, m) ⟨by dsimp only; omega, hml, by dsimp only; rw [Srt.insN, hr]⟩ (run trivial) (run trivial) ?_
      rintro ⟨j, q⟩ ⟨hj, hql, hs⟩
      dsimp only at hj hql hs ⊢
      have e1 : ((j : Int) - 1).toNat = j - 1 := by omega
      have hst : (q.set j (q.getD ((j : Int) - 1).toNat default)).length = l.length := by rw [List.length_set, hql]
      refine run ?_
      rw [e1]
      refine ⟨fun h => ?_, fun h => ?_⟩
      · exact HX.roundX (j - 1, Srt.swp q j (j - 1)) ⟨⟨by dsimp only; omega, by dsimp only; rw [Srt.swp_len, hql], by dsimp only; rw [Srt.sink_yes (by omega) (decide_eq_true h.2), hs]⟩, by dsimp only; omega⟩ rfl (run trivial) (run trivial)
      · have e2 : q = Srt.insN ltF l a (n + 1) := by
          rw [← hs, Srt.sink_no]
          rcases h with h | h
          · left; omega
          · right; exact decide_eq_false h
        exact HX.roundX (n + 1, q) ⟨⟨by dsimp only; omega, e2⟩, by dsimp only; omega⟩ rfl (run trivial) (run trivial)
    · have e : n = b - a - 1 := by omega
      subst e
      rw [← hr]
      exact run trivial
end Go.Proofs.Ytohhhaeemephnaa
set_option maxRecDepth 8000
set_option linter.unusedVariables false
namespace Go.Proofs.Ytohhhaeemephnaa
open Go.Vk
attribute [local irreducible] HT HX RegS RegA RegM OpP OpC AltT
attribute [local irreducible] Srt.rotL Srt.symS
set_option maxHeartbeats 4000000 in
theorem lvSymA (u : Value) (l : List Lv.File) (a m b : Nat) (h1 : a < m) (h2 : m < b) (h3 : b ≤ l.length) (hl : l.length ≤ 100000) (k1 : (m : Int) - (a : Int) = 1) : CallsC Try.prog 67 [Is u, okI .i64 (a : Int), okI .i64 (m : Int), okI .i64 (b : Int), TFn 51 []] [ownR u 31 5 Lv.cFile l] (fun _ => TTup []) (fun _ => [ownR u 31 5 Lv.cFile (Srt.rotL l a m (Srt.bs (Srt.oneU ltF l a) m b))]) := by
  have c1 := lvCompare
  have pl := Plan.mk' 11 [(0,3,[]),(1,3,[]),(2,3,[]),(3,3,[]),(4,3,[]),(5,3,[]),(6,3,[]),(7,3,[]),(10,3,[]),(11,3,[]),(8,3,[]),(12,3,[]),(9,1,[]),(13,1,[]),(14,3,[]),(15,0,[]),(16,3,[]),(17,0,[])]
  refine CallsC.of Try.call67 Try.func67 rfl Try.ntmps67 rfl fun w0 G0 S0 hs ho => ?_
  refine run ?_
  intro _
  refine HT.loopX (σ := Nat × Nat) [0, 1, 2, 3, 4] (fun t => [(10, okI .i64 (t.1 : Int)), (11, okI .i64 (t.2 : Int))]) (fun t => [ownR u 31 5 Lv.cFile l]) (fun t => (m ≤ t.1 ∧ t.1 ≤ t.2 ∧ t.2 ≤ b) ∧ Srt.bs (Srt.oneU ltF l a) t.1 t.2 = Srt.bs (Srt.oneU ltF l a) m b) (fun t => t.2 - t.1) (m, b) ⟨by dsimp only; omega, rfl⟩ (run trivial) (run trivial) ?_
  rintro ⟨i, j⟩ ⟨hi, hb⟩
  dsimp only at hi hb ⊢
  have ea : ((a : Int)).toNat = a := by omega
  have em : (((i : Int) + (j : Int)) / 2).toNat = (i + j) / 2 := by omega
  by_cases hlt : i < j
  · refine run ?_
    rw [ea, em]
    refine ⟨fun _ h => ?_, fun _ h => ?_⟩
    · exact HX.roundX ((i + j) / 2 + 1, j) ⟨⟨by dsimp only; omega, by dsimp only; rw [Srt.bs_yes hlt (decide_eq_true h), hb]⟩, by dsimp only; omega⟩ rfl (run trivial) (run trivial)
    · exact HX.roundX (i, (i + j) / 2) ⟨⟨by dsimp only; omega, by dsimp only; rw [Srt.bs_no hlt (decide_eq_false h), hb]⟩, by dsimp only; omega⟩ rfl (run trivial) (run trivial)
  · have e0 : i = j := by omega
    subst e0
    rw [Srt.bs_end hlt] at hb
    rw [← hb]
    refine run ?_
    intros
    refine HT.openR 0 rfl (fun e1 e2 => ?_) (fun g c' e1 => ?_)
    · subst e2
      simp at h3
      omega
    · subst e1
      have er : Srt.rotL l a (a + 1) (a + 1) = l := Srt.rot_same l (.inr rfl) (by omega) (by omega) (by omega)
      refine HT.loopX (σ := Nat × List Lv.File) [0, 1, 2, 3, 4, 10] (fun t => [(13, okI .i64 (t.1 : Int))]) (fun t => [ownA g c' 31 5 Lv.cFile t.2]) (fun t => (a ≤ t.1 ∧ t.1 + 1 ≤ i) ∧ t.2 = Srt.rotL l a (a + 1) (t.1 + 1)) (fun t => i - t.1) (a, l) ⟨by dsimp only; omega, er.symm⟩ (run trivial) (run trivial) ?_
      rintro ⟨k, q⟩ ⟨hk, hr⟩
      dsimp only at hk hr ⊢
      have hql : q.length = l.length := by rw [hr, Srt.rotL_len (by omega) (by omega) (by omega)]
      by_cases hlt2 : k + 1 < i
      · have hst : (q.set k (q.getD (k + 1) default)).length = l.length := by rw [List.length_set, hql]
        refine run ?_
        intros
        exact HX.roundX (k + 1, Srt.swp q k (k + 1)) ⟨⟨by dsimp only; omega, by dsimp only; rw [hr, Srt.rot_up (by omega) (by omega)]⟩, by dsimp only; omega⟩ rfl (run trivial) (run trivial)
      · have e : q = Srt.rotL l a m i := by rw [hr, show a + 1 = m by omega, show k + 1 = i by omega]
        rw [← e]
        exact run trivial
set_option maxHeartbeats 4000000 in
theorem lvSymB (u : Value) (l : List Lv.File) (a m b : Nat) (h1 : a < m) (h2 : m < b) (h3 : b ≤ l.length) (hl : l.length ≤ 100000) (k1 : ¬ (m : Int) - (a : Int) = 1) (k2 : (b : Int) - (m : Int) = 1) : CallsC Try.prog 67 [Is u, okI .i64 (a : Int), okI .i64 (m : Int), okI .i64 (b : Int), TFn 51 []] [ownR u 31 5 Lv.cFile l] (fun _ => TTup []) (fun _ => [ownR u 31 5 Lv.cFile (Srt.rotL l (Srt.bs (Srt.oneD ltF l m) a m) m b)]) := by
  have c1 := lvCompare
  have pl := Plan.mk' 23 [(0,3,[]),(1,3,[]),(2,3,[]),(3,3,[]),(4,3,[]),(5,3,[]),(6,3,[]),(7,3,[]),(10,3,[]),(11,3,[]),(8,3,[]),(12,3,[]),(9,1,[]),(13,1,[]),(14,3,[]),(15,0,[]),(16,3,[]),(17,0,[])]
  refine CallsC.of Try.call67 Try.func67 rfl Try.ntmps67 rfl fun w0 G0 S0 hs ho => ?_
  refine run ?_
  intros
  refine HT.loopX (σ := Nat × Nat) [0, 1, 2, 3, 4] (fun t => [(14, okI .i64 (t.1 : Int)), (15, okI .i64 (t.2 : Int))]) (fun t => [ownR u 31 5 Lv.cFile l]) (fun t => (a ≤ t.1 ∧ t.1 ≤ t.2 ∧ t.2 ≤ m) ∧ Srt.bs (Srt.oneD ltF l m) t.1 t.2 = Srt.bs (Srt.oneD ltF l m) a m) (fun t => t.2 - t.1) (a, m) ⟨by dsimp only; omega, rfl⟩ (run trivial) (run trivial) ?_
  rintro ⟨i, j⟩ ⟨hi, hb⟩
  dsimp only at hi hb ⊢
  have ea : ((m : Int)).toNat = m := by omega
  have em : (((i : Int) + (j : Int)) / 2).toNat = (i + j) / 2 := by omega
  by_cases hlt : i < j
  · refine run ?_
    rw [ea, em]
    refine ⟨fun _ h => ?_, fun _ h => ?_⟩
    · exact HX.roundX ((i + j) / 2 + 1, j) ⟨⟨by dsimp only; omega, by dsimp only; rw [Srt.bs_yes hlt (by unfold Srt.oneD ltF; rw [decide_eq_false h]; rfl), hb]⟩, by dsimp only; omega⟩ rfl (run trivial) (run trivial)
    · exact HX.roundX (i, (i + j) / 2) ⟨⟨by dsimp only; omega, by dsimp only; rw [Srt.bs_no hlt (by unfold Srt.oneD ltF; rw [decide_eq_true h]; rfl), hb]⟩, by dsimp only; omega⟩ rfl (run trivial) (run trivial)
  · have e0 : i = j := by omega
    subst e0
    rw [Srt.bs_end hlt] at hb
    rw [← hb]
    refine run ?_
    intros
    refine HT.openR 0 rfl (fun e1 e2 => ?_) (fun g c' e1 => ?_)
    · subst e2
      simp at h3
      omega
    · subst e1
      have er : Srt.rotL l m m (m + 1) = l := Srt.rot_same l (.inl rfl) (by omega) (by omega) (by omega)
      refine HT.loopX (σ := Nat × List Lv.File) [0, 1, 2, 3, 4, 14] (fun t => [(17, okI .i64 (t.1 : Int))]) (fun t => [ownA g c' 31 5 Lv.cFile t.2]) (fun t => (i ≤ t.1 ∧ t.1 ≤ m) ∧ t.2 = Srt.rotL l t.1 m (m + 1)) (fun t => t.1) (m, l) ⟨by dsimp only; omega, er.symm⟩ (run trivial) (run trivial) ?_
      rintro ⟨k, q⟩ ⟨hk, hr⟩
      dsimp only at hk hr ⊢
      have hql : q.length = l.length := by rw [hr, Srt.rotL_len (by omega) (by omega) (by omega)]
      by_cases hlt2 : i < k
      · have e3 : ((k : Int) - 1).toNat = k - 1 := by omega
        have hst : (q.set k (q.getD ((k : Int) - 1).toNat default)).length = l.length := by rw [List.length_set, hql]
        refine run ?_
        rw [e3]
        intros
        exact HX.roundX (k - 1, Srt.swp q k (k - 1)) ⟨⟨by dsimp only; omega, by
          dsimp only
          obtain ⟨k', rfl⟩ : ∃ k', k = k' + 1 := ⟨k - 1, by omega⟩
          rw [hr, Nat.add_sub_cancel, Srt.rot_down (by omega) (by omega)]⟩, by dsimp only; omega⟩ rfl (run trivial) (run trivial)
      · have e : q = Srt.rotL l i m b := by rw [hr, show b = m + 1 by omega, show k = i by omega]
        rw [← e]
        exact run trivial
end Go.Proofs.Ytohhhaeemephnaa
namespace Go.Srt
theorem symF_len {α : Type} [Inhabited α] {lt : α → α → Bool} {f : Nat} {l : List α} {a m b : Nat} (h1 : a < m) (h2 : m < b) (h3 : b ≤ l.length) (hf : b - a ≤ f) : (symF lt f l a m b).length = l.length := by
  have e : l = l.take a ++ ((l.drop a).take (m - a) ++ ((l.drop m).take (b - m) ++ l.drop b)) := by
    have q1 : l.drop m = (l.drop m).take (b - m) ++ l.drop b := by
      conv => lhs; rw [← List.take_append_drop (b - m) (l.drop m)]
      rw [List.drop_drop, show m + (b - m) = b by omega]
    have q2 : l.drop a = (l.drop a).take (m - a) ++ l.drop m := by
      conv => lhs; rw [← List.take_append_drop (m - a) (l.drop a)]
      rw [List.drop_drop, show a + (m - a) = m by omega]
    rw [← q1, ← q2, List.take_append_drop]
  have n1 : (l.take a).length = a := by rw [List.length_take]; omega
  have n2 : ((l.drop a).take (m - a)).length = m - a := by rw [List.length_take, List.length_drop]; omega
  have n3 : ((l.drop m).take (b - m)).length = b - m := by rw [List.length_take, List.length_drop]; omega
  obtain ⟨Z, z1, z2, _⟩ := sym_spec (.no lt) f (l.take a) ((l.drop a).take (m - a)) ((l.drop m).take (b - m)) (l.drop b) (by omega) (by omega) (by omega)
  rw [← e, n1, n2, n3, show a + (m - a) = m by omega, show m + (b - m) = b by omega] at z1
  have n4 := z2.length_eq
  rw [List.length_append, n2, n3] at n4
  rw [z1]
  simp only [List.length_append, n1, n4, List.length_drop]
  omega
end Go.Srt
set_option maxRecDepth 8000
set_option linter.unusedVariables false
namespace Go.Proofs.Ytohhhaeemephnaa
open Go.Vk
attribute [local irreducible] HT HX RegS RegA RegM OpP OpC AltT
attribute [local irreducible] Srt.rotL Srt.symS
/-- The same, of any whole numbers that fit. -/
theorem lvRotZ (u : Value) (l : List Lv.File) (x y z : Int) (h0 : 0 ≤ x) (h1 : x < y) (h2 : y < z) (h3 : z ≤ (l.length : Int)) (hl : l.length ≤ 100000) : CallsC Try.prog 70 [Is u, okI .i64 x, okI .i64 y, okI .i64 z, TFn 51 []] [ownR u 31 5 Lv.cFile l] (fun _ => TTup []) (fun _ => [ownR u 31 5 Lv.cFile (Srt.rotL l x.toNat y.toNat z.toNat)]) := by
  have := lvRotR u l x.toNat y.toNat z.toNat (by omega) (by omega) (by omega) hl
  rwa [Int.toNat_of_nonneg h0, Int.toNat_of_nonneg (show 0 ≤ y by omega), Int.toNat_of_nonneg (show 0 ≤ z by omega)] at this
end Go.Proofs.Ytohhhaeemephnaa
