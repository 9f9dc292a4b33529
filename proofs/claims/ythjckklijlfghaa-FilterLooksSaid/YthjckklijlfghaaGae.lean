/-
  Calls that are handed what is one's own, and returns that hand it back. Nothing here speaks of a program; no conditions.
  Returns that hand resources back, results that are variables; loops and joints with resources. Nothing here speaks of a program; no conditions.
  Rules for structs by value, strings, rows of structs. Nothing here speaks of a program; no conditions.
  Rules for conversions of texts, equality of structs, least and greatest, functions as values. Nothing here speaks of a program; no conditions.
-/
import Derived.Test.YthjckklijlfghaaGad
import Derived.Laws.StructEq
import Derived.Laws.IdiomStrings
set_option linter.unusedSimpArgs false
set_option linter.unusedVariables false
set_option linter.unusedVariables false
namespace Go.Vk

/-! ### weaker resources -/
def RSub (R R' : Res) : Prop := ∀ S G w, R.p S G w → R'.p S G w
theorem RSub.refl (R : Res) : RSub R R := fun _ _ _ h => h
def LSub : List Res → List Res → Prop
  | [], [] => True
  | R :: A, R' :: B => RSub R R' ∧ LSub A B
  | _, _ => False
theorem LSub.nil : LSub [] [] := trivial
theorem LSub.cons {R R' : Res} {A B : List Res} (h : RSub R R') (k : LSub A B) : LSub (R :: A) (R' :: B) := ⟨h, k⟩
theorem LSub.refl : ∀ L, LSub L L
  | [] => trivial
  | R :: L => ⟨RSub.refl R, LSub.refl L⟩
theorem LSub.get : ∀ {A B : List Res}, LSub A B → A.length = B.length ∧ ∀ (i : Nat) (R' : Res), B[i]? = some R' → ∃ R, A[i]? = some R ∧ RSub R R'
  | [], [], _ => ⟨rfl, fun i R h => by simp at h⟩
  | R :: A, R' :: B, ⟨h, k⟩ => by
    obtain ⟨h1, h2⟩ := LSub.get k
    refine ⟨by simp [h1], fun i R'' hi => ?_⟩
    cases i with
    | zero => simp at hi; subst hi; exact ⟨R, rfl, h⟩
    | succ i => simpa using h2 i R'' (by simpa using hi)
  | [], _ :: _, h => h.elim
  | _ :: _, [], h => h.elim
theorem Owns.sub {S : Nat → Nat → Prop} {A B : List Res} {G : Imm} {w : World} (h : Owns S A G w) (k : LSub A B) : Owns S B G w := by
  obtain ⟨h1, h2⟩ := LSub.get k
  refine ⟨h.bound, h.disj, fun i b hb => by rw [← h1]; exact h.inL i b hb, fun i R' hi => ?_⟩
  obtain ⟨R, h3, h4⟩ := h2 i R' hi
  exact h4 _ _ _ (h.res i R h3)
def TsSub : List Ty → List Ty → Prop
  | [], [] => True
  | T :: A, U :: B => Sub T U ∧ TsSub A B
  | _, _ => False
theorem TsSub.nil : TsSub [] [] := trivial
theorem TsSub.cons {T U : Ty} {A B : List Ty} (h : Sub T U) (k : TsSub A B) : TsSub (T :: A) (U :: B) := ⟨h, k⟩
theorem TsSub.get : ∀ {A B : List Ty}, TsSub A B → A.length = B.length ∧ ∀ (i : Nat) (U : Ty), B[i]? = some U → ∃ T, A[i]? = some T ∧ Sub T U
  | [], [], _ => ⟨rfl, fun i R h => by simp at h⟩
  | R :: A, R' :: B, ⟨h, k⟩ => by
    obtain ⟨h1, h2⟩ := TsSub.get k
    refine ⟨by simp [h1], fun i R'' hi => ?_⟩
    cases i with
    | zero => simp at hi; subst hi; exact ⟨R, rfl, h⟩
    | succ i => simpa using h2 i R'' (by simpa using hi)
  | [], _ :: _, h => h.elim
  | _ :: _, [], h => h.elim
theorem RSub.own {g : Nat} {e : TypeId} {A B : List Ty} (h : TsSub A B) : RSub (ownP g e A) (ownP g e B) := by
  rintro S G w ⟨h1, ⟨cs, h2, h3, h4⟩, h5⟩
  obtain ⟨k1, k2⟩ := TsSub.get h
  refine ⟨h1, ⟨cs, h2, by omega, fun j U hj => ?_⟩, h5⟩
  obtain ⟨T, e1, e2⟩ := k2 j U hj
  obtain ⟨u, a, b, c⟩ := h4 j T e1
  exact ⟨u, a, e2 _ _ b, c⟩

/-! ### some of the resources -/
/-- The resources at some places, each as it is wanted. -/
def PickL (L : List Res) : List Nat → List Res → Prop
  | [], [] => True
  | i :: is, R' :: B => (∃ R, L[i]? = some R ∧ RSub R R') ∧ PickL L is B
  | _, _ => False
theorem PickL.nil {L : List Res} : PickL L [] [] := trivial
theorem PickL.cons {L : List Res} {is : List Nat} {B : List Res} (i : Nat) {R R' : Res} (h : L[i]? = some R) (hs : RSub R R') (k : PickL L is B) : PickL L (i :: is) (R' :: B) := ⟨⟨R, h, hs⟩, k⟩
theorem PickL.at {L : List Res} : ∀ {is : List Nat} {B : List Res}, PickL L is B → is.length = B.length ∧ ∀ (k : Nat) (R' : Res), B[k]? = some R' → ∃ i R, is[k]? = some i ∧ L[i]? = some R ∧ RSub R R'
  | [], [], _ => ⟨rfl, fun i R h => by simp at h⟩
  | i :: is, R' :: B, ⟨⟨R, h, hs⟩, k⟩ => by
    obtain ⟨h1, h2⟩ := PickL.at k
    refine ⟨by simp [h1], fun j R'' hj => ?_⟩
    cases j with
    | zero => simp at hj; subst hj; exact ⟨i, R, rfl, h, hs⟩
    | succ j => simpa using h2 j R'' (by simpa using hj)
  | [], _ :: _, h => h.elim
  | _ :: _, [], h => h.elim
def distinct : List Nat → Bool
  | [] => true
  | i :: is => !(is.any (Nat.beq i)) && distinct is
theorem distinct.inj : ∀ {is : List Nat}, distinct is = true → ∀ (j k i : Nat), is[j]? = some i → is[k]? = some i → j = k
  | [], _, j, k, i, h, _ => by simp at h
  | a :: is, h, j, k, i, hj, hk => by
    simp only [distinct, Bool.and_eq_true, Bool.not_eq_true', List.any_eq_false] at h
    have hno : ∀ x ∈ is, a ≠ x := fun x hx e => h.1 x hx (by rw [e]; simp)
    cases j with
    | zero =>
      cases k with
      | zero => rfl
      | succ k => simp at hj hk; subst hj; exact absurd rfl (hno _ (List.mem_of_getElem? hk))
    | succ j =>
      cases k with
      | zero => simp at hj hk; subst hk; exact absurd rfl (hno _ (List.mem_of_getElem? hj))
      | succ k => rw [distinct.inj h.2 j k i (by simpa using hj) (by simpa using hk)]
theorem Owns.pick {S : Nat → Nat → Prop} {L B : List Res} {is : List Nat} {G : Imm} {w : World} (h : Owns S L G w) (hd : distinct is = true) (hp : PickL L is B) : Owns (fun k b => ∃ i : Nat, is[k]? = some i ∧ S i b) B G w := by
  obtain ⟨h1, h2⟩ := PickL.at hp
  refine ⟨fun k b ⟨i, _, hb⟩ => h.bound i b hb, ?_, ?_, ?_⟩
  · rintro j k b ⟨i, hi, hb⟩ ⟨i', hi', hb'⟩
    have := h.disj _ _ b hb hb'
    subst this
    exact distinct.inj hd j k i hi hi'
  · rintro k b ⟨i, hi, _⟩
    have := (List.getElem?_eq_some_iff.1 hi).1
    omega
  · intro k R' hk
    obtain ⟨i, R, h3, h4, h5⟩ := h2 k R' hk
    refine h5 _ _ _ (R.loc (h.res i R h4) (Imm.le.refl G) (fun b _ => ⟨rfl, fun _ => rfl⟩) |> fun hr => ?_)
    have : (fun b => ∃ i, is[k]? = some i ∧ S i b) = S i := by
      funext b
      apply propext
      constructor
      · rintro ⟨i', hi', hb⟩
        rw [h3] at hi'; cases hi'; exact hb
      · intro hb; exact ⟨i, h3, hb⟩
    rw [this]; exact hr

/-- Out of the resources at some places one resource is made. -/
def Pk (L : List Res) (js : List Nat) (R' : Res) : Prop := distinct js = true → ∀ S G w, Owns S L G w → R'.p (fun b => ∃ i, i ∈ js ∧ S i b) G w
def PickX (L : List Res) : List (List Nat) → List Res → Prop
  | [], [] => True
  | js :: iss, R' :: B => Pk L js R' ∧ PickX L iss B
  | _, _ => False
theorem one_place {S : Nat → Nat → Prop} (i : Nat) : (fun b => ∃ j, j ∈ [i] ∧ S j b) = S i := by
  funext b; apply propext
  constructor
  · rintro ⟨j, hj, h⟩; simp at hj; subst hj; exact h
  · intro h; exact ⟨i, by simp, h⟩
theorem PickX.nil {L : List Res} : PickX L [] [] := trivial
theorem PickX.own {L : List Res} {iss : List (List Nat)} {B : List Res} {g : Nat} {e : TypeId} {ts ts' : List Ty} (i : Nat) (h : L[i]? = some (ownP g e ts)) (hs : TsSub ts ts') (k : PickX L iss B) : PickX L ([i] :: iss) (ownP g e ts' :: B) :=
  ⟨fun _ S G w ho => by rw [one_place]; exact RSub.own hs _ _ _ (ho.res i _ h), k⟩
theorem PickX.any {L : List Res} {iss : List (List Nat)} {B : List Res} {R : Res} (i : Nat) (h : L[i]? = some R) (k : PickX L iss B) : PickX L ([i] :: iss) (R :: B) :=
  ⟨fun _ S G w ho => by rw [one_place]; exact ho.res i _ h, k⟩
theorem PickX.sl {L : List Res} {iss : List (List Nat)} {B : List Res} {v : Value} {sz : Nat} {e : TypeId} (i : Nat) (h : L[i]? = some (ownSl v sz e)) (k : PickX L iss B) : PickX L ([i] :: iss) (ownSl v sz e :: B) := .any i h k
theorem PickX.nilS {L : List Res} {iss : List (List Nat)} {B : List Res} {sz : Nat} {e : TypeId} (k : PickX L iss B) : PickX L ([] :: iss) (ownSl (.slice Option.none 0 0) sz e :: B) :=
  ⟨fun _ S G w ho => .inl ⟨rfl, fun b ⟨j, hj, _⟩ => by simp at hj⟩, k⟩
theorem distinct.append_left : ∀ {a b : List Nat}, distinct (a ++ b) = true → distinct a = true
  | [], _, _ => rfl
  | x :: a, b, h => by
    simp only [List.cons_append, distinct, Bool.and_eq_true, Bool.not_eq_true', List.any_append, Bool.or_eq_false_iff] at h ⊢
    exact ⟨h.1.1, distinct.append_left h.2⟩
theorem distinct.append_right : ∀ {a b : List Nat}, distinct (a ++ b) = true → distinct b = true
  | [], _, h => h
  | x :: a, b, h => by
    simp only [List.cons_append, distinct, Bool.and_eq_true] at h
    exact distinct.append_right h.2
theorem distinct.apart : ∀ {a b : List Nat}, distinct (a ++ b) = true → ∀ i, i ∈ a → i ∉ b
  | [], _, _, i, h => by simp at h
  | x :: a, b, h, i, hi => by
    simp only [List.cons_append, distinct, Bool.and_eq_true, Bool.not_eq_true', List.any_append, Bool.or_eq_false_iff, List.any_eq_false] at h
    rcases List.mem_cons.1 hi with e | e
    · intro hb; subst e; exact h.1.2 i hb (by simp)
    · exact distinct.apart h.2 i e
theorem PickX.len {L : List Res} : ∀ {iss : List (List Nat)} {B : List Res}, PickX L iss B → iss.length = B.length
  | [], [], _ => rfl
  | _ :: iss, _ :: B, ⟨_, k⟩ => by simp [PickX.len k]
  | [], _ :: _, h => h.elim
  | _ :: _, [], h => h.elim
theorem PickX.at {L : List Res} : ∀ {iss : List (List Nat)} {B : List Res}, PickX L iss B → ∀ (k : Nat) (R' : Res), B[k]? = some R' → ∃ js, iss[k]? = some js ∧ Pk L js R'
  | [], [], _, k, R', h => by simp at h
  | js :: iss, R :: B, ⟨h, hk⟩, k, R', e => by
    cases k with
    | zero => simp at e; subst e; exact ⟨js, rfl, h⟩
    | succ k => simpa using PickX.at hk k R' (by simpa using e)
  | [], _ :: _, h, _, _, _ => h.elim
  | _ :: _, [], h, _, _, _ => h.elim
theorem distinct.flat : ∀ {iss : List (List Nat)}, distinct iss.flatten = true → (∀ (k : Nat) js, iss[k]? = some js → distinct js = true) ∧ ∀ (j k : Nat) js ks i, iss[j]? = some js → iss[k]? = some ks → i ∈ js → i ∈ ks → j = k
  | [], _ => ⟨fun k js h => by simp at h, fun j k js ks i h => by simp at h⟩
  | a :: iss, h => by
    rw [List.flatten_cons] at h
    obtain ⟨h1, h2⟩ := distinct.flat (distinct.append_right h)
    have hmem : ∀ (k : Nat) ks i, iss[k]? = some ks → i ∈ ks → i ∈ iss.flatten := fun k ks i hk hi => List.mem_flatten.2 ⟨ks, List.mem_of_getElem? hk, hi⟩
    refine ⟨fun k js hk => ?_, fun j k js ks i hj hk hi hi' => ?_⟩
    · cases k with
      | zero => simp at hk; subst hk; exact distinct.append_left h
      | succ k => exact h1 k js (by simpa using hk)
    · cases j with
      | zero =>
        cases k with
        | zero => rfl
        | succ k => simp at hj; subst hj; exact absurd (hmem k ks i (by simpa using hk) hi') (distinct.apart h i hi)
      | succ j =>
        cases k with
        | zero => simp at hk; subst hk; exact absurd (hmem j js i (by simpa using hj) hi) (distinct.apart h i hi')
        | succ k => rw [h2 j k js ks i (by simpa using hj) (by simpa using hk) hi hi']
theorem Owns.pickX {S : Nat → Nat → Prop} {L B : List Res} {iss : List (List Nat)} {G : Imm} {w : World} (h : Owns S L G w) (hd : distinct iss.flatten = true) (hp : PickX L iss B) : Owns (fun k b => ∃ js, iss[k]? = some js ∧ ∃ i, i ∈ js ∧ S i b) B G w := by
  obtain ⟨hd1, hd2⟩ := distinct.flat hd
  refine ⟨fun k b ⟨_, _, i, _, hb⟩ => h.bound i b hb, ?_, ?_, ?_⟩
  · rintro j k b ⟨js, hj, i, hi, hb⟩ ⟨ks, hk, i', hi', hb'⟩
    have := h.disj _ _ b hb hb'
    subst this
    exact hd2 j k js ks i hj hk hi hi'
  · rintro k b ⟨js, hk, _⟩
    have := (List.getElem?_eq_some_iff.1 hk).1
    have := hp.len
    omega
  · intro k R' hk
    obtain ⟨js, h1, h2⟩ := hp.at k R' hk
    have : (fun b => ∃ js, iss[k]? = some js ∧ ∃ i, i ∈ js ∧ S i b) = (fun b => ∃ i, i ∈ js ∧ S i b) := by
      funext b; apply propext
      constructor
      · rintro ⟨js', hj, hb⟩; rw [h1] at hj; cases hj; exact hb
      · intro hb; exact ⟨js, h1, hb⟩
    rw [this]
    exact h2 (hd1 k js h1) S G w h

/-- Several resources as one; what they are in particular is hidden. -/
def packR {σ : Type} (Rs : σ → List Res) : Res where
  p S G w := ∃ (s : σ) (Sc : Nat → Nat → Prop), (∀ b, S b ↔ ∃ i, Sc i b) ∧ (∀ i j b, Sc i b → Sc j b → i = j) ∧ (∀ i b, Sc i b → i < (Rs s).length) ∧ ∀ (i : Nat) (r : Res), (Rs s)[i]? = some r → r.p (Sc i) G w
  loc := by
    rintro S G w G' w' ⟨s, Sc, h1, h2, h3, h4⟩ hle hb
    exact ⟨s, Sc, h1, h2, h3, fun i r hr => r.loc (h4 i r hr) hle (fun b hs => hb b ((h1 b).2 ⟨i, hs⟩))⟩
theorem PickX.pack {σ : Type} {Rs : σ → List Res} {L : List Res} {iss' iss : List (List Nat)} {B : List Res} {s : σ} (hp : PickX L iss' (Rs s)) (k : PickX L iss B) : PickX L (iss'.flatten :: iss) (packR Rs :: B) :=
  ⟨fun hd S G w ho => by
    have h := ho.pickX hd hp
    refine ⟨s, _, fun b => ?_, h.disj, h.inL, h.res⟩
    constructor
    · rintro ⟨i, hi, hb⟩
      obtain ⟨js, hj, hij⟩ := List.mem_flatten.1 hi
      obtain ⟨k, hk, e⟩ := List.getElem_of_mem hj
      exact ⟨k, js, by rw [List.getElem?_eq_getElem hk, e], i, hij, hb⟩
    · rintro ⟨k, js, hk, i, hi, hb⟩
      exact ⟨i, List.mem_flatten.2 ⟨js, List.mem_of_getElem? hk, hi⟩, hb⟩, k⟩
theorem Owns.unpack {σ : Type} {Rs : σ → List Res} {S : Nat → Nat → Prop} {L : List Res} {i : Nat} {G : Imm} {w : World} (h : Owns S L G w) (hL : L[i]? = some (packR Rs)) : ∃ s S', Owns S' (L.set i empR ++ Rs s) G w ∧ ∀ k b, S' k b → ∃ j, S j b := by
  obtain ⟨s, Sc, h1, h2, h3, h4⟩ := h.res i _ hL
  refine ⟨s, fun j b => if j < L.length then (j ≠ i ∧ S j b) else Sc (j - L.length) b, ⟨?_, ?_, ?_, ?_⟩, ?_⟩
  · intro j b hb
    split at hb
    · exact h.bound j b hb.2
    · exact h.bound i b ((h1 b).2 ⟨_, hb⟩)
  · intro j k b hb hb'
    split at hb <;> split at hb'
    · exact h.disj _ _ b hb.2 hb'.2
    · exact absurd (h.disj _ _ b hb.2 ((h1 b).2 ⟨_, hb'⟩)) hb.1
    · exact absurd (h.disj _ _ b hb'.2 ((h1 b).2 ⟨_, hb⟩)) hb'.1
    · have := h2 _ _ b hb hb'; omega
  · intro j b hb
    split at hb
    · simp; omega
    · have := h3 _ b hb; simp; omega
  · intro j r hr
    by_cases hj : j < L.length
    · rw [List.getElem?_append_left (by simpa using hj), List.getElem?_set] at hr
      by_cases hij : i = j
      · subst hij
        rw [if_pos rfl, if_pos hj] at hr
        cases hr
        trivial
      · rw [if_neg hij] at hr
        have : (fun b => if j < L.length then (j ≠ i ∧ S j b) else Sc (j - L.length) b) = S j := by
          funext b; rw [if_pos hj]; exact propext ⟨fun x => x.2, fun x => ⟨fun e => hij e.symm, x⟩⟩
        rw [this]; exact h.res j r hr
    · rw [List.getElem?_append_right (by simp; omega)] at hr
      simp only [List.length_set] at hr
      have : (fun b => if j < L.length then (j ≠ i ∧ S j b) else Sc (j - L.length) b) = Sc (j - L.length) := by
        funext b; rw [if_neg hj]
      rw [this]; exact h4 _ r hr
  · intro k b hb
    split at hb
    · exact ⟨k, hb.2⟩
    · exact ⟨i, (h1 b).2 ⟨_, hb⟩⟩

/-- The resources behind a call: those that were handed on as it hands them back, and new ones. -/
def updL : List Res → List Nat → List Res → List Res
  | L, i :: is, R :: Rs => updL (L.set i R) is Rs
  | L, [], Rs => L ++ Rs
  | L, _ :: _, [] => L
theorem updL.length : ∀ (is : List Nat) (L Rs : List Res), is.length ≤ Rs.length → (updL L is Rs).length = L.length + (Rs.length - is.length)
  | [], L, Rs, _ => by simp [updL]
  | i :: is, L, [], h => by simp at h
  | i :: is, L, R :: Rs, h => by
    rw [updL, updL.length is (L.set i R) Rs (by simpa using h)]
    simp
theorem updL.get : ∀ (is : List Nat) (L Rs : List Res), is.length ≤ Rs.length → distinct is = true → (∀ i ∈ is, i < L.length) → ∀ (j : Nat) (R : Res), (updL L is Rs)[j]? = some R →
    (∃ k : Nat, is[k]? = some j ∧ Rs[k]? = some R) ∨ (j ∉ is ∧ j < L.length ∧ L[j]? = some R) ∨ (L.length ≤ j ∧ Rs[is.length + (j - L.length)]? = some R)
  | [], L, Rs, _, _, _, j, R, h => by
    rw [updL, List.getElem?_append] at h
    split at h
    · rename_i hlt; exact .inr (.inl ⟨by simp, hlt, h⟩)
    · rename_i hlt; exact .inr (.inr ⟨by omega, by simpa using h⟩)
  | i :: is, L, [], h, _, _, _, _, _ => by simp at h
  | i :: is, L, R0 :: Rs, h, hd, hlt, j, R, hj => by
    rw [updL] at hj
    have hd' : distinct is = true := by simp only [distinct, Bool.and_eq_true] at hd; exact hd.2
    have hni : i ∉ is := by
      simp only [distinct, Bool.and_eq_true, Bool.not_eq_true', List.any_eq_false] at hd
      intro hm
      exact hd.1 i hm (by simp)
    have hil : i < L.length := hlt i (by simp)
    rcases updL.get is (L.set i R0) Rs (by simpa using h) hd' (fun k hk => by simpa using hlt k (by simp [hk])) j R hj with ⟨k, h1, h2⟩ | ⟨h1, h2, h3⟩ | ⟨h1, h2⟩
    · exact .inl ⟨k + 1, by simpa using h1, by simpa using h2⟩
    · rw [List.getElem?_set] at h3
      by_cases hij : i = j
      · subst hij
        rw [if_pos rfl, if_pos hil] at h3
        exact .inl ⟨0, rfl, h3⟩
      · rw [if_neg hij] at h3
        refine .inr (.inl ⟨?_, by simpa using h2, h3⟩)
        intro hm
        rcases List.mem_cons.1 hm with e | e
        · exact hij e.symm
        · exact h1 e
    · refine .inr (.inr ⟨by simpa using h1, ?_⟩)
      simp only [List.length_set] at h2
      rw [← h2, show (i :: is).length + (j - L.length) = (is.length + (j - L.length)) + 1 from by simp; omega]
      simp
theorem Owns.upd {S Sc : Nat → Nat → Prop} {L B : List Res} {is : List Nat} {G G' : Imm} {w w' : World} (h : Owns S L G w) (hd : distinct is = true) (hp : PickL L is B) {Z : Nat → Prop} (hz : ∀ b, Z b → ∃ (k i : Nat), is[k]? = some i ∧ S i b) (k : Ext Z G w G' w') {Rs : List Res} (hRs : is.length ≤ Rs.length)
    (hc : Owns Sc Rs G' w') (hcs : ∀ i b, Sc i b → w.heap.size ≤ b ∨ ∃ (k i : Nat), is[k]? = some i ∧ S i b) :
    ∃ S', Owns S' (updL L is Rs) G' w' ∧ ∀ i b, S' i b → w.heap.size ≤ b ∨ ∃ j, S j b := by
  obtain ⟨hp1, hp2⟩ := PickL.at hp
  have hmem : ∀ i ∈ is, i < L.length := by
    intro i hi
    obtain ⟨k, hk, e⟩ := List.getElem_of_mem hi
    obtain ⟨i', R, h3, h4, _⟩ := hp2 k (B[k]'(by omega)) (List.getElem?_eq_getElem (by omega))
    rw [List.getElem?_eq_getElem hk, e] at h3
    cases h3
    exact (List.getElem?_eq_some_iff.1 h4).1
  -- who holds what: a place that was handed on, one that was not, a new one
  let S' : Nat → Nat → Prop := fun j b => (∃ k, is[k]? = some j ∧ Sc k b) ∨ (j ∉ is ∧ j < L.length ∧ S j b) ∨ (L.length ≤ j ∧ Sc (is.length + (j - L.length)) b)
  have hnew : ∀ i b, Sc i b → ∀ j, j ∉ is → ¬ S j b := by
    intro i b hb j hj hs
    rcases hcs i b hb with h1 | ⟨k, i', hk, hb'⟩
    · have := h.bound j b hs; omega
    · have := h.disj _ _ b hs hb'
      subst this
      exact hj (List.mem_of_getElem? hk)
  refine ⟨S', ⟨?_, ?_, ?_, ?_⟩, ?_⟩
  · rintro j b (⟨k, _, hb⟩ | ⟨_, _, hb⟩ | ⟨_, hb⟩)
    · exact hc.bound _ b hb
    · exact Nat.lt_of_lt_of_le (h.bound j b hb) k.size
    · exact hc.bound _ b hb
  · rintro j j' b (⟨k1, hk1, hb⟩ | ⟨hn, hl, hb⟩ | ⟨hl, hb⟩) (⟨k2, hk2, hb'⟩ | ⟨hn', hl', hb'⟩ | ⟨hl', hb'⟩)
    · have := hc.disj _ _ b hb hb'
      subst this
      rw [hk1] at hk2; cases hk2; rfl
    · exact absurd hb' (hnew _ b hb j' hn')
    · have h1 := hc.disj _ _ b hb hb'
      have := (List.getElem?_eq_some_iff.1 hk1).1
      omega
    · exact absurd hb (hnew _ b hb' j hn)
    · exact h.disj _ _ b hb hb'
    · exact absurd hb (hnew _ b hb' j hn)
    · have h1 := hc.disj _ _ b hb hb'
      have := (List.getElem?_eq_some_iff.1 hk2).1
      omega
    · exact absurd hb' (hnew _ b hb j' hn')
    · have := hc.disj _ _ b hb hb'
      omega
  · rintro j b (⟨k1, hk1, hb⟩ | ⟨hn, hl, hb⟩ | ⟨hl, hb⟩)
    · rw [updL.length _ _ _ hRs]
      have := hmem j (List.mem_of_getElem? hk1)
      omega
    · rw [updL.length _ _ _ hRs]; omega
    · rw [updL.length _ _ _ hRs]
      have := hc.inL _ b hb
      omega
  · intro j R hj
    rcases updL.get is L Rs hRs hd hmem j R hj with ⟨k1, h1, h2⟩ | ⟨h1, h2, h3⟩ | ⟨h1, h2⟩
    · have hr := hc.res k1 R h2
      have : S' j = Sc k1 := by
        funext b
        apply propext
        constructor
        · rintro (⟨k2, hk2, hb⟩ | ⟨hn, _, _⟩ | ⟨hl, _⟩)
          · rw [distinct.inj hd k1 k2 j h1 hk2]; exact hb
          · exact absurd (List.mem_of_getElem? h1) hn
          · have := hmem j (List.mem_of_getElem? h1); omega
        · intro hb; exact .inl ⟨k1, h1, hb⟩
      rw [this]; exact hr
    · have hr := R.loc (h.res j R h3) k.le (fun b hb => k.blk b (h.bound j b hb) (fun hzb => by
        obtain ⟨k1, i, hi, hb'⟩ := hz b hzb
        have := h.disj _ _ b hb hb'
        subst this
        exact h1 (List.mem_of_getElem? hi)))
      have : S' j = S j := by
        funext b
        apply propext
        constructor
        · rintro (⟨k2, hk2, hb⟩ | ⟨_, _, hb⟩ | ⟨hl, _⟩)
          · exact absurd (List.mem_of_getElem? hk2) h1
          · exact hb
          · omega
        · intro hb; exact .inr (.inl ⟨h1, h2, hb⟩)
      rw [this]; exact hr
    · have hr := hc.res _ R h2
      have : S' j = Sc (is.length + (j - L.length)) := by
        funext b
        apply propext
        constructor
        · rintro (⟨k2, hk2, hb⟩ | ⟨_, hl, _⟩ | ⟨_, hb⟩)
          · have := hmem j (List.mem_of_getElem? hk2); omega
          · omega
          · exact hb
        · intro hb; exact .inr (.inr ⟨h1, hb⟩)
      rw [this]; exact hr
  · rintro j b (⟨k1, hk1, hb⟩ | ⟨hn, hl, hb⟩ | ⟨hl, hb⟩)
    · rcases hcs _ b hb with h1 | ⟨k2, i, _, h1⟩
      · exact .inl h1
      · exact .inr ⟨i, h1⟩
    · exact .inr ⟨j, hb⟩
    · rcases hcs _ b hb with h1 | ⟨k2, i, _, h1⟩
      · exact .inl h1
      · exact .inr ⟨i, h1⟩

section
variable {P : Program} {L : List Res} {E : Env} {dst : Option Tmp} {ty : TypeId} {pos : String} {after : Array Edge} {gd : Option (Nat × Bool)}
theorem op_callR {f : FuncId} {A : List Ty} {Li : List Res} {T : Value → Ty} {Lo : Value → List Res} {xs : List Operand} {tys : Array TypeId} {is : List Nat} (hf : CallsC P f A Li T Lo) (hx : OpdsS E xs A) (hp : PickL L is Li) (hd : distinct is = true) (hl : ∀ v, is.length ≤ (Lo v).length) :
    OpC P L E ⟨dst, .call { callee := .value (.func f), args := xs.toArray, argTypes := tys }, ty, pos, after, gd⟩ T (fun v => updL L is (Lo v)) := by
  intro a w G S hs ho ht K Q k
  simp only [Oper.wp, run_call_func w hf.enter, Oper.upon_enter]
  refine (hf.calls _ w G _ hs (ho.pick hd hp) (OpdsS.args xs A hx (fun x hx' => ht x (by simp [Op.operands, Call.operands, hx'])))).mono ?_
  rintro e w' ⟨v, G', Sc, rfl, hext, hc, hcs, hT⟩
  obtain ⟨S', h1, h2⟩ := ho.upd hd hp (Z := fun b => ∃ i, ∃ i', is[i]? = some i' ∧ S i' b) (fun b ⟨k, i, h⟩ => ⟨k, i, h⟩) hext (hl v) hc (fun i b hb => (hcs i b hb).imp id (fun ⟨k, i, h⟩ => ⟨k, i, h⟩))
  exact k v w' G' S' ⟨hext.sat, hext.le, hext.os, hext.tape, hext.output, hext.size, fun b hb hz => hext.blk b hb (fun ⟨k, i, _, h⟩ => hz ⟨i, h⟩)⟩ h1 h2 hT
end
end Go.Vk
set_option linter.unusedVariables false
namespace Go.Vk

/-- What the results are. -/
def ResR (P : Program) (L : List Res) (E : Env) : List ResultVar → List Ty → Prop
  | [], [] => True
  | .tmp t :: rs, U :: Us => E.get t = some U ∧ ResR P L E rs Us
  | .cell a t :: rs, U :: Us => (∃ (g : Nat) (e : TypeId) (ts : List Ty) (i : Nat), E.get a = some (Is (pAt g 0)) ∧ L[i]? = some (ownP g e ts) ∧ ((aggB P t = some true ∧ (P.info? t).map (·.size) = some ts.length ∧ U = TAgg ts) ∨ (aggB P t = some false ∧ ts[0]? = some U))) ∧ ResR P L E rs Us
  | _, _ => False
section
variable {P : Program} {L : List Res} {E : Env}
theorem ResR.nil : ResR P L E [] [] := trivial
theorem ResR.tmp {t : Tmp} {rs : List ResultVar} {U : Ty} {Us : List Ty} (h : E.get t = some U) (k : ResR P L E rs Us) : ResR P L E (.tmp t :: rs) (U :: Us) := ⟨h, k⟩
theorem ResR.cellA {a : Tmp} {t : TypeId} {rs : List ResultVar} {g : Nat} {e : TypeId} {ts : List Ty} {Us : List Ty} (i : Nat) (h : E.get a = some (Is (pAt g 0))) (hL : L[i]? = some (ownP g e ts)) (hag : aggB P t = some true) (hsz : (P.info? t).map (·.size) = some ts.length) (k : ResR P L E rs Us) : ResR P L E (.cell a t :: rs) (TAgg ts :: Us) := ⟨⟨g, e, ts, i, h, hL, .inl ⟨hag, hsz, rfl⟩⟩, k⟩
theorem ResR.cell1 {a : Tmp} {t : TypeId} {rs : List ResultVar} {g : Nat} {e : TypeId} {ts : List Ty} {U : Ty} {Us : List Ty} (i : Nat) (h : E.get a = some (Is (pAt g 0))) (hL : L[i]? = some (ownP g e ts)) (hag : aggB P t = some false) (hT : ts[0]? = some U) (k : ResR P L E rs Us) : ResR P L E (.cell a t :: rs) (U :: Us) := ⟨⟨g, e, ts, i, h, hL, .inr ⟨hag, hT⟩⟩, k⟩
def retTy : List Ty → Ty
  | [U] => U
  | Us => TTup Us

theorem run_cellA {g : Nat} {e : TypeId} {ts : List Ty} {i : Nat} {t : TypeId} {S : Nat → Nat → Prop} {G : Imm} {w : World} (ho : Owns S L G w) (hL : L[i]? = some (ownP g e ts)) (hag : aggB P t = some true) (hsz : (P.info? t).map (·.size) = some ts.length) : ∃ v, (loadVar t ⟨g, 0, none⟩).run P w = .ok v w ∧ (TAgg ts).p G v := by
  obtain ⟨_, ⟨cs, h2, h3, h4⟩, _⟩ := ownP.at ho hL
  refine ⟨.agg cs.toList.toArray, ?_, cs.toList, rfl, by simpa using h3, fun j T u e1 e2 => ?_⟩
  · have hr := run_loadCells_row (P := P) w g 0 cs.toList (fun j u e => by simp [World.cell?, h2]; simpa using e)
    simp only [Array.length_toList, h3] at hr
    simp [loadVar, run_isAgg hag, run_sizeOf hsz, hr]
  · obtain ⟨u', h5, h6, h7⟩ := h4 _ _ e1
    have : u' = u := by
      have e3 : cs[j]? = some u := by simpa using e2
      rw [h5] at e3; cases e3; rfl
    subst this; exact ⟨h6, h7⟩
theorem run_cell1 {g : Nat} {e : TypeId} {ts : List Ty} {i : Nat} {t : TypeId} {U : Ty} {S : Nat → Nat → Prop} {G : Imm} {w : World} (ho : Owns S L G w) (hL : L[i]? = some (ownP g e ts)) (hag : aggB P t = some false) (hT : ts[0]? = some U) : ∃ v, (loadVar t ⟨g, 0, none⟩).run P w = .ok v w ∧ U.p G v := by
  obtain ⟨_, ⟨cs, h2, h3, h4⟩, _⟩ := ownP.at ho hL
  obtain ⟨u, h5, h6, h7⟩ := h4 _ _ hT
  refine ⟨u, ?_, h6⟩
  have hcell : w.cell? ⟨g, 0, none⟩ = some u := by simp [World.cell?, h2, h5]
  simp [loadVar, run_isAgg hag, hcell]

theorem ResR.list {N : Nat} {a : Act} {S : Nat → Nat → Prop} {G : Imm} {w : World} (ht : Typed N E G a) (ho : Owns S L G w) (f : ResultVar → Sem Value) (hf1 : ∀ t, (f (.tmp t)).run P w = .ok (a.tmps.getD t undef) w) (hf2 : ∀ p t g, a.tmps.getD p undef = pAt g 0 → (f (.cell p t)).run P w = (loadVar t ⟨g, 0, Option.none⟩).run P w) : ∀ (rs : List ResultVar) (Us : List Ty), ResR P L E rs Us →
    ∃ vs : List Value, (List.mapM f rs).run P w = .ok vs w ∧ ArgsT G Us vs
  | [], [], _ => ⟨[], by simp, trivial⟩
  | .tmp t :: rs, U :: Us, ⟨h, k⟩ => by
    obtain ⟨vs, h1, h2⟩ := ResR.list ht ho f hf1 hf2 rs Us k
    exact ⟨a.tmps.getD t undef :: vs, by simp only [List.mapM_cons, Sem.run_bind, Sem.run_pure, Result.andThen_ok, h1, hf1], ht.get t U h, h2⟩
  | .cell p t :: rs, U :: Us, ⟨⟨g, e, ts, i, h, hL, hc⟩, k⟩ => by
    obtain ⟨vs, h1, h2⟩ := ResR.list ht ho f hf1 hf2 rs Us k
    have hp : a.tmps.getD p undef = pAt g 0 := ht.get p _ h
    have key : ∃ v, (loadVar t ⟨g, 0, Option.none⟩).run P w = .ok v w ∧ U.p G v := by
      rcases hc with ⟨c1, c2, rfl⟩ | ⟨c1, c2⟩
      · exact run_cellA ho hL c1 c2
      · exact run_cell1 ho hL c1 c2
    obtain ⟨v, h3, h4⟩ := key
    exact ⟨v :: vs, by simp only [List.mapM_cons, Sem.run_bind, Sem.run_pure, Result.andThen_ok, h1, hf2 p t g hp, h3], h4, h2⟩
theorem ArgsT.tup {G : Imm} {Us : List Ty} {vs : List Value} (h : ArgsT G Us vs) : (TTup Us).p G (.tuple vs.toArray) := by
  obtain ⟨h1, h2⟩ := ArgsT.get _ _ h
  exact ⟨vs, rfl, h1.symm, fun j T u e1 e2 => by obtain ⟨v, e3, e4⟩ := h2 j T e1; rw [e2] at e3; cases e3; exact e4⟩
theorem ResR.val {fn : Func} {N : Nat} {Us : List Ty} {a : Act} {S : Nat → Nat → Prop} {G : Imm} {w : World} (h : ResR P L E fn.results.toList Us) (ht : Typed N E G a) (ho : Owns S L G w) : ∃ v, (results fn a.tmps).run P w = .ok v w ∧ (retTy Us).p G v := by
  have gen : ∀ f : ResultVar → Sem Value, (∀ t, (f (.tmp t)).run P w = .ok (a.tmps.getD t undef) w) → (∀ p t g, a.tmps.getD p undef = pAt g 0 → (f (.cell p t)).run P w = (loadVar t ⟨g, 0, Option.none⟩).run P w) →
      ∃ v, ((((List.mapM f fn.results.toList).run P w).andThen fun a w' => Result.ok a.toArray w').andThen fun a w' => Sem.run P (pure (if h : a.size = 1 then a[0] else Value.tuple a)) w') = Result.ok v w ∧ (retTy Us).p G v := by
    intro f hf1 hf2
    obtain ⟨vs, h1, h2⟩ := ResR.list ht ho f hf1 hf2 _ _ h
    rw [h1]
    simp only [Result.andThen_ok]
    match Us, vs, h2 with
    | [], [], _ => exact ⟨_, rfl, ⟨[], rfl, rfl, fun j T u e => by simp at e⟩⟩
    | [U], [v], h2 => exact ⟨v, by simp, h2.1⟩
    | U :: U' :: Us, v :: v' :: vs, h2 => exact ⟨.tuple (v :: v' :: vs).toArray, by simp, ArgsT.tup h2⟩
    | [], _ :: _, h2 => exact h2.elim
    | _ :: _, [], h2 => exact h2.elim
    | [_], _ :: _ :: _, h2 => exact h2.2.elim
    | _ :: _ :: _, [_], h2 => exact h2.2.elim
  have hr : fn.results = fn.results.toList.toArray := by simp
  unfold results
  rw [hr]
  simp only [List.mapM_toArray, Sem.run_bind, Sem.run_map]
  exact gen _ (fun t => by simp only [Sem.run_pure]) (fun p t g hp => by simp only [hp, asAddr, Sem.run_bind, Sem.run_pure, Result.andThen_ok])
end
section
variable {P : Program} {L : List Res} {E : Env} {fn : Func} {w0 : World} {G0 : Imm} {S0 : Nat → Nat → Prop} {N : Nat}
/-- A function is at its end: what it hands back, value and resources. -/
theorem HX.finG {e : Exit} {Us : List Ty} {T : Value → Ty} {Lo : Value → List Res} (is : List (List Nat)) (he : e = .ret ∨ e = .normal) (hr : ResR P L E fn.results.toList Us) (hT : ∀ G v, (retTy Us).p G v → (T v).p G v ∧ PickX L is (Lo v)) (hd : distinct is.flatten = true) : HX (FC P N w0 G0 S0) E L (bodyPost P fn (RetR w0 G0 S0 T Lo)) e :=
  HX.val he fun a w G S hi ht => by
    obtain ⟨v, h1, h2⟩ := hr.val ht hi.owns
    obtain ⟨h3, h4⟩ := hT G v h2
    exact ⟨v, h1, h3, _, hi.owns.pickX hd h4, fun k b ⟨_, _, i, _, hb⟩ => ⟨i, hb⟩⟩
theorem HX.fin {e : Exit} {Us : List Ty} {T : Ty} {Lo : List Res} (is : List (List Nat)) (he : e = .ret ∨ e = .normal) (hr : ResR P L E fn.results.toList Us) (hd : distinct is.flatten = true) (hp : PickX L is Lo) (hT : Sub (retTy Us) T) : HX (FC P N w0 G0 S0) E L (bodyPost P fn (RetR w0 G0 S0 (fun _ => T) (fun _ => Lo))) e :=
  HX.finG is he hr (fun G v h => ⟨hT G v h, hp⟩) hd
/-- The value is known: a pointer. -/
theorem HX.finP {e : Exit} {u : Value} {T : Value → Ty} {Lo : Value → List Res} (is : List (List Nat)) (he : e = .ret ∨ e = .normal) (hr : ResR P L E fn.results.toList [Is u]) (hd : distinct is.flatten = true) (hp : PickX L is (Lo u)) (hT : Sub (Is u) (T u)) : HX (FC P N w0 G0 S0) E L (bodyPost P fn (RetR w0 G0 S0 T Lo)) e :=
  HX.finG is he hr (fun G v h => by cases h; exact ⟨hT G _ rfl, hp⟩) hd
end

/-! ### loops and joints -/
theorem Inv.pickX {F : FCtx} {A B : List Res} {is : List (List Nat)} {G : Imm} {w : World} {S : Nat → Nat → Prop} (h : Inv F A G w S) (hd : distinct is.flatten = true) (k : PickX A is B) : Inv F B G w (fun k b => ∃ js, is[k]? = some js ∧ ∃ i, i ∈ js ∧ S i b) := ⟨h.ext, h.owns.pickX hd k, fun j b ⟨_, _, i, _, hb⟩ => h.mine i b hb⟩
/-- The resources of a state, as a loop's head wants them. -/
structure To (L L' : List Res) : Prop where
  to : ∃ is, distinct is.flatten = true ∧ PickX L is L'
theorem To.mk' {L L' : List Res} {is : List (List Nat)} (hp : PickX L is L') (hd : distinct is.flatten = true) : To L L' := ⟨⟨is, hd, hp⟩⟩
theorem HT.loopX {F : FCtx} {E : Env} {L : List Res} {Q : Exit → Act → World → Prop} {c : Code} {σ : Type} (ks : List Nat) (upd : σ → Env) (L' : σ → List Res) (I : σ → Prop) (μ : σ → Nat) (s0 : σ) (hI : I s0) (hL : To L (L' s0)) (hu : SubE E (upd s0))
    (body : ∀ s, I s → HT F (upd s ++ E.keep ks) (L' s) c (Exit.then (RoundK F E ks upd L' I μ s) Q)) : HT F E L (.loop c) Q :=
  HT.loop (fun s => upd s ++ E.keep ks) L' I μ (fun a w G S hi ht => let ⟨is, hd, hp⟩ := hL.to; ⟨s0, G, _, hI, hi.pickX hd hp, ht.sub (hu.append (SubE.keep E ks))⟩) body
theorem HX.roundX {F : FCtx} {E E2 : Env} {L2 : List Res} {Q : Exit → Act → World → Prop} {σ : Type} {ks : List Nat} {upd : σ → Env} {L' : σ → List Res} {I : σ → Prop} {μ : σ → Nat} {s : σ} (s' : σ) (hI : I s' ∧ μ s' < μ s) (hk : E2.keep ks = E.keep ks) (hL : To L2 (L' s')) (hu : SubE E2 (upd s')) : HX F E2 L2 (Exit.then (RoundK F E ks upd L' I μ s) Q) .normal :=
  fun a w G S hi ht => let ⟨is, hd, hp⟩ := hL.to; ⟨s', G, _, hI, hi.pickX hd hp, ht.sub (hu.append (by rw [← hk]; exact SubE.keep E2 ks))⟩
theorem HX.midX {F : FCtx} {E E2 : Env} {L2 : List Res} {Q : Exit → Act → World → Prop} {σ : Type} {ks : List Nat} {upd : σ → Env} {L' : σ → List Res} {I : σ → Prop} (s' : σ) (hI : I s') (hk : E2.keep ks = E.keep ks) (hL : To L2 (L' s')) (hu : SubE E2 (upd s')) : HX F E2 L2 (Exit.then (MidK F E ks upd L' I) Q) .normal :=
  fun a w G S hi ht => let ⟨is, hd, hp⟩ := hL.to; ⟨s', G, _, hI, hi.pickX hd hp, ht.sub (hu.append (by rw [← hk]; exact SubE.keep E2 ks))⟩
/-- Some of the resources are let go, the others change places. -/
theorem HT.to {F : FCtx} {E : Env} {L L' : List Res} {Q : Exit → Act → World → Prop} {c : Code} (hL : To L L') (h : HT F E L' c Q) : HT F E L c Q := fun a w G S hi ht =>
  let ⟨is, hd, hp⟩ := hL.to; h a w G _ (hi.pickX hd hp) ht
/-- What is hidden is named. -/
theorem HT.unpack {F : FCtx} {E : Env} {L : List Res} {Q : Exit → Act → World → Prop} {c : Code} {σ : Type} {Rs : σ → List Res} (i : Nat) (hL : L[i]? = some (packR Rs)) (h : ∀ s, HT F E (L.set i empR ++ Rs s) c Q) : HT F E L c Q := fun a w G S hi ht => by
  obtain ⟨s, S', h1, h2⟩ := hi.owns.unpack hL
  exact h s a w G S' ⟨hi.ext, h1, fun k b hb => by obtain ⟨j, hj⟩ := h2 k b hb; exact hi.mine j b hj⟩ ht
end Go.Vk
set_option linter.unusedVariables false
namespace Go.Vk
section
variable {P : Program} {L : List Res} {E : Env} {dst : Option Tmp} {ty : TypeId} {pos : String} {after : Array Edge} {gd : Option (Nat × Bool)}

/-! ### strings -/
theorem str_size (l : List UInt8) : (ByteArray.mk l.toArray).size = l.length := size_str l
theorem run_strIndex (w : World) {t : TypeId} {l : List UInt8} {k : IntKind} {n : Int} (hu : P.underlying t = some .string) (h : 0 ≤ n ∧ n < (l.length : Int)) : (Instr.index t (str l) (.int k n)).run P w = .ok (.int .u8 ((l.getD n.toNat 0).toNat : Int)) w := by
  have hlt : n.toNat < l.length := by omega
  have hsz : (ByteArray.mk l.toArray).size = l.length := size_str l
  have hget : (ByteArray.mk l.toArray)[n.toNat]? = some (l.getD n.toNat 0) := by
    rw [getElem?_pos _ _ (by rw [hsz]; exact hlt)]
    congr 1
    rw [List.getD_eq_getElem?_getD, List.getElem?_eq_getElem hlt]
    rfl
  simp only [Instr.index, str, asIntOf, Sem.run_bind, Sem.run_pure, Result.andThen_ok, run_underlying hu, if_pos h.1, hget]
theorem op_sindex {x i : Operand} {l : List UInt8} {k : IntKind} {n : Int} {t : TypeId} (hx : Opd E x = some (Is (str l))) (hi : Opd E i = some (okI k n)) (hu : P.underlying t = some .string) (h : 0 ≤ n ∧ n < (l.length : Int)) : OpP P L E ⟨dst, .index t x i, ty, pos, after, gd⟩ (okI .u8 ((l.getD n.toNat 0).toNat : Int)) :=
  OpP.same fun a w G S _ _ ho => by
    have h1 : a.eval x = str l := ho x (by simp [Op.operands]) _ hx
    have h2 : a.eval i = .int k n := ho i (by simp [Op.operands]) _ hi
    refine ⟨_, ?_, rfl⟩
    simp only [execOp, h1, h2]
    simp [run_strIndex w hu h]
theorem op_sindexN {x ix : Operand} {l : List UInt8} {k : IntKind} {i : Nat} {t : TypeId} (hx : Opd E x = some (Is (str l))) (hi : Opd E ix = some (okI k (i : Int))) (hu : P.underlying t = some .string) (h : i < l.length) : OpP P L E ⟨dst, .index t x ix, ty, pos, after, gd⟩ (okI .u8 ((l.getD i 0).toNat : Int)) := by
  have := op_sindex (P := P) (L := L) (dst := dst) (ty := ty) (pos := pos) (after := after) (gd := gd) hx hi hu (by omega)
  simpa using this
theorem str_extract (l : List UInt8) (a b : Nat) : (ByteArray.mk l.toArray).extract a b = ByteArray.mk ((l.take b).drop a).toArray := by
  apply ByteArray.ext
  apply Array.toList_inj.1
  simp [ByteArray.data_extract, Array.toList_extract, List.extract_eq_take_drop]
  rw [List.drop_take]
theorem op_sslice {x : Operand} {lo hi : Option Operand} {l : List UInt8} {t : TypeId} {m n : Int} (hx : Opd E x = some (Is (str l))) (hu : P.underlying t = some .string)
    (hlo : (lo = none ∧ m = 0) ∨ ∃ o k, lo = some o ∧ Opd E o = some (okI k m)) (hhi : (hi = none ∧ n = (l.length : Int)) ∨ ∃ o k, hi = some o ∧ Opd E o = some (okI k n)) (h0 : 0 ≤ m) (h1 : m ≤ n) (h2 : n ≤ (l.length : Int)) :
    OpP P L E ⟨dst, .slice t x lo hi none, ty, pos, after, gd⟩ (Is (str ((l.take n.toNat).drop m.toNat))) :=
  OpP.same fun a w G S _ _ ho => by
    have e1 : a.eval x = str l := ho x (by simp [Op.operands]) _ hx
    refine ⟨_, ?_, rfl⟩
    obtain ⟨m, rfl⟩ := Int.eq_ofNat_of_zero_le h0
    obtain ⟨n, rfl⟩ := Int.eq_ofNat_of_zero_le (show 0 ≤ n by omega)
    have g1 : m ≤ n := by omega
    have g2 : n ≤ l.length := by omega
    have hlo' : lo.map a.eval = none ∧ m = 0 ∨ ∃ k, lo.map a.eval = some (.int k m) := by
      rcases hlo with ⟨rfl, h⟩ | ⟨o, k, rfl, hk⟩
      · exact .inl ⟨rfl, by omega⟩
      · exact .inr ⟨k, by have : a.eval o = .int k m := ho o (by simp [Op.operands]) _ hk
                          simp [this]⟩
    have hhi' : hi.map a.eval = none ∧ n = l.length ∨ ∃ k, hi.map a.eval = some (.int k n) := by
      rcases hhi with ⟨rfl, h⟩ | ⟨o, k, rfl, hk⟩
      · exact .inl ⟨rfl, by omega⟩
      · exact .inr ⟨k, by have : a.eval o = .int k n := ho o (by simp [Op.operands]) _ hk
                          simp [this]⟩
    have hr : (Instr.sliceAt t (str l) (lo.map a.eval) (hi.map a.eval) none).run P w = .ok (str ((l.take n).drop m)) w := by
      have hx := str_extract l m n
      rcases hlo' with ⟨q1, rfl⟩ | ⟨k, q1⟩ <;> rcases hhi' with ⟨q2, rfl⟩ | ⟨k', q2⟩ <;>
        simp [q1, q2, Instr.sliceAt, run_underlying hu, Instr.slice, Instr.sliceBounds, Instr.sliceBound, asIntOf, str, size_str, g1, g2, hx]
    simp only [execOp, e1]
    simp [hr]
theorem op_sslice2 {x o o' : Operand} {l : List UInt8} {t : TypeId} {m n : Int} {k k' : IntKind} (hx : Opd E x = some (Is (str l))) (hu : P.underlying t = some .string) (hlo : Opd E o = some (okI k m)) (hhi : Opd E o' = some (okI k' n)) (h : 0 ≤ m ∧ m ≤ n ∧ n ≤ (l.length : Int)) :
    OpP P L E ⟨dst, .slice t x (some o) (some o') none, ty, pos, after, gd⟩ (Is (str ((l.take n.toNat).drop m.toNat))) := op_sslice hx hu (.inr ⟨o, k, rfl, hlo⟩) (.inr ⟨o', k', rfl, hhi⟩) h.1 h.2.1 h.2.2
theorem op_ssliceL {x o : Operand} {l : List UInt8} {t : TypeId} {m : Int} {k : IntKind} (hx : Opd E x = some (Is (str l))) (hu : P.underlying t = some .string) (hlo : Opd E o = some (okI k m)) (h : 0 ≤ m ∧ m ≤ (l.length : Int)) :
    OpP P L E ⟨dst, .slice t x (some o) none none, ty, pos, after, gd⟩ (Is (str (l.drop m.toNat))) := by
  have := op_sslice (P := P) (L := L) (dst := dst) (ty := ty) (pos := pos) (after := after) (gd := gd) (n := (l.length : Int)) hx hu (.inr ⟨o, k, rfl, hlo⟩) (.inl ⟨rfl, rfl⟩) h.1 h.2 (Int.le_refl _)
  simpa using this
theorem op_ssliceH {x o' : Operand} {l : List UInt8} {t : TypeId} {n : Int} {k' : IntKind} (hx : Opd E x = some (Is (str l))) (hu : P.underlying t = some .string) (hhi : Opd E o' = some (okI k' n)) (h : 0 ≤ n ∧ n ≤ (l.length : Int)) :
    OpP P L E ⟨dst, .slice t x none (some o') none, ty, pos, after, gd⟩ (Is (str (l.take n.toNat))) := by
  have := op_sslice (P := P) (L := L) (dst := dst) (ty := ty) (pos := pos) (after := after) (gd := gd) (m := 0) hx hu (.inl ⟨rfl, rfl⟩) (.inr ⟨o', k', rfl, hhi⟩) (Int.le_refl _) h.1 h.2
  simpa using this
theorem str_append (l m : List UInt8) : ByteArray.mk l.toArray ++ ByteArray.mk m.toArray = ByteArray.mk (l ++ m).toArray := by
  apply ByteArray.ext
  simp
theorem op_sadd {x y : Operand} {l m : List UInt8} {xt yt : TypeId} (hx : Opd E x = some (Is (str l))) (hy : Opd E y = some (Is (str m))) (h : (l.length : Int) + (m.length : Int) ≤ 9223372036854775807) : OpP P L E ⟨dst, .binOp .add xt x y yt, ty, pos, after, gd⟩ (Is (str (l ++ m))) :=
  OpP.same fun a w G S _ _ ho => by
    have h1 : a.eval x = str l := ho x (by simp [Op.operands]) _ hx
    have h2 : a.eval y = str m := ho y (by simp [Op.operands]) _ hy
    refine ⟨_, ?_, rfl⟩
    simp only [execOp, h1, h2]
    have hmax : IntKind.i64.max = 9223372036854775807 := by decide
    have hno : ¬ (((l.length + m.length : Nat) : Int) > 9223372036854775807) := by omega
    have hs := str_append l m
    simp only [eqGuard, binOp, str, Op.stringOp, size_str, hmax, if_neg hno, hs]
    simp
/-- The order of texts. -/
abbrev sless (l m : List UInt8) : Bool := Op.bytesLess l m
theorem str_toList (l : List UInt8) : (ByteArray.mk l.toArray).toList = l := by rw [ByteArray.toList_eq]
theorem op_slss {x y : Operand} {l m : List UInt8} {xt yt : TypeId} (hx : Opd E x = some (Is (str l))) (hy : Opd E y = some (Is (str m))) : OpP P L E ⟨dst, .binOp .lss xt x y yt, ty, pos, after, gd⟩ (Is (.bool (sless l m))) :=
  OpP.same fun a w G S _ _ ho => by
    have h1 : a.eval x = str l := ho x (by simp [Op.operands]) _ hx
    have h2 : a.eval y = str m := ho y (by simp [Op.operands]) _ hy
    refine ⟨_, ?_, rfl⟩
    simp only [execOp, h1, h2]
    simp [eqGuard, binOp, str, Op.stringOp, str_toList]
theorem op_sleq {x y : Operand} {l m : List UInt8} {xt yt : TypeId} (hx : Opd E x = some (Is (str l))) (hy : Opd E y = some (Is (str m))) : OpP P L E ⟨dst, .binOp .leq xt x y yt, ty, pos, after, gd⟩ (Is (.bool (sless l m || l == m))) :=
  OpP.same fun a w G S _ _ ho => by
    have h1 : a.eval x = str l := ho x (by simp [Op.operands]) _ hx
    have h2 : a.eval y = str m := ho y (by simp [Op.operands]) _ hy
    refine ⟨_, ?_, rfl⟩
    simp only [execOp, h1, h2]
    simp [eqGuard, binOp, str, Op.stringOp, str_toList]
theorem op_sgtr {x y : Operand} {l m : List UInt8} {xt yt : TypeId} (hx : Opd E x = some (Is (str l))) (hy : Opd E y = some (Is (str m))) : OpP P L E ⟨dst, .binOp .gtr xt x y yt, ty, pos, after, gd⟩ (Is (.bool (!(sless l m || l == m)))) :=
  OpP.same fun a w G S _ _ ho => by
    have h1 : a.eval x = str l := ho x (by simp [Op.operands]) _ hx
    have h2 : a.eval y = str m := ho y (by simp [Op.operands]) _ hy
    refine ⟨_, ?_, rfl⟩
    simp only [execOp, h1, h2]
    simp [eqGuard, binOp, str, Op.stringOp, str_toList]
theorem op_sgeq {x y : Operand} {l m : List UInt8} {xt yt : TypeId} (hx : Opd E x = some (Is (str l))) (hy : Opd E y = some (Is (str m))) : OpP P L E ⟨dst, .binOp .geq xt x y yt, ty, pos, after, gd⟩ (Is (.bool (!sless l m))) :=
  OpP.same fun a w G S _ _ ho => by
    have h1 : a.eval x = str l := ho x (by simp [Op.operands]) _ hx
    have h2 : a.eval y = str m := ho y (by simp [Op.operands]) _ hy
    refine ⟨_, ?_, rfl⟩
    simp only [execOp, h1, h2]
    simp [eqGuard, binOp, str, Op.stringOp, str_toList]

/-! ### structs by value -/
theorem run_partAt {t : TypeId} {cs : Array Value} {off : Nat} {v : Value} (w : World) (hag : aggB P t = some false) (h : cs[off]? = some v) : (part t cs off).run P w = .ok v w := by
  unfold part
  simp [run_isAgg hag, h]
/-- A field's type and offset. -/
def fieldAtT (P : Program) (s : TypeId) (i : Nat) : Option (TypeId × Nat) :=
  match P.underlying s with
  | some (.struct fields) => (fields[i]?).map fun f => (f.type, f.offset)
  | _ => none
theorem run_field {s ft : TypeId} {i off : Nat} (w : World) (h : fieldAtT P s i = some (ft, off)) (cs : Array Value) : (Instr.field s (.agg cs) i).run P w = (part ft cs off).run P w := by
  unfold fieldAtT at h
  cases hu : P.underlying s with
  | none => rw [hu] at h; cases h
  | some d =>
    rw [hu] at h
    cases d <;> try (simp at h)
    rename_i fields
    cases hf : fields[i]? with
    | none => rw [hf] at h; simp at h
    | some f =>
      rw [hf] at h
      simp at h
      obtain ⟨rfl, rfl⟩ := h
      simp only [Instr.field, Sem.run_bind, run_underlying hu, Result.andThen_ok, hf, asAgg, Sem.run_pure]
theorem op_field1 {x : Operand} {ts : List Ty} {s ft : TypeId} {i off : Nat} {T : Ty} (hx : Opd E x = some (TAgg ts)) (hf : fieldAtT P s i = some (ft, off)) (hag : aggB P ft = some false) (hT : ts[off]? = some T) : OpP P L E ⟨dst, .field s x i, ty, pos, after, gd⟩ T :=
  OpP.same fun a w G S _ _ ho => by
    obtain ⟨vs, h1, h2, h3⟩ := ho x (by simp [Op.operands]) _ hx
    have hlt := (List.getElem?_eq_some_iff.1 hT).1
    obtain ⟨u, hu⟩ : ∃ u, vs[off]? = some u := ⟨_, List.getElem?_eq_getElem (by omega)⟩
    refine ⟨u, ?_, (h3 off T u hT hu).1⟩
    simp only [execOp, h1]
    simp [run_field w hf, run_partAt w hag (show vs.toArray[off]? = some u by simpa using hu)]
theorem op_fieldA {x : Operand} {ts ts' : List Ty} {s ft : TypeId} {i off n : Nat} (hx : Opd E x = some (TAgg ts)) (hf : fieldAtT P s i = some (ft, off)) (hag : aggB P ft = some true) (hsz : (P.info? ft).map (·.size) = some n) (hT : (ts.drop off).take n = ts') (hn : ts'.length = n) : OpP P L E ⟨dst, .field s x i, ty, pos, after, gd⟩ (TAgg ts') :=
  OpP.same fun a w G S _ _ ho => by
    obtain ⟨vs, h1, h2, h3⟩ := ho x (by simp [Op.operands]) _ hx
    refine ⟨.agg ((vs.drop off).take n).toArray, ?_, _, rfl, ?_, ?_⟩
    · simp only [execOp, h1]
      simp [run_field w hf, part, run_isAgg hag, run_sizeOf hsz]
    · have := congrArg List.length hT
      simp only [List.length_take, List.length_drop] at this ⊢
      omega
    · intro j T u e1 e2
      subst hT
      rw [List.getElem?_take] at e1 e2
      split at e1
      · rw [List.getElem?_drop] at e1
        rw [if_pos (by assumption), List.getElem?_drop] at e2
        exact h3 _ _ _ e1 e2
      · cases e1

/-- Where a part of a struct or an array lies, and how many cells it has. -/
def placeOf (P : Program) (t : TypeId) (i : Nat) : Option (Nat × Nat) :=
  match P.underlying t with
  | some (.struct fields) => (fields[i]?).bind fun f => (P.info? f.type).map fun inf => (f.offset, inf.size)
  | some (.array _ e) => (P.info? e).map fun inf => (i * inf.size, inf.size)
  | _ => none
def placesOk (P : Program) (t : TypeId) : Bool :=
  match P.underlying t with
  | some (.struct fields) => fields.toList.all fun f => (P.info? f.type).isSome
  | some (.array _ e) => (P.info? e).isSome
  | _ => false
def segT (ts : List Ty) (off : Nat) (cts : List Ty) : List Ty := ts.take off ++ cts ++ ts.drop (off + cts.length)
def BuildOk (P : Program) (E : Env) (t : TypeId) : List (Nat × Operand) → List Ty → List Ty → Prop
  | [], ts, ts' => ts = ts'
  | (i, x) :: r, ts, ts' => ∃ T cts off, Opd E x = some T ∧ CellsOf T cts ∧ placeOf P t i = some (off, cts.length) ∧ Nat.ble (off + cts.length) ts.length = true ∧ BuildOk P E t r (segT ts off cts) ts'
theorem BuildOk.nil {t : TypeId} {ts : List Ty} : BuildOk P E t [] ts ts := rfl
theorem BuildOk.cons {t : TypeId} {i : Nat} {x : Operand} {r : List (Nat × Operand)} {ts ts1 ts' : List Ty} {T : Ty} {cts : List Ty} {off : Nat} (hx : Opd E x = some T) (hc : CellsOf T cts) (hp : placeOf P t i = some (off, cts.length)) (hl : Nat.ble (off + cts.length) ts.length = true) (hs : segT ts off cts = ts1) (k : BuildOk P E t r ts1 ts') : BuildOk P E t ((i, x) :: r) ts ts' :=
  ⟨T, cts, off, hx, hc, hp, hl, by rw [hs]; exact k⟩

/-- Cells that are as types say. -/
def CellsT (G : Imm) (cs : Array Value) (ts : List Ty) : Prop := cs.size = ts.length ∧ ∀ (j : Nat) (T : Ty), ts[j]? = some T → ∃ u, cs[j]? = some u ∧ T.p G u ∧ u.oneCell' = true
theorem CellsT.seg {G : Imm} {cs : Array Value} {ts cts : List Ty} {vs : List Value} {off : Nat} (h : CellsT G cs ts) (hl : vs.length = cts.length) (hv : ∀ (j : Nat) (U : Ty) (u : Value), cts[j]? = some U → vs[j]? = some u → U.p G u ∧ u.oneCell' = true) (hle : off + cts.length ≤ ts.length) :
    CellsT G ((vs.zipIdx 0).foldl (fun cs (x : Value × Nat) => cs.setIfInBounds (off + x.2) x.1) cs) (segT ts off cts) := by
  obtain ⟨g1, g2⟩ := foldl_set off vs 0 cs
  obtain ⟨h1, h2⟩ := h
  refine ⟨by rw [g1, h1, segT]; simp; omega, fun j T hj => ?_⟩
  rw [g2 j]
  unfold segT at hj
  rw [List.append_assoc, List.getElem?_append] at hj
  simp only [List.length_take, Nat.add_zero] at hj ⊢
  by_cases hjo : j < off
  · rw [if_pos (by omega), List.getElem?_take, if_pos hjo] at hj
    rw [if_neg (by omega)]
    exact h2 j T hj
  · rw [if_neg (by omega), show min off ts.length = off from by omega, List.getElem?_append] at hj
    by_cases hjn : j - off < cts.length
    · rw [if_pos hjn] at hj
      rw [if_pos (by omega)]
      obtain ⟨u, hu⟩ : ∃ u, vs[j - off]? = some u := ⟨_, List.getElem?_eq_getElem (by omega)⟩
      exact ⟨u, hu, hv _ _ _ hj hu⟩
    · rw [if_neg hjn, List.getElem?_drop] at hj
      rw [if_neg (by omega)]
      obtain ⟨u, b⟩ := h2 _ T hj
      exact ⟨u, by rw [← b.1]; congr 1; omega, b.2⟩
theorem BuildOk.fill {t : TypeId} {G : Imm} {a : Act} (place : Nat → Option (Nat × Nat)) (hplace : ∀ i p, placeOf P t i = some p → place i = some p) : ∀ (ps : List (Nat × Operand)) (ts ts' : List Ty) (cs : Array Value), BuildOk P E t ps ts ts' → (∀ q ∈ ps, ∀ T, Opd E q.2 = some T → T.p G (a.eval q.2)) → CellsT G cs ts →
    ∃ cs', Instr.fill place cs (ps.map fun q => (q.1, a.eval q.2)) = some cs' ∧ CellsT G cs' ts'
  | [], ts, ts', cs, h, _, hc => by cases h; exact ⟨cs, rfl, hc⟩
  | (i, x) :: r, ts, ts', cs, ⟨T, cts, off, hx, hcT, hp, hl, k⟩, ho, hc => by
    have hv := ho (i, x) (by simp) T hx
    obtain ⟨h1, h2⟩ := hcT G _ hv
    have hl' := Nat.le_of_ble_eq_true hl
    have hsize : (a.eval x).cells.size = cts.length := by simpa using h1
    have hseg := hc.seg (vs := (a.eval x).cells.toList) (off := off) h1 h2 hl'
    obtain ⟨cs', h3, h4⟩ := BuildOk.fill place hplace r _ ts' _ k (fun q hq => ho q (by simp [hq])) hseg
    refine ⟨cs', ?_, h4⟩
    simp only [List.map_cons, Instr.fill, hplace i _ hp]
    rw [if_neg (by simp only [hsize, hc.1]; simp; omega)]
    have hz : (a.eval x).cells.zipIdx.foldl (fun cs (y : Value × Nat) => cs.setIfInBounds (off + y.2) y.1) cs = ((a.eval x).cells.toList.zipIdx 0).foldl (fun cs (y : Value × Nat) => cs.setIfInBounds (off + y.2) y.1) cs := by
      rw [← Array.foldl_toList]; simp
    rw [hz]; exact h3
theorem run_places {fields : Array Field} (w : World) (h : (fields.toList.all fun f => (P.info? f.type).isSome) = true) : ∃ pl : Array (Nat × Nat), (fields.mapM fun f : Field => do pure (f.offset, ← sizeOf f.type) : Sem _).run P w = .ok pl w ∧ ∀ (i : Nat) p, (fields[i]?).bind (fun f : Field => (P.info? f.type).map fun inf => (f.offset, inf.size)) = some p → pl[i]? = some p := by
  have key : ∀ l : List Field, (l.all fun f => (P.info? f.type).isSome) = true → ∃ pl : List (Nat × Nat), (List.mapM (fun f : Field => do pure (f.offset, ← sizeOf f.type)) l : Sem _).run P w = .ok pl w ∧ ∀ (i : Nat) p, (l[i]?).bind (fun f : Field => (P.info? f.type).map fun inf => (f.offset, inf.size)) = some p → pl[i]? = some p := by
    intro l
    induction l with
    | nil => intro _; exact ⟨[], by simp, by simp⟩
    | cons f l ih =>
      intro h
      simp only [List.all_cons, Bool.and_eq_true] at h
      obtain ⟨pl, h1, h2⟩ := ih h.2
      obtain ⟨inf, hi⟩ := Option.isSome_iff_exists.1 h.1
      refine ⟨(f.offset, inf.size) :: pl, ?_, ?_⟩
      · simp only [List.mapM_cons, Sem.run_bind, run_sizeOf (P := P) (t := f.type) (n := inf.size) (by rw [hi]; rfl) w, Result.andThen_ok, Sem.run_pure, h1]
      · intro i p e
        cases i with
        | zero => simp [hi] at e; simp [e]
        | succ i => simpa using h2 i p (by simpa using e)
  obtain ⟨pl, h1, h2⟩ := key fields.toList h
  refine ⟨pl.toArray, ?_, fun i p e => by simpa using h2 i p (by simpa using e)⟩
  rw [← Array.toArray_toList (xs := fields), List.mapM_toArray, Sem.run_map, h1]
  rfl
theorem op_build {t : TypeId} {parts : Array (Nat × Operand)} {z : Value} {zs : List Value} {ts ts' : List Ty} (hz : (P.info? t).map (·.zero) = some (some z)) (hc : z.cells.toList = zs) (ht : LitT zs ts) (hok : placesOk P t = true) (hb : BuildOk P E t parts.toList ts ts') : OpP P L E ⟨dst, .build t parts, ty, pos, after, gd⟩ (TAgg ts') :=
  OpP.same fun a w G S _ _ ho => by
    obtain ⟨l1, l2⟩ := LitT.at zs ts ht
    have hcells : CellsT G z.cells ts := by
      refine ⟨by rw [← Array.length_toList, hc, l1], fun j T hj => ?_⟩
      obtain ⟨u, b1, b2, b3⟩ := l2 j T hj
      exact ⟨u, by rw [← hc] at b1; simpa using b1, T.mono (fun _ _ _ h => by cases h) b2, b3⟩
    have hops : ∀ q ∈ parts.toList, ∀ T, Opd E q.2 = some T → T.p G (a.eval q.2) := fun q hq T hT => ho q.2 (by
      have hq' : q.2 ∈ partsOf parts := List.mem_map.2 ⟨q, hq, rfl⟩
      simp only [Op.operands]
      simpa [partsOf] using hq') T hT
    have hpl : (parts.map fun (i, x) => (i, a.eval x)).toList = parts.toList.map fun q => (q.1, a.eval q.2) := by simp
    have fin : ∀ (cs' : Array Value), CellsT G cs' ts' → (TAgg ts').p G (.agg cs') := fun cs' h => ⟨cs'.toList, by simp, by simpa using h.1, fun j T u e1 e2 => by
      obtain ⟨u', b1, b2⟩ := h.2 j T e1
      have e3 : cs'[j]? = some u := by simpa using e2
      rw [b1] at e3; cases e3; exact b2⟩
    unfold placesOk at hok
    cases hu : P.underlying t with
    | none => rw [hu] at hok; cases hok
    | some d =>
      rw [hu] at hok
      cases d <;> try (simp at hok; done)
      · rename_i n e
        obtain ⟨inf, hinf⟩ := Option.isSome_iff_exists.1 hok
        obtain ⟨cs', h1, h2⟩ := hb.fill (a := a) (G := G) (fun i => some (i * inf.size, inf.size)) (fun i p e' => by
          unfold placeOf at e'; rw [hu] at e'; simpa [hinf] using e') _ _ _ _ hops hcells
        refine ⟨.agg cs', ?_, fin _ h2⟩
        rw [← hpl] at h1
        simp only [execOp]
        simp only [Instr.build, Sem.run_bind, run_zeroValue hz, Result.andThen_ok, run_underlying hu, run_sizeOf (P := P) (t := e) (n := inf.size) (by rw [hinf]; rfl), h1, Sem.run_pure]
      · rename_i fields
        obtain ⟨pl, p1, p2⟩ := run_places (P := P) w hok
        obtain ⟨cs', h1, h2⟩ := hb.fill (a := a) (G := G) (fun i => pl[i]?) (fun i p e' => by
          unfold placeOf at e'; rw [hu] at e'; exact p2 i p e') _ _ _ _ hops hcells
        refine ⟨.agg cs', ?_, fin _ h2⟩
        rw [← hpl] at h1
        simp only [execOp]
        simp only [Instr.build, Sem.run_bind, run_zeroValue hz, Result.andThen_ok, run_underlying hu, p1, h1, Sem.run_pure]
end
end Go.Vk
set_option linter.unusedVariables false
namespace Go.Vk
section
variable {P : Program} {L : List Res} {E : Env} {dst : Option Tmp} {ty : TypeId} {pos : String} {after : Array Edge} {gd : Option (Nat × Bool)}
/-- []byte(s). -/
theorem op_bytesOf {x : Operand} {l : List UInt8} {st dt e : TypeId} (hx : Opd E x = some (Is (str l))) (hs : P.underlying st = some .string) (hd : P.underlying dt = some (.slice e)) (he : P.underlying e = some (.int .u8)) (hl : (l.length : Int) ≤ 9223372036854775807) :
    OpP P L E ⟨dst, .convert st dt x, ty, pos, after, gd⟩ (TBytes l) :=
  OpP.laid fun a w G S hsat _ ho => by
    have h1 : a.eval x = str l := ho x (by simp [Op.operands]) _ hx
    have hr := run_bytes_of_string (P := P) w st dt e (ByteArray.mk l.toArray) hs hd he
    rw [size_str] at hr
    have hge := grownCap_ge w l.length 0 e
    have hcm := grownCap_le_maxLen w l.length 0 e (by simp only [maxLen]; omega)
    obtain ⟨hext, hsl, _⟩ := fresh_sl (f := cB) (sz := 1) (l := l) (vs := l.map fun c => Value.int .u8 (c.toNat : Int)) (cap := grownCap w l.length 0 e) (e := e)
      (cells := bytesRow (ByteArray.mk l.toArray) (grownCap w l.length 0 e)) (fr := ((bytesRow (ByteArray.mk l.toArray) (grownCap w l.length 0 e)).size, (bytesRow (ByteArray.mk l.toArray) (grownCap w l.length 0 e)).size + 1))
      (w1 := w.drew.alloc (.cells (bytesRow (ByteArray.mk l.toArray) (grownCap w l.length 0 e)) e ((bytesRow (ByteArray.mk l.toArray) (grownCap w l.length 0 e)).size, (bytesRow (ByteArray.mk l.toArray) (grownCap w l.length 0 e)).size + 1)))
      hsat rfl rfl rfl rfl (by simp [bytesRow]) hge hcm (by simp) (fun y _ => rfl) (fun i y hy j T hj => by
        cases j with
        | succ j => simp [cB] at hj
        | zero =>
          simp [cB] at hj; subst hj
          exact ⟨.int .u8 (y.toNat : Int), by simp [hy], rfl, rfl⟩)
    refine ⟨_, _, _, ?_, hext, hsl false (fun e => by cases e)⟩
    simp only [execOp, h1, str]
    simp [hr]

/-! ### equality of structs -/
/-- Two fields of one cell: whether they are one. -/
structure FEq (P : Program) (ft : TypeId) (T U : Ty) (b : Bool) : Prop where
  ag : aggB P ft = some false
  eq : ∀ G u v (w : World) (d : Nat), T.p G u → U.p G v → (Op.equalIn (d + 1) ft u v).run P w = .ok b w
theorem FEq.int {ft : TypeId} {k k' : IntKind} {m n : Int} (hu : P.underlying ft = some (.int k')) : FEq P ft (okI k m) (okI k n) (decide (m = n)) :=
  ⟨by simp [aggB, hu], fun G u v w d h1 h2 => by cases h1; cases h2; rw [run_equalIn_int w d ft k k' m n hu]; rfl⟩
theorem FEq.bool {ft : TypeId} {m n : Bool} (hu : P.underlying ft = some .bool) : FEq P ft (Is (.bool m)) (Is (.bool n)) (m == n) :=
  ⟨by simp [aggB, hu], fun G u v w d h1 h2 => by cases h1; cases h2; exact run_equalIn_bool' w d ft m n hu⟩
theorem FEq.str {ft : TypeId} {m n : List UInt8} (hu : P.underlying ft = some .string) : FEq P ft (Is (str m)) (Is (str n)) (decide (m = n)) :=
  ⟨by simp [aggB, hu], fun G u v w d h1 h2 => by
    cases h1; cases h2
    have := run_equalIn_string (P := P) w d ft (ByteArray.mk m.toArray) (ByteArray.mk n.toArray) hu
    rw [str_toList, str_toList] at this
    rw [show Vk.str m = Value.string (ByteArray.mk m.toArray) from rfl, show Vk.str n = Value.string (ByteArray.mk n.toArray) from rfl, this]
    by_cases h : m = n <;> simp [h]⟩
def FEqs (P : Program) : List Field → Nat → List Ty → List Ty → List Bool → Prop
  | [], _, [], [], [] => True
  | f :: fs, j, T :: ts, U :: us, b :: bs => (f.name ≠ "_" ∧ f.offset = j) ∧ FEq P f.type T U b ∧ FEqs P fs (j + 1) ts us bs
  | _, _, _, _, _ => False
theorem FEqs.nil {j : Nat} : FEqs P [] j [] [] [] := trivial
theorem FEqs.cons {f : Field} {fs : List Field} {j : Nat} {T U : Ty} {ts us : List Ty} {b : Bool} {bs : List Bool} (h1 : (f.name == "_") = false) (h2 : f.offset = j) (h : FEq P f.type T U b) (k : FEqs P fs (j + 1) ts us bs) : FEqs P (f :: fs) j (T :: ts) (U :: us) (b :: bs) := ⟨⟨fun e => by rw [e] at h1; simp at h1, h2⟩, h, k⟩
def allB : List Bool → Bool
  | [] => true
  | [b] => b
  | b :: bs => b && allB bs
theorem allB_cons (b : Bool) (bs : List Bool) : allB (b :: bs) = (b && allB bs) := by cases bs <;> simp [allB]
theorem FEqs.run {G : Imm} {w : World} {d : Nat} {xs ys : Array Value} : ∀ (fs : List Field) (j : Nat) (ts us : List Ty) (bs : List Bool), FEqs P fs j ts us bs →
    (∀ (i : Nat) (T : Ty), ts[i]? = some T → ∃ u, xs[j + i]? = some u ∧ T.p G u) → (∀ (i : Nat) (T : Ty), us[i]? = some T → ∃ u, ys[j + i]? = some u ∧ T.p G u) → (Op.eqFields (d + 1) xs ys fs).run P w = .ok (allB bs) w
  | [], _, [], [], [], _, _, _ => by simp [Op.eqFields, allB]
  | f :: fs, j, T :: ts, U :: us, b :: bs, ⟨⟨h1, h2⟩, h, k⟩, hx, hy => by
    obtain ⟨u, hu, hTu⟩ := hx 0 T rfl
    obtain ⟨v, hv, hUv⟩ := hy 0 U rfl
    have ih := FEqs.run (w := w) (d := d) fs (j + 1) ts us bs k (fun i T' e => by
      obtain ⟨u', a, b⟩ := hx (i + 1) T' (by simpa using e)
      exact ⟨u', by rw [show j + 1 + i = j + (i + 1) from by omega]; exact a, b⟩) (fun i T' e => by
      obtain ⟨u', a, b⟩ := hy (i + 1) T' (by simpa using e)
      exact ⟨u', by rw [show j + 1 + i = j + (i + 1) from by omega]; exact a, b⟩)
    simp only [Nat.add_zero] at hu hv
    subst h2
    rw [allB_cons]
    simp only [Op.eqFields, if_pos h1, Sem.run_bind, run_partAt w h.ag hu, run_partAt w h.ag hv, Result.andThen_ok, h.eq G u v w d hTu hUv]
    cases b
    · simp
    · simp [ih]
theorem run_eqAgg {t : TypeId} {fs : List Field} {ts us : List Ty} {bs : List Bool} {G : Imm} {w : World} {xs ys : List Value} (hu : P.underlying t = some (.struct (P.fieldsOf t))) (hp : P.stoodInHeld t = false) (hfs : (P.fieldsOf t).toList = fs) (h : FEqs P fs 0 ts us bs)
    (hx : (TAgg ts).p G (.agg xs.toArray)) (hy : (TAgg us).p G (.agg ys.toArray)) : (Op.equalIn 10000 t (.agg xs.toArray) (.agg ys.toArray)).run P w = .ok (allB bs) w := by
  have hc : ∀ (ts : List Ty) (xs : List Value), (TAgg ts).p G (.agg xs.toArray) → ∀ (i : Nat) (T : Ty), ts[i]? = some T → ∃ u, xs.toArray[0 + i]? = some u ∧ T.p G u := by
    rintro ts xs ⟨vs, e, hl, hv⟩ i T hi
    have hilt := (List.getElem?_eq_some_iff.1 hi).1
    have : xs = vs := by simpa using e
    subst this
    obtain ⟨u, hu⟩ : ∃ u, xs[i]? = some u := ⟨_, List.getElem?_eq_getElem (by omega)⟩
    exact ⟨u, by simpa using hu, (hv i T u hi hu).1⟩
  rw [show (10000 : Nat) = 9998 + 1 + 1 from rfl, run_equalIn_struct w (9998 + 1) t _ _ hu hp, hfs]
  exact FEqs.run fs 0 ts us bs h (hc ts xs hx) (hc us ys hy)
theorem op_eqAgg {x y : Operand} {ts us : List Ty} {bs : List Bool} {t yt : TypeId} {fs : List Field} (hx : Opd E x = some (TAgg ts)) (hy : Opd E y = some (TAgg us)) (hu : P.underlying t = some (.struct (P.fieldsOf t))) (hp : P.stoodInHeld t = false) (hm : P.eqGuardType P.depth t = false) (hfs : (P.fieldsOf t).toList = fs) (h : FEqs P fs 0 ts us bs) :
    OpP P L E ⟨dst, .binOp .eql t x y yt, ty, pos, after, gd⟩ (Is (.bool (allB bs))) :=
  OpP.same fun a w G S _ _ ho => by
    have h1 := ho x (by simp [Op.operands]) _ hx
    have h2 := ho y (by simp [Op.operands]) _ hy
    obtain ⟨xs, e1, _⟩ := id h1
    obtain ⟨ys, e2, _⟩ := id h2
    rw [e1] at h1
    rw [e2] at h2
    refine ⟨.bool (allB bs), ?_, rfl⟩
    have hr := run_eqAgg (w := w) hu hp hfs h h1 h2
    simp only [execOp, e1, e2, Sem.run_bind, run_eqGuard_agg w .eql t x y _ _ hm, Result.andThen_ok, run_eql_struct, hr, Sem.run_pure]
theorem op_neAgg {x y : Operand} {ts us : List Ty} {bs : List Bool} {t yt : TypeId} {fs : List Field} (hx : Opd E x = some (TAgg ts)) (hy : Opd E y = some (TAgg us)) (hu : P.underlying t = some (.struct (P.fieldsOf t))) (hp : P.stoodInHeld t = false) (hm : P.eqGuardType P.depth t = false) (hfs : (P.fieldsOf t).toList = fs) (h : FEqs P fs 0 ts us bs) :
    OpP P L E ⟨dst, .binOp .neq t x y yt, ty, pos, after, gd⟩ (Is (.bool (!allB bs))) :=
  OpP.same fun a w G S _ _ ho => by
    have h1 := ho x (by simp [Op.operands]) _ hx
    have h2 := ho y (by simp [Op.operands]) _ hy
    obtain ⟨xs, e1, _⟩ := id h1
    obtain ⟨ys, e2, _⟩ := id h2
    rw [e1] at h1
    rw [e2] at h2
    refine ⟨.bool (!allB bs), ?_, rfl⟩
    have hr := run_eqAgg (w := w) hu hp hfs h h1 h2
    simp only [execOp, e1, e2, Sem.run_bind, run_eqGuard_agg w .neq t x y _ _ hm, Result.andThen_ok, run_neq_struct, hr, Sem.run_pure]

/-! ### functions as values -/
def FnP (f : FuncId) (Cs : List Ty) (G : Imm) (v : Value) : Prop := ∃ vs : List Value, v = .func (.func f) #[] vs.toArray ∧ ArgsT G Cs vs
theorem ArgsT.mono {G G' : Imm} (h : Imm.le G G') : ∀ {A : List Ty} {vs : List Value}, ArgsT G A vs → ArgsT G' A vs
  | [], [], _ => trivial
  | T :: A, v :: vs, ⟨h1, h2⟩ => ⟨T.mono h h1, ArgsT.mono h h2⟩
  | [], _ :: _, h' => h'.elim
  | _ :: _, [], h' => h'.elim
theorem ArgsT.append {G : Imm} : ∀ {A B : List Ty} {vs us : List Value}, ArgsT G A vs → ArgsT G B us → ArgsT G (A ++ B) (vs ++ us)
  | [], _, [], _, _, h => h
  | _ :: _, _, _ :: _, _, ⟨h1, h2⟩, h => ⟨h1, ArgsT.append h2 h⟩
  | [], _, _ :: _, _, h', _ => h'.elim
  | _ :: _, _, [], _, h', _ => h'.elim
/-- A function's value: which function, and what it has captured. -/
def TFn (f : FuncId) (Cs : List Ty) : Ty := ⟨FnP f Cs, fun h ⟨vs, e, k⟩ => ⟨vs, e, k.mono h⟩⟩
theorem Sub.fn (f : FuncId) : Sub (Is (.func (.func f) #[] #[])) (TFn f []) := fun G v h => by cases h; exact ⟨[], rfl, trivial⟩
theorem CellsOf.fn (f : FuncId) (Cs : List Ty) : CellsOf (TFn f Cs) [TFn f Cs] := .one fun G v ⟨vs, e, _⟩ => by subst e; exact ⟨rfl, rfl⟩
theorem One.fn (f : FuncId) (Cs : List Ty) : One (TFn f Cs) := fun _ _ ⟨_, e, _⟩ => by rw [e]; rfl
theorem op_makeFunc {f : FuncId} {xs : List Operand} {Cs : List Ty} (hx : Opds E xs Cs) : OpP P L E ⟨dst, .makeFunc (.func f) #[] xs.toArray, ty, pos, after, gd⟩ (TFn f Cs) :=
  OpP.same fun a w G S _ _ ho => by
    have h := Opds.args (G := G) (a := a) xs Cs hx (fun x hx' => ho x (by simp [Op.operands, hx']))
    exact ⟨.func (.func f) #[] (xs.map a.eval).toArray, by simp [execOp, Instr.makeFunc], _, rfl, h⟩
theorem exCallV {f : FuncId} {A Cs : List Ty} {T : Ty} {t : Tmp} {xs : List Operand} {tys : Array TypeId} {c : Prop} {K : Ty → Prop} (ht : E.get t = some (TFn f Cs)) (hx : Opds E xs A) (hf : c → CFn P f (A ++ Cs) T) (k : K T) :
    ∃ T, (c → OpP P L E ⟨dst, .call { callee := .value (.tmp t), args := xs.toArray, argTypes := tys }, ty, pos, after, gd⟩ T) ∧ K T := by
  refine ⟨T, fun hc => ?_, k⟩
  intro a w G S hs ho htt K Q k
  have hf := hf hc
  obtain ⟨vs, e, hvs⟩ := htt (.tmp t) (by simp [Op.operands, Call.operands]) _ ht
  have hargs := Opds.args (G := G) (a := a) xs A hx (fun x hx' => htt x (by simp [Op.operands, Call.operands, hx']))
  have hrun : (execOp a.eval (⟨dst, .call { callee := .value (.tmp t), args := xs.toArray, argTypes := tys }, ty, pos, after, gd⟩ : Oper)).run P w = .ok (.enter f ((xs.map a.eval) ++ vs).toArray) w := by
    simp [execOp, resolve, Deferred.ofValue, e, invoke, hf.enter]
  simp only [Oper.wp, hrun, Oper.upon_enter]
  refine (hf.calls _ w G _ hs (Owns.none G w) (hargs.append hvs)).mono ?_
  rintro e w' ⟨v, G', S', rfl, hext, -, -, hT⟩
  exact k v w' G' ⟨hext.sat, hext.le, hext.os, hext.tape, hext.output, hext.size, fun b hb _ => hext.blk b hb (fun ⟨_, h⟩ => h)⟩ hT

/-! ### least and greatest -/
theorem op_min {x y : Operand} {k : IntKind} {m n : Int} {tys : Array TypeId} (hx : Opd E x = some (okI k m)) (hy : Opd E y = some (okI k n)) : OpP P L E ⟨dst, .call { callee := .builtin .min, args := #[x, y], argTypes := tys }, ty, pos, after, gd⟩ (okI k (if n < m then n else m)) :=
  OpP.same fun a w G S _ _ ho => by
    have h1 : a.eval x = .int k m := ho x (by simp [Op.operands, Call.operands]) _ hx
    have h2 : a.eval y = .int k n := ho y (by simp [Op.operands, Call.operands]) _ hy
    exact ⟨_, by simp [execOp, resolve, invoke, builtin, Builtin.min_, Builtin.min2, h1, h2], rfl⟩
theorem op_max {x y : Operand} {k : IntKind} {m n : Int} {tys : Array TypeId} (hx : Opd E x = some (okI k m)) (hy : Opd E y = some (okI k n)) : OpP P L E ⟨dst, .call { callee := .builtin .max, args := #[x, y], argTypes := tys }, ty, pos, after, gd⟩ (okI k (if m < n then n else m)) :=
  OpP.same fun a w G S _ _ ho => by
    have h1 : a.eval x = .int k m := ho x (by simp [Op.operands, Call.operands]) _ hx
    have h2 : a.eval y = .int k n := ho y (by simp [Op.operands, Call.operands]) _ hy
    exact ⟨_, by simp [execOp, resolve, invoke, builtin, Builtin.max_, Builtin.max2, h1, h2], rfl⟩
end
end Go.Vk
