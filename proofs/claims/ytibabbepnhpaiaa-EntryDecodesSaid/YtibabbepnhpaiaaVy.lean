/-
  Calls that are handed what is one's own, and returns that hand it back. Nothing here speaks of a program; no conditions.
-/
import Derived.Test.YtibabbepnhpaiaaVw
set_option linter.unusedVariables false
namespace Go.Vk

/-! ### weaker resources -/
def RSub (R R' : Res) : Prop := ∀ S G w, R.p S G w → R'.p S G w
theorem RSub.refl (R : Res) : RSub R R := fun _ _ _ h => h
def LSub : List Res → List Res → Prop
  | [], [] => True
  | R :: A, R' :: B => RSub R R' ∧ LSub A B
  | _, _ => False
theorem LSub.nil : LSub [] [] := trivial
theorem LSub.cons {R R' : Res} {A B : List Res} (h : RSub R R') (k : LSub A B) : LSub (R :: A) (R' :: B) := ⟨h, k⟩
theorem LSub.refl : ∀ L, LSub L L
  | [] => trivial
  | R :: L => ⟨RSub.refl R, LSub.refl L⟩
theorem LSub.get : ∀ {A B : List Res}, LSub A B → A.length = B.length ∧ ∀ (i : Nat) (R' : Res), B[i]? = some R' → ∃ R, A[i]? = some R ∧ RSub R R'
  | [], [], _ => ⟨rfl, fun i R h => by simp at h⟩
  | R :: A, R' :: B, ⟨h, k⟩ => by
    obtain ⟨h1, h2⟩ := LSub.get k
    refine ⟨by simp [h1], fun i R'' hi => ?_⟩
    cases i with
    | zero => simp at hi; subst hi; exact ⟨R, rfl, h⟩
    | succ i => simpa using h2 i R'' (by simpa using hi)
  | [], _ :: _, h => h.elim
  | _ :: _, [], h => h.elim
theorem Owns.sub {S : Nat → Nat → Prop} {A B : List Res} {G : Imm} {w : World} (h : Owns S A G w) (k : LSub A B) : Owns S B G w := by
  obtain ⟨h1, h2⟩ := LSub.get k
  refine ⟨h.bound, h.disj, fun i b hb => by rw [← h1]; exact h.inL i b hb, fun i R' hi => ?_⟩
  obtain ⟨R, h3, h4⟩ := h2 i R' hi
  exact h4 _ _ _ (h.res i R h3)
def TsSub : List Ty → List Ty → Prop
  | [], [] => True
  | T :: A, U :: B => Sub T U ∧ TsSub A B
  | _, _ => False
theorem TsSub.nil : TsSub [] [] := trivial
theorem TsSub.cons {T U : Ty} {A B : List Ty} (h : Sub T U) (k : TsSub A B) : TsSub (T :: A) (U :: B) := ⟨h, k⟩
theorem TsSub.get : ∀ {A B : List Ty}, TsSub A B → A.length = B.length ∧ ∀ (i : Nat) (U : Ty), B[i]? = some U → ∃ T, A[i]? = some T ∧ Sub T U
  | [], [], _ => ⟨rfl, fun i R h => by simp at h⟩
  | R :: A, R' :: B, ⟨h, k⟩ => by
    obtain ⟨h1, h2⟩ := TsSub.get k
    refine ⟨by simp [h1], fun i R'' hi => ?_⟩
    cases i with
    | zero => simp at hi; subst hi; exact ⟨R, rfl, h⟩
    | succ i => simpa using h2 i R'' (by simpa using hi)
  | [], _ :: _, h => h.elim
  | _ :: _, [], h => h.elim
theorem RSub.own {g : Nat} {e : TypeId} {A B : List Ty} (h : TsSub A B) : RSub (ownP g e A) (ownP g e B) := by
  rintro S G w ⟨h1, ⟨cs, h2, h3, h4⟩, h5⟩
  obtain ⟨k1, k2⟩ := TsSub.get h
  refine ⟨h1, ⟨cs, h2, by omega, fun j U hj => ?_⟩, h5⟩
  obtain ⟨T, e1, e2⟩ := k2 j U hj
  obtain ⟨u, a, b, c⟩ := h4 j T e1
  exact ⟨u, a, e2 _ _ b, c⟩

/-! ### some of the resources -/
/-- The resources at some places, each as it is wanted. -/
def PickL (L : List Res) : List Nat → List Res → Prop
  | [], [] => True
  | i :: is, R' :: B => (∃ R, L[i]? = some R ∧ RSub R R') ∧ PickL L is B
  | _, _ => False
theorem PickL.nil {L : List Res} : PickL L [] [] := trivial
theorem PickL.cons {L : List Res} {is : List Nat} {B : List Res} (i : Nat) {R R' : Res} (h : L[i]? = some R) (hs : RSub R R') (k : PickL L is B) : PickL L (i :: is) (R' :: B) := ⟨⟨R, h, hs⟩, k⟩
theorem PickL.at {L : List Res} : ∀ {is : List Nat} {B : List Res}, PickL L is B → is.length = B.length ∧ ∀ (k : Nat) (R' : Res), B[k]? = some R' → ∃ i R, is[k]? = some i ∧ L[i]? = some R ∧ RSub R R'
  | [], [], _ => ⟨rfl, fun i R h => by simp at h⟩
  | i :: is, R' :: B, ⟨⟨R, h, hs⟩, k⟩ => by
    obtain ⟨h1, h2⟩ := PickL.at k
    refine ⟨by simp [h1], fun j R'' hj => ?_⟩
    cases j with
    | zero => simp at hj; subst hj; exact ⟨i, R, rfl, h, hs⟩
    | succ j => simpa using h2 j R'' (by simpa using hj)
  | [], _ :: _, h => h.elim
  | _ :: _, [], h => h.elim
def distinct : List Nat → Bool
  | [] => true
  | i :: is => !(is.any (Nat.beq i)) && distinct is
theorem distinct.inj : ∀ {is : List Nat}, distinct is = true → ∀ (j k i : Nat), is[j]? = some i → is[k]? = some i → j = k
  | [], _, j, k, i, h, _ => by simp at h
  | a :: is, h, j, k, i, hj, hk => by
    simp only [distinct, Bool.and_eq_true, Bool.not_eq_true', List.any_eq_false] at h
    have hno : ∀ x ∈ is, a ≠ x := fun x hx e => h.1 x hx (by rw [e]; simp)
    cases j with
    | zero =>
      cases k with
      | zero => rfl
      | succ k => simp at hj hk; subst hj; exact absurd rfl (hno _ (List.mem_of_getElem? hk))
    | succ j =>
      cases k with
      | zero => simp at hj hk; subst hk; exact absurd rfl (hno _ (List.mem_of_getElem? hj))
      | succ k => rw [distinct.inj h.2 j k i (by simpa using hj) (by simpa using hk)]
theorem Owns.pick {S : Nat → Nat → Prop} {L B : List Res} {is : List Nat} {G : Imm} {w : World} (h : Owns S L G w) (hd : distinct is = true) (hp : PickL L is B) : Owns (fun k b => ∃ i : Nat, is[k]? = some i ∧ S i b) B G w := by
  obtain ⟨h1, h2⟩ := PickL.at hp
  refine ⟨fun k b ⟨i, _, hb⟩ => h.bound i b hb, ?_, ?_, ?_⟩
  · rintro j k b ⟨i, hi, hb⟩ ⟨i', hi', hb'⟩
    have := h.disj _ _ b hb hb'
    subst this
    exact distinct.inj hd j k i hi hi'
  · rintro k b ⟨i, hi, _⟩
    have := (List.getElem?_eq_some_iff.1 hi).1
    omega
  · intro k R' hk
    obtain ⟨i, R, h3, h4, h5⟩ := h2 k R' hk
    refine h5 _ _ _ (R.loc (h.res i R h4) (Imm.le.refl G) (fun b _ => ⟨rfl, fun _ => rfl⟩) |> fun hr => ?_)
    have : (fun b => ∃ i, is[k]? = some i ∧ S i b) = S i := by
      funext b
      apply propext
      constructor
      · rintro ⟨i', hi', hb⟩
        rw [h3] at hi'; cases hi'; exact hb
      · intro hb; exact ⟨i, h3, hb⟩
    rw [this]; exact hr

/-- Out of the resources at some places one resource is made. -/
def Pk (L : List Res) (js : List Nat) (R' : Res) : Prop := distinct js = true → ∀ S G w, Owns S L G w → R'.p (fun b => ∃ i, i ∈ js ∧ S i b) G w
def PickX (L : List Res) : List (List Nat) → List Res → Prop
  | [], [] => True
  | js :: iss, R' :: B => Pk L js R' ∧ PickX L iss B
  | _, _ => False
theorem one_place {S : Nat → Nat → Prop} (i : Nat) : (fun b => ∃ j, j ∈ [i] ∧ S j b) = S i := by
  funext b; apply propext
  constructor
  · rintro ⟨j, hj, h⟩; simp at hj; subst hj; exact h
  · intro h; exact ⟨i, by simp, h⟩
theorem PickX.nil {L : List Res} : PickX L [] [] := trivial
theorem PickX.own {L : List Res} {iss : List (List Nat)} {B : List Res} {g : Nat} {e : TypeId} {ts ts' : List Ty} (i : Nat) (h : L[i]? = some (ownP g e ts)) (hs : TsSub ts ts') (k : PickX L iss B) : PickX L ([i] :: iss) (ownP g e ts' :: B) :=
  ⟨fun _ S G w ho => by rw [one_place]; exact RSub.own hs _ _ _ (ho.res i _ h), k⟩
theorem PickX.any {L : List Res} {iss : List (List Nat)} {B : List Res} {R : Res} (i : Nat) (h : L[i]? = some R) (k : PickX L iss B) : PickX L ([i] :: iss) (R :: B) :=
  ⟨fun _ S G w ho => by rw [one_place]; exact ho.res i _ h, k⟩
theorem PickX.sl {L : List Res} {iss : List (List Nat)} {B : List Res} {v : Value} {sz : Nat} {e : TypeId} (i : Nat) (h : L[i]? = some (ownSl v sz e)) (k : PickX L iss B) : PickX L ([i] :: iss) (ownSl v sz e :: B) := .any i h k
theorem PickX.nilS {L : List Res} {iss : List (List Nat)} {B : List Res} {sz : Nat} {e : TypeId} (k : PickX L iss B) : PickX L ([] :: iss) (ownSl (.slice Option.none 0 0) sz e :: B) :=
  ⟨fun _ S G w ho => .inl ⟨rfl, fun b ⟨j, hj, _⟩ => by simp at hj⟩, k⟩
theorem distinct.append_left : ∀ {a b : List Nat}, distinct (a ++ b) = true → distinct a = true
  | [], _, _ => rfl
  | x :: a, b, h => by
    simp only [List.cons_append, distinct, Bool.and_eq_true, Bool.not_eq_true', List.any_append, Bool.or_eq_false_iff] at h ⊢
    exact ⟨h.1.1, distinct.append_left h.2⟩
theorem distinct.append_right : ∀ {a b : List Nat}, distinct (a ++ b) = true → distinct b = true
  | [], _, h => h
  | x :: a, b, h => by
    simp only [List.cons_append, distinct, Bool.and_eq_true] at h
    exact distinct.append_right h.2
theorem distinct.apart : ∀ {a b : List Nat}, distinct (a ++ b) = true → ∀ i, i ∈ a → i ∉ b
  | [], _, _, i, h => by simp at h
  | x :: a, b, h, i, hi => by
    simp only [List.cons_append, distinct, Bool.and_eq_true, Bool.not_eq_true', List.any_append, Bool.or_eq_false_iff, List.any_eq_false] at h
    rcases List.mem_cons.1 hi with e | e
    · intro hb; subst e; exact h.1.2 i hb (by simp)
    · exact distinct.apart h.2 i e
theorem PickX.len {L : List Res} : ∀ {iss : List (List Nat)} {B : List Res}, PickX L iss B → iss.length = B.length
  | [], [], _ => rfl
  | _ :: iss, _ :: B, ⟨_, k⟩ => by simp [PickX.len k]
  | [], _ :: _, h => h.elim
  | _ :: _, [], h => h.elim
theorem PickX.at {L : List Res} : ∀ {iss : List (List Nat)} {B : List Res}, PickX L iss B → ∀ (k : Nat) (R' : Res), B[k]? = some R' → ∃ js, iss[k]? = some js ∧ Pk L js R'
  | [], [], _, k, R', h => by simp at h
  | js :: iss, R :: B, ⟨h, hk⟩, k, R', e => by
    cases k with
    | zero => simp at e; subst e; exact ⟨js, rfl, h⟩
    | succ k => simpa using PickX.at hk k R' (by simpa using e)
  | [], _ :: _, h, _, _, _ => h.elim
  | _ :: _, [], h, _, _, _ => h.elim
theorem distinct.flat : ∀ {iss : List (List Nat)}, distinct iss.flatten = true → (∀ (k : Nat) js, iss[k]? = some js → distinct js = true) ∧ ∀ (j k : Nat) js ks i, iss[j]? = some js → iss[k]? = some ks → i ∈ js → i ∈ ks → j = k
  | [], _ => ⟨fun k js h => by simp at h, fun j k js ks i h => by simp at h⟩
  | a :: iss, h => by
    rw [List.flatten_cons] at h
    obtain ⟨h1, h2⟩ := distinct.flat (distinct.append_right h)
    have hmem : ∀ (k : Nat) ks i, iss[k]? = some ks → i ∈ ks → i ∈ iss.flatten := fun k ks i hk hi => List.mem_flatten.2 ⟨ks, List.mem_of_getElem? hk, hi⟩
    refine ⟨fun k js hk => ?_, fun j k js ks i hj hk hi hi' => ?_⟩
    · cases k with
      | zero => simp at hk; subst hk; exact distinct.append_left h
      | succ k => exact h1 k js (by simpa using hk)
    · cases j with
      | zero =>
        cases k with
        | zero => rfl
        | succ k => simp at hj; subst hj; exact absurd (hmem k ks i (by simpa using hk) hi') (distinct.apart h i hi)
      | succ j =>
        cases k with
        | zero => simp at hk; subst hk; exact absurd (hmem j js i (by simpa using hj) hi) (distinct.apart h i hi')
        | succ k => rw [h2 j k js ks i (by simpa using hj) (by simpa using hk) hi hi']
theorem Owns.pickX {S : Nat → Nat → Prop} {L B : List Res} {iss : List (List Nat)} {G : Imm} {w : World} (h : Owns S L G w) (hd : distinct iss.flatten = true) (hp : PickX L iss B) : Owns (fun k b => ∃ js, iss[k]? = some js ∧ ∃ i, i ∈ js ∧ S i b) B G w := by
  obtain ⟨hd1, hd2⟩ := distinct.flat hd
  refine ⟨fun k b ⟨_, _, i, _, hb⟩ => h.bound i b hb, ?_, ?_, ?_⟩
  · rintro j k b ⟨js, hj, i, hi, hb⟩ ⟨ks, hk, i', hi', hb'⟩
    have := h.disj _ _ b hb hb'
    subst this
    exact hd2 j k js ks i hj hk hi hi'
  · rintro k b ⟨js, hk, _⟩
    have := (List.getElem?_eq_some_iff.1 hk).1
    have := hp.len
    omega
  · intro k R' hk
    obtain ⟨js, h1, h2⟩ := hp.at k R' hk
    have : (fun b => ∃ js, iss[k]? = some js ∧ ∃ i, i ∈ js ∧ S i b) = (fun b => ∃ i, i ∈ js ∧ S i b) := by
      funext b; apply propext
      constructor
      · rintro ⟨js', hj, hb⟩; rw [h1] at hj; cases hj; exact hb
      · intro hb; exact ⟨js, h1, hb⟩
    rw [this]
    exact h2 (hd1 k js h1) S G w h

/-- Several resources as one; what they are in particular is hidden. -/
def packR {σ : Type} (Rs : σ → List Res) : Res where
  p S G w := ∃ (s : σ) (Sc : Nat → Nat → Prop), (∀ b, S b ↔ ∃ i, Sc i b) ∧ (∀ i j b, Sc i b → Sc j b → i = j) ∧ (∀ i b, Sc i b → i < (Rs s).length) ∧ ∀ (i : Nat) (r : Res), (Rs s)[i]? = some r → r.p (Sc i) G w
  loc := by
    rintro S G w G' w' ⟨s, Sc, h1, h2, h3, h4⟩ hle hb
    exact ⟨s, Sc, h1, h2, h3, fun i r hr => r.loc (h4 i r hr) hle (fun b hs => hb b ((h1 b).2 ⟨i, hs⟩))⟩
theorem PickX.pack {σ : Type} {Rs : σ → List Res} {L : List Res} {iss' iss : List (List Nat)} {B : List Res} {s : σ} (hp : PickX L iss' (Rs s)) (k : PickX L iss B) : PickX L (iss'.flatten :: iss) (packR Rs :: B) :=
  ⟨fun hd S G w ho => by
    have h := ho.pickX hd hp
    refine ⟨s, _, fun b => ?_, h.disj, h.inL, h.res⟩
    constructor
    · rintro ⟨i, hi, hb⟩
      obtain ⟨js, hj, hij⟩ := List.mem_flatten.1 hi
      obtain ⟨k, hk, e⟩ := List.getElem_of_mem hj
      exact ⟨k, js, by rw [List.getElem?_eq_getElem hk, e], i, hij, hb⟩
    · rintro ⟨k, js, hk, i, hi, hb⟩
      exact ⟨i, List.mem_flatten.2 ⟨js, List.mem_of_getElem? hk, hi⟩, hb⟩, k⟩
theorem Owns.unpack {σ : Type} {Rs : σ → List Res} {S : Nat → Nat → Prop} {L : List Res} {i : Nat} {G : Imm} {w : World} (h : Owns S L G w) (hL : L[i]? = some (packR Rs)) : ∃ s S', Owns S' (L.set i empR ++ Rs s) G w ∧ ∀ k b, S' k b → ∃ j, S j b := by
  obtain ⟨s, Sc, h1, h2, h3, h4⟩ := h.res i _ hL
  refine ⟨s, fun j b => if j < L.length then (j ≠ i ∧ S j b) else Sc (j - L.length) b, ⟨?_, ?_, ?_, ?_⟩, ?_⟩
  · intro j b hb
    split at hb
    · exact h.bound j b hb.2
    · exact h.bound i b ((h1 b).2 ⟨_, hb⟩)
  · intro j k b hb hb'
    split at hb <;> split at hb'
    · exact h.disj _ _ b hb.2 hb'.2
    · exact absurd (h.disj _ _ b hb.2 ((h1 b).2 ⟨_, hb'⟩)) hb.1
    · exact absurd (h.disj _ _ b hb'.2 ((h1 b).2 ⟨_, hb⟩)) hb'.1
    · have := h2 _ _ b hb hb'; omega
  · intro j b hb
    split at hb
    · simp; omega
    · have := h3 _ b hb; simp; omega
  · intro j r hr
    by_cases hj : j < L.length
    · rw [List.getElem?_append_left (by simpa using hj), List.getElem?_set] at hr
      by_cases hij : i = j
      · subst hij
        rw [if_pos rfl, if_pos hj] at hr
        cases hr
        trivial
      · rw [if_neg hij] at hr
        have : (fun b => if j < L.length then (j ≠ i ∧ S j b) else Sc (j - L.length) b) = S j := by
          funext b; rw [if_pos hj]; exact propext ⟨fun x => x.2, fun x => ⟨fun e => hij e.symm, x⟩⟩
        rw [this]; exact h.res j r hr
    · rw [List.getElem?_append_right (by simp; omega)] at hr
      simp only [List.length_set] at hr
      have : (fun b => if j < L.length then (j ≠ i ∧ S j b) else Sc (j - L.length) b) = Sc (j - L.length) := by
        funext b; rw [if_neg hj]
      rw [this]; exact h4 _ r hr
  · intro k b hb
    split at hb
    · exact ⟨k, hb.2⟩
    · exact ⟨i, (h1 b).2 ⟨_, hb⟩⟩

/-- The resources behind a call: those that were handed on as it hands them back, and new ones. -/
def updL : List Res → List Nat → List Res → List Res
  | L, i :: is, R :: Rs => updL (L.set i R) is Rs
  | L, [], Rs => L ++ Rs
  | L, _ :: _, [] => L
theorem updL.length : ∀ (is : List Nat) (L Rs : List Res), is.length ≤ Rs.length → (updL L is Rs).length = L.length + (Rs.length - is.length)
  | [], L, Rs, _ => by simp [updL]
  | i :: is, L, [], h => by simp at h
  | i :: is, L, R :: Rs, h => by
    rw [updL, updL.length is (L.set i R) Rs (by simpa using h)]
    simp
theorem updL.get : ∀ (is : List Nat) (L Rs : List Res), is.length ≤ Rs.length → distinct is = true → (∀ i ∈ is, i < L.length) → ∀ (j : Nat) (R : Res), (updL L is Rs)[j]? = some R →
    (∃ k : Nat, is[k]? = some j ∧ Rs[k]? = some R) ∨ (j ∉ is ∧ j < L.length ∧ L[j]? = some R) ∨ (L.length ≤ j ∧ Rs[is.length + (j - L.length)]? = some R)
  | [], L, Rs, _, _, _, j, R, h => by
    rw [updL, List.getElem?_append] at h
    split at h
    · rename_i hlt; exact .inr (.inl ⟨by simp, hlt, h⟩)
    · rename_i hlt; exact .inr (.inr ⟨by omega, by simpa using h⟩)
  | i :: is, L, [], h, _, _, _, _, _ => by simp at h
  | i :: is, L, R0 :: Rs, h, hd, hlt, j, R, hj => by
    rw [updL] at hj
    have hd' : distinct is = true := by simp only [distinct, Bool.and_eq_true] at hd; exact hd.2
    have hni : i ∉ is := by
      simp only [distinct, Bool.and_eq_true, Bool.not_eq_true', List.any_eq_false] at hd
      intro hm
      exact hd.1 i hm (by simp)
    have hil : i < L.length := hlt i (by simp)
    rcases updL.get is (L.set i R0) Rs (by simpa using h) hd' (fun k hk => by simpa using hlt k (by simp [hk])) j R hj with ⟨k, h1, h2⟩ | ⟨h1, h2, h3⟩ | ⟨h1, h2⟩
    · exact .inl ⟨k + 1, by simpa using h1, by simpa using h2⟩
    · rw [List.getElem?_set] at h3
      by_cases hij : i = j
      · subst hij
        rw [if_pos rfl, if_pos hil] at h3
        exact .inl ⟨0, rfl, h3⟩
      · rw [if_neg hij] at h3
        refine .inr (.inl ⟨?_, by simpa using h2, h3⟩)
        intro hm
        rcases List.mem_cons.1 hm with e | e
        · exact hij e.symm
        · exact h1 e
    · refine .inr (.inr ⟨by simpa using h1, ?_⟩)
      simp only [List.length_set] at h2
      rw [← h2, show (i :: is).length + (j - L.length) = (is.length + (j - L.length)) + 1 from by simp; omega]
      simp
theorem Owns.upd {S Sc : Nat → Nat → Prop} {L B : List Res} {is : List Nat} {G G' : Imm} {w w' : World} (h : Owns S L G w) (hd : distinct is = true) (hp : PickL L is B) {Z : Nat → Prop} (hz : ∀ b, Z b → ∃ (k i : Nat), is[k]? = some i ∧ S i b) (k : Ext Z G w G' w') {Rs : List Res} (hRs : is.length ≤ Rs.length)
    (hc : Owns Sc Rs G' w') (hcs : ∀ i b, Sc i b → w.heap.size ≤ b ∨ ∃ (k i : Nat), is[k]? = some i ∧ S i b) :
    ∃ S', Owns S' (updL L is Rs) G' w' ∧ ∀ i b, S' i b → w.heap.size ≤ b ∨ ∃ j, S j b := by
  obtain ⟨hp1, hp2⟩ := PickL.at hp
  have hmem : ∀ i ∈ is, i < L.length := by
    intro i hi
    obtain ⟨k, hk, e⟩ := List.getElem_of_mem hi
    obtain ⟨i', R, h3, h4, _⟩ := hp2 k (B[k]'(by omega)) (List.getElem?_eq_getElem (by omega))
    rw [List.getElem?_eq_getElem hk, e] at h3
    cases h3
    exact (List.getElem?_eq_some_iff.1 h4).1
  -- who holds what: a place that was handed on, one that was not, a new one
  let S' : Nat → Nat → Prop := fun j b => (∃ k, is[k]? = some j ∧ Sc k b) ∨ (j ∉ is ∧ j < L.length ∧ S j b) ∨ (L.length ≤ j ∧ Sc (is.length + (j - L.length)) b)
  have hnew : ∀ i b, Sc i b → ∀ j, j ∉ is → ¬ S j b := by
    intro i b hb j hj hs
    rcases hcs i b hb with h1 | ⟨k, i', hk, hb'⟩
    · have := h.bound j b hs; omega
    · have := h.disj _ _ b hs hb'
      subst this
      exact hj (List.mem_of_getElem? hk)
  refine ⟨S', ⟨?_, ?_, ?_, ?_⟩, ?_⟩
  · rintro j b (⟨k, _, hb⟩ | ⟨_, _, hb⟩ | ⟨_, hb⟩)
    · exact hc.bound _ b hb
    · exact Nat.lt_of_lt_of_le (h.bound j b hb) k.size
    · exact hc.bound _ b hb
  · rintro j j' b (⟨k1, hk1, hb⟩ | ⟨hn, hl, hb⟩ | ⟨hl, hb⟩) (⟨k2, hk2, hb'⟩ | ⟨hn', hl', hb'⟩ | ⟨hl', hb'⟩)
    · have := hc.disj _ _ b hb hb'
      subst this
      rw [hk1] at hk2; cases hk2; rfl
    · exact absurd hb' (hnew _ b hb j' hn')
    · have h1 := hc.disj _ _ b hb hb'
      have := (List.getElem?_eq_some_iff.1 hk1).1
      omega
    · exact absurd hb (hnew _ b hb' j hn)
    · exact h.disj _ _ b hb hb'
    · exact absurd hb (hnew _ b hb' j hn)
    · have h1 := hc.disj _ _ b hb hb'
      have := (List.getElem?_eq_some_iff.1 hk2).1
      omega
    · exact absurd hb' (hnew _ b hb j' hn')
    · have := hc.disj _ _ b hb hb'
      omega
  · rintro j b (⟨k1, hk1, hb⟩ | ⟨hn, hl, hb⟩ | ⟨hl, hb⟩)
    · rw [updL.length _ _ _ hRs]
      have := hmem j (List.mem_of_getElem? hk1)
      omega
    · rw [updL.length _ _ _ hRs]; omega
    · rw [updL.length _ _ _ hRs]
      have := hc.inL _ b hb
      omega
  · intro j R hj
    rcases updL.get is L Rs hRs hd hmem j R hj with ⟨k1, h1, h2⟩ | ⟨h1, h2, h3⟩ | ⟨h1, h2⟩
    · have hr := hc.res k1 R h2
      have : S' j = Sc k1 := by
        funext b
        apply propext
        constructor
        · rintro (⟨k2, hk2, hb⟩ | ⟨hn, _, _⟩ | ⟨hl, _⟩)
          · rw [distinct.inj hd k1 k2 j h1 hk2]; exact hb
          · exact absurd (List.mem_of_getElem? h1) hn
          · have := hmem j (List.mem_of_getElem? h1); omega
        · intro hb; exact .inl ⟨k1, h1, hb⟩
      rw [this]; exact hr
    · have hr := R.loc (h.res j R h3) k.le (fun b hb => k.blk b (h.bound j b hb) (fun hzb => by
        obtain ⟨k1, i, hi, hb'⟩ := hz b hzb
        have := h.disj _ _ b hb hb'
        subst this
        exact h1 (List.mem_of_getElem? hi)))
      have : S' j = S j := by
        funext b
        apply propext
        constructor
        · rintro (⟨k2, hk2, hb⟩ | ⟨_, _, hb⟩ | ⟨hl, _⟩)
          · exact absurd (List.mem_of_getElem? hk2) h1
          · exact hb
          · omega
        · intro hb; exact .inr (.inl ⟨h1, h2, hb⟩)
      rw [this]; exact hr
    · have hr := hc.res _ R h2
      have : S' j = Sc (is.length + (j - L.length)) := by
        funext b
        apply propext
        constructor
        · rintro (⟨k2, hk2, hb⟩ | ⟨_, hl, _⟩ | ⟨_, hb⟩)
          · have := hmem j (List.mem_of_getElem? hk2); omega
          · omega
          · exact hb
        · intro hb; exact .inr (.inr ⟨h1, hb⟩)
      rw [this]; exact hr
  · rintro j b (⟨k1, hk1, hb⟩ | ⟨hn, hl, hb⟩ | ⟨hl, hb⟩)
    · rcases hcs _ b hb with h1 | ⟨k2, i, _, h1⟩
      · exact .inl h1
      · exact .inr ⟨i, h1⟩
    · exact .inr ⟨j, hb⟩
    · rcases hcs _ b hb with h1 | ⟨k2, i, _, h1⟩
      · exact .inl h1
      · exact .inr ⟨i, h1⟩

section
variable {P : Program} {L : List Res} {E : Env} {dst : Option Tmp} {ty : TypeId} {pos : String} {after : Array Edge} {gd : Option (Nat × Bool)}
theorem op_callR {f : FuncId} {A : List Ty} {Li : List Res} {T : Value → Ty} {Lo : Value → List Res} {xs : List Operand} {tys : Array TypeId} {is : List Nat} (hf : CallsC P f A Li T Lo) (hx : OpdsS E xs A) (hp : PickL L is Li) (hd : distinct is = true) (hl : ∀ v, is.length ≤ (Lo v).length) :
    OpC P L E ⟨dst, .call { callee := .value (.func f), args := xs.toArray, argTypes := tys }, ty, pos, after, gd⟩ T (fun v => updL L is (Lo v)) := by
  intro a w G S hs ho ht K Q k
  simp only [Oper.wp, run_call_func w hf.enter, Oper.upon_enter]
  refine (hf.calls _ w G _ hs (ho.pick hd hp) (OpdsS.args xs A hx (fun x hx' => ht x (by simp [Op.operands, Call.operands, hx'])))).mono ?_
  rintro e w' ⟨v, G', Sc, rfl, hext, hc, hcs, hT⟩
  obtain ⟨S', h1, h2⟩ := ho.upd hd hp (Z := fun b => ∃ i, ∃ i', is[i]? = some i' ∧ S i' b) (fun b ⟨k, i, h⟩ => ⟨k, i, h⟩) hext (hl v) hc (fun i b hb => (hcs i b hb).imp id (fun ⟨k, i, h⟩ => ⟨k, i, h⟩))
  exact k v w' G' S' ⟨hext.sat, hext.le, hext.os, hext.tape, hext.output, hext.size, fun b hb hz => hext.blk b hb (fun ⟨k, i, _, h⟩ => hz ⟨i, h⟩)⟩ h1 h2 hT
end
end Go.Vk
